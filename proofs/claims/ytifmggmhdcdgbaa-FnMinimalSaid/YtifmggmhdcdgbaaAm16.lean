/- Am16: results of calls come in; calls. No condition. -/
import Derived.Test.YtifmggmhdcdgbaaAm15
set_option linter.unusedVariables false
namespace Go.Am
section
variable {B:Nat} {E:Ex} {w0 w w':World} {G G':Gh} {h h':Nat->Option aq} {used used':Nat->Bool} {tk:List PC} {N:Nat}
variable {P:Program} {o:Oper} {a:Act} {σ σ':St} {Q:Exit->Act->World->Prop}
theorem HR.aeL (H:HR B E w G h used []) {n sz cap:Nat} {x:Option Addr} {xs:List (List PC)} {m:Mode} (hg:Good w (.list sz x cap xs)) (hs:Sep (.list sz x cap xs)) (ht:BV w (.list sz x cap xs))
  (hl:∀b,iL b (.list sz x cap xs)->nS G h b/\dk w b/\B<=b) (hn:used n=false):
  ∃G',HR B E w G' (au h n (some (.row true m sz (xs.map fun e=>e.map PC.er)))) (au used n true) []/\
   aT w G h (fun n=>used n=true) w G' (au h n (some (.row true m sz (xs.map fun e=>e.map PC.er))))/\
   RC w G' (au h n (some (.row true m sz (xs.map fun e=>e.map PC.er)))) (.sl n sz 0 xs.length) (PC.val (.list sz x cap xs))/\
   ∀b,nS G h b->¬iL b (.list sz x cap xs)->nS G' (au h n (some (.row true m sz (xs.map fun e=>e.map PC.er)))) b:=by
 obtain⟨eu,jL,zZ⟩:=ht
 have hF:∀b,aP b xs->aM b (.list sz x cap xs):=fun b ⟨k,j,c,h1,h2⟩=>.there _ _ _ _ k j c h1 h2
 have jO:gS xs:=by cases hs with|list _ _ _ _ h1 h2 h3=>exact⟨h1,h3⟩
 let S:Nat->Prop:=fun b=>m≠ .live/\aP b xs
 have H1:HR B E w ⟨fun b=>G.Im b\/S b,G.g⟩ h used []:=H.pA S (fun b hb=>(hl b (.inl (hF b hb.2))).2.1.lt)
  (fun b hb q hq jo he=>(hl b (.inl (hF b hb.2))).1.2.1 q hq jo he.symm) (fun b hb q gr sz xs hq=>(hl b (.inl (hF b hb.2))).1.2.2 q gr _ sz xs hq) (fun b hb=>.inl (hl b (.inl (hF b hb.2))).2.2)
 obtain⟨p,adA,fj,CV,Mg,adB,ady⟩:∃p:PB,(p.nl=true->xs=[]/\(true=true->p.cap=0))/\p.px=xs/\
   (p.nl=false->nS ⟨fun b=>G.Im b\/S b,G.g⟩ h p.b/\dk w p.b/\B<=p.b/\∀b,aP b xs->b≠p.b)/\
   (p.nl=false->nT w p.b p.o sz xs/\xs.length<=p.cap/\E0 w p sz)/\jg p sz 0 xs.length (PC.val (.list sz x cap xs))/\(p.nl=false->iL p.b (.list sz x cap xs)):=by
  by_cases LA:cap=0
  ·subst LA
   have hx:xs=[]:=List.eq_nil_of_length_eq_zero (by omega)
   subst hx
   exact⟨⟨true,0,0,0,[],x⟩,fun _=>⟨rfl,fun _=>rfl⟩,rfl,(fun hf=>by cases hf),(fun hf=>by cases hf),.inl ⟨rfl,rfl,rfl,rfl⟩,(fun hf=>by cases hf)⟩
  ·obtain⟨b,o,cur,e,rfl,hh,bE,rU,cf⟩:=zZ.resolve_left LA
   have hT:iL b (.list sz (some (ad b o)) cap xs):=.inr ⟨_,_,_,_,rfl,LA⟩
   obtain⟨l1,l2,l3⟩:=hl b hT
   have aw:∀b',aP b' xs->b'≠b:=fun b' ⟨k,j,c,h1,h2⟩ he=>cf k j c h1 (he▸h2)
   refine⟨⟨false,b,o,cap,xs,none⟩,(fun hf=>by cases hf),rfl,fun _=>⟨⟨fun hi=>hi.elim l1.1 (fun hS=>aw b hS.2 rfl),l1.2⟩,l2,l3,aw⟩,fun _=>⟨?_,jL,rU,cur,e,hh,bE⟩,.inr ⟨rfl,some (ad b o),by simp[PC.val],by simpa using jL,fun _=>by simp⟩,fun _=>hT⟩
   cases hg with
   |nil _ _ _ _=>exact⟨by simp,by rintro k j c ⟨e,he,_⟩;simp at he,by rintro k j c ⟨e,he,_⟩;simp at he⟩
   |cons _ _ _ _ _ h1 h2 h3 h4 h5 h6=>exact⟨h4,h5,h6⟩
 subst fj
 have fZ:sU B E w ⟨fun b=>G.Im b\/S b,G.g⟩ true m sz (p.px.map fun e=>e.map PC.er) p:=by
  refine⟨eu,rfl,adA,fun hf=>⟨(CV hf).2.1,(Mg hf).1,(Mg hf).2.1⟩,fun hf _=>(Mg hf).2.2,?_⟩
  cases hm:m with
  |aA=>exact fun b hb=>.inr ⟨by simp[hm],hb⟩
  |ae=>exact⟨fun b hb=>⟨.inr ⟨by simp[hm],hb⟩,(hl b (.inl (hF b hb))).2.1,.inl (hl b (.inl (hF b hb))).2.2⟩,jO⟩
  |live=>exact⟨fun b hb=>⟨fun hi=>hi.elim (hl b (.inl (hF b hb))).1.1 (fun hS=>hS.1 hm),(hl b (.inl (hF b hb))).2.1,.inl (hl b (.inl (hF b hb))).2.2⟩,jO⟩
 have Hn:=H1.insert (w':=w) (n:=n) (blk:=.row true m sz (p.px.map fun e=>e.map PC.er)) (p:=p) hn (fun _ _=>rfl) (Nat.le_refl _)
  (fun hf=>⟨(CV hf).1,.inl (CV hf).2.2.1,(CV hf).2.1.lt⟩) (fun cs c q hb=>by cases hb) (by exact fZ)
  (fun gr m' aG ar hb hm n' bh mR j5 gR h0 iC b cq=>(hl b (.inl (hF b cq))).1.2.2 n' bh mR j5 gR h0)
  (fun gr aG ar hb b cq=>⟨fun hf=>(CV hf).2.2.2 b cq,fun n' h0 kq he=>(hl b (.inl (hF b cq))).1.2.1 n' h0 kq he.symm⟩)
  (fun gr m' aG ar hb hm i pc b hi=>by simp at hi)
 refine⟨_,Hn,aT.trans (u2:=fun n=>used n=true) (fun _ h=>h) (aT.pA S _) (aT.insert H1 hn (fun _ _=>rfl)),fun _=>by simpa[bC] using adB,fun b hb Lt=>?_⟩
 refine⟨fun hi=>hi.elim hb.1 (fun hS=>Lt (.inl (hF b hS.2))),fun q hq jo he=>?_,fun q gr mo aG ar hq cq=>?_⟩
 ·by_cases eG:q=n
  ·subst eG
   simp only[bC] at jo he
   exact Lt (he▸ady jo)
  ·rw[cb _ _ _ _ eG] at hq
   simp only[cb _ _ _ _ eG] at jo he
   exact hb.2.1 q hq jo he
 ·by_cases eG:q=n
  ·subst eG
   simp only[bC] at cq
   exact Lt (.inl (hF b cq))
  ·rw[cb _ _ _ _ eG] at hq
   simp only[cb _ _ _ _ eG] at cq
   exact hb.2.2 q gr mo aG ar hq cq
structure sS (B:Nat) (w:World) (G:Gh) (h:Nat->Option aq) (ps:List PC):Prop where
 ek:∀pc∈ps,Good w pc/\Sep pc/\BV w pc
 lone:∀pc∈ps,∀b,iL b pc->nS G h b/\dk w b/\B<=b
 mz:ps.Pairwise fun p q=>∀b,iL b p->¬iL b q
theorem sS.tail {p:PC} {ps:List PC} (hi:sS B w G h (p::ps)) (hL:∀b,nS G h b->¬iL b p->nS G' h' b):sS B w G' h' ps:=
 ⟨fun q hq=>hi.ek q (by simp[hq]),fun q hq b hb=>⟨hL b (hi.lone q (by simp[hq]) b hb).1 (fun hp=>(List.pairwise_cons.1 hi.mz).1 q hq b hp hb),(hi.lone q (by simp[hq]) b hb).2⟩,(List.pairwise_cons.1 hi.mz).2⟩
theorem HR.imp {m:Mode}:∀{ps qs:List PC} {σ σ1:St} {G:Gh} {nm eQ:Nat} {l:List ai},HR B E w G σ.h σ.used []->σ.imp m nm (ps.map PC.er)=some (l,eQ,σ1)->sS B w G σ.h (ps++qs)->
  ∃G',HR B E w G' σ1.h σ1.used []/\aT w G σ.h (fun n=>σ.used n=true) w G' σ1.h/\cA w G' σ1.h l (ps.map PC.val)/\(∀c∈l,∀q,c.ref q->σ1.used q=true)/\σ1.env=σ.env/\
   (∀q,σ.used q=true->σ1.used q=true)/\sS B w G' σ1.h qs
 |[],qs,σ,σ1,G,nm,eQ,l,H,hx,hi=>by
  simp only[List.map_nil,St.imp] at hx
  injection hx with hx
  injection hx with h1 h2
  injection h2 with h2 h3
  subst h1 h3
  exact⟨G,H,aT.refl _ _ _ _,⟨rfl,by simp⟩,by simp,rfl,fun _ h=>h,by simpa using hi⟩
 |p::ps,qs,σ,σ2,G,nm,eQ,l,H,hx,hi=>by
  have dT:∀(x:C) (hx:(match σ.imp m nm (ps.map PC.er) with|some (l,eQ,σ2)=>some (ai.c x::l,eQ,σ2)|none=>none)=some (l,eQ,σ2)) (hp:p.er=x) (cf:∀b,¬iL b p) (hg:Good w p),
    ∃G',HR B E w G' σ2.h σ2.used []/\aT w G σ.h (fun n=>σ.used n=true) w G' σ2.h/\cA w G' σ2.h l ((p::ps).map PC.val)/\(∀c∈l,∀q,c.ref q->σ2.used q=true)/\σ2.env=σ.env/\
     (∀q,σ.used q=true->σ2.used q=true)/\sS B w G' σ2.h qs:=by
   intro x hx hp cf hg
   split at hx
   ·rename_i l' Dx gj e1
    injection hx with hx
    injection hx with h1 h2
    injection h2 with h2 h3
    subst h1 h2 h3
    obtain⟨G',b1,b2,b3,b4,b5,b6,b7⟩:=HR.imp H e1 (hi.tail (fun b hb _=>hb))
    refine⟨G',b1,b2,⟨by simp[b3.1],fun j c u hj hu=>?_⟩,fun c hc q hq=>?_,b5,b6,b7⟩
    ·cases j with
     |zero=>
      simp at hj hu;subst hj;subst hu
      exact⟨PC.j8 p,p,hp,rfl,hg,fun b hb=>absurd (.inl hb) (cf b)⟩
     |succ j=>exact b3.2 j c u (by simpa using hj) (by simpa using hu)
    ·cases hc with
     |head=>exact absurd hq id
     |tail _ hc=>exact b4 c hc q hq
   ·cases hx
  cases p with
  |int k n=>exact dT (.int k n) (by simp only[List.map_cons,St.imp,PC.er] at hx;exact hx) (by simp[PC.er]) (fun b hb=>by rcases hb with hb|⟨_,_,_,_,hb,_⟩<;>cases hb) (.int _ _)
  |bool b=>exact dT (.bool b) (by simp only[List.map_cons,St.imp,PC.er] at hx;exact hx) (by simp[PC.er]) (fun b hb=>by rcases hb with hb|⟨_,_,_,_,hb,_⟩<;>cases hb) (.bool _)
  |list sz x cap xs=>
   simp only[List.map_cons,PC.dr,St.imp] at hx
   split at hx
   ·rename_i σ1 e1
    split at hx
    ·rename_i l' Dx gj e2
     injection hx with hx
     injection hx with h1 h2
     injection h2 with h2 h3
     subst h1 h2 h3
     obtain⟨hn,rfl⟩:=lW e1
     obtain⟨g1,g2,g3⟩:=hi.ek (.list sz x cap xs) (by simp)
     obtain⟨G1,a1,a2,a3,a4⟩:=H.aeL (m:=m) g1 g2 g3 (hi.lone (.list sz x cap xs) (by simp)) hn
     obtain⟨G',b1,b2,b3,b4,b5,b6,b7⟩:=HR.imp a1 e2 (hi.tail a4)
     have z5:∀q,σ.used q=true->au σ.used nm true q=true:=fun q hq=>qc _ _ hq
     refine⟨G',b1,aT.trans z5 a2 b2,⟨by simp[b3.1],fun j c u hj hu=>?_⟩,fun c hc q hq=>?_,b5,fun q hq=>b6 q (z5 q hq),b7⟩
     ·cases j with
      |zero=>
       simp at hj hu;subst hj;subst hu
       exact⟨rfl,a3.eI b2 fun q hq=>by have dM:q=nm:=hq;subst dM;exact bC _ _ _⟩
      |succ j=>exact b3.2 j c u (by simpa using hj) (by simpa using hu)
     ·cases hc with
      |head=>have dM:q=nm:=hq;subst dM;exact b6 _ (bC _ _ _)
      |tail _ hc=>exact b4 c hc q hq
    ·cases hx
   ·cases hx
theorem HR.iT {m:Mode}:∀{aO:List (K×List PC)} {σ σ1:St} {G:Gh} {nm:Nat} {ls:List (Bool×List ai)},HR B E w G σ.h σ.used []->σ.iT m nm (aO.map fun p=>(p.1,p.2.map PC.er))=some (ls,σ1)->
  (∀p∈aO,p.1≠ .ptr/\(p.1=.one->p.2.length=1))->sS B w G σ.h (aO.flatMap (·.2))->
  ∃G',HR B E w G' σ1.h σ1.used []/\aT w G σ.h (fun n=>σ.used n=true) w G' σ1.h/\ls.length=aO.length/\
   (∀(j:Nat) (x:Bool×List ai) (p:K×List PC),ls[j]? =some x->aO[j]? =some p->RV w G' σ1.h x.1 x.2 (pR p))/\(∀x∈ls,∀c∈x.2,∀q,c.ref q->σ1.used q=true)/\σ1.env=σ.env/\
   (∀q,σ.used q=true->σ1.used q=true)
 |[],σ,σ1,G,nm,ls,H,hx,hk,hi=>by
  simp only[List.map_nil,St.iT] at hx
  injection hx with hx
  injection hx with h1 h2
  subst h1 h2
  exact⟨G,H,aT.refl _ _ _ _,rfl,by simp,by simp,rfl,fun _ h=>h⟩
 |(k,ps)::aO,σ,σ2,G,nm,ls,H,hx,hk,hi=>by
  have zM:=hk (k,ps) (by simp)
  have eT:(match σ.imp m nm (ps.map PC.er) with
   |some (l,eQ,σ1)=>match σ1.iT m eQ (aO.map fun p=>(p.1,p.2.map PC.er)) with
    |some (ls,σ2)=>some ((decide (k=.agg),l)::ls,σ2)
    |none=>none
   |none=>none)=some (ls,σ2):=by
   cases k with
   |ptr=>exact absurd rfl zM.1
   |one=>simp[St.iT] at hx;exact hx
   |agg=>simp[St.iT] at hx;exact hx
  clear hx
  split at eT
  ·rename_i l eQ σ1 e1
   split at eT
   ·rename_i yd gj e2
    injection eT with hx
    injection hx with h1 h2
    subst h1 h2
    obtain⟨G1,a1,a2,a3,a4,a5,a6,a7⟩:=HR.imp H e1 (by simpa using hi)
    obtain⟨G',b1,b2,b3,b4,b5,b6,b7⟩:=HR.iT a1 e2 (fun p hp=>hk p (by simp[hp])) a7
    refine⟨G',b1,aT.trans a6 a2 b2,by simp[b3],fun j x p hj hp=>?_,fun x hx c hc q hq=>?_,b6.trans a5,fun q hq=>b7 q (a6 q hq)⟩
    ·cases j with
     |zero=>
      simp at hj hp;subst hj;subst hp
      have bP:=cA.eI b2 (fun c hc q hq=>a4 c hc q hq) a3
      cases k with
      |ptr=>exact absurd rfl zM.1
      |agg=>exact⟨ps.map PC.val,rfl,bP⟩
      |one=>
       have h1:=zM.2 rfl
       match ps,h1 with
       |[p],_=>exact bP
     |succ j=>exact b4 j x p (by simpa using hj) (by simpa using hp)
    ·cases hx with
     |head=>exact b7 q (a4 c hc q hq)
     |tail _ hx=>exact b5 x hx c hc q hq
   ·cases eT
  ·cases eT
theorem RA.lC {ls:List (Bool×List ai)} {aO:List (K×List PC)} (hlen:ls.length=aO.length) (hk:∀p∈aO,p.1≠ .ptr/\(p.1=.one->p.2.length=1))
  (hv:∀(j:Nat) (x:Bool×List ai) (p:K×List PC),ls[j]? =some x->aO[j]? =some p->RV w G h x.1 x.2 (pR p)):RA w G h (lC ls) (vZ aO):=by
 match ls,aO,hlen with
 |[],[],_=>exact⟨[],rfl,rfl,by simp⟩
 |[(ag,cs)],[p],_=>
  have h0:=hv 0 (ag,cs) p rfl rfl
  cases ag with
  |true=>exact h0
  |false=>
   have bP:cA w G h cs [pR p]:=h0
   match cs,bP.1 with
   |[c],_=>exact .inr h0
 |x::y::ls,p::q::aO,hl=>
  refine⟨(p::q::aO).map pR,rfl,by simpa using hl.symm,fun j x' u hj hu=>?_⟩
  rw[List.getElem?_map] at hu
  cases hp:(p::q::aO)[j]? with
  |none=>rw[hp] at hu;cases hu
  |some p'=>rw[hp] at hu;simp at hu;subst hu;exact hv j x' p' hj hp
def wP (P:Program) (T:bg):Prop:=∀f M,bg.find T.pure f=some M->ff P f M
def cg (P:Program) (f:FuncId):Bool:=
 match P.funcs[f]? with
 |some fn=>fn.body.isSome&&(fn.name != "runtime.NumGoroutine")
 |none=>false
theorem Be {f:FuncId} (hc:cg P f=true) (args:Array Value):(callFunc f args).run P w=.ok (.enter f args) w:=by
 unfold cg at hc
 split at hc
 ·rename_i fn hf
  simp only[Bool.and_eq_true,bne_iff_ne,ne_eq] at hc
  obtain⟨h1,h2⟩:=hc
  cases hb:fn.body with
  |none=>rw[hb] at h1;cases h1
  |some c=>simp[callFunc,hf,h2,hb]
 ·cases hc
theorem Fr.call (F:Fr B E w0 w) (F':Fr w.heap.size Ex.no w w'):Fr B E w0 w':=
 F.grow (fun b hb=>F'.block b hb id) F'.size F'.os F'.tape F'.output
theorem Uk (r:R B E w0 N σ a w G) {T:bg} (hT:wP P T) {m:Mode} {f:FuncId} {as:List ak} {vals:List Value} {σ1:St} (hN:∀n,o.dst=some n->n<N)
  (bK:(execOp a.eval o).run P w=.ok (.enter f vals.toArray) w) (hl:vals.length=as.length)
  (xq:∀(j:Nat) (x:ak) (v:Value),as[j]? =some x->vals[j]? =some v->RA w G σ.h x v)
  (hx:qm T m o.dst f as σ=some σ1):o.wp P a w (Nx B E w0 N σ1) Q:=by
 unfold qm at hx
 split at hx
 ·rename_i ds mE
  split at hx
  ·rename_i M hM
   split at hx
   ·rename_i rs qH
    split at hx
    ·rename_i ls σ2 u6
     injection hx with hx
     subst hx
     have qA:=r.hr.j9 mE hl xq
     unfold Oper.wp
     rw[bK]
     refine(hT f M hM ds rs qH w vals qA).mono fun e w' ⟨aO,p1,p2,p3,p4,p5⟩=>?_
     subst p2
     have gB:∀b,b<w.heap.size->w'.heap[b]? =w.heap[b]? :=fun b hb=>p5.block b hb id
     have H':=r.hr.grow gB p5.size
     have eo:sS B w' G σ.h (aO.flatMap (·.2)):=by
      refine⟨p4.ek,fun pc aV b hb=>?_,?_⟩
      ·obtain⟨n1,n2⟩:=p4.new pc aV b hb
       refine⟨⟨fun hi=>?_,fun q hq jo he=>?_,fun q gr mo sz xs hq cq=>?_⟩,n2,Nat.le_trans r.fr.size n1⟩
       ·have:=r.hr.fx b hi;omega
       ·have:=(r.hr.own q hq jo).2.2;omega
       ·have:=r.hr.pT hq cq;omega
      ·rw[List.pairwise_iff_getElem]
       intro i j hi hj jN b hb
       exact p4.mz i j _ _ b (by omega) (List.getElem?_eq_getElem hi) (List.getElem?_eq_getElem hj) hb
     rw[<-p1] at u6
     obtain⟨G',b1,b2,b3,b4,b5,b6,b7⟩:=HR.iT H' u6 p3 eo
     have K:aT w G σ.h (fun n=>σ.used n=true) w' G' σ2.h:=aT.trans (fun _ h=>h) (aT.world (fun b hb=>gB b (r.hr.fx b hb)) _) b2
     have r2:R B E w0 N σ2 a w' G':=r.step b6 b7 K b1 (r.fr.call p5)
     refine⟨G',r2.put (RA.lC b3 p3 b4) ?_ hN⟩
     intro q hq
     match ls,hq with
     |[],hq=>obtain⟨x,hx,_⟩:=hq;simp at hx
     |[(true,cs)],hq=>obtain⟨c,hc,hq⟩:=hq;exact b5 (true,cs) (by simp) c hc q hq
     |[(false,[c])],hq=>exact b5 (false,[c]) (by simp) c (by simp) q hq
     |[(false,[])],hq=>exact absurd hq id
     |[(false,_::_::_)],hq=>exact absurd hq id
     |x::y::ls,hq=>obtain⟨x',eT,c,hc,hq⟩:=hq;exact b5 x' eT c hc q hq
    ·cases hx
   ·cases hx
  ·cases hx
 ·cases hx
theorem Ku:∀{aO:List (K×List PC)} {ls:List (Bool×List ai)},gz (aO.map fun p=>(p.1,p.2.map PC.er))=some ls->ls=aO.map fun p=>(decide (p.1=.agg),p.2.map fun pc=>ai.c pc.er)
 |[],ls,h=>by simp only[List.map_nil,gz] at h;injection h with h;exact h.symm
 |(k,ps)::aO,ls,h=>by
  cases k with
  |ptr=>simp[gz] at h
  |one=>
   simp only[List.map_cons,gz] at h
   split at h
   ·rename_i yd e
    injection h with h
    rw[<-h,Ku e,List.map_map]
    rfl
   ·cases h
  |agg=>
   simp only[List.map_cons,gz] at h
   split at h
   ·rename_i yd e
    injection h with h
    rw[<-h,Ku e,List.map_map]
    rfl
   ·cases h
theorem YF {ls:List (Bool×List ai)} {q:Nat} (cf:∀x∈ls,∀c∈x.2,¬c.ref q):¬(lC ls).ref q:=by
 intro hq
 match ls,hq with
 |[],hq=>obtain⟨x,hx,_⟩:=hq;simp at hx
 |[(true,cs)],hq=>obtain⟨c,hc,hq⟩:=hq;exact cf (true,cs) (by simp) c hc hq
 |[(false,[c])],hq=>exact cf (false,[c]) (by simp) c (by simp) hq
 |[(false,[])],hq=>exact hq
 |[(false,_::_::_)],hq=>exact hq
 |x::y::ls,hq=>obtain⟨x',eT,c,hc,hq⟩:=hq;exact cf x' eT c hc hq
theorem abC (r:R B E w0 N σ a w G) {T:bg} (hT:wP P T) {f:FuncId} {as:List ak} {vals:List Value} {z:ak} (hN:∀n,o.dst=some n->n<N)
  (bK:(execOp a.eval o).run P w=.ok (.enter f vals.toArray) w) (hl:vals.length=as.length)
  (xq:∀(j:Nat) (x:ak) (v:Value),as[j]? =some x->vals[j]? =some v->RA w G σ.h x v)
  (hx:s6 T f as σ.h=some z):o.wp P a w (Nx B E w0 N (σ.put o.dst z)) Q:=by
 unfold s6 at hx
 split at hx
 ·rename_i ds mE
  split at hx
  ·rename_i M hM
   split at hx
   ·rename_i rs qH
    split at hx
    ·rename_i ls u6
     injection hx with hx
     subst hx
     have qA:=r.hr.j9 mE hl xq
     unfold Oper.wp
     rw[bK]
     refine(hT f M hM ds rs qH w vals qA).mono fun e w' ⟨aO,p1,p2,p3,p4,p5⟩=>?_
     subst p2
     have gB:∀b,b<w.heap.size->w'.heap[b]? =w.heap[b]? :=fun b hb=>p5.block b hb id
     have H':=r.hr.grow gB p5.size
     rw[<-p1] at u6
     have zO:=Ku u6
     subst zO
     let S:Nat->Prop:=fun b=>∃pc∈aO.flatMap (·.2),aM b pc
     have hS:∀b,S b->w.heap.size<=b/\b<w'.heap.size:=fun b ⟨pc,aV,hb⟩=>by
      obtain⟨n1,n2⟩:=p4.new pc aV b (.inl hb)
      exact⟨n1,n2.lt⟩
     have H2:HR B E w' ⟨fun b=>G.Im b\/S b,G.g⟩ σ.h σ.used []:=H'.pA S (fun b hb=>(hS b hb).2) (fun b hb n hn hl he=>by have:=(hS b hb).1;have:=(r.hr.own n hn hl).2.2;omega)
      (fun b hb n gr sz xs hn hF=>by have:=(hS b hb).1;have:=r.hr.pT hn hF;omega) (fun b hb=>.inl (Nat.le_trans r.fr.size (hS b hb).1))
     have K:aT w G σ.h (fun n=>σ.used n=true) w' ⟨fun b=>G.Im b\/S b,G.g⟩ σ.h:=aT.trans (fun _ h=>h) (aT.world (fun b hb=>gB b (r.hr.fx b hb)) _) (aT.pA S _)
     have r2:R B E w0 N σ a w' ⟨fun b=>G.Im b\/S b,G.g⟩:=r.step rfl (fun _ h=>h) K H2 (r.fr.call p5)
     have bP:∀p∈aO,cA w' ⟨fun b=>G.Im b\/S b,G.g⟩ σ.h (p.2.map fun pc=>ai.c pc.er) (p.2.map PC.val):=fun p hp=>by
      refine⟨by simp,fun j c u hj hu=>?_⟩
      rw[List.getElem?_map] at hj hu
      cases lO:p.2[j]? with
      |none=>rw[lO] at hj;cases hj
      |some pc=>
       rw[lO] at hj hu
       simp at hj hu
       subst hj hu
       have hm:pc∈aO.flatMap (·.2):=List.mem_flatMap.2 ⟨p,hp,List.mem_of_getElem? lO⟩
       exact⟨PC.j8 pc,pc,rfl,rfl,(p4.ek pc hm).1,fun b hb=>.inr ⟨pc,hm,hb⟩⟩
     refine⟨_,r2.put (RA.lC (by simp) p3 (fun j x p hj hp=>?_)) (fun q hq=>?_) hN⟩
     ·rw[List.getElem?_map,hp] at hj
      simp at hj
      subst hj
      have h1:=bP p (List.mem_of_getElem? hp)
      obtain⟨k,ps⟩:=p
      have zM:=p3 (k,ps) (List.mem_of_getElem? hp)
      cases k with
      |ptr=>exact absurd rfl zM.1
      |agg=>exact⟨ps.map PC.val,rfl,h1⟩
      |one=>
       have h2:=zM.2 rfl
       match ps,h2 with
       |[p],_=>exact h1
     ·exfalso
      have cf:∀x∈aO.map (fun p=>(decide (p.1=Am.K.agg),p.2.map fun pc=>ai.c pc.er)),∀c∈x.2,¬c.ref q:=fun x hx c hc hq=>by
       obtain⟨p,_,rfl⟩:=List.mem_map.1 hx
       obtain⟨pc,_,rfl⟩:=List.mem_map.1 hc
       exact hq
      exact YF cf hq
    ·cases hx
   ·cases hx
  ·cases hx
 ·cases hx
def gW:List Operand->List MO->Bool
 |[],[]=>true
 |x::xs,m::ms=>bw x m&&gW xs ms
 |_,_=>false
theorem R.zy (r:R B E w0 N σ a w G):∀{xs:List Operand} {ms:List MO},gW xs ms=true->xs.length=ms.length/\
  ∀(j:Nat) (x:ak) (v:Value),(ms.map σ.ev)[j]? =some x->(xs.map a.eval)[j]? =some v->RA w G σ.h x v
 |[],[],_=>⟨rfl,by simp⟩
 |x::xs,m::ms,hc=>by
  simp only[gW,Bool.and_eq_true] at hc
  obtain⟨i1,i2⟩:=r.zy hc.2
  refine⟨by simp[i1],fun j x' v hj hv=>?_⟩
  cases j with
  |zero=>simp at hj hv;subst hj;subst hv;exact(r.ev hc.1).1
  |succ j=>exact i2 j x' v (by simpa using hj) (by simpa using hv)
 |[],_::_,hc=>by simp[gW] at hc
 |_::_,[],hc=>by simp[gW] at hc
theorem abt (r:R B E w0 N σ a w G) {T:bg} (hT:wP P T) {m:Mode} {f:FuncId} {xs:Array Operand} {ms:List MO} {ts:Array TypeId} {σ1:St} (hN:∀n,o.dst=some n->n<N)
  (ho:o.op=.call {callee:=.value (.func f),args:=xs,argTypes:=ts}) (hf:cg P f=true) (hm:gW xs.toList ms=true)
  (hx:qm T m o.dst f (ms.map σ.ev) σ=some σ1):o.wp P a w (Nx B E w0 N σ1) Q:=by
 obtain⟨e1,e2⟩:=r.zy hm
 refine Uk r hT (vals:=xs.toList.map a.eval) hN ?_ (by simpa using e1) e2 hx
 have he:(xs.toList.map a.eval).toArray=xs.map a.eval:=by apply Array.ext';simp
 rw[he]
 simp[execOp,ho,resolve,Deferred.ofValue,invoke,Act.eval,Be hf]
theorem abv (r:R B E w0 N σ a w G) {T:bg} (hT:wP P T) {f:FuncId} {xs:Array Operand} {ms:List MO} {ts:Array TypeId} {z:ak} (hN:∀n,o.dst=some n->n<N)
  (ho:o.op=.call {callee:=.value (.func f),args:=xs,argTypes:=ts}) (hf:cg P f=true) (hm:gW xs.toList ms=true)
  (hx:s6 T f (ms.map σ.ev) σ.h=some z):o.wp P a w (Nx B E w0 N (σ.put o.dst z)) Q:=by
 obtain⟨e1,e2⟩:=r.zy hm
 refine abC r hT (vals:=xs.toList.map a.eval) hN ?_ (by simpa using e1) e2 hx
 have he:(xs.toList.map a.eval).toArray=xs.map a.eval:=by apply Array.ext';simp
 rw[he]
 simp[execOp,ho,resolve,Deferred.ofValue,invoke,Act.eval,Be hf]
theorem abx (r:R B E w0 N σ a w G) {T:bg} (hT:wP P T) {m:Mode} {f:FuncId} {x:Operand} {mx:MO} {bY:List ai} {xs:Array Operand} {ms:List MO} {ts:Array TypeId} {σ1:St} (hN:∀n,o.dst=some n->n<N)
  (ho:o.op=.call {callee:=.value x,args:=xs,argTypes:=ts}) (hf:cg P f=true) (zR:bw x mx=true) (hm:gW xs.toList ms=true) (he:σ.ev mx=.one (.fn f bY))
  (hx:qm T m o.dst f (ms.map σ.ev++bY.map .one) σ=some σ1):o.wp P a w (Nx B E w0 N σ1) Q:=by
 obtain⟨e1,e2⟩:=r.zy hm
 obtain⟨x1,x2⟩:=r.ev zR
 rw[he] at x1
 obtain⟨vs,v1,v2,v3⟩:=(x1.fb (by simp)).1
 refine Uk r hT (vals:=xs.toList.map a.eval++vs) hN ?_ (by simp[e1,v2]) (fun j y v hj hv=>?_) hx
 ·have tp:(xs.toList.map a.eval++vs).toArray=xs.map a.eval++vs.toArray:=by apply Array.ext';simp
  rw[tp]
  simp[execOp,ho,resolve,v1,Deferred.ofValue,invoke,Be hf]
 ·have Gg:xs.size=ms.length:=by simpa using e1
  by_cases bL:j<ms.length
  ·rw[List.getElem?_append_left (by simpa using bL)] at hj
   rw[List.getElem?_append_left (by simp;omega)] at hv
   exact e2 j y v hj hv
  ·rw[List.getElem?_append_right (by simp;omega)] at hj
   rw[List.getElem?_append_right (by simp;omega)] at hv
   simp only[List.length_map,<-e1] at hj hv
   rw[List.getElem?_map] at hj
   simp only[e1] at hj hv
   cases hc:bY[j - ms.length]? with
   |none=>rw[hc] at hj;cases hj
   |some c=>
    rw[hc] at hj
    simp at hj
    subst hj
    obtain⟨q1,q2⟩:=v3 _ c v hc hv
    refine RA.fR q1 ?_
    by_cases CK:c.kx=false
    ·rw[wO _ _ _ _ _ CK];exact q2
    ·cases c<;>first|exact q2.elim|(simp[ai.kx] at CK)
end
end Go.Am
