/- Am16: results of calls come in; calls. No condition. -/
import Derived.Test.YtifmggmhdcdgbaaAm15
set_option linter.unusedVariables false
namespace Go.Am
section
variable {B:Nat} {E:Ex} {w0 w w':World} {G G':Gh} {h h':Nat->Option ar} {used used':Nat->Bool} {tk:List PC} {N:Nat}
variable {P:Program} {o:Oper} {a:Act} {σ σ':St} {Q:Exit->Act->World->Prop}
theorem HR.ahq (H:HR B E w G h used []) {n sz cap:Nat} {x:Option Addr} {xs:List (List PC)} {m:Mode} (hg:Good w (.list sz x cap xs)) (hs:Sep (.list sz x cap xs)) (ht:Co w (.list sz x cap xs))
  (hl:∀b,iF b (.list sz x cap xs)->n3 G h b/\da w b/\B<=b) (hn:used n=false):
  ∃G',HR B E w G' (av h n (some (.row true m sz (xs.map fun e=>e.map PC.er)))) (av used n true) []/\
   aV w G h (fun n=>used n=true) w G' (av h n (some (.row true m sz (xs.map fun e=>e.map PC.er))))/\
   RC w G' (av h n (some (.row true m sz (xs.map fun e=>e.map PC.er)))) (.sl n sz 0 xs.length) (PC.val (.list sz x cap xs))/\
   ∀b,n3 G h b->¬iF b (.list sz x cap xs)->n3 G' (av h n (some (.row true m sz (xs.map fun e=>e.map PC.er)))) b:=by
 obtain⟨d9,jA,Ao⟩:=ht
 have hF:∀b,aR b xs->aN b (.list sz x cap xs):=fun b ⟨k,j,c,h1,h2⟩=>.there _ _ _ _ k j c h1 h2
 have jE:gI xs:=by cases hs with|list _ _ _ _ h1 h2 h3=>exact⟨h1,h3⟩
 let S:Nat->Prop:=fun b=>m≠ .live/\aR b xs
 have H1:HR B E w ⟨fun b=>G.Im b\/S b,G.g⟩ h used []:=H.pI S (fun b hb=>(hl b (.inl (hF b hb.2))).2.1.lt)
  (fun b hb q hq iN he=>(hl b (.inl (hF b hb.2))).1.2.1 q hq iN he.symm) (fun b hb q gr sz xs hq=>(hl b (.inl (hF b hb.2))).1.2.2 q gr _ sz xs hq) (fun b hb=>.inl (hl b (.inl (hF b hb.2))).2.2)
 obtain⟨p,afW,e8,Dq,N6,afX,afU⟩:∃p:PB,(p.nl=true->xs=[]/\(true=true->p.cap=0))/\p.px=xs/\
   (p.nl=false->n3 ⟨fun b=>G.Im b\/S b,G.g⟩ h p.b/\da w p.b/\B<=p.b/\∀b,aR b xs->b≠p.b)/\
   (p.nl=false->n5 w p.b p.o sz xs/\xs.length<=p.cap/\FH w p sz)/\jc p sz 0 xs.length (PC.val (.list sz x cap xs))/\(p.nl=false->iF p.b (.list sz x cap xs)):=by
  by_cases Nw:cap=0
  ·subst Nw
   have hx:xs=[]:=List.eq_nil_of_length_eq_zero (by omega)
   subst hx
   exact⟨⟨true,0,0,0,[],x⟩,fun _=>⟨rfl,fun _=>rfl⟩,rfl,(fun hf=>by cases hf),(fun hf=>by cases hf),.inl ⟨rfl,rfl,rfl,rfl⟩,(fun hf=>by cases hf)⟩
  ·obtain⟨b,o,cur,e,rfl,hh,bA,yb,ca⟩:=Ao.resolve_left Nw
   have hT:iF b (.list sz (some (ad b o)) cap xs):=.inr ⟨_,_,_,_,rfl,Nw⟩
   obtain⟨l1,l2,l3⟩:=hl b hT
   have aA:∀b',aR b' xs->b'≠b:=fun b' ⟨k,j,c,h1,h2⟩ he=>ca k j c h1 (he▸h2)
   refine⟨⟨false,b,o,cap,xs,none⟩,(fun hf=>by cases hf),rfl,fun _=>⟨⟨fun hi=>hi.elim l1.1 (fun hS=>aA b hS.2 rfl),l1.2⟩,l2,l3,aA⟩,fun _=>⟨?_,jA,yb,cur,e,hh,bA⟩,.inr ⟨rfl,some (ad b o),by simp[PC.val],by simpa using jA,fun _=>by simp⟩,fun _=>hT⟩
   cases hg with
   |nil _ _ _ _=>exact⟨by simp,by rintro k j c ⟨e,he,_⟩;simp at he,by rintro k j c ⟨e,he,_⟩;simp at he⟩
   |cons _ _ _ _ _ h1 h2 h3 h4 h5 h6=>exact⟨h4,h5,h6⟩
 subst e8
 have jh:tj B E w ⟨fun b=>G.Im b\/S b,G.g⟩ true m sz (p.px.map fun e=>e.map PC.er) p:=by
  refine⟨d9,rfl,afW,fun hf=>⟨(Dq hf).2.1,(N6 hf).1,(N6 hf).2.1⟩,fun hf _=>(N6 hf).2.2,?_⟩
  cases hm:m with
  |aE=>exact fun b hb=>.inr ⟨by simp[hm],hb⟩
  |aa=>exact⟨fun b hb=>⟨.inr ⟨by simp[hm],hb⟩,(hl b (.inl (hF b hb))).2.1,.inl (hl b (.inl (hF b hb))).2.2⟩,jE⟩
  |live=>exact⟨fun b hb=>⟨fun hi=>hi.elim (hl b (.inl (hF b hb))).1.1 (fun hS=>hS.1 hm),(hl b (.inl (hF b hb))).2.1,.inl (hl b (.inl (hF b hb))).2.2⟩,jE⟩
 have Hn:=H1.insert (w':=w) (n:=n) (blk:=.row true m sz (p.px.map fun e=>e.map PC.er)) (p:=p) hn (fun _ _=>rfl) (Nat.le_refl _)
  (fun hf=>⟨(Dq hf).1,.inl (Dq hf).2.2.1,(Dq hf).2.1.lt⟩) (fun cs c q hb=>by cases hb) (by exact jh)
  (fun gr m' aK au hb hm n' bf mT jS gH h0 iu b bW=>(hl b (.inl (hF b bW))).1.2.2 n' bf mT jS gH h0)
  (fun gr aK au hb b bW=>⟨fun hf=>(Dq hf).2.2.2 b bW,fun n' h0 kb he=>(hl b (.inl (hF b bW))).1.2.1 n' h0 kb he.symm⟩)
  (fun gr m' aK au hb hm i pc b hi=>by simp at hi)
 refine⟨_,Hn,aV.trans (u2:=fun n=>used n=true) (fun _ h=>h) (aV.pI S _) (aV.insert H1 hn (fun _ _=>rfl)),fun _=>by simpa[bw] using afX,fun b hb Np=>?_⟩
 refine⟨fun hi=>hi.elim hb.1 (fun hS=>Np (.inl (hF b hS.2))),fun q hq iN he=>?_,fun q gr mo aK au hq bW=>?_⟩
 ·by_cases eS:q=n
  ·subst eS
   simp only[bw] at iN he
   exact Np (he▸afU iN)
  ·rw[bS _ _ _ _ eS] at hq
   simp only[bS _ _ _ _ eS] at iN he
   exact hb.2.1 q hq iN he
 ·by_cases eS:q=n
  ·subst eS
   simp only[bw] at bW
   exact Np (.inl (hF b bW))
  ·rw[bS _ _ _ _ eS] at hq
   simp only[bS _ _ _ _ eS] at bW
   exact hb.2.2 q gr mo aK au hq bW
structure th (B:Nat) (w:World) (G:Gh) (h:Nat->Option ar) (ps:List PC):Prop where
 dF:∀pc∈ps,Good w pc/\Sep pc/\Co w pc
 lone:∀pc∈ps,∀b,iF b pc->n3 G h b/\da w b/\B<=b
 mz:ps.Pairwise fun p q=>∀b,iF b p->¬iF b q
theorem th.tail {p:PC} {ps:List PC} (hi:th B w G h (p::ps)) (hL:∀b,n3 G h b->¬iF b p->n3 G' h' b):th B w G' h' ps:=
 ⟨fun q hq=>hi.dF q (by simp[hq]),fun q hq b hb=>⟨hL b (hi.lone q (by simp[hq]) b hb).1 (fun hp=>(List.pairwise_cons.1 hi.mz).1 q hq b hp hb),(hi.lone q (by simp[hq]) b hb).2⟩,(List.pairwise_cons.1 hi.mz).2⟩
theorem HR.imp {m:Mode}:∀{ps qs:List PC} {σ σ1:St} {G:Gh} {nm eG:Nat} {l:List ah},HR B E w G σ.h σ.used []->σ.imp m nm (ps.map PC.er)=some (l,eG,σ1)->th B w G σ.h (ps++qs)->
  ∃G',HR B E w G' σ1.h σ1.used []/\aV w G σ.h (fun n=>σ.used n=true) w G' σ1.h/\cj w G' σ1.h l (ps.map PC.val)/\(∀c∈l,∀q,c.ref q->σ1.used q=true)/\σ1.env=σ.env/\
   (∀q,σ.used q=true->σ1.used q=true)/\th B w G' σ1.h qs
 |[],qs,σ,σ1,G,nm,eG,l,H,hx,hi=>by
  simp only[List.map_nil,St.imp] at hx
  injection hx with hx
  injection hx with h1 h2
  injection h2 with h2 h3
  subst h1 h3
  exact⟨G,H,aV.refl _ _ _ _,⟨rfl,by simp⟩,by simp,rfl,fun _ h=>h,by simpa using hi⟩
 |p::ps,qs,σ,σ2,G,nm,eG,l,H,hx,hi=>by
  have dR:∀(x:C) (hx:(match σ.imp m nm (ps.map PC.er) with|some (l,eG,σ2)=>some (ah.c x::l,eG,σ2)|none=>none)=some (l,eG,σ2)) (hp:p.er=x) (ca:∀b,¬iF b p) (hg:Good w p),
    ∃G',HR B E w G' σ2.h σ2.used []/\aV w G σ.h (fun n=>σ.used n=true) w G' σ2.h/\cj w G' σ2.h l ((p::ps).map PC.val)/\(∀c∈l,∀q,c.ref q->σ2.used q=true)/\σ2.env=σ.env/\
     (∀q,σ.used q=true->σ2.used q=true)/\th B w G' σ2.h qs:=by
   intro x hx hp ca hg
   split at hx
   ·rename_i l' Eh f9 e1
    injection hx with hx
    injection hx with h1 h2
    injection h2 with h2 h3
    subst h1 h2 h3
    obtain⟨G',b1,b2,b3,b4,b5,b6,b7⟩:=HR.imp H e1 (hi.tail (fun b hb _=>hb))
    refine⟨G',b1,b2,⟨by simp[b3.1],fun j c u hj hu=>?_⟩,fun c hc q hq=>?_,b5,b6,b7⟩
    ·cases j with
     |zero=>
      simp at hj hu;subst hj;subst hu
      exact⟨PC.jU p,p,hp,rfl,hg,fun b hb=>absurd (.inl hb) (ca b)⟩
     |succ j=>exact b3.2 j c u (by simpa using hj) (by simpa using hu)
    ·cases hc with
     |head=>exact absurd hq id
     |tail _ hc=>exact b4 c hc q hq
   ·cases hx
  cases p with
  |int k n=>exact dR (.int k n) (by simp only[List.map_cons,St.imp,PC.er] at hx;exact hx) (by simp[PC.er]) (fun b hb=>by rcases hb with hb|⟨_,_,_,_,hb,_⟩<;>cases hb) (.int _ _)
  |bool b=>exact dR (.bool b) (by simp only[List.map_cons,St.imp,PC.er] at hx;exact hx) (by simp[PC.er]) (fun b hb=>by rcases hb with hb|⟨_,_,_,_,hb,_⟩<;>cases hb) (.bool _)
  |list sz x cap xs=>
   simp only[List.map_cons,PC.df,St.imp] at hx
   split at hx
   ·rename_i σ1 e1
    split at hx
    ·rename_i l' Eh f9 e2
     injection hx with hx
     injection hx with h1 h2
     injection h2 with h2 h3
     subst h1 h2 h3
     obtain⟨hn,rfl⟩:=lO e1
     obtain⟨g1,g2,g3⟩:=hi.dF (.list sz x cap xs) (by simp)
     obtain⟨G1,a1,a2,a3,a4⟩:=H.ahq (m:=m) g1 g2 g3 (hi.lone (.list sz x cap xs) (by simp)) hn
     obtain⟨G',b1,b2,b3,b4,b5,b6,b7⟩:=HR.imp a1 e2 (hi.tail a4)
     have Ap:∀q,σ.used q=true->av σ.used nm true q=true:=fun q hq=>qj _ _ hq
     refine⟨G',b1,aV.trans Ap a2 b2,⟨by simp[b3.1],fun j c u hj hu=>?_⟩,fun c hc q hq=>?_,b5,fun q hq=>b6 q (Ap q hq),b7⟩
     ·cases j with
      |zero=>
       simp at hj hu;subst hj;subst hu
       exact⟨rfl,a3.ek b2 fun q hq=>by have dH:q=nm:=hq;subst dH;exact bw _ _ _⟩
      |succ j=>exact b3.2 j c u (by simpa using hj) (by simpa using hu)
     ·cases hc with
      |head=>have dH:q=nm:=hq;subst dH;exact b6 _ (bw _ _ _)
      |tail _ hc=>exact b4 c hc q hq
    ·cases hx
   ·cases hx
theorem HR.iT {m:Mode}:∀{aO:List (K×List PC)} {σ σ1:St} {G:Gh} {nm:Nat} {ls:List (Bool×List ah)},HR B E w G σ.h σ.used []->σ.iT m nm (aO.map fun p=>(p.1,p.2.map PC.er))=some (ls,σ1)->
  (∀p∈aO,p.1≠ .ptr/\(p.1=.one->p.2.length=1))->th B w G σ.h (aO.flatMap (·.2))->
  ∃G',HR B E w G' σ1.h σ1.used []/\aV w G σ.h (fun n=>σ.used n=true) w G' σ1.h/\ls.length=aO.length/\
   (∀(j:Nat) (x:Bool×List ah) (p:K×List PC),ls[j]? =some x->aO[j]? =some p->RV w G' σ1.h x.1 x.2 (qc p))/\(∀x∈ls,∀c∈x.2,∀q,c.ref q->σ1.used q=true)/\σ1.env=σ.env/\
   (∀q,σ.used q=true->σ1.used q=true)
 |[],σ,σ1,G,nm,ls,H,hx,hk,hi=>by
  simp only[List.map_nil,St.iT] at hx
  injection hx with hx
  injection hx with h1 h2
  subst h1 h2
  exact⟨G,H,aV.refl _ _ _ _,rfl,by simp,by simp,rfl,fun _ h=>h⟩
 |(k,ps)::aO,σ,σ2,G,nm,ls,H,hx,hk,hi=>by
  have Ae:=hk (k,ps) (by simp)
  have eg:(match σ.imp m nm (ps.map PC.er) with
   |some (l,eG,σ1)=>match σ1.iT m eG (aO.map fun p=>(p.1,p.2.map PC.er)) with
    |some (ls,σ2)=>some ((decide (k=.agg),l)::ls,σ2)
    |none=>none
   |none=>none)=some (ls,σ2):=by
   cases k with
   |ptr=>exact absurd rfl Ae.1
   |one=>simp[St.iT] at hx;exact hx
   |agg=>simp[St.iT] at hx;exact hx
  clear hx
  split at eg
  ·rename_i l eG σ1 e1
   split at eg
   ·rename_i yE f9 e2
    injection eg with hx
    injection hx with h1 h2
    subst h1 h2
    obtain⟨G1,a1,a2,a3,a4,a5,a6,a7⟩:=HR.imp H e1 (by simpa using hi)
    obtain⟨G',b1,b2,b3,b4,b5,b6,b7⟩:=HR.iT a1 e2 (fun p hp=>hk p (by simp[hp])) a7
    refine⟨G',b1,aV.trans a6 a2 b2,by simp[b3],fun j x p hj hp=>?_,fun x hx c hc q hq=>?_,b6.trans a5,fun q hq=>b7 q (a6 q hq)⟩
    ·cases j with
     |zero=>
      simp at hj hp;subst hj;subst hp
      have bI:=cj.ek b2 (fun c hc q hq=>a4 c hc q hq) a3
      cases k with
      |ptr=>exact absurd rfl Ae.1
      |agg=>exact⟨ps.map PC.val,rfl,bI⟩
      |one=>
       have h1:=Ae.2 rfl
       match ps,h1 with
       |[p],_=>exact bI
     |succ j=>exact b4 j x p (by simpa using hj) (by simpa using hp)
    ·cases hx with
     |head=>exact b7 q (a4 c hc q hq)
     |tail _ hx=>exact b5 x hx c hc q hq
   ·cases eg
  ·cases eg
theorem RA.lp {ls:List (Bool×List ah)} {aO:List (K×List PC)} (hlen:ls.length=aO.length) (hk:∀p∈aO,p.1≠ .ptr/\(p.1=.one->p.2.length=1))
  (hv:∀(j:Nat) (x:Bool×List ah) (p:K×List PC),ls[j]? =some x->aO[j]? =some p->RV w G h x.1 x.2 (qc p)):RA w G h (lp ls) (wK aO):=by
 match ls,aO,hlen with
 |[],[],_=>exact⟨[],rfl,rfl,by simp⟩
 |[(ag,cs)],[p],_=>
  have h0:=hv 0 (ag,cs) p rfl rfl
  cases ag with
  |true=>exact h0
  |false=>
   have bI:cj w G h cs [qc p]:=h0
   match cs,bI.1 with
   |[c],_=>exact .inr h0
 |x::y::ls,p::q::aO,hl=>
  refine⟨(p::q::aO).map qc,rfl,by simpa using hl.symm,fun j x' u hj hu=>?_⟩
  rw[List.getElem?_map] at hu
  cases hp:(p::q::aO)[j]? with
  |none=>rw[hp] at hu;cases hu
  |some p'=>rw[hp] at hu;simp at hu;subst hu;exact hv j x' p' hj hp
def xq (P:Program) (T:be):Prop:=∀f M,be.find T.pure f=some M->cJ P f M
def bD (P:Program) (f:FuncId):Bool:=
 match P.funcs[f]? with
 |some fn=>fn.body.isSome&&(fn.name != "runtime.NumGoroutine")
 |none=>false
theorem BG {f:FuncId} (hc:bD P f=true) (args:Array Value):(callFunc f args).run P w=.ok (.enter f args) w:=by
 unfold bD at hc
 split at hc
 ·rename_i fn hf
  simp only[Bool.and_eq_true,bne_iff_ne,ne_eq] at hc
  obtain⟨h1,h2⟩:=hc
  cases hb:fn.body with
  |none=>rw[hb] at h1;cases h1
  |some c=>simp[callFunc,hf,h2,hb]
 ·cases hc
theorem Fr.call (F:Fr B E w0 w) (F':Fr w.heap.size Ex.no w w'):Fr B E w0 w':=
 F.grow (fun b hb=>F'.block b hb id) F'.size F'.os F'.tape F'.output
theorem Wg (r:R B E w0 N σ a w G) {T:be} (hT:xq P T) {m:Mode} {f:FuncId} {as:List ai} {vals:List Value} {σ1:St} (hN:∀n,o.dst=some n->n<N)
  (bm:(execOp a.eval o).run P w=.ok (.enter f vals.toArray) w) (hl:vals.length=as.length)
  (xU:∀(j:Nat) (x:ai) (v:Value),as[j]? =some x->vals[j]? =some v->RA w G σ.h x v)
  (hx:qx T m o.dst f as σ=some σ1):o.wp P a w (Nx B E w0 N σ1) Q:=by
 unfold qx at hx
 split at hx
 ·rename_i ds mD
  split at hx
  ·rename_i M hM
   split at hx
   ·rename_i rs qR
    split at hx
    ·rename_i ls σ2 vB
     injection hx with hx
     subst hx
     have qJ:=r.hr.jV mD hl xU
     unfold Oper.wp
     rw[bm]
     refine(hT f M hM ds rs qR w vals qJ).mono fun e w' ⟨aO,p1,p2,p3,p4,p5⟩=>?_
     subst p2
     have gx:∀b,b<w.heap.size->w'.heap[b]? =w.heap[b]? :=fun b hb=>p5.block b hb id
     have H':=r.hr.grow gx p5.size
     have fH:th B w' G σ.h (aO.flatMap (·.2)):=by
      refine⟨p4.dF,fun pc aZ b hb=>?_,?_⟩
      ·obtain⟨n1,n2⟩:=p4.new pc aZ b hb
       refine⟨⟨fun hi=>?_,fun q hq iN he=>?_,fun q gr mo sz xs hq bW=>?_⟩,n2,Nat.le_trans r.fr.size n1⟩
       ·have:=r.hr.fk b hi;omega
       ·have:=(r.hr.own q hq iN).2.2;omega
       ·have:=r.hr.qd hq bW;omega
      ·rw[List.pairwise_iff_getElem]
       intro i j hi hj jC b hb
       exact p4.mz i j _ _ b (by omega) (List.getElem?_eq_getElem hi) (List.getElem?_eq_getElem hj) hb
     rw[<-p1] at vB
     obtain⟨G',b1,b2,b3,b4,b5,b6,b7⟩:=HR.iT H' vB p3 fH
     have K:aV w G σ.h (fun n=>σ.used n=true) w' G' σ2.h:=aV.trans (fun _ h=>h) (aV.world (fun b hb=>gx b (r.hr.fk b hb)) _) b2
     have r2:R B E w0 N σ2 a w' G':=r.step b6 b7 K b1 (r.fr.call p5)
     refine⟨G',r2.put (RA.lp b3 p3 b4) ?_ hN⟩
     intro q hq
     match ls,hq with
     |[],hq=>obtain⟨x,hx,_⟩:=hq;simp at hx
     |[(true,cs)],hq=>obtain⟨c,hc,hq⟩:=hq;exact b5 (true,cs) (by simp) c hc q hq
     |[(false,[c])],hq=>exact b5 (false,[c]) (by simp) c (by simp) q hq
     |[(false,[])],hq=>exact absurd hq id
     |[(false,_::_::_)],hq=>exact absurd hq id
     |x::y::ls,hq=>obtain⟨x',eg,c,hc,hq⟩:=hq;exact b5 x' eg c hc q hq
    ·cases hx
   ·cases hx
  ·cases hx
 ·cases hx
theorem Mc:∀{aO:List (K×List PC)} {ls:List (Bool×List ah)},gw (aO.map fun p=>(p.1,p.2.map PC.er))=some ls->ls=aO.map fun p=>(decide (p.1=.agg),p.2.map fun pc=>ah.c pc.er)
 |[],ls,h=>by simp only[List.map_nil,gw] at h;injection h with h;exact h.symm
 |(k,ps)::aO,ls,h=>by
  cases k with
  |ptr=>simp[gw] at h
  |one=>
   simp only[List.map_cons,gw] at h
   split at h
   ·rename_i yE e
    injection h with h
    rw[<-h,Mc e,List.map_map]
    rfl
   ·cases h
  |agg=>
   simp only[List.map_cons,gw] at h
   split at h
   ·rename_i yE e
    injection h with h
    rw[<-h,Mc e,List.map_map]
    rfl
   ·cases h
theorem aaq {ls:List (Bool×List ah)} {q:Nat} (ca:∀x∈ls,∀c∈x.2,¬c.ref q):¬(lp ls).ref q:=by
 intro hq
 match ls,hq with
 |[],hq=>obtain⟨x,hx,_⟩:=hq;simp at hx
 |[(true,cs)],hq=>obtain⟨c,hc,hq⟩:=hq;exact ca (true,cs) (by simp) c hc hq
 |[(false,[c])],hq=>exact ca (false,[c]) (by simp) c (by simp) hq
 |[(false,[])],hq=>exact hq
 |[(false,_::_::_)],hq=>exact hq
 |x::y::ls,hq=>obtain⟨x',eg,c,hc,hq⟩:=hq;exact ca x' eg c hc hq
theorem adG (r:R B E w0 N σ a w G) {T:be} (hT:xq P T) {f:FuncId} {as:List ai} {vals:List Value} {z:ai} (hN:∀n,o.dst=some n->n<N)
  (bm:(execOp a.eval o).run P w=.ok (.enter f vals.toArray) w) (hl:vals.length=as.length)
  (xU:∀(j:Nat) (x:ai) (v:Value),as[j]? =some x->vals[j]? =some v->RA w G σ.h x v)
  (hx:tt T f as σ.h=some z):o.wp P a w (Nx B E w0 N (σ.put o.dst z)) Q:=by
 unfold tt at hx
 split at hx
 ·rename_i ds mD
  split at hx
  ·rename_i M hM
   split at hx
   ·rename_i rs qR
    split at hx
    ·rename_i ls vB
     injection hx with hx
     subst hx
     have qJ:=r.hr.jV mD hl xU
     unfold Oper.wp
     rw[bm]
     refine(hT f M hM ds rs qR w vals qJ).mono fun e w' ⟨aO,p1,p2,p3,p4,p5⟩=>?_
     subst p2
     have gx:∀b,b<w.heap.size->w'.heap[b]? =w.heap[b]? :=fun b hb=>p5.block b hb id
     have H':=r.hr.grow gx p5.size
     rw[<-p1] at vB
     have Af:=Mc vB
     subst Af
     let S:Nat->Prop:=fun b=>∃pc∈aO.flatMap (·.2),aN b pc
     have hS:∀b,S b->w.heap.size<=b/\b<w'.heap.size:=fun b ⟨pc,aZ,hb⟩=>by
      obtain⟨n1,n2⟩:=p4.new pc aZ b (.inl hb)
      exact⟨n1,n2.lt⟩
     have H2:HR B E w' ⟨fun b=>G.Im b\/S b,G.g⟩ σ.h σ.used []:=H'.pI S (fun b hb=>(hS b hb).2) (fun b hb n hn hl he=>by have:=(hS b hb).1;have:=(r.hr.own n hn hl).2.2;omega)
      (fun b hb n gr sz xs hn hF=>by have:=(hS b hb).1;have:=r.hr.qd hn hF;omega) (fun b hb=>.inl (Nat.le_trans r.fr.size (hS b hb).1))
     have K:aV w G σ.h (fun n=>σ.used n=true) w' ⟨fun b=>G.Im b\/S b,G.g⟩ σ.h:=aV.trans (fun _ h=>h) (aV.world (fun b hb=>gx b (r.hr.fk b hb)) _) (aV.pI S _)
     have r2:R B E w0 N σ a w' ⟨fun b=>G.Im b\/S b,G.g⟩:=r.step rfl (fun _ h=>h) K H2 (r.fr.call p5)
     have bI:∀p∈aO,cj w' ⟨fun b=>G.Im b\/S b,G.g⟩ σ.h (p.2.map fun pc=>ah.c pc.er) (p.2.map PC.val):=fun p hp=>by
      refine⟨by simp,fun j c u hj hu=>?_⟩
      rw[List.getElem?_map] at hj hu
      cases lH:p.2[j]? with
      |none=>rw[lH] at hj;cases hj
      |some pc=>
       rw[lH] at hj hu
       simp at hj hu
       subst hj hu
       have hm:pc∈aO.flatMap (·.2):=List.mem_flatMap.2 ⟨p,hp,List.mem_of_getElem? lH⟩
       exact⟨PC.jU pc,pc,rfl,rfl,(p4.dF pc hm).1,fun b hb=>.inr ⟨pc,hm,hb⟩⟩
     refine⟨_,r2.put (RA.lp (by simp) p3 (fun j x p hj hp=>?_)) (fun q hq=>?_) hN⟩
     ·rw[List.getElem?_map,hp] at hj
      simp at hj
      subst hj
      have h1:=bI p (List.mem_of_getElem? hp)
      obtain⟨k,ps⟩:=p
      have Ae:=p3 (k,ps) (List.mem_of_getElem? hp)
      cases k with
      |ptr=>exact absurd rfl Ae.1
      |agg=>exact⟨ps.map PC.val,rfl,h1⟩
      |one=>
       have h2:=Ae.2 rfl
       match ps,h2 with
       |[p],_=>exact h1
     ·exfalso
      have ca:∀x∈aO.map (fun p=>(decide (p.1=Am.K.agg),p.2.map fun pc=>ah.c pc.er)),∀c∈x.2,¬c.ref q:=fun x hx c hc hq=>by
       obtain⟨p,_,rfl⟩:=List.mem_map.1 hx
       obtain⟨pc,_,rfl⟩:=List.mem_map.1 hc
       exact hq
      exact aaq ca hq
    ·cases hx
   ·cases hx
  ·cases hx
 ·cases hx
def gN:List Operand->List MO->Bool
 |[],[]=>true
 |x::xs,m::ms=>bq x m&&gN xs ms
 |_,_=>false
theorem R.zU (r:R B E w0 N σ a w G):∀{xs:List Operand} {ms:List MO},gN xs ms=true->xs.length=ms.length/\
  ∀(j:Nat) (x:ai) (v:Value),(ms.map σ.ev)[j]? =some x->(xs.map a.eval)[j]? =some v->RA w G σ.h x v
 |[],[],_=>⟨rfl,by simp⟩
 |x::xs,m::ms,hc=>by
  simp only[gN,Bool.and_eq_true] at hc
  obtain⟨i1,i2⟩:=r.zU hc.2
  refine⟨by simp[i1],fun j x' v hj hv=>?_⟩
  cases j with
  |zero=>simp at hj hv;subst hj;subst hv;exact(r.ev hc.1).1
  |succ j=>exact i2 j x' v (by simpa using hj) (by simpa using hv)
 |[],_::_,hc=>by simp[gN] at hc
 |_::_,[],hc=>by simp[gN] at hc
theorem adx (r:R B E w0 N σ a w G) {T:be} (hT:xq P T) {m:Mode} {f:FuncId} {xs:Array Operand} {ms:List MO} {ts:Array TypeId} {σ1:St} (hN:∀n,o.dst=some n->n<N)
  (ho:o.op=.call {callee:=.value (.func f),args:=xs,argTypes:=ts}) (hf:bD P f=true) (hm:gN xs.toList ms=true)
  (hx:qx T m o.dst f (ms.map σ.ev) σ=some σ1):o.wp P a w (Nx B E w0 N σ1) Q:=by
 obtain⟨e1,e2⟩:=r.zU hm
 refine Wg r hT (vals:=xs.toList.map a.eval) hN ?_ (by simpa using e1) e2 hx
 have he:(xs.toList.map a.eval).toArray=xs.map a.eval:=by apply Array.ext';simp
 rw[he]
 simp[execOp,ho,resolve,Deferred.ofValue,invoke,Act.eval,BG hf]
theorem adz (r:R B E w0 N σ a w G) {T:be} (hT:xq P T) {f:FuncId} {xs:Array Operand} {ms:List MO} {ts:Array TypeId} {z:ai} (hN:∀n,o.dst=some n->n<N)
  (ho:o.op=.call {callee:=.value (.func f),args:=xs,argTypes:=ts}) (hf:bD P f=true) (hm:gN xs.toList ms=true)
  (hx:tt T f (ms.map σ.ev) σ.h=some z):o.wp P a w (Nx B E w0 N (σ.put o.dst z)) Q:=by
 obtain⟨e1,e2⟩:=r.zU hm
 refine adG r hT (vals:=xs.toList.map a.eval) hN ?_ (by simpa using e1) e2 hx
 have he:(xs.toList.map a.eval).toArray=xs.map a.eval:=by apply Array.ext';simp
 rw[he]
 simp[execOp,ho,resolve,Deferred.ofValue,invoke,Act.eval,BG hf]
theorem adB (r:R B E w0 N σ a w G) {T:be} (hT:xq P T) {m:Mode} {f:FuncId} {x:Operand} {mx:MO} {bR:List ah} {xs:Array Operand} {ms:List MO} {ts:Array TypeId} {σ1:St} (hN:∀n,o.dst=some n->n<N)
  (ho:o.op=.call {callee:=.value x,args:=xs,argTypes:=ts}) (hf:bD P f=true) (Dl:bq x mx=true) (hm:gN xs.toList ms=true) (he:σ.ev mx=.one (.fn f bR))
  (hx:qx T m o.dst f (ms.map σ.ev++bR.map .one) σ=some σ1):o.wp P a w (Nx B E w0 N σ1) Q:=by
 obtain⟨e1,e2⟩:=r.zU hm
 obtain⟨x1,x2⟩:=r.ev Dl
 rw[he] at x1
 obtain⟨vs,v1,v2,v3⟩:=(x1.eX (by simp)).1
 refine Wg r hT (vals:=xs.toList.map a.eval++vs) hN ?_ (by simp[e1,v2]) (fun j y v hj hv=>?_) hx
 ·have tK:(xs.toList.map a.eval++vs).toArray=xs.map a.eval++vs.toArray:=by apply Array.ext';simp
  rw[tK]
  simp[execOp,ho,resolve,v1,Deferred.ofValue,invoke,BG hf]
 ·have Ho:xs.size=ms.length:=by simpa using e1
  by_cases bN:j<ms.length
  ·rw[List.getElem?_append_left (by simpa using bN)] at hj
   rw[List.getElem?_append_left (by simp;omega)] at hv
   exact e2 j y v hj hv
  ·rw[List.getElem?_append_right (by simp;omega)] at hj
   rw[List.getElem?_append_right (by simp;omega)] at hv
   simp only[List.length_map,<-e1] at hj hv
   rw[List.getElem?_map] at hj
   simp only[e1] at hj hv
   cases hc:bR[j - ms.length]? with
   |none=>rw[hc] at hj;cases hj
   |some c=>
    rw[hc] at hj
    simp at hj
    subst hj
    obtain⟨q1,q2⟩:=v3 _ c v hc hv
    refine RA.fQ q1 ?_
    by_cases Db:c.kl=false
    ·rw[xp _ _ _ _ _ Db];exact q2
    ·cases c<;>first|exact q2.elim|(simp[ah.kl] at Db)
end
end Go.Am
