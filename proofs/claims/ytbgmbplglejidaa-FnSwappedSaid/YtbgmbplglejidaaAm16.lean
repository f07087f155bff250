/- Am16: results of calls come in; calls. No condition. -/
import Derived.Test.YtbgmbplglejidaaAm15
set_option linter.unusedVariables false
namespace Go.Am
section
variable {B:Nat} {E:Ex} {w0 w w':World} {G G':Gh} {h h':Nat->Option ar} {used used':Nat->Bool} {tk:List PC} {N:Nat}
variable {P:Program} {o:Oper} {a:Act} {σ σ':St} {Q:Exit->Act->World->Prop}
theorem HR.akR (H:HR B E w G h used []) {n sz cap:Nat} {x:Option Addr} {xs:List (List PC)} {m:Mode} (hg:Good w (.list sz x cap xs)) (hs:Sep (.list sz x cap xs)) (ht:Ed w (.list sz x cap xs))
  (hl:∀b,ju b (.list sz x cap xs)->pA G h b/\dK w b/\B<=b) (hn:used n=false):
  ∃G',HR B E w G' (aA h n (some (.row true m sz (xs.map fun e=>e.map PC.er)))) (aA used n true) []/\
   bf w G h (fun n=>used n=true) w G' (aA h n (some (.row true m sz (xs.map fun e=>e.map PC.er))))/\
   RC w G' (aA h n (some (.row true m sz (xs.map fun e=>e.map PC.er)))) (.sl n sz 0 xs.length) (PC.val (.list sz x cap xs))/\
   ∀b,pA G h b->¬ju b (.list sz x cap xs)->pA G' (aA h n (some (.row true m sz (xs.map fun e=>e.map PC.er)))) b:=by
 obtain⟨dU,jQ,Co⟩:=ht
 have hF:∀b,aZ b xs->aX b (.list sz x cap xs):=fun b ⟨k,j,c,h1,h2⟩=>.there _ _ _ _ k j c h1 h2
 have kS:iI xs:=by cases hs with|list _ _ _ _ h1 h2 h3=>exact⟨h1,h3⟩
 let S:Nat->Prop:=fun b=>m≠ .live/\aZ b xs
 have H1:HR B E w ⟨fun b=>G.Im b\/S b,G.g⟩ h used []:=H.ra S (fun b hb=>(hl b (.inl (hF b hb.2))).2.1.lt)
  (fun b hb q hq kw he=>(hl b (.inl (hF b hb.2))).1.2.1 q hq kw he.symm) (fun b hb q gr sz xs hq=>(hl b (.inl (hF b hb.2))).1.2.2 q gr _ sz xs hq) (fun b hb=>.inl (hl b (.inl (hF b hb.2))).2.2)
 obtain⟨p,ajk,fZ,Fm,P3,ajl,aji⟩:∃p:PB,(p.nl=true->xs=[]/\(true=true->p.cap=0))/\p.px=xs/\
   (p.nl=false->pA ⟨fun b=>G.Im b\/S b,G.g⟩ h p.b/\dK w p.b/\B<=p.b/\∀b,aZ b xs->b≠p.b)/\
   (p.nl=false->pB w p.b p.o sz xs/\xs.length<=p.cap/\HD w p sz)/\jO p sz 0 xs.length (PC.val (.list sz x cap xs))/\(p.nl=false->ju p.b (.list sz x cap xs)):=by
  by_cases Pt:cap=0
  ·subst Pt
   have hx:xs=[]:=List.eq_nil_of_length_eq_zero (by omega)
   subst hx
   exact⟨⟨true,0,0,0,[],x⟩,fun _=>⟨rfl,fun _=>rfl⟩,rfl,(fun hf=>by cases hf),(fun hf=>by cases hf),.inl ⟨rfl,rfl,rfl,rfl⟩,(fun hf=>by cases hf)⟩
  ·obtain⟨b,o,cur,e,rfl,hh,bP,zl,cm⟩:=Co.resolve_left Pt
   have hT:ju b (.list sz (some (ad b o)) cap xs):=.inr ⟨_,_,_,_,rfl,Pt⟩
   obtain⟨l1,l2,l3⟩:=hl b hT
   have aD:∀b',aZ b' xs->b'≠b:=fun b' ⟨k,j,c,h1,h2⟩ he=>cm k j c h1 (he▸h2)
   refine⟨⟨false,b,o,cap,xs,none⟩,(fun hf=>by cases hf),rfl,fun _=>⟨⟨fun hi=>hi.elim l1.1 (fun hS=>aD b hS.2 rfl),l1.2⟩,l2,l3,aD⟩,fun _=>⟨?_,jQ,zl,cur,e,hh,bP⟩,.inr ⟨rfl,some (ad b o),by simp[PC.val],by simpa using jQ,fun _=>by simp⟩,fun _=>hT⟩
   cases hg with
   |nil _ _ _ _=>exact⟨by simp,by rintro k j c ⟨e,he,_⟩;simp at he,by rintro k j c ⟨e,he,_⟩;simp at he⟩
   |cons _ _ _ _ _ h1 h2 h3 h4 h5 h6=>exact⟨h4,h5,h6⟩
 subst fZ
 have fo:uv B E w ⟨fun b=>G.Im b\/S b,G.g⟩ true m sz (p.px.map fun e=>e.map PC.er) p:=by
  refine⟨dU,rfl,ajk,fun hf=>⟨(Fm hf).2.1,(P3 hf).1,(P3 hf).2.1⟩,fun hf _=>(P3 hf).2.2,?_⟩
  cases hm:m with
  |aG=>exact fun b hb=>.inr ⟨by simp[hm],hb⟩
  |ae=>exact⟨fun b hb=>⟨.inr ⟨by simp[hm],hb⟩,(hl b (.inl (hF b hb))).2.1,.inl (hl b (.inl (hF b hb))).2.2⟩,kS⟩
  |live=>exact⟨fun b hb=>⟨fun hi=>hi.elim (hl b (.inl (hF b hb))).1.1 (fun hS=>hS.1 hm),(hl b (.inl (hF b hb))).2.1,.inl (hl b (.inl (hF b hb))).2.2⟩,kS⟩
 have Hn:=H1.insert (w':=w) (n:=n) (blk:=.row true m sz (p.px.map fun e=>e.map PC.er)) (p:=p) hn (fun _ _=>rfl) (Nat.le_refl _)
  (fun hf=>⟨(Fm hf).1,.inl (Fm hf).2.2.1,(Fm hf).2.1.lt⟩) (fun cs c q hb=>by cases hb) (by exact fo)
  (fun gr m' aJ au hb hm n' bo nv kL iH h0 jz b cR=>(hl b (.inl (hF b cR))).1.2.2 n' bo nv kL iH h0)
  (fun gr aJ au hb b cR=>⟨fun hf=>(Fm hf).2.2.2 b cR,fun n' h0 lK he=>(hl b (.inl (hF b cR))).1.2.1 n' h0 lK he.symm⟩)
  (fun gr m' aJ au hb hm i pc b hi=>by simp at hi)
 refine⟨_,Hn,bf.trans (u2:=fun n=>used n=true) (fun _ h=>h) (bf.ra S _) (bf.insert H1 hn (fun _ _=>rfl)),fun _=>by simpa[bN] using ajl,fun b hb Pm=>?_⟩
 refine⟨fun hi=>hi.elim hb.1 (fun hS=>Pm (.inl (hF b hS.2))),fun q hq kw he=>?_,fun q gr mo aJ au hq cR=>?_⟩
 ·by_cases fO:q=n
  ·subst fO
   simp only[bN] at kw he
   exact Pm (he▸aji kw)
  ·rw[cE _ _ _ _ fO] at hq
   simp only[cE _ _ _ _ fO] at kw he
   exact hb.2.1 q hq kw he
 ·by_cases fO:q=n
  ·subst fO
   simp only[bN] at cR
   exact Pm (.inl (hF b cR))
  ·rw[cE _ _ _ _ fO] at hq
   simp only[cE _ _ _ _ fO] at cR
   exact hb.2.2 q gr mo aJ au hq cR
structure uq (B:Nat) (w:World) (G:Gh) (h:Nat->Option ar) (ps:List PC):Prop where
 eD:∀pc∈ps,Good w pc/\Sep pc/\Ed w pc
 lone:∀pc∈ps,∀b,ju b pc->pA G h b/\dK w b/\B<=b
 nM:ps.Pairwise fun p q=>∀b,ju b p->¬ju b q
theorem uq.tail {p:PC} {ps:List PC} (hi:uq B w G h (p::ps)) (hL:∀b,pA G h b->¬ju b p->pA G' h' b):uq B w G' h' ps:=
 ⟨fun q hq=>hi.eD q (by simp[hq]),fun q hq b hb=>⟨hL b (hi.lone q (by simp[hq]) b hb).1 (fun hp=>(List.pairwise_cons.1 hi.nM).1 q hq b hp hb),(hi.lone q (by simp[hq]) b hb).2⟩,(List.pairwise_cons.1 hi.nM).2⟩
theorem HR.imp {m:Mode}:∀{ps qs:List PC} {σ σ1:St} {G:Gh} {nm fA:Nat} {l:List aj},HR B E w G σ.h σ.used []->σ.imp m nm (ps.map PC.er)=some (l,fA,σ1)->uq B w G σ.h (ps++qs)->
  ∃G',HR B E w G' σ1.h σ1.used []/\bf w G σ.h (fun n=>σ.used n=true) w G' σ1.h/\cZ w G' σ1.h l (ps.map PC.val)/\(∀c∈l,∀q,c.ref q->σ1.used q=true)/\σ1.env=σ.env/\
   (∀q,σ.used q=true->σ1.used q=true)/\uq B w G' σ1.h qs
 |[],qs,σ,σ1,G,nm,fA,l,H,hx,hi=>by
  simp only[List.map_nil,St.imp] at hx
  injection hx with hx
  injection hx with h1 h2
  injection h2 with h2 h3
  subst h1 h3
  exact⟨G,H,bf.refl _ _ _ _,⟨rfl,by simp⟩,by simp,rfl,fun _ h=>h,by simpa using hi⟩
 |p::ps,qs,σ,σ2,G,nm,fA,l,H,hx,hi=>by
  have eV:∀(x:C) (hx:(match σ.imp m nm (ps.map PC.er) with|some (l,fA,σ2)=>some (aj.c x::l,fA,σ2)|none=>none)=some (l,fA,σ2)) (hp:p.er=x) (cm:∀b,¬ju b p) (hg:Good w p),
    ∃G',HR B E w G' σ2.h σ2.used []/\bf w G σ.h (fun n=>σ.used n=true) w G' σ2.h/\cZ w G' σ2.h l ((p::ps).map PC.val)/\(∀c∈l,∀q,c.ref q->σ2.used q=true)/\σ2.env=σ.env/\
     (∀q,σ.used q=true->σ2.used q=true)/\uq B w G' σ2.h qs:=by
   intro x hx hp cm hg
   split at hx
   ·rename_i l' FR g9 e1
    injection hx with hx
    injection hx with h1 h2
    injection h2 with h2 h3
    subst h1 h2 h3
    obtain⟨G',b1,b2,b3,b4,b5,b6,b7⟩:=HR.imp H e1 (hi.tail (fun b hb _=>hb))
    refine⟨G',b1,b2,⟨by simp[b3.1],fun j c u hj hu=>?_⟩,fun c hc q hq=>?_,b5,b6,b7⟩
    ·cases j with
     |zero=>
      simp at hj hu;subst hj;subst hu
      exact⟨PC.lx p,p,hp,rfl,hg,fun b hb=>absurd (.inl hb) (cm b)⟩
     |succ j=>exact b3.2 j c u (by simpa using hj) (by simpa using hu)
    ·cases hc with
     |head=>exact absurd hq id
     |tail _ hc=>exact b4 c hc q hq
   ·cases hx
  cases p with
  |int k n=>exact eV (.int k n) (by simp only[List.map_cons,St.imp,PC.er] at hx;exact hx) (by simp[PC.er]) (fun b hb=>by rcases hb with hb|⟨_,_,_,_,hb,_⟩<;>cases hb) (.int _ _)
  |bool b=>exact eV (.bool b) (by simp only[List.map_cons,St.imp,PC.er] at hx;exact hx) (by simp[PC.er]) (fun b hb=>by rcases hb with hb|⟨_,_,_,_,hb,_⟩<;>cases hb) (.bool _)
  |list sz x cap xs=>
   simp only[List.map_cons,PC.dR,St.imp] at hx
   split at hx
   ·rename_i σ1 e1
    split at hx
    ·rename_i l' FR g9 e2
     injection hx with hx
     injection hx with h1 h2
     injection h2 with h2 h3
     subst h1 h2 h3
     obtain⟨hn,rfl⟩:=mN e1
     obtain⟨g1,g2,g3⟩:=hi.eD (.list sz x cap xs) (by simp)
     obtain⟨G1,a1,a2,a3,a4⟩:=H.akR (m:=m) g1 g2 g3 (hi.lone (.list sz x cap xs) (by simp)) hn
     obtain⟨G',b1,b2,b3,b4,b5,b6,b7⟩:=HR.imp a1 e2 (hi.tail a4)
     have Cq:∀q,σ.used q=true->aA σ.used nm true q=true:=fun q hq=>rI _ _ hq
     refine⟨G',b1,bf.trans Cq a2 b2,⟨by simp[b3.1],fun j c u hj hu=>?_⟩,fun c hc q hq=>?_,b5,fun q hq=>b6 q (Cq q hq),b7⟩
     ·cases j with
      |zero=>
       simp at hj hu;subst hj;subst hu
       exact⟨rfl,a3.ft b2 fun q hq=>by have d9:q=nm:=hq;subst d9;exact bN _ _ _⟩
      |succ j=>exact b3.2 j c u (by simpa using hj) (by simpa using hu)
     ·cases hc with
      |head=>have d9:q=nm:=hq;subst d9;exact b6 _ (bN _ _ _)
      |tail _ hc=>exact b4 c hc q hq
    ·cases hx
   ·cases hx
theorem HR.jX {m:Mode}:∀{aY:List (K×List PC)} {σ σ1:St} {G:Gh} {nm:Nat} {ls:List (Bool×List aj)},HR B E w G σ.h σ.used []->σ.jX m nm (aY.map fun p=>(p.1,p.2.map PC.er))=some (ls,σ1)->
  (∀p∈aY,p.1≠ .ptr/\(p.1=.one->p.2.length=1))->uq B w G σ.h (aY.flatMap (·.2))->
  ∃G',HR B E w G' σ1.h σ1.used []/\bf w G σ.h (fun n=>σ.used n=true) w G' σ1.h/\ls.length=aY.length/\
   (∀(j:Nat) (x:Bool×List aj) (p:K×List PC),ls[j]? =some x->aY[j]? =some p->RV w G' σ1.h x.1 x.2 (ry p))/\(∀x∈ls,∀c∈x.2,∀q,c.ref q->σ1.used q=true)/\σ1.env=σ.env/\
   (∀q,σ.used q=true->σ1.used q=true)
 |[],σ,σ1,G,nm,ls,H,hx,hk,hi=>by
  simp only[List.map_nil,St.jX] at hx
  injection hx with hx
  injection hx with h1 h2
  subst h1 h2
  exact⟨G,H,bf.refl _ _ _ _,rfl,by simp,by simp,rfl,fun _ h=>h⟩
 |(k,ps)::aY,σ,σ2,G,nm,ls,H,hx,hk,hi=>by
  have B8:=hk (k,ps) (by simp)
  have f7:(match σ.imp m nm (ps.map PC.er) with
   |some (l,fA,σ1)=>match σ1.jX m fA (aY.map fun p=>(p.1,p.2.map PC.er)) with
    |some (ls,σ2)=>some ((decide (k=.agg),l)::ls,σ2)
    |none=>none
   |none=>none)=some (ls,σ2):=by
   cases k with
   |ptr=>exact absurd rfl B8.1
   |one=>simp[St.jX] at hx;exact hx
   |agg=>simp[St.jX] at hx;exact hx
  clear hx
  split at f7
  ·rename_i l fA σ1 e1
   split at f7
   ·rename_i zT g9 e2
    injection f7 with hx
    injection hx with h1 h2
    subst h1 h2
    obtain⟨G1,a1,a2,a3,a4,a5,a6,a7⟩:=HR.imp H e1 (by simpa using hi)
    obtain⟨G',b1,b2,b3,b4,b5,b6,b7⟩:=HR.jX a1 e2 (fun p hp=>hk p (by simp[hp])) a7
    refine⟨G',b1,bf.trans a6 a2 b2,by simp[b3],fun j x p hj hp=>?_,fun x hx c hc q hq=>?_,b6.trans a5,fun q hq=>b7 q (a6 q hq)⟩
    ·cases j with
     |zero=>
      simp at hj hp;subst hj;subst hp
      have bT:=cZ.ft b2 (fun c hc q hq=>a4 c hc q hq) a3
      cases k with
      |ptr=>exact absurd rfl B8.1
      |agg=>exact⟨ps.map PC.val,rfl,bT⟩
      |one=>
       have h1:=B8.2 rfl
       match ps,h1 with
       |[p],_=>exact bT
     |succ j=>exact b4 j x p (by simpa using hj) (by simpa using hp)
    ·cases hx with
     |head=>exact b7 q (a4 c hc q hq)
     |tail _ hx=>exact b5 x hx c hc q hq
   ·cases f7
  ·cases f7
theorem RA.lT {ls:List (Bool×List aj)} {aY:List (K×List PC)} (hlen:ls.length=aY.length) (hk:∀p∈aY,p.1≠ .ptr/\(p.1=.one->p.2.length=1))
  (hv:∀(j:Nat) (x:Bool×List aj) (p:K×List PC),ls[j]? =some x->aY[j]? =some p->RV w G h x.1 x.2 (ry p)):RA w G h (lT ls) (xM aY):=by
 match ls,aY,hlen with
 |[],[],_=>exact⟨[],rfl,rfl,by simp⟩
 |[(ag,cs)],[p],_=>
  have h0:=hv 0 (ag,cs) p rfl rfl
  cases ag with
  |true=>exact h0
  |false=>
   have bT:cZ w G h cs [ry p]:=h0
   match cs,bT.1 with
   |[c],_=>exact .inr h0
 |x::y::ls,p::q::aY,hl=>
  refine⟨(p::q::aY).map ry,rfl,by simpa using hl.symm,fun j x' u hj hu=>?_⟩
  rw[List.getElem?_map] at hu
  cases hp:(p::q::aY)[j]? with
  |none=>rw[hp] at hu;cases hu
  |some p'=>rw[hp] at hu;simp at hu;subst hu;exact hv j x' p' hj hp
def yr (P:Program) (T:aT):Prop:=∀f M,aT.find T.pure f=some M->dj P f M
def bH (P:Program) (f:FuncId):Bool:=
 match P.funcs[f]? with
 |some fn=>fn.body.isSome&&(fn.name != "runtime.NumGoroutine")
 |none=>false
theorem Al {f:FuncId} (hc:bH P f=true) (args:Array Value):(callFunc f args).run P w=.ok (.enter f args) w:=by
 unfold bH at hc
 split at hc
 ·rename_i fn hf
  simp only[Bool.and_eq_true,bne_iff_ne,ne_eq] at hc
  obtain⟨h1,h2⟩:=hc
  cases hb:fn.body with
  |none=>rw[hb] at h1;cases h1
  |some c=>simp[callFunc,hf,h2,hb]
 ·cases hc
theorem Fr.call (F:Fr B E w0 w) (F':Fr w.heap.size Ex.no w w'):Fr B E w0 w':=
 F.grow (fun b hb=>F'.block b hb id) F'.size F'.os F'.tape F'.output
theorem Zq (r:R B E w0 N σ a w G) {T:aT} (hT:yr P T) {m:Mode} {f:FuncId} {as:List ak} {vals:List Value} {σ1:St} (hN:∀n,o.dst=some n->n<N)
  (bY:(execOp a.eval o).run P w=.ok (.enter f vals.toArray) w) (hl:vals.length=as.length)
  (uT:∀(j:Nat) (x:ak) (v:Value),as[j]? =some x->vals[j]? =some v->RA w G σ.h x v)
  (hx:rT T m o.dst f as σ=some σ1):o.wp P a w (Nx B E w0 N σ1) Q:=by
 unfold rT at hx
 split at hx
 ·rename_i ds nR
  split at hx
  ·rename_i M hM
   split at hx
   ·rename_i rs sj
    split at hx
    ·rename_i ls σ2 wT
     injection hx with hx
     subst hx
     have r9:=r.hr.ly nR hl uT
     unfold Oper.wp
     rw[bY]
     refine(hT f M hM ds rs sj w vals r9).mono fun e w' ⟨aY,p1,p2,p3,p4,p5⟩=>?_
     subst p2
     have iv:∀b,b<w.heap.size->w'.heap[b]? =w.heap[b]? :=fun b hb=>p5.block b hb id
     have H':=r.hr.grow iv p5.size
     have gf:uq B w' G σ.h (aY.flatMap (·.2)):=by
      refine⟨p4.eD,fun pc bc b hb=>?_,?_⟩
      ·obtain⟨n1,n2⟩:=p4.new pc bc b hb
       refine⟨⟨fun hi=>?_,fun q hq kw he=>?_,fun q gr mo sz xs hq cR=>?_⟩,n2,Nat.le_trans r.fr.size n1⟩
       ·have:=r.hr.gi b hi;omega
       ·have:=(r.hr.own q hq kw).2.2;omega
       ·have:=r.hr.rz hq cR;omega
      ·rw[List.pairwise_iff_getElem]
       intro i j hi hj jS b hb
       exact p4.nM i j _ _ b (by omega) (List.getElem?_eq_getElem hi) (List.getElem?_eq_getElem hj) hb
     rw[<-p1] at wT
     obtain⟨G',b1,b2,b3,b4,b5,b6,b7⟩:=HR.jX H' wT p3 gf
     have K:bf w G σ.h (fun n=>σ.used n=true) w' G' σ2.h:=bf.trans (fun _ h=>h) (bf.world (fun b hb=>iv b (r.hr.gi b hb)) _) b2
     have r2:R B E w0 N σ2 a w' G':=r.step b6 b7 K b1 (r.fr.call p5)
     refine⟨G',r2.put (RA.lT b3 p3 b4) ?_ hN⟩
     intro q hq
     match ls,hq with
     |[],hq=>obtain⟨x,hx,_⟩:=hq;simp at hx
     |[(true,cs)],hq=>obtain⟨c,hc,hq⟩:=hq;exact b5 (true,cs) (by simp) c hc q hq
     |[(false,[c])],hq=>exact b5 (false,[c]) (by simp) c (by simp) q hq
     |[(false,[])],hq=>exact absurd hq id
     |[(false,_::_::_)],hq=>exact absurd hq id
     |x::y::ls,hq=>obtain⟨x',f7,c,hc,hq⟩:=hq;exact b5 x' f7 c hc q hq
    ·cases hx
   ·cases hx
  ·cases hx
 ·cases hx
theorem NQ:∀{aY:List (K×List PC)} {ls:List (Bool×List aj)},gR (aY.map fun p=>(p.1,p.2.map PC.er))=some ls->ls=aY.map fun p=>(decide (p.1=.agg),p.2.map fun pc=>aj.c pc.er)
 |[],ls,h=>by simp only[List.map_nil,gR] at h;injection h with h;exact h.symm
 |(k,ps)::aY,ls,h=>by
  cases k with
  |ptr=>simp[gR] at h
  |one=>
   simp only[List.map_cons,gR] at h
   split at h
   ·rename_i zT e
    injection h with h
    rw[<-h,NQ e,List.map_map]
    rfl
   ·cases h
  |agg=>
   simp only[List.map_cons,gR] at h
   split at h
   ·rename_i zT e
    injection h with h
    rw[<-h,NQ e,List.map_map]
    rfl
   ·cases h
theorem acY {ls:List (Bool×List aj)} {q:Nat} (cm:∀x∈ls,∀c∈x.2,¬c.ref q):¬(lT ls).ref q:=by
 intro hq
 match ls,hq with
 |[],hq=>obtain⟨x,hx,_⟩:=hq;simp at hx
 |[(true,cs)],hq=>obtain⟨c,hc,hq⟩:=hq;exact cm (true,cs) (by simp) c hc hq
 |[(false,[c])],hq=>exact cm (false,[c]) (by simp) c (by simp) hq
 |[(false,[])],hq=>exact hq
 |[(false,_::_::_)],hq=>exact hq
 |x::y::ls,hq=>obtain⟨x',f7,c,hc,hq⟩:=hq;exact cm x' f7 c hc hq
theorem agP (r:R B E w0 N σ a w G) {T:aT} (hT:yr P T) {f:FuncId} {as:List ak} {vals:List Value} {z:ak} (hN:∀n,o.dst=some n->n<N)
  (bY:(execOp a.eval o).run P w=.ok (.enter f vals.toArray) w) (hl:vals.length=as.length)
  (uT:∀(j:Nat) (x:ak) (v:Value),as[j]? =some x->vals[j]? =some v->RA w G σ.h x v)
  (hx:uB T f as σ.h=some z):o.wp P a w (Nx B E w0 N (σ.put o.dst z)) Q:=by
 unfold uB at hx
 split at hx
 ·rename_i ds nR
  split at hx
  ·rename_i M hM
   split at hx
   ·rename_i rs sj
    split at hx
    ·rename_i ls wT
     injection hx with hx
     subst hx
     have r9:=r.hr.ly nR hl uT
     unfold Oper.wp
     rw[bY]
     refine(hT f M hM ds rs sj w vals r9).mono fun e w' ⟨aY,p1,p2,p3,p4,p5⟩=>?_
     subst p2
     have iv:∀b,b<w.heap.size->w'.heap[b]? =w.heap[b]? :=fun b hb=>p5.block b hb id
     have H':=r.hr.grow iv p5.size
     rw[<-p1] at wT
     have B9:=NQ wT
     subst B9
     let S:Nat->Prop:=fun b=>∃pc∈aY.flatMap (·.2),aX b pc
     have hS:∀b,S b->w.heap.size<=b/\b<w'.heap.size:=fun b ⟨pc,bc,hb⟩=>by
      obtain⟨n1,n2⟩:=p4.new pc bc b (.inl hb)
      exact⟨n1,n2.lt⟩
     have H2:HR B E w' ⟨fun b=>G.Im b\/S b,G.g⟩ σ.h σ.used []:=H'.ra S (fun b hb=>(hS b hb).2) (fun b hb n hn hl he=>by have:=(hS b hb).1;have:=(r.hr.own n hn hl).2.2;omega)
      (fun b hb n gr sz xs hn hF=>by have:=(hS b hb).1;have:=r.hr.rz hn hF;omega) (fun b hb=>.inl (Nat.le_trans r.fr.size (hS b hb).1))
     have K:bf w G σ.h (fun n=>σ.used n=true) w' ⟨fun b=>G.Im b\/S b,G.g⟩ σ.h:=bf.trans (fun _ h=>h) (bf.world (fun b hb=>iv b (r.hr.gi b hb)) _) (bf.ra S _)
     have r2:R B E w0 N σ a w' ⟨fun b=>G.Im b\/S b,G.g⟩:=r.step rfl (fun _ h=>h) K H2 (r.fr.call p5)
     have bT:∀p∈aY,cZ w' ⟨fun b=>G.Im b\/S b,G.g⟩ σ.h (p.2.map fun pc=>aj.c pc.er) (p.2.map PC.val):=fun p hp=>by
      refine⟨by simp,fun j c u hj hu=>?_⟩
      rw[List.getElem?_map] at hj hu
      cases nb:p.2[j]? with
      |none=>rw[nb] at hj;cases hj
      |some pc=>
       rw[nb] at hj hu
       simp at hj hu
       subst hj hu
       have hm:pc∈aY.flatMap (·.2):=List.mem_flatMap.2 ⟨p,hp,List.mem_of_getElem? nb⟩
       exact⟨PC.lx pc,pc,rfl,rfl,(p4.eD pc hm).1,fun b hb=>.inr ⟨pc,hm,hb⟩⟩
     refine⟨_,r2.put (RA.lT (by simp) p3 (fun j x p hj hp=>?_)) (fun q hq=>?_) hN⟩
     ·rw[List.getElem?_map,hp] at hj
      simp at hj
      subst hj
      have h1:=bT p (List.mem_of_getElem? hp)
      obtain⟨k,ps⟩:=p
      have B8:=p3 (k,ps) (List.mem_of_getElem? hp)
      cases k with
      |ptr=>exact absurd rfl B8.1
      |agg=>exact⟨ps.map PC.val,rfl,h1⟩
      |one=>
       have h2:=B8.2 rfl
       match ps,h2 with
       |[p],_=>exact h1
     ·exfalso
      have cm:∀x∈aY.map (fun p=>(decide (p.1=Am.K.agg),p.2.map fun pc=>aj.c pc.er)),∀c∈x.2,¬c.ref q:=fun x hx c hc hq=>by
       obtain⟨p,_,rfl⟩:=List.mem_map.1 hx
       obtain⟨pc,_,rfl⟩:=List.mem_map.1 hc
       exact hq
      exact acY cm hq
    ·cases hx
   ·cases hx
  ·cases hx
 ·cases hx
def gQ:List Operand->List MO->Bool
 |[],[]=>true
 |x::xs,m::ms=>bF x m&&gQ xs ms
 |_,_=>false
theorem R.yN (r:R B E w0 N σ a w G):∀{xs:List Operand} {ms:List MO},gQ xs ms=true->xs.length=ms.length/\
  ∀(j:Nat) (x:ak) (v:Value),(ms.map σ.ev)[j]? =some x->(xs.map a.eval)[j]? =some v->RA w G σ.h x v
 |[],[],_=>⟨rfl,by simp⟩
 |x::xs,m::ms,hc=>by
  simp only[gQ,Bool.and_eq_true] at hc
  obtain⟨i1,i2⟩:=r.yN hc.2
  refine⟨by simp[i1],fun j x' v hj hv=>?_⟩
  cases j with
  |zero=>simp at hj hv;subst hj;subst hv;exact(r.ev hc.1).1
  |succ j=>exact i2 j x' v (by simpa using hj) (by simpa using hv)
 |[],_::_,hc=>by simp[gQ] at hc
 |_::_,[],hc=>by simp[gQ] at hc
theorem agG (r:R B E w0 N σ a w G) {T:aT} (hT:yr P T) {m:Mode} {f:FuncId} {xs:Array Operand} {ms:List MO} {ts:Array TypeId} {σ1:St} (hN:∀n,o.dst=some n->n<N)
  (ho:o.op=.call {callee:=.value (.func f),args:=xs,argTypes:=ts}) (hf:bH P f=true) (hm:gQ xs.toList ms=true)
  (hx:rT T m o.dst f (ms.map σ.ev) σ=some σ1):o.wp P a w (Nx B E w0 N σ1) Q:=by
 obtain⟨e1,e2⟩:=r.yN hm
 refine Zq r hT (vals:=xs.toList.map a.eval) hN ?_ (by simpa using e1) e2 hx
 have he:(xs.toList.map a.eval).toArray=xs.map a.eval:=by apply Array.ext';simp
 rw[he]
 simp[execOp,ho,resolve,Deferred.ofValue,invoke,Act.eval,Al hf]
theorem agH (r:R B E w0 N σ a w G) {T:aT} (hT:yr P T) {f:FuncId} {xs:Array Operand} {ms:List MO} {ts:Array TypeId} {z:ak} (hN:∀n,o.dst=some n->n<N)
  (ho:o.op=.call {callee:=.value (.func f),args:=xs,argTypes:=ts}) (hf:bH P f=true) (hm:gQ xs.toList ms=true)
  (hx:uB T f (ms.map σ.ev) σ.h=some z):o.wp P a w (Nx B E w0 N (σ.put o.dst z)) Q:=by
 obtain⟨e1,e2⟩:=r.yN hm
 refine agP r hT (vals:=xs.toList.map a.eval) hN ?_ (by simpa using e1) e2 hx
 have he:(xs.toList.map a.eval).toArray=xs.map a.eval:=by apply Array.ext';simp
 rw[he]
 simp[execOp,ho,resolve,Deferred.ofValue,invoke,Act.eval,Al hf]
theorem agJ (r:R B E w0 N σ a w G) {T:aT} (hT:yr P T) {m:Mode} {f:FuncId} {x:Operand} {mx:MO} {cF:List aj} {xs:Array Operand} {ms:List MO} {ts:Array TypeId} {σ1:St} (hN:∀n,o.dst=some n->n<N)
  (ho:o.op=.call {callee:=.value x,args:=xs,argTypes:=ts}) (hf:bH P f=true) (PX:bF x mx=true) (hm:gQ xs.toList ms=true) (he:σ.ev mx=.one (.fn f cF))
  (hx:rT T m o.dst f (ms.map σ.ev++cF.map .one) σ=some σ1):o.wp P a w (Nx B E w0 N σ1) Q:=by
 obtain⟨e1,e2⟩:=r.yN hm
 obtain⟨x1,x2⟩:=r.ev PX
 rw[he] at x1
 obtain⟨vs,v1,v2,v3⟩:=(x1.fS (by simp)).1
 refine Zq r hT (vals:=xs.toList.map a.eval++vs) hN ?_ (by simp[e1,v2]) (fun j y v hj hv=>?_) hx
 ·have uY:(xs.toList.map a.eval++vs).toArray=xs.map a.eval++vs.toArray:=by apply Array.ext';simp
  rw[uY]
  simp[execOp,ho,resolve,v1,Deferred.ofValue,invoke,Al hf]
 ·have Jr:xs.size=ms.length:=by simpa using e1
  by_cases bK:j<ms.length
  ·rw[List.getElem?_append_left (by simpa using bK)] at hj
   rw[List.getElem?_append_left (by simp;omega)] at hv
   exact e2 j y v hj hv
  ·rw[List.getElem?_append_right (by simp;omega)] at hj
   rw[List.getElem?_append_right (by simp;omega)] at hv
   simp only[List.length_map,<-e1] at hj hv
   rw[List.getElem?_map] at hj
   simp only[e1] at hj hv
   cases hc:cF[j - ms.length]? with
   |none=>rw[hc] at hj;cases hj
   |some c=>
    rw[hc] at hj
    simp at hj
    subst hj
    obtain⟨q1,q2⟩:=v3 _ c v hc hv
    refine RA.gD q1 ?_
    by_cases E5:c.lO=false
    ·rw[yq _ _ _ _ _ E5];exact q2
    ·cases c<;>first|exact q2.elim|(simp[aj.lO] at E5)
end
end Go.Am
