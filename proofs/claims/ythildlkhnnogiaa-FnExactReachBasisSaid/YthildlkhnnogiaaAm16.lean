/- Am16: results of calls come in; calls. No condition. -/
import Derived.Test.YthildlkhnnogiaaAm15
set_option linter.unusedVariables false
namespace Go.Am
section
variable {B:Nat} {E:Ex} {w0 w w':World} {G G':Gh} {h h':Nat->Option aj} {used used':Nat->Bool} {tk:List PC} {N:Nat}
variable {P:Program} {o:Oper} {a:Act} {σ σ':St} {Q:Exit->Act->World->Prop}
theorem HR.agA (H:HR B E w G h used []) {n sz cap:Nat} {x:Option Addr} {xs:List (List PC)} {m:Mode} (hg:Good w (.list sz x cap xs)) (hs:Sep (.list sz x cap xs)) (ht:A3 w (.list sz x cap xs))
  (hl:∀b,iy b (.list sz x cap xs)->mV G h b/\cP w b/\B<=b) (hn:used n=false):
  ∃G',HR B E w G' (ao h n (some (.row m.si m sz (xs.map fun e=>e.map PC.er)))) (ao used n true) []/\
   aR w G h (fun n=>used n=true) w G' (ao h n (some (.row m.si m sz (xs.map fun e=>e.map PC.er))))/\
   RC w G' (ao h n (some (.row m.si m sz (xs.map fun e=>e.map PC.er)))) (.sl n sz 0 xs.length) (PC.val (.list sz x cap xs))/\
   ∀b,mV G h b->¬iy b (.list sz x cap xs)->mV G' (ao h n (some (.row m.si m sz (xs.map fun e=>e.map PC.er)))) b:=by
 obtain⟨dQ,gh,xk⟩:=ht
 have hF:∀b,aP b xs->aK b (.list sz x cap xs):=fun b ⟨k,j,c,h1,h2⟩=>.there _ _ _ _ k j c h1 h2
 have iG:gF xs:=by cases hs with|list _ _ _ _ h1 h2 h3=>exact⟨h1,h3⟩
 let S:Nat->Prop:=fun b=>m≠ .live/\aP b xs
 have H1:HR B E w ⟨fun b=>G.Im b\/S b,G.g⟩ h used []:=H.qR S (fun b hb=>(hl b (.inl (hF b hb.2))).2.1.lt)
  (fun b hb q hq iF he=>(hl b (.inl (hF b hb.2))).1.2.1 q hq iF he.symm) (fun b hb q gr sz xs hq=>(hl b (.inl (hF b hb.2))).1.2.2 q gr _ sz xs hq) (fun b hb=>.inl (hl b (.inl (hF b hb.2))).2.2)
 obtain⟨p,Jc,dC,nk,zz,OK,af7⟩:∃p:PB,(p.nl=true->xs=[]/\(true=true->p.cap=0))/\p.px=xs/\
   (p.nl=false->mV ⟨fun b=>G.Im b\/S b,G.g⟩ h p.b/\cP w p.b/\B<=p.b/\∀b,aP b xs->b≠p.b)/\
   (p.nl=false->lR w p.b p.o sz xs/\xs.length<=p.cap/\AY w p sz)/\eU p sz 0 xs.length (PC.val (.list sz x cap xs))/\(p.nl=false->iy p.b (.list sz x cap xs)):=by
  by_cases u5:cap=0
  ·subst u5
   have hx:xs=[]:=List.eq_nil_of_length_eq_zero (by omega)
   subst hx
   exact⟨⟨true,0,0,0,[],x⟩,fun _=>⟨rfl,fun _=>rfl⟩,rfl,(fun hf=>by cases hf),(fun hf=>by cases hf),.inl ⟨rfl,rfl,rfl,rfl⟩,(fun hf=>by cases hf)⟩
  ·obtain⟨b,o,cur,e,rfl,hh,bn,vi,bG⟩:=xk.resolve_left u5
   have hT:iy b (.list sz (some (ad b o)) cap xs):=.inr ⟨_,_,_,_,rfl,u5⟩
   obtain⟨l1,l2,l3⟩:=hl b hT
   have av:∀b',aP b' xs->b'≠b:=fun b' ⟨k,j,c,h1,h2⟩ he=>bG k j c h1 (he▸h2)
   refine⟨⟨false,b,o,cap,xs,none⟩,(fun hf=>by cases hf),rfl,fun _=>⟨⟨fun hi=>hi.elim l1.1 (fun hS=>av b hS.2 rfl),l1.2⟩,l2,l3,av⟩,fun _=>⟨?_,gh,vi,cur,e,hh,bn⟩,.inr ⟨rfl,some (ad b o),by simp[PC.val],by simpa using gh,fun _=>by simp⟩,fun _=>hT⟩
   cases hg with
   |nil _ _ _ _=>exact⟨by simp,by rintro k j c ⟨e,he,_⟩;simp at he,by rintro k j c ⟨e,he,_⟩;simp at he⟩
   |cons _ _ _ _ _ h1 h2 h3 h4 h5 h6=>exact⟨h4,h5,h6⟩
 subst dC
 have dR:sW B E w ⟨fun b=>G.Im b\/S b,G.g⟩ m.si m sz (p.px.map fun e=>e.map PC.er) p:=by
  refine⟨dQ,rfl,fun h=>⟨(Jc h).1,fun _=>(Jc h).2 rfl⟩,fun hf=>⟨(nk hf).2.1,(zz hf).1,(zz hf).2.1⟩,fun hf _=>(zz hf).2.2,?_,fun h hm=>by rw[hm] at h;cases h⟩
  cases hm:m with
  |aG=>exact fun b hb=>.inr ⟨by simp[hm],hb⟩
  |af=>exact⟨fun b hb=>⟨.inr ⟨by simp[hm],hb⟩,(hl b (.inl (hF b hb))).2.1,.inl (hl b (.inl (hF b hb))).2.2⟩,iG⟩
  |live=>exact⟨fun b hb=>⟨fun hi=>hi.elim (hl b (.inl (hF b hb))).1.1 (fun hS=>hS.1 hm),(hl b (.inl (hF b hb))).2.1,.inl (hl b (.inl (hF b hb))).2.2⟩,iG⟩
 have Hn:=H1.insert (w':=w) (n:=n) (blk:=.row m.si m sz (p.px.map fun e=>e.map PC.er)) (p:=p) hn (fun _ _=>rfl) (Nat.le_refl _)
  (fun hf=>⟨(nk hf).1,.inl (nk hf).2.2.1,(nk hf).2.1.lt⟩) (fun cs c q hb=>by cases hb) (by exact dR)
  (fun gr m' ax ak hb hm n' aW iv gm eT h0 fY b bL=>(hl b (.inl (hF b bL))).1.2.2 n' aW iv gm eT h0)
  (fun gr ax ak hb b bL=>⟨fun hf=>(nk hf).2.2.2 b bL,fun n' h0 fa he=>(hl b (.inl (hF b bL))).1.2.1 n' h0 fa he.symm⟩)
  (fun gr m' ax ak hb hm i pc b hi=>by simp at hi)
 refine⟨_,Hn,aR.trans (u2:=fun n=>used n=true) (fun _ h=>h) (aR.qR S _) (aR.insert H1 hn (fun _ _=>rfl)),fun _=>by simpa[bo] using OK,fun b hb N6=>?_⟩
 refine⟨fun hi=>hi.elim hb.1 (fun hS=>N6 (.inl (hF b hS.2))),fun q hq iF he=>?_,fun q gr mo ax ak hq bL=>?_⟩
 ·by_cases fB:q=n
  ·subst fB
   simp only[bo] at iF he
   exact N6 (he▸af7 iF)
  ·rw[bP _ _ _ _ fB] at hq
   simp only[bP _ _ _ _ fB] at iF he
   exact hb.2.1 q hq iF he
 ·by_cases fB:q=n
  ·subst fB
   simp only[bo] at bL
   exact N6 (.inl (hF b bL))
  ·rw[bP _ _ _ _ fB] at hq
   simp only[bP _ _ _ _ fB] at bL
   exact hb.2.2 q gr mo ax ak hq bL
structure uq (B:Nat) (w:World) (G:Gh) (h:Nat->Option aj) (ps:List PC):Prop where
 dk:∀pc∈ps,Good w pc/\Sep pc/\A3 w pc
 lone:∀pc∈ps,∀b,iy b pc->mV G h b/\cP w b/\B<=b
 m8:ps.Pairwise fun p q=>∀b,iy b p->¬iy b q
theorem uq.tail {p:PC} {ps:List PC} (hi:uq B w G h (p::ps)) (hL:∀b,mV G h b->¬iy b p->mV G' h' b):uq B w G' h' ps:=
 ⟨fun q hq=>hi.dk q (by simp[hq]),fun q hq b hb=>⟨hL b (hi.lone q (by simp[hq]) b hb).1 (fun hp=>(List.pairwise_cons.1 hi.m8).1 q hq b hp hb),(hi.lone q (by simp[hq]) b hb).2⟩,(List.pairwise_cons.1 hi.m8).2⟩
theorem HR.imp {m:Mode}:∀{ps qs:List PC} {σ σ1:St} {G:Gh} {nm fg:Nat} {l:List ab},HR B E w G σ.h σ.used []->σ.imp m nm (ps.map PC.er)=some (l,fg,σ1)->uq B w G σ.h (ps++qs)->
  ∃G',HR B E w G' σ1.h σ1.used []/\aR w G σ.h (fun n=>σ.used n=true) w G' σ1.h/\cb w G' σ1.h l (ps.map PC.val)/\(∀c∈l,∀q,c.ref q->σ1.used q=true)/\σ1.env=σ.env/\
   (∀q,σ.used q=true->σ1.used q=true)/\uq B w G' σ1.h qs
 |[],qs,σ,σ1,G,nm,fg,l,H,hx,hi=>by
  simp only[List.map_nil,St.imp] at hx
  injection hx with hx
  injection hx with h1 h2
  injection h2 with h2 h3
  subst h1 h3
  exact⟨G,H,aR.refl _ _ _ _,⟨rfl,by simp⟩,by simp,rfl,fun _ h=>h,by simpa using hi⟩
 |p::ps,qs,σ,σ2,G,nm,fg,l,H,hx,hi=>by
  have dL:∀(x:C) (hx:(match σ.imp m nm (ps.map PC.er) with|some (l,fg,σ2)=>some (ab.c x::l,fg,σ2)|none=>none)=some (l,fg,σ2)) (hp:p.er=x) (bG:∀b,¬iy b p) (hg:Good w p),
    ∃G',HR B E w G' σ2.h σ2.used []/\aR w G σ.h (fun n=>σ.used n=true) w G' σ2.h/\cb w G' σ2.h l ((p::ps).map PC.val)/\(∀c∈l,∀q,c.ref q->σ2.used q=true)/\σ2.env=σ.env/\
     (∀q,σ.used q=true->σ2.used q=true)/\uq B w G' σ2.h qs:=by
   intro x hx hp bG hg
   split at hx
   ·rename_i l' Ft fE e1
    injection hx with hx
    injection hx with h1 h2
    injection h2 with h2 h3
    subst h1 h2 h3
    obtain⟨G',b1,b2,b3,b4,b5,b6,b7⟩:=HR.imp H e1 (hi.tail (fun b hb _=>hb))
    refine⟨G',b1,b2,⟨by simp[b3.1],fun j c u hj hu=>?_⟩,fun c hc q hq=>?_,b5,b6,b7⟩
    ·cases j with
     |zero=>
      simp at hj hu;subst hj;subst hu
      exact⟨PC.hY p,p,hp,rfl,hg,fun b hb=>absurd (.inl hb) (bG b)⟩
     |succ j=>exact b3.2 j c u (by simpa using hj) (by simpa using hu)
    ·cases hc with
     |head=>exact absurd hq id
     |tail _ hc=>exact b4 c hc q hq
   ·cases hx
  cases p with
  |int k n=>exact dL (.int k n) (by simp only[List.map_cons,St.imp,PC.er] at hx;exact hx) (by simp[PC.er]) (fun b hb=>by rcases hb with hb|⟨_,_,_,_,hb,_⟩<;>cases hb) (.int _ _)
  |bool b=>exact dL (.bool b) (by simp only[List.map_cons,St.imp,PC.er] at hx;exact hx) (by simp[PC.er]) (fun b hb=>by rcases hb with hb|⟨_,_,_,_,hb,_⟩<;>cases hb) (.bool _)
  |list sz x cap xs=>
   simp only[List.map_cons,PC.cN,St.imp] at hx
   split at hx
   ·rename_i σ1 e1
    split at hx
    ·rename_i l' Ft fE e2
     injection hx with hx
     injection hx with h1 h2
     injection h2 with h2 h3
     subst h1 h2 h3
     obtain⟨hn,rfl⟩:=iI e1
     obtain⟨g1,g2,g3⟩:=hi.dk (.list sz x cap xs) (by simp)
     obtain⟨G1,a1,a2,a3,a4⟩:=H.agA (m:=m) g1 g2 g3 (hi.lone (.list sz x cap xs) (by simp)) hn
     obtain⟨G',b1,b2,b3,b4,b5,b6,b7⟩:=HR.imp a1 e2 (hi.tail a4)
     have B5:∀q,σ.used q=true->ao σ.used nm true q=true:=fun q hq=>lQ _ _ hq
     refine⟨G',b1,aR.trans B5 a2 b2,⟨by simp[b3.1],fun j c u hj hu=>?_⟩,fun c hc q hq=>?_,b5,fun q hq=>b6 q (B5 q hq),b7⟩
     ·cases j with
      |zero=>
       simp at hj hu;subst hj;subst hu
       exact⟨rfl,a3.eJ b2 fun q hq=>by have db:q=nm:=hq;subst db;exact bo _ _ _⟩
      |succ j=>exact b3.2 j c u (by simpa using hj) (by simpa using hu)
     ·cases hc with
      |head=>have db:q=nm:=hq;subst db;exact b6 _ (bo _ _ _)
      |tail _ hc=>exact b4 c hc q hq
    ·cases hx
   ·cases hx
theorem HR.iq {m:Mode}:∀{aU:List (K×List PC)} {σ σ1:St} {G:Gh} {nm:Nat} {ls:List (Bool×List ab)},HR B E w G σ.h σ.used []->σ.iq m nm (aU.map fun p=>(p.1,p.2.map PC.er))=some (ls,σ1)->
  (∀p∈aU,p.1≠ .ptr/\(p.1=.one->p.2.length=1))->uq B w G σ.h (aU.flatMap (·.2))->
  ∃G',HR B E w G' σ1.h σ1.used []/\aR w G σ.h (fun n=>σ.used n=true) w G' σ1.h/\ls.length=aU.length/\
   (∀(j:Nat) (x:Bool×List ab) (p:K×List PC),ls[j]? =some x->aU[j]? =some p->RV w G' σ1.h x.1 x.2 (rk p))/\(∀x∈ls,∀c∈x.2,∀q,c.ref q->σ1.used q=true)/\σ1.env=σ.env/\
   (∀q,σ.used q=true->σ1.used q=true)
 |[],σ,σ1,G,nm,ls,H,hx,hk,hi=>by
  simp only[List.map_nil,St.iq] at hx
  injection hx with hx
  injection hx with h1 h2
  subst h1 h2
  exact⟨G,H,aR.refl _ _ _ _,rfl,by simp,by simp,rfl,fun _ h=>h⟩
 |(k,ps)::aU,σ,σ2,G,nm,ls,H,hx,hk,hi=>by
  have BX:=hk (k,ps) (by simp)
  have eZ:(match σ.imp m nm (ps.map PC.er) with
   |some (l,fg,σ1)=>match σ1.iq m fg (aU.map fun p=>(p.1,p.2.map PC.er)) with
    |some (ls,σ2)=>some ((decide (k=.agg),l)::ls,σ2)
    |none=>none
   |none=>none)=some (ls,σ2):=by
   cases k with
   |ptr=>exact absurd rfl BX.1
   |one=>simp[St.iq] at hx;exact hx
   |agg=>simp[St.iq] at hx;exact hx
  clear hx
  split at eZ
  ·rename_i l fg σ1 e1
   split at eZ
   ·rename_i zZ fE e2
    injection eZ with hx
    injection hx with h1 h2
    subst h1 h2
    obtain⟨G1,a1,a2,a3,a4,a5,a6,a7⟩:=HR.imp H e1 (by simpa using hi)
    obtain⟨G',b1,b2,b3,b4,b5,b6,b7⟩:=HR.iq a1 e2 (fun p hp=>hk p (by simp[hp])) a7
    refine⟨G',b1,aR.trans a6 a2 b2,by simp[b3],fun j x p hj hp=>?_,fun x hx c hc q hq=>?_,b6.trans a5,fun q hq=>b7 q (a6 q hq)⟩
    ·cases j with
     |zero=>
      simp at hj hp;subst hj;subst hp
      have bA:=cb.eJ b2 (fun c hc q hq=>a4 c hc q hq) a3
      cases k with
      |ptr=>exact absurd rfl BX.1
      |agg=>exact⟨ps.map PC.val,rfl,bA⟩
      |one=>
       have h1:=BX.2 rfl
       match ps,h1 with
       |[p],_=>exact bA
     |succ j=>exact b4 j x p (by simpa using hj) (by simpa using hp)
    ·cases hx with
     |head=>exact b7 q (a4 c hc q hq)
     |tail _ hx=>exact b5 x hx c hc q hq
   ·cases eZ
  ·cases eZ
theorem RA.jS {ls:List (Bool×List ab)} {aU:List (K×List PC)} (hlen:ls.length=aU.length) (hk:∀p∈aU,p.1≠ .ptr/\(p.1=.one->p.2.length=1))
  (hv:∀(j:Nat) (x:Bool×List ab) (p:K×List PC),ls[j]? =some x->aU[j]? =some p->RV w G h x.1 x.2 (rk p)):RA w G h (jS ls) (v5 aU):=by
 match ls,aU,hlen with
 |[],[],_=>exact⟨[],rfl,rfl,by simp⟩
 |[(ag,cs)],[p],_=>
  have h0:=hv 0 (ag,cs) p rfl rfl
  cases ag with
  |true=>exact h0
  |false=>
   have bA:cb w G h cs [rk p]:=h0
   match cs,bA.1 with
   |[c],_=>exact .inr h0
 |x::y::ls,p::q::aU,hl=>
  refine⟨(p::q::aU).map rk,rfl,by simpa using hl.symm,fun j x' u hj hu=>?_⟩
  rw[List.getElem?_map] at hu
  cases hp:(p::q::aU)[j]? with
  |none=>rw[hp] at hu;cases hu
  |some p'=>rw[hp] at hu;simp at hu;subst hu;exact hv j x' p' hj hp
def yN (P:Program) (T:aF):Prop:=∀f M,aF.find T.pure f=some M->de P f M
def bJ (P:Program) (f:FuncId):Bool:=
 match P.funcs[f]? with
 |some fn=>fn.body.isSome&&(fn.name != "runtime.NumGoroutine")
 |none=>false
theorem ue {f:FuncId} (hc:bJ P f=true) (args:Array Value):(callFunc f args).run P w=.ok (.enter f args) w:=by
 unfold bJ at hc
 split at hc
 ·rename_i fn hf
  simp only[Bool.and_eq_true,bne_iff_ne,ne_eq] at hc
  obtain⟨h1,h2⟩:=hc
  cases hb:fn.body with
  |none=>rw[hb] at h1;cases h1
  |some c=>simp[callFunc,hf,h2,hb]
 ·cases hc
theorem Fr.call (F:Fr B E w0 w) (F':Fr w.heap.size Ex.no w w'):Fr B E w0 w':=
 F.grow (fun b hb=>F'.block b hb id) F'.size F'.os F'.tape F'.output
theorem Wt (r:R B E w0 N σ a w G) {T:aF} (hT:yN P T) {m:Mode} {f:FuncId} {as:List ah} {vals:List Value} {σ1:St} (hN:∀n,o.dst=some n->n<N)
  (aS:(execOp a.eval o).run P w=.ok (.enter f vals.toArray) w) (hl:vals.length=as.length)
  (kx:∀(j:Nat) (x:ah) (v:Value),as[j]? =some x->vals[j]? =some v->RA w G σ.h x v)
  (hx:rL T m o.dst f as σ=some σ1):o.wp P a w (Nx B E w0 N σ1) Q:=by
 unfold rL at hx
 split at hx
 ·rename_i ds iC
  split at hx
  ·rename_i M hM
   split at hx
   ·rename_i rs lA
    split at hx
    ·rename_i ls σ2 qG
     injection hx with hx
     subst hx
     have pn:=r.hr.ji iC hl kx
     unfold Oper.wp
     rw[aS]
     refine(hT f M hM ds rs lA w vals pn).mono fun e w' ⟨aU,p1,p2,p3,p4,p5⟩=>?_
     subst p2
     have fP:∀b,b<w.heap.size->w'.heap[b]? =w.heap[b]? :=fun b hb=>p5.block b hb id
     have H':=r.hr.grow fP p5.size
     have dw:uq B w' G σ.h (aU.flatMap (·.2)):=by
      refine⟨p4.dk,fun pc aT b hb=>?_,?_⟩
      ·obtain⟨n1,n2⟩:=p4.new pc aT b hb
       refine⟨⟨fun hi=>?_,fun q hq iF he=>?_,fun q gr mo sz xs hq bL=>?_⟩,n2,Nat.le_trans r.fr.size n1⟩
       ·have:=r.hr.e7 b hi;omega
       ·have:=(r.hr.own q hq iF).2.2;omega
       ·have:=r.hr.mO hq bL;omega
      ·rw[List.pairwise_iff_getElem]
       intro i j hi hj gL b hb
       exact p4.m8 i j _ _ b (by omega) (List.getElem?_eq_getElem hi) (List.getElem?_eq_getElem hj) hb
     rw[<-p1] at qG
     obtain⟨G',b1,b2,b3,b4,b5,b6,b7⟩:=HR.iq H' qG p3 dw
     have K:aR w G σ.h (fun n=>σ.used n=true) w' G' σ2.h:=aR.trans (fun _ h=>h) (aR.world (fun b hb=>fP b (r.hr.e7 b hb)) _) b2
     have r2:R B E w0 N σ2 a w' G':=r.step b6 b7 K b1 (r.fr.call p5)
     refine⟨G',r2.put (RA.jS b3 p3 b4) ?_ hN⟩
     intro q hq
     match ls,hq with
     |[],hq=>obtain⟨x,hx,_⟩:=hq;simp at hx
     |[(true,cs)],hq=>obtain⟨c,hc,hq⟩:=hq;exact b5 (true,cs) (by simp) c hc q hq
     |[(false,[c])],hq=>exact b5 (false,[c]) (by simp) c (by simp) q hq
     |[(false,[])],hq=>exact absurd hq id
     |[(false,_::_::_)],hq=>exact absurd hq id
     |x::y::ls,hq=>obtain⟨x',eZ,c,hc,hq⟩:=hq;exact b5 x' eZ c hc q hq
    ·cases hx
   ·cases hx
  ·cases hx
 ·cases hx
theorem MG:∀{aU:List (K×List PC)} {ls:List (Bool×List ab)},gu (aU.map fun p=>(p.1,p.2.map PC.er))=some ls->ls=aU.map fun p=>(decide (p.1=.agg),p.2.map fun pc=>ab.c pc.er)
 |[],ls,h=>by simp only[List.map_nil,gu] at h;injection h with h;exact h.symm
 |(k,ps)::aU,ls,h=>by
  cases k with
  |ptr=>simp[gu] at h
  |one=>
   simp only[List.map_cons,gu] at h
   split at h
   ·rename_i zZ e
    injection h with h
    rw[<-h,MG e,List.map_map]
    rfl
   ·cases h
  |agg=>
   simp only[List.map_cons,gu] at h
   split at h
   ·rename_i zZ e
    injection h with h
    rw[<-h,MG e,List.map_map]
    rfl
   ·cases h
theorem Z6 {ls:List (Bool×List ab)} {q:Nat} (bG:∀x∈ls,∀c∈x.2,¬c.ref q):¬(jS ls).ref q:=by
 intro hq
 match ls,hq with
 |[],hq=>obtain⟨x,hx,_⟩:=hq;simp at hx
 |[(true,cs)],hq=>obtain⟨c,hc,hq⟩:=hq;exact bG (true,cs) (by simp) c hc hq
 |[(false,[c])],hq=>exact bG (false,[c]) (by simp) c (by simp) hq
 |[(false,[])],hq=>exact hq
 |[(false,_::_::_)],hq=>exact hq
 |x::y::ls,hq=>obtain⟨x',eZ,c,hc,hq⟩:=hq;exact bG x' eZ c hc hq
theorem adE (r:R B E w0 N σ a w G) {T:aF} (hT:yN P T) {f:FuncId} {as:List ah} {vals:List Value} {z:ah} (hN:∀n,o.dst=some n->n<N)
  (aS:(execOp a.eval o).run P w=.ok (.enter f vals.toArray) w) (hl:vals.length=as.length)
  (kx:∀(j:Nat) (x:ah) (v:Value),as[j]? =some x->vals[j]? =some v->RA w G σ.h x v)
  (hx:uF T f as σ.h=some z):o.wp P a w (Nx B E w0 N (σ.put o.dst z)) Q:=by
 unfold uF at hx
 split at hx
 ·rename_i ds iC
  split at hx
  ·rename_i M hM
   split at hx
   ·rename_i rs lA
    split at hx
    ·rename_i ls qG
     injection hx with hx
     subst hx
     have pn:=r.hr.ji iC hl kx
     unfold Oper.wp
     rw[aS]
     refine(hT f M hM ds rs lA w vals pn).mono fun e w' ⟨aU,p1,p2,p3,p4,p5⟩=>?_
     subst p2
     have fP:∀b,b<w.heap.size->w'.heap[b]? =w.heap[b]? :=fun b hb=>p5.block b hb id
     have H':=r.hr.grow fP p5.size
     rw[<-p1] at qG
     have nh:=MG qG
     subst nh
     let S:Nat->Prop:=fun b=>∃pc∈aU.flatMap (·.2),aK b pc
     have hS:∀b,S b->w.heap.size<=b/\b<w'.heap.size:=fun b ⟨pc,aT,hb⟩=>by
      obtain⟨n1,n2⟩:=p4.new pc aT b (.inl hb)
      exact⟨n1,n2.lt⟩
     have H2:HR B E w' ⟨fun b=>G.Im b\/S b,G.g⟩ σ.h σ.used []:=H'.qR S (fun b hb=>(hS b hb).2) (fun b hb n hn hl he=>by have:=(hS b hb).1;have:=(r.hr.own n hn hl).2.2;omega)
      (fun b hb n gr sz xs hn hF=>by have:=(hS b hb).1;have:=r.hr.mO hn hF;omega) (fun b hb=>.inl (Nat.le_trans r.fr.size (hS b hb).1))
     have K:aR w G σ.h (fun n=>σ.used n=true) w' ⟨fun b=>G.Im b\/S b,G.g⟩ σ.h:=aR.trans (fun _ h=>h) (aR.world (fun b hb=>fP b (r.hr.e7 b hb)) _) (aR.qR S _)
     have r2:R B E w0 N σ a w' ⟨fun b=>G.Im b\/S b,G.g⟩:=r.step rfl (fun _ h=>h) K H2 (r.fr.call p5)
     have bA:∀p∈aU,cb w' ⟨fun b=>G.Im b\/S b,G.g⟩ σ.h (p.2.map fun pc=>ab.c pc.er) (p.2.map PC.val):=fun p hp=>by
      refine⟨by simp,fun j c u hj hu=>?_⟩
      rw[List.getElem?_map] at hj hu
      cases gW:p.2[j]? with
      |none=>rw[gW] at hj;cases hj
      |some pc=>
       rw[gW] at hj hu
       simp at hj hu
       subst hj hu
       have hm:pc∈aU.flatMap (·.2):=List.mem_flatMap.2 ⟨p,hp,List.mem_of_getElem? gW⟩
       exact⟨PC.hY pc,pc,rfl,rfl,(p4.dk pc hm).1,fun b hb=>.inr ⟨pc,hm,hb⟩⟩
     refine⟨_,r2.put (RA.jS (by simp) p3 (fun j x p hj hp=>?_)) (fun q hq=>?_) hN⟩
     ·rw[List.getElem?_map,hp] at hj
      simp at hj
      subst hj
      have h1:=bA p (List.mem_of_getElem? hp)
      obtain⟨k,ps⟩:=p
      have BX:=p3 (k,ps) (List.mem_of_getElem? hp)
      cases k with
      |ptr=>exact absurd rfl BX.1
      |agg=>exact⟨ps.map PC.val,rfl,h1⟩
      |one=>
       have h2:=BX.2 rfl
       match ps,h2 with
       |[p],_=>exact h1
     ·exfalso
      have bG:∀x∈aU.map (fun p=>(decide (p.1=Am.K.agg),p.2.map fun pc=>ab.c pc.er)),∀c∈x.2,¬c.ref q:=fun x hx c hc hq=>by
       obtain⟨p,_,rfl⟩:=List.mem_map.1 hx
       obtain⟨pc,_,rfl⟩:=List.mem_map.1 hc
       exact hq
      exact Z6 bG hq
    ·cases hx
   ·cases hx
  ·cases hx
 ·cases hx
def fx:List Operand->List MO->Bool
 |[],[]=>true
 |x::xs,m::ms=>bd x m&&fx xs ms
 |_,_=>false
theorem R.uP (r:R B E w0 N σ a w G):∀{xs:List Operand} {ms:List MO},fx xs ms=true->xs.length=ms.length/\
  ∀(j:Nat) (x:ah) (v:Value),(ms.map σ.ev)[j]? =some x->(xs.map a.eval)[j]? =some v->RA w G σ.h x v
 |[],[],_=>⟨rfl,by simp⟩
 |x::xs,m::ms,hc=>by
  simp only[fx,Bool.and_eq_true] at hc
  obtain⟨i1,i2⟩:=r.uP hc.2
  refine⟨by simp[i1],fun j x' v hj hv=>?_⟩
  cases j with
  |zero=>simp at hj hv;subst hj;subst hv;exact(r.ev hc.1).1
  |succ j=>exact i2 j x' v (by simpa using hj) (by simpa using hv)
 |[],_::_,hc=>by simp[fx] at hc
 |_::_,[],hc=>by simp[fx] at hc
theorem ads (r:R B E w0 N σ a w G) {T:aF} (hT:yN P T) {m:Mode} {f:FuncId} {xs:Array Operand} {ms:List MO} {ts:Array TypeId} {σ1:St} (hN:∀n,o.dst=some n->n<N)
  (ho:o.op=.call {callee:=.value (.func f),args:=xs,argTypes:=ts}) (hf:bJ P f=true) (hm:fx xs.toList ms=true)
  (hx:rL T m o.dst f (ms.map σ.ev) σ=some σ1):o.wp P a w (Nx B E w0 N σ1) Q:=by
 obtain⟨e1,e2⟩:=r.uP hm
 refine Wt r hT (vals:=xs.toList.map a.eval) hN ?_ (by simpa using e1) e2 hx
 have he:(xs.toList.map a.eval).toArray=xs.map a.eval:=by apply Array.ext';simp
 rw[he]
 simp[execOp,ho,resolve,Deferred.ofValue,invoke,Act.eval,ue hf]
theorem adt (r:R B E w0 N σ a w G) {T:aF} (hT:yN P T) {f:FuncId} {xs:Array Operand} {ms:List MO} {ts:Array TypeId} {z:ah} (hN:∀n,o.dst=some n->n<N)
  (ho:o.op=.call {callee:=.value (.func f),args:=xs,argTypes:=ts}) (hf:bJ P f=true) (hm:fx xs.toList ms=true)
  (hx:uF T f (ms.map σ.ev) σ.h=some z):o.wp P a w (Nx B E w0 N (σ.put o.dst z)) Q:=by
 obtain⟨e1,e2⟩:=r.uP hm
 refine adE r hT (vals:=xs.toList.map a.eval) hN ?_ (by simpa using e1) e2 hx
 have he:(xs.toList.map a.eval).toArray=xs.map a.eval:=by apply Array.ext';simp
 rw[he]
 simp[execOp,ho,resolve,Deferred.ofValue,invoke,Act.eval,ue hf]
theorem adv (r:R B E w0 N σ a w G) {T:aF} (hT:yN P T) {m:Mode} {f:FuncId} {x:Operand} {mx:MO} {bI:List ab} {xs:Array Operand} {ms:List MO} {ts:Array TypeId} {σ1:St} (hN:∀n,o.dst=some n->n<N)
  (ho:o.op=.call {callee:=.value x,args:=xs,argTypes:=ts}) (hf:bJ P f=true) (zw:bd x mx=true) (hm:fx xs.toList ms=true) (he:σ.ev mx=.one (.fn f bI))
  (hx:rL T m o.dst f (ms.map σ.ev++bI.map .one) σ=some σ1):o.wp P a w (Nx B E w0 N σ1) Q:=by
 obtain⟨e1,e2⟩:=r.uP hm
 obtain⟨x1,x2⟩:=r.ev zw
 rw[he] at x1
 obtain⟨vs,v1,v2,v3⟩:=(x1.dB (by simp)).1
 refine Wt r hT (vals:=xs.toList.map a.eval++vs) hN ?_ (by simp[e1,v2]) (fun j y v hj hv=>?_) hx
 ·have rR:(xs.toList.map a.eval++vs).toArray=xs.map a.eval++vs.toArray:=by apply Array.ext';simp
  rw[rR]
  simp[execOp,ho,resolve,v1,Deferred.ofValue,invoke,ue hf]
 ·have Bt:xs.size=ms.length:=by simpa using e1
  by_cases bS:j<ms.length
  ·rw[List.getElem?_append_left (by simpa using bS)] at hj
   rw[List.getElem?_append_left (by simp;omega)] at hv
   exact e2 j y v hj hv
  ·rw[List.getElem?_append_right (by simp;omega)] at hj
   rw[List.getElem?_append_right (by simp;omega)] at hv
   simp only[List.length_map,<-e1] at hj hv
   rw[List.getElem?_map] at hj
   simp only[e1] at hj hv
   cases hc:bI[j - ms.length]? with
   |none=>rw[hc] at hj;cases hj
   |some c=>
    rw[hc] at hj
    simp at hj
    subst hj
    obtain⟨q1,q2⟩:=v3 _ c v hc hv
    refine RA.dS q1 ?_
    by_cases w5:c.fR=false
    ·rw[qh _ _ _ _ _ w5];exact q2
    ·cases c<;>first|exact q2.elim|(simp[ab.fR] at w5)
end
end Go.Am
