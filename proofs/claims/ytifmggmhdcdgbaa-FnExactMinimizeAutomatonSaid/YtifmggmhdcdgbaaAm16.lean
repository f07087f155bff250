/- Am16: results of calls come in; calls. No condition. -/
import Derived.Test.YtifmggmhdcdgbaaAm15
set_option linter.unusedVariables false
namespace Go.Am
section
variable {B:Nat} {E:Ex} {w0 w w':World} {G G':Gh} {h h':Nat->Option aq} {used used':Nat->Bool} {tk:List PC} {N:Nat}
variable {P:Program} {o:Oper} {a:Act} {σ σ':St} {Q:Exit->Act->World->Prop}
theorem HR.aeN (H:HR B E w G h used []) {n sz cap:Nat} {x:Option Addr} {xs:List (List PC)} {m:Mode} (hg:Good w (.list sz x cap xs)) (hs:Sep (.list sz x cap xs)) (ht:BW w (.list sz x cap xs))
  (hl:∀b,jr b (.list sz x cap xs)->oJ G h b/\dr w b/\B<=b) (hn:used n=false):
  ∃G',HR B E w G' (av h n (some (.row true m sz (xs.map fun e=>e.map PC.er)))) (av used n true) []/\
   aY w G h (fun n=>used n=true) w G' (av h n (some (.row true m sz (xs.map fun e=>e.map PC.er))))/\
   RC w G' (av h n (some (.row true m sz (xs.map fun e=>e.map PC.er)))) (.sl n sz 0 xs.length) (PC.val (.list sz x cap xs))/\
   ∀b,oJ G h b->¬jr b (.list sz x cap xs)->oJ G' (av h n (some (.row true m sz (xs.map fun e=>e.map PC.er)))) b:=by
 obtain⟨eO,kl,z7⟩:=ht
 have hF:∀b,aV b xs->aR b (.list sz x cap xs):=fun b ⟨k,j,c,h1,h2⟩=>.there _ _ _ _ k j c h1 h2
 have kt:io xs:=by cases hs with|list _ _ _ _ h1 h2 h3=>exact⟨h1,h3⟩
 let S:Nat->Prop:=fun b=>m≠ .live/\aV b xs
 have H1:HR B E w ⟨fun b=>G.Im b\/S b,G.g⟩ h used []:=H.qg S (fun b hb=>(hl b (.inl (hF b hb.2))).2.1.lt)
  (fun b hb q hq jB he=>(hl b (.inl (hF b hb.2))).1.2.1 q hq jB he.symm) (fun b hb q gr sz xs hq=>(hl b (.inl (hF b hb.2))).1.2.2 q gr _ sz xs hq) (fun b hb=>.inl (hl b (.inl (hF b hb.2))).2.2)
 obtain⟨p,aee,fz,CW,M1,aef,aec⟩:∃p:PB,(p.nl=true->xs=[]/\(true=true->p.cap=0))/\p.px=xs/\
   (p.nl=false->oJ ⟨fun b=>G.Im b\/S b,G.g⟩ h p.b/\dr w p.b/\B<=p.b/\∀b,aV b xs->b≠p.b)/\
   (p.nl=false->oL w p.b p.o sz xs/\xs.length<=p.cap/\EX w p sz)/\jR p sz 0 xs.length (PC.val (.list sz x cap xs))/\(p.nl=false->jr p.b (.list sz x cap xs)):=by
  by_cases Mq:cap=0
  ·subst Mq
   have hx:xs=[]:=List.eq_nil_of_length_eq_zero (by omega)
   subst hx
   exact⟨⟨true,0,0,0,[],x⟩,fun _=>⟨rfl,fun _=>rfl⟩,rfl,(fun hf=>by cases hf),(fun hf=>by cases hf),.inl ⟨rfl,rfl,rfl,rfl⟩,(fun hf=>by cases hf)⟩
  ·obtain⟨b,o,cur,e,rfl,hh,bG,xP,ct⟩:=z7.resolve_left Mq
   have hT:jr b (.list sz (some (ad b o)) cap xs):=.inr ⟨_,_,_,_,rfl,Mq⟩
   obtain⟨l1,l2,l3⟩:=hl b hT
   have aC:∀b',aV b' xs->b'≠b:=fun b' ⟨k,j,c,h1,h2⟩ he=>ct k j c h1 (he▸h2)
   refine⟨⟨false,b,o,cap,xs,none⟩,(fun hf=>by cases hf),rfl,fun _=>⟨⟨fun hi=>hi.elim l1.1 (fun hS=>aC b hS.2 rfl),l1.2⟩,l2,l3,aC⟩,fun _=>⟨?_,kl,xP,cur,e,hh,bG⟩,.inr ⟨rfl,some (ad b o),by simp[PC.val],by simpa using kl,fun _=>by simp⟩,fun _=>hT⟩
   cases hg with
   |nil _ _ _ _=>exact⟨by simp,by rintro k j c ⟨e,he,_⟩;simp at he,by rintro k j c ⟨e,he,_⟩;simp at he⟩
   |cons _ _ _ _ _ h1 h2 h3 h4 h5 h6=>exact⟨h4,h5,h6⟩
 subst fz
 have jZ:tn B E w ⟨fun b=>G.Im b\/S b,G.g⟩ true m sz (p.px.map fun e=>e.map PC.er) p:=by
  refine⟨eO,rfl,aee,fun hf=>⟨(CW hf).2.1,(M1 hf).1,(M1 hf).2.1⟩,fun hf _=>(M1 hf).2.2,?_⟩
  cases hm:m with
  |aF=>exact fun b hb=>.inr ⟨by simp[hm],hb⟩
  |aa=>exact⟨fun b hb=>⟨.inr ⟨by simp[hm],hb⟩,(hl b (.inl (hF b hb))).2.1,.inl (hl b (.inl (hF b hb))).2.2⟩,kt⟩
  |live=>exact⟨fun b hb=>⟨fun hi=>hi.elim (hl b (.inl (hF b hb))).1.1 (fun hS=>hS.1 hm),(hl b (.inl (hF b hb))).2.1,.inl (hl b (.inl (hF b hb))).2.2⟩,kt⟩
 have Hn:=H1.insert (w':=w) (n:=n) (blk:=.row true m sz (p.px.map fun e=>e.map PC.er)) (p:=p) hn (fun _ _=>rfl) (Nat.le_refl _)
  (fun hf=>⟨(CW hf).1,.inl (CW hf).2.2.1,(CW hf).2.1.lt⟩) (fun cs c q hb=>by cases hb) (by exact jZ)
  (fun gr m' aK ar hb hm n' bi nC kG il h0 jd b cl=>(hl b (.inl (hF b cl))).1.2.2 n' bi nC kG il h0)
  (fun gr aK ar hb b cl=>⟨fun hf=>(CW hf).2.2.2 b cl,fun n' h0 kS he=>(hl b (.inl (hF b cl))).1.2.1 n' h0 kS he.symm⟩)
  (fun gr m' aK ar hb hm i pc b hi=>by simp at hi)
 refine⟨_,Hn,aY.trans (u2:=fun n=>used n=true) (fun _ h=>h) (aY.qg S _) (aY.insert H1 hn (fun _ _=>rfl)),fun _=>by simpa[bD] using aef,fun b hb Mj=>?_⟩
 refine⟨fun hi=>hi.elim hb.1 (fun hS=>Mj (.inl (hF b hS.2))),fun q hq jB he=>?_,fun q gr mo aK ar hq cl=>?_⟩
 ·by_cases fm:q=n
  ·subst fm
   simp only[bD] at jB he
   exact Mj (he▸aec jB)
  ·rw[cd _ _ _ _ fm] at hq
   simp only[cd _ _ _ _ fm] at jB he
   exact hb.2.1 q hq jB he
 ·by_cases fm:q=n
  ·subst fm
   simp only[bD] at cl
   exact Mj (.inl (hF b cl))
  ·rw[cd _ _ _ _ fm] at hq
   simp only[cd _ _ _ _ fm] at cl
   exact hb.2.2 q gr mo aK ar hq cl
structure tj (B:Nat) (w:World) (G:Gh) (h:Nat->Option aq) (ps:List PC):Prop where
 dV:∀pc∈ps,Good w pc/\Sep pc/\BW w pc
 lone:∀pc∈ps,∀b,jr b pc->oJ G h b/\dr w b/\B<=b
 nb:ps.Pairwise fun p q=>∀b,jr b p->¬jr b q
theorem tj.tail {p:PC} {ps:List PC} (hi:tj B w G h (p::ps)) (hL:∀b,oJ G h b->¬jr b p->oJ G' h' b):tj B w G' h' ps:=
 ⟨fun q hq=>hi.dV q (by simp[hq]),fun q hq b hb=>⟨hL b (hi.lone q (by simp[hq]) b hb).1 (fun hp=>(List.pairwise_cons.1 hi.nb).1 q hq b hp hb),(hi.lone q (by simp[hq]) b hb).2⟩,(List.pairwise_cons.1 hi.nb).2⟩
theorem HR.imp {m:Mode}:∀{ps qs:List PC} {σ σ1:St} {G:Gh} {nm e7:Nat} {l:List ah},HR B E w G σ.h σ.used []->σ.imp m nm (ps.map PC.er)=some (l,e7,σ1)->tj B w G σ.h (ps++qs)->
  ∃G',HR B E w G' σ1.h σ1.used []/\aY w G σ.h (fun n=>σ.used n=true) w G' σ1.h/\cA w G' σ1.h l (ps.map PC.val)/\(∀c∈l,∀q,c.ref q->σ1.used q=true)/\σ1.env=σ.env/\
   (∀q,σ.used q=true->σ1.used q=true)/\tj B w G' σ1.h qs
 |[],qs,σ,σ1,G,nm,e7,l,H,hx,hi=>by
  simp only[List.map_nil,St.imp] at hx
  injection hx with hx
  injection hx with h1 h2
  injection h2 with h2 h3
  subst h1 h3
  exact⟨G,H,aY.refl _ _ _ _,⟨rfl,by simp⟩,by simp,rfl,fun _ h=>h,by simpa using hi⟩
 |p::ps,qs,σ,σ2,G,nm,e7,l,H,hx,hi=>by
  have eD:∀(x:C) (hx:(match σ.imp m nm (ps.map PC.er) with|some (l,e7,σ2)=>some (ah.c x::l,e7,σ2)|none=>none)=some (l,e7,σ2)) (hp:p.er=x) (ct:∀b,¬jr b p) (hg:Good w p),
    ∃G',HR B E w G' σ2.h σ2.used []/\aY w G σ.h (fun n=>σ.used n=true) w G' σ2.h/\cA w G' σ2.h l ((p::ps).map PC.val)/\(∀c∈l,∀q,c.ref q->σ2.used q=true)/\σ2.env=σ.env/\
     (∀q,σ.used q=true->σ2.used q=true)/\tj B w G' σ2.h qs:=by
   intro x hx hp ct hg
   split at hx
   ·rename_i l' DA gF e1
    injection hx with hx
    injection hx with h1 h2
    injection h2 with h2 h3
    subst h1 h2 h3
    obtain⟨G',b1,b2,b3,b4,b5,b6,b7⟩:=HR.imp H e1 (hi.tail (fun b hb _=>hb))
    refine⟨G',b1,b2,⟨by simp[b3.1],fun j c u hj hu=>?_⟩,fun c hc q hq=>?_,b5,b6,b7⟩
    ·cases j with
     |zero=>
      simp at hj hu;subst hj;subst hu
      exact⟨PC.kI p,p,hp,rfl,hg,fun b hb=>absurd (.inl hb) (ct b)⟩
     |succ j=>exact b3.2 j c u (by simpa using hj) (by simpa using hu)
    ·cases hc with
     |head=>exact absurd hq id
     |tail _ hc=>exact b4 c hc q hq
   ·cases hx
  cases p with
  |int k n=>exact eD (.int k n) (by simp only[List.map_cons,St.imp,PC.er] at hx;exact hx) (by simp[PC.er]) (fun b hb=>by rcases hb with hb|⟨_,_,_,_,hb,_⟩<;>cases hb) (.int _ _)
  |bool b=>exact eD (.bool b) (by simp only[List.map_cons,St.imp,PC.er] at hx;exact hx) (by simp[PC.er]) (fun b hb=>by rcases hb with hb|⟨_,_,_,_,hb,_⟩<;>cases hb) (.bool _)
  |list sz x cap xs=>
   simp only[List.map_cons,PC.dw,St.imp] at hx
   split at hx
   ·rename_i σ1 e1
    split at hx
    ·rename_i l' DA gF e2
     injection hx with hx
     injection hx with h1 h2
     injection h2 with h2 h3
     subst h1 h2 h3
     obtain⟨hn,rfl⟩:=mJ e1
     obtain⟨g1,g2,g3⟩:=hi.dV (.list sz x cap xs) (by simp)
     obtain⟨G1,a1,a2,a3,a4⟩:=H.aeN (m:=m) g1 g2 g3 (hi.lone (.list sz x cap xs) (by simp)) hn
     obtain⟨G',b1,b2,b3,b4,b5,b6,b7⟩:=HR.imp a1 e2 (hi.tail a4)
     have z8:∀q,σ.used q=true->av σ.used nm true q=true:=fun q hq=>qI _ _ hq
     refine⟨G',b1,aY.trans z8 a2 b2,⟨by simp[b3.1],fun j c u hj hu=>?_⟩,fun c hc q hq=>?_,b5,fun q hq=>b6 q (z8 q hq),b7⟩
     ·cases j with
      |zero=>
       simp at hj hu;subst hj;subst hu
       exact⟨rfl,a3.eV b2 fun q hq=>by have dW:q=nm:=hq;subst dW;exact bD _ _ _⟩
      |succ j=>exact b3.2 j c u (by simpa using hj) (by simpa using hu)
     ·cases hc with
      |head=>have dW:q=nm:=hq;subst dW;exact b6 _ (bD _ _ _)
      |tail _ hc=>exact b4 c hc q hq
    ·cases hx
   ·cases hx
theorem HR.jK {m:Mode}:∀{aU:List (K×List PC)} {σ σ1:St} {G:Gh} {nm:Nat} {ls:List (Bool×List ah)},HR B E w G σ.h σ.used []->σ.jK m nm (aU.map fun p=>(p.1,p.2.map PC.er))=some (ls,σ1)->
  (∀p∈aU,p.1≠ .ptr/\(p.1=.one->p.2.length=1))->tj B w G σ.h (aU.flatMap (·.2))->
  ∃G',HR B E w G' σ1.h σ1.used []/\aY w G σ.h (fun n=>σ.used n=true) w G' σ1.h/\ls.length=aU.length/\
   (∀(j:Nat) (x:Bool×List ah) (p:K×List PC),ls[j]? =some x->aU[j]? =some p->RV w G' σ1.h x.1 x.2 (qz p))/\(∀x∈ls,∀c∈x.2,∀q,c.ref q->σ1.used q=true)/\σ1.env=σ.env/\
   (∀q,σ.used q=true->σ1.used q=true)
 |[],σ,σ1,G,nm,ls,H,hx,hk,hi=>by
  simp only[List.map_nil,St.jK] at hx
  injection hx with hx
  injection hx with h1 h2
  subst h1 h2
  exact⟨G,H,aY.refl _ _ _ _,rfl,by simp,by simp,rfl,fun _ h=>h⟩
 |(k,ps)::aU,σ,σ2,G,nm,ls,H,hx,hk,hi=>by
  have zU:=hk (k,ps) (by simp)
  have eT:(match σ.imp m nm (ps.map PC.er) with
   |some (l,e7,σ1)=>match σ1.jK m e7 (aU.map fun p=>(p.1,p.2.map PC.er)) with
    |some (ls,σ2)=>some ((decide (k=.agg),l)::ls,σ2)
    |none=>none
   |none=>none)=some (ls,σ2):=by
   cases k with
   |ptr=>exact absurd rfl zU.1
   |one=>simp[St.jK] at hx;exact hx
   |agg=>simp[St.jK] at hx;exact hx
  clear hx
  split at eT
  ·rename_i l e7 σ1 e1
   split at eT
   ·rename_i ym gF e2
    injection eT with hx
    injection hx with h1 h2
    subst h1 h2
    obtain⟨G1,a1,a2,a3,a4,a5,a6,a7⟩:=HR.imp H e1 (by simpa using hi)
    obtain⟨G',b1,b2,b3,b4,b5,b6,b7⟩:=HR.jK a1 e2 (fun p hp=>hk p (by simp[hp])) a7
    refine⟨G',b1,aY.trans a6 a2 b2,by simp[b3],fun j x p hj hp=>?_,fun x hx c hc q hq=>?_,b6.trans a5,fun q hq=>b7 q (a6 q hq)⟩
    ·cases j with
     |zero=>
      simp at hj hp;subst hj;subst hp
      have bQ:=cA.eV b2 (fun c hc q hq=>a4 c hc q hq) a3
      cases k with
      |ptr=>exact absurd rfl zU.1
      |agg=>exact⟨ps.map PC.val,rfl,bQ⟩
      |one=>
       have h1:=zU.2 rfl
       match ps,h1 with
       |[p],_=>exact bQ
     |succ j=>exact b4 j x p (by simpa using hj) (by simpa using hp)
    ·cases hx with
     |head=>exact b7 q (a4 c hc q hq)
     |tail _ hx=>exact b5 x hx c hc q hq
   ·cases eT
  ·cases eT
theorem RA.me {ls:List (Bool×List ah)} {aU:List (K×List PC)} (hlen:ls.length=aU.length) (hk:∀p∈aU,p.1≠ .ptr/\(p.1=.one->p.2.length=1))
  (hv:∀(j:Nat) (x:Bool×List ah) (p:K×List PC),ls[j]? =some x->aU[j]? =some p->RV w G h x.1 x.2 (qz p)):RA w G h (me ls) (wA aU):=by
 match ls,aU,hlen with
 |[],[],_=>exact⟨[],rfl,rfl,by simp⟩
 |[(ag,cs)],[p],_=>
  have h0:=hv 0 (ag,cs) p rfl rfl
  cases ag with
  |true=>exact h0
  |false=>
   have bQ:cA w G h cs [qz p]:=h0
   match cs,bQ.1 with
   |[c],_=>exact .inr h0
 |x::y::ls,p::q::aU,hl=>
  refine⟨(p::q::aU).map qz,rfl,by simpa using hl.symm,fun j x' u hj hu=>?_⟩
  rw[List.getElem?_map] at hu
  cases hp:(p::q::aU)[j]? with
  |none=>rw[hp] at hu;cases hu
  |some p'=>rw[hp] at hu;simp at hu;subst hu;exact hv j x' p' hj hp
def xb (P:Program) (T:bh):Prop:=∀f M,bh.find T.pure f=some M->cJ P f M
def bF (P:Program) (f:FuncId):Bool:=
 match P.funcs[f]? with
 |some fn=>fn.body.isSome&&(fn.name != "runtime.NumGoroutine")
 |none=>false
theorem Be {f:FuncId} (hc:bF P f=true) (args:Array Value):(callFunc f args).run P w=.ok (.enter f args) w:=by
 unfold bF at hc
 split at hc
 ·rename_i fn hf
  simp only[Bool.and_eq_true,bne_iff_ne,ne_eq] at hc
  obtain⟨h1,h2⟩:=hc
  cases hb:fn.body with
  |none=>rw[hb] at h1;cases h1
  |some c=>simp[callFunc,hf,h2,hb]
 ·cases hc
theorem Fr.call (F:Fr B E w0 w) (F':Fr w.heap.size Ex.no w w'):Fr B E w0 w':=
 F.grow (fun b hb=>F'.block b hb id) F'.size F'.os F'.tape F'.output
theorem U1 (r:R B E w0 N σ a w G) {T:bh} (hT:xb P T) {m:Mode} {f:FuncId} {as:List aj} {vals:List Value} {σ1:St} (hN:∀n,o.dst=some n->n<N)
  (bo:(execOp a.eval o).run P w=.ok (.enter f vals.toArray) w) (hl:vals.length=as.length)
  (xE:∀(j:Nat) (x:aj) (v:Value),as[j]? =some x->vals[j]? =some v->RA w G σ.h x v)
  (hx:qQ T m o.dst f as σ=some σ1):o.wp P a w (Nx B E w0 N σ1) Q:=by
 unfold qQ at hx
 split at hx
 ·rename_i ds ni
  split at hx
  ·rename_i M hM
   split at hx
   ·rename_i rs rc
    split at hx
    ·rename_i ls σ2 vA
     injection hx with hx
     subst hx
     have qX:=r.hr.kJ ni hl xE
     unfold Oper.wp
     rw[bo]
     refine(hT f M hM ds rs rc w vals qX).mono fun e w' ⟨aU,p1,p2,p3,p4,p5⟩=>?_
     subst p2
     have g0:∀b,b<w.heap.size->w'.heap[b]? =w.heap[b]? :=fun b hb=>p5.block b hb id
     have H':=r.hr.grow g0 p5.size
     have fG:tj B w' G σ.h (aU.flatMap (·.2)):=by
      refine⟨p4.dV,fun pc bd b hb=>?_,?_⟩
      ·obtain⟨n1,n2⟩:=p4.new pc bd b hb
       refine⟨⟨fun hi=>?_,fun q hq jB he=>?_,fun q gr mo sz xs hq cl=>?_⟩,n2,Nat.le_trans r.fr.size n1⟩
       ·have:=r.hr.fL b hi;omega
       ·have:=(r.hr.own q hq jB).2.2;omega
       ·have:=r.hr.qA hq cl;omega
      ·rw[List.pairwise_iff_getElem]
       intro i j hi hj ko b hb
       exact p4.nb i j _ _ b (by omega) (List.getElem?_eq_getElem hi) (List.getElem?_eq_getElem hj) hb
     rw[<-p1] at vA
     obtain⟨G',b1,b2,b3,b4,b5,b6,b7⟩:=HR.jK H' vA p3 fG
     have K:aY w G σ.h (fun n=>σ.used n=true) w' G' σ2.h:=aY.trans (fun _ h=>h) (aY.world (fun b hb=>g0 b (r.hr.fL b hb)) _) b2
     have r2:R B E w0 N σ2 a w' G':=r.step b6 b7 K b1 (r.fr.call p5)
     refine⟨G',r2.put (RA.me b3 p3 b4) ?_ hN⟩
     intro q hq
     match ls,hq with
     |[],hq=>obtain⟨x,hx,_⟩:=hq;simp at hx
     |[(true,cs)],hq=>obtain⟨c,hc,hq⟩:=hq;exact b5 (true,cs) (by simp) c hc q hq
     |[(false,[c])],hq=>exact b5 (false,[c]) (by simp) c (by simp) q hq
     |[(false,[])],hq=>exact absurd hq id
     |[(false,_::_::_)],hq=>exact absurd hq id
     |x::y::ls,hq=>obtain⟨x',eT,c,hc,hq⟩:=hq;exact b5 x' eT c hc q hq
    ·cases hx
   ·cases hx
  ·cases hx
 ·cases hx
theorem K4:∀{aU:List (K×List PC)} {ls:List (Bool×List ah)},gX (aU.map fun p=>(p.1,p.2.map PC.er))=some ls->ls=aU.map fun p=>(decide (p.1=.agg),p.2.map fun pc=>ah.c pc.er)
 |[],ls,h=>by simp only[List.map_nil,gX] at h;injection h with h;exact h.symm
 |(k,ps)::aU,ls,h=>by
  cases k with
  |ptr=>simp[gX] at h
  |one=>
   simp only[List.map_cons,gX] at h
   split at h
   ·rename_i ym e
    injection h with h
    rw[<-h,K4 e,List.map_map]
    rfl
   ·cases h
  |agg=>
   simp only[List.map_cons,gX] at h
   split at h
   ·rename_i ym e
    injection h with h
    rw[<-h,K4 e,List.map_map]
    rfl
   ·cases h
theorem YM {ls:List (Bool×List ah)} {q:Nat} (ct:∀x∈ls,∀c∈x.2,¬c.ref q):¬(me ls).ref q:=by
 intro hq
 match ls,hq with
 |[],hq=>obtain⟨x,hx,_⟩:=hq;simp at hx
 |[(true,cs)],hq=>obtain⟨c,hc,hq⟩:=hq;exact ct (true,cs) (by simp) c hc hq
 |[(false,[c])],hq=>exact ct (false,[c]) (by simp) c (by simp) hq
 |[(false,[])],hq=>exact hq
 |[(false,_::_::_)],hq=>exact hq
 |x::y::ls,hq=>obtain⟨x',eT,c,hc,hq⟩:=hq;exact ct x' eT c hc hq
theorem abU (r:R B E w0 N σ a w G) {T:bh} (hT:xb P T) {f:FuncId} {as:List aj} {vals:List Value} {z:aj} (hN:∀n,o.dst=some n->n<N)
  (bo:(execOp a.eval o).run P w=.ok (.enter f vals.toArray) w) (hl:vals.length=as.length)
  (xE:∀(j:Nat) (x:aj) (v:Value),as[j]? =some x->vals[j]? =some v->RA w G σ.h x v)
  (hx:tv T f as σ.h=some z):o.wp P a w (Nx B E w0 N (σ.put o.dst z)) Q:=by
 unfold tv at hx
 split at hx
 ·rename_i ds ni
  split at hx
  ·rename_i M hM
   split at hx
   ·rename_i rs rc
    split at hx
    ·rename_i ls vA
     injection hx with hx
     subst hx
     have qX:=r.hr.kJ ni hl xE
     unfold Oper.wp
     rw[bo]
     refine(hT f M hM ds rs rc w vals qX).mono fun e w' ⟨aU,p1,p2,p3,p4,p5⟩=>?_
     subst p2
     have g0:∀b,b<w.heap.size->w'.heap[b]? =w.heap[b]? :=fun b hb=>p5.block b hb id
     have H':=r.hr.grow g0 p5.size
     rw[<-p1] at vA
     have zV:=K4 vA
     subst zV
     let S:Nat->Prop:=fun b=>∃pc∈aU.flatMap (·.2),aR b pc
     have hS:∀b,S b->w.heap.size<=b/\b<w'.heap.size:=fun b ⟨pc,bd,hb⟩=>by
      obtain⟨n1,n2⟩:=p4.new pc bd b (.inl hb)
      exact⟨n1,n2.lt⟩
     have H2:HR B E w' ⟨fun b=>G.Im b\/S b,G.g⟩ σ.h σ.used []:=H'.qg S (fun b hb=>(hS b hb).2) (fun b hb n hn hl he=>by have:=(hS b hb).1;have:=(r.hr.own n hn hl).2.2;omega)
      (fun b hb n gr sz xs hn hF=>by have:=(hS b hb).1;have:=r.hr.qA hn hF;omega) (fun b hb=>.inl (Nat.le_trans r.fr.size (hS b hb).1))
     have K:aY w G σ.h (fun n=>σ.used n=true) w' ⟨fun b=>G.Im b\/S b,G.g⟩ σ.h:=aY.trans (fun _ h=>h) (aY.world (fun b hb=>g0 b (r.hr.fL b hb)) _) (aY.qg S _)
     have r2:R B E w0 N σ a w' ⟨fun b=>G.Im b\/S b,G.g⟩:=r.step rfl (fun _ h=>h) K H2 (r.fr.call p5)
     have bQ:∀p∈aU,cA w' ⟨fun b=>G.Im b\/S b,G.g⟩ σ.h (p.2.map fun pc=>ah.c pc.er) (p.2.map PC.val):=fun p hp=>by
      refine⟨by simp,fun j c u hj hu=>?_⟩
      rw[List.getElem?_map] at hj hu
      cases mD:p.2[j]? with
      |none=>rw[mD] at hj;cases hj
      |some pc=>
       rw[mD] at hj hu
       simp at hj hu
       subst hj hu
       have hm:pc∈aU.flatMap (·.2):=List.mem_flatMap.2 ⟨p,hp,List.mem_of_getElem? mD⟩
       exact⟨PC.kI pc,pc,rfl,rfl,(p4.dV pc hm).1,fun b hb=>.inr ⟨pc,hm,hb⟩⟩
     refine⟨_,r2.put (RA.me (by simp) p3 (fun j x p hj hp=>?_)) (fun q hq=>?_) hN⟩
     ·rw[List.getElem?_map,hp] at hj
      simp at hj
      subst hj
      have h1:=bQ p (List.mem_of_getElem? hp)
      obtain⟨k,ps⟩:=p
      have zU:=p3 (k,ps) (List.mem_of_getElem? hp)
      cases k with
      |ptr=>exact absurd rfl zU.1
      |agg=>exact⟨ps.map PC.val,rfl,h1⟩
      |one=>
       have h2:=zU.2 rfl
       match ps,h2 with
       |[p],_=>exact h1
     ·exfalso
      have ct:∀x∈aU.map (fun p=>(decide (p.1=Am.K.agg),p.2.map fun pc=>ah.c pc.er)),∀c∈x.2,¬c.ref q:=fun x hx c hc hq=>by
       obtain⟨p,_,rfl⟩:=List.mem_map.1 hx
       obtain⟨pc,_,rfl⟩:=List.mem_map.1 hc
       exact hq
      exact YM ct hq
    ·cases hx
   ·cases hx
  ·cases hx
 ·cases hx
def iw:List Operand->List MO->Bool
 |[],[]=>true
 |x::xs,m::ms=>bx x m&&iw xs ms
 |_,_=>false
theorem R.zE (r:R B E w0 N σ a w G):∀{xs:List Operand} {ms:List MO},iw xs ms=true->xs.length=ms.length/\
  ∀(j:Nat) (x:aj) (v:Value),(ms.map σ.ev)[j]? =some x->(xs.map a.eval)[j]? =some v->RA w G σ.h x v
 |[],[],_=>⟨rfl,by simp⟩
 |x::xs,m::ms,hc=>by
  simp only[iw,Bool.and_eq_true] at hc
  obtain⟨i1,i2⟩:=r.zE hc.2
  refine⟨by simp[i1],fun j x' v hj hv=>?_⟩
  cases j with
  |zero=>simp at hj hv;subst hj;subst hv;exact(r.ev hc.1).1
  |succ j=>exact i2 j x' v (by simpa using hj) (by simpa using hv)
 |[],_::_,hc=>by simp[iw] at hc
 |_::_,[],hc=>by simp[iw] at hc
theorem abL (r:R B E w0 N σ a w G) {T:bh} (hT:xb P T) {m:Mode} {f:FuncId} {xs:Array Operand} {ms:List MO} {ts:Array TypeId} {σ1:St} (hN:∀n,o.dst=some n->n<N)
  (ho:o.op=.call {callee:=.value (.func f),args:=xs,argTypes:=ts}) (hf:bF P f=true) (hm:iw xs.toList ms=true)
  (hx:qQ T m o.dst f (ms.map σ.ev) σ=some σ1):o.wp P a w (Nx B E w0 N σ1) Q:=by
 obtain⟨e1,e2⟩:=r.zE hm
 refine U1 r hT (vals:=xs.toList.map a.eval) hN ?_ (by simpa using e1) e2 hx
 have he:(xs.toList.map a.eval).toArray=xs.map a.eval:=by apply Array.ext';simp
 rw[he]
 simp[execOp,ho,resolve,Deferred.ofValue,invoke,Act.eval,Be hf]
theorem abN (r:R B E w0 N σ a w G) {T:bh} (hT:xb P T) {f:FuncId} {xs:Array Operand} {ms:List MO} {ts:Array TypeId} {z:aj} (hN:∀n,o.dst=some n->n<N)
  (ho:o.op=.call {callee:=.value (.func f),args:=xs,argTypes:=ts}) (hf:bF P f=true) (hm:iw xs.toList ms=true)
  (hx:tv T f (ms.map σ.ev) σ.h=some z):o.wp P a w (Nx B E w0 N (σ.put o.dst z)) Q:=by
 obtain⟨e1,e2⟩:=r.zE hm
 refine abU r hT (vals:=xs.toList.map a.eval) hN ?_ (by simpa using e1) e2 hx
 have he:(xs.toList.map a.eval).toArray=xs.map a.eval:=by apply Array.ext';simp
 rw[he]
 simp[execOp,ho,resolve,Deferred.ofValue,invoke,Act.eval,Be hf]
theorem abP (r:R B E w0 N σ a w G) {T:bh} (hT:xb P T) {m:Mode} {f:FuncId} {x:Operand} {mx:MO} {ca:List ah} {xs:Array Operand} {ms:List MO} {ts:Array TypeId} {σ1:St} (hN:∀n,o.dst=some n->n<N)
  (ho:o.op=.call {callee:=.value x,args:=xs,argTypes:=ts}) (hf:bF P f=true) (tU:bx x mx=true) (hm:iw xs.toList ms=true) (he:σ.ev mx=.one (.fn f ca))
  (hx:qQ T m o.dst f (ms.map σ.ev++ca.map .one) σ=some σ1):o.wp P a w (Nx B E w0 N σ1) Q:=by
 obtain⟨e1,e2⟩:=r.zE hm
 obtain⟨x1,x2⟩:=r.ev tU
 rw[he] at x1
 obtain⟨vs,v1,v2,v3⟩:=(x1.fv (by simp)).1
 refine U1 r hT (vals:=xs.toList.map a.eval++vs) hN ?_ (by simp[e1,v2]) (fun j y v hj hv=>?_) hx
 ·have tO:(xs.toList.map a.eval++vs).toArray=xs.map a.eval++vs.toArray:=by apply Array.ext';simp
  rw[tO]
  simp[execOp,ho,resolve,v1,Deferred.ofValue,invoke,Be hf]
 ·have GF:xs.size=ms.length:=by simpa using e1
  by_cases bX:j<ms.length
  ·rw[List.getElem?_append_left (by simpa using bX)] at hj
   rw[List.getElem?_append_left (by simp;omega)] at hv
   exact e2 j y v hj hv
  ·rw[List.getElem?_append_right (by simp;omega)] at hj
   rw[List.getElem?_append_right (by simp;omega)] at hv
   simp only[List.length_map,<-e1] at hj hv
   rw[List.getElem?_map] at hj
   simp only[e1] at hj hv
   cases hc:ca[j - ms.length]? with
   |none=>rw[hc] at hj;cases hj
   |some c=>
    rw[hc] at hj
    simp at hj
    subst hj
    obtain⟨q1,q2⟩:=v3 _ c v hc hv
    refine RA.gp q1 ?_
    by_cases CJ:c.kY=false
    ·rw[xa _ _ _ _ _ CJ];exact q2
    ·cases c<;>first|exact q2.elim|(simp[ah.kY] at CJ)
end
end Go.Am
