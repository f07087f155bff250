/- Am16: results of calls come in; calls. No condition. -/
import Derived.Test.YtifmggmhdcdgbaaAm15
set_option linter.unusedVariables false
namespace Go.Am
section
variable {B:Nat} {E:Ex} {w0 w w':World} {G G':Gh} {h h':Nat->Option ar} {used used':Nat->Bool} {tk:List PC} {N:Nat}
variable {P:Program} {o:Oper} {a:Act} {σ σ':St} {Q:Exit->Act->World->Prop}
theorem HR.ahT (H:HR B E w G h used []) {n sz cap:Nat} {x:Option Addr} {xs:List (List PC)} {m:Mode} (hg:Good w (.list sz x cap xs)) (hs:Sep (.list sz x cap xs)) (ht:CY w (.list sz x cap xs))
  (hl:∀b,jh b (.list sz x cap xs)->oE G h b/\dr w b/\B<=b) (hn:used n=false):
  ∃G',HR B E w G' (aw h n (some (.row true m sz (xs.map fun e=>e.map PC.er)))) (aw used n true) []/\
   aW w G h (fun n=>used n=true) w G' (aw h n (some (.row true m sz (xs.map fun e=>e.map PC.er))))/\
   RC w G' (aw h n (some (.row true m sz (xs.map fun e=>e.map PC.er)))) (.sl n sz 0 xs.length) (PC.val (.list sz x cap xs))/\
   ∀b,oE G h b->¬jh b (.list sz x cap xs)->oE G' (aw h n (some (.row true m sz (xs.map fun e=>e.map PC.er)))) b:=by
 obtain⟨eE,jZ,AU⟩:=ht
 have hF:∀b,aS b xs->aP b (.list sz x cap xs):=fun b ⟨k,j,c,h1,h2⟩=>.there _ _ _ _ k j c h1 h2
 have j4:g7 xs:=by cases hs with|list _ _ _ _ h1 h2 h3=>exact⟨h1,h3⟩
 let S:Nat->Prop:=fun b=>m≠ .live/\aS b xs
 have H1:HR B E w ⟨fun b=>G.Im b\/S b,G.g⟩ h used []:=H.qb S (fun b hb=>(hl b (.inl (hF b hb.2))).2.1.lt)
  (fun b hb q hq jo he=>(hl b (.inl (hF b hb.2))).1.2.1 q hq jo he.symm) (fun b hb q gr sz xs hq=>(hl b (.inl (hF b hb.2))).1.2.2 q gr _ sz xs hq) (fun b hb=>.inl (hl b (.inl (hF b hb.2))).2.2)
 obtain⟨p,agp,fx,D3,OL,agq,agn⟩:∃p:PB,(p.nl=true->xs=[]/\(true=true->p.cap=0))/\p.px=xs/\
   (p.nl=false->oE ⟨fun b=>G.Im b\/S b,G.g⟩ h p.b/\dr w p.b/\B<=p.b/\∀b,aS b xs->b≠p.b)/\
   (p.nl=false->oF w p.b p.o sz xs/\xs.length<=p.cap/\Gr w p sz)/\jF p sz 0 xs.length (PC.val (.list sz x cap xs))/\(p.nl=false->jh p.b (.list sz x cap xs)):=by
  by_cases N5:cap=0
  ·subst N5
   have hx:xs=[]:=List.eq_nil_of_length_eq_zero (by omega)
   subst hx
   exact⟨⟨true,0,0,0,[],x⟩,fun _=>⟨rfl,fun _=>rfl⟩,rfl,(fun hf=>by cases hf),(fun hf=>by cases hf),.inl ⟨rfl,rfl,rfl,rfl⟩,(fun hf=>by cases hf)⟩
  ·obtain⟨b,o,cur,e,rfl,hh,bD,sC,cb⟩:=AU.resolve_left N5
   have hT:jh b (.list sz (some (ad b o)) cap xs):=.inr ⟨_,_,_,_,rfl,N5⟩
   obtain⟨l1,l2,l3⟩:=hl b hT
   have ax:∀b',aS b' xs->b'≠b:=fun b' ⟨k,j,c,h1,h2⟩ he=>cb k j c h1 (he▸h2)
   refine⟨⟨false,b,o,cap,xs,none⟩,(fun hf=>by cases hf),rfl,fun _=>⟨⟨fun hi=>hi.elim l1.1 (fun hS=>ax b hS.2 rfl),l1.2⟩,l2,l3,ax⟩,fun _=>⟨?_,jZ,sC,cur,e,hh,bD⟩,.inr ⟨rfl,some (ad b o),by simp[PC.val],by simpa using jZ,fun _=>by simp⟩,fun _=>hT⟩
   cases hg with
   |nil _ _ _ _=>exact⟨by simp,by rintro k j c ⟨e,he,_⟩;simp at he,by rintro k j c ⟨e,he,_⟩;simp at he⟩
   |cons _ _ _ _ _ h1 h2 h3 h4 h5 h6=>exact⟨h4,h5,h6⟩
 subst fx
 have jK:tW B E w ⟨fun b=>G.Im b\/S b,G.g⟩ true m sz (p.px.map fun e=>e.map PC.er) p:=by
  refine⟨eE,rfl,agp,fun hf=>⟨(D3 hf).2.1,(OL hf).1,(OL hf).2.1⟩,fun hf _=>(OL hf).2.2,?_⟩
  cases hm:m with
  |aA=>exact fun b hb=>.inr ⟨by simp[hm],hb⟩
  |ab=>exact⟨fun b hb=>⟨.inr ⟨by simp[hm],hb⟩,(hl b (.inl (hF b hb))).2.1,.inl (hl b (.inl (hF b hb))).2.2⟩,j4⟩
  |live=>exact⟨fun b hb=>⟨fun hi=>hi.elim (hl b (.inl (hF b hb))).1.1 (fun hS=>hS.1 hm),(hl b (.inl (hF b hb))).2.1,.inl (hl b (.inl (hF b hb))).2.2⟩,j4⟩
 have Hn:=H1.insert (w':=w) (n:=n) (blk:=.row true m sz (p.px.map fun e=>e.map PC.er)) (p:=p) hn (fun _ _=>rfl) (Nat.le_refl _)
  (fun hf=>⟨(D3 hf).1,.inl (D3 hf).2.2.1,(D3 hf).2.1.lt⟩) (fun cs c q hb=>by cases hb) (by exact jK)
  (fun gr m' aK av hb hm n' bk nc kc g0 h0 iW b cg=>(hl b (.inl (hF b cg))).1.2.2 n' bk nc kc g0 h0)
  (fun gr aK av hb b cg=>⟨fun hf=>(D3 hf).2.2.2 b cg,fun n' h0 kx he=>(hl b (.inl (hF b cg))).1.2.1 n' h0 kx he.symm⟩)
  (fun gr m' aK av hb hm i pc b hi=>by simp at hi)
 refine⟨_,Hn,aW.trans (u2:=fun n=>used n=true) (fun _ h=>h) (aW.qb S _) (aW.insert H1 hn (fun _ _=>rfl)),fun _=>by simpa[bA] using agq,fun b hb NY=>?_⟩
 refine⟨fun hi=>hi.elim hb.1 (fun hS=>NY (.inl (hF b hS.2))),fun q hq jo he=>?_,fun q gr mo aK av hq cg=>?_⟩
 ·by_cases fi:q=n
  ·subst fi
   simp only[bA] at jo he
   exact NY (he▸agn jo)
  ·rw[bZ _ _ _ _ fi] at hq
   simp only[bZ _ _ _ _ fi] at jo he
   exact hb.2.1 q hq jo he
 ·by_cases fi:q=n
  ·subst fi
   simp only[bA] at cg
   exact NY (.inl (hF b cg))
  ·rw[bZ _ _ _ _ fi] at hq
   simp only[bZ _ _ _ _ fi] at cg
   exact hb.2.2 q gr mo aK av hq cg
structure tU (B:Nat) (w:World) (G:Gh) (h:Nat->Option ar) (ps:List PC):Prop where
 eD:∀pc∈ps,Good w pc/\Sep pc/\CY w pc
 lone:∀pc∈ps,∀b,jh b pc->oE G h b/\dr w b/\B<=b
 mI:ps.Pairwise fun p q=>∀b,jh b p->¬jh b q
theorem tU.tail {p:PC} {ps:List PC} (hi:tU B w G h (p::ps)) (hL:∀b,oE G h b->¬jh b p->oE G' h' b):tU B w G' h' ps:=
 ⟨fun q hq=>hi.eD q (by simp[hq]),fun q hq b hb=>⟨hL b (hi.lone q (by simp[hq]) b hb).1 (fun hp=>(List.pairwise_cons.1 hi.mI).1 q hq b hp hb),(hi.lone q (by simp[hq]) b hb).2⟩,(List.pairwise_cons.1 hi.mI).2⟩
theorem HR.imp {m:Mode}:∀{ps qs:List PC} {σ σ1:St} {G:Gh} {nm eY:Nat} {l:List ai},HR B E w G σ.h σ.used []->σ.imp m nm (ps.map PC.er)=some (l,eY,σ1)->tU B w G σ.h (ps++qs)->
  ∃G',HR B E w G' σ1.h σ1.used []/\aW w G σ.h (fun n=>σ.used n=true) w G' σ1.h/\cA w G' σ1.h l (ps.map PC.val)/\(∀c∈l,∀q,c.ref q->σ1.used q=true)/\σ1.env=σ.env/\
   (∀q,σ.used q=true->σ1.used q=true)/\tU B w G' σ1.h qs
 |[],qs,σ,σ1,G,nm,eY,l,H,hx,hi=>by
  simp only[List.map_nil,St.imp] at hx
  injection hx with hx
  injection hx with h1 h2
  injection h2 with h2 h3
  subst h1 h3
  exact⟨G,H,aW.refl _ _ _ _,⟨rfl,by simp⟩,by simp,rfl,fun _ h=>h,by simpa using hi⟩
 |p::ps,qs,σ,σ2,G,nm,eY,l,H,hx,hi=>by
  have d7:∀(x:C) (hx:(match σ.imp m nm (ps.map PC.er) with|some (l,eY,σ2)=>some (ai.c x::l,eY,σ2)|none=>none)=some (l,eY,σ2)) (hp:p.er=x) (cb:∀b,¬jh b p) (hg:Good w p),
    ∃G',HR B E w G' σ2.h σ2.used []/\aW w G σ.h (fun n=>σ.used n=true) w G' σ2.h/\cA w G' σ2.h l ((p::ps).map PC.val)/\(∀c∈l,∀q,c.ref q->σ2.used q=true)/\σ2.env=σ.env/\
     (∀q,σ.used q=true->σ2.used q=true)/\tU B w G' σ2.h qs:=by
   intro x hx hp cb hg
   split at hx
   ·rename_i l' EP gz e1
    injection hx with hx
    injection hx with h1 h2
    injection h2 with h2 h3
    subst h1 h2 h3
    obtain⟨G',b1,b2,b3,b4,b5,b6,b7⟩:=HR.imp H e1 (hi.tail (fun b hb _=>hb))
    refine⟨G',b1,b2,⟨by simp[b3.1],fun j c u hj hu=>?_⟩,fun c hc q hq=>?_,b5,b6,b7⟩
    ·cases j with
     |zero=>
      simp at hj hu;subst hj;subst hu
      exact⟨PC.ki p,p,hp,rfl,hg,fun b hb=>absurd (.inl hb) (cb b)⟩
     |succ j=>exact b3.2 j c u (by simpa using hj) (by simpa using hu)
    ·cases hc with
     |head=>exact absurd hq id
     |tail _ hc=>exact b4 c hc q hq
   ·cases hx
  cases p with
  |int k n=>exact d7 (.int k n) (by simp only[List.map_cons,St.imp,PC.er] at hx;exact hx) (by simp[PC.er]) (fun b hb=>by rcases hb with hb|⟨_,_,_,_,hb,_⟩<;>cases hb) (.int _ _)
  |bool b=>exact d7 (.bool b) (by simp only[List.map_cons,St.imp,PC.er] at hx;exact hx) (by simp[PC.er]) (fun b hb=>by rcases hb with hb|⟨_,_,_,_,hb,_⟩<;>cases hb) (.bool _)
  |list sz x cap xs=>
   simp only[List.map_cons,PC.dz,St.imp] at hx
   split at hx
   ·rename_i σ1 e1
    split at hx
    ·rename_i l' EP gz e2
     injection hx with hx
     injection hx with h1 h2
     injection h2 with h2 h3
     subst h1 h2 h3
     obtain⟨hn,rfl⟩:=mg e1
     obtain⟨g1,g2,g3⟩:=hi.eD (.list sz x cap xs) (by simp)
     obtain⟨G1,a1,a2,a3,a4⟩:=H.ahT (m:=m) g1 g2 g3 (hi.lone (.list sz x cap xs) (by simp)) hn
     obtain⟨G',b1,b2,b3,b4,b5,b6,b7⟩:=HR.imp a1 e2 (hi.tail a4)
     have AV:∀q,σ.used q=true->aw σ.used nm true q=true:=fun q hq=>qI _ _ hq
     refine⟨G',b1,aW.trans AV a2 b2,⟨by simp[b3.1],fun j c u hj hu=>?_⟩,fun c hc q hq=>?_,b5,fun q hq=>b6 q (AV q hq),b7⟩
     ·cases j with
      |zero=>
       simp at hj hu;subst hj;subst hu
       exact⟨rfl,a3.eM b2 fun q hq=>by have dQ:q=nm:=hq;subst dQ;exact bA _ _ _⟩
      |succ j=>exact b3.2 j c u (by simpa using hj) (by simpa using hu)
     ·cases hc with
      |head=>have dQ:q=nm:=hq;subst dQ;exact b6 _ (bA _ _ _)
      |tail _ hc=>exact b4 c hc q hq
    ·cases hx
   ·cases hx
theorem HR.jt {m:Mode}:∀{aR:List (K×List PC)} {σ σ1:St} {G:Gh} {nm:Nat} {ls:List (Bool×List ai)},HR B E w G σ.h σ.used []->σ.jt m nm (aR.map fun p=>(p.1,p.2.map PC.er))=some (ls,σ1)->
  (∀p∈aR,p.1≠ .ptr/\(p.1=.one->p.2.length=1))->tU B w G σ.h (aR.flatMap (·.2))->
  ∃G',HR B E w G' σ1.h σ1.used []/\aW w G σ.h (fun n=>σ.used n=true) w G' σ1.h/\ls.length=aR.length/\
   (∀(j:Nat) (x:Bool×List ai) (p:K×List PC),ls[j]? =some x->aR[j]? =some p->RV w G' σ1.h x.1 x.2 (qB p))/\(∀x∈ls,∀c∈x.2,∀q,c.ref q->σ1.used q=true)/\σ1.env=σ.env/\
   (∀q,σ.used q=true->σ1.used q=true)
 |[],σ,σ1,G,nm,ls,H,hx,hk,hi=>by
  simp only[List.map_nil,St.jt] at hx
  injection hx with hx
  injection hx with h1 h2
  subst h1 h2
  exact⟨G,H,aW.refl _ _ _ _,rfl,by simp,by simp,rfl,fun _ h=>h⟩
 |(k,ps)::aR,σ,σ2,G,nm,ls,H,hx,hk,hi=>by
  have AG:=hk (k,ps) (by simp)
  have dU:(match σ.imp m nm (ps.map PC.er) with
   |some (l,eY,σ1)=>match σ1.jt m eY (aR.map fun p=>(p.1,p.2.map PC.er)) with
    |some (ls,σ2)=>some ((decide (k=.agg),l)::ls,σ2)
    |none=>none
   |none=>none)=some (ls,σ2):=by
   cases k with
   |ptr=>exact absurd rfl AG.1
   |one=>simp[St.jt] at hx;exact hx
   |agg=>simp[St.jt] at hx;exact hx
  clear hx
  split at dU
  ·rename_i l eY σ1 e1
   split at dU
   ·rename_i y5 gz e2
    injection dU with hx
    injection hx with h1 h2
    subst h1 h2
    obtain⟨G1,a1,a2,a3,a4,a5,a6,a7⟩:=HR.imp H e1 (by simpa using hi)
    obtain⟨G',b1,b2,b3,b4,b5,b6,b7⟩:=HR.jt a1 e2 (fun p hp=>hk p (by simp[hp])) a7
    refine⟨G',b1,aW.trans a6 a2 b2,by simp[b3],fun j x p hj hp=>?_,fun x hx c hc q hq=>?_,b6.trans a5,fun q hq=>b7 q (a6 q hq)⟩
    ·cases j with
     |zero=>
      simp at hj hp;subst hj;subst hp
      have bN:=cA.eM b2 (fun c hc q hq=>a4 c hc q hq) a3
      cases k with
      |ptr=>exact absurd rfl AG.1
      |agg=>exact⟨ps.map PC.val,rfl,bN⟩
      |one=>
       have h1:=AG.2 rfl
       match ps,h1 with
       |[p],_=>exact bN
     |succ j=>exact b4 j x p (by simpa using hj) (by simpa using hp)
    ·cases hx with
     |head=>exact b7 q (a4 c hc q hq)
     |tail _ hx=>exact b5 x hx c hc q hq
   ·cases dU
  ·cases dU
theorem RA.lN {ls:List (Bool×List ai)} {aR:List (K×List PC)} (hlen:ls.length=aR.length) (hk:∀p∈aR,p.1≠ .ptr/\(p.1=.one->p.2.length=1))
  (hv:∀(j:Nat) (x:Bool×List ai) (p:K×List PC),ls[j]? =some x->aR[j]? =some p->RV w G h x.1 x.2 (qB p)):RA w G h (lN ls) (xi aR):=by
 match ls,aR,hlen with
 |[],[],_=>exact⟨[],rfl,rfl,by simp⟩
 |[(ag,cs)],[p],_=>
  have h0:=hv 0 (ag,cs) p rfl rfl
  cases ag with
  |true=>exact h0
  |false=>
   have bN:cA w G h cs [qB p]:=h0
   match cs,bN.1 with
   |[c],_=>exact .inr h0
 |x::y::ls,p::q::aR,hl=>
  refine⟨(p::q::aR).map qB,rfl,by simpa using hl.symm,fun j x' u hj hu=>?_⟩
  rw[List.getElem?_map] at hu
  cases hp:(p::q::aR)[j]? with
  |none=>rw[hp] at hu;cases hu
  |some p'=>rw[hp] at hu;simp at hu;subst hu;exact hv j x' p' hj hp
def xV (P:Program) (T:bj):Prop:=∀f M,bj.find T.pure f=some M->dL P f M
def bM (P:Program) (f:FuncId):Bool:=
 match P.funcs[f]? with
 |some fn=>fn.body.isSome&&(fn.name != "runtime.NumGoroutine")
 |none=>false
theorem Ch {f:FuncId} (hc:bM P f=true) (args:Array Value):(callFunc f args).run P w=.ok (.enter f args) w:=by
 unfold bM at hc
 split at hc
 ·rename_i fn hf
  simp only[Bool.and_eq_true,bne_iff_ne,ne_eq] at hc
  obtain⟨h1,h2⟩:=hc
  cases hb:fn.body with
  |none=>rw[hb] at h1;cases h1
  |some c=>simp[callFunc,hf,h2,hb]
 ·cases hc
theorem Fr.call (F:Fr B E w0 w) (F':Fr w.heap.size Ex.no w w'):Fr B E w0 w':=
 F.grow (fun b hb=>F'.block b hb id) F'.size F'.os F'.tape F'.output
theorem WR (r:R B E w0 N σ a w G) {T:bj} (hT:xV P T) {m:Mode} {f:FuncId} {as:List aj} {vals:List Value} {σ1:St} (hN:∀n,o.dst=some n->n<N)
  (bq:(execOp a.eval o).run P w=.ok (.enter f vals.toArray) w) (hl:vals.length=as.length)
  (yx:∀(j:Nat) (x:aj) (v:Value),as[j]? =some x->vals[j]? =some v->RA w G σ.h x v)
  (hx:qR T m o.dst f as σ=some σ1):o.wp P a w (Nx B E w0 N σ1) Q:=by
 unfold qR at hx
 split at hx
 ·rename_i ds mL
  split at hx
  ·rename_i M hM
   split at hx
   ·rename_i rs rp
    split at hx
    ·rename_i ls σ2 wl
     injection hx with hx
     subst hx
     have re:=r.hr.kj mL hl yx
     unfold Oper.wp
     rw[bq]
     refine(hT f M hM ds rs rp w vals re).mono fun e w' ⟨aR,p1,p2,p3,p4,p5⟩=>?_
     subst p2
     have gM:∀b,b<w.heap.size->w'.heap[b]? =w.heap[b]? :=fun b hb=>p5.block b hb id
     have H':=r.hr.grow gM p5.size
     have fh:tU B w' G σ.h (aR.flatMap (·.2)):=by
      refine⟨p4.eD,fun pc aZ b hb=>?_,?_⟩
      ·obtain⟨n1,n2⟩:=p4.new pc aZ b hb
       refine⟨⟨fun hi=>?_,fun q hq jo he=>?_,fun q gr mo sz xs hq cg=>?_⟩,n2,Nat.le_trans r.fr.size n1⟩
       ·have:=r.hr.fI b hi;omega
       ·have:=(r.hr.own q hq jo).2.2;omega
       ·have:=r.hr.qC hq cg;omega
      ·rw[List.pairwise_iff_getElem]
       intro i j hi hj j3 b hb
       exact p4.mI i j _ _ b (by omega) (List.getElem?_eq_getElem hi) (List.getElem?_eq_getElem hj) hb
     rw[<-p1] at wl
     obtain⟨G',b1,b2,b3,b4,b5,b6,b7⟩:=HR.jt H' wl p3 fh
     have K:aW w G σ.h (fun n=>σ.used n=true) w' G' σ2.h:=aW.trans (fun _ h=>h) (aW.world (fun b hb=>gM b (r.hr.fI b hb)) _) b2
     have r2:R B E w0 N σ2 a w' G':=r.step b6 b7 K b1 (r.fr.call p5)
     refine⟨G',r2.put (RA.lN b3 p3 b4) ?_ hN⟩
     intro q hq
     match ls,hq with
     |[],hq=>obtain⟨x,hx,_⟩:=hq;simp at hx
     |[(true,cs)],hq=>obtain⟨c,hc,hq⟩:=hq;exact b5 (true,cs) (by simp) c hc q hq
     |[(false,[c])],hq=>exact b5 (false,[c]) (by simp) c (by simp) q hq
     |[(false,[])],hq=>exact absurd hq id
     |[(false,_::_::_)],hq=>exact absurd hq id
     |x::y::ls,hq=>obtain⟨x',dU,c,hc,hq⟩:=hq;exact b5 x' dU c hc q hq
    ·cases hx
   ·cases hx
  ·cases hx
 ·cases hx
theorem MJ:∀{aR:List (K×List PC)} {ls:List (Bool×List ai)},gL (aR.map fun p=>(p.1,p.2.map PC.er))=some ls->ls=aR.map fun p=>(decide (p.1=.agg),p.2.map fun pc=>ai.c pc.er)
 |[],ls,h=>by simp only[List.map_nil,gL] at h;injection h with h;exact h.symm
 |(k,ps)::aR,ls,h=>by
  cases k with
  |ptr=>simp[gL] at h
  |one=>
   simp only[List.map_cons,gL] at h
   split at h
   ·rename_i y5 e
    injection h with h
    rw[<-h,MJ e,List.map_map]
    rfl
   ·cases h
  |agg=>
   simp only[List.map_cons,gL] at h
   split at h
   ·rename_i y5 e
    injection h with h
    rw[<-h,MJ e,List.map_map]
    rfl
   ·cases h
theorem aa8 {ls:List (Bool×List ai)} {q:Nat} (cb:∀x∈ls,∀c∈x.2,¬c.ref q):¬(lN ls).ref q:=by
 intro hq
 match ls,hq with
 |[],hq=>obtain⟨x,hx,_⟩:=hq;simp at hx
 |[(true,cs)],hq=>obtain⟨c,hc,hq⟩:=hq;exact cb (true,cs) (by simp) c hc hq
 |[(false,[c])],hq=>exact cb (false,[c]) (by simp) c (by simp) hq
 |[(false,[])],hq=>exact hq
 |[(false,_::_::_)],hq=>exact hq
 |x::y::ls,hq=>obtain⟨x',dU,c,hc,hq⟩:=hq;exact cb x' dU c hc hq
theorem aeg (r:R B E w0 N σ a w G) {T:bj} (hT:xV P T) {f:FuncId} {as:List aj} {vals:List Value} {z:aj} (hN:∀n,o.dst=some n->n<N)
  (bq:(execOp a.eval o).run P w=.ok (.enter f vals.toArray) w) (hl:vals.length=as.length)
  (yx:∀(j:Nat) (x:aj) (v:Value),as[j]? =some x->vals[j]? =some v->RA w G σ.h x v)
  (hx:t9 T f as σ.h=some z):o.wp P a w (Nx B E w0 N (σ.put o.dst z)) Q:=by
 unfold t9 at hx
 split at hx
 ·rename_i ds mL
  split at hx
  ·rename_i M hM
   split at hx
   ·rename_i rs rp
    split at hx
    ·rename_i ls wl
     injection hx with hx
     subst hx
     have re:=r.hr.kj mL hl yx
     unfold Oper.wp
     rw[bq]
     refine(hT f M hM ds rs rp w vals re).mono fun e w' ⟨aR,p1,p2,p3,p4,p5⟩=>?_
     subst p2
     have gM:∀b,b<w.heap.size->w'.heap[b]? =w.heap[b]? :=fun b hb=>p5.block b hb id
     have H':=r.hr.grow gM p5.size
     rw[<-p1] at wl
     have AH:=MJ wl
     subst AH
     let S:Nat->Prop:=fun b=>∃pc∈aR.flatMap (·.2),aP b pc
     have hS:∀b,S b->w.heap.size<=b/\b<w'.heap.size:=fun b ⟨pc,aZ,hb⟩=>by
      obtain⟨n1,n2⟩:=p4.new pc aZ b (.inl hb)
      exact⟨n1,n2.lt⟩
     have H2:HR B E w' ⟨fun b=>G.Im b\/S b,G.g⟩ σ.h σ.used []:=H'.qb S (fun b hb=>(hS b hb).2) (fun b hb n hn hl he=>by have:=(hS b hb).1;have:=(r.hr.own n hn hl).2.2;omega)
      (fun b hb n gr sz xs hn hF=>by have:=(hS b hb).1;have:=r.hr.qC hn hF;omega) (fun b hb=>.inl (Nat.le_trans r.fr.size (hS b hb).1))
     have K:aW w G σ.h (fun n=>σ.used n=true) w' ⟨fun b=>G.Im b\/S b,G.g⟩ σ.h:=aW.trans (fun _ h=>h) (aW.world (fun b hb=>gM b (r.hr.fI b hb)) _) (aW.qb S _)
     have r2:R B E w0 N σ a w' ⟨fun b=>G.Im b\/S b,G.g⟩:=r.step rfl (fun _ h=>h) K H2 (r.fr.call p5)
     have bN:∀p∈aR,cA w' ⟨fun b=>G.Im b\/S b,G.g⟩ σ.h (p.2.map fun pc=>ai.c pc.er) (p.2.map PC.val):=fun p hp=>by
      refine⟨by simp,fun j c u hj hu=>?_⟩
      rw[List.getElem?_map] at hj hu
      cases ma:p.2[j]? with
      |none=>rw[ma] at hj;cases hj
      |some pc=>
       rw[ma] at hj hu
       simp at hj hu
       subst hj hu
       have hm:pc∈aR.flatMap (·.2):=List.mem_flatMap.2 ⟨p,hp,List.mem_of_getElem? ma⟩
       exact⟨PC.ki pc,pc,rfl,rfl,(p4.eD pc hm).1,fun b hb=>.inr ⟨pc,hm,hb⟩⟩
     refine⟨_,r2.put (RA.lN (by simp) p3 (fun j x p hj hp=>?_)) (fun q hq=>?_) hN⟩
     ·rw[List.getElem?_map,hp] at hj
      simp at hj
      subst hj
      have h1:=bN p (List.mem_of_getElem? hp)
      obtain⟨k,ps⟩:=p
      have AG:=p3 (k,ps) (List.mem_of_getElem? hp)
      cases k with
      |ptr=>exact absurd rfl AG.1
      |agg=>exact⟨ps.map PC.val,rfl,h1⟩
      |one=>
       have h2:=AG.2 rfl
       match ps,h2 with
       |[p],_=>exact h1
     ·exfalso
      have cb:∀x∈aR.map (fun p=>(decide (p.1=Am.K.agg),p.2.map fun pc=>ai.c pc.er)),∀c∈x.2,¬c.ref q:=fun x hx c hc hq=>by
       obtain⟨p,_,rfl⟩:=List.mem_map.1 hx
       obtain⟨pc,_,rfl⟩:=List.mem_map.1 hc
       exact hq
      exact aa8 cb hq
    ·cases hx
   ·cases hx
  ·cases hx
 ·cases hx
def h9:List Operand->List MO->Bool
 |[],[]=>true
 |x::xs,m::ms=>bw x m&&h9 xs ms
 |_,_=>false
theorem R.Ap (r:R B E w0 N σ a w G):∀{xs:List Operand} {ms:List MO},h9 xs ms=true->xs.length=ms.length/\
  ∀(j:Nat) (x:aj) (v:Value),(ms.map σ.ev)[j]? =some x->(xs.map a.eval)[j]? =some v->RA w G σ.h x v
 |[],[],_=>⟨rfl,by simp⟩
 |x::xs,m::ms,hc=>by
  simp only[h9,Bool.and_eq_true] at hc
  obtain⟨i1,i2⟩:=r.Ap hc.2
  refine⟨by simp[i1],fun j x' v hj hv=>?_⟩
  cases j with
  |zero=>simp at hj hv;subst hj;subst hv;exact(r.ev hc.1).1
  |succ j=>exact i2 j x' v (by simpa using hj) (by simpa using hv)
 |[],_::_,hc=>by simp[h9] at hc
 |_::_,[],hc=>by simp[h9] at hc
theorem ad7 (r:R B E w0 N σ a w G) {T:bj} (hT:xV P T) {m:Mode} {f:FuncId} {xs:Array Operand} {ms:List MO} {ts:Array TypeId} {σ1:St} (hN:∀n,o.dst=some n->n<N)
  (ho:o.op=.call {callee:=.value (.func f),args:=xs,argTypes:=ts}) (hf:bM P f=true) (hm:h9 xs.toList ms=true)
  (hx:qR T m o.dst f (ms.map σ.ev) σ=some σ1):o.wp P a w (Nx B E w0 N σ1) Q:=by
 obtain⟨e1,e2⟩:=r.Ap hm
 refine WR r hT (vals:=xs.toList.map a.eval) hN ?_ (by simpa using e1) e2 hx
 have he:(xs.toList.map a.eval).toArray=xs.map a.eval:=by apply Array.ext';simp
 rw[he]
 simp[execOp,ho,resolve,Deferred.ofValue,invoke,Act.eval,Ch hf]
theorem ad9 (r:R B E w0 N σ a w G) {T:bj} (hT:xV P T) {f:FuncId} {xs:Array Operand} {ms:List MO} {ts:Array TypeId} {z:aj} (hN:∀n,o.dst=some n->n<N)
  (ho:o.op=.call {callee:=.value (.func f),args:=xs,argTypes:=ts}) (hf:bM P f=true) (hm:h9 xs.toList ms=true)
  (hx:t9 T f (ms.map σ.ev) σ.h=some z):o.wp P a w (Nx B E w0 N (σ.put o.dst z)) Q:=by
 obtain⟨e1,e2⟩:=r.Ap hm
 refine aeg r hT (vals:=xs.toList.map a.eval) hN ?_ (by simpa using e1) e2 hx
 have he:(xs.toList.map a.eval).toArray=xs.map a.eval:=by apply Array.ext';simp
 rw[he]
 simp[execOp,ho,resolve,Deferred.ofValue,invoke,Act.eval,Ch hf]
theorem aeb (r:R B E w0 N σ a w G) {T:bj} (hT:xV P T) {m:Mode} {f:FuncId} {x:Operand} {mx:MO} {bW:List ai} {xs:Array Operand} {ms:List MO} {ts:Array TypeId} {σ1:St} (hN:∀n,o.dst=some n->n<N)
  (ho:o.op=.call {callee:=.value x,args:=xs,argTypes:=ts}) (hf:bM P f=true) (DX:bw x mx=true) (hm:h9 xs.toList ms=true) (he:σ.ev mx=.one (.fn f bW))
  (hx:qR T m o.dst f (ms.map σ.ev++bW.map .one) σ=some σ1):o.wp P a w (Nx B E w0 N σ1) Q:=by
 obtain⟨e1,e2⟩:=r.Ap hm
 obtain⟨x1,x2⟩:=r.ev DX
 rw[he] at x1
 obtain⟨vs,v1,v2,v3⟩:=(x1.fq (by simp)).1
 refine WR r hT (vals:=xs.toList.map a.eval++vs) hN ?_ (by simp[e1,v2]) (fun j y v hj hv=>?_) hx
 ·have uv:(xs.toList.map a.eval++vs).toArray=xs.map a.eval++vs.toArray:=by apply Array.ext';simp
  rw[uv]
  simp[execOp,ho,resolve,v1,Deferred.ofValue,invoke,Ch hf]
 ·have HW:xs.size=ms.length:=by simpa using e1
  by_cases bH:j<ms.length
  ·rw[List.getElem?_append_left (by simpa using bH)] at hj
   rw[List.getElem?_append_left (by simp;omega)] at hv
   exact e2 j y v hj hv
  ·rw[List.getElem?_append_right (by simp;omega)] at hj
   rw[List.getElem?_append_right (by simp;omega)] at hv
   simp only[List.length_map,<-e1] at hj hv
   rw[List.getElem?_map] at hj
   simp only[e1] at hj hv
   cases hc:bW[j - ms.length]? with
   |none=>rw[hc] at hj;cases hj
   |some c=>
    rw[hc] at hj
    simp at hj
    subst hj
    obtain⟨q1,q2⟩:=v3 _ c v hc hv
    refine RA.gb q1 ?_
    by_cases DM:c.kC=false
    ·rw[xU _ _ _ _ _ DM];exact q2
    ·cases c<;>first|exact q2.elim|(simp[ai.kC] at DM)
end
end Go.Am
