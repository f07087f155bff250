/- Am21: regions. No condition. -/
import Derived.Test.YtbgmbplglejidaaAm20
set_option linter.unusedVariables false
namespace Go.Am
def WH (ops:Array Oper) (o:Oper) (mo:bR):Bool:=
 match o.guard,mo.guard with
 |none,none=>true
 |some (j,ky),some (s,ac2)=>decide ((ops[j]?).bind (·.dst)=some s)&&(ky==ac2)
 |_,_=>false
def tG (P:Program) (N:Nat) (ops:Array Oper) (o:Oper) (mo:bR):Bool:=
 decide (o.dst=mo.dst)&&(match o.dst with|some n=>decide (n<N)|none=>true)&&WH ops o mo&&dW P o mo.op
def oG (P:Program) (N:Nat) (ops:Array Oper):List Oper->List bR->Bool
 |[],[]=>true
 |o::os,m::ms=>tG P N ops o m&&oG P N ops os ms
 |_,_=>false
section
variable {B:Nat} {E:Ex} {w0 w w':World} {G G':Gh} {N:Nat}
variable {P:Program} {T:aO} {o:Oper} {mo:bR} {a:Act} {σ σ':St} {Q:Exit->Act->World->Prop} {ops:Array Oper}
structure nH (P:Program) (T:aO):Prop where
 spec:xE P T
 ace:Gb P T
 acf:z8 P T
 acg:CQ P T
 fn:∀f M,aO.find T.pure f=some M->bC P f=true
theorem R.guard (r:R B E w0 N σ a w G) {j s:Nat} {b:Bool} (hj:(ops[j]?).bind (·.dst)=some s) (hb:σ.env s=.one (.c (.bool b))):yielded ops a.tmps j=some b:=by
 have h1:=r.env s
 rw[hb] at h1
 have h2:=h1.Ai
 have h3:a.tmps[s]? =some (.bool b):=by
  rw[Array.getD_eq_getD_getElem?] at h2
  cases ht:a.tmps[s]? with
  |none=>rw[ht] at h2;simp[undef] at h2
  |some v=>rw[ht] at h2;simp at h2;rw[h2]
 unfold yielded
 rw[hj]
 simp[h3]
theorem abZ {w:World} {G:Gh} {h:Nat->Option ao}:RA w G h (.bn []) undef:=⟨[],rfl,rfl,fun j x u hx=>by simp at hx⟩
theorem ab0 {u:Nat->Prop} (m:Nat) (hm:(aj.bn []).ref m):u m:=by
 obtain⟨c,hc,_⟩:=hm
 cases hc
theorem R.agX (r:R B E w0 N σ a w G) {j s:Nat} (hj:(ops[j]?).bind (·.dst)=some s) (hb:σ.env s=.bn []):yielded ops a.tmps j=none:=by
 have h1:=r.env s
 rw[hb] at h1
 obtain⟨vs,h2,h3,_⟩:=h1
 have:vs=[]:=List.length_eq_zero_iff.1 h3
 subst this
 rw[Array.getD_eq_getD_getElem?] at h2
 unfold yielded
 rw[hj]
 simp only[Option.bind_some]
 cases ht:a.tmps[s]? with
 |none=>rfl
 |some v=>
  rw[ht] at h2
  simp only[Option.getD_some] at h2
  subst h2
  rfl
theorem Ii (r:R B E w0 N σ a w G) (hT:nH P T) (hc:tG P N ops o mo=true) (hx:d7 T mo σ=some σ'):
  (Region.wanted o (yielded ops a.tmps)=true/\o.wp P a w (Nx B E w0 N σ') Q)\/(Region.wanted o (yielded ops a.tmps)=false/\Nx B E w0 N σ' (a.put o.dst undef) w):=by
 simp only[tG,Bool.and_eq_true,decide_eq_true_eq] at hc
 obtain⟨⟨⟨c1,c2⟩,c3⟩,c4⟩:=hc
 have hN:∀n,o.dst=some n->n<N:=fun n hn=>by rw[hn] at c2;simpa using c2
 unfold WH at c3
 unfold d7 at hx
 split at c3
 ·rename_i g1 g2
  simp only[g2] at hx
  rw[<-c1] at hx
  exact .inl ⟨by simp[Region.wanted,g1],XE r hT.spec hT.ace hT.acf hT.acg hT.fn hN c4 hx⟩
 ·rename_i j ky s ac2 g1 g2
  simp only[Bool.and_eq_true,decide_eq_true_eq,beq_iff_eq] at c3
  obtain⟨k1,rfl⟩:=c3
  simp only[g2] at hx
  split at hx
  ·rename_i b hb
   have hy:=r.guard k1 hb
   split at hx
   ·rename_i N0
    rw[<-c1] at hx
    exact .inl ⟨by simp[Region.wanted,g1,hy,N0],XE r hT.spec hT.ace hT.acf hT.acg hT.fn hN c4 hx⟩
   ·rename_i N0
    injection hx with hx
    subst hx
    refine .inr ⟨by simp[Region.wanted,g1,hy,N0],G,?_⟩
    rw[<-c1]
    exact r.put (x:=.bn []) abZ ab0 hN
  ·rename_i hb
   have hy:=r.agX k1 hb
   injection hx with hx
   subst hx
   refine .inr ⟨by simp[Region.wanted,g1,hy],G,?_⟩
   rw[<-c1]
   exact r.put (x:=.bn []) abZ ab0 hN
  ·cases hx
 ·cases c3
theorem R.wf (r:R B E w0 N σ a w G):Wf σ:=⟨r.r7,r.hr.gH⟩
theorem apI {K:Act->World->Prop} (h:o.wp P a w K (fun _ _ _=>False)):∃a' w',K a' w':=by
 unfold Oper.wp at h
 unfold Oper.upon at h
 split at h
 ·exact⟨_,_,h⟩
 ·exact⟨_,_,h⟩
 ·exact⟨_,_,h⟩
 ·obtain⟨e,w',fr,hR,_⟩:=h []
  cases e with
  |returned v=>exact⟨_,_,hR⟩
  |panicked c=>exact hR.elim
  |outgrown=>obtain⟨_,_,hf⟩:=hR;exact hf.elim
 ·obtain⟨v,w',hR,_⟩:=h default []
  exact⟨_,_,hR⟩
 ·exact h.elim
 ·exact h.elim
def F9 (B:Nat) (E:Ex) (w0:World) (N:Nat) (σ:St):Prop:=∃a w G,R B E w0 N σ a w G
theorem abg (r:F9 B E w0 N σ) (hT:nH P T) (hc:tG P N ops o mo=true) (hx:d7 T mo σ=some σ'):F9 B E w0 N σ':=by
 obtain⟨a,w,G,r⟩:=r
 rcases Ii (Q:=fun _ _ _=>False) r hT hc hx with⟨_,h⟩|⟨_,G',h⟩
 ·obtain⟨a',w',G',h⟩:=apI h
  exact⟨a',w',G',h⟩
 ·exact⟨_,_,G',h⟩
theorem Vu (hT:nH P T):∀{l:List Oper} {ms:List bR} {σ σ':St} {a:Act} {w:World} {G:Gh},oG P N ops l ms=true->j7 T ms σ=some σ'->R B E w0 N σ a w G->
  (∀a w G,R B E w0 N σ' a w G->Q .normal a w)->wpList P ops Q l a w
 |[],[],σ,σ',a,w,G,hc,hx,r,hQ=>by
  simp only[j7] at hx
  injection hx with hx
  subst hx
  exact hQ _ _ _ r
 |o::l,m::ms,σ,σ',a,w,G,hc,hx,r,hQ=>by
  simp only[oG,Bool.and_eq_true] at hc
  simp only[j7] at hx
  split at hx
  ·rename_i σ1 e1
   unfold wpList
   rcases Ii (Q:=Q) r hT hc.1 e1 with⟨hw,h⟩|⟨hw,G',h⟩
   ·rw[if_pos hw]
    exact .inl (Oper.wp_mono (fun a' w' ⟨G',r'⟩=>Vu hT hc.2 hx r' hQ) h)
   ·rw[if_neg (by simp[hw])]
    exact Vu hT hc.2 hx h hQ
  ·cases hx
 |[],_::_,_,_,_,_,_,hc,_,_,_=>by simp[oG] at hc
 |_::_,[],_,_,_,_,_,hc,_,_,_=>by simp[oG] at hc
def pY (T:aO) (ms:List bR):List Nat->St->Option St
 |[],σ=>some σ
 |i::L,σ=>match ms[i]? with
  |some o=>match d7 T o σ with
   |some σ1=>pY T ms L σ1
   |none=>none
  |none=>none
inductive vg (ops:Array Oper):Nat->Nat->Prop where
 |Xj (i:Nat) (o:Oper) (e:_):ops[i]? =some o->e∈o.after->Region.binds .any e=true->vg ops i e.on
 |step (i j:Nat) (o:Oper) (e:_):ops[i]? =some o->e∈o.after->Region.binds .any e=true->vg ops e.on j->vg ops i j
def Mw (o:Oper):List Nat:=(o.after.toList.filter (Region.binds .any)).map (·.on)
def Eo (cO:List Nat):List Nat->Nat
 |[]=>0
 |j::js=>(Nat.shiftLeft 1 j|||cO.getD j 0)|||Eo cO js
def BH:List Oper->List Nat->List Nat
 |[],cO=>cO
 |o::os,cO=>BH os (cO++[Eo cO (Mw o)])
theorem ajt {o:Oper} {j:Nat} (h:j∈Mw o):∃e∈o.after,Region.binds .any e=true/\e.on=j:=by
 unfold Mw at h
 simp only[List.mem_map,List.mem_filter] at h
 obtain⟨e,⟨h1,h2⟩,h3⟩:=h
 exact⟨e,Array.mem_toList_iff.1 h1,h2,h3⟩
theorem aai {cO:List Nat}:∀{js:List Nat} {k:Nat},(Eo cO js).testBit k=true->∃j∈js,j=k\/(cO.getD j 0).testBit k=true
 |[],k,h=>by simp[Eo] at h
 |j::js,k,h=>by
  simp only[Eo,Nat.testBit_or,Bool.or_eq_true] at h
  rcases h with(h|h)|h
  ·refine⟨j,by simp,.inl ?_⟩
   have h':(1<<<j).testBit k=true:=h
   rw[Nat.one_shiftLeft,Nat.testBit_two_pow] at h'
   exact of_decide_eq_true h'
  ·exact⟨j,by simp,.inr h⟩
  ·obtain⟨j',h1,h2⟩:=aai h
   exact⟨j',by simp[h1],h2⟩
theorem PV {ops:Array Oper}:∀(os:List Oper) (cO:List Nat) (pre:List Oper),ops.toList=pre++os->cO.length=pre.length->(∀i k,(cO.getD i 0).testBit k=true->vg ops i k)->
  ∀i k,((BH os cO).getD i 0).testBit k=true->vg ops i k
 |[],cO,pre,_,_,h,i,k,hb=>h i k hb
 |o::os,cO,pre,he,hl,h,i,k,hb=>by
  refine PV os _ (pre++[o]) (by simp[he]) (by simp[hl]) (fun i k hb=>?_) i k hb
  by_cases bG:i<cO.length
  ·rw[List.getD_eq_getElem?_getD,List.getElem?_append_left bG,<-List.getD_eq_getElem?_getD] at hb
   exact h i k hb
  ·by_cases hi:i=cO.length
   ·subst hi
    rw[List.getD_eq_getElem?_getD,List.getElem?_append_right (Nat.le_refl _),Nat.sub_self] at hb
    simp only[List.getElem?_cons_zero,Option.getD_some] at hb
    have ho:ops[cO.length]? =some o:=by
     have:ops.toList[cO.length]? =some o:=by rw[he,hl,List.getElem?_append_right (Nat.le_refl _),Nat.sub_self];rfl
     simpa using this
    obtain⟨j,h1,h2⟩:=aai hb
    obtain⟨e,e1,e2,rfl⟩:=ajt h1
    rcases h2 with rfl|h2
    ·exact .Xj _ o e ho e1 e2
    ·exact .step _ _ o e ho e1 e2 (h _ _ h2)
   ·rw[List.getD_eq_getElem?_getD,List.getElem?_eq_none (by simp;omega)] at hb
    simp at hb
def HG (ops:List Oper) (ms:List bR):Bool:=
 (fun ks:List Nat=>(List.range ops.length).all fun i=>match ops[i]?,ms[i]? with
  |some o,some m=>(o.after.toList.all fun e=> !Region.binds .any e||decide (e.on<i))&&
   (List.range i).all fun j=>(ks.getD i 0).testBit j||(match ms[j]? with|some mj=>Aw mj m|none=>false)
  |_,_=>false) (BH ops [])
structure VB (ops:Array Oper) (ms:List bR):Prop where
 back:∀(i:Nat) (o:Oper),ops[i]? =some o->∀e∈o.after,Region.binds .any e=true->e.on<i
 pair:∀(i j:Nat) (o:Oper) (m:bR),ops[i]? =some o->ms[i]? =some m->j<i->vg ops i j\/∃mj,ms[j]? =some mj/\Aw mj m=true
theorem ad6 {ms:List bR} (h:HG ops.toList ms=true):VB ops ms:=by
  simp only[HG,List.all_eq_true,List.mem_range] at h
  have cf:∀(i:Nat) (o:Oper),ops[i]? =some o->∃m,ms[i]? =some m/\(o.after.toList.all fun e=> !Region.binds .any e||decide (e.on<i))=true/\
        ∀j,j<i->(((BH ops.toList []).getD i 0).testBit j||(match ms[j]? with|some mj=>Aw mj m|none=>false))=true:=by
    intro i o ho
    have hi:i<ops.toList.length:=by simpa using(Array.getElem?_eq_some_iff.1 ho).1
    have hi':=h i hi
    have gA:ops.toList[i]? =some o:=by simpa using ho
    rw[gA] at hi'
    cases hm:ms[i]? with
    |none=>rw[hm] at hi';cases hi'
    |some m=>
     rw[hm] at hi'
     simp only[Bool.and_eq_true,List.all_eq_true,List.mem_range] at hi'
     exact⟨m,rfl,by rw[List.all_eq_true];exact hi'.1,hi'.2⟩
  refine⟨fun i o ho e he hb=>?_,fun i j o m ho hm hj=>?_⟩
  · obtain⟨m,_,k1,_⟩:=cf i o ho
    have:=List.all_eq_true.1 k1 e (Array.mem_toList_iff.2 he)
    simp[hb] at this
    exact this
  · obtain⟨m',bJ,_,k2⟩:=cf i o ho
    rw[hm] at bJ
    injection bJ with bJ
    subst bJ
    have:=k2 j hj
    rw[Bool.or_eq_true] at this
    rcases this with h1|h1
    · exact .inl (PV ops.toList [] [] rfl rfl (by intro i k hb;simp at hb) i j h1)
    · cases A7:ms[j]? with
      |none=>rw[A7] at h1;cases h1
      |some mj=>rw[A7] at h1;exact .inr ⟨mj,rfl,h1⟩
def KR (ops:Array Oper) (cY:Array Bool):Prop:=
 ∀(k:Nat) (o:Oper),ops[k]? =some o->cY.getD k true=true->∀e∈o.after,Region.binds .any e=true->cY.getD e.on true=true
theorem Wh {cY:Array Bool} (hc:KR ops cY) {i j:Nat} (hb:vg ops i j):(∀o,ops[i]? =some o->∀e∈o.after,Region.binds .any e=true->cY.getD e.on true=true)->cY.getD j true=true:=by
 induction hb with
 |Xj i o e ho he hb=>exact fun h=>h o ho e he hb
 |step i j o e ho he hb _ ih=>exact fun h=>ih fun o' gA=>hc _ o' gA (h o ho e he hb)
theorem XH (hT:nH P T) {ms:List bR} (oP:∀(i:Nat) (m:bR),ms[i]? =some m->∃o,ops[i]? =some o/\tG P N ops o m=true) {i:Nat} {mi:bR} (hi:ms[i]? =some mi) {post:List Nat} {iR:St}:
  ∀{pre:List Nat} {σ:St},F9 B E w0 N σ->pY T ms (pre++i::post) σ=some iR->(∀j∈pre,∃mj,ms[j]? =some mj/\Aw mj mi=true)->
  ∃τ,d7 T mi σ=some τ/\pY T ms (pre++post) τ=some iR
 |[],σ,hr,hx,hc=>by
  simp only[List.nil_append,pY,hi] at hx
  split at hx
  ·rename_i σ1 e;exact⟨σ1,e,hx⟩
  ·cases hx
 |j::pre,σ,hr,hx,hc=>by
  obtain⟨mj,hj,nd⟩:=hc j (by simp)
  simp only[List.cons_append,pY,hj] at hx
  split at hx
  ·rename_i σ1 e1
   obtain⟨oj,_,gf⟩:=oP j mj hj
   obtain⟨oA,t1,t2⟩:=XH hT oP hi (abg hr hT gf e1) hx (fun k hk=>hc k (by simp[hk]))
   obtain⟨a,w,G,r⟩:=hr
   obtain⟨τ,s1,s2⟩:=ael r.wf nd e1 t1
   exact⟨τ,s1,by simp only[List.cons_append,pY,hj,s2];exact t2⟩
  ·cases hx
theorem apG (hT:nH P T) {ms:List bR} (oP:∀(i:Nat) (m:bR),ms[i]? =some m->∃o,ops[i]? =some o/\tG P N ops o m=true) (hlen:ms.length=ops.size) (hd:VB ops ms) {iR:St}
  (hQ:∀a w G,R B E w0 N iR a w G->Q .normal a w):
  ∀(iq:Nat) (L:List Nat) (cY:Array Bool) (σ:St) (a:Act) (w:World) (G:Gh),R B E w0 N σ a w G->pY T ms L σ=some iR->L.Pairwise (·<·)->L.length<=iq->cY.size=ops.size->
   (∀j,j∈L↔cY.getD j true=false)->KR ops cY->wpAny P .any ops Q iq cY a w:=by
 have first:∀(L:List Nat) (cY:Array Bool),L.Pairwise (·<·)->cY.size=ops.size->(∀j,j∈L↔cY.getD j true=false)->Region.ready .any ops cY=[]->L=[]:=by
  intro L cY hp hs hL hr
  cases L with
  |nil=>rfl
  |cons j L=>
   exfalso
   have hj:=(hL j).1 (by simp)
   have kE:j<ops.size:=by
    rw[<-hs]
    rcases Nat.lt_or_ge j cY.size with h|h
    ·exact h
    ·simp[Array.getElem?_eq_none h] at hj
   have ho:ops[j]? =some ops[j]:=Array.getElem?_eq_getElem kE
   have:j∈Region.ready .any ops cY:=by
    rw[mem_ready]
    refine⟨hj,_,ho,fun e he hb=>?_⟩
    have bG:=hd.back j _ ho e he hb
    have nX:e.on∉j::L:=by
     intro hm
     cases hm with
     |head=>omega
     |tail _ hm=>have:=(List.pairwise_cons.1 hp).1 _ hm;omega
    have aB:cY.getD e.on true≠false:=fun h=>nX ((hL e.on).2 h)
    have oS:e.on<cY.size:=by omega
    simp[oS] at aB⊢
    exact aB
   rw[hr] at this
   cases this
 intro iq
 induction iq with
 |zero=>
  intro L cY σ a w G r hx hp hl hs hL hC
  have rr:L=[]:=List.eq_nil_of_length_eq_zero (by omega)
  subst rr
  simp only[pY] at hx
  injection hx with hx
  subst hx
  refine⟨?_,hQ _ _ _ r⟩
  cases hr:Region.ready .any ops cY with
  |nil=>rfl
  |cons i l=>
   have hm:i∈Region.ready .any ops cY:=by rw[hr];simp
   have:=(hL i).2 (mem_ready.1 hm).1
   cases this
 |succ iq ih=>
  intro L cY σ a w G r hx hp hl hs hL hC
  refine⟨fun hr=>?_,fun i hi=>?_⟩
  ·have rr:=first L cY hp hs hL hr
   subst rr
   simp only[pY] at hx
   injection hx with hx
   subst hx
   exact hQ _ _ _ r
  ·obtain⟨Ok,oi,jR,DF⟩:=mem_ready.1 hi
   have qe:i∈L:=(hL i).2 Ok
   obtain⟨pre,post,rfl⟩:=List.append_of_mem qe
   have his:i<ops.size:=(Array.getElem?_eq_some_iff.1 jR).1
   have yq:ms[i]? =some ms[i]:=List.getElem?_eq_getElem (by omega)
   obtain⟨o',gA,N7⟩:=oP i _ yq
   rw[jR] at gA
   injection gA with gA
   subst gA
   have f8:=List.pairwise_append.1 hp
   obtain⟨τ,t1,t2⟩:=XH (ops:=ops) hT oP yq ⟨a,w,G,r⟩ hx (fun j hj=>by
    have rv:j<i:=f8.2.2 j hj i (by simp)
    rcases hd.pair i j oi _ jR yq rv with NX|h
    ·have h1:=Wh hC NX (fun o ho e he hb=>by
      rw[jR] at ho
      injection ho with ho
      subst ho
      have h1:=DF e he hb
      have bG:=hd.back i _ jR e he hb
      have oS:e.on<cY.size:=by omega
      simp[oS] at h1⊢
      exact h1)
     have h2:=(hL j).1 (by simp[hj])
     rw[h1] at h2
     cases h2
    ·exact h)
   have yy:∀a' w',Nx B E w0 N τ a' w'->wpAny P .any ops Q iq (cY.setIfInBounds i true) a' w':=by
    rintro a' w' ⟨G',r'⟩
    refine ih (pre++post) _ τ a' w' G' r' t2 ?_ (by simp at hl⊢;omega) (by simpa using hs) (fun j=>?_) (fun k o ho hk e he hb=>?_)
    ·rw[List.pairwise_append]
     exact⟨f8.1,(List.pairwise_cons.1 f8.2.1).2,fun x hx y hy=>f8.2.2 x hx y (by simp[hy])⟩
    ·by_cases rv:j=i
     ·subst rv
      have kE:j<cY.size:=by omega
      simp only[List.mem_append]
      constructor
      ·rintro(h|h)
       ·have:=f8.2.2 j h j (by simp);omega
       ·have:=(List.pairwise_cons.1 f8.2.1).1 j h;omega
      ·intro h
       simp[kE] at h
     ·rw[getD_set_ne true (Ne.symm rv),<-hL j]
      simp[rv]
    ·have DU:∀q,cY.getD q true=true->(cY.setIfInBounds i true).getD q true=true:=by
      intro q hq
      by_cases mG:q=i
      ·subst mG
       have:q<cY.size:=by omega
       simp[this]
      ·rw[getD_set_ne true (Ne.symm mG)];exact hq
     by_cases yl:k=i
     ·subst yl
      rw[jR] at ho
      injection ho with ho
      subst ho
      have h1:=DF e he hb
      have bG:=hd.back k _ jR e he hb
      have oS:e.on<cY.size:=by omega
      refine DU _ ?_
      simp[oS] at h1⊢
      exact h1
     ·rw[getD_set_ne true (Ne.symm yl)] at hk
      exact DU _ (hC k o ho hk e he hb)
   unfold wpOp
   rw[jR]
   simp only
   rcases Ii (Q:=Q) r hT N7 t1 with⟨hw,h⟩|⟨hw,h⟩
   ·rw[if_pos hw]
    exact .inl (Oper.wp_mono yy h)
   ·rw[if_neg (by simp[hw])]
    exact yy _ _ h
theorem XG:∀(post pre:List bR) (σ:St),pY T (pre++post) (List.range' pre.length post.length) σ=j7 T post σ
 |[],pre,σ=>by simp[pY,j7]
 |m::post,pre,σ=>by
  simp only[List.length_cons,List.range'_succ,pY,j7]
  rw[List.getElem?_append_right (Nat.le_refl _),Nat.sub_self]
  simp only[List.getElem?_cons_zero]
  cases d7 T m σ with
  |none=>rfl
  |some σ1=>
   have:=XG post (pre++[m]) σ1
   simp only[List.length_append,List.length_cons,List.length_nil,List.append_assoc,List.singleton_append,Nat.zero_add] at this
   exact this
theorem Me:∀{l:List Oper} {ms:List bR},oG P N ops l ms=true->ms.length=l.length/\∀(i:Nat) (m:bR),ms[i]? =some m->∃o,l[i]? =some o/\tG P N ops o m=true
 |[],[],_=>⟨rfl,by simp⟩
 |o::l,m::ms,hc=>by
  simp only[oG,Bool.and_eq_true] at hc
  obtain⟨i1,i2⟩:=Me hc.2
  refine⟨by simp[i1],fun i m' hm=>?_⟩
  cases i with
  |zero=>simp at hm;subst hm;exact⟨o,rfl,hc.1⟩
  |succ i=>exact i2 i m' (by simpa using hm)
 |[],_::_,hc=>by simp[oG] at hc
 |_::_,[],hc=>by simp[oG] at hc
theorem R.drawn (r:R B E w0 N σ a w G) (k:Nat):R B E w0 N σ a {w with drawn:=k} G:=by
 have hw:∀b,b<w.heap.size->({w with drawn:=k}:World).heap[b]? =w.heap[b]? :=fun _ _=>rfl
 exact r.step rfl (fun _ h=>h) (bc.world (fun b hb=>hw b (r.hr.fW b hb)) _) (r.hr.grow hw (Nat.le_refl _)) (r.fr.grow hw (Nat.le_refl _) rfl rfl rfl)
theorem anr (hT:nH P T) (hm:P.follows .mixedOrders=true) {id:Nat} {rh:Bool} {ms:List bR} (hc:oG P N ops ops.toList ms=true) (hd:rh=true->HG ops.toList ms=true)
  (hx:j7 T ms σ=some σ') (r:R B E w0 N σ a w G) (hQ:∀a w G,R B E w0 N σ' a w G->Q .normal a w):(Code.region id ops rh).wp P Q a w:=by
 cases rh with
 |false=>exact wp_region_list (Vu hT hc hx r hQ)
 |true=>
  obtain⟨k1,k2⟩:=Me hc
  have hlen:ms.length=ops.size:=by simpa using k1
  refine wp_region_any hm (apG (B:=B) (E:=E) (w0:=w0) (N:=N) hT (fun i m h=>by
   obtain⟨o,h1,h2⟩:=k2 i m h;exact⟨o,by simpa using h1,h2⟩) hlen (ad6 (hd rfl)) hQ ops.size (List.range ops.size) _ σ a _ G (r.drawn _) ?_ ?_ (by simp) (by simp) (fun j=>?_) (fun k o ho hk=>?_))
  ·have:=XG (T:=T) ms [] σ
   simp only[List.nil_append,List.length_nil,hlen,<-List.range_eq_range'] at this
   rw[this]
   exact hx
  ·exact List.pairwise_lt_range
  ·rw[List.mem_range]
   constructor
   ·intro h;simp[h]
   ·intro h
    rcases Nat.lt_or_ge j ops.size with h'|h'
    ·exact h'
    ·simp[Array.getElem?_eq_none (show(Array.replicate ops.size false).size<=j by simpa using h')] at h
  ·exfalso
   have Ot:k<ops.size:=(Array.getElem?_eq_some_iff.1 ho).1
   simp[Ot] at hk
end
end Go.Am
