/- Am21: regions. No condition. -/
import Derived.Test.YtbgmbplglejidaaAm20
set_option linter.unusedVariables false
namespace Go.Am
def XE (ops:Array Oper) (o:Oper) (mo:bK):Bool:=
 match o.guard,mo.guard with
 |none,none=>true
 |some (j,kx),some (s,adZ)=>decide ((ops[j]?).bind (·.dst)=some s)&&(kx==adZ)
 |_,_=>false
def tT (P:Program) (N:Nat) (ops:Array Oper) (o:Oper) (mo:bK):Bool:=
 decide (o.dst=mo.dst)&&(match o.dst with|some n=>decide (n<N)|none=>true)&&XE ops o mo&&dX P o mo.op
def oG (P:Program) (N:Nat) (ops:Array Oper):List Oper->List bK->Bool
 |[],[]=>true
 |o::os,m::ms=>tT P N ops o m&&oG P N ops os ms
 |_,_=>false
section
variable {B:Nat} {E:Ex} {w0 w w':World} {G G':Gh} {N:Nat}
variable {P:Program} {T:aS} {o:Oper} {mo:bK} {a:Act} {σ σ':St} {Q:Exit->Act->World->Prop} {ops:Array Oper}
structure nI (P:Program) (T:aS):Prop where
 spec:xT P T
 ac6:F9 P T
 ac7:Ad P T
 ac8:CR P T
 fn:∀f M,aS.find T.pure f=some M->bi P f=true
theorem R.guard (r:R B E w0 N σ a w G) {j s:Nat} {b:Bool} (hj:(ops[j]?).bind (·.dst)=some s) (hb:σ.env s=.one (.c (.bool b))):yielded ops a.tmps j=some b:=by
 have h1:=r.env s
 rw[hb] at h1
 have h2:=h1.Ao
 have h3:a.tmps[s]? =some (.bool b):=by
  rw[Array.getD_eq_getD_getElem?] at h2
  cases ht:a.tmps[s]? with
  |none=>rw[ht] at h2;simp[undef] at h2
  |some v=>rw[ht] at h2;simp at h2;rw[h2]
 unfold yielded
 rw[hj]
 simp[h3]
theorem acT {w:World} {G:Gh} {h:Nat->Option aq}:RA w G h (.bo []) undef:=⟨[],rfl,rfl,fun j x u hx=>by simp at hx⟩
theorem acU {u:Nat->Prop} (m:Nat) (hm:(aj.bo []).ref m):u m:=by
 obtain⟨c,hc,_⟩:=hm
 cases hc
theorem R.ahI (r:R B E w0 N σ a w G) {j s:Nat} (hj:(ops[j]?).bind (·.dst)=some s) (hb:σ.env s=.bo []):yielded ops a.tmps j=none:=by
 have h1:=r.env s
 rw[hb] at h1
 obtain⟨vs,h2,h3,_⟩:=h1
 have:vs=[]:=List.length_eq_zero_iff.1 h3
 subst this
 rw[Array.getD_eq_getD_getElem?] at h2
 unfold yielded
 rw[hj]
 simp only[Option.bind_some]
 cases ht:a.tmps[s]? with
 |none=>rfl
 |some v=>
  rw[ht] at h2
  simp only[Option.getD_some] at h2
  subst h2
  rfl
theorem Is (r:R B E w0 N σ a w G) (hT:nI P T) (hc:tT P N ops o mo=true) (hx:d8 T mo σ=some σ'):
  (Region.wanted o (yielded ops a.tmps)=true/\o.wp P a w (Nx B E w0 N σ') Q)\/(Region.wanted o (yielded ops a.tmps)=false/\Nx B E w0 N σ' (a.put o.dst undef) w):=by
 simp only[tT,Bool.and_eq_true,decide_eq_true_eq] at hc
 obtain⟨⟨⟨c1,c2⟩,c3⟩,c4⟩:=hc
 have hN:∀n,o.dst=some n->n<N:=fun n hn=>by rw[hn] at c2;simpa using c2
 unfold XE at c3
 unfold d8 at hx
 split at c3
 ·rename_i g1 g2
  simp only[g2] at hx
  rw[<-c1] at hx
  exact .inl ⟨by simp[Region.wanted,g1],YD r hT.spec hT.ac6 hT.ac7 hT.ac8 hT.fn hN c4 hx⟩
 ·rename_i j kx s adZ g1 g2
  simp only[Bool.and_eq_true,decide_eq_true_eq,beq_iff_eq] at c3
  obtain⟨k1,rfl⟩:=c3
  simp only[g2] at hx
  split at hx
  ·rename_i b hb
   have hy:=r.guard k1 hb
   split at hx
   ·rename_i OL
    rw[<-c1] at hx
    exact .inl ⟨by simp[Region.wanted,g1,hy,OL],YD r hT.spec hT.ac6 hT.ac7 hT.ac8 hT.fn hN c4 hx⟩
   ·rename_i OL
    injection hx with hx
    subst hx
    refine .inr ⟨by simp[Region.wanted,g1,hy,OL],G,?_⟩
    rw[<-c1]
    exact r.put (x:=.bo []) acT acU hN
  ·rename_i hb
   have hy:=r.ahI k1 hb
   injection hx with hx
   subst hx
   refine .inr ⟨by simp[Region.wanted,g1,hy],G,?_⟩
   rw[<-c1]
   exact r.put (x:=.bo []) acT acU hN
  ·cases hx
 ·cases c3
theorem R.wf (r:R B E w0 N σ a w G):Wf σ:=⟨r.r7,r.hr.gC⟩
theorem aqL {K:Act->World->Prop} (h:o.wp P a w K (fun _ _ _=>False)):∃a' w',K a' w':=by
 unfold Oper.wp at h
 unfold Oper.upon at h
 split at h
 ·exact⟨_,_,h⟩
 ·exact⟨_,_,h⟩
 ·exact⟨_,_,h⟩
 ·obtain⟨e,w',fr,hR,_⟩:=h []
  cases e with
  |returned v=>exact⟨_,_,hR⟩
  |panicked c=>exact hR.elim
  |outgrown=>obtain⟨_,_,hf⟩:=hR;exact hf.elim
 ·obtain⟨v,w',hR,_⟩:=h default []
  exact⟨_,_,hR⟩
 ·exact h.elim
 ·exact h.elim
def F7 (B:Nat) (E:Ex) (w0:World) (N:Nat) (σ:St):Prop:=∃a w G,R B E w0 N σ a w G
theorem ab2 (r:F7 B E w0 N σ) (hT:nI P T) (hc:tT P N ops o mo=true) (hx:d8 T mo σ=some σ'):F7 B E w0 N σ':=by
 obtain⟨a,w,G,r⟩:=r
 rcases Is (Q:=fun _ _ _=>False) r hT hc hx with⟨_,h⟩|⟨_,G',h⟩
 ·obtain⟨a',w',G',h⟩:=aqL h
  exact⟨a',w',G',h⟩
 ·exact⟨_,_,G',h⟩
theorem WE (hT:nI P T):∀{l:List Oper} {ms:List bK} {σ σ':St} {a:Act} {w:World} {G:Gh},oG P N ops l ms=true->j8 T ms σ=some σ'->R B E w0 N σ a w G->
  (∀a w G,R B E w0 N σ' a w G->Q .normal a w)->wpList P ops Q l a w
 |[],[],σ,σ',a,w,G,hc,hx,r,hQ=>by
  simp only[j8] at hx
  injection hx with hx
  subst hx
  exact hQ _ _ _ r
 |o::l,m::ms,σ,σ',a,w,G,hc,hx,r,hQ=>by
  simp only[oG,Bool.and_eq_true] at hc
  simp only[j8] at hx
  split at hx
  ·rename_i σ1 e1
   unfold wpList
   rcases Is (Q:=Q) r hT hc.1 e1 with⟨hw,h⟩|⟨hw,G',h⟩
   ·rw[if_pos hw]
    exact .inl (Oper.wp_mono (fun a' w' ⟨G',r'⟩=>WE hT hc.2 hx r' hQ) h)
   ·rw[if_neg (by simp[hw])]
    exact WE hT hc.2 hx h hQ
  ·cases hx
 |[],_::_,_,_,_,_,_,hc,_,_,_=>by simp[oG] at hc
 |_::_,[],_,_,_,_,_,hc,_,_,_=>by simp[oG] at hc
def pS (T:aS) (ms:List bK):List Nat->St->Option St
 |[],σ=>some σ
 |i::L,σ=>match ms[i]? with
  |some o=>match d8 T o σ with
   |some σ1=>pS T ms L σ1
   |none=>none
  |none=>none
inductive vl (ops:Array Oper):Nat->Nat->Prop where
 |Yg (i:Nat) (o:Oper) (e:_):ops[i]? =some o->e∈o.after->Region.binds .any e=true->vl ops i e.on
 |step (i j:Nat) (o:Oper) (e:_):ops[i]? =some o->e∈o.after->Region.binds .any e=true->vl ops e.on j->vl ops i j
def M3 (o:Oper):List Nat:=(o.after.toList.filter (Region.binds .any)).map (·.on)
def Ew (cL:List Nat):List Nat->Nat
 |[]=>0
 |j::js=>(Nat.shiftLeft 1 j|||cL.getD j 0)|||Ew cL js
def BB:List Oper->List Nat->List Nat
 |[],cL=>cL
 |o::os,cL=>BB os (cL++[Ew cL (M3 o)])
theorem akC {o:Oper} {j:Nat} (h:j∈M3 o):∃e∈o.after,Region.binds .any e=true/\e.on=j:=by
 unfold M3 at h
 simp only[List.mem_map,List.mem_filter] at h
 obtain⟨e,⟨h1,h2⟩,h3⟩:=h
 exact⟨e,Array.mem_toList_iff.1 h1,h2,h3⟩
theorem aa4 {cL:List Nat}:∀{js:List Nat} {k:Nat},(Ew cL js).testBit k=true->∃j∈js,j=k\/(cL.getD j 0).testBit k=true
 |[],k,h=>by simp[Ew] at h
 |j::js,k,h=>by
  simp only[Ew,Nat.testBit_or,Bool.or_eq_true] at h
  rcases h with(h|h)|h
  ·refine⟨j,by simp,.inl ?_⟩
   have h':(1<<<j).testBit k=true:=h
   rw[Nat.one_shiftLeft,Nat.testBit_two_pow] at h'
   exact of_decide_eq_true h'
  ·exact⟨j,by simp,.inr h⟩
  ·obtain⟨j',h1,h2⟩:=aa4 h
   exact⟨j',by simp[h1],h2⟩
theorem QA {ops:Array Oper}:∀(os:List Oper) (cL:List Nat) (pre:List Oper),ops.toList=pre++os->cL.length=pre.length->(∀i k,(cL.getD i 0).testBit k=true->vl ops i k)->
  ∀i k,((BB os cL).getD i 0).testBit k=true->vl ops i k
 |[],cL,pre,_,_,h,i,k,hb=>h i k hb
 |o::os,cL,pre,he,hl,h,i,k,hb=>by
  refine QA os _ (pre++[o]) (by simp[he]) (by simp[hl]) (fun i k hb=>?_) i k hb
  by_cases bB:i<cL.length
  ·rw[List.getD_eq_getElem?_getD,List.getElem?_append_left bB,<-List.getD_eq_getElem?_getD] at hb
   exact h i k hb
  ·by_cases hi:i=cL.length
   ·subst hi
    rw[List.getD_eq_getElem?_getD,List.getElem?_append_right (Nat.le_refl _),Nat.sub_self] at hb
    simp only[List.getElem?_cons_zero,Option.getD_some] at hb
    have ho:ops[cL.length]? =some o:=by
     have:ops.toList[cL.length]? =some o:=by rw[he,hl,List.getElem?_append_right (Nat.le_refl _),Nat.sub_self];rfl
     simpa using this
    obtain⟨j,h1,h2⟩:=aa4 hb
    obtain⟨e,e1,e2,rfl⟩:=akC h1
    rcases h2 with rfl|h2
    ·exact .Yg _ o e ho e1 e2
    ·exact .step _ _ o e ho e1 e2 (h _ _ h2)
   ·rw[List.getD_eq_getElem?_getD,List.getElem?_eq_none (by simp;omega)] at hb
    simp at hb
def HS (ops:List Oper) (ms:List bK):Bool:=
 (fun ks:List Nat=>(List.range ops.length).all fun i=>match ops[i]?,ms[i]? with
  |some o,some m=>(o.after.toList.all fun e=> !Region.binds .any e||decide (e.on<i))&&
   (List.range i).all fun j=>(ks.getD i 0).testBit j||(match ms[j]? with|some mj=>Az mj m|none=>false)
  |_,_=>false) (BB ops [])
structure WK (ops:Array Oper) (ms:List bK):Prop where
 back:∀(i:Nat) (o:Oper),ops[i]? =some o->∀e∈o.after,Region.binds .any e=true->e.on<i
 pair:∀(i j:Nat) (o:Oper) (m:bK),ops[i]? =some o->ms[i]? =some m->j<i->vl ops i j\/∃mj,ms[j]? =some mj/\Az mj m=true
theorem aeT {ms:List bK} (h:HS ops.toList ms=true):WK ops ms:=by
  simp only[HS,List.all_eq_true,List.mem_range] at h
  have cV:∀(i:Nat) (o:Oper),ops[i]? =some o->∃m,ms[i]? =some m/\(o.after.toList.all fun e=> !Region.binds .any e||decide (e.on<i))=true/\
        ∀j,j<i->(((BB ops.toList []).getD i 0).testBit j||(match ms[j]? with|some mj=>Az mj m|none=>false))=true:=by
    intro i o ho
    have hi:i<ops.toList.length:=by simpa using(Array.getElem?_eq_some_iff.1 ho).1
    have hi':=h i hi
    have gm:ops.toList[i]? =some o:=by simpa using ho
    rw[gm] at hi'
    cases hm:ms[i]? with
    |none=>rw[hm] at hi';cases hi'
    |some m=>
     rw[hm] at hi'
     simp only[Bool.and_eq_true,List.all_eq_true,List.mem_range] at hi'
     exact⟨m,rfl,by rw[List.all_eq_true];exact hi'.1,hi'.2⟩
  refine⟨fun i o ho e he hb=>?_,fun i j o m ho hm hj=>?_⟩
  · obtain⟨m,_,k1,_⟩:=cV i o ho
    have:=List.all_eq_true.1 k1 e (Array.mem_toList_iff.2 he)
    simp[hb] at this
    exact this
  · obtain⟨m',bI,_,k2⟩:=cV i o ho
    rw[hm] at bI
    injection bI with bI
    subst bI
    have:=k2 j hj
    rw[Bool.or_eq_true] at this
    rcases this with h1|h1
    · exact .inl (QA ops.toList [] [] rfl rfl (by intro i k hb;simp at hb) i j h1)
    · cases A7:ms[j]? with
      |none=>rw[A7] at h1;cases h1
      |some mj=>rw[A7] at h1;exact .inr ⟨mj,rfl,h1⟩
def KZ (ops:Array Oper) (cW:Array Bool):Prop:=
 ∀(k:Nat) (o:Oper),ops[k]? =some o->cW.getD k true=true->∀e∈o.after,Region.binds .any e=true->cW.getD e.on true=true
theorem Xh {cW:Array Bool} (hc:KZ ops cW) {i j:Nat} (hb:vl ops i j):(∀o,ops[i]? =some o->∀e∈o.after,Region.binds .any e=true->cW.getD e.on true=true)->cW.getD j true=true:=by
 induction hb with
 |Yg i o e ho he hb=>exact fun h=>h o ho e he hb
 |step i j o e ho he hb _ ih=>exact fun h=>ih fun o' gm=>hc _ o' gm (h o ho e he hb)
theorem YG (hT:nI P T) {ms:List bK} (rr:∀(i:Nat) (m:bK),ms[i]? =some m->∃o,ops[i]? =some o/\tT P N ops o m=true) {i:Nat} {mi:bK} (hi:ms[i]? =some mi) {post:List Nat} {iP:St}:
  ∀{pre:List Nat} {σ:St},F7 B E w0 N σ->pS T ms (pre++i::post) σ=some iP->(∀j∈pre,∃mj,ms[j]? =some mj/\Az mj mi=true)->
  ∃τ,d8 T mi σ=some τ/\pS T ms (pre++post) τ=some iP
 |[],σ,hr,hx,hc=>by
  simp only[List.nil_append,pS,hi] at hx
  split at hx
  ·rename_i σ1 e;exact⟨σ1,e,hx⟩
  ·cases hx
 |j::pre,σ,hr,hx,hc=>by
  obtain⟨mj,hj,m7⟩:=hc j (by simp)
  simp only[List.cons_append,pS,hj] at hx
  split at hx
  ·rename_i σ1 e1
   obtain⟨oj,_,f9⟩:=rr j mj hj
   obtain⟨oz,t1,t2⟩:=YG hT rr hi (ab2 hr hT f9 e1) hx (fun k hk=>hc k (by simp[hk]))
   obtain⟨a,w,G,r⟩:=hr
   obtain⟨τ,s1,s2⟩:=ae5 r.wf m7 e1 t1
   exact⟨τ,s1,by simp only[List.cons_append,pS,hj,s2];exact t2⟩
  ·cases hx
theorem aqJ (hT:nI P T) {ms:List bK} (rr:∀(i:Nat) (m:bK),ms[i]? =some m->∃o,ops[i]? =some o/\tT P N ops o m=true) (hlen:ms.length=ops.size) (hd:WK ops ms) {iP:St}
  (hQ:∀a w G,R B E w0 N iP a w G->Q .normal a w):
  ∀(ik:Nat) (L:List Nat) (cW:Array Bool) (σ:St) (a:Act) (w:World) (G:Gh),R B E w0 N σ a w G->pS T ms L σ=some iP->L.Pairwise (·<·)->L.length<=ik->cW.size=ops.size->
   (∀j,j∈L↔cW.getD j true=false)->KZ ops cW->wpAny P .any ops Q ik cW a w:=by
 have first:∀(L:List Nat) (cW:Array Bool),L.Pairwise (·<·)->cW.size=ops.size->(∀j,j∈L↔cW.getD j true=false)->Region.ready .any ops cW=[]->L=[]:=by
  intro L cW hp hs hL hr
  cases L with
  |nil=>rfl
  |cons j L=>
   exfalso
   have hj:=(hL j).1 (by simp)
   have kE:j<ops.size:=by
    rw[<-hs]
    rcases Nat.lt_or_ge j cW.size with h|h
    ·exact h
    ·simp[Array.getElem?_eq_none h] at hj
   have ho:ops[j]? =some ops[j]:=Array.getElem?_eq_getElem kE
   have:j∈Region.ready .any ops cW:=by
    rw[mem_ready]
    refine⟨hj,_,ho,fun e he hb=>?_⟩
    have bB:=hd.back j _ ho e he hb
    have nT:e.on∉j::L:=by
     intro hm
     cases hm with
     |head=>omega
     |tail _ hm=>have:=(List.pairwise_cons.1 hp).1 _ hm;omega
    have aE:cW.getD e.on true≠false:=fun h=>nT ((hL e.on).2 h)
    have oT:e.on<cW.size:=by omega
    simp[oT] at aE⊢
    exact aE
   rw[hr] at this
   cases this
 intro ik
 induction ik with
 |zero=>
  intro L cW σ a w G r hx hp hl hs hL hC
  have rq:L=[]:=List.eq_nil_of_length_eq_zero (by omega)
  subst rq
  simp only[pS] at hx
  injection hx with hx
  subst hx
  refine⟨?_,hQ _ _ _ r⟩
  cases hr:Region.ready .any ops cW with
  |nil=>rfl
  |cons i l=>
   have hm:i∈Region.ready .any ops cW:=by rw[hr];simp
   have:=(hL i).2 (mem_ready.1 hm).1
   cases this
 |succ ik ih=>
  intro L cW σ a w G r hx hp hl hs hL hC
  refine⟨fun hr=>?_,fun i hi=>?_⟩
  ·have rq:=first L cW hp hs hL hr
   subst rq
   simp only[pS] at hx
   injection hx with hx
   subst hx
   exact hQ _ _ _ r
  ·obtain⟨O5,oi,jP,DF⟩:=mem_ready.1 hi
   have qc:i∈L:=(hL i).2 O5
   obtain⟨pre,post,rfl⟩:=List.append_of_mem qc
   have his:i<ops.size:=(Array.getElem?_eq_some_iff.1 jP).1
   have yz:ms[i]? =some ms[i]:=List.getElem?_eq_getElem (by omega)
   obtain⟨o',gm,OS⟩:=rr i _ yz
   rw[jP] at gm
   injection gm with gm
   subst gm
   have fU:=List.pairwise_append.1 hp
   obtain⟨τ,t1,t2⟩:=YG (ops:=ops) hT rr yz ⟨a,w,G,r⟩ hx (fun j hj=>by
    have rv:j<i:=fU.2.2 j hj i (by simp)
    rcases hd.pair i j oi _ jP yz rv with OH|h
    ·have h1:=Xh hC OH (fun o ho e he hb=>by
      rw[jP] at ho
      injection ho with ho
      subst ho
      have h1:=DF e he hb
      have bB:=hd.back i _ jP e he hb
      have oT:e.on<cW.size:=by omega
      simp[oT] at h1⊢
      exact h1)
     have h2:=(hL j).1 (by simp[hj])
     rw[h1] at h2
     cases h2
    ·exact h)
   have yF:∀a' w',Nx B E w0 N τ a' w'->wpAny P .any ops Q ik (cW.setIfInBounds i true) a' w':=by
    rintro a' w' ⟨G',r'⟩
    refine ih (pre++post) _ τ a' w' G' r' t2 ?_ (by simp at hl⊢;omega) (by simpa using hs) (fun j=>?_) (fun k o ho hk e he hb=>?_)
    ·rw[List.pairwise_append]
     exact⟨fU.1,(List.pairwise_cons.1 fU.2.1).2,fun x hx y hy=>fU.2.2 x hx y (by simp[hy])⟩
    ·by_cases rv:j=i
     ·subst rv
      have kE:j<cW.size:=by omega
      simp only[List.mem_append]
      constructor
      ·rintro(h|h)
       ·have:=fU.2.2 j h j (by simp);omega
       ·have:=(List.pairwise_cons.1 fU.2.1).1 j h;omega
      ·intro h
       simp[kE] at h
     ·rw[getD_set_ne true (Ne.symm rv),<-hL j]
      simp[rv]
    ·have DW:∀q,cW.getD q true=true->(cW.setIfInBounds i true).getD q true=true:=by
      intro q hq
      by_cases mD:q=i
      ·subst mD
       have:q<cW.size:=by omega
       simp[this]
      ·rw[getD_set_ne true (Ne.symm mD)];exact hq
     by_cases DT:k=i
     ·subst DT
      rw[jP] at ho
      injection ho with ho
      subst ho
      have h1:=DF e he hb
      have bB:=hd.back k _ jP e he hb
      have oT:e.on<cW.size:=by omega
      refine DW _ ?_
      simp[oT] at h1⊢
      exact h1
     ·rw[getD_set_ne true (Ne.symm DT)] at hk
      exact DW _ (hC k o ho hk e he hb)
   unfold wpOp
   rw[jP]
   simp only
   rcases Is (Q:=Q) r hT OS t1 with⟨hw,h⟩|⟨hw,h⟩
   ·rw[if_pos hw]
    exact .inl (Oper.wp_mono yF h)
   ·rw[if_neg (by simp[hw])]
    exact yF _ _ h
theorem YF:∀(post pre:List bK) (σ:St),pS T (pre++post) (List.range' pre.length post.length) σ=j8 T post σ
 |[],pre,σ=>by simp[pS,j8]
 |m::post,pre,σ=>by
  simp only[List.length_cons,List.range'_succ,pS,j8]
  rw[List.getElem?_append_right (Nat.le_refl _),Nat.sub_self]
  simp only[List.getElem?_cons_zero]
  cases d8 T m σ with
  |none=>rfl
  |some σ1=>
   have:=YF post (pre++[m]) σ1
   simp only[List.length_append,List.length_cons,List.length_nil,List.append_assoc,List.singleton_append,Nat.zero_add] at this
   exact this
theorem MA:∀{l:List Oper} {ms:List bK},oG P N ops l ms=true->ms.length=l.length/\∀(i:Nat) (m:bK),ms[i]? =some m->∃o,l[i]? =some o/\tT P N ops o m=true
 |[],[],_=>⟨rfl,by simp⟩
 |o::l,m::ms,hc=>by
  simp only[oG,Bool.and_eq_true] at hc
  obtain⟨i1,i2⟩:=MA hc.2
  refine⟨by simp[i1],fun i m' hm=>?_⟩
  cases i with
  |zero=>simp at hm;subst hm;exact⟨o,rfl,hc.1⟩
  |succ i=>exact i2 i m' (by simpa using hm)
 |[],_::_,hc=>by simp[oG] at hc
 |_::_,[],hc=>by simp[oG] at hc
theorem R.drawn (r:R B E w0 N σ a w G) (k:Nat):R B E w0 N σ a {w with drawn:=k} G:=by
 have hw:∀b,b<w.heap.size->({w with drawn:=k}:World).heap[b]? =w.heap[b]? :=fun _ _=>rfl
 exact r.step rfl (fun _ h=>h) (aZ.world (fun b hb=>hw b (r.hr.fL b hb)) _) (r.hr.grow hw (Nat.le_refl _)) (r.fr.grow hw (Nat.le_refl _) rfl rfl rfl)
theorem aoU (hT:nI P T) (hm:P.follows .mixedOrders=true) {id:Nat} {re:Bool} {ms:List bK} (hc:oG P N ops ops.toList ms=true) (hd:re=true->HS ops.toList ms=true)
  (hx:j8 T ms σ=some σ') (r:R B E w0 N σ a w G) (hQ:∀a w G,R B E w0 N σ' a w G->Q .normal a w):(Code.region id ops re).wp P Q a w:=by
 cases re with
 |false=>exact wp_region_list (WE hT hc hx r hQ)
 |true=>
  obtain⟨k1,k2⟩:=MA hc
  have hlen:ms.length=ops.size:=by simpa using k1
  refine wp_region_any hm (aqJ (B:=B) (E:=E) (w0:=w0) (N:=N) hT (fun i m h=>by
   obtain⟨o,h1,h2⟩:=k2 i m h;exact⟨o,by simpa using h1,h2⟩) hlen (aeT (hd rfl)) hQ ops.size (List.range ops.size) _ σ a _ G (r.drawn _) ?_ ?_ (by simp) (by simp) (fun j=>?_) (fun k o ho hk=>?_))
  ·have:=YF (T:=T) ms [] σ
   simp only[List.nil_append,List.length_nil,hlen,<-List.range_eq_range'] at this
   rw[this]
   exact hx
  ·exact List.pairwise_lt_range
  ·rw[List.mem_range]
   constructor
   ·intro h;simp[h]
   ·intro h
    rcases Nat.lt_or_ge j ops.size with h'|h'
    ·exact h'
    ·simp[Array.getElem?_eq_none (show(Array.replicate ops.size false).size<=j by simpa using h')] at h
  ·exfalso
   have Pa:k<ops.size:=(Array.getElem?_eq_some_iff.1 ho).1
   simp[Pa] at hk
end
end Go.Am
