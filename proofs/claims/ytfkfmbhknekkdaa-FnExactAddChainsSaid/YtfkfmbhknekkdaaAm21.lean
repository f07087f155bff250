/- Am21: regions. No condition. -/
import Derived.Test.YtfkfmbhknekkdaaAm20
set_option linter.unusedVariables false
namespace Go.Am
def RN (ops:Array Oper) (o:Oper) (mo:bI):Bool:=
 match o.guard,mo.guard with
 |none,none=>true
 |some (j,jt),some (s,Zy)=>decide ((ops[j]?).bind (·.dst)=some s)&&(jt==Zy)
 |_,_=>false
def r5 (P:Program) (N:Nat) (ops:Array Oper) (o:Oper) (mo:bI):Bool:=
 decide (o.dst=mo.dst)&&(match o.dst with|some n=>decide (n<N)|none=>true)&&RN ops o mo&&dt P o mo.op
def mW (P:Program) (N:Nat) (ops:Array Oper):List Oper->List bI->Bool
 |[],[]=>true
 |o::os,m::ms=>r5 P N ops o m&&mW P N ops os ms
 |_,_=>false
section
variable {B:Nat} {E:Ex} {w0 w w':World} {G G':Gh} {N:Nat}
variable {P:Program} {T:aA} {o:Oper} {mo:bI} {a:Act} {σ σ':St} {Q:Exit->Act->World->Prop} {ops:Array Oper}
structure mR (P:Program) (T:aA):Prop where
 spec:vz P T
 YK:xU P T
 YL:xV P T
 YM:tx P T
 fn:∀f M,aA.find T.pure f=some M->ca P f=true
theorem R.guard (r:R B E w0 N σ a w G) {j s:Nat} {b:Bool} (hj:(ops[j]?).bind (·.dst)=some s) (hb:σ.env s=.one (.c (.bool b))):yielded ops a.tmps j=some b:=by
 have h1:=r.env s
 rw[hb] at h1
 have h2:=h1.x6
 have h3:a.tmps[s]? =some (.bool b):=by
  rw[Array.getD_eq_getD_getElem?] at h2
  cases ht:a.tmps[s]? with
  |none=>rw[ht] at h2;simp[undef] at h2
  |some v=>rw[ht] at h2;simp at h2;rw[h2]
 unfold yielded
 rw[hj]
 simp[h3]
theorem Yx {w:World} {G:Gh} {h:Nat->Option ak}:RA w G h (.aY []) undef:=⟨[],rfl,rfl,fun j x u hx=>by simp at hx⟩
theorem Yy {u:Nat->Prop} (m:Nat) (hm:(ai.aY []).ref m):u m:=by
 obtain⟨c,hc,_⟩:=hm
 cases hc
theorem R.acL (r:R B E w0 N σ a w G) {j s:Nat} (hj:(ops[j]?).bind (·.dst)=some s) (hb:σ.env s=.aY []):yielded ops a.tmps j=none:=by
 have h1:=r.env s
 rw[hb] at h1
 obtain⟨vs,h2,h3,_⟩:=h1
 have:vs=[]:=List.length_eq_zero_iff.1 h3
 subst this
 rw[Array.getD_eq_getD_getElem?] at h2
 unfold yielded
 rw[hj]
 simp only[Option.bind_some]
 cases ht:a.tmps[s]? with
 |none=>rfl
 |some v=>
  rw[ht] at h2
  simp only[Option.getD_some] at h2
  subst h2
  rfl
theorem EX (r:R B E w0 N σ a w G) (hT:mR P T) (hc:r5 P N ops o mo=true) (hx:dJ T mo σ=some σ'):
  (Region.wanted o (yielded ops a.tmps)=true/\o.wp P a w (Nx B E w0 N σ') Q)\/(Region.wanted o (yielded ops a.tmps)=false/\Nx B E w0 N σ' (a.put o.dst undef) w):=by
 simp only[r5,Bool.and_eq_true,decide_eq_true_eq] at hc
 obtain⟨⟨⟨c1,c2⟩,c3⟩,c4⟩:=hc
 have hN:∀n,o.dst=some n->n<N:=fun n hn=>by rw[hn] at c2;simpa using c2
 unfold RN at c3
 unfold dJ at hx
 split at c3
 ·rename_i g1 g2
  simp only[g2] at hx
  rw[<-c1] at hx
  exact .inl ⟨by simp[Region.wanted,g1],SO r hT.spec hT.YK hT.YL hT.YM hT.fn hN c4 hx⟩
 ·rename_i j jt s Zy g1 g2
  simp only[Bool.and_eq_true,decide_eq_true_eq,beq_iff_eq] at c3
  obtain⟨k1,rfl⟩:=c3
  simp only[g2] at hx
  split at hx
  ·rename_i b hb
   have hy:=r.guard k1 hb
   split at hx
   ·rename_i Kw
    rw[<-c1] at hx
    exact .inl ⟨by simp[Region.wanted,g1,hy,Kw],SO r hT.spec hT.YK hT.YL hT.YM hT.fn hN c4 hx⟩
   ·rename_i Kw
    injection hx with hx
    subst hx
    refine .inr ⟨by simp[Region.wanted,g1,hy,Kw],G,?_⟩
    rw[<-c1]
    exact r.put (x:=.aY []) Yx Yy hN
  ·rename_i hb
   have hy:=r.acL k1 hb
   injection hx with hx
   subst hx
   refine .inr ⟨by simp[Region.wanted,g1,hy],G,?_⟩
   rw[<-c1]
   exact r.put (x:=.aY []) Yx Yy hN
  ·cases hx
 ·cases c3
theorem R.wf (r:R B E w0 N σ a w G):Wf σ:=⟨r.qj,r.hr.fW⟩
theorem alC {K:Act->World->Prop} (h:o.wp P a w K (fun _ _ _=>False)):∃a' w',K a' w':=by
 unfold Oper.wp at h
 unfold Oper.upon at h
 split at h
 ·exact⟨_,_,h⟩
 ·exact⟨_,_,h⟩
 ·exact⟨_,_,h⟩
 ·obtain⟨e,w',fr,hR,_⟩:=h []
  cases e with
  |returned v=>exact⟨_,_,hR⟩
  |panicked c=>exact hR.elim
  |outgrown=>obtain⟨_,_,hf⟩:=hR;exact hf.elim
 ·obtain⟨v,w',hR,_⟩:=h default []
  exact⟨_,_,hR⟩
 ·exact h.elim
 ·exact h.elim
def Dr (B:Nat) (E:Ex) (w0:World) (N:Nat) (σ:St):Prop:=∃a w G,R B E w0 N σ a w G
theorem XP (r:Dr B E w0 N σ) (hT:mR P T) (hc:r5 P N ops o mo=true) (hx:dJ T mo σ=some σ'):Dr B E w0 N σ':=by
 obtain⟨a,w,G,r⟩:=r
 rcases EX (Q:=fun _ _ _=>False) r hT hc hx with⟨_,h⟩|⟨_,G',h⟩
 ·obtain⟨a',w',G',h⟩:=alC h
  exact⟨a',w',G',h⟩
 ·exact⟨_,_,G',h⟩
theorem Qz (hT:mR P T):∀{l:List Oper} {ms:List bI} {σ σ':St} {a:Act} {w:World} {G:Gh},mW P N ops l ms=true->ja T ms σ=some σ'->R B E w0 N σ a w G->
  (∀a w G,R B E w0 N σ' a w G->Q .normal a w)->wpList P ops Q l a w
 |[],[],σ,σ',a,w,G,hc,hx,r,hQ=>by
  simp only[ja] at hx
  injection hx with hx
  subst hx
  exact hQ _ _ _ r
 |o::l,m::ms,σ,σ',a,w,G,hc,hx,r,hQ=>by
  simp only[mW,Bool.and_eq_true] at hc
  simp only[ja] at hx
  split at hx
  ·rename_i σ1 e1
   unfold wpList
   rcases EX (Q:=Q) r hT hc.1 e1 with⟨hw,h⟩|⟨hw,G',h⟩
   ·rw[if_pos hw]
    exact .inl (Oper.wp_mono (fun a' w' ⟨G',r'⟩=>Qz hT hc.2 hx r' hQ) h)
   ·rw[if_neg (by simp[hw])]
    exact Qz hT hc.2 hx h hQ
  ·cases hx
 |[],_::_,_,_,_,_,_,hc,_,_,_=>by simp[mW] at hc
 |_::_,[],_,_,_,_,_,hc,_,_,_=>by simp[mW] at hc
def nW (T:aA) (ms:List bI):List Nat->St->Option St
 |[],σ=>some σ
 |i::L,σ=>match ms[i]? with
  |some o=>match dJ T o σ with
   |some σ1=>nW T ms L σ1
   |none=>none
  |none=>none
inductive tm (ops:Array Oper):Nat->Nat->Prop where
 |So (i:Nat) (o:Oper) (e:_):ops[i]? =some o->e∈o.after->Region.binds .any e=true->tm ops i e.on
 |step (i j:Nat) (o:Oper) (e:_):ops[i]? =some o->e∈o.after->Region.binds .any e=true->tm ops e.on j->tm ops i j
def Jl (o:Oper):List Nat:=(o.after.toList.filter (Region.binds .any)).map (·.on)
def Cs (cF:List Nat):List Nat->Nat
 |[]=>0
 |j::js=>(Nat.shiftLeft 1 j|||cF.getD j 0)|||Cs cF js
def zy:List Oper->List Nat->List Nat
 |[],cF=>cF
 |o::os,cF=>zy os (cF++[Cs cF (Jl o)])
theorem agL {o:Oper} {j:Nat} (h:j∈Jl o):∃e∈o.after,Region.binds .any e=true/\e.on=j:=by
 unfold Jl at h
 simp only[List.mem_map,List.mem_filter] at h
 obtain⟨e,⟨h1,h2⟩,h3⟩:=h
 exact⟨e,Array.mem_toList_iff.1 h1,h2,h3⟩
theorem W3 {cF:List Nat}:∀{js:List Nat} {k:Nat},(Cs cF js).testBit k=true->∃j∈js,j=k\/(cF.getD j 0).testBit k=true
 |[],k,h=>by simp[Cs] at h
 |j::js,k,h=>by
  simp only[Cs,Nat.testBit_or,Bool.or_eq_true] at h
  rcases h with(h|h)|h
  ·refine⟨j,by simp,.inl ?_⟩
   have h':(1<<<j).testBit k=true:=h
   rw[Nat.one_shiftLeft,Nat.testBit_two_pow] at h'
   exact of_decide_eq_true h'
  ·exact⟨j,by simp,.inr h⟩
  ·obtain⟨j',h1,h2⟩:=W3 h
   exact⟨j',by simp[h1],h2⟩
theorem ME {ops:Array Oper}:∀(os:List Oper) (cF:List Nat) (pre:List Oper),ops.toList=pre++os->cF.length=pre.length->(∀i k,(cF.getD i 0).testBit k=true->tm ops i k)->
  ∀i k,((zy os cF).getD i 0).testBit k=true->tm ops i k
 |[],cF,pre,_,_,h,i,k,hb=>h i k hb
 |o::os,cF,pre,he,hl,h,i,k,hb=>by
  refine ME os _ (pre++[o]) (by simp[he]) (by simp[hl]) (fun i k hb=>?_) i k hb
  by_cases bB:i<cF.length
  ·rw[List.getD_eq_getElem?_getD,List.getElem?_append_left bB,<-List.getD_eq_getElem?_getD] at hb
   exact h i k hb
  ·by_cases hi:i=cF.length
   ·subst hi
    rw[List.getD_eq_getElem?_getD,List.getElem?_append_right (Nat.le_refl _),Nat.sub_self] at hb
    simp only[List.getElem?_cons_zero,Option.getD_some] at hb
    have ho:ops[cF.length]? =some o:=by
     have:ops.toList[cF.length]? =some o:=by rw[he,hl,List.getElem?_append_right (Nat.le_refl _),Nat.sub_self];rfl
     simpa using this
    obtain⟨j,h1,h2⟩:=W3 hb
    obtain⟨e,e1,e2,rfl⟩:=agL h1
    rcases h2 with rfl|h2
    ·exact .So _ o e ho e1 e2
    ·exact .step _ _ o e ho e1 e2 (h _ _ h2)
   ·rw[List.getD_eq_getElem?_getD,List.getElem?_eq_none (by simp;omega)] at hb
    simp at hb
def Er (ops:List Oper) (ms:List bI):Bool:=
 (fun ks:List Nat=>(List.range ops.length).all fun i=>match ops[i]?,ms[i]? with
  |some o,some m=>(o.after.toList.all fun e=> !Region.binds .any e||decide (e.on<i))&&
   (List.range i).all fun j=>(ks.getD i 0).testBit j||(match ms[j]? with|some mj=>yj mj m|none=>false)
  |_,_=>false) (zy ops [])
structure QF (ops:Array Oper) (ms:List bI):Prop where
 back:∀(i:Nat) (o:Oper),ops[i]? =some o->∀e∈o.after,Region.binds .any e=true->e.on<i
 pair:∀(i j:Nat) (o:Oper) (m:bI),ops[i]? =some o->ms[i]? =some m->j<i->tm ops i j\/∃mj,ms[j]? =some mj/\yj mj m=true
theorem aaC {ms:List bI} (h:Er ops.toList ms=true):QF ops ms:=by
  simp only[Er,List.all_eq_true,List.mem_range] at h
  have bU:∀(i:Nat) (o:Oper),ops[i]? =some o->∃m,ms[i]? =some m/\(o.after.toList.all fun e=> !Region.binds .any e||decide (e.on<i))=true/\
        ∀j,j<i->(((zy ops.toList []).getD i 0).testBit j||(match ms[j]? with|some mj=>yj mj m|none=>false))=true:=by
    intro i o ho
    have hi:i<ops.toList.length:=by simpa using(Array.getElem?_eq_some_iff.1 ho).1
    have hi':=h i hi
    have fP:ops.toList[i]? =some o:=by simpa using ho
    rw[fP] at hi'
    cases hm:ms[i]? with
    |none=>rw[hm] at hi';cases hi'
    |some m=>
     rw[hm] at hi'
     simp only[Bool.and_eq_true,List.all_eq_true,List.mem_range] at hi'
     exact⟨m,rfl,by rw[List.all_eq_true];exact hi'.1,hi'.2⟩
  refine⟨fun i o ho e he hb=>?_,fun i j o m ho hm hj=>?_⟩
  · obtain⟨m,_,k1,_⟩:=bU i o ho
    have:=List.all_eq_true.1 k1 e (Array.mem_toList_iff.2 he)
    simp[hb] at this
    exact this
  · obtain⟨m',bx,_,k2⟩:=bU i o ho
    rw[hm] at bx
    injection bx with bx
    subst bx
    have:=k2 j hj
    rw[Bool.or_eq_true] at this
    rcases this with h1|h1
    · exact .inl (ME ops.toList [] [] rfl rfl (by intro i k hb;simp at hb) i j h1)
    · cases yQ:ms[j]? with
      |none=>rw[yQ] at h1;cases h1
      |some mj=>rw[yQ] at h1;exact .inr ⟨mj,rfl,h1⟩
def HT (ops:Array Oper) (cO:Array Bool):Prop:=
 ∀(k:Nat) (o:Oper),ops[k]? =some o->cO.getD k true=true->∀e∈o.after,Region.binds .any e=true->cO.getD e.on true=true
theorem Rm {cO:Array Bool} (hc:HT ops cO) {i j:Nat} (hb:tm ops i j):(∀o,ops[i]? =some o->∀e∈o.after,Region.binds .any e=true->cO.getD e.on true=true)->cO.getD j true=true:=by
 induction hb with
 |So i o e ho he hb=>exact fun h=>h o ho e he hb
 |step i j o e ho he hb _ ih=>exact fun h=>ih fun o' fP=>hc _ o' fP (h o ho e he hb)
theorem SR (hT:mR P T) {ms:List bI} (pB:∀(i:Nat) (m:bI),ms[i]? =some m->∃o,ops[i]? =some o/\r5 P N ops o m=true) {i:Nat} {mi:bI} (hi:ms[i]? =some mi) {post:List Nat} {g0:St}:
  ∀{pre:List Nat} {σ:St},Dr B E w0 N σ->nW T ms (pre++i::post) σ=some g0->(∀j∈pre,∃mj,ms[j]? =some mj/\yj mj mi=true)->
  ∃τ,dJ T mi σ=some τ/\nW T ms (pre++post) τ=some g0
 |[],σ,hr,hx,hc=>by
  simp only[List.nil_append,nW,hi] at hx
  split at hx
  ·rename_i σ1 e;exact⟨σ1,e,hx⟩
  ·cases hx
 |j::pre,σ,hr,hx,hc=>by
  obtain⟨mj,hj,iI⟩:=hc j (by simp)
  simp only[List.cons_append,nW,hj] at hx
  split at hx
  ·rename_i σ1 e1
   obtain⟨oj,_,eE⟩:=pB j mj hj
   obtain⟨mN,t1,t2⟩:=SR hT pB hi (XP hr hT eE e1) hx (fun k hk=>hc k (by simp[hk]))
   obtain⟨a,w,G,r⟩:=hr
   obtain⟨τ,s1,s2⟩:=aaO r.wf iI e1 t1
   exact⟨τ,s1,by simp only[List.cons_append,nW,hj,s2];exact t2⟩
  ·cases hx
theorem alA (hT:mR P T) {ms:List bI} (pB:∀(i:Nat) (m:bI),ms[i]? =some m->∃o,ops[i]? =some o/\r5 P N ops o m=true) (hlen:ms.length=ops.size) (hd:QF ops ms) {g0:St}
  (hQ:∀a w G,R B E w0 N g0 a w G->Q .normal a w):
  ∀(gC:Nat) (L:List Nat) (cO:Array Bool) (σ:St) (a:Act) (w:World) (G:Gh),R B E w0 N σ a w G->nW T ms L σ=some g0->L.Pairwise (·<·)->L.length<=gC->cO.size=ops.size->
   (∀j,j∈L↔cO.getD j true=false)->HT ops cO->wpAny P .any ops Q gC cO a w:=by
 have first:∀(L:List Nat) (cO:Array Bool),L.Pairwise (·<·)->cO.size=ops.size->(∀j,j∈L↔cO.getD j true=false)->Region.ready .any ops cO=[]->L=[]:=by
  intro L cO hp hs hL hr
  cases L with
  |nil=>rfl
  |cons j L=>
   exfalso
   have hj:=(hL j).1 (by simp)
   have jC:j<ops.size:=by
    rw[<-hs]
    rcases Nat.lt_or_ge j cO.size with h|h
    ·exact h
    ·simp[Array.getElem?_eq_none h] at hj
   have ho:ops[j]? =some ops[j]:=Array.getElem?_eq_getElem jC
   have:j∈Region.ready .any ops cO:=by
    rw[mem_ready]
    refine⟨hj,_,ho,fun e he hb=>?_⟩
    have bB:=hd.back j _ ho e he hb
    have lC:e.on∉j::L:=by
     intro hm
     cases hm with
     |head=>omega
     |tail _ hm=>have:=(List.pairwise_cons.1 hp).1 _ hm;omega
    have av:cO.getD e.on true≠false:=fun h=>lC ((hL e.on).2 h)
    have m9:e.on<cO.size:=by omega
    simp[m9] at av⊢
    exact av
   rw[hr] at this
   cases this
 intro gC
 induction gC with
 |zero=>
  intro L cO σ a w G r hx hp hl hs hL hC
  have pz:L=[]:=List.eq_nil_of_length_eq_zero (by omega)
  subst pz
  simp only[nW] at hx
  injection hx with hx
  subst hx
  refine⟨?_,hQ _ _ _ r⟩
  cases hr:Region.ready .any ops cO with
  |nil=>rfl
  |cons i l=>
   have hm:i∈Region.ready .any ops cO:=by rw[hr];simp
   have:=(hL i).2 (mem_ready.1 hm).1
   cases this
 |succ gC ih=>
  intro L cO σ a w G r hx hp hl hs hL hC
  refine⟨fun hr=>?_,fun i hi=>?_⟩
  ·have pz:=first L cO hp hs hL hr
   subst pz
   simp only[nW] at hx
   injection hx with hx
   subst hx
   exact hQ _ _ _ r
  ·obtain⟨KL,oi,iL,Bt⟩:=mem_ready.1 hi
   have BJ:i∈L:=(hL i).2 KL
   obtain⟨pre,post,rfl⟩:=List.append_of_mem BJ
   have BK:i<ops.size:=(Array.getElem?_eq_some_iff.1 iL).1
   have wv:ms[i]? =some ms[i]:=List.getElem?_eq_getElem (by omega)
   obtain⟨o',fP,qO⟩:=pB i _ wv
   rw[iL] at fP
   injection fP with fP
   subst fP
   have fD:=List.pairwise_append.1 hp
   obtain⟨τ,t1,t2⟩:=SR (ops:=ops) hT pB wv ⟨a,w,G,r⟩ hx (fun j hj=>by
    have mf:j<i:=fD.2.2 j hj i (by simp)
    rcases hd.pair i j oi _ iL wv mf with Kt|h
    ·have h1:=Rm hC Kt (fun o ho e he hb=>by
      rw[iL] at ho
      injection ho with ho
      subst ho
      have h1:=Bt e he hb
      have bB:=hd.back i _ iL e he hb
      have m9:e.on<cO.size:=by omega
      simp[m9] at h1⊢
      exact h1)
     have h2:=(hL j).1 (by simp[hj])
     rw[h1] at h2
     cases h2
    ·exact h)
   have BV:∀a' w',Nx B E w0 N τ a' w'->wpAny P .any ops Q gC (cO.setIfInBounds i true) a' w':=by
    rintro a' w' ⟨G',r'⟩
    refine ih (pre++post) _ τ a' w' G' r' t2 ?_ (by simp at hl⊢;omega) (by simpa using hs) (fun j=>?_) (fun k o ho hk e he hb=>?_)
    ·rw[List.pairwise_append]
     exact⟨fD.1,(List.pairwise_cons.1 fD.2.1).2,fun x hx y hy=>fD.2.2 x hx y (by simp[hy])⟩
    ·by_cases mf:j=i
     ·subst mf
      have jC:j<cO.size:=by omega
      simp only[List.mem_append]
      constructor
      ·rintro(h|h)
       ·have:=fD.2.2 j h j (by simp);omega
       ·have:=(List.pairwise_cons.1 fD.2.1).1 j h;omega
      ·intro h
       simp[jC] at h
     ·rw[getD_set_ne true (Ne.symm mf),<-hL j]
      simp[mf]
    ·have BN:∀q,cO.getD q true=true->(cO.setIfInBounds i true).getD q true=true:=by
      intro q hq
      by_cases nb:q=i
      ·subst nb
       have:q<cO.size:=by omega
       simp[this]
      ·rw[getD_set_ne true (Ne.symm nb)];exact hq
     by_cases wk:k=i
     ·subst wk
      rw[iL] at ho
      injection ho with ho
      subst ho
      have h1:=Bt e he hb
      have bB:=hd.back k _ iL e he hb
      have m9:e.on<cO.size:=by omega
      refine BN _ ?_
      simp[m9] at h1⊢
      exact h1
     ·rw[getD_set_ne true (Ne.symm wk)] at hk
      exact BN _ (hC k o ho hk e he hb)
   unfold wpOp
   rw[iL]
   simp only
   rcases EX (Q:=Q) r hT qO t1 with⟨hw,h⟩|⟨hw,h⟩
   ·rw[if_pos hw]
    exact .inl (Oper.wp_mono BV h)
   ·rw[if_neg (by simp[hw])]
    exact BV _ _ h
theorem SQ:∀(post pre:List bI) (σ:St),nW T (pre++post) (List.range' pre.length post.length) σ=ja T post σ
 |[],pre,σ=>by simp[nW,ja]
 |m::post,pre,σ=>by
  simp only[List.length_cons,List.range'_succ,nW,ja]
  rw[List.getElem?_append_right (Nat.le_refl _),Nat.sub_self]
  simp only[List.getElem?_cons_zero]
  cases dJ T m σ with
  |none=>rfl
  |some σ1=>
   have:=SQ post (pre++[m]) σ1
   simp only[List.length_append,List.length_cons,List.length_nil,List.append_assoc,List.singleton_append,Nat.zero_add] at this
   exact this
theorem I3:∀{l:List Oper} {ms:List bI},mW P N ops l ms=true->ms.length=l.length/\∀(i:Nat) (m:bI),ms[i]? =some m->∃o,l[i]? =some o/\r5 P N ops o m=true
 |[],[],_=>⟨rfl,by simp⟩
 |o::l,m::ms,hc=>by
  simp only[mW,Bool.and_eq_true] at hc
  obtain⟨i1,i2⟩:=I3 hc.2
  refine⟨by simp[i1],fun i m' hm=>?_⟩
  cases i with
  |zero=>simp at hm;subst hm;exact⟨o,rfl,hc.1⟩
  |succ i=>exact i2 i m' (by simpa using hm)
 |[],_::_,hc=>by simp[mW] at hc
 |_::_,[],hc=>by simp[mW] at hc
theorem R.drawn (r:R B E w0 N σ a w G) (k:Nat):R B E w0 N σ a {w with drawn:=k} G:=by
 have hw:∀b,b<w.heap.size->({w with drawn:=k}:World).heap[b]? =w.heap[b]? :=fun _ _=>rfl
 exact r.step rfl (fun _ h=>h) (aQ.world (fun b hb=>hw b (r.hr.fv b hb)) _) (r.hr.grow hw (Nat.le_refl _)) (r.fr.grow hw (Nat.le_refl _) rfl rfl rfl)
theorem ajC (hT:mR P T) (hm:P.follows .mixedOrders=true) {id:Nat} {pi:Bool} {ms:List bI} (hc:mW P N ops ops.toList ms=true) (hd:pi=true->Er ops.toList ms=true)
  (hx:ja T ms σ=some σ') (r:R B E w0 N σ a w G) (hQ:∀a w G,R B E w0 N σ' a w G->Q .normal a w):(Code.region id ops pi).wp P Q a w:=by
 cases pi with
 |false=>exact wp_region_list (Qz hT hc hx r hQ)
 |true=>
  obtain⟨k1,k2⟩:=I3 hc
  have hlen:ms.length=ops.size:=by simpa using k1
  refine wp_region_any hm (alA (B:=B) (E:=E) (w0:=w0) (N:=N) hT (fun i m h=>by
   obtain⟨o,h1,h2⟩:=k2 i m h;exact⟨o,by simpa using h1,h2⟩) hlen (aaC (hd rfl)) hQ ops.size (List.range ops.size) _ σ a _ G (r.drawn _) ?_ ?_ (by simp) (by simp) (fun j=>?_) (fun k o ho hk=>?_))
  ·have:=SQ (T:=T) ms [] σ
   simp only[List.nil_append,List.length_nil,hlen,<-List.range_eq_range'] at this
   rw[this]
   exact hx
  ·exact List.pairwise_lt_range
  ·rw[List.mem_range]
   constructor
   ·intro h;simp[h]
   ·intro h
    rcases Nat.lt_or_ge j ops.size with h'|h'
    ·exact h'
    ·simp[Array.getElem?_eq_none (show(Array.replicate ops.size false).size<=j by simpa using h')] at h
  ·exfalso
   have KQ:k<ops.size:=(Array.getElem?_eq_some_iff.1 ho).1
   simp[KQ] at hk
end
end Go.Am
