/- Am21: regions. No condition. -/
import Derived.Test.YtbgmbplglejidaaAm20
set_option linter.unusedVariables false
namespace Go.Am
def Xs (ops:Array Oper) (o:Oper) (mo:bV):Bool:=
 match o.guard,mo.guard with
 |none,none=>true
 |some (j,kP),some (s,adU)=>decide ((ops[j]?).bind (·.dst)=some s)&&(kP==adU)
 |_,_=>false
def t9 (P:Program) (N:Nat) (ops:Array Oper) (o:Oper) (mo:bV):Bool:=
 decide (o.dst=mo.dst)&&(match o.dst with|some n=>decide (n<N)|none=>true)&&Xs ops o mo&&d7 P o mo.op
def po (P:Program) (N:Nat) (ops:Array Oper):List Oper->List bV->Bool
 |[],[]=>true
 |o::os,m::ms=>t9 P N ops o m&&po P N ops os ms
 |_,_=>false
section
variable {B:Nat} {E:Ex} {w0 w w':World} {G G':Gh} {N:Nat}
variable {P:Program} {T:aO} {o:Oper} {mo:bV} {a:Act} {σ σ':St} {Q:Exit->Act->World->Prop} {ops:Array Oper}
structure oq (P:Program) (T:aO):Prop where
 spec:xS P T
 ac0:GW P T
 ac1:Ay P T
 ac2:Dn P T
 fn:∀f M,aO.find T.pure f=some M->bD P f=true
theorem R.guard (r:R B E w0 N σ a w G) {j s:Nat} {b:Bool} (hj:(ops[j]?).bind (·.dst)=some s) (hb:σ.env s=.one (.c (.bool b))):yielded ops a.tmps j=some b:=by
 have h1:=r.env s
 rw[hb] at h1
 have h2:=h1.AJ
 have h3:a.tmps[s]? =some (.bool b):=by
  rw[Array.getD_eq_getD_getElem?] at h2
  cases ht:a.tmps[s]? with
  |none=>rw[ht] at h2;simp[undef] at h2
  |some v=>rw[ht] at h2;simp at h2;rw[h2]
 unfold yielded
 rw[hj]
 simp[h3]
theorem acN {w:World} {G:Gh} {h:Nat->Option ao}:RA w G h (.bq []) undef:=⟨[],rfl,rfl,fun j x u hx=>by simp at hx⟩
theorem acO {u:Nat->Prop} (m:Nat) (hm:(aj.bq []).ref m):u m:=by
 obtain⟨c,hc,_⟩:=hm
 cases hc
theorem R.ahF (r:R B E w0 N σ a w G) {j s:Nat} (hj:(ops[j]?).bind (·.dst)=some s) (hb:σ.env s=.bq []):yielded ops a.tmps j=none:=by
 have h1:=r.env s
 rw[hb] at h1
 obtain⟨vs,h2,h3,_⟩:=h1
 have:vs=[]:=List.length_eq_zero_iff.1 h3
 subst this
 rw[Array.getD_eq_getD_getElem?] at h2
 unfold yielded
 rw[hj]
 simp only[Option.bind_some]
 cases ht:a.tmps[s]? with
 |none=>rfl
 |some v=>
  rw[ht] at h2
  simp only[Option.getD_some] at h2
  subst h2
  rfl
theorem I1 (r:R B E w0 N σ a w G) (hT:oq P T) (hc:t9 P N ops o mo=true) (hx:d9 T mo σ=some σ'):
  (Region.wanted o (yielded ops a.tmps)=true/\o.wp P a w (Nx B E w0 N σ') Q)\/(Region.wanted o (yielded ops a.tmps)=false/\Nx B E w0 N σ' (a.put o.dst undef) w):=by
 simp only[t9,Bool.and_eq_true,decide_eq_true_eq] at hc
 obtain⟨⟨⟨c1,c2⟩,c3⟩,c4⟩:=hc
 have hN:∀n,o.dst=some n->n<N:=fun n hn=>by rw[hn] at c2;simpa using c2
 unfold Xs at c3
 unfold d9 at hx
 split at c3
 ·rename_i g1 g2
  simp only[g2] at hx
  rw[<-c1] at hx
  exact .inl ⟨by simp[Region.wanted,g1],Yp r hT.spec hT.ac0 hT.ac1 hT.ac2 hT.fn hN c4 hx⟩
 ·rename_i j kP s adU g1 g2
  simp only[Bool.and_eq_true,decide_eq_true_eq,beq_iff_eq] at c3
  obtain⟨k1,rfl⟩:=c3
  simp only[g2] at hx
  split at hx
  ·rename_i b hb
   have hy:=r.guard k1 hb
   split at hx
   ·rename_i OT
    rw[<-c1] at hx
    exact .inl ⟨by simp[Region.wanted,g1,hy,OT],Yp r hT.spec hT.ac0 hT.ac1 hT.ac2 hT.fn hN c4 hx⟩
   ·rename_i OT
    injection hx with hx
    subst hx
    refine .inr ⟨by simp[Region.wanted,g1,hy,OT],G,?_⟩
    rw[<-c1]
    exact r.put (x:=.bq []) acN acO hN
  ·rename_i hb
   have hy:=r.ahF k1 hb
   injection hx with hx
   subst hx
   refine .inr ⟨by simp[Region.wanted,g1,hy],G,?_⟩
   rw[<-c1]
   exact r.put (x:=.bq []) acN acO hN
  ·cases hx
 ·cases c3
theorem R.wf (r:R B E w0 N σ a w G):Wf σ:=⟨r.sI,r.hr.gV⟩
theorem ap7 {K:Act->World->Prop} (h:o.wp P a w K (fun _ _ _=>False)):∃a' w',K a' w':=by
 unfold Oper.wp at h
 unfold Oper.upon at h
 split at h
 ·exact⟨_,_,h⟩
 ·exact⟨_,_,h⟩
 ·exact⟨_,_,h⟩
 ·obtain⟨e,w',fr,hR,_⟩:=h []
  cases e with
  |returned v=>exact⟨_,_,hR⟩
  |panicked c=>exact hR.elim
  |outgrown=>obtain⟨_,_,hf⟩:=hR;exact hf.elim
 ·obtain⟨v,w',hR,_⟩:=h default []
  exact⟨_,_,hR⟩
 ·exact h.elim
 ·exact h.elim
def GU (B:Nat) (E:Ex) (w0:World) (N:Nat) (σ:St):Prop:=∃a w G,R B E w0 N σ a w G
theorem ab0 (r:GU B E w0 N σ) (hT:oq P T) (hc:t9 P N ops o mo=true) (hx:d9 T mo σ=some σ'):GU B E w0 N σ':=by
 obtain⟨a,w,G,r⟩:=r
 rcases I1 (Q:=fun _ _ _=>False) r hT hc hx with⟨_,h⟩|⟨_,G',h⟩
 ·obtain⟨a',w',G',h⟩:=ap7 h
  exact⟨a',w',G',h⟩
 ·exact⟨_,_,G',h⟩
theorem Wc (hT:oq P T):∀{l:List Oper} {ms:List bV} {σ σ':St} {a:Act} {w:World} {G:Gh},po P N ops l ms=true->kv T ms σ=some σ'->R B E w0 N σ a w G->
  (∀a w G,R B E w0 N σ' a w G->Q .normal a w)->wpList P ops Q l a w
 |[],[],σ,σ',a,w,G,hc,hx,r,hQ=>by
  simp only[kv] at hx
  injection hx with hx
  subst hx
  exact hQ _ _ _ r
 |o::l,m::ms,σ,σ',a,w,G,hc,hx,r,hQ=>by
  simp only[po,Bool.and_eq_true] at hc
  simp only[kv] at hx
  split at hx
  ·rename_i σ1 e1
   unfold wpList
   rcases I1 (Q:=Q) r hT hc.1 e1 with⟨hw,h⟩|⟨hw,G',h⟩
   ·rw[if_pos hw]
    exact .inl (Oper.wp_mono (fun a' w' ⟨G',r'⟩=>Wc hT hc.2 hx r' hQ) h)
   ·rw[if_neg (by simp[hw])]
    exact Wc hT hc.2 hx h hQ
  ·cases hx
 |[],_::_,_,_,_,_,_,hc,_,_,_=>by simp[po] at hc
 |_::_,[],_,_,_,_,_,hc,_,_,_=>by simp[po] at hc
def qF (T:aO) (ms:List bV):List Nat->St->Option St
 |[],σ=>some σ
 |i::L,σ=>match ms[i]? with
  |some o=>match d9 T o σ with
   |some σ1=>qF T ms L σ1
   |none=>none
  |none=>none
inductive vz (ops:Array Oper):Nat->Nat->Prop where
 |X3 (i:Nat) (o:Oper) (e:_):ops[i]? =some o->e∈o.after->Region.binds .any e=true->vz ops i e.on
 |step (i j:Nat) (o:Oper) (e:_):ops[i]? =some o->e∈o.after->Region.binds .any e=true->vz ops e.on j->vz ops i j
def Nr (o:Oper):List Nat:=(o.after.toList.filter (Region.binds .any)).map (·.on)
def E6 (cU:List Nat):List Nat->Nat
 |[]=>0
 |j::js=>(Nat.shiftLeft 1 j|||cU.getD j 0)|||E6 cU js
def Cb:List Oper->List Nat->List Nat
 |[],cU=>cU
 |o::os,cU=>Cb os (cU++[E6 cU (Nr o)])
theorem aj4 {o:Oper} {j:Nat} (h:j∈Nr o):∃e∈o.after,Region.binds .any e=true/\e.on=j:=by
 unfold Nr at h
 simp only[List.mem_map,List.mem_filter] at h
 obtain⟨e,⟨h1,h2⟩,h3⟩:=h
 exact⟨e,Array.mem_toList_iff.1 h1,h2,h3⟩
theorem aaX {cU:List Nat}:∀{js:List Nat} {k:Nat},(E6 cU js).testBit k=true->∃j∈js,j=k\/(cU.getD j 0).testBit k=true
 |[],k,h=>by simp[E6] at h
 |j::js,k,h=>by
  simp only[E6,Nat.testBit_or,Bool.or_eq_true] at h
  rcases h with(h|h)|h
  ·refine⟨j,by simp,.inl ?_⟩
   have h':(1<<<j).testBit k=true:=h
   rw[Nat.one_shiftLeft,Nat.testBit_two_pow] at h'
   exact of_decide_eq_true h'
  ·exact⟨j,by simp,.inr h⟩
  ·obtain⟨j',h1,h2⟩:=aaX h
   exact⟨j',by simp[h1],h2⟩
theorem QO {ops:Array Oper}:∀(os:List Oper) (cU:List Nat) (pre:List Oper),ops.toList=pre++os->cU.length=pre.length->(∀i k,(cU.getD i 0).testBit k=true->vz ops i k)->
  ∀i k,((Cb os cU).getD i 0).testBit k=true->vz ops i k
 |[],cU,pre,_,_,h,i,k,hb=>h i k hb
 |o::os,cU,pre,he,hl,h,i,k,hb=>by
  refine QO os _ (pre++[o]) (by simp[he]) (by simp[hl]) (fun i k hb=>?_) i k hb
  by_cases bH:i<cU.length
  ·rw[List.getD_eq_getElem?_getD,List.getElem?_append_left bH,<-List.getD_eq_getElem?_getD] at hb
   exact h i k hb
  ·by_cases hi:i=cU.length
   ·subst hi
    rw[List.getD_eq_getElem?_getD,List.getElem?_append_right (Nat.le_refl _),Nat.sub_self] at hb
    simp only[List.getElem?_cons_zero,Option.getD_some] at hb
    have ho:ops[cU.length]? =some o:=by
     have:ops.toList[cU.length]? =some o:=by rw[he,hl,List.getElem?_append_right (Nat.le_refl _),Nat.sub_self];rfl
     simpa using this
    obtain⟨j,h1,h2⟩:=aaX hb
    obtain⟨e,e1,e2,rfl⟩:=aj4 h1
    rcases h2 with rfl|h2
    ·exact .X3 _ o e ho e1 e2
    ·exact .step _ _ o e ho e1 e2 (h _ _ h2)
   ·rw[List.getD_eq_getElem?_getD,List.getElem?_eq_none (by simp;omega)] at hb
    simp at hb
def Is (ops:List Oper) (ms:List bV):Bool:=
 (fun ks:List Nat=>(List.range ops.length).all fun i=>match ops[i]?,ms[i]? with
  |some o,some m=>(o.after.toList.all fun e=> !Region.binds .any e||decide (e.on<i))&&
   (List.range i).all fun j=>(ks.getD i 0).testBit j||(match ms[j]? with|some mj=>AY mj m|none=>false)
  |_,_=>false) (Cb ops [])
structure Wl (ops:Array Oper) (ms:List bV):Prop where
 back:∀(i:Nat) (o:Oper),ops[i]? =some o->∀e∈o.after,Region.binds .any e=true->e.on<i
 pair:∀(i j:Nat) (o:Oper) (m:bV),ops[i]? =some o->ms[i]? =some m->j<i->vz ops i j\/∃mj,ms[j]? =some mj/\AY mj m=true
theorem aeS {ms:List bV} (h:Is ops.toList ms=true):Wl ops ms:=by
  simp only[Is,List.all_eq_true,List.mem_range] at h
  have ca:∀(i:Nat) (o:Oper),ops[i]? =some o->∃m,ms[i]? =some m/\(o.after.toList.all fun e=> !Region.binds .any e||decide (e.on<i))=true/\
        ∀j,j<i->(((Cb ops.toList []).getD i 0).testBit j||(match ms[j]? with|some mj=>AY mj m|none=>false))=true:=by
    intro i o ho
    have hi:i<ops.toList.length:=by simpa using(Array.getElem?_eq_some_iff.1 ho).1
    have hi':=h i hi
    have gJ:ops.toList[i]? =some o:=by simpa using ho
    rw[gJ] at hi'
    cases hm:ms[i]? with
    |none=>rw[hm] at hi';cases hi'
    |some m=>
     rw[hm] at hi'
     simp only[Bool.and_eq_true,List.all_eq_true,List.mem_range] at hi'
     exact⟨m,rfl,by rw[List.all_eq_true];exact hi'.1,hi'.2⟩
  refine⟨fun i o ho e he hb=>?_,fun i j o m ho hm hj=>?_⟩
  · obtain⟨m,_,k1,_⟩:=ca i o ho
    have:=List.all_eq_true.1 k1 e (Array.mem_toList_iff.2 he)
    simp[hb] at this
    exact this
  · obtain⟨m',bM,_,k2⟩:=ca i o ho
    rw[hm] at bM
    injection bM with bM
    subst bM
    have:=k2 j hj
    rw[Bool.or_eq_true] at this
    rcases this with h1|h1
    · exact .inl (QO ops.toList [] [] rfl rfl (by intro i k hb;simp at hb) i j h1)
    · cases Bz:ms[j]? with
      |none=>rw[Bz] at h1;cases h1
      |some mj=>rw[Bz] at h1;exact .inr ⟨mj,rfl,h1⟩
def LH (ops:Array Oper) (c9:Array Bool):Prop:=
 ∀(k:Nat) (o:Oper),ops[k]? =some o->c9.getD k true=true->∀e∈o.after,Region.binds .any e=true->c9.getD e.on true=true
theorem W0 {c9:Array Bool} (hc:LH ops c9) {i j:Nat} (hb:vz ops i j):(∀o,ops[i]? =some o->∀e∈o.after,Region.binds .any e=true->c9.getD e.on true=true)->c9.getD j true=true:=by
 induction hb with
 |X3 i o e ho he hb=>exact fun h=>h o ho e he hb
 |step i j o e ho he hb _ ih=>exact fun h=>ih fun o' gJ=>hc _ o' gJ (h o ho e he hb)
theorem Ys (hT:oq P T) {ms:List bV} (r6:∀(i:Nat) (m:bV),ms[i]? =some m->∃o,ops[i]? =some o/\t9 P N ops o m=true) {i:Nat} {mi:bV} (hi:ms[i]? =some mi) {post:List Nat} {iZ:St}:
  ∀{pre:List Nat} {σ:St},GU B E w0 N σ->qF T ms (pre++i::post) σ=some iZ->(∀j∈pre,∃mj,ms[j]? =some mj/\AY mj mi=true)->
  ∃τ,d9 T mi σ=some τ/\qF T ms (pre++post) τ=some iZ
 |[],σ,hr,hx,hc=>by
  simp only[List.nil_append,qF,hi] at hx
  split at hx
  ·rename_i σ1 e;exact⟨σ1,e,hx⟩
  ·cases hx
 |j::pre,σ,hr,hx,hc=>by
  obtain⟨mj,hj,nI⟩:=hc j (by simp)
  simp only[List.cons_append,qF,hj] at hx
  split at hx
  ·rename_i σ1 e1
   obtain⟨oj,_,gx⟩:=r6 j mj hj
   obtain⟨o8,t1,t2⟩:=Ys hT r6 hi (ab0 hr hT gx e1) hx (fun k hk=>hc k (by simp[hk]))
   obtain⟨a,w,G,r⟩:=hr
   obtain⟨τ,s1,s2⟩:=ae7 r.wf nI e1 t1
   exact⟨τ,s1,by simp only[List.cons_append,qF,hj,s2];exact t2⟩
  ·cases hx
theorem ap5 (hT:oq P T) {ms:List bV} (r6:∀(i:Nat) (m:bV),ms[i]? =some m->∃o,ops[i]? =some o/\t9 P N ops o m=true) (hlen:ms.length=ops.size) (hd:Wl ops ms) {iZ:St}
  (hQ:∀a w G,R B E w0 N iZ a w G->Q .normal a w):
  ∀(iB:Nat) (L:List Nat) (c9:Array Bool) (σ:St) (a:Act) (w:World) (G:Gh),R B E w0 N σ a w G->qF T ms L σ=some iZ->L.Pairwise (·<·)->L.length<=iB->c9.size=ops.size->
   (∀j,j∈L↔c9.getD j true=false)->LH ops c9->wpAny P .any ops Q iB c9 a w:=by
 have first:∀(L:List Nat) (c9:Array Bool),L.Pairwise (·<·)->c9.size=ops.size->(∀j,j∈L↔c9.getD j true=false)->Region.ready .any ops c9=[]->L=[]:=by
  intro L c9 hp hs hL hr
  cases L with
  |nil=>rfl
  |cons j L=>
   exfalso
   have hj:=(hL j).1 (by simp)
   have lk:j<ops.size:=by
    rw[<-hs]
    rcases Nat.lt_or_ge j c9.size with h|h
    ·exact h
    ·simp[Array.getElem?_eq_none h] at hj
   have ho:ops[j]? =some ops[j]:=Array.getElem?_eq_getElem lk
   have:j∈Region.ready .any ops c9:=by
    rw[mem_ready]
    refine⟨hj,_,ho,fun e he hb=>?_⟩
    have bH:=hd.back j _ ho e he hb
    have oD:e.on∉j::L:=by
     intro hm
     cases hm with
     |head=>omega
     |tail _ hm=>have:=(List.pairwise_cons.1 hp).1 _ hm;omega
    have aC:c9.getD e.on true≠false:=fun h=>oD ((hL e.on).2 h)
    have pG:e.on<c9.size:=by omega
    simp[pG] at aC⊢
    exact aC
   rw[hr] at this
   cases this
 intro iB
 induction iB with
 |zero=>
  intro L c9 σ a w G r hx hp hl hs hL hC
  have r5:L=[]:=List.eq_nil_of_length_eq_zero (by omega)
  subst r5
  simp only[qF] at hx
  injection hx with hx
  subst hx
  refine⟨?_,hQ _ _ _ r⟩
  cases hr:Region.ready .any ops c9 with
  |nil=>rfl
  |cons i l=>
   have hm:i∈Region.ready .any ops c9:=by rw[hr];simp
   have:=(hL i).2 (mem_ready.1 hm).1
   cases this
 |succ iB ih=>
  intro L c9 σ a w G r hx hp hl hs hL hC
  refine⟨fun hr=>?_,fun i hi=>?_⟩
  ·have r5:=first L c9 hp hs hL hr
   subst r5
   simp only[qF] at hx
   injection hx with hx
   subst hx
   exact hQ _ _ _ r
  ·obtain⟨Ph,oi,jZ,Ej⟩:=mem_ready.1 hi
   have qO:i∈L:=(hL i).2 Ph
   obtain⟨pre,post,rfl⟩:=List.append_of_mem qO
   have his:i<ops.size:=(Array.getElem?_eq_some_iff.1 jZ).1
   have yK:ms[i]? =some ms[i]:=List.getElem?_eq_getElem (by omega)
   obtain⟨o',gJ,O0⟩:=r6 i _ yK
   rw[jZ] at gJ
   injection gJ with gJ
   subst gJ
   have gi:=List.pairwise_append.1 hp
   obtain⟨τ,t1,t2⟩:=Ys (ops:=ops) hT r6 yK ⟨a,w,G,r⟩ hx (fun j hj=>by
    have r9:j<i:=gi.2.2 j hj i (by simp)
    rcases hd.pair i j oi _ jZ yK r9 with OP|h
    ·have h1:=W0 hC OP (fun o ho e he hb=>by
      rw[jZ] at ho
      injection ho with ho
      subst ho
      have h1:=Ej e he hb
      have bH:=hd.back i _ jZ e he hb
      have pG:e.on<c9.size:=by omega
      simp[pG] at h1⊢
      exact h1)
     have h2:=(hL j).1 (by simp[hj])
     rw[h1] at h2
     cases h2
    ·exact h)
   have yQ:∀a' w',Nx B E w0 N τ a' w'->wpAny P .any ops Q iB (c9.setIfInBounds i true) a' w':=by
    rintro a' w' ⟨G',r'⟩
    refine ih (pre++post) _ τ a' w' G' r' t2 ?_ (by simp at hl⊢;omega) (by simpa using hs) (fun j=>?_) (fun k o ho hk e he hb=>?_)
    ·rw[List.pairwise_append]
     exact⟨gi.1,(List.pairwise_cons.1 gi.2.1).2,fun x hx y hy=>gi.2.2 x hx y (by simp[hy])⟩
    ·by_cases r9:j=i
     ·subst r9
      have lk:j<c9.size:=by omega
      simp only[List.mem_append]
      constructor
      ·rintro(h|h)
       ·have:=gi.2.2 j h j (by simp);omega
       ·have:=(List.pairwise_cons.1 gi.2.1).1 j h;omega
      ·intro h
       simp[lk] at h
     ·rw[getD_set_ne true (Ne.symm r9),<-hL j]
      simp[r9]
    ·have Ez:∀q,c9.getD q true=true->(c9.setIfInBounds i true).getD q true=true:=by
      intro q hq
      by_cases m6:q=i
      ·subst m6
       have:q<c9.size:=by omega
       simp[this]
      ·rw[getD_set_ne true (Ne.symm m6)];exact hq
     by_cases kx:k=i
     ·subst kx
      rw[jZ] at ho
      injection ho with ho
      subst ho
      have h1:=Ej e he hb
      have bH:=hd.back k _ jZ e he hb
      have pG:e.on<c9.size:=by omega
      refine Ez _ ?_
      simp[pG] at h1⊢
      exact h1
     ·rw[getD_set_ne true (Ne.symm kx)] at hk
      exact Ez _ (hC k o ho hk e he hb)
   unfold wpOp
   rw[jZ]
   simp only
   rcases I1 (Q:=Q) r hT O0 t1 with⟨hw,h⟩|⟨hw,h⟩
   ·rw[if_pos hw]
    exact .inl (Oper.wp_mono yQ h)
   ·rw[if_neg (by simp[hw])]
    exact yQ _ _ h
theorem Yr:∀(post pre:List bV) (σ:St),qF T (pre++post) (List.range' pre.length post.length) σ=kv T post σ
 |[],pre,σ=>by simp[qF,kv]
 |m::post,pre,σ=>by
  simp only[List.length_cons,List.range'_succ,qF,kv]
  rw[List.getElem?_append_right (Nat.le_refl _),Nat.sub_self]
  simp only[List.getElem?_cons_zero]
  cases d9 T m σ with
  |none=>rfl
  |some σ1=>
   have:=Yr post (pre++[m]) σ1
   simp only[List.length_append,List.length_cons,List.length_nil,List.append_assoc,List.singleton_append,Nat.zero_add] at this
   exact this
theorem M7:∀{l:List Oper} {ms:List bV},po P N ops l ms=true->ms.length=l.length/\∀(i:Nat) (m:bV),ms[i]? =some m->∃o,l[i]? =some o/\t9 P N ops o m=true
 |[],[],_=>⟨rfl,by simp⟩
 |o::l,m::ms,hc=>by
  simp only[po,Bool.and_eq_true] at hc
  obtain⟨i1,i2⟩:=M7 hc.2
  refine⟨by simp[i1],fun i m' hm=>?_⟩
  cases i with
  |zero=>simp at hm;subst hm;exact⟨o,rfl,hc.1⟩
  |succ i=>exact i2 i m' (by simpa using hm)
 |[],_::_,hc=>by simp[po] at hc
 |_::_,[],hc=>by simp[po] at hc
theorem R.drawn (r:R B E w0 N σ a w G) (k:Nat):R B E w0 N σ a {w with drawn:=k} G:=by
 have hw:∀b,b<w.heap.size->({w with drawn:=k}:World).heap[b]? =w.heap[b]? :=fun _ _=>rfl
 exact r.step rfl (fun _ h=>h) (bf.world (fun b hb=>hw b (r.hr.fW b hb)) _) (r.hr.grow hw (Nat.le_refl _)) (r.fr.grow hw (Nat.le_refl _) rfl rfl rfl)
theorem anU (hT:oq P T) (hm:P.follows .mixedOrders=true) {id:Nat} {rR:Bool} {ms:List bV} (hc:po P N ops ops.toList ms=true) (hd:rR=true->Is ops.toList ms=true)
  (hx:kv T ms σ=some σ') (r:R B E w0 N σ a w G) (hQ:∀a w G,R B E w0 N σ' a w G->Q .normal a w):(Code.region id ops rR).wp P Q a w:=by
 cases rR with
 |false=>exact wp_region_list (Wc hT hc hx r hQ)
 |true=>
  obtain⟨k1,k2⟩:=M7 hc
  have hlen:ms.length=ops.size:=by simpa using k1
  refine wp_region_any hm (ap5 (B:=B) (E:=E) (w0:=w0) (N:=N) hT (fun i m h=>by
   obtain⟨o,h1,h2⟩:=k2 i m h;exact⟨o,by simpa using h1,h2⟩) hlen (aeS (hd rfl)) hQ ops.size (List.range ops.size) _ σ a _ G (r.drawn _) ?_ ?_ (by simp) (by simp) (fun j=>?_) (fun k o ho hk=>?_))
  ·have:=Yr (T:=T) ms [] σ
   simp only[List.nil_append,List.length_nil,hlen,<-List.range_eq_range'] at this
   rw[this]
   exact hx
  ·exact List.pairwise_lt_range
  ·rw[List.mem_range]
   constructor
   ·intro h;simp[h]
   ·intro h
    rcases Nat.lt_or_ge j ops.size with h'|h'
    ·exact h'
    ·simp[Array.getElem?_eq_none (show(Array.replicate ops.size false).size<=j by simpa using h')] at h
  ·exfalso
   have Pn:k<ops.size:=(Array.getElem?_eq_some_iff.1 ho).1
   simp[Pn] at hk
end
end Go.Am
