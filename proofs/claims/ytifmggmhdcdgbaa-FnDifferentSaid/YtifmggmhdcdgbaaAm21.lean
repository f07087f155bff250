/- Am21: regions. No condition. -/
import Derived.Test.YtifmggmhdcdgbaaAm20
set_option linter.unusedVariables false
namespace Go.Am
def V5 (ops:Array Oper) (o:Oper) (mo:bL):Bool:=
 match o.guard,mo.guard with
 |none,none=>true
 |some (j,kl),some (s,acJ)=>decide ((ops[j]?).bind (·.dst)=some s)&&(kl==acJ)
 |_,_=>false
def ua (P:Program) (N:Nat) (ops:Array Oper) (o:Oper) (mo:bL):Bool:=
 decide (o.dst=mo.dst)&&(match o.dst with|some n=>decide (n<N)|none=>true)&&V5 ops o mo&&d9 P o mo.op
def oH (P:Program) (N:Nat) (ops:Array Oper):List Oper->List bL->Bool
 |[],[]=>true
 |o::os,m::ms=>ua P N ops o m&&oH P N ops os ms
 |_,_=>false
section
variable {B:Nat} {E:Ex} {w0 w w':World} {G G':Gh} {N:Nat}
variable {P:Program} {T:bj} {o:Oper} {mo:bL} {a:Act} {σ σ':St} {Q:Exit->Act->World->Prop} {ops:Array Oper}
structure nu (P:Program) (T:bj):Prop where
 spec:xV P T
 abP:Gt P T
 abQ:Gu P T
 fn:∀f M,bj.find T.pure f=some M->bM P f=true
theorem R.guard (r:R B E w0 N σ a w G) {j s:Nat} {b:Bool} (hj:(ops[j]?).bind (·.dst)=some s) (hb:σ.env s=.one (.c (.bool b))):yielded ops a.tmps j=some b:=by
 have h1:=r.env s
 rw[hb] at h1
 have h2:=h1.z7
 have h3:a.tmps[s]? =some (.bool b):=by
  rw[Array.getD_eq_getD_getElem?] at h2
  cases ht:a.tmps[s]? with
  |none=>rw[ht] at h2;simp[undef] at h2
  |some v=>rw[ht] at h2;simp at h2;rw[h2]
 unfold yielded
 rw[hj]
 simp[h3]
theorem abD {w:World} {G:Gh} {h:Nat->Option ar}:RA w G h (.bn []) undef:=⟨[],rfl,rfl,fun j x u hx=>by simp at hx⟩
theorem abE {u:Nat->Prop} (m:Nat) (hm:(aj.bn []).ref m):u m:=by
 obtain⟨c,hc,_⟩:=hm
 cases hc
theorem R.afP (r:R B E w0 N σ a w G) {j s:Nat} (hj:(ops[j]?).bind (·.dst)=some s) (hb:σ.env s=.bn []):yielded ops a.tmps j=none:=by
 have h1:=r.env s
 rw[hb] at h1
 obtain⟨vs,h2,h3,_⟩:=h1
 have:vs=[]:=List.length_eq_zero_iff.1 h3
 subst this
 rw[Array.getD_eq_getD_getElem?] at h2
 unfold yielded
 rw[hj]
 simp only[Option.bind_some]
 cases ht:a.tmps[s]? with
 |none=>rfl
 |some v=>
  rw[ht] at h2
  simp only[Option.getD_some] at h2
  subst h2
  rfl
theorem Ic (r:R B E w0 N σ a w G) (hT:nu P T) (hc:ua P N ops o mo=true) (hx:eC T mo σ=some σ'):
  (Region.wanted o (yielded ops a.tmps)=true/\o.wp P a w (Nx B E w0 N σ') Q)\/(Region.wanted o (yielded ops a.tmps)=false/\Nx B E w0 N σ' (a.put o.dst undef) w):=by
 simp only[ua,Bool.and_eq_true,decide_eq_true_eq] at hc
 obtain⟨⟨⟨c1,c2⟩,c3⟩,c4⟩:=hc
 have hN:∀n,o.dst=some n->n<N:=fun n hn=>by rw[hn] at c2;simpa using c2
 unfold V5 at c3
 unfold eC at hx
 split at c3
 ·rename_i g1 g2
  simp only[g2] at hx
  rw[<-c1] at hx
  exact .inl ⟨by simp[Region.wanted,g1],WX r hT.spec hT.abP hT.abQ hT.fn hN c4 hx⟩
 ·rename_i j kl s acJ g1 g2
  simp only[Bool.and_eq_true,decide_eq_true_eq,beq_iff_eq] at c3
  obtain⟨k1,rfl⟩:=c3
  simp only[g2] at hx
  split at hx
  ·rename_i b hb
   have hy:=r.guard k1 hb
   split at hx
   ·rename_i N3
    rw[<-c1] at hx
    exact .inl ⟨by simp[Region.wanted,g1,hy,N3],WX r hT.spec hT.abP hT.abQ hT.fn hN c4 hx⟩
   ·rename_i N3
    injection hx with hx
    subst hx
    refine .inr ⟨by simp[Region.wanted,g1,hy,N3],G,?_⟩
    rw[<-c1]
    exact r.put (x:=.bn []) abD abE hN
  ·rename_i hb
   have hy:=r.afP k1 hb
   injection hx with hx
   subst hx
   refine .inr ⟨by simp[Region.wanted,g1,hy],G,?_⟩
   rw[<-c1]
   exact r.put (x:=.bn []) abD abE hN
  ·cases hx
 ·cases c3
theorem R.wf (r:R B E w0 N σ a w G):Wf σ:=⟨r.rR,r.hr.gy⟩
theorem aoR {K:Act->World->Prop} (h:o.wp P a w K (fun _ _ _=>False)):∃a' w',K a' w':=by
 unfold Oper.wp at h
 unfold Oper.upon at h
 split at h
 ·exact⟨_,_,h⟩
 ·exact⟨_,_,h⟩
 ·exact⟨_,_,h⟩
 ·obtain⟨e,w',fr,hR,_⟩:=h []
  cases e with
  |returned v=>exact⟨_,_,hR⟩
  |panicked c=>exact hR.elim
  |outgrown=>obtain⟨_,_,hf⟩:=hR;exact hf.elim
 ·obtain⟨v,w',hR,_⟩:=h default []
  exact⟨_,_,hR⟩
 ·exact h.elim
 ·exact h.elim
def Gq (B:Nat) (E:Ex) (w0:World) (N:Nat) (σ:St):Prop:=∃a w G,R B E w0 N σ a w G
theorem aa1 (r:Gq B E w0 N σ) (hT:nu P T) (hc:ua P N ops o mo=true) (hx:eC T mo σ=some σ'):Gq B E w0 N σ':=by
 obtain⟨a,w,G,r⟩:=r
 rcases Ic (Q:=fun _ _ _=>False) r hT hc hx with⟨_,h⟩|⟨_,G',h⟩
 ·obtain⟨a',w',G',h⟩:=aoR h
  exact⟨a',w',G',h⟩
 ·exact⟨_,_,G',h⟩
theorem Vf (hT:nu P T):∀{l:List Oper} {ms:List bL} {σ σ':St} {a:Act} {w:World} {G:Gh},oH P N ops l ms=true->nG T ms σ=some σ'->R B E w0 N σ a w G->
  (∀a w G,R B E w0 N σ' a w G->Q .normal a w)->wpList P ops Q l a w
 |[],[],σ,σ',a,w,G,hc,hx,r,hQ=>by
  simp only[nG] at hx
  injection hx with hx
  subst hx
  exact hQ _ _ _ r
 |o::l,m::ms,σ,σ',a,w,G,hc,hx,r,hQ=>by
  simp only[oH,Bool.and_eq_true] at hc
  simp only[nG] at hx
  split at hx
  ·rename_i σ1 e1
   unfold wpList
   rcases Ic (Q:=Q) r hT hc.1 e1 with⟨hw,h⟩|⟨hw,G',h⟩
   ·rw[if_pos hw]
    exact .inl (Oper.wp_mono (fun a' w' ⟨G',r'⟩=>Vf hT hc.2 hx r' hQ) h)
   ·rw[if_neg (by simp[hw])]
    exact Vf hT hc.2 hx h hQ
  ·cases hx
 |[],_::_,_,_,_,_,_,hc,_,_,_=>by simp[oH] at hc
 |_::_,[],_,_,_,_,_,hc,_,_,_=>by simp[oH] at hc
def pD (T:bj) (ms:List bL):List Nat->St->Option St
 |[],σ=>some σ
 |i::L,σ=>match ms[i]? with
  |some o=>match eC T o σ with
   |some σ1=>pD T ms L σ1
   |none=>none
  |none=>none
inductive vu (ops:Array Oper):Nat->Nat->Prop where
 |WB (i:Nat) (o:Oper) (e:_):ops[i]? =some o->e∈o.after->Region.binds .any e=true->vu ops i e.on
 |step (i j:Nat) (o:Oper) (e:_):ops[i]? =some o->e∈o.after->Region.binds .any e=true->vu ops e.on j->vu ops i j
def MS (o:Oper):List Nat:=(o.after.toList.filter (Region.binds .any)).map (·.on)
def EJ (cL:List Nat):List Nat->Nat
 |[]=>0
 |j::js=>(Nat.shiftLeft 1 j|||cL.getD j 0)|||EJ cL js
def BT:List Oper->List Nat->List Nat
 |[],cL=>cL
 |o::os,cL=>BT os (cL++[EJ cL (MS o)])
theorem aj1 {o:Oper} {j:Nat} (h:j∈MS o):∃e∈o.after,Region.binds .any e=true/\e.on=j:=by
 unfold MS at h
 simp only[List.mem_map,List.mem_filter] at h
 obtain⟨e,⟨h1,h2⟩,h3⟩:=h
 exact⟨e,Array.mem_toList_iff.1 h1,h2,h3⟩
theorem aaf {cL:List Nat}:∀{js:List Nat} {k:Nat},(EJ cL js).testBit k=true->∃j∈js,j=k\/(cL.getD j 0).testBit k=true
 |[],k,h=>by simp[EJ] at h
 |j::js,k,h=>by
  simp only[EJ,Nat.testBit_or,Bool.or_eq_true] at h
  rcases h with(h|h)|h
  ·refine⟨j,by simp,.inl ?_⟩
   have h':(1<<<j).testBit k=true:=h
   rw[Nat.one_shiftLeft,Nat.testBit_two_pow] at h'
   exact of_decide_eq_true h'
  ·exact⟨j,by simp,.inr h⟩
  ·obtain⟨j',h1,h2⟩:=aaf h
   exact⟨j',by simp[h1],h2⟩
theorem Qy {ops:Array Oper}:∀(os:List Oper) (cL:List Nat) (pre:List Oper),ops.toList=pre++os->cL.length=pre.length->(∀i k,(cL.getD i 0).testBit k=true->vu ops i k)->
  ∀i k,((BT os cL).getD i 0).testBit k=true->vu ops i k
 |[],cL,pre,_,_,h,i,k,hb=>h i k hb
 |o::os,cL,pre,he,hl,h,i,k,hb=>by
  refine Qy os _ (pre++[o]) (by simp[he]) (by simp[hl]) (fun i k hb=>?_) i k hb
  by_cases bH:i<cL.length
  ·rw[List.getD_eq_getElem?_getD,List.getElem?_append_left bH,<-List.getD_eq_getElem?_getD] at hb
   exact h i k hb
  ·by_cases hi:i=cL.length
   ·subst hi
    rw[List.getD_eq_getElem?_getD,List.getElem?_append_right (Nat.le_refl _),Nat.sub_self] at hb
    simp only[List.getElem?_cons_zero,Option.getD_some] at hb
    have ho:ops[cL.length]? =some o:=by
     have:ops.toList[cL.length]? =some o:=by rw[he,hl,List.getElem?_append_right (Nat.le_refl _),Nat.sub_self];rfl
     simpa using this
    obtain⟨j,h1,h2⟩:=aaf hb
    obtain⟨e,e1,e2,rfl⟩:=aj1 h1
    rcases h2 with rfl|h2
    ·exact .WB _ o e ho e1 e2
    ·exact .step _ _ o e ho e1 e2 (h _ _ h2)
   ·rw[List.getD_eq_getElem?_getD,List.getElem?_eq_none (by simp;omega)] at hb
    simp at hb
def HI (ops:List Oper) (ms:List bL):Bool:=
 (fun ks:List Nat=>(List.range ops.length).all fun i=>match ops[i]?,ms[i]? with
  |some o,some m=>(o.after.toList.all fun e=> !Region.binds .any e||decide (e.on<i))&&
   (List.range i).all fun j=>(ks.getD i 0).testBit j||(match ms[j]? with|some mj=>Ah mj m|none=>false)
  |_,_=>false) (BT ops [])
structure Vl (ops:Array Oper) (ms:List bL):Prop where
 back:∀(i:Nat) (o:Oper),ops[i]? =some o->∀e∈o.after,Region.binds .any e=true->e.on<i
 pair:∀(i j:Nat) (o:Oper) (m:bL),ops[i]? =some o->ms[i]? =some m->j<i->vu ops i j\/∃mj,ms[j]? =some mj/\Ah mj m=true
theorem adA {ms:List bL} (h:HI ops.toList ms=true):Vl ops ms:=by
  simp only[HI,List.all_eq_true,List.mem_range] at h
  have cr:∀(i:Nat) (o:Oper),ops[i]? =some o->∃m,ms[i]? =some m/\(o.after.toList.all fun e=> !Region.binds .any e||decide (e.on<i))=true/\
        ∀j,j<i->(((BT ops.toList []).getD i 0).testBit j||(match ms[j]? with|some mj=>Ah mj m|none=>false))=true:=by
    intro i o ho
    have hi:i<ops.toList.length:=by simpa using(Array.getElem?_eq_some_iff.1 ho).1
    have hi':=h i hi
    have gh:ops.toList[i]? =some o:=by simpa using ho
    rw[gh] at hi'
    cases hm:ms[i]? with
    |none=>rw[hm] at hi';cases hi'
    |some m=>
     rw[hm] at hi'
     simp only[Bool.and_eq_true,List.all_eq_true,List.mem_range] at hi'
     exact⟨m,rfl,by rw[List.all_eq_true];exact hi'.1,hi'.2⟩
  refine⟨fun i o ho e he hb=>?_,fun i j o m ho hm hj=>?_⟩
  · obtain⟨m,_,k1,_⟩:=cr i o ho
    have:=List.all_eq_true.1 k1 e (Array.mem_toList_iff.2 he)
    simp[hb] at this
    exact this
  · obtain⟨m',bB,_,k2⟩:=cr i o ho
    rw[hm] at bB
    injection bB with bB
    subst bB
    have:=k2 j hj
    rw[Bool.or_eq_true] at this
    rcases this with h1|h1
    · exact .inl (Qy ops.toList [] [] rfl rfl (by intro i k hb;simp at hb) i j h1)
    · cases AJ:ms[j]? with
      |none=>rw[AJ] at h1;cases h1
      |some mj=>rw[AJ] at h1;exact .inr ⟨mj,rfl,h1⟩
def Lx (ops:Array Oper) (cK:Array Bool):Prop:=
 ∀(k:Nat) (o:Oper),ops[k]? =some o->cK.getD k true=true->∀e∈o.after,Region.binds .any e=true->cK.getD e.on true=true
theorem VR {cK:Array Bool} (hc:Lx ops cK) {i j:Nat} (hb:vu ops i j):(∀o,ops[i]? =some o->∀e∈o.after,Region.binds .any e=true->cK.getD e.on true=true)->cK.getD j true=true:=by
 induction hb with
 |WB i o e ho he hb=>exact fun h=>h o ho e he hb
 |step i j o e ho he hb _ ih=>exact fun h=>ih fun o' gh=>hc _ o' gh (h o ho e he hb)
theorem W0 (hT:nu P T) {ms:List bL} (rc:∀(i:Nat) (m:bL),ms[i]? =some m->∃o,ops[i]? =some o/\ua P N ops o m=true) {i:Nat} {mi:bL} (hi:ms[i]? =some mi) {post:List Nat} {iO:St}:
  ∀{pre:List Nat} {σ:St},Gq B E w0 N σ->pD T ms (pre++i::post) σ=some iO->(∀j∈pre,∃mj,ms[j]? =some mj/\Ah mj mi=true)->
  ∃τ,eC T mi σ=some τ/\pD T ms (pre++post) τ=some iO
 |[],σ,hr,hx,hc=>by
  simp only[List.nil_append,pD,hi] at hx
  split at hx
  ·rename_i σ1 e;exact⟨σ1,e,hx⟩
  ·cases hx
 |j::pre,σ,hr,hx,hc=>by
  obtain⟨mj,hj,mK⟩:=hc j (by simp)
  simp only[List.cons_append,pD,hj] at hx
  split at hx
  ·rename_i σ1 e1
   obtain⟨oj,_,fU⟩:=rc j mj hj
   obtain⟨oy,t1,t2⟩:=W0 hT rc hi (aa1 hr hT fU e1) hx (fun k hk=>hc k (by simp[hk]))
   obtain⟨a,w,G,r⟩:=hr
   obtain⟨τ,s1,s2⟩:=adG r.wf mK e1 t1
   exact⟨τ,s1,by simp only[List.cons_append,pD,hj,s2];exact t2⟩
  ·cases hx
theorem aoP (hT:nu P T) {ms:List bL} (rc:∀(i:Nat) (m:bL),ms[i]? =some m->∃o,ops[i]? =some o/\ua P N ops o m=true) (hlen:ms.length=ops.size) (hd:Vl ops ms) {iO:St}
  (hQ:∀a w G,R B E w0 N iO a w G->Q .normal a w):
  ∀(ia:Nat) (L:List Nat) (cK:Array Bool) (σ:St) (a:Act) (w:World) (G:Gh),R B E w0 N σ a w G->pD T ms L σ=some iO->L.Pairwise (·<·)->L.length<=ia->cK.size=ops.size->
   (∀j,j∈L↔cK.getD j true=false)->Lx ops cK->wpAny P .any ops Q ia cK a w:=by
 have first:∀(L:List Nat) (cK:Array Bool),L.Pairwise (·<·)->cK.size=ops.size->(∀j,j∈L↔cK.getD j true=false)->Region.ready .any ops cK=[]->L=[]:=by
  intro L cK hp hs hL hr
  cases L with
  |nil=>rfl
  |cons j L=>
   exfalso
   have hj:=(hL j).1 (by simp)
   have kv:j<ops.size:=by
    rw[<-hs]
    rcases Nat.lt_or_ge j cK.size with h|h
    ·exact h
    ·simp[Array.getElem?_eq_none h] at hj
   have ho:ops[j]? =some ops[j]:=Array.getElem?_eq_getElem kv
   have:j∈Region.ready .any ops cK:=by
    rw[mem_ready]
    refine⟨hj,_,ho,fun e he hb=>?_⟩
    have bH:=hd.back j _ ho e he hb
    have nM:e.on∉j::L:=by
     intro hm
     cases hm with
     |head=>omega
     |tail _ hm=>have:=(List.pairwise_cons.1 hp).1 _ hm;omega
    have ax:cK.getD e.on true≠false:=fun h=>nM ((hL e.on).2 h)
    have oN:e.on<cK.size:=by omega
    simp[oN] at ax⊢
    exact ax
   rw[hr] at this
   cases this
 intro ia
 induction ia with
 |zero=>
  intro L cK σ a w G r hx hp hl hs hL hC
  have ra:L=[]:=List.eq_nil_of_length_eq_zero (by omega)
  subst ra
  simp only[pD] at hx
  injection hx with hx
  subst hx
  refine⟨?_,hQ _ _ _ r⟩
  cases hr:Region.ready .any ops cK with
  |nil=>rfl
  |cons i l=>
   have hm:i∈Region.ready .any ops cK:=by rw[hr];simp
   have:=(hL i).2 (mem_ready.1 hm).1
   cases this
 |succ ia ih=>
  intro L cK σ a w G r hx hp hl hs hL hC
  refine⟨fun hr=>?_,fun i hi=>?_⟩
  ·have ra:=first L cK hp hs hL hr
   subst ra
   simp only[pD] at hx
   injection hx with hx
   subst hx
   exact hQ _ _ _ r
  ·obtain⟨Oo,oi,jJ,DG⟩:=mem_ready.1 hi
   have pM:i∈L:=(hL i).2 Oo
   obtain⟨pre,post,rfl⟩:=List.append_of_mem pM
   have his:i<ops.size:=(Array.getElem?_eq_some_iff.1 jJ).1
   have yI:ms[i]? =some ms[i]:=List.getElem?_eq_getElem (by omega)
   obtain⟨o',gh,N9⟩:=rc i _ yI
   rw[jJ] at gh
   injection gh with gh
   subst gh
   have fQ:=List.pairwise_append.1 hp
   obtain⟨τ,t1,t2⟩:=W0 (ops:=ops) hT rc yI ⟨a,w,G,r⟩ hx (fun j hj=>by
    have oO:j<i:=fQ.2.2 j hj i (by simp)
    rcases hd.pair i j oi _ jJ yI oO with NZ|h
    ·have h1:=VR hC NZ (fun o ho e he hb=>by
      rw[jJ] at ho
      injection ho with ho
      subst ho
      have h1:=DG e he hb
      have bH:=hd.back i _ jJ e he hb
      have oN:e.on<cK.size:=by omega
      simp[oN] at h1⊢
      exact h1)
     have h2:=(hL j).1 (by simp[hj])
     rw[h1] at h2
     cases h2
    ·exact h)
   have D8:∀a' w',Nx B E w0 N τ a' w'->wpAny P .any ops Q ia (cK.setIfInBounds i true) a' w':=by
    rintro a' w' ⟨G',r'⟩
    refine ih (pre++post) _ τ a' w' G' r' t2 ?_ (by simp at hl⊢;omega) (by simpa using hs) (fun j=>?_) (fun k o ho hk e he hb=>?_)
    ·rw[List.pairwise_append]
     exact⟨fQ.1,(List.pairwise_cons.1 fQ.2.1).2,fun x hx y hy=>fQ.2.2 x hx y (by simp[hy])⟩
    ·by_cases oO:j=i
     ·subst oO
      have kv:j<cK.size:=by omega
      simp only[List.mem_append]
      constructor
      ·rintro(h|h)
       ·have:=fQ.2.2 j h j (by simp);omega
       ·have:=(List.pairwise_cons.1 fQ.2.1).1 j h;omega
      ·intro h
       simp[kv] at h
     ·rw[getD_set_ne true (Ne.symm oO),<-hL j]
      simp[oO]
    ·have DW:∀q,cK.getD q true=true->(cK.setIfInBounds i true).getD q true=true:=by
      intro q hq
      by_cases oQ:q=i
      ·subst oQ
       have:q<cK.size:=by omega
       simp[this]
      ·rw[getD_set_ne true (Ne.symm oQ)];exact hq
     by_cases DT:k=i
     ·subst DT
      rw[jJ] at ho
      injection ho with ho
      subst ho
      have h1:=DG e he hb
      have bH:=hd.back k _ jJ e he hb
      have oN:e.on<cK.size:=by omega
      refine DW _ ?_
      simp[oN] at h1⊢
      exact h1
     ·rw[getD_set_ne true (Ne.symm DT)] at hk
      exact DW _ (hC k o ho hk e he hb)
   unfold wpOp
   rw[jJ]
   simp only
   rcases Ic (Q:=Q) r hT N9 t1 with⟨hw,h⟩|⟨hw,h⟩
   ·rw[if_pos hw]
    exact .inl (Oper.wp_mono D8 h)
   ·rw[if_neg (by simp[hw])]
    exact D8 _ _ h
theorem WZ:∀(post pre:List bL) (σ:St),pD T (pre++post) (List.range' pre.length post.length) σ=nG T post σ
 |[],pre,σ=>by simp[pD,nG]
 |m::post,pre,σ=>by
  simp only[List.length_cons,List.range'_succ,pD,nG]
  rw[List.getElem?_append_right (Nat.le_refl _),Nat.sub_self]
  simp only[List.getElem?_cons_zero]
  cases eC T m σ with
  |none=>rfl
  |some σ1=>
   have:=WZ post (pre++[m]) σ1
   simp only[List.length_append,List.length_cons,List.length_nil,List.append_assoc,List.singleton_append,Nat.zero_add] at this
   exact this
theorem Mr:∀{l:List Oper} {ms:List bL},oH P N ops l ms=true->ms.length=l.length/\∀(i:Nat) (m:bL),ms[i]? =some m->∃o,l[i]? =some o/\ua P N ops o m=true
 |[],[],_=>⟨rfl,by simp⟩
 |o::l,m::ms,hc=>by
  simp only[oH,Bool.and_eq_true] at hc
  obtain⟨i1,i2⟩:=Mr hc.2
  refine⟨by simp[i1],fun i m' hm=>?_⟩
  cases i with
  |zero=>simp at hm;subst hm;exact⟨o,rfl,hc.1⟩
  |succ i=>exact i2 i m' (by simpa using hm)
 |[],_::_,hc=>by simp[oH] at hc
 |_::_,[],hc=>by simp[oH] at hc
theorem R.drawn (r:R B E w0 N σ a w G) (k:Nat):R B E w0 N σ a {w with drawn:=k} G:=by
 have hw:∀b,b<w.heap.size->({w with drawn:=k}:World).heap[b]? =w.heap[b]? :=fun _ _=>rfl
 exact r.step rfl (fun _ h=>h) (aW.world (fun b hb=>hw b (r.hr.fI b hb)) _) (r.hr.grow hw (Nat.le_refl _)) (r.fr.grow hw (Nat.le_refl _) rfl rfl rfl)
theorem am7 (hT:nu P T) (hm:P.follows .mixedOrders=true) {id:Nat} {qS:Bool} {ms:List bL} (hc:oH P N ops ops.toList ms=true) (hd:qS=true->HI ops.toList ms=true)
  (hx:nG T ms σ=some σ') (r:R B E w0 N σ a w G) (hQ:∀a w G,R B E w0 N σ' a w G->Q .normal a w):(Code.region id ops qS).wp P Q a w:=by
 cases qS with
 |false=>exact wp_region_list (Vf hT hc hx r hQ)
 |true=>
  obtain⟨k1,k2⟩:=Mr hc
  have hlen:ms.length=ops.size:=by simpa using k1
  refine wp_region_any hm (aoP (B:=B) (E:=E) (w0:=w0) (N:=N) hT (fun i m h=>by
   obtain⟨o,h1,h2⟩:=k2 i m h;exact⟨o,by simpa using h1,h2⟩) hlen (adA (hd rfl)) hQ ops.size (List.range ops.size) _ σ a _ G (r.drawn _) ?_ ?_ (by simp) (by simp) (fun j=>?_) (fun k o ho hk=>?_))
  ·have:=WZ (T:=T) ms [] σ
   simp only[List.nil_append,List.length_nil,hlen,<-List.range_eq_range'] at this
   rw[this]
   exact hx
  ·exact List.pairwise_lt_range
  ·rw[List.mem_range]
   constructor
   ·intro h;simp[h]
   ·intro h
    rcases Nat.lt_or_ge j ops.size with h'|h'
    ·exact h'
    ·simp[Array.getElem?_eq_none (show(Array.replicate ops.size false).size<=j by simpa using h')] at h
  ·exfalso
   have Oy:k<ops.size:=(Array.getElem?_eq_some_iff.1 ho).1
   simp[Oy] at hk
end
end Go.Am
