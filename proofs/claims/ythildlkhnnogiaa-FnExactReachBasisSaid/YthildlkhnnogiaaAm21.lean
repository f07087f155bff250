/- Am21: regions. No condition. -/
import Derived.Test.YthildlkhnnogiaaAm20
set_option linter.unusedVariables false
namespace Go.Am
def GQ (P:Program) (f:FuncId) (M:List Dv->Option (List Dv)):Prop:=
 ∀ds rs,M ds=some rs->∀(w:World) (vals:List Value),Dn w ds vals->Calls P f vals.toArray w fun e w'=>
  ∃(sz cap:Nat) (a:Option Addr) (xs:List (List PC)),rs=[(.one,[(PC.list sz a cap xs).er])]/\e=.returned (PC.list sz a cap xs).val/\yM w' w.heap.size [PC.list sz a cap xs]/\Fr w.heap.size Ex.no w w'/\qg w' sz xs
theorem GQ.pure {P:Program} {f:FuncId} {M:List Dv->Option (List Dv)} (h:GQ P f M):de P f M:=by
 intro ds rs hM w vals ha
 refine(h ds rs hM w vals ha).mono fun e w' ⟨sz,cap,a,xs,h1,h2,h3,h4,_⟩=>?_
 refine⟨[(.one,[PC.list sz a cap xs])],by rw[h1];rfl,h2,fun p hp=>?_,by simpa using h3,h4⟩
 simp at hp
 subst hp
 exact⟨by simp,fun _=>rfl⟩
def GU (P:Program) (T:aF):Prop:=∀f M,aF.find T.ns f=some M->GQ P f M
def Mi (ops:Array Oper) (o:Oper) (mo:bq):Bool:=
 match o.guard,mo.guard with
 |none,none=>true
 |some (j,kl),some (s,abS)=>decide ((ops[j]?).bind (·.dst)=some s)&&(kl==abS)
 |_,_=>false
def m5 (P:Program) (N:Nat) (ops:Array Oper) (o:Oper) (mo:bq):Bool:=
 decide (o.dst=mo.dst)&&(match o.dst with|some n=>decide (n<N)|none=>true)&&Mi ops o mo&&du P o mo.op
def iB (P:Program) (N:Nat) (ops:Array Oper):List Oper->List bq->Bool
 |[],[]=>true
 |o::os,m::ms=>m5 P N ops o m&&iB P N ops os ms
 |_,_=>false
section
variable {B:Nat} {E:Ex} {w0 w w':World} {G G':Gh} {N:Nat}
variable {P:Program} {T:aF} {o:Oper} {mo:bq} {a:Act} {σ σ':St} {Q:Exit->Act->World->Prop} {ops:Array Oper}
structure jn (P:Program) (T:aF):Prop where
 spec:yN P T
 aaS:AZ P T
 aaT:A2 P T
 aaU:wH P T
 al4:GU P T
 fn:∀f M,aF.find T.pure f=some M->bJ P f=true
theorem R.guard (r:R B E w0 N σ a w G) {j s:Nat} {b:Bool} (hj:(ops[j]?).bind (·.dst)=some s) (hb:σ.env s=.one (.c (.bool b))):yielded ops a.tmps j=some b:=by
 have h1:=r.env s
 rw[hb] at h1
 have h2:=h1.Bc
 have h3:a.tmps[s]? =some (.bool b):=by
  rw[Array.getD_eq_getD_getElem?] at h2
  cases ht:a.tmps[s]? with
  |none=>rw[ht] at h2;simp[undef] at h2
  |some v=>rw[ht] at h2;simp at h2;rw[h2]
 unfold yielded
 rw[hj]
 simp[h3]
theorem aaJ {w:World} {G:Gh} {h:Nat->Option aj}:RA w G h (.bk []) undef:=⟨[],rfl,rfl,fun j x u hx=>by simp at hx⟩
theorem aaK {u:Nat->Prop} (m:Nat) (hm:(ah.bk []).ref m):u m:=by
 obtain⟨c,hc,_⟩:=hm
 cases hc
theorem R.afn (r:R B E w0 N σ a w G) {j s:Nat} (hj:(ops[j]?).bind (·.dst)=some s) (hb:σ.env s=.bk []):yielded ops a.tmps j=none:=by
 have h1:=r.env s
 rw[hb] at h1
 obtain⟨vs,h2,h3,_⟩:=h1
 have:vs=[]:=List.length_eq_zero_iff.1 h3
 subst this
 rw[Array.getD_eq_getD_getElem?] at h2
 unfold yielded
 rw[hj]
 simp only[Option.bind_some]
 cases ht:a.tmps[s]? with
 |none=>rfl
 |some v=>
  rw[ht] at h2
  simp only[Option.getD_some] at h2
  subst h2
  rfl
theorem y9 (r:R B E w0 N σ a w G) (hT:jn P T) (hc:m5 P N ops o mo=true) (hx:cQ T mo σ=some σ'):
  (Region.wanted o (yielded ops a.tmps)=true/\o.wp P a w (Nx B E w0 N σ') Q)\/(Region.wanted o (yielded ops a.tmps)=false/\Nx B E w0 N σ' (a.put o.dst undef) w):=by
 simp only[m5,Bool.and_eq_true,decide_eq_true_eq] at hc
 obtain⟨⟨⟨c1,c2⟩,c3⟩,c4⟩:=hc
 have hN:∀n,o.dst=some n->n<N:=fun n hn=>by rw[hn] at c2;simpa using c2
 unfold Mi at c3
 unfold cQ at hx
 split at c3
 ·rename_i g1 g2
  simp only[g2] at hx
  rw[<-c1] at hx
  exact .inl ⟨by simp[Region.wanted,g1],WA r hT.spec hT.aaS hT.aaT hT.aaU hT.fn hN c4 hx⟩
 ·rename_i j kl s abS g1 g2
  simp only[Bool.and_eq_true,decide_eq_true_eq,beq_iff_eq] at c3
  obtain⟨k1,rfl⟩:=c3
  simp only[g2] at hx
  split at hx
  ·rename_i b hb
   have hy:=r.guard k1 hb
   split at hx
   ·rename_i Oa
    rw[<-c1] at hx
    exact .inl ⟨by simp[Region.wanted,g1,hy,Oa],WA r hT.spec hT.aaS hT.aaT hT.aaU hT.fn hN c4 hx⟩
   ·rename_i Oa
    injection hx with hx
    subst hx
    refine .inr ⟨by simp[Region.wanted,g1,hy,Oa],G,?_⟩
    rw[<-c1]
    exact r.put (x:=.bk []) aaJ aaK hN
  ·rename_i hb
   have hy:=r.afn k1 hb
   injection hx with hx
   subst hx
   refine .inr ⟨by simp[Region.wanted,g1,hy],G,?_⟩
   rw[<-c1]
   exact r.put (x:=.bk []) aaJ aaK hN
  ·cases hx
 ·cases c3
theorem R.wf (r:R B E w0 N σ a w G):Wf σ:=⟨r.nO,r.hr.gd⟩
theorem amY {K:Act->World->Prop} (h:o.wp P a w K (fun _ _ _=>False)):∃a' w',K a' w':=by
 unfold Oper.wp at h
 unfold Oper.upon at h
 split at h
 ·exact⟨_,_,h⟩
 ·exact⟨_,_,h⟩
 ·exact⟨_,_,h⟩
 ·obtain⟨e,w',fr,hR,_⟩:=h []
  cases e with
  |returned v=>exact⟨_,_,hR⟩
  |panicked c=>exact hR.elim
  |outgrown=>obtain⟨_,_,hf⟩:=hR;exact hf.elim
 ·obtain⟨v,w',hR,_⟩:=h default []
  exact⟨_,_,hR⟩
 ·exact h.elim
 ·exact h.elim
def yL (B:Nat) (E:Ex) (w0:World) (N:Nat) (σ:St):Prop:=∃a w G,R B E w0 N σ a w G
theorem Rn (r:yL B E w0 N σ) (hT:jn P T) (hc:m5 P N ops o mo=true) (hx:cQ T mo σ=some σ'):yL B E w0 N σ':=by
 obtain⟨a,w,G,r⟩:=r
 rcases y9 (Q:=fun _ _ _=>False) r hT hc hx with⟨_,h⟩|⟨_,G',h⟩
 ·obtain⟨a',w',G',h⟩:=amY h
  exact⟨a',w',G',h⟩
 ·exact⟨_,_,G',h⟩
theorem UR (hT:jn P T):∀{l:List Oper} {ms:List bq} {σ σ':St} {a:Act} {w:World} {G:Gh},iB P N ops l ms=true->dZ T ms σ=some σ'->R B E w0 N σ a w G->
  (∀a w G,R B E w0 N σ' a w G->Q .normal a w)->wpList P ops Q l a w
 |[],[],σ,σ',a,w,G,hc,hx,r,hQ=>by
  simp only[dZ] at hx
  injection hx with hx
  subst hx
  exact hQ _ _ _ r
 |o::l,m::ms,σ,σ',a,w,G,hc,hx,r,hQ=>by
  simp only[iB,Bool.and_eq_true] at hc
  simp only[dZ] at hx
  split at hx
  ·rename_i σ1 e1
   unfold wpList
   rcases y9 (Q:=Q) r hT hc.1 e1 with⟨hw,h⟩|⟨hw,G',h⟩
   ·rw[if_pos hw]
    exact .inl (Oper.wp_mono (fun a' w' ⟨G',r'⟩=>UR hT hc.2 hx r' hQ) h)
   ·rw[if_neg (by simp[hw])]
    exact UR hT hc.2 hx h hQ
  ·cases hx
 |[],_::_,_,_,_,_,_,hc,_,_,_=>by simp[iB] at hc
 |_::_,[],_,_,_,_,_,hc,_,_,_=>by simp[iB] at hc
def qx (T:aF) (ms:List bq):List Nat->St->Option St
 |[],σ=>some σ
 |i::L,σ=>match ms[i]? with
  |some o=>match cQ T o σ with
   |some σ1=>qx T ms L σ1
   |none=>none
  |none=>none
inductive oR (ops:Array Oper):Nat->Nat->Prop where
 |Wc (i:Nat) (o:Oper) (e:_):ops[i]? =some o->e∈o.after->Region.binds .any e=true->oR ops i e.on
 |step (i j:Nat) (o:Oper) (e:_):ops[i]? =some o->e∈o.after->Region.binds .any e=true->oR ops e.on j->oR ops i j
def ML (o:Oper):List Nat:=(o.after.toList.filter (Region.binds .any)).map (·.on)
def Fo (cD:List Nat):List Nat->Nat
 |[]=>0
 |j::js=>(Nat.shiftLeft 1 j|||cD.getD j 0)|||Fo cD js
def tV:List Oper->List Nat->List Nat
 |[],cD=>cD
 |o::os,cD=>tV os (cD++[Fo cD (ML o)])
theorem ahW {o:Oper} {j:Nat} (h:j∈ML o):∃e∈o.after,Region.binds .any e=true/\e.on=j:=by
 unfold ML at h
 simp only[List.mem_map,List.mem_filter] at h
 obtain⟨e,⟨h1,h2⟩,h3⟩:=h
 exact⟨e,Array.mem_toList_iff.1 h1,h2,h3⟩
theorem Y9 {cD:List Nat}:∀{js:List Nat} {k:Nat},(Fo cD js).testBit k=true->∃j∈js,j=k\/(cD.getD j 0).testBit k=true
 |[],k,h=>by simp[Fo] at h
 |j::js,k,h=>by
  simp only[Fo,Nat.testBit_or,Bool.or_eq_true] at h
  rcases h with(h|h)|h
  ·refine⟨j,by simp,.inl ?_⟩
   have h':(1<<<j).testBit k=true:=h
   rw[Nat.one_shiftLeft,Nat.testBit_two_pow] at h'
   exact of_decide_eq_true h'
  ·exact⟨j,by simp,.inr h⟩
  ·obtain⟨j',h1,h2⟩:=Y9 h
   exact⟨j',by simp[h1],h2⟩
theorem JG {ops:Array Oper}:∀(os:List Oper) (cD:List Nat) (pre:List Oper),ops.toList=pre++os->cD.length=pre.length->(∀i k,(cD.getD i 0).testBit k=true->oR ops i k)->
  ∀i k,((tV os cD).getD i 0).testBit k=true->oR ops i k
 |[],cD,pre,_,_,h,i,k,hb=>h i k hb
 |o::os,cD,pre,he,hl,h,i,k,hb=>by
  refine JG os _ (pre++[o]) (by simp[he]) (by simp[hl]) (fun i k hb=>?_) i k hb
  by_cases bS:i<cD.length
  ·rw[List.getD_eq_getElem?_getD,List.getElem?_append_left bS,<-List.getD_eq_getElem?_getD] at hb
   exact h i k hb
  ·by_cases hi:i=cD.length
   ·subst hi
    rw[List.getD_eq_getElem?_getD,List.getElem?_append_right (Nat.le_refl _),Nat.sub_self] at hb
    simp only[List.getElem?_cons_zero,Option.getD_some] at hb
    have ho:ops[cD.length]? =some o:=by
     have:ops.toList[cD.length]? =some o:=by rw[he,hl,List.getElem?_append_right (Nat.le_refl _),Nat.sub_self];rfl
     simpa using this
    obtain⟨j,h1,h2⟩:=Y9 hb
    obtain⟨e,e1,e2,rfl⟩:=ahW h1
    rcases h2 with rfl|h2
    ·exact .Wc _ o e ho e1 e2
    ·exact .step _ _ o e ho e1 e2 (h _ _ h2)
   ·rw[List.getD_eq_getElem?_getD,List.getElem?_eq_none (by simp;omega)] at hb
    simp at hb
def Ib (ops:List Oper) (ms:List bq):Bool:=
 (fun ks:List Nat=>(List.range ops.length).all fun i=>match ops[i]?,ms[i]? with
  |some o,some m=>(o.after.toList.all fun e=> !Region.binds .any e||decide (e.on<i))&&
   (List.range i).all fun j=>(ks.getD i 0).testBit j||(match ms[j]? with|some mj=>Bn mj m|none=>false)
  |_,_=>false) (tV ops [])
structure U0 (ops:Array Oper) (ms:List bq):Prop where
 back:∀(i:Nat) (o:Oper),ops[i]? =some o->∀e∈o.after,Region.binds .any e=true->e.on<i
 pair:∀(i j:Nat) (o:Oper) (m:bq),ops[i]? =some o->ms[i]? =some m->j<i->oR ops i j\/∃mj,ms[j]? =some mj/\Bn mj m=true
theorem acC {ms:List bq} (h:Ib ops.toList ms=true):U0 ops ms:=by
  simp only[Ib,List.all_eq_true,List.mem_range] at h
  have bW:∀(i:Nat) (o:Oper),ops[i]? =some o->∃m,ms[i]? =some m/\(o.after.toList.all fun e=> !Region.binds .any e||decide (e.on<i))=true/\
        ∀j,j<i->(((tV ops.toList []).getD i 0).testBit j||(match ms[j]? with|some mj=>Bn mj m|none=>false))=true:=by
    intro i o ho
    have hi:i<ops.toList.length:=by simpa using(Array.getElem?_eq_some_iff.1 ho).1
    have hi':=h i hi
    have ek:ops.toList[i]? =some o:=by simpa using ho
    rw[ek] at hi'
    cases hm:ms[i]? with
    |none=>rw[hm] at hi';cases hi'
    |some m=>
     rw[hm] at hi'
     simp only[Bool.and_eq_true,List.all_eq_true,List.mem_range] at hi'
     exact⟨m,rfl,by rw[List.all_eq_true];exact hi'.1,hi'.2⟩
  refine⟨fun i o ho e he hb=>?_,fun i j o m ho hm hj=>?_⟩
  · obtain⟨m,_,k1,_⟩:=bW i o ho
    have:=List.all_eq_true.1 k1 e (Array.mem_toList_iff.2 he)
    simp[hb] at this
    exact this
  · obtain⟨m',bm,_,k2⟩:=bW i o ho
    rw[hm] at bm
    injection bm with bm
    subst bm
    have:=k2 j hj
    rw[Bool.or_eq_true] at this
    rcases this with h1|h1
    · exact .inl (JG ops.toList [] [] rfl rfl (by intro i k hb;simp at hb) i j h1)
    · cases B0:ms[j]? with
      |none=>rw[B0] at h1;cases h1
      |some mj=>rw[B0] at h1;exact .inr ⟨mj,rfl,h1⟩
def Dt (ops:Array Oper) (bM:Array Bool):Prop:=
 ∀(k:Nat) (o:Oper),ops[k]? =some o->bM.getD k true=true->∀e∈o.after,Region.binds .any e=true->bM.getD e.on true=true
theorem A8 {bM:Array Bool} (hc:Dt ops bM) {i j:Nat} (hb:oR ops i j):(∀o,ops[i]? =some o->∀e∈o.after,Region.binds .any e=true->bM.getD e.on true=true)->bM.getD j true=true:=by
 induction hb with
 |Wc i o e ho he hb=>exact fun h=>h o ho e he hb
 |step i j o e ho he hb _ ih=>exact fun h=>ih fun o' ek=>hc _ o' ek (h o ho e he hb)
theorem WE (hT:jn P T) {ms:List bq} (fH:∀(i:Nat) (m:bq),ms[i]? =some m->∃o,ops[i]? =some o/\m5 P N ops o m=true) {i:Nat} {mi:bq} (hi:ms[i]? =some mi) {post:List Nat} {cT:St}:
  ∀{pre:List Nat} {σ:St},yL B E w0 N σ->qx T ms (pre++i::post) σ=some cT->(∀j∈pre,∃mj,ms[j]? =some mj/\Bn mj mi=true)->
  ∃τ,cQ T mi σ=some τ/\qx T ms (pre++post) τ=some cT
 |[],σ,hr,hx,hc=>by
  simp only[List.nil_append,qx,hi] at hx
  split at hx
  ·rename_i σ1 e;exact⟨σ1,e,hx⟩
  ·cases hx
 |j::pre,σ,hr,hx,hc=>by
  obtain⟨mj,hj,ij⟩:=hc j (by simp)
  simp only[List.cons_append,qx,hj] at hx
  split at hx
  ·rename_i σ1 e1
   obtain⟨oj,_,eg⟩:=fH j mj hj
   obtain⟨mU,t1,t2⟩:=WE hT fH hi (Rn hr hT eg e1) hx (fun k hk=>hc k (by simp[hk]))
   obtain⟨a,w,G,r⟩:=hr
   obtain⟨τ,s1,s2⟩:=acO r.wf ij e1 t1
   exact⟨τ,s1,by simp only[List.cons_append,qx,hj,s2];exact t2⟩
  ·cases hx
theorem amU (hT:jn P T) {ms:List bq} (fH:∀(i:Nat) (m:bq),ms[i]? =some m->∃o,ops[i]? =some o/\m5 P N ops o m=true) (hlen:ms.length=ops.size) (hd:U0 ops ms) {cT:St}
  (hQ:∀a w G,R B E w0 N cT a w G->Q .normal a w):
  ∀(eW:Nat) (L:List Nat) (bM:Array Bool) (σ:St) (a:Act) (w:World) (G:Gh),R B E w0 N σ a w G->qx T ms L σ=some cT->L.Pairwise (·<·)->L.length<=eW->bM.size=ops.size->
   (∀j,j∈L↔bM.getD j true=false)->Dt ops bM->wpAny P .any ops Q eW bM a w:=by
 have first:∀(L:List Nat) (bM:Array Bool),L.Pairwise (·<·)->bM.size=ops.size->(∀j,j∈L↔bM.getD j true=false)->Region.ready .any ops bM=[]->L=[]:=by
  intro L bM hp hs hL hr
  cases L with
  |nil=>rfl
  |cons j L=>
   exfalso
   have hj:=(hL j).1 (by simp)
   have iE:j<ops.size:=by
    rw[<-hs]
    rcases Nat.lt_or_ge j bM.size with h|h
    ·exact h
    ·simp[Array.getElem?_eq_none h] at hj
   have ho:ops[j]? =some ops[j]:=Array.getElem?_eq_getElem iE
   have:j∈Region.ready .any ops bM:=by
    rw[mem_ready]
    refine⟨hj,_,ho,fun e he hb=>?_⟩
    have bS:=hd.back j _ ho e he hb
    have ly:e.on∉j::L:=by
     intro hm
     cases hm with
     |head=>omega
     |tail _ hm=>have:=(List.pairwise_cons.1 hp).1 _ hm;omega
    have av:bM.getD e.on true≠false:=fun h=>ly ((hL e.on).2 h)
    have lx:e.on<bM.size:=by omega
    simp[lx] at av⊢
    exact av
   rw[hr] at this
   cases this
 intro eW
 induction eW with
 |zero=>
  intro L bM σ a w G r hx hp hl hs hL hC
  have pk:L=[]:=List.eq_nil_of_length_eq_zero (by omega)
  subst pk
  simp only[qx] at hx
  injection hx with hx
  subst hx
  refine⟨?_,hQ _ _ _ r⟩
  cases hr:Region.ready .any ops bM with
  |nil=>rfl
  |cons i l=>
   have hm:i∈Region.ready .any ops bM:=by rw[hr];simp
   have:=(hL i).2 (mem_ready.1 hm).1
   cases this
 |succ eW ih=>
  intro L bM σ a w G r hx hp hl hs hL hC
  refine⟨fun hr=>?_,fun i hi=>?_⟩
  ·have pk:=first L bM hp hs hL hr
   subst pk
   simp only[qx] at hx
   injection hx with hx
   subst hx
   exact hQ _ _ _ r
  ·obtain⟨zv,oi,gx,zk⟩:=mem_ready.1 hi
   have n9:i∈L:=(hL i).2 zv
   obtain⟨pre,post,rfl⟩:=List.append_of_mem n9
   have BW:i<ops.size:=(Array.getElem?_eq_some_iff.1 gx).1
   have qK:ms[i]? =some ms[i]:=List.getElem?_eq_getElem (by omega)
   obtain⟨o',ek,gU⟩:=fH i _ qK
   rw[gx] at ek
   injection ek with ek
   subst ek
   have eS:=List.pairwise_append.1 hp
   obtain⟨τ,t1,t2⟩:=WE (ops:=ops) hT fH qK ⟨a,w,G,r⟩ hx (fun j hj=>by
    have jp:j<i:=eS.2.2 j hj i (by simp)
    rcases hd.pair i j oi _ gx qK jp with Ei|h
    ·have h1:=A8 hC Ei (fun o ho e he hb=>by
      rw[gx] at ho
      injection ho with ho
      subst ho
      have h1:=zk e he hb
      have bS:=hd.back i _ gx e he hb
      have lx:e.on<bM.size:=by omega
      simp[lx] at h1⊢
      exact h1)
     have h2:=(hL j).1 (by simp[hj])
     rw[h1] at h2
     cases h2
    ·exact h)
   have xj:∀a' w',Nx B E w0 N τ a' w'->wpAny P .any ops Q eW (bM.setIfInBounds i true) a' w':=by
    rintro a' w' ⟨G',r'⟩
    refine ih (pre++post) _ τ a' w' G' r' t2 ?_ (by simp at hl⊢;omega) (by simpa using hs) (fun j=>?_) (fun k o ho hk e he hb=>?_)
    ·rw[List.pairwise_append]
     exact⟨eS.1,(List.pairwise_cons.1 eS.2.1).2,fun x hx y hy=>eS.2.2 x hx y (by simp[hy])⟩
    ·by_cases jp:j=i
     ·subst jp
      have iE:j<bM.size:=by omega
      simp only[List.mem_append]
      constructor
      ·rintro(h|h)
       ·have:=eS.2.2 j h j (by simp);omega
       ·have:=(List.pairwise_cons.1 eS.2.1).1 j h;omega
      ·intro h
       simp[iE] at h
     ·rw[getD_set_ne true (Ne.symm jp),<-hL j]
      simp[jp]
    ·have xf:∀q,bM.getD q true=true->(bM.setIfInBounds i true).getD q true=true:=by
      intro q hq
      by_cases mz:q=i
      ·subst mz
       have:q<bM.size:=by omega
       simp[this]
      ·rw[getD_set_ne true (Ne.symm mz)];exact hq
     by_cases xc:k=i
     ·subst xc
      rw[gx] at ho
      injection ho with ho
      subst ho
      have h1:=zk e he hb
      have bS:=hd.back k _ gx e he hb
      have lx:e.on<bM.size:=by omega
      refine xf _ ?_
      simp[lx] at h1⊢
      exact h1
     ·rw[getD_set_ne true (Ne.symm xc)] at hk
      exact xf _ (hC k o ho hk e he hb)
   unfold wpOp
   rw[gx]
   simp only
   rcases y9 (Q:=Q) r hT gU t1 with⟨hw,h⟩|⟨hw,h⟩
   ·rw[if_pos hw]
    exact .inl (Oper.wp_mono xj h)
   ·rw[if_neg (by simp[hw])]
    exact xj _ _ h
theorem WD:∀(post pre:List bq) (σ:St),qx T (pre++post) (List.range' pre.length post.length) σ=dZ T post σ
 |[],pre,σ=>by simp[qx,dZ]
 |m::post,pre,σ=>by
  simp only[List.length_cons,List.range'_succ,qx,dZ]
  rw[List.getElem?_append_right (Nat.le_refl _),Nat.sub_self]
  simp only[List.getElem?_cons_zero]
  cases cQ T m σ with
  |none=>rfl
  |some σ1=>
   have:=WD post (pre++[m]) σ1
   simp only[List.length_append,List.length_cons,List.length_nil,List.append_assoc,List.singleton_append,Nat.zero_add] at this
   exact this
theorem Mm:∀{l:List Oper} {ms:List bq},iB P N ops l ms=true->ms.length=l.length/\∀(i:Nat) (m:bq),ms[i]? =some m->∃o,l[i]? =some o/\m5 P N ops o m=true
 |[],[],_=>⟨rfl,by simp⟩
 |o::l,m::ms,hc=>by
  simp only[iB,Bool.and_eq_true] at hc
  obtain⟨i1,i2⟩:=Mm hc.2
  refine⟨by simp[i1],fun i m' hm=>?_⟩
  cases i with
  |zero=>simp at hm;subst hm;exact⟨o,rfl,hc.1⟩
  |succ i=>exact i2 i m' (by simpa using hm)
 |[],_::_,hc=>by simp[iB] at hc
 |_::_,[],hc=>by simp[iB] at hc
theorem R.drawn (r:R B E w0 N σ a w G) (k:Nat):R B E w0 N σ a {w with drawn:=k} G:=by
 have hw:∀b,b<w.heap.size->({w with drawn:=k}:World).heap[b]? =w.heap[b]? :=fun _ _=>rfl
 exact r.step rfl (fun _ h=>h) (aR.world (fun b hb=>hw b (r.hr.e7 b hb)) _) (r.hr.grow hw (Nat.le_refl _)) (r.fr.grow hw (Nat.le_refl _) rfl rfl rfl)
theorem ak5 (hT:jn P T) (hm:P.follows .mixedOrders=true) {id:Nat} {jW:Bool} {ms:List bq} (hc:iB P N ops ops.toList ms=true) (hd:jW=true->Ib ops.toList ms=true)
  (hx:dZ T ms σ=some σ') (r:R B E w0 N σ a w G) (hQ:∀a w G,R B E w0 N σ' a w G->Q .normal a w):(Code.region id ops jW).wp P Q a w:=by
 cases jW with
 |false=>exact wp_region_list (UR hT hc hx r hQ)
 |true=>
  obtain⟨k1,k2⟩:=Mm hc
  have hlen:ms.length=ops.size:=by simpa using k1
  refine wp_region_any hm (amU (B:=B) (E:=E) (w0:=w0) (N:=N) hT (fun i m h=>by
   obtain⟨o,h1,h2⟩:=k2 i m h;exact⟨o,by simpa using h1,h2⟩) hlen (acC (hd rfl)) hQ ops.size (List.range ops.size) _ σ a _ G (r.drawn _) ?_ ?_ (by simp) (by simp) (fun j=>?_) (fun k o ho hk=>?_))
  ·have:=WD (T:=T) ms [] σ
   simp only[List.nil_append,List.length_nil,hlen,<-List.range_eq_range'] at this
   rw[this]
   exact hx
  ·exact List.pairwise_lt_range
  ·rw[List.mem_range]
   constructor
   ·intro h;simp[h]
   ·intro h
    rcases Nat.lt_or_ge j ops.size with h'|h'
    ·exact h'
    ·simp[Array.getElem?_eq_none (show(Array.replicate ops.size false).size<=j by simpa using h')] at h
  ·exfalso
   have Ez:k<ops.size:=(Array.getElem?_eq_some_iff.1 ho).1
   simp[Ez] at hk
end
end Go.Am
