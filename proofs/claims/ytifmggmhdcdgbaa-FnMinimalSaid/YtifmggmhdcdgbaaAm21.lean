/- Am21: regions. No condition. -/
import Derived.Test.YtifmggmhdcdgbaaAm20
set_option linter.unusedVariables false
namespace Go.Am
def TE (ops:Array Oper) (o:Oper) (mo:bN):Bool:=
 match o.guard,mo.guard with
 |none,none=>true
 |some (j,ka),some (s,Z0)=>decide ((ops[j]?).bind (·.dst)=some s)&&(ka==Z0)
 |_,_=>false
def s7 (P:Program) (N:Nat) (ops:Array Oper) (o:Oper) (mo:bN):Bool:=
 decide (o.dst=mo.dst)&&(match o.dst with|some n=>decide (n<N)|none=>true)&&TE ops o mo&&dV P o mo.op
def nW (P:Program) (N:Nat) (ops:Array Oper):List Oper->List bN->Bool
 |[],[]=>true
 |o::os,m::ms=>s7 P N ops o m&&nW P N ops os ms
 |_,_=>false
section
variable {B:Nat} {E:Ex} {w0 w w':World} {G G':Gh} {N:Nat}
variable {P:Program} {T:bg} {o:Oper} {mo:bN} {a:Act} {σ σ':St} {Q:Exit->Act->World->Prop} {ops:Array Oper}
structure m7 (P:Program) (T:bg):Prop where
 spec:wP P T
 Zg:E4 P T
 Zh:E5 P T
 fn:∀f M,bg.find T.pure f=some M->cg P f=true
theorem R.guard (r:R B E w0 N σ a w G) {j s:Nat} {b:Bool} (hj:(ops[j]?).bind (·.dst)=some s) (hb:σ.env s=.one (.c (.bool b))):yielded ops a.tmps j=some b:=by
 have h1:=r.env s
 rw[hb] at h1
 have h2:=h1.zg
 have h3:a.tmps[s]? =some (.bool b):=by
  rw[Array.getD_eq_getD_getElem?] at h2
  cases ht:a.tmps[s]? with
  |none=>rw[ht] at h2;simp[undef] at h2
  |some v=>rw[ht] at h2;simp at h2;rw[h2]
 unfold yielded
 rw[hj]
 simp[h3]
theorem Y6 {w:World} {G:Gh} {h:Nat->Option aq}:RA w G h (.bn []) undef:=⟨[],rfl,rfl,fun j x u hx=>by simp at hx⟩
theorem Y7 {u:Nat->Prop} (m:Nat) (hm:(ak.bn []).ref m):u m:=by
 obtain⟨c,hc,_⟩:=hm
 cases hc
theorem R.acX (r:R B E w0 N σ a w G) {j s:Nat} (hj:(ops[j]?).bind (·.dst)=some s) (hb:σ.env s=.bn []):yielded ops a.tmps j=none:=by
 have h1:=r.env s
 rw[hb] at h1
 obtain⟨vs,h2,h3,_⟩:=h1
 have:vs=[]:=List.length_eq_zero_iff.1 h3
 subst this
 rw[Array.getD_eq_getD_getElem?] at h2
 unfold yielded
 rw[hj]
 simp only[Option.bind_some]
 cases ht:a.tmps[s]? with
 |none=>rfl
 |some v=>
  rw[ht] at h2
  simp only[Option.getD_some] at h2
  subst h2
  rfl
theorem Gu (r:R B E w0 N σ a w G) (hT:m7 P T) (hc:s7 P N ops o mo=true) (hx:eg T mo σ=some σ'):
  (Region.wanted o (yielded ops a.tmps)=true/\o.wp P a w (Nx B E w0 N σ') Q)\/(Region.wanted o (yielded ops a.tmps)=false/\Nx B E w0 N σ' (a.put o.dst undef) w):=by
 simp only[s7,Bool.and_eq_true,decide_eq_true_eq] at hc
 obtain⟨⟨⟨c1,c2⟩,c3⟩,c4⟩:=hc
 have hN:∀n,o.dst=some n->n<N:=fun n hn=>by rw[hn] at c2;simpa using c2
 unfold TE at c3
 unfold eg at hx
 split at c3
 ·rename_i g1 g2
  simp only[g2] at hx
  rw[<-c1] at hx
  exact .inl ⟨by simp[Region.wanted,g1],Uq r hT.spec hT.Zg hT.Zh hT.fn hN c4 hx⟩
 ·rename_i j ka s Z0 g1 g2
  simp only[Bool.and_eq_true,decide_eq_true_eq,beq_iff_eq] at c3
  obtain⟨k1,rfl⟩:=c3
  simp only[g2] at hx
  split at hx
  ·rename_i b hb
   have hy:=r.guard k1 hb
   split at hx
   ·rename_i Ly
    rw[<-c1] at hx
    exact .inl ⟨by simp[Region.wanted,g1,hy,Ly],Uq r hT.spec hT.Zg hT.Zh hT.fn hN c4 hx⟩
   ·rename_i Ly
    injection hx with hx
    subst hx
    refine .inr ⟨by simp[Region.wanted,g1,hy,Ly],G,?_⟩
    rw[<-c1]
    exact r.put (x:=.bn []) Y6 Y7 hN
  ·rename_i hb
   have hy:=r.acX k1 hb
   injection hx with hx
   subst hx
   refine .inr ⟨by simp[Region.wanted,g1,hy],G,?_⟩
   rw[<-c1]
   exact r.put (x:=.bn []) Y6 Y7 hN
  ·cases hx
 ·cases c3
theorem R.wf (r:R B E w0 N σ a w G):Wf σ:=⟨r.rf,r.hr.gi⟩
theorem alo {K:Act->World->Prop} (h:o.wp P a w K (fun _ _ _=>False)):∃a' w',K a' w':=by
 unfold Oper.wp at h
 unfold Oper.upon at h
 split at h
 ·exact⟨_,_,h⟩
 ·exact⟨_,_,h⟩
 ·exact⟨_,_,h⟩
 ·obtain⟨e,w',fr,hR,_⟩:=h []
  cases e with
  |returned v=>exact⟨_,_,hR⟩
  |panicked c=>exact hR.elim
  |outgrown=>obtain⟨_,_,hf⟩:=hR;exact hf.elim
 ·obtain⟨v,w',hR,_⟩:=h default []
  exact⟨_,_,hR⟩
 ·exact h.elim
 ·exact h.elim
def EZ (B:Nat) (E:Ex) (w0:World) (N:Nat) (σ:St):Prop:=∃a w G,R B E w0 N σ a w G
theorem Yz (r:EZ B E w0 N σ) (hT:m7 P T) (hc:s7 P N ops o mo=true) (hx:eg T mo σ=some σ'):EZ B E w0 N σ':=by
 obtain⟨a,w,G,r⟩:=r
 rcases Gu (Q:=fun _ _ _=>False) r hT hc hx with⟨_,h⟩|⟨_,G',h⟩
 ·obtain⟨a',w',G',h⟩:=alo h
  exact⟨a',w',G',h⟩
 ·exact⟨_,_,G',h⟩
theorem SE (hT:m7 P T):∀{l:List Oper} {ms:List bN} {σ σ':St} {a:Act} {w:World} {G:Gh},nW P N ops l ms=true->ng T ms σ=some σ'->R B E w0 N σ a w G->
  (∀a w G,R B E w0 N σ' a w G->Q .normal a w)->wpList P ops Q l a w
 |[],[],σ,σ',a,w,G,hc,hx,r,hQ=>by
  simp only[ng] at hx
  injection hx with hx
  subst hx
  exact hQ _ _ _ r
 |o::l,m::ms,σ,σ',a,w,G,hc,hx,r,hQ=>by
  simp only[nW,Bool.and_eq_true] at hc
  simp only[ng] at hx
  split at hx
  ·rename_i σ1 e1
   unfold wpList
   rcases Gu (Q:=Q) r hT hc.1 e1 with⟨hw,h⟩|⟨hw,G',h⟩
   ·rw[if_pos hw]
    exact .inl (Oper.wp_mono (fun a' w' ⟨G',r'⟩=>SE hT hc.2 hx r' hQ) h)
   ·rw[if_neg (by simp[hw])]
    exact SE hT hc.2 hx h hQ
  ·cases hx
 |[],_::_,_,_,_,_,_,hc,_,_,_=>by simp[nW] at hc
 |_::_,[],_,_,_,_,_,hc,_,_,_=>by simp[nW] at hc
def o8 (T:bg) (ms:List bN):List Nat->St->Option St
 |[],σ=>some σ
 |i::L,σ=>match ms[i]? with
  |some o=>match eg T o σ with
   |some σ1=>o8 T ms L σ1
   |none=>none
  |none=>none
inductive uo (ops:Array Oper):Nat->Nat->Prop where
 |T6 (i:Nat) (o:Oper) (e:_):ops[i]? =some o->e∈o.after->Region.binds .any e=true->uo ops i e.on
 |step (i j:Nat) (o:Oper) (e:_):ops[i]? =some o->e∈o.after->Region.binds .any e=true->uo ops e.on j->uo ops i j
def KA (o:Oper):List Nat:=(o.after.toList.filter (Region.binds .any)).map (·.on)
def Dq (cK:List Nat):List Nat->Nat
 |[]=>0
 |j::js=>(Nat.shiftLeft 1 j|||cK.getD j 0)|||Dq cK js
def AL:List Oper->List Nat->List Nat
 |[],cK=>cK
 |o::os,cK=>AL os (cK++[Dq cK (KA o)])
theorem agB {o:Oper} {j:Nat} (h:j∈KA o):∃e∈o.after,Region.binds .any e=true/\e.on=j:=by
 unfold KA at h
 simp only[List.mem_map,List.mem_filter] at h
 obtain⟨e,⟨h1,h2⟩,h3⟩:=h
 exact⟨e,Array.mem_toList_iff.1 h1,h2,h3⟩
theorem XH {cK:List Nat}:∀{js:List Nat} {k:Nat},(Dq cK js).testBit k=true->∃j∈js,j=k\/(cK.getD j 0).testBit k=true
 |[],k,h=>by simp[Dq] at h
 |j::js,k,h=>by
  simp only[Dq,Nat.testBit_or,Bool.or_eq_true] at h
  rcases h with(h|h)|h
  ·refine⟨j,by simp,.inl ?_⟩
   have h':(1<<<j).testBit k=true:=h
   rw[Nat.one_shiftLeft,Nat.testBit_two_pow] at h'
   exact of_decide_eq_true h'
  ·exact⟨j,by simp,.inr h⟩
  ·obtain⟨j',h1,h2⟩:=XH h
   exact⟨j',by simp[h1],h2⟩
theorem Ot {ops:Array Oper}:∀(os:List Oper) (cK:List Nat) (pre:List Oper),ops.toList=pre++os->cK.length=pre.length->(∀i k,(cK.getD i 0).testBit k=true->uo ops i k)->
  ∀i k,((AL os cK).getD i 0).testBit k=true->uo ops i k
 |[],cK,pre,_,_,h,i,k,hb=>h i k hb
 |o::os,cK,pre,he,hl,h,i,k,hb=>by
  refine Ot os _ (pre++[o]) (by simp[he]) (by simp[hl]) (fun i k hb=>?_) i k hb
  by_cases bL:i<cK.length
  ·rw[List.getD_eq_getElem?_getD,List.getElem?_append_left bL,<-List.getD_eq_getElem?_getD] at hb
   exact h i k hb
  ·by_cases hi:i=cK.length
   ·subst hi
    rw[List.getD_eq_getElem?_getD,List.getElem?_append_right (Nat.le_refl _),Nat.sub_self] at hb
    simp only[List.getElem?_cons_zero,Option.getD_some] at hb
    have ho:ops[cK.length]? =some o:=by
     have:ops.toList[cK.length]? =some o:=by rw[he,hl,List.getElem?_append_right (Nat.le_refl _),Nat.sub_self];rfl
     simpa using this
    obtain⟨j,h1,h2⟩:=XH hb
    obtain⟨e,e1,e2,rfl⟩:=agB h1
    rcases h2 with rfl|h2
    ·exact .T6 _ o e ho e1 e2
    ·exact .step _ _ o e ho e1 e2 (h _ _ h2)
   ·rw[List.getD_eq_getElem?_getD,List.getElem?_eq_none (by simp;omega)] at hb
    simp at hb
def FZ (ops:List Oper) (ms:List bN):Bool:=
 (fun ks:List Nat=>(List.range ops.length).all fun i=>match ops[i]?,ms[i]? with
  |some o,some m=>(o.after.toList.all fun e=> !Region.binds .any e||decide (e.on<i))&&
   (List.range i).all fun j=>(ks.getD i 0).testBit j||(match ms[j]? with|some mj=>zr mj m|none=>false)
  |_,_=>false) (AL ops [])
structure SK (ops:Array Oper) (ms:List bN):Prop where
 back:∀(i:Nat) (o:Oper),ops[i]? =some o->∀e∈o.after,Region.binds .any e=true->e.on<i
 pair:∀(i j:Nat) (o:Oper) (m:bN),ops[i]? =some o->ms[i]? =some m->j<i->uo ops i j\/∃mj,ms[j]? =some mj/\zr mj m=true
theorem aaO {ms:List bN} (h:FZ ops.toList ms=true):SK ops ms:=by
  simp only[FZ,List.all_eq_true,List.mem_range] at h
  have cu:∀(i:Nat) (o:Oper),ops[i]? =some o->∃m,ms[i]? =some m/\(o.after.toList.all fun e=> !Region.binds .any e||decide (e.on<i))=true/\
        ∀j,j<i->(((AL ops.toList []).getD i 0).testBit j||(match ms[j]? with|some mj=>zr mj m|none=>false))=true:=by
    intro i o ho
    have hi:i<ops.toList.length:=by simpa using(Array.getElem?_eq_some_iff.1 ho).1
    have hi':=h i hi
    have fY:ops.toList[i]? =some o:=by simpa using ho
    rw[fY] at hi'
    cases hm:ms[i]? with
    |none=>rw[hm] at hi';cases hi'
    |some m=>
     rw[hm] at hi'
     simp only[Bool.and_eq_true,List.all_eq_true,List.mem_range] at hi'
     exact⟨m,rfl,by rw[List.all_eq_true];exact hi'.1,hi'.2⟩
  refine⟨fun i o ho e he hb=>?_,fun i j o m ho hm hj=>?_⟩
  · obtain⟨m,_,k1,_⟩:=cu i o ho
    have:=List.all_eq_true.1 k1 e (Array.mem_toList_iff.2 he)
    simp[hb] at this
    exact this
  · obtain⟨m',bI,_,k2⟩:=cu i o ho
    rw[hm] at bI
    injection bI with bI
    subst bI
    have:=k2 j hj
    rw[Bool.or_eq_true] at this
    rcases this with h1|h1
    · exact .inl (Ot ops.toList [] [] rfl rfl (by intro i k hb;simp at hb) i j h1)
    · cases zP:ms[j]? with
      |none=>rw[zP] at h1;cases h1
      |some mj=>rw[zP] at h1;exact .inr ⟨mj,rfl,h1⟩
def Jp (ops:Array Oper) (cJ:Array Bool):Prop:=
 ∀(k:Nat) (o:Oper),ops[k]? =some o->cJ.getD k true=true->∀e∈o.after,Region.binds .any e=true->cJ.getD e.on true=true
theorem To {cJ:Array Bool} (hc:Jp ops cJ) {i j:Nat} (hb:uo ops i j):(∀o,ops[i]? =some o->∀e∈o.after,Region.binds .any e=true->cJ.getD e.on true=true)->cJ.getD j true=true:=by
 induction hb with
 |T6 i o e ho he hb=>exact fun h=>h o ho e he hb
 |step i j o e ho he hb _ ih=>exact fun h=>ih fun o' fY=>hc _ o' fY (h o ho e he hb)
theorem Uu (hT:m7 P T) {ms:List bN} (qz:∀(i:Nat) (m:bN),ms[i]? =some m->∃o,ops[i]? =some o/\s7 P N ops o m=true) {i:Nat} {mi:bN} (hi:ms[i]? =some mi) {post:List Nat} {iw:St}:
  ∀{pre:List Nat} {σ:St},EZ B E w0 N σ->o8 T ms (pre++i::post) σ=some iw->(∀j∈pre,∃mj,ms[j]? =some mj/\zr mj mi=true)->
  ∃τ,eg T mi σ=some τ/\o8 T ms (pre++post) τ=some iw
 |[],σ,hr,hx,hc=>by
  simp only[List.nil_append,o8,hi] at hx
  split at hx
  ·rename_i σ1 e;exact⟨σ1,e,hx⟩
  ·cases hx
 |j::pre,σ,hr,hx,hc=>by
  obtain⟨mj,hj,mD⟩:=hc j (by simp)
  simp only[List.cons_append,o8,hj] at hx
  split at hx
  ·rename_i σ1 e1
   obtain⟨oj,_,fJ⟩:=qz j mj hj
   obtain⟨nP,t1,t2⟩:=Uu hT qz hi (Yz hr hT fJ e1) hx (fun k hk=>hc k (by simp[hk]))
   obtain⟨a,w,G,r⟩:=hr
   obtain⟨τ,s1,s2⟩:=aa0 r.wf mD e1 t1
   exact⟨τ,s1,by simp only[List.cons_append,o8,hj,s2];exact t2⟩
  ·cases hx
theorem alm (hT:m7 P T) {ms:List bN} (qz:∀(i:Nat) (m:bN),ms[i]? =some m->∃o,ops[i]? =some o/\s7 P N ops o m=true) (hlen:ms.length=ops.size) (hd:SK ops ms) {iw:St}
  (hQ:∀a w G,R B E w0 N iw a w G->Q .normal a w):
  ∀(gX:Nat) (L:List Nat) (cJ:Array Bool) (σ:St) (a:Act) (w:World) (G:Gh),R B E w0 N σ a w G->o8 T ms L σ=some iw->L.Pairwise (·<·)->L.length<=gX->cJ.size=ops.size->
   (∀j,j∈L↔cJ.getD j true=false)->Jp ops cJ->wpAny P .any ops Q gX cJ a w:=by
 have first:∀(L:List Nat) (cJ:Array Bool),L.Pairwise (·<·)->cJ.size=ops.size->(∀j,j∈L↔cJ.getD j true=false)->Region.ready .any ops cJ=[]->L=[]:=by
  intro L cJ hp hs hL hr
  cases L with
  |nil=>rfl
  |cons j L=>
   exfalso
   have hj:=(hL j).1 (by simp)
   have ko:j<ops.size:=by
    rw[<-hs]
    rcases Nat.lt_or_ge j cJ.size with h|h
    ·exact h
    ·simp[Array.getElem?_eq_none h] at hj
   have ho:ops[j]? =some ops[j]:=Array.getElem?_eq_getElem ko
   have:j∈Region.ready .any ops cJ:=by
    rw[mem_ready]
    refine⟨hj,_,ho,fun e he hb=>?_⟩
    have bL:=hd.back j _ ho e he hb
    have nq:e.on∉j::L:=by
     intro hm
     cases hm with
     |head=>omega
     |tail _ hm=>have:=(List.pairwise_cons.1 hp).1 _ hm;omega
    have aw:cJ.getD e.on true≠false:=fun h=>nq ((hL e.on).2 h)
    have n7:e.on<cJ.size:=by omega
    simp[n7] at aw⊢
    exact aw
   rw[hr] at this
   cases this
 intro gX
 induction gX with
 |zero=>
  intro L cJ σ a w G r hx hp hl hs hL hC
  have qx:L=[]:=List.eq_nil_of_length_eq_zero (by omega)
  subst qx
  simp only[o8] at hx
  injection hx with hx
  subst hx
  refine⟨?_,hQ _ _ _ r⟩
  cases hr:Region.ready .any ops cJ with
  |nil=>rfl
  |cons i l=>
   have hm:i∈Region.ready .any ops cJ:=by rw[hr];simp
   have:=(hL i).2 (mem_ready.1 hm).1
   cases this
 |succ gX ih=>
  intro L cJ σ a w G r hx hp hl hs hL hC
  refine⟨fun hr=>?_,fun i hi=>?_⟩
  ·have qx:=first L cJ hp hs hL hr
   subst qx
   simp only[o8] at hx
   injection hx with hx
   subst hx
   exact hQ _ _ _ r
  ·obtain⟨LV,oi,jn,CF⟩:=mem_ready.1 hi
   have pn:i∈L:=(hL i).2 LV
   obtain⟨pre,post,rfl⟩:=List.append_of_mem pn
   have his:i<ops.size:=(Array.getElem?_eq_some_iff.1 jn).1
   have xG:ms[i]? =some ms[i]:=List.getElem?_eq_getElem (by omega)
   obtain⟨o',fY,LF⟩:=qz i _ xG
   rw[jn] at fY
   injection fY with fY
   subst fY
   have fF:=List.pairwise_append.1 hp
   obtain⟨τ,t1,t2⟩:=Uu (ops:=ops) hT qz xG ⟨a,w,G,r⟩ hx (fun j hj=>by
    have qC:j<i:=fF.2.2 j hj i (by simp)
    rcases hd.pair i j oi _ jn xG qC with Lu|h
    ·have h1:=To hC Lu (fun o ho e he hb=>by
      rw[jn] at ho
      injection ho with ho
      subst ho
      have h1:=CF e he hb
      have bL:=hd.back i _ jn e he hb
      have n7:e.on<cJ.size:=by omega
      simp[n7] at h1⊢
      exact h1)
     have h2:=(hL j).1 (by simp[hj])
     rw[h1] at h2
     cases h2
    ·exact h)
   have CZ:∀a' w',Nx B E w0 N τ a' w'->wpAny P .any ops Q gX (cJ.setIfInBounds i true) a' w':=by
    rintro a' w' ⟨G',r'⟩
    refine ih (pre++post) _ τ a' w' G' r' t2 ?_ (by simp at hl⊢;omega) (by simpa using hs) (fun j=>?_) (fun k o ho hk e he hb=>?_)
    ·rw[List.pairwise_append]
     exact⟨fF.1,(List.pairwise_cons.1 fF.2.1).2,fun x hx y hy=>fF.2.2 x hx y (by simp[hy])⟩
    ·by_cases qC:j=i
     ·subst qC
      have ko:j<cJ.size:=by omega
      simp only[List.mem_append]
      constructor
      ·rintro(h|h)
       ·have:=fF.2.2 j h j (by simp);omega
       ·have:=(List.pairwise_cons.1 fF.2.1).1 j h;omega
      ·intro h
       simp[ko] at h
     ·rw[getD_set_ne true (Ne.symm qC),<-hL j]
      simp[qC]
    ·have CR:∀q,cJ.getD q true=true->(cJ.setIfInBounds i true).getD q true=true:=by
      intro q hq
      by_cases n8:q=i
      ·subst n8
       have:q<cJ.size:=by omega
       simp[this]
      ·rw[getD_set_ne true (Ne.symm n8)];exact hq
     by_cases CP:k=i
     ·subst CP
      rw[jn] at ho
      injection ho with ho
      subst ho
      have h1:=CF e he hb
      have bL:=hd.back k _ jn e he hb
      have n7:e.on<cJ.size:=by omega
      refine CR _ ?_
      simp[n7] at h1⊢
      exact h1
     ·rw[getD_set_ne true (Ne.symm CP)] at hk
      exact CR _ (hC k o ho hk e he hb)
   unfold wpOp
   rw[jn]
   simp only
   rcases Gu (Q:=Q) r hT LF t1 with⟨hw,h⟩|⟨hw,h⟩
   ·rw[if_pos hw]
    exact .inl (Oper.wp_mono CZ h)
   ·rw[if_neg (by simp[hw])]
    exact CZ _ _ h
theorem Ut:∀(post pre:List bN) (σ:St),o8 T (pre++post) (List.range' pre.length post.length) σ=ng T post σ
 |[],pre,σ=>by simp[o8,ng]
 |m::post,pre,σ=>by
  simp only[List.length_cons,List.range'_succ,o8,ng]
  rw[List.getElem?_append_right (Nat.le_refl _),Nat.sub_self]
  simp only[List.getElem?_cons_zero]
  cases eg T m σ with
  |none=>rfl
  |some σ1=>
   have:=Ut post (pre++[m]) σ1
   simp only[List.length_append,List.length_cons,List.length_nil,List.append_assoc,List.singleton_append,Nat.zero_add] at this
   exact this
theorem Kf:∀{l:List Oper} {ms:List bN},nW P N ops l ms=true->ms.length=l.length/\∀(i:Nat) (m:bN),ms[i]? =some m->∃o,l[i]? =some o/\s7 P N ops o m=true
 |[],[],_=>⟨rfl,by simp⟩
 |o::l,m::ms,hc=>by
  simp only[nW,Bool.and_eq_true] at hc
  obtain⟨i1,i2⟩:=Kf hc.2
  refine⟨by simp[i1],fun i m' hm=>?_⟩
  cases i with
  |zero=>simp at hm;subst hm;exact⟨o,rfl,hc.1⟩
  |succ i=>exact i2 i m' (by simpa using hm)
 |[],_::_,hc=>by simp[nW] at hc
 |_::_,[],hc=>by simp[nW] at hc
theorem R.drawn (r:R B E w0 N σ a w G) (k:Nat):R B E w0 N σ a {w with drawn:=k} G:=by
 have hw:∀b,b<w.heap.size->({w with drawn:=k}:World).heap[b]? =w.heap[b]? :=fun _ _=>rfl
 exact r.step rfl (fun _ h=>h) (aT.world (fun b hb=>hw b (r.hr.fx b hb)) _) (r.hr.grow hw (Nat.le_refl _)) (r.fr.grow hw (Nat.le_refl _) rfl rfl rfl)
theorem ajd (hT:m7 P T) (hm:P.follows .mixedOrders=true) {id:Nat} {qn:Bool} {ms:List bN} (hc:nW P N ops ops.toList ms=true) (hd:qn=true->FZ ops.toList ms=true)
  (hx:ng T ms σ=some σ') (r:R B E w0 N σ a w G) (hQ:∀a w G,R B E w0 N σ' a w G->Q .normal a w):(Code.region id ops qn).wp P Q a w:=by
 cases qn with
 |false=>exact wp_region_list (SE hT hc hx r hQ)
 |true=>
  obtain⟨k1,k2⟩:=Kf hc
  have hlen:ms.length=ops.size:=by simpa using k1
  refine wp_region_any hm (alm (B:=B) (E:=E) (w0:=w0) (N:=N) hT (fun i m h=>by
   obtain⟨o,h1,h2⟩:=k2 i m h;exact⟨o,by simpa using h1,h2⟩) hlen (aaO (hd rfl)) hQ ops.size (List.range ops.size) _ σ a _ G (r.drawn _) ?_ ?_ (by simp) (by simp) (fun j=>?_) (fun k o ho hk=>?_))
  ·have:=Ut (T:=T) ms [] σ
   simp only[List.nil_append,List.length_nil,hlen,<-List.range_eq_range'] at this
   rw[this]
   exact hx
  ·exact List.pairwise_lt_range
  ·rw[List.mem_range]
   constructor
   ·intro h;simp[h]
   ·intro h
    rcases Nat.lt_or_ge j ops.size with h'|h'
    ·exact h'
    ·simp[Array.getElem?_eq_none (show(Array.replicate ops.size false).size<=j by simpa using h')] at h
  ·exfalso
   have L5:k<ops.size:=(Array.getElem?_eq_some_iff.1 ho).1
   simp[L5] at hk
end
end Go.Am
