/- Am21: regions. No condition. -/
import Derived.Test.YtifmggmhdcdgbaaAm20
set_option linter.unusedVariables false
namespace Go.Am
def Vw (ops:Array Oper) (o:Oper) (mo:bH):Bool:=
 match o.guard,mo.guard with
 |none,none=>true
 |some (j,jW),some (s,ab2)=>decide ((ops[j]?).bind (·.dst)=some s)&&(jW==ab2)
 |_,_=>false
def tu (P:Program) (N:Nat) (ops:Array Oper) (o:Oper) (mo:bH):Bool:=
 decide (o.dst=mo.dst)&&(match o.dst with|some n=>decide (n<N)|none=>true)&&Vw ops o mo&&dV P o mo.op
def n8 (P:Program) (N:Nat) (ops:Array Oper):List Oper->List bH->Bool
 |[],[]=>true
 |o::os,m::ms=>tu P N ops o m&&n8 P N ops os ms
 |_,_=>false
section
variable {B:Nat} {E:Ex} {w0 w w':World} {G G':Gh} {N:Nat}
variable {P:Program} {T:be} {o:Oper} {mo:bH} {a:Act} {σ σ':St} {Q:Exit->Act->World->Prop} {ops:Array Oper}
structure m8 (P:Program) (T:be):Prop where
 spec:xq P T
 aa4:FI P T
 aa5:FJ P T
 fn:∀f M,be.find T.pure f=some M->bD P f=true
theorem R.guard (r:R B E w0 N σ a w G) {j s:Nat} {b:Bool} (hj:(ops[j]?).bind (·.dst)=some s) (hb:σ.env s=.one (.c (.bool b))):yielded ops a.tmps j=some b:=by
 have h1:=r.env s
 rw[hb] at h1
 have h2:=h1.zE
 have h3:a.tmps[s]? =some (.bool b):=by
  rw[Array.getD_eq_getD_getElem?] at h2
  cases ht:a.tmps[s]? with
  |none=>rw[ht] at h2;simp[undef] at h2
  |some v=>rw[ht] at h2;simp at h2;rw[h2]
 unfold yielded
 rw[hj]
 simp[h3]
theorem aaU {w:World} {G:Gh} {h:Nat->Option ar}:RA w G h (.bj []) undef:=⟨[],rfl,rfl,fun j x u hx=>by simp at hx⟩
theorem aaV {u:Nat->Prop} (m:Nat) (hm:(ai.bj []).ref m):u m:=by
 obtain⟨c,hc,_⟩:=hm
 cases hc
theorem R.afm (r:R B E w0 N σ a w G) {j s:Nat} (hj:(ops[j]?).bind (·.dst)=some s) (hb:σ.env s=.bj []):yielded ops a.tmps j=none:=by
 have h1:=r.env s
 rw[hb] at h1
 obtain⟨vs,h2,h3,_⟩:=h1
 have:vs=[]:=List.length_eq_zero_iff.1 h3
 subst this
 rw[Array.getD_eq_getD_getElem?] at h2
 unfold yielded
 rw[hj]
 simp only[Option.bind_some]
 cases ht:a.tmps[s]? with
 |none=>rfl
 |some v=>
  rw[ht] at h2
  simp only[Option.getD_some] at h2
  subst h2
  rfl
theorem HA (r:R B E w0 N σ a w G) (hT:m8 P T) (hc:tu P N ops o mo=true) (hx:d8 T mo σ=some σ'):
  (Region.wanted o (yielded ops a.tmps)=true/\o.wp P a w (Nx B E w0 N σ') Q)\/(Region.wanted o (yielded ops a.tmps)=false/\Nx B E w0 N σ' (a.put o.dst undef) w):=by
 simp only[tu,Bool.and_eq_true,decide_eq_true_eq] at hc
 obtain⟨⟨⟨c1,c2⟩,c3⟩,c4⟩:=hc
 have hN:∀n,o.dst=some n->n<N:=fun n hn=>by rw[hn] at c2;simpa using c2
 unfold Vw at c3
 unfold d8 at hx
 split at c3
 ·rename_i g1 g2
  simp only[g2] at hx
  rw[<-c1] at hx
  exact .inl ⟨by simp[Region.wanted,g1],Wm r hT.spec hT.aa4 hT.aa5 hT.fn hN c4 hx⟩
 ·rename_i j jW s ab2 g1 g2
  simp only[Bool.and_eq_true,decide_eq_true_eq,beq_iff_eq] at c3
  obtain⟨k1,rfl⟩:=c3
  simp only[g2] at hx
  split at hx
  ·rename_i b hb
   have hy:=r.guard k1 hb
   split at hx
   ·rename_i Nu
    rw[<-c1] at hx
    exact .inl ⟨by simp[Region.wanted,g1,hy,Nu],Wm r hT.spec hT.aa4 hT.aa5 hT.fn hN c4 hx⟩
   ·rename_i Nu
    injection hx with hx
    subst hx
    refine .inr ⟨by simp[Region.wanted,g1,hy,Nu],G,?_⟩
    rw[<-c1]
    exact r.put (x:=.bj []) aaU aaV hN
  ·rename_i hb
   have hy:=r.afm k1 hb
   injection hx with hx
   subst hx
   refine .inr ⟨by simp[Region.wanted,g1,hy],G,?_⟩
   rw[<-c1]
   exact r.put (x:=.bj []) aaU aaV hN
  ·cases hx
 ·cases c3
theorem R.wf (r:R B E w0 N σ a w G):Wf σ:=⟨r.ru,r.hr.f8⟩
theorem aoy {K:Act->World->Prop} (h:o.wp P a w K (fun _ _ _=>False)):∃a' w',K a' w':=by
 unfold Oper.wp at h
 unfold Oper.upon at h
 split at h
 ·exact⟨_,_,h⟩
 ·exact⟨_,_,h⟩
 ·exact⟨_,_,h⟩
 ·obtain⟨e,w',fr,hR,_⟩:=h []
  cases e with
  |returned v=>exact⟨_,_,hR⟩
  |panicked c=>exact hR.elim
  |outgrown=>obtain⟨_,_,hf⟩:=hR;exact hf.elim
 ·obtain⟨v,w',hR,_⟩:=h default []
  exact⟨_,_,hR⟩
 ·exact h.elim
 ·exact h.elim
def FG (B:Nat) (E:Ex) (w0:World) (N:Nat) (σ:St):Prop:=∃a w G,R B E w0 N σ a w G
theorem aak (r:FG B E w0 N σ) (hT:m8 P T) (hc:tu P N ops o mo=true) (hx:d8 T mo σ=some σ'):FG B E w0 N σ':=by
 obtain⟨a,w,G,r⟩:=r
 rcases HA (Q:=fun _ _ _=>False) r hT hc hx with⟨_,h⟩|⟨_,G',h⟩
 ·obtain⟨a',w',G',h⟩:=aoy h
  exact⟨a',w',G',h⟩
 ·exact⟨_,_,G',h⟩
theorem UI (hT:m8 P T):∀{l:List Oper} {ms:List bH} {σ σ':St} {a:Act} {w:World} {G:Gh},n8 P N ops l ms=true->ni T ms σ=some σ'->R B E w0 N σ a w G->
  (∀a w G,R B E w0 N σ' a w G->Q .normal a w)->wpList P ops Q l a w
 |[],[],σ,σ',a,w,G,hc,hx,r,hQ=>by
  simp only[ni] at hx
  injection hx with hx
  subst hx
  exact hQ _ _ _ r
 |o::l,m::ms,σ,σ',a,w,G,hc,hx,r,hQ=>by
  simp only[n8,Bool.and_eq_true] at hc
  simp only[ni] at hx
  split at hx
  ·rename_i σ1 e1
   unfold wpList
   rcases HA (Q:=Q) r hT hc.1 e1 with⟨hw,h⟩|⟨hw,G',h⟩
   ·rw[if_pos hw]
    exact .inl (Oper.wp_mono (fun a' w' ⟨G',r'⟩=>UI hT hc.2 hx r' hQ) h)
   ·rw[if_neg (by simp[hw])]
    exact UI hT hc.2 hx h hQ
  ·cases hx
 |[],_::_,_,_,_,_,_,hc,_,_,_=>by simp[n8] at hc
 |_::_,[],_,_,_,_,_,hc,_,_,_=>by simp[n8] at hc
def pk (T:be) (ms:List bH):List Nat->St->Option St
 |[],σ=>some σ
 |i::L,σ=>match ms[i]? with
  |some o=>match d8 T o σ with
   |some σ1=>pk T ms L σ1
   |none=>none
  |none=>none
inductive uP (ops:Array Oper):Nat->Nat->Prop where
 |VZ (i:Nat) (o:Oper) (e:_):ops[i]? =some o->e∈o.after->Region.binds .any e=true->uP ops i e.on
 |step (i j:Nat) (o:Oper) (e:_):ops[i]? =some o->e∈o.after->Region.binds .any e=true->uP ops e.on j->uP ops i j
def Mh (o:Oper):List Nat:=(o.after.toList.filter (Region.binds .any)).map (·.on)
def Ed (cC:List Nat):List Nat->Nat
 |[]=>0
 |j::js=>(Nat.shiftLeft 1 j|||cC.getD j 0)|||Ed cC js
def Bg:List Oper->List Nat->List Nat
 |[],cC=>cC
 |o::os,cC=>Bg os (cC++[Ed cC (Mh o)])
theorem ajE {o:Oper} {j:Nat} (h:j∈Mh o):∃e∈o.after,Region.binds .any e=true/\e.on=j:=by
 unfold Mh at h
 simp only[List.mem_map,List.mem_filter] at h
 obtain⟨e,⟨h1,h2⟩,h3⟩:=h
 exact⟨e,Array.mem_toList_iff.1 h1,h2,h3⟩
theorem Zw {cC:List Nat}:∀{js:List Nat} {k:Nat},(Ed cC js).testBit k=true->∃j∈js,j=k\/(cC.getD j 0).testBit k=true
 |[],k,h=>by simp[Ed] at h
 |j::js,k,h=>by
  simp only[Ed,Nat.testBit_or,Bool.or_eq_true] at h
  rcases h with(h|h)|h
  ·refine⟨j,by simp,.inl ?_⟩
   have h':(1<<<j).testBit k=true:=h
   rw[Nat.one_shiftLeft,Nat.testBit_two_pow] at h'
   exact of_decide_eq_true h'
  ·exact⟨j,by simp,.inr h⟩
  ·obtain⟨j',h1,h2⟩:=Zw h
   exact⟨j',by simp[h1],h2⟩
theorem PS {ops:Array Oper}:∀(os:List Oper) (cC:List Nat) (pre:List Oper),ops.toList=pre++os->cC.length=pre.length->(∀i k,(cC.getD i 0).testBit k=true->uP ops i k)->
  ∀i k,((Bg os cC).getD i 0).testBit k=true->uP ops i k
 |[],cC,pre,_,_,h,i,k,hb=>h i k hb
 |o::os,cC,pre,he,hl,h,i,k,hb=>by
  refine PS os _ (pre++[o]) (by simp[he]) (by simp[hl]) (fun i k hb=>?_) i k hb
  by_cases bN:i<cC.length
  ·rw[List.getD_eq_getElem?_getD,List.getElem?_append_left bN,<-List.getD_eq_getElem?_getD] at hb
   exact h i k hb
  ·by_cases hi:i=cC.length
   ·subst hi
    rw[List.getD_eq_getElem?_getD,List.getElem?_append_right (Nat.le_refl _),Nat.sub_self] at hb
    simp only[List.getElem?_cons_zero,Option.getD_some] at hb
    have ho:ops[cC.length]? =some o:=by
     have:ops.toList[cC.length]? =some o:=by rw[he,hl,List.getElem?_append_right (Nat.le_refl _),Nat.sub_self];rfl
     simpa using this
    obtain⟨j,h1,h2⟩:=Zw hb
    obtain⟨e,e1,e2,rfl⟩:=ajE h1
    rcases h2 with rfl|h2
    ·exact .VZ _ o e ho e1 e2
    ·exact .step _ _ o e ho e1 e2 (h _ _ h2)
   ·rw[List.getD_eq_getElem?_getD,List.getElem?_eq_none (by simp;omega)] at hb
    simp at hb
def G0 (ops:List Oper) (ms:List bH):Bool:=
 (fun ks:List Nat=>(List.range ops.length).all fun i=>match ops[i]?,ms[i]? with
  |some o,some m=>(o.after.toList.all fun e=> !Region.binds .any e||decide (e.on<i))&&
   (List.range i).all fun j=>(ks.getD i 0).testBit j||(match ms[j]? with|some mj=>zN mj m|none=>false)
  |_,_=>false) (Bg ops [])
structure UP (ops:Array Oper) (ms:List bH):Prop where
 back:∀(i:Nat) (o:Oper),ops[i]? =some o->∀e∈o.after,Region.binds .any e=true->e.on<i
 pair:∀(i j:Nat) (o:Oper) (m:bH),ops[i]? =some o->ms[i]? =some m->j<i->uP ops i j\/∃mj,ms[j]? =some mj/\zN mj m=true
theorem acN {ms:List bH} (h:G0 ops.toList ms=true):UP ops ms:=by
  simp only[G0,List.all_eq_true,List.mem_range] at h
  have cq:∀(i:Nat) (o:Oper),ops[i]? =some o->∃m,ms[i]? =some m/\(o.after.toList.all fun e=> !Region.binds .any e||decide (e.on<i))=true/\
        ∀j,j<i->(((Bg ops.toList []).getD i 0).testBit j||(match ms[j]? with|some mj=>zN mj m|none=>false))=true:=by
    intro i o ho
    have hi:i<ops.toList.length:=by simpa using(Array.getElem?_eq_some_iff.1 ho).1
    have hi':=h i hi
    have fU:ops.toList[i]? =some o:=by simpa using ho
    rw[fU] at hi'
    cases hm:ms[i]? with
    |none=>rw[hm] at hi';cases hi'
    |some m=>
     rw[hm] at hi'
     simp only[Bool.and_eq_true,List.all_eq_true,List.mem_range] at hi'
     exact⟨m,rfl,by rw[List.all_eq_true];exact hi'.1,hi'.2⟩
  refine⟨fun i o ho e he hb=>?_,fun i j o m ho hm hj=>?_⟩
  · obtain⟨m,_,k1,_⟩:=cq i o ho
    have:=List.all_eq_true.1 k1 e (Array.mem_toList_iff.2 he)
    simp[hb] at this
    exact this
  · obtain⟨m',bz,_,k2⟩:=cq i o ho
    rw[hm] at bz
    injection bz with bz
    subst bz
    have:=k2 j hj
    rw[Bool.or_eq_true] at this
    rcases this with h1|h1
    · exact .inl (PS ops.toList [] [] rfl rfl (by intro i k hb;simp at hb) i j h1)
    · cases Ag:ms[j]? with
      |none=>rw[Ag] at h1;cases h1
      |some mj=>rw[Ag] at h1;exact .inr ⟨mj,rfl,h1⟩
def KQ (ops:Array Oper) (cB:Array Bool):Prop:=
 ∀(k:Nat) (o:Oper),ops[k]? =some o->cB.getD k true=true->∀e∈o.after,Region.binds .any e=true->cB.getD e.on true=true
theorem Vj {cB:Array Bool} (hc:KQ ops cB) {i j:Nat} (hb:uP ops i j):(∀o,ops[i]? =some o->∀e∈o.after,Region.binds .any e=true->cB.getD e.on true=true)->cB.getD j true=true:=by
 induction hb with
 |VZ i o e ho he hb=>exact fun h=>h o ho e he hb
 |step i j o e ho he hb _ ih=>exact fun h=>ih fun o' fU=>hc _ o' fU (h o ho e he hb)
theorem Wp (hT:m8 P T) {ms:List bH} (qI:∀(i:Nat) (m:bH),ms[i]? =some m->∃o,ops[i]? =some o/\tu P N ops o m=true) {i:Nat} {mi:bH} (hi:ms[i]? =some mi) {post:List Nat} {ii:St}:
  ∀{pre:List Nat} {σ:St},FG B E w0 N σ->pk T ms (pre++i::post) σ=some ii->(∀j∈pre,∃mj,ms[j]? =some mj/\zN mj mi=true)->
  ∃τ,d8 T mi σ=some τ/\pk T ms (pre++post) τ=some ii
 |[],σ,hr,hx,hc=>by
  simp only[List.nil_append,pk,hi] at hx
  split at hx
  ·rename_i σ1 e;exact⟨σ1,e,hx⟩
  ·cases hx
 |j::pre,σ,hr,hx,hc=>by
  obtain⟨mj,hj,mC⟩:=hc j (by simp)
  simp only[List.cons_append,pk,hj] at hx
  split at hx
  ·rename_i σ1 e1
   obtain⟨oj,_,fG⟩:=qI j mj hj
   obtain⟨nV,t1,t2⟩:=Wp hT qI hi (aak hr hT fG e1) hx (fun k hk=>hc k (by simp[hk]))
   obtain⟨a,w,G,r⟩:=hr
   obtain⟨τ,s1,s2⟩:=acZ r.wf mC e1 t1
   exact⟨τ,s1,by simp only[List.cons_append,pk,hj,s2];exact t2⟩
  ·cases hx
theorem aow (hT:m8 P T) {ms:List bH} (qI:∀(i:Nat) (m:bH),ms[i]? =some m->∃o,ops[i]? =some o/\tu P N ops o m=true) (hlen:ms.length=ops.size) (hd:UP ops ms) {ii:St}
  (hQ:∀a w G,R B E w0 N ii a w G->Q .normal a w):
  ∀(gO:Nat) (L:List Nat) (cB:Array Bool) (σ:St) (a:Act) (w:World) (G:Gh),R B E w0 N σ a w G->pk T ms L σ=some ii->L.Pairwise (·<·)->L.length<=gO->cB.size=ops.size->
   (∀j,j∈L↔cB.getD j true=false)->KQ ops cB->wpAny P .any ops Q gO cB a w:=by
 have first:∀(L:List Nat) (cB:Array Bool),L.Pairwise (·<·)->cB.size=ops.size->(∀j,j∈L↔cB.getD j true=false)->Region.ready .any ops cB=[]->L=[]:=by
  intro L cB hp hs hL hr
  cases L with
  |nil=>rfl
  |cons j L=>
   exfalso
   have hj:=(hL j).1 (by simp)
   have ka:j<ops.size:=by
    rw[<-hs]
    rcases Nat.lt_or_ge j cB.size with h|h
    ·exact h
    ·simp[Array.getElem?_eq_none h] at hj
   have ho:ops[j]? =some ops[j]:=Array.getElem?_eq_getElem ka
   have:j∈Region.ready .any ops cB:=by
    rw[mem_ready]
    refine⟨hj,_,ho,fun e he hb=>?_⟩
    have bN:=hd.back j _ ho e he hb
    have nt:e.on∉j::L:=by
     intro hm
     cases hm with
     |head=>omega
     |tail _ hm=>have:=(List.pairwise_cons.1 hp).1 _ hm;omega
    have aA:cB.getD e.on true≠false:=fun h=>nt ((hL e.on).2 h)
    have ou:e.on<cB.size:=by omega
    simp[ou] at aA⊢
    exact aA
   rw[hr] at this
   cases this
 intro gO
 induction gO with
 |zero=>
  intro L cB σ a w G r hx hp hl hs hL hC
  have qH:L=[]:=List.eq_nil_of_length_eq_zero (by omega)
  subst qH
  simp only[pk] at hx
  injection hx with hx
  subst hx
  refine⟨?_,hQ _ _ _ r⟩
  cases hr:Region.ready .any ops cB with
  |nil=>rfl
  |cons i l=>
   have hm:i∈Region.ready .any ops cB:=by rw[hr];simp
   have:=(hL i).2 (mem_ready.1 hm).1
   cases this
 |succ gO ih=>
  intro L cB σ a w G r hx hp hl hs hL hC
  refine⟨fun hr=>?_,fun i hi=>?_⟩
  ·have qH:=first L cB hp hs hL hr
   subst qH
   simp only[pk] at hx
   injection hx with hx
   subst hx
   exact hQ _ _ _ r
  ·obtain⟨NP,oi,jg,C5⟩:=mem_ready.1 hi
   have pA:i∈L:=(hL i).2 NP
   obtain⟨pre,post,rfl⟩:=List.append_of_mem pA
   have his:i<ops.size:=(Array.getElem?_eq_some_iff.1 jg).1
   have yc:ms[i]? =some ms[i]:=List.getElem?_eq_getElem (by omega)
   obtain⟨o',fU,NB⟩:=qI i _ yc
   rw[jg] at fU
   injection fU with fU
   subst fU
   have fw:=List.pairwise_append.1 hp
   obtain⟨τ,t1,t2⟩:=Wp (ops:=ops) hT qI yc ⟨a,w,G,r⟩ hx (fun j hj=>by
    have qL:j<i:=fw.2.2 j hj i (by simp)
    rcases hd.pair i j oi _ jg yc qL with Nq|h
    ·have h1:=Vj hC Nq (fun o ho e he hb=>by
      rw[jg] at ho
      injection ho with ho
      subst ho
      have h1:=C5 e he hb
      have bN:=hd.back i _ jg e he hb
      have ou:e.on<cB.size:=by omega
      simp[ou] at h1⊢
      exact h1)
     have h2:=(hL j).1 (by simp[hj])
     rw[h1] at h2
     cases h2
    ·exact h)
   have Dx:∀a' w',Nx B E w0 N τ a' w'->wpAny P .any ops Q gO (cB.setIfInBounds i true) a' w':=by
    rintro a' w' ⟨G',r'⟩
    refine ih (pre++post) _ τ a' w' G' r' t2 ?_ (by simp at hl⊢;omega) (by simpa using hs) (fun j=>?_) (fun k o ho hk e he hb=>?_)
    ·rw[List.pairwise_append]
     exact⟨fw.1,(List.pairwise_cons.1 fw.2.1).2,fun x hx y hy=>fw.2.2 x hx y (by simp[hy])⟩
    ·by_cases qL:j=i
     ·subst qL
      have ka:j<cB.size:=by omega
      simp only[List.mem_append]
      constructor
      ·rintro(h|h)
       ·have:=fw.2.2 j h j (by simp);omega
       ·have:=(List.pairwise_cons.1 fw.2.1).1 j h;omega
      ·intro h
       simp[ka] at h
     ·rw[getD_set_ne true (Ne.symm qL),<-hL j]
      simp[qL]
    ·have Dk:∀q,cB.getD q true=true->(cB.setIfInBounds i true).getD q true=true:=by
      intro q hq
      by_cases ox:q=i
      ·subst ox
       have:q<cB.size:=by omega
       simp[this]
      ·rw[getD_set_ne true (Ne.symm ox)];exact hq
     by_cases Dh:k=i
     ·subst Dh
      rw[jg] at ho
      injection ho with ho
      subst ho
      have h1:=C5 e he hb
      have bN:=hd.back k _ jg e he hb
      have ou:e.on<cB.size:=by omega
      refine Dk _ ?_
      simp[ou] at h1⊢
      exact h1
     ·rw[getD_set_ne true (Ne.symm Dh)] at hk
      exact Dk _ (hC k o ho hk e he hb)
   unfold wpOp
   rw[jg]
   simp only
   rcases HA (Q:=Q) r hT NB t1 with⟨hw,h⟩|⟨hw,h⟩
   ·rw[if_pos hw]
    exact .inl (Oper.wp_mono Dx h)
   ·rw[if_neg (by simp[hw])]
    exact Dx _ _ h
theorem Wo:∀(post pre:List bH) (σ:St),pk T (pre++post) (List.range' pre.length post.length) σ=ni T post σ
 |[],pre,σ=>by simp[pk,ni]
 |m::post,pre,σ=>by
  simp only[List.length_cons,List.range'_succ,pk,ni]
  rw[List.getElem?_append_right (Nat.le_refl _),Nat.sub_self]
  simp only[List.getElem?_cons_zero]
  cases d8 T m σ with
  |none=>rfl
  |some σ1=>
   have:=Wo post (pre++[m]) σ1
   simp only[List.length_append,List.length_cons,List.length_nil,List.append_assoc,List.singleton_append,Nat.zero_add] at this
   exact this
theorem LU:∀{l:List Oper} {ms:List bH},n8 P N ops l ms=true->ms.length=l.length/\∀(i:Nat) (m:bH),ms[i]? =some m->∃o,l[i]? =some o/\tu P N ops o m=true
 |[],[],_=>⟨rfl,by simp⟩
 |o::l,m::ms,hc=>by
  simp only[n8,Bool.and_eq_true] at hc
  obtain⟨i1,i2⟩:=LU hc.2
  refine⟨by simp[i1],fun i m' hm=>?_⟩
  cases i with
  |zero=>simp at hm;subst hm;exact⟨o,rfl,hc.1⟩
  |succ i=>exact i2 i m' (by simpa using hm)
 |[],_::_,hc=>by simp[n8] at hc
 |_::_,[],hc=>by simp[n8] at hc
theorem R.drawn (r:R B E w0 N σ a w G) (k:Nat):R B E w0 N σ a {w with drawn:=k} G:=by
 have hw:∀b,b<w.heap.size->({w with drawn:=k}:World).heap[b]? =w.heap[b]? :=fun _ _=>rfl
 exact r.step rfl (fun _ h=>h) (aV.world (fun b hb=>hw b (r.hr.fk b hb)) _) (r.hr.grow hw (Nat.le_refl _)) (r.fr.grow hw (Nat.le_refl _) rfl rfl rfl)
theorem amO (hT:m8 P T) (hm:P.follows .mixedOrders=true) {id:Nat} {qy:Bool} {ms:List bH} (hc:n8 P N ops ops.toList ms=true) (hd:qy=true->G0 ops.toList ms=true)
  (hx:ni T ms σ=some σ') (r:R B E w0 N σ a w G) (hQ:∀a w G,R B E w0 N σ' a w G->Q .normal a w):(Code.region id ops qy).wp P Q a w:=by
 cases qy with
 |false=>exact wp_region_list (UI hT hc hx r hQ)
 |true=>
  obtain⟨k1,k2⟩:=LU hc
  have hlen:ms.length=ops.size:=by simpa using k1
  refine wp_region_any hm (aow (B:=B) (E:=E) (w0:=w0) (N:=N) hT (fun i m h=>by
   obtain⟨o,h1,h2⟩:=k2 i m h;exact⟨o,by simpa using h1,h2⟩) hlen (acN (hd rfl)) hQ ops.size (List.range ops.size) _ σ a _ G (r.drawn _) ?_ ?_ (by simp) (by simp) (fun j=>?_) (fun k o ho hk=>?_))
  ·have:=Wo (T:=T) ms [] σ
   simp only[List.nil_append,List.length_nil,hlen,<-List.range_eq_range'] at this
   rw[this]
   exact hx
  ·exact List.pairwise_lt_range
  ·rw[List.mem_range]
   constructor
   ·intro h;simp[h]
   ·intro h
    rcases Nat.lt_or_ge j ops.size with h'|h'
    ·exact h'
    ·simp[Array.getElem?_eq_none (show(Array.replicate ops.size false).size<=j by simpa using h')] at h
  ·exfalso
   have NU:k<ops.size:=(Array.getElem?_eq_some_iff.1 ho).1
   simp[NU] at hk
end
end Go.Am
