/- Am21: regions. No condition. -/
import Derived.Test.YtbgmbplglejidaaAm20
set_option linter.unusedVariables false
namespace Go.Am
def YA (ops:Array Oper) (o:Oper) (mo:bV):Bool:=
 match o.guard,mo.guard with
 |none,none=>true
 |some (j,lz),some (s,aeP)=>decide ((ops[j]?).bind (·.dst)=some s)&&(lz==aeP)
 |_,_=>false
def uD (P:Program) (N:Nat) (ops:Array Oper) (o:Oper) (mo:bV):Bool:=
 decide (o.dst=mo.dst)&&(match o.dst with|some n=>decide (n<N)|none=>true)&&YA ops o mo&&d7 P o mo.op
def pD (P:Program) (N:Nat) (ops:Array Oper):List Oper->List bV->Bool
 |[],[]=>true
 |o::os,m::ms=>uD P N ops o m&&pD P N ops os ms
 |_,_=>false
section
variable {B:Nat} {E:Ex} {w0 w w':World} {G G':Gh} {N:Nat}
variable {P:Program} {T:aT} {o:Oper} {mo:bV} {a:Act} {σ σ':St} {Q:Exit->Act->World->Prop} {ops:Array Oper}
structure oG (P:Program) (T:aT):Prop where
 spec:yr P T
 adW:HE P T
 adX:Bo P T
 adY:Ec P T
 fn:∀f M,aT.find T.pure f=some M->bH P f=true
theorem R.guard (r:R B E w0 N σ a w G) {j s:Nat} {b:Bool} (hj:(ops[j]?).bind (·.dst)=some s) (hb:σ.env s=.one (.c (.bool b))):yielded ops a.tmps j=some b:=by
 have h1:=r.env s
 rw[hb] at h1
 have h2:=h1.Bx
 have h3:a.tmps[s]? =some (.bool b):=by
  rw[Array.getD_eq_getD_getElem?] at h2
  cases ht:a.tmps[s]? with
  |none=>rw[ht] at h2;simp[undef] at h2
  |some v=>rw[ht] at h2;simp at h2;rw[h2]
 unfold yielded
 rw[hj]
 simp[h3]
theorem adF {w:World} {G:Gh} {h:Nat->Option ar}:RA w G h (.br []) undef:=⟨[],rfl,rfl,fun j x u hx=>by simp at hx⟩
theorem adG {u:Nat->Prop} (m:Nat) (hm:(ak.br []).ref m):u m:=by
 obtain⟨c,hc,_⟩:=hm
 cases hc
theorem R.aiG (r:R B E w0 N σ a w G) {j s:Nat} (hj:(ops[j]?).bind (·.dst)=some s) (hb:σ.env s=.br []):yielded ops a.tmps j=none:=by
 have h1:=r.env s
 rw[hb] at h1
 obtain⟨vs,h2,h3,_⟩:=h1
 have:vs=[]:=List.length_eq_zero_iff.1 h3
 subst this
 rw[Array.getD_eq_getD_getElem?] at h2
 unfold yielded
 rw[hj]
 simp only[Option.bind_some]
 cases ht:a.tmps[s]? with
 |none=>rfl
 |some v=>
  rw[ht] at h2
  simp only[Option.getD_some] at h2
  subst h2
  rfl
theorem JD (r:R B E w0 N σ a w G) (hT:oG P T) (hc:uD P N ops o mo=true) (hx:ed T mo σ=some σ'):
  (Region.wanted o (yielded ops a.tmps)=true/\o.wp P a w (Nx B E w0 N σ') Q)\/(Region.wanted o (yielded ops a.tmps)=false/\Nx B E w0 N σ' (a.put o.dst undef) w):=by
 simp only[uD,Bool.and_eq_true,decide_eq_true_eq] at hc
 obtain⟨⟨⟨c1,c2⟩,c3⟩,c4⟩:=hc
 have hN:∀n,o.dst=some n->n<N:=fun n hn=>by rw[hn] at c2;simpa using c2
 unfold YA at c3
 unfold ed at hx
 split at c3
 ·rename_i g1 g2
  simp only[g2] at hx
  rw[<-c1] at hx
  exact .inl ⟨by simp[Region.wanted,g1],Zw r hT.spec hT.adW hT.adX hT.adY hT.fn hN c4 hx⟩
 ·rename_i j lz s aeP g1 g2
  simp only[Bool.and_eq_true,decide_eq_true_eq,beq_iff_eq] at c3
  obtain⟨k1,rfl⟩:=c3
  simp only[g2] at hx
  split at hx
  ·rename_i b hb
   have hy:=r.guard k1 hb
   split at hx
   ·rename_i Pr
    rw[<-c1] at hx
    exact .inl ⟨by simp[Region.wanted,g1,hy,Pr],Zw r hT.spec hT.adW hT.adX hT.adY hT.fn hN c4 hx⟩
   ·rename_i Pr
    injection hx with hx
    subst hx
    refine .inr ⟨by simp[Region.wanted,g1,hy,Pr],G,?_⟩
    rw[<-c1]
    exact r.put (x:=.br []) adF adG hN
  ·rename_i hb
   have hy:=r.aiG k1 hb
   injection hx with hx
   subst hx
   refine .inr ⟨by simp[Region.wanted,g1,hy],G,?_⟩
   rw[<-c1]
   exact r.put (x:=.br []) adF adG hN
  ·cases hx
 ·cases c3
theorem R.wf (r:R B E w0 N σ a w G):Wf σ:=⟨r.sP,r.hr.g8⟩
theorem ath {K:Act->World->Prop} (h:o.wp P a w K (fun _ _ _=>False)):∃a' w',K a' w':=by
 unfold Oper.wp at h
 unfold Oper.upon at h
 split at h
 ·exact⟨_,_,h⟩
 ·exact⟨_,_,h⟩
 ·exact⟨_,_,h⟩
 ·obtain⟨e,w',fr,hR,_⟩:=h []
  cases e with
  |returned v=>exact⟨_,_,hR⟩
  |panicked c=>exact hR.elim
  |outgrown=>obtain⟨_,_,hf⟩:=hR;exact hf.elim
 ·obtain⟨v,w',hR,_⟩:=h default []
  exact⟨_,_,hR⟩
 ·exact h.elim
 ·exact h.elim
def HC (B:Nat) (E:Ex) (w0:World) (N:Nat) (σ:St):Prop:=∃a w G,R B E w0 N σ a w G
theorem acS (r:HC B E w0 N σ) (hT:oG P T) (hc:uD P N ops o mo=true) (hx:ed T mo σ=some σ'):HC B E w0 N σ':=by
 obtain⟨a,w,G,r⟩:=r
 rcases JD (Q:=fun _ _ _=>False) r hT hc hx with⟨_,h⟩|⟨_,G',h⟩
 ·obtain⟨a',w',G',h⟩:=ath h
  exact⟨a',w',G',h⟩
 ·exact⟨_,_,G',h⟩
theorem Xm (hT:oG P T):∀{l:List Oper} {ms:List bV} {σ σ':St} {a:Act} {w:World} {G:Gh},pD P N ops l ms=true->kO T ms σ=some σ'->R B E w0 N σ a w G->
  (∀a w G,R B E w0 N σ' a w G->Q .normal a w)->wpList P ops Q l a w
 |[],[],σ,σ',a,w,G,hc,hx,r,hQ=>by
  simp only[kO] at hx
  injection hx with hx
  subst hx
  exact hQ _ _ _ r
 |o::l,m::ms,σ,σ',a,w,G,hc,hx,r,hQ=>by
  simp only[pD,Bool.and_eq_true] at hc
  simp only[kO] at hx
  split at hx
  ·rename_i σ1 e1
   unfold wpList
   rcases JD (Q:=Q) r hT hc.1 e1 with⟨hw,h⟩|⟨hw,G',h⟩
   ·rw[if_pos hw]
    exact .inl (Oper.wp_mono (fun a' w' ⟨G',r'⟩=>Xm hT hc.2 hx r' hQ) h)
   ·rw[if_neg (by simp[hw])]
    exact Xm hT hc.2 hx h hQ
  ·cases hx
 |[],_::_,_,_,_,_,_,hc,_,_,_=>by simp[pD] at hc
 |_::_,[],_,_,_,_,_,hc,_,_,_=>by simp[pD] at hc
def qL (T:aT) (ms:List bV):List Nat->St->Option St
 |[],σ=>some σ
 |i::L,σ=>match ms[i]? with
  |some o=>match ed T o σ with
   |some σ1=>qL T ms L σ1
   |none=>none
  |none=>none
inductive vT (ops:Array Oper):Nat->Nat->Prop where
 |Y8 (i:Nat) (o:Oper) (e:_):ops[i]? =some o->e∈o.after->Region.binds .any e=true->vT ops i e.on
 |step (i j:Nat) (o:Oper) (e:_):ops[i]? =some o->e∈o.after->Region.binds .any e=true->vT ops e.on j->vT ops i j
def NW (o:Oper):List Nat:=(o.after.toList.filter (Region.binds .any)).map (·.on)
def FM (c6:List Nat):List Nat->Nat
 |[]=>0
 |j::js=>(Nat.shiftLeft 1 j|||c6.getD j 0)|||FM c6 js
def CT:List Oper->List Nat->List Nat
 |[],c6=>c6
 |o::os,c6=>CT os (c6++[FM c6 (NW o)])
theorem amM {o:Oper} {j:Nat} (h:j∈NW o):∃e∈o.after,Region.binds .any e=true/\e.on=j:=by
 unfold NW at h
 simp only[List.mem_map,List.mem_filter] at h
 obtain⟨e,⟨h1,h2⟩,h3⟩:=h
 exact⟨e,Array.mem_toList_iff.1 h1,h2,h3⟩
theorem abS {c6:List Nat}:∀{js:List Nat} {k:Nat},(FM c6 js).testBit k=true->∃j∈js,j=k\/(c6.getD j 0).testBit k=true
 |[],k,h=>by simp[FM] at h
 |j::js,k,h=>by
  simp only[FM,Nat.testBit_or,Bool.or_eq_true] at h
  rcases h with(h|h)|h
  ·refine⟨j,by simp,.inl ?_⟩
   have h':(1<<<j).testBit k=true:=h
   rw[Nat.one_shiftLeft,Nat.testBit_two_pow] at h'
   exact of_decide_eq_true h'
  ·exact⟨j,by simp,.inr h⟩
  ·obtain⟨j',h1,h2⟩:=abS h
   exact⟨j',by simp[h1],h2⟩
theorem RG {ops:Array Oper}:∀(os:List Oper) (c6:List Nat) (pre:List Oper),ops.toList=pre++os->c6.length=pre.length->(∀i k,(c6.getD i 0).testBit k=true->vT ops i k)->
  ∀i k,((CT os c6).getD i 0).testBit k=true->vT ops i k
 |[],c6,pre,_,_,h,i,k,hb=>h i k hb
 |o::os,c6,pre,he,hl,h,i,k,hb=>by
  refine RG os _ (pre++[o]) (by simp[he]) (by simp[hl]) (fun i k hb=>?_) i k hb
  by_cases bK:i<c6.length
  ·rw[List.getD_eq_getElem?_getD,List.getElem?_append_left bK,<-List.getD_eq_getElem?_getD] at hb
   exact h i k hb
  ·by_cases hi:i=c6.length
   ·subst hi
    rw[List.getD_eq_getElem?_getD,List.getElem?_append_right (Nat.le_refl _),Nat.sub_self] at hb
    simp only[List.getElem?_cons_zero,Option.getD_some] at hb
    have ho:ops[c6.length]? =some o:=by
     have:ops.toList[c6.length]? =some o:=by rw[he,hl,List.getElem?_append_right (Nat.le_refl _),Nat.sub_self];rfl
     simpa using this
    obtain⟨j,h1,h2⟩:=abS hb
    obtain⟨e,e1,e2,rfl⟩:=amM h1
    rcases h2 with rfl|h2
    ·exact .Y8 _ o e ho e1 e2
    ·exact .step _ _ o e ho e1 e2 (h _ _ h2)
   ·rw[List.getD_eq_getElem?_getD,List.getElem?_eq_none (by simp;omega)] at hb
    simp at hb
def Jb (ops:List Oper) (ms:List bV):Bool:=
 (fun ks:List Nat=>(List.range ops.length).all fun i=>match ops[i]?,ms[i]? with
  |some o,some m=>(o.after.toList.all fun e=> !Region.binds .any e||decide (e.on<i))&&
   (List.range i).all fun j=>(ks.getD i 0).testBit j||(match ms[j]? with|some mj=>BJ mj m|none=>false)
  |_,_=>false) (CT ops [])
structure Xt (ops:Array Oper) (ms:List bV):Prop where
 back:∀(i:Nat) (o:Oper),ops[i]? =some o->∀e∈o.after,Region.binds .any e=true->e.on<i
 pair:∀(i j:Nat) (o:Oper) (m:bV),ops[i]? =some o->ms[i]? =some m->j<i->vT ops i j\/∃mj,ms[j]? =some mj/\BJ mj m=true
theorem afQ {ms:List bV} (h:Jb ops.toList ms=true):Xt ops ms:=by
  simp only[Jb,List.all_eq_true,List.mem_range] at h
  have bZ:∀(i:Nat) (o:Oper),ops[i]? =some o->∃m,ms[i]? =some m/\(o.after.toList.all fun e=> !Region.binds .any e||decide (e.on<i))=true/\
        ∀j,j<i->(((CT ops.toList []).getD i 0).testBit j||(match ms[j]? with|some mj=>BJ mj m|none=>false))=true:=by
    intro i o ho
    have hi:i<ops.toList.length:=by simpa using(Array.getElem?_eq_some_iff.1 ho).1
    have hi':=h i hi
    have gU:ops.toList[i]? =some o:=by simpa using ho
    rw[gU] at hi'
    cases hm:ms[i]? with
    |none=>rw[hm] at hi';cases hi'
    |some m=>
     rw[hm] at hi'
     simp only[Bool.and_eq_true,List.all_eq_true,List.mem_range] at hi'
     exact⟨m,rfl,by rw[List.all_eq_true];exact hi'.1,hi'.2⟩
  refine⟨fun i o ho e he hb=>?_,fun i j o m ho hm hj=>?_⟩
  · obtain⟨m,_,k1,_⟩:=bZ i o ho
    have:=List.all_eq_true.1 k1 e (Array.mem_toList_iff.2 he)
    simp[hb] at this
    exact this
  · obtain⟨m',bO,_,k2⟩:=bZ i o ho
    rw[hm] at bO
    injection bO with bO
    subst bO
    have:=k2 j hj
    rw[Bool.or_eq_true] at this
    rcases this with h1|h1
    · exact .inl (RG ops.toList [] [] rfl rfl (by intro i k hb;simp at hb) i j h1)
    · cases Cb:ms[j]? with
      |none=>rw[Cb] at h1;cases h1
      |some mj=>rw[Cb] at h1;exact .inr ⟨mj,rfl,h1⟩
def Mh (ops:Array Oper) (de:Array Bool):Prop:=
 ∀(k:Nat) (o:Oper),ops[k]? =some o->de.getD k true=true->∀e∈o.after,Region.binds .any e=true->de.getD e.on true=true
theorem Yd {de:Array Bool} (hc:Mh ops de) {i j:Nat} (hb:vT ops i j):(∀o,ops[i]? =some o->∀e∈o.after,Region.binds .any e=true->de.getD e.on true=true)->de.getD j true=true:=by
 induction hb with
 |Y8 i o e ho he hb=>exact fun h=>h o ho e he hb
 |step i j o e ho he hb _ ih=>exact fun h=>ih fun o' gU=>hc _ o' gU (h o ho e he hb)
theorem Zz (hT:oG P T) {ms:List bV} (r8:∀(i:Nat) (m:bV),ms[i]? =some m->∃o,ops[i]? =some o/\uD P N ops o m=true) {i:Nat} {mi:bV} (hi:ms[i]? =some mi) {post:List Nat} {jt:St}:
  ∀{pre:List Nat} {σ:St},HC B E w0 N σ->qL T ms (pre++i::post) σ=some jt->(∀j∈pre,∃mj,ms[j]? =some mj/\BJ mj mi=true)->
  ∃τ,ed T mi σ=some τ/\qL T ms (pre++post) τ=some jt
 |[],σ,hr,hx,hc=>by
  simp only[List.nil_append,qL,hi] at hx
  split at hx
  ·rename_i σ1 e;exact⟨σ1,e,hx⟩
  ·cases hx
 |j::pre,σ,hr,hx,hc=>by
  obtain⟨mj,hj,nQ⟩:=hc j (by simp)
  simp only[List.cons_append,qL,hj] at hx
  split at hx
  ·rename_i σ1 e1
   obtain⟨oj,_,gG⟩:=r8 j mj hj
   obtain⟨pw,t1,t2⟩:=Zz hT r8 hi (acS hr hT gG e1) hx (fun k hk=>hc k (by simp[hk]))
   obtain⟨a,w,G,r⟩:=hr
   obtain⟨τ,s1,s2⟩:=af3 r.wf nQ e1 t1
   exact⟨τ,s1,by simp only[List.cons_append,qL,hj,s2];exact t2⟩
  ·cases hx
theorem atf (hT:oG P T) {ms:List bV} (r8:∀(i:Nat) (m:bV),ms[i]? =some m->∃o,ops[i]? =some o/\uD P N ops o m=true) (hlen:ms.length=ops.size) (hd:Xt ops ms) {jt:St}
  (hQ:∀a w G,R B E w0 N jt a w G->Q .normal a w):
  ∀(iM:Nat) (L:List Nat) (de:Array Bool) (σ:St) (a:Act) (w:World) (G:Gh),R B E w0 N σ a w G->qL T ms L σ=some jt->L.Pairwise (·<·)->L.length<=iM->de.size=ops.size->
   (∀j,j∈L↔de.getD j true=false)->Mh ops de->wpAny P .any ops Q iM de a w:=by
 have first:∀(L:List Nat) (de:Array Bool),L.Pairwise (·<·)->de.size=ops.size->(∀j,j∈L↔de.getD j true=false)->Region.ready .any ops de=[]->L=[]:=by
  intro L de hp hs hL hr
  cases L with
  |nil=>rfl
  |cons j L=>
   exfalso
   have hj:=(hL j).1 (by simp)
   have lJ:j<ops.size:=by
    rw[<-hs]
    rcases Nat.lt_or_ge j de.size with h|h
    ·exact h
    ·simp[Array.getElem?_eq_none h] at hj
   have ho:ops[j]? =some ops[j]:=Array.getElem?_eq_getElem lJ
   have:j∈Region.ready .any ops de:=by
    rw[mem_ready]
    refine⟨hj,_,ho,fun e he hb=>?_⟩
    have bK:=hd.back j _ ho e he hb
    have oP:e.on∉j::L:=by
     intro hm
     cases hm with
     |head=>omega
     |tail _ hm=>have:=(List.pairwise_cons.1 hp).1 _ hm;omega
    have aD:de.getD e.on true≠false:=fun h=>oP ((hL e.on).2 h)
    have pQ:e.on<de.size:=by omega
    simp[pQ] at aD⊢
    exact aD
   rw[hr] at this
   cases this
 intro iM
 induction iM with
 |zero=>
  intro L de σ a w G r hx hp hl hs hL hC
  have r7:L=[]:=List.eq_nil_of_length_eq_zero (by omega)
  subst r7
  simp only[qL] at hx
  injection hx with hx
  subst hx
  refine⟨?_,hQ _ _ _ r⟩
  cases hr:Region.ready .any ops de with
  |nil=>rfl
  |cons i l=>
   have hm:i∈Region.ready .any ops de:=by rw[hr];simp
   have:=(hL i).2 (mem_ready.1 hm).1
   cases this
 |succ iM ih=>
  intro L de σ a w G r hx hp hl hs hL hC
  refine⟨fun hr=>?_,fun i hi=>?_⟩
  ·have r7:=first L de hp hs hL hr
   subst r7
   simp only[qL] at hx
   injection hx with hx
   subst hx
   exact hQ _ _ _ r
  ·obtain⟨PN,oi,kv,E0⟩:=mem_ready.1 hi
   have qU:i∈L:=(hL i).2 PN
   obtain⟨pre,post,rfl⟩:=List.append_of_mem qU
   have his:i<ops.size:=(Array.getElem?_eq_some_iff.1 kv).1
   have zm:ms[i]? =some ms[i]:=List.getElem?_eq_getElem (by omega)
   obtain⟨o',gU,Py⟩:=r8 i _ zm
   rw[kv] at gU
   injection gU with gU
   subst gU
   have fm:=List.pairwise_append.1 hp
   obtain⟨τ,t1,t2⟩:=Zz (ops:=ops) hT r8 zm ⟨a,w,G,r⟩ hx (fun j hj=>by
    have sd:j<i:=fm.2.2 j hj i (by simp)
    rcases hd.pair i j oi _ kv zm sd with Pn|h
    ·have h1:=Yd hC Pn (fun o ho e he hb=>by
      rw[kv] at ho
      injection ho with ho
      subst ho
      have h1:=E0 e he hb
      have bK:=hd.back i _ kv e he hb
      have pQ:e.on<de.size:=by omega
      simp[pQ] at h1⊢
      exact h1)
     have h2:=(hL j).1 (by simp[hj])
     rw[h1] at h2
     cases h2
    ·exact h)
   have zt:∀a' w',Nx B E w0 N τ a' w'->wpAny P .any ops Q iM (de.setIfInBounds i true) a' w':=by
    rintro a' w' ⟨G',r'⟩
    refine ih (pre++post) _ τ a' w' G' r' t2 ?_ (by simp at hl⊢;omega) (by simpa using hs) (fun j=>?_) (fun k o ho hk e he hb=>?_)
    ·rw[List.pairwise_append]
     exact⟨fm.1,(List.pairwise_cons.1 fm.2.1).2,fun x hx y hy=>fm.2.2 x hx y (by simp[hy])⟩
    ·by_cases sd:j=i
     ·subst sd
      have lJ:j<de.size:=by omega
      simp only[List.mem_append]
      constructor
      ·rintro(h|h)
       ·have:=fm.2.2 j h j (by simp);omega
       ·have:=(List.pairwise_cons.1 fm.2.1).1 j h;omega
      ·intro h
       simp[lJ] at h
     ·rw[getD_set_ne true (Ne.symm sd),<-hL j]
      simp[sd]
    ·have Fg:∀q,de.getD q true=true->(de.setIfInBounds i true).getD q true=true:=by
      intro q hq
      by_cases nc:q=i
      ·subst nc
       have:q<de.size:=by omega
       simp[this]
      ·rw[getD_set_ne true (Ne.symm nc)];exact hq
     by_cases zh:k=i
     ·subst zh
      rw[kv] at ho
      injection ho with ho
      subst ho
      have h1:=E0 e he hb
      have bK:=hd.back k _ kv e he hb
      have pQ:e.on<de.size:=by omega
      refine Fg _ ?_
      simp[pQ] at h1⊢
      exact h1
     ·rw[getD_set_ne true (Ne.symm zh)] at hk
      exact Fg _ (hC k o ho hk e he hb)
   unfold wpOp
   rw[kv]
   simp only
   rcases JD (Q:=Q) r hT Py t1 with⟨hw,h⟩|⟨hw,h⟩
   ·rw[if_pos hw]
    exact .inl (Oper.wp_mono zt h)
   ·rw[if_neg (by simp[hw])]
    exact zt _ _ h
theorem Zy:∀(post pre:List bV) (σ:St),qL T (pre++post) (List.range' pre.length post.length) σ=kO T post σ
 |[],pre,σ=>by simp[qL,kO]
 |m::post,pre,σ=>by
  simp only[List.length_cons,List.range'_succ,qL,kO]
  rw[List.getElem?_append_right (Nat.le_refl _),Nat.sub_self]
  simp only[List.getElem?_cons_zero]
  cases ed T m σ with
  |none=>rfl
  |some σ1=>
   have:=Zy post (pre++[m]) σ1
   simp only[List.length_append,List.length_cons,List.length_nil,List.append_assoc,List.singleton_append,Nat.zero_add] at this
   exact this
theorem NC:∀{l:List Oper} {ms:List bV},pD P N ops l ms=true->ms.length=l.length/\∀(i:Nat) (m:bV),ms[i]? =some m->∃o,l[i]? =some o/\uD P N ops o m=true
 |[],[],_=>⟨rfl,by simp⟩
 |o::l,m::ms,hc=>by
  simp only[pD,Bool.and_eq_true] at hc
  obtain⟨i1,i2⟩:=NC hc.2
  refine⟨by simp[i1],fun i m' hm=>?_⟩
  cases i with
  |zero=>simp at hm;subst hm;exact⟨o,rfl,hc.1⟩
  |succ i=>exact i2 i m' (by simpa using hm)
 |[],_::_,hc=>by simp[pD] at hc
 |_::_,[],hc=>by simp[pD] at hc
theorem R.drawn (r:R B E w0 N σ a w G) (k:Nat):R B E w0 N σ a {w with drawn:=k} G:=by
 have hw:∀b,b<w.heap.size->({w with drawn:=k}:World).heap[b]? =w.heap[b]? :=fun _ _=>rfl
 exact r.step rfl (fun _ h=>h) (bf.world (fun b hb=>hw b (r.hr.gi b hb)) _) (r.hr.grow hw (Nat.le_refl _)) (r.fr.grow hw (Nat.le_refl _) rfl rfl rfl)
theorem aqP (hT:oG P T) (hm:P.follows .mixedOrders=true) {id:Nat} {rU:Bool} {ms:List bV} (hc:pD P N ops ops.toList ms=true) (hd:rU=true->Jb ops.toList ms=true)
  (hx:kO T ms σ=some σ') (r:R B E w0 N σ a w G) (hQ:∀a w G,R B E w0 N σ' a w G->Q .normal a w):(Code.region id ops rU).wp P Q a w:=by
 cases rU with
 |false=>exact wp_region_list (Xm hT hc hx r hQ)
 |true=>
  obtain⟨k1,k2⟩:=NC hc
  have hlen:ms.length=ops.size:=by simpa using k1
  refine wp_region_any hm (atf (B:=B) (E:=E) (w0:=w0) (N:=N) hT (fun i m h=>by
   obtain⟨o,h1,h2⟩:=k2 i m h;exact⟨o,by simpa using h1,h2⟩) hlen (afQ (hd rfl)) hQ ops.size (List.range ops.size) _ σ a _ G (r.drawn _) ?_ ?_ (by simp) (by simp) (fun j=>?_) (fun k o ho hk=>?_))
  ·have:=Zy (T:=T) ms [] σ
   simp only[List.nil_append,List.length_nil,hlen,<-List.range_eq_range'] at this
   rw[this]
   exact hx
  ·exact List.pairwise_lt_range
  ·rw[List.mem_range]
   constructor
   ·intro h;simp[h]
   ·intro h
    rcases Nat.lt_or_ge j ops.size with h'|h'
    ·exact h'
    ·simp[Array.getElem?_eq_none (show(Array.replicate ops.size false).size<=j by simpa using h')] at h
  ·exfalso
   have PS:k<ops.size:=(Array.getElem?_eq_some_iff.1 ho).1
   simp[PS] at hk
end
end Go.Am
