/- Am21: regions. No condition. -/
import Derived.Test.YtifmggmhdcdgbaaAm20
set_option linter.unusedVariables false
namespace Go.Am
def Ug (ops:Array Oper) (o:Oper) (mo:bO):Bool:=
 match o.guard,mo.guard with
 |none,none=>true
 |some (j,kK),some (s,aam)=>decide ((ops[j]?).bind (·.dst)=some s)&&(kK==aam)
 |_,_=>false
def tw (P:Program) (N:Nat) (ops:Array Oper) (o:Oper) (mo:bO):Bool:=
 decide (o.dst=mo.dst)&&(match o.dst with|some n=>decide (n<N)|none=>true)&&Ug ops o mo&&eM P o mo.op
def oP (P:Program) (N:Nat) (ops:Array Oper):List Oper->List bO->Bool
 |[],[]=>true
 |o::os,m::ms=>tw P N ops o m&&oP P N ops os ms
 |_,_=>false
section
variable {B:Nat} {E:Ex} {w0 w w':World} {G G':Gh} {N:Nat}
variable {P:Program} {T:bh} {o:Oper} {mo:bO} {a:Act} {σ σ':St} {Q:Exit->Act->World->Prop} {ops:Array Oper}
structure nN (P:Program) (T:bh):Prop where
 spec:xb P T
 Zu:EY P T
 Zv:EZ P T
 fn:∀f M,bh.find T.pure f=some M->bF P f=true
theorem R.guard (r:R B E w0 N σ a w G) {j s:Nat} {b:Bool} (hj:(ops[j]?).bind (·.dst)=some s) (hb:σ.env s=.one (.c (.bool b))):yielded ops a.tmps j=some b:=by
 have h1:=r.env s
 rw[hb] at h1
 have h2:=h1.zm
 have h3:a.tmps[s]? =some (.bool b):=by
  rw[Array.getD_eq_getD_getElem?] at h2
  cases ht:a.tmps[s]? with
  |none=>rw[ht] at h2;simp[undef] at h2
  |some v=>rw[ht] at h2;simp at h2;rw[h2]
 unfold yielded
 rw[hj]
 simp[h3]
theorem Zh {w:World} {G:Gh} {h:Nat->Option aq}:RA w G h (.bk []) undef:=⟨[],rfl,rfl,fun j x u hx=>by simp at hx⟩
theorem Zi {u:Nat->Prop} (m:Nat) (hm:(aj.bk []).ref m):u m:=by
 obtain⟨c,hc,_⟩:=hm
 cases hc
theorem R.adG (r:R B E w0 N σ a w G) {j s:Nat} (hj:(ops[j]?).bind (·.dst)=some s) (hb:σ.env s=.bk []):yielded ops a.tmps j=none:=by
 have h1:=r.env s
 rw[hb] at h1
 obtain⟨vs,h2,h3,_⟩:=h1
 have:vs=[]:=List.length_eq_zero_iff.1 h3
 subst this
 rw[Array.getD_eq_getD_getElem?] at h2
 unfold yielded
 rw[hj]
 simp only[Option.bind_some]
 cases ht:a.tmps[s]? with
 |none=>rfl
 |some v=>
  rw[ht] at h2
  simp only[Option.getD_some] at h2
  subst h2
  rfl
theorem GR (r:R B E w0 N σ a w G) (hT:nN P T) (hc:tw P N ops o mo=true) (hx:eN T mo σ=some σ'):
  (Region.wanted o (yielded ops a.tmps)=true/\o.wp P a w (Nx B E w0 N σ') Q)\/(Region.wanted o (yielded ops a.tmps)=false/\Nx B E w0 N σ' (a.put o.dst undef) w):=by
 simp only[tw,Bool.and_eq_true,decide_eq_true_eq] at hc
 obtain⟨⟨⟨c1,c2⟩,c3⟩,c4⟩:=hc
 have hN:∀n,o.dst=some n->n<N:=fun n hn=>by rw[hn] at c2;simpa using c2
 unfold Ug at c3
 unfold eN at hx
 split at c3
 ·rename_i g1 g2
  simp only[g2] at hx
  rw[<-c1] at hx
  exact .inl ⟨by simp[Region.wanted,g1],U6 r hT.spec hT.Zu hT.Zv hT.fn hN c4 hx⟩
 ·rename_i j kK s aam g1 g2
  simp only[Bool.and_eq_true,decide_eq_true_eq,beq_iff_eq] at c3
  obtain⟨k1,rfl⟩:=c3
  simp only[g2] at hx
  split at hx
  ·rename_i b hb
   have hy:=r.guard k1 hb
   split at hx
   ·rename_i Mo
    rw[<-c1] at hx
    exact .inl ⟨by simp[Region.wanted,g1,hy,Mo],U6 r hT.spec hT.Zu hT.Zv hT.fn hN c4 hx⟩
   ·rename_i Mo
    injection hx with hx
    subst hx
    refine .inr ⟨by simp[Region.wanted,g1,hy,Mo],G,?_⟩
    rw[<-c1]
    exact r.put (x:=.bk []) Zh Zi hN
  ·rename_i hb
   have hy:=r.adG k1 hb
   injection hx with hx
   subst hx
   refine .inr ⟨by simp[Region.wanted,g1,hy],G,?_⟩
   rw[<-c1]
   exact r.put (x:=.bk []) Zh Zi hN
  ·cases hx
 ·cases c3
theorem R.wf (r:R B E w0 N σ a w G):Wf σ:=⟨r.rF,r.hr.gT⟩
theorem alp {K:Act->World->Prop} (h:o.wp P a w K (fun _ _ _=>False)):∃a' w',K a' w':=by
 unfold Oper.wp at h
 unfold Oper.upon at h
 split at h
 ·exact⟨_,_,h⟩
 ·exact⟨_,_,h⟩
 ·exact⟨_,_,h⟩
 ·obtain⟨e,w',fr,hR,_⟩:=h []
  cases e with
  |returned v=>exact⟨_,_,hR⟩
  |panicked c=>exact hR.elim
  |outgrown=>obtain⟨_,_,hf⟩:=hR;exact hf.elim
 ·obtain⟨v,w',hR,_⟩:=h default []
  exact⟨_,_,hR⟩
 ·exact h.elim
 ·exact h.elim
def EW (B:Nat) (E:Ex) (w0:World) (N:Nat) (σ:St):Prop:=∃a w G,R B E w0 N σ a w G
theorem YF (r:EW B E w0 N σ) (hT:nN P T) (hc:tw P N ops o mo=true) (hx:eN T mo σ=some σ'):EW B E w0 N σ':=by
 obtain⟨a,w,G,r⟩:=r
 rcases GR (Q:=fun _ _ _=>False) r hT hc hx with⟨_,h⟩|⟨_,G',h⟩
 ·obtain⟨a',w',G',h⟩:=alp h
  exact⟨a',w',G',h⟩
 ·exact⟨_,_,G',h⟩
theorem Tx (hT:nN P T):∀{l:List Oper} {ms:List bO} {σ σ':St} {a:Act} {w:World} {G:Gh},oP P N ops l ms=true->nU T ms σ=some σ'->R B E w0 N σ a w G->
  (∀a w G,R B E w0 N σ' a w G->Q .normal a w)->wpList P ops Q l a w
 |[],[],σ,σ',a,w,G,hc,hx,r,hQ=>by
  simp only[nU] at hx
  injection hx with hx
  subst hx
  exact hQ _ _ _ r
 |o::l,m::ms,σ,σ',a,w,G,hc,hx,r,hQ=>by
  simp only[oP,Bool.and_eq_true] at hc
  simp only[nU] at hx
  split at hx
  ·rename_i σ1 e1
   unfold wpList
   rcases GR (Q:=Q) r hT hc.1 e1 with⟨hw,h⟩|⟨hw,G',h⟩
   ·rw[if_pos hw]
    exact .inl (Oper.wp_mono (fun a' w' ⟨G',r'⟩=>Tx hT hc.2 hx r' hQ) h)
   ·rw[if_neg (by simp[hw])]
    exact Tx hT hc.2 hx h hQ
  ·cases hx
 |[],_::_,_,_,_,_,_,hc,_,_,_=>by simp[oP] at hc
 |_::_,[],_,_,_,_,_,hc,_,_,_=>by simp[oP] at hc
def pP (T:bh) (ms:List bO):List Nat->St->Option St
 |[],σ=>some σ
 |i::L,σ=>match ms[i]? with
  |some o=>match eN T o σ with
   |some σ1=>pP T ms L σ1
   |none=>none
  |none=>none
inductive uU (ops:Array Oper):Nat->Nat->Prop where
 |UL (i:Nat) (o:Oper) (e:_):ops[i]? =some o->e∈o.after->Region.binds .any e=true->uU ops i e.on
 |step (i j:Nat) (o:Oper) (e:_):ops[i]? =some o->e∈o.after->Region.binds .any e=true->uU ops e.on j->uU ops i j
def K9 (o:Oper):List Nat:=(o.after.toList.filter (Region.binds .any)).map (·.on)
def Du (cN:List Nat):List Nat->Nat
 |[]=>0
 |j::js=>(Nat.shiftLeft 1 j|||cN.getD j 0)|||Du cN js
def AF:List Oper->List Nat->List Nat
 |[],cN=>cN
 |o::os,cN=>AF os (cN++[Du cN (K9 o)])
theorem agp {o:Oper} {j:Nat} (h:j∈K9 o):∃e∈o.after,Region.binds .any e=true/\e.on=j:=by
 unfold K9 at h
 simp only[List.mem_map,List.mem_filter] at h
 obtain⟨e,⟨h1,h2⟩,h3⟩:=h
 exact⟨e,Array.mem_toList_iff.1 h1,h2,h3⟩
theorem XN {cN:List Nat}:∀{js:List Nat} {k:Nat},(Du cN js).testBit k=true->∃j∈js,j=k\/(cN.getD j 0).testBit k=true
 |[],k,h=>by simp[Du] at h
 |j::js,k,h=>by
  simp only[Du,Nat.testBit_or,Bool.or_eq_true] at h
  rcases h with(h|h)|h
  ·refine⟨j,by simp,.inl ?_⟩
   have h':(1<<<j).testBit k=true:=h
   rw[Nat.one_shiftLeft,Nat.testBit_two_pow] at h'
   exact of_decide_eq_true h'
  ·exact⟨j,by simp,.inr h⟩
  ·obtain⟨j',h1,h2⟩:=XN h
   exact⟨j',by simp[h1],h2⟩
theorem Oi {ops:Array Oper}:∀(os:List Oper) (cN:List Nat) (pre:List Oper),ops.toList=pre++os->cN.length=pre.length->(∀i k,(cN.getD i 0).testBit k=true->uU ops i k)->
  ∀i k,((AF os cN).getD i 0).testBit k=true->uU ops i k
 |[],cN,pre,_,_,h,i,k,hb=>h i k hb
 |o::os,cN,pre,he,hl,h,i,k,hb=>by
  refine Oi os _ (pre++[o]) (by simp[he]) (by simp[hl]) (fun i k hb=>?_) i k hb
  by_cases bX:i<cN.length
  ·rw[List.getD_eq_getElem?_getD,List.getElem?_append_left bX,<-List.getD_eq_getElem?_getD] at hb
   exact h i k hb
  ·by_cases hi:i=cN.length
   ·subst hi
    rw[List.getD_eq_getElem?_getD,List.getElem?_append_right (Nat.le_refl _),Nat.sub_self] at hb
    simp only[List.getElem?_cons_zero,Option.getD_some] at hb
    have ho:ops[cN.length]? =some o:=by
     have:ops.toList[cN.length]? =some o:=by rw[he,hl,List.getElem?_append_right (Nat.le_refl _),Nat.sub_self];rfl
     simpa using this
    obtain⟨j,h1,h2⟩:=XN hb
    obtain⟨e,e1,e2,rfl⟩:=agp h1
    rcases h2 with rfl|h2
    ·exact .UL _ o e ho e1 e2
    ·exact .step _ _ o e ho e1 e2 (h _ _ h2)
   ·rw[List.getD_eq_getElem?_getD,List.getElem?_eq_none (by simp;omega)] at hb
    simp at hb
def Gm (ops:List Oper) (ms:List bO):Bool:=
 (fun ks:List Nat=>(List.range ops.length).all fun i=>match ops[i]?,ms[i]? with
  |some o,some m=>(o.after.toList.all fun e=> !Region.binds .any e||decide (e.on<i))&&
   (List.range i).all fun j=>(ks.getD i 0).testBit j||(match ms[j]? with|some mj=>zx mj m|none=>false)
  |_,_=>false) (AF ops [])
structure TG (ops:Array Oper) (ms:List bO):Prop where
 back:∀(i:Nat) (o:Oper),ops[i]? =some o->∀e∈o.after,Region.binds .any e=true->e.on<i
 pair:∀(i j:Nat) (o:Oper) (m:bO),ops[i]? =some o->ms[i]? =some m->j<i->uU ops i j\/∃mj,ms[j]? =some mj/\zx mj m=true
theorem aa4 {ms:List bO} (h:Gm ops.toList ms=true):TG ops ms:=by
  simp only[Gm,List.all_eq_true,List.mem_range] at h
  have cP:∀(i:Nat) (o:Oper),ops[i]? =some o->∃m,ms[i]? =some m/\(o.after.toList.all fun e=> !Region.binds .any e||decide (e.on<i))=true/\
        ∀j,j<i->(((AF ops.toList []).getD i 0).testBit j||(match ms[j]? with|some mj=>zx mj m|none=>false))=true:=by
    intro i o ho
    have hi:i<ops.toList.length:=by simpa using(Array.getElem?_eq_some_iff.1 ho).1
    have hi':=h i hi
    have gx:ops.toList[i]? =some o:=by simpa using ho
    rw[gx] at hi'
    cases hm:ms[i]? with
    |none=>rw[hm] at hi';cases hi'
    |some m=>
     rw[hm] at hi'
     simp only[Bool.and_eq_true,List.all_eq_true,List.mem_range] at hi'
     exact⟨m,rfl,by rw[List.all_eq_true];exact hi'.1,hi'.2⟩
  refine⟨fun i o ho e he hb=>?_,fun i j o m ho hm hj=>?_⟩
  · obtain⟨m,_,k1,_⟩:=cP i o ho
    have:=List.all_eq_true.1 k1 e (Array.mem_toList_iff.2 he)
    simp[hb] at this
    exact this
  · obtain⟨m',bE,_,k2⟩:=cP i o ho
    rw[hm] at bE
    injection bE with bE
    subst bE
    have:=k2 j hj
    rw[Bool.or_eq_true] at this
    rcases this with h1|h1
    · exact .inl (Oi ops.toList [] [] rfl rfl (by intro i k hb;simp at hb) i j h1)
    · cases zW:ms[j]? with
      |none=>rw[zW] at h1;cases h1
      |some mj=>rw[zW] at h1;exact .inr ⟨mj,rfl,h1⟩
def JF (ops:Array Oper) (cM:Array Bool):Prop:=
 ∀(k:Nat) (o:Oper),ops[k]? =some o->cM.getD k true=true->∀e∈o.after,Region.binds .any e=true->cM.getD e.on true=true
theorem T5 {cM:Array Bool} (hc:JF ops cM) {i j:Nat} (hb:uU ops i j):(∀o,ops[i]? =some o->∀e∈o.after,Region.binds .any e=true->cM.getD e.on true=true)->cM.getD j true=true:=by
 induction hb with
 |UL i o e ho he hb=>exact fun h=>h o ho e he hb
 |step i j o e ho he hb _ ih=>exact fun h=>ih fun o' gx=>hc _ o' gx (h o ho e he hb)
theorem U9 (hT:nN P T) {ms:List bO} (qW:∀(i:Nat) (m:bO),ms[i]? =some m->∃o,ops[i]? =some o/\tw P N ops o m=true) {i:Nat} {mi:bO} (hi:ms[i]? =some mi) {post:List Nat} {iY:St}:
  ∀{pre:List Nat} {σ:St},EW B E w0 N σ->pP T ms (pre++i::post) σ=some iY->(∀j∈pre,∃mj,ms[j]? =some mj/\zx mj mi=true)->
  ∃τ,eN T mi σ=some τ/\pP T ms (pre++post) τ=some iY
 |[],σ,hr,hx,hc=>by
  simp only[List.nil_append,pP,hi] at hx
  split at hx
  ·rename_i σ1 e;exact⟨σ1,e,hx⟩
  ·cases hx
 |j::pre,σ,hr,hx,hc=>by
  obtain⟨mj,hj,nh⟩:=hc j (by simp)
  simp only[List.cons_append,pP,hj] at hx
  split at hx
  ·rename_i σ1 e1
   obtain⟨oj,_,gh⟩:=qW j mj hj
   obtain⟨oH,t1,t2⟩:=U9 hT qW hi (YF hr hT gh e1) hx (fun k hk=>hc k (by simp[hk]))
   obtain⟨a,w,G,r⟩:=hr
   obtain⟨τ,s1,s2⟩:=abg r.wf nh e1 t1
   exact⟨τ,s1,by simp only[List.cons_append,pP,hj,s2];exact t2⟩
  ·cases hx
theorem aln (hT:nN P T) {ms:List bO} (qW:∀(i:Nat) (m:bO),ms[i]? =some m->∃o,ops[i]? =some o/\tw P N ops o m=true) (hlen:ms.length=ops.size) (hd:TG ops ms) {iY:St}
  (hQ:∀a w G,R B E w0 N iY a w G->Q .normal a w):
  ∀(ix:Nat) (L:List Nat) (cM:Array Bool) (σ:St) (a:Act) (w:World) (G:Gh),R B E w0 N σ a w G->pP T ms L σ=some iY->L.Pairwise (·<·)->L.length<=ix->cM.size=ops.size->
   (∀j,j∈L↔cM.getD j true=false)->JF ops cM->wpAny P .any ops Q ix cM a w:=by
 have first:∀(L:List Nat) (cM:Array Bool),L.Pairwise (·<·)->cM.size=ops.size->(∀j,j∈L↔cM.getD j true=false)->Region.ready .any ops cM=[]->L=[]:=by
  intro L cM hp hs hL hr
  cases L with
  |nil=>rfl
  |cons j L=>
   exfalso
   have hj:=(hL j).1 (by simp)
   have kQ:j<ops.size:=by
    rw[<-hs]
    rcases Nat.lt_or_ge j cM.size with h|h
    ·exact h
    ·simp[Array.getElem?_eq_none h] at hj
   have ho:ops[j]? =some ops[j]:=Array.getElem?_eq_getElem kQ
   have:j∈Region.ready .any ops cM:=by
    rw[mem_ready]
    refine⟨hj,_,ho,fun e he hb=>?_⟩
    have bX:=hd.back j _ ho e he hb
    have n5:e.on∉j::L:=by
     intro hm
     cases hm with
     |head=>omega
     |tail _ hm=>have:=(List.pairwise_cons.1 hp).1 _ hm;omega
    have aC:cM.getD e.on true≠false:=fun h=>n5 ((hL e.on).2 h)
    have oY:e.on<cM.size:=by omega
    simp[oY] at aC⊢
    exact aC
   rw[hr] at this
   cases this
 intro ix
 induction ix with
 |zero=>
  intro L cM σ a w G r hx hp hl hs hL hC
  have qV:L=[]:=List.eq_nil_of_length_eq_zero (by omega)
  subst qV
  simp only[pP] at hx
  injection hx with hx
  subst hx
  refine⟨?_,hQ _ _ _ r⟩
  cases hr:Region.ready .any ops cM with
  |nil=>rfl
  |cons i l=>
   have hm:i∈Region.ready .any ops cM:=by rw[hr];simp
   have:=(hL i).2 (mem_ready.1 hm).1
   cases this
 |succ ix ih=>
  intro L cM σ a w G r hx hp hl hs hL hC
  refine⟨fun hr=>?_,fun i hi=>?_⟩
  ·have qV:=first L cM hp hs hL hr
   subst qV
   simp only[pP] at hx
   injection hx with hx
   subst hx
   exact hQ _ _ _ r
  ·obtain⟨MH,oi,jY,CC⟩:=mem_ready.1 hi
   have pY:i∈L:=(hL i).2 MH
   obtain⟨pre,post,rfl⟩:=List.append_of_mem pY
   have his:i<ops.size:=(Array.getElem?_eq_some_iff.1 jY).1
   have xQ:ms[i]? =some ms[i]:=List.getElem?_eq_getElem (by omega)
   obtain⟨o',gx,Mu⟩:=qW i _ xQ
   rw[jY] at gx
   injection gx with gx
   subst gx
   have fU:=List.pairwise_append.1 hp
   obtain⟨τ,t1,t2⟩:=U9 (ops:=ops) hT qW xQ ⟨a,w,G,r⟩ hx (fun j hj=>by
    have qZ:j<i:=fU.2.2 j hj i (by simp)
    rcases hd.pair i j oi _ jY xQ qZ with Mk|h
    ·have h1:=T5 hC Mk (fun o ho e he hb=>by
      rw[jY] at ho
      injection ho with ho
      subst ho
      have h1:=CC e he hb
      have bX:=hd.back i _ jY e he hb
      have oY:e.on<cM.size:=by omega
      simp[oY] at h1⊢
      exact h1)
     have h2:=(hL j).1 (by simp[hj])
     rw[h1] at h2
     cases h2
    ·exact h)
   have C1:∀a' w',Nx B E w0 N τ a' w'->wpAny P .any ops Q ix (cM.setIfInBounds i true) a' w':=by
    rintro a' w' ⟨G',r'⟩
    refine ih (pre++post) _ τ a' w' G' r' t2 ?_ (by simp at hl⊢;omega) (by simpa using hs) (fun j=>?_) (fun k o ho hk e he hb=>?_)
    ·rw[List.pairwise_append]
     exact⟨fU.1,(List.pairwise_cons.1 fU.2.1).2,fun x hx y hy=>fU.2.2 x hx y (by simp[hy])⟩
    ·by_cases qZ:j=i
     ·subst qZ
      have kQ:j<cM.size:=by omega
      simp only[List.mem_append]
      constructor
      ·rintro(h|h)
       ·have:=fU.2.2 j h j (by simp);omega
       ·have:=(List.pairwise_cons.1 fU.2.1).1 j h;omega
      ·intro h
       simp[kQ] at h
     ·rw[getD_set_ne true (Ne.symm qZ),<-hL j]
      simp[qZ]
    ·have CS:∀q,cM.getD q true=true->(cM.setIfInBounds i true).getD q true=true:=by
      intro q hq
      by_cases o7:q=i
      ·subst o7
       have:q<cM.size:=by omega
       simp[this]
      ·rw[getD_set_ne true (Ne.symm o7)];exact hq
     by_cases CP:k=i
     ·subst CP
      rw[jY] at ho
      injection ho with ho
      subst ho
      have h1:=CC e he hb
      have bX:=hd.back k _ jY e he hb
      have oY:e.on<cM.size:=by omega
      refine CS _ ?_
      simp[oY] at h1⊢
      exact h1
     ·rw[getD_set_ne true (Ne.symm CP)] at hk
      exact CS _ (hC k o ho hk e he hb)
   unfold wpOp
   rw[jY]
   simp only
   rcases GR (Q:=Q) r hT Mu t1 with⟨hw,h⟩|⟨hw,h⟩
   ·rw[if_pos hw]
    exact .inl (Oper.wp_mono C1 h)
   ·rw[if_neg (by simp[hw])]
    exact C1 _ _ h
theorem U8:∀(post pre:List bO) (σ:St),pP T (pre++post) (List.range' pre.length post.length) σ=nU T post σ
 |[],pre,σ=>by simp[pP,nU]
 |m::post,pre,σ=>by
  simp only[List.length_cons,List.range'_succ,pP,nU]
  rw[List.getElem?_append_right (Nat.le_refl _),Nat.sub_self]
  simp only[List.getElem?_cons_zero]
  cases eN T m σ with
  |none=>rfl
  |some σ1=>
   have:=U8 post (pre++[m]) σ1
   simp only[List.length_append,List.length_cons,List.length_nil,List.append_assoc,List.singleton_append,Nat.zero_add] at this
   exact this
theorem KL:∀{l:List Oper} {ms:List bO},oP P N ops l ms=true->ms.length=l.length/\∀(i:Nat) (m:bO),ms[i]? =some m->∃o,l[i]? =some o/\tw P N ops o m=true
 |[],[],_=>⟨rfl,by simp⟩
 |o::l,m::ms,hc=>by
  simp only[oP,Bool.and_eq_true] at hc
  obtain⟨i1,i2⟩:=KL hc.2
  refine⟨by simp[i1],fun i m' hm=>?_⟩
  cases i with
  |zero=>simp at hm;subst hm;exact⟨o,rfl,hc.1⟩
  |succ i=>exact i2 i m' (by simpa using hm)
 |[],_::_,hc=>by simp[oP] at hc
 |_::_,[],hc=>by simp[oP] at hc
theorem R.drawn (r:R B E w0 N σ a w G) (k:Nat):R B E w0 N σ a {w with drawn:=k} G:=by
 have hw:∀b,b<w.heap.size->({w with drawn:=k}:World).heap[b]? =w.heap[b]? :=fun _ _=>rfl
 exact r.step rfl (fun _ h=>h) (aY.world (fun b hb=>hw b (r.hr.fL b hb)) _) (r.hr.grow hw (Nat.le_refl _)) (r.fr.grow hw (Nat.le_refl _) rfl rfl rfl)
theorem ajH (hT:nN P T) (hm:P.follows .mixedOrders=true) {id:Nat} {qR:Bool} {ms:List bO} (hc:oP P N ops ops.toList ms=true) (hd:qR=true->Gm ops.toList ms=true)
  (hx:nU T ms σ=some σ') (r:R B E w0 N σ a w G) (hQ:∀a w G,R B E w0 N σ' a w G->Q .normal a w):(Code.region id ops qR).wp P Q a w:=by
 cases qR with
 |false=>exact wp_region_list (Tx hT hc hx r hQ)
 |true=>
  obtain⟨k1,k2⟩:=KL hc
  have hlen:ms.length=ops.size:=by simpa using k1
  refine wp_region_any hm (aln (B:=B) (E:=E) (w0:=w0) (N:=N) hT (fun i m h=>by
   obtain⟨o,h1,h2⟩:=k2 i m h;exact⟨o,by simpa using h1,h2⟩) hlen (aa4 (hd rfl)) hQ ops.size (List.range ops.size) _ σ a _ G (r.drawn _) ?_ ?_ (by simp) (by simp) (fun j=>?_) (fun k o ho hk=>?_))
  ·have:=U8 (T:=T) ms [] σ
   simp only[List.nil_append,List.length_nil,hlen,<-List.range_eq_range'] at this
   rw[this]
   exact hx
  ·exact List.pairwise_lt_range
  ·rw[List.mem_range]
   constructor
   ·intro h;simp[h]
   ·intro h
    rcases Nat.lt_or_ge j ops.size with h'|h'
    ·exact h'
    ·simp[Array.getElem?_eq_none (show(Array.replicate ops.size false).size<=j by simpa using h')] at h
  ·exfalso
   have MN:k<ops.size:=(Array.getElem?_eq_some_iff.1 ho).1
   simp[MN] at hk
end
end Go.Am
