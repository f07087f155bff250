/- M66, M67, M26, M27, M28, M68, M69, M70, M71, M72, M37, M41, M42, M73, M43, M10, M44, M74, M75, M76, M45, M77, M78, M79: parts of the proof. No condition. -/
import Derived.Test.YtbgmbplglejidaaM65
set_option linter.unusedVariables false
set_option linter.unusedSimpArgs false
set_option linter.unusedSectionVars false
section
namespace Go.Am
def sN (f:Nat->Nat):Nat->Nat
 |0=>0
 |q+1=>sN f q+f q
def dX (L D S:List Int):List Int:=bC S.length fun i=>D.getD (cD L (S.getD i 0)) 0
def gP (L D S:List Int) (n:Nat) (v:Int):Nat:=(dP (dX L D S) n (cD S v)).toNat*bn D (cD L v+1)
def jG (L D S:List Int) (n:Nat):Nat:=sN (fun i=>gP L D S n (S.getD i 0)) S.length
def nJ (r:Rg) (A:List Int) (off:Nat->Nat):Nat->List Int
 |0=>[]
 |n+1=>nJ r A off n++lr A (off n*cg r) (cg r)
def vz (r:Rg) (t:T3) (S:List Int):T3:=(S,dX t.1 t.2.1 S,nJ r t.2.2 (jG t.1 t.2.1 S) (bJ (dX t.1 t.2.1 S)))
def Ti (x:Rg×T3×List Int):Prop:=gF x.1 x.2.1=true/\x.2.2=fC x.2.1.1 x.2.1.1.length
instance (x:Rg×T3×List Int):Decidable (Ti x):=by unfold Ti;infer_instance
def XA:Rg×T3×List Int->Option T3:=fun x=>if Ti x then some (vz x.1 x.2.1 x.2.2) else none
def A8:Rg×T3×List Int->Option T3:=XA
def lv (r:Rg) (t:T3):T3:=if gF r t=true then vz r t (fC t.1 t.1.length) else([],[],[])
def Xu:Rg×T3->Option T3:=fun x=>if x.2.1.length<=1048576/\x.2.2.1.length<=1048576/\x.2.2.2.length<=1048576 then some (lv x.1 x.2) else none
def vW:Rg×T3->Option T3:=Xu
def AV:T3×Int->Option Int:=fun x=>if x.1.1.length<=1048576 then some (yR x.1.1 x.2) else none
def Au (l:List Int) (b:Int):Prop:=l.length<=12/\∀x∈l,0<=x/\x<=b
instance (l:List Int) (b:Int):Decidable (Au l b):=by unfold Au;infer_instance
def AZ:List Int×List Int->Option Int:=fun x=>if Au x.1 1048576/\Au x.2 8/\x.1.length=x.2.length then some ((sN (fun i=>(x.2.getD i 0).toNat*(x.1.getD i 0).toNat) x.1.length:Nat):Int) else none
def po (L D S:List Int):List Int:=bC S.length fun i=>((bn D (cD L (S.getD i 0)+1):Nat):Int)
def Bc:T3×List Int->Option (List Int):=fun x=>if nI x.1.1 x.1.2.1=true/\x.2=fC x.1.1 x.1.1.length/\bJ x.1.2.1<=4096 then some (po x.1.1 x.1.2.1 x.2) else none
def Xy:Rg×T3×Int->Option (List Int):=fun x=>if NX x then some (lr x.2.1.2.2 (x.2.2.toNat*cg x.1) (cg x.1)) else none
def yd:Rg×T3×Int->Option (List Int):=Xy
def H6:ao:=[(.agg,[.list [.int .i64],.list [.int .i64],.list [.int .i64]]),(.one,[.int .i64])]
def T5:ao:=[(.one,[.int .i64])]
def am9:aQ:=[]
def Ic:ao:=[(.one,[.list [.int .i64]]),(.one,[.list [.int .i64]])]
def Ub:ao:=[(.one,[.int .i64])]
def ang:aQ:=[]
def Ip:ao:=[(.agg,[.int .i64,.int .i64,.int .i64]),(.agg,[.list [.int .i64],.list [.int .i64],.list [.int .i64]]),(.one,[.int .i64])]
def Uk:ao:=[(.one,[.list [.int .i64]])]
def ano:aQ:=[[some .aG]]
def Mz (NN:Nat):(((List Int)×((List Int)×(List Int)))×Int)->(Option Int):=
 (fun(((l0,l1,l2),i3):(((List Int)×((List Int)×(List Int)))×Int))=>
 ca (bM NN (fun((i4,l5,i6,i7):(Int×((List Int)×(Int×Int))))=>
 ax (bG i7 i6)
 ((eo l5 i7).ab (fun i8=>
 ax (cJ i8 i4)
 (some (Sum.inr (Sum.inr i7)))
 (some (Sum.inl (i4,l5,i6,bA .i64 i7 1)))))
 (some (Sum.inr (Sum.inl ()))))
 (i3,l0,aS (aa l0),(0:Int)))
 (fun _=>
 some ((-1:Int))))
def ME (NN:Nat):((List Int)×(List Int))->(Option Int):=
 (fun((l0,l1):((List Int)×(List Int)))=>
 ca (bM NN (fun((l2,l3,i4,i5,i6):((List Int)×((List Int)×(Int×(Int×Int)))))=>
 ax (bG i6 i5)
 ((eo l2 i6).ab (fun i7=>
 (eo l3 i6).ab (fun i8=>
 some (Sum.inl (l2,l3,bA .i64 i4 (cd .i64 i7 i8),i5,bA .i64 i6 1)))))
 (some (Sum.inr (Sum.inl i4))))
 (l0,l1,(0:Int),aS (aa l0),(0:Int)))
 (fun i9=>
 some i9))
def ML (NN:Nat):((Int×(Int×Int))×(((List Int)×((List Int)×(List Int)))×Int))->(Option (List Int)):=
 (fun(((i0,i1,i2),(l3,l4,l5),i6):((Int×(Int×Int))×(((List Int)×((List Int)×(List Int)))×Int)))=>
 (v7 (i0,i1,i2)).ab (fun i7=>
 (mR (cd .i64 i6 i7) (cd .i64 (bA .i64 i6 1) i7) (aa l5)).ab (fun(k8,k9)=>
 some (lr l5 k8 k9))))
theorem ada {f:Nat->Nat} {b:Nat}:∀q,(∀i,i<q->f i<=b)->sN f q<=q*b
 |0,_=>Nat.zero_le _
 |q+1,h=>by
  have h1:=ada (f:=f) (b:=b) q fun i hi=>h i (by omega)
  have h2:=h q (by omega)
  simp only[sN]
  rw[Nat.add_mul,Nat.one_mul]
  omega
theorem UR {f g:Nat->Nat}:∀q,(∀i,i<q->f i=g i)->sN f q=sN g q
 |0,_=>rfl
 |q+1,h=>by simp only[sN];rw[UR q fun i hi=>h i (by omega),h q (by omega)]
theorem ade (g:Int->Nat) (l:List Int):∀q,q<=l.length->sN (fun i=>g (l.getD i 0)) q=((l.take q).map g).sum
 |0,_=>by simp[sN]
 |q+1,h=>by
  simp only[sN]
  rw[ade g l q (by omega),List.take_succ_eq_append_getElem (by omega),List.map_append,List.sum_append_nat,List.getD_eq_getElem?_getD,List.getElem?_eq_getElem (by omega)]
  simp
theorem adb (g:Int->Nat) (l:List Int):sN (fun i=>g (l.getD i 0)) l.length=(l.map g).sum:=by
 rw[ade g l _ (Nat.le_refl _),List.take_length]
theorem arq {S L:List Int} (h:S.Perm L) (g:Int->Nat):sN (fun i=>g (S.getD i 0)) S.length=sN (fun i=>g (L.getD i 0)) L.length:=by
 rw[adb,adb]
 exact(h.map g).sum_nat
theorem K8 {l:List Int} {v:Int} (h:v∈l):cD l v<l.length:=by
 refine Nat.lt_of_le_of_ne (Db l v) fun e=>?_
 obtain⟨i,hi⟩:=List.getElem?_of_mem h
 have hl:=(List.getElem?_eq_some_iff.1 hi).1
 exact F4 (by omega) hi
theorem Tl {l:List Int} {v:Int} (h:v∈l):l.getD (cD l v) 0=v:=by
 rw[List.getD_eq_getElem?_getD,F3 (K8 h)]
 rfl
theorem mF {l:List Int} {i:Nat} (h:i<l.length):l.getD i 0∈l:=by
 rw[List.getD_eq_getElem?_getD,List.getElem?_eq_getElem h]
 exact List.getElem_mem h
theorem xG {l:List Int} (hn:l.Nodup) {i:Nat} (h:i<l.length):cD l (l.getD i 0)=i:=by
 have hm:=mF h
 have h1:=K8 hm
 have h2:=F3 h1
 rw[List.getElem?_eq_getElem h1] at h2
 have e:l[cD l (l.getD i 0)]=l[i]:=by
  injection h2 with h2
  rw[h2,List.getD_eq_getElem?_getD,List.getElem?_eq_getElem h]
  rfl
 exact(List.getElem_inj hn).1 e
theorem afq {L D:List Int} (h:nI L D=true):L.Nodup:=by
 obtain⟨h1,h2,h3⟩:=s0 h
 rw[List.nodup_iff_pairwise_ne,List.pairwise_iff_getElem]
 intro i j hi hj jS e
 have:=(h3 j hj).2.2
 apply this
 rw[List.getD_eq_getElem?_getD,List.getElem?_eq_getElem hj]
 show L[j]∈L.take j
 rw[<-e,List.mem_take_iff_getElem]
 exact⟨i,by omega,rfl⟩
structure hH (L D S:List Int):Prop where
 p:S.Perm L
 nL:L.Nodup
 nS:S.Nodup
 len:L.length=D.length
 dG:L.length<=12
 lG:∀x∈D,1<=x/\x<=8
theorem hH.mk' {L D S:List Int} (h:nI L D=true) (hS:S=fC L L.length):hH L D S:=by
 have hp:S.Perm L:=by rw[hS];exact adT L _ (Nat.le_refl _)
 obtain⟨h1,h2,h3⟩:=s0 h
 have hn:=afq h
 exact⟨hp,hn,hp.nodup_iff.2 hn,h2,h1,Ef h⟩
section
variable {L D S:List Int} (I:hH L D S)
include I
theorem hH.Gs:S.length=L.length:=I.p.length_eq
theorem hH.inv {q k:Nat} (hq:q<S.length) (hk:k<L.length):cD L (S.getD q 0)=k↔cD S (L.getD k 0)=q:=by
 have m1:S.getD q 0∈L:=I.p.mem_iff.1 (mF hq)
 have m2:L.getD k 0∈S:=I.p.mem_iff.2 (mF hk)
 constructor
 ·intro e
  have:=Tl m1
  rw[e] at this
  rw[this,xG I.nS hq]
 ·intro e
  have:=Tl m2
  rw[e] at this
  rw[this,xG I.nL hk]
theorem hH.yu {q:Nat} (hq:q<S.length):cD L (S.getD q 0)<L.length:=K8 (I.p.mem_iff.1 (mF hq))
theorem hH.ak4 {k:Nat} (hk:k<L.length):cD S (L.getD k 0)<S.length:=K8 (I.p.mem_iff.2 (mF hk))
theorem hH.km:km D:=⟨by have:=I.len;have:=I.dG;omega,fun x hx=>by have:=I.lG x hx;omega⟩
theorem hH.agd:∀x∈dX L D S,1<=x/\x<=8:=by
 intro x hx
 obtain⟨i,hi,rfl⟩:=List.mem_map.1 hx
 have:=I.yu (List.mem_range.1 hi)
 exact I.lG _ (mF (by have:=I.len;omega))
theorem hH.age:Am.km (dX L D S):=⟨by show(bC _ _).length<=_;rw[fc,I.Gs];have:=I.dG;omega,fun x hx=>by have:=I.agd x hx;omega⟩
omit I in
theorem aqw {h:Int->Int} {S L:List Int} (p:S.Perm L):bJ (S.map h)=bJ (L.map h):=by
 induction p with
 |nil=>rfl
 |cons x _ ih=>simp only[List.map_cons,bJ,ih]
 |swap x y l=>simp only[List.map_cons,bJ];rw[Nat.mul_left_comm]
 |trans _ _ h1 h2=>exact h1.trans h2
omit I in
theorem ac1 (h:Int->Int) (l:List Int):bC l.length (fun i=>h (l.getD i 0))=l.map h:=by
 apply List.ext_getElem?
 intro i
 by_cases hi:i<l.length
 ·rw[nz _ hi,List.getElem?_map,List.getElem?_eq_getElem hi,List.getD_eq_getElem?_getD,List.getElem?_eq_getElem hi]
  rfl
 ·rw[List.getElem?_eq_none (by rw[fc];omega),List.getElem?_eq_none (by simp;omega)]
theorem hH.prod:bJ (dX L D S)=bJ D:=by
 have e1:dX L D S=S.map fun v=>D.getD (cD L v) 0:=ac1 (fun v=>D.getD (cD L v) 0) S
 have e2:L.map (fun v=>D.getD (cD L v) 0)=D:=by
  rw[<-ac1 (fun v=>D.getD (cD L v) 0) L]
  apply List.ext_getElem?
  intro i
  by_cases hi:i<L.length
  ·rw[nz _ hi,xG I.nL hi,List.getD_eq_getElem?_getD,List.getElem?_eq_getElem (by have:=I.len;omega)]
   rfl
  ·rw[List.getElem?_eq_none (by rw[fc];omega),List.getElem?_eq_none (by have:=I.len;omega)]
 rw[e1,aqw I.p,e2]
def rl (L D S:List Int) (n:Nat):List Int:=bC D.length fun k=>dP (dX L D S) n (cD S (L.getD k 0))
theorem hH.pd {i:Nat} (hi:i<S.length):(dX L D S).getD i 0=D.getD (cD L (S.getD i 0)) 0:=by
 unfold dX
 rw[List.getD_eq_getElem?_getD,nz _ hi]
 rfl
theorem hH.Y2 (n:Nat) {i:Nat} (hi:i<S.length):0<=dP (dX L D S) n i/\dP (dX L D S) n i<D.getD (cD L (S.getD i 0)) 0:=by
 have hd:=I.lG _ (mF (l:=D) (i:=cD L (S.getD i 0)) (by have:=I.yu hi;have:=I.len;omega))
 unfold dP
 rw[I.pd hi]
 have:=Nat.mod_lt (n/bn (dX L D S) (i+1)) (show 0<(D.getD (cD L (S.getD i 0)) 0).toNat by omega)
 omega
omit I in
theorem acf {D ix:List Int} (h:∀k,k<D.length->(ix.getD k 0).toNat<(D.getD k 0).toNat):∀j,j<=D.length->(mP D ix j+1)*bn D j<=bJ D
 |0,_=>by simp[mP,bn]
 |j+1,hj=>by
  have ih:=acf h j (by omega)
  have hk:=h j (by omega)
  rw[qq (by omega),<-Nat.mul_assoc] at ih
  refine Nat.le_trans (Nat.mul_le_mul_right _ ?_) ih
  simp only[mP]
  rw[Nat.add_mul,Nat.one_mul]
  omega
omit I in
theorem acg {D ix:List Int}:∀j,j<=D.length->mP D ix j*bn D j=sN (fun k=>(ix.getD k 0).toNat*bn D (k+1)) j
 |0,_=>by simp[mP,sN]
 |j+1,hj=>by
  simp only[mP,sN]
  rw[<-acg j (by omega),qq (i:=j) (by omega),Nat.add_mul,Nat.mul_assoc]
theorem hH.ack (n:Nat) {k:Nat} (hk:k<D.length):(rl L D S n).getD k 0=dP (dX L D S) n (cD S (L.getD k 0)):=by
 unfold rl
 rw[List.getD_eq_getElem?_getD,nz _ hk]
 rfl
theorem hH.apj (n:Nat) {k:Nat} (hk:k<D.length):0<=(rl L D S n).getD k 0/\(rl L D S n).getD k 0<D.getD k 0:=by
 rw[I.ack n hk]
 have cI:k<L.length:=by have:=I.len;omega
 have h1:=I.ak4 cI
 have h2:=I.Y2 n h1
 rw[(I.inv h1 cI).2 rfl] at h2
 exact h2
theorem hH.off (n:Nat):mP D (rl L D S n) D.length=jG L D S n:=by
 have h1:=acg (D:=D) (ix:=rl L D S n) D.length (Nat.le_refl _)
 rw[uh,Nat.mul_one] at h1
 rw[h1]
 unfold jG
 rw[arq I.p (gP L D S n),I.len]
 refine UR _ fun k hk=>?_
 rw[I.ack n hk]
 unfold gP
 rw[xG I.nL (by have:=I.len;omega)]
theorem hH.aci (n:Nat):jG L D S n<bJ D:=by
 have:=acf (D:=D) (ix:=rl L D S n) (fun k hk=>by have:=I.apj n hk;omega) D.length (Nat.le_refl _)
 rw[uh,Nat.mul_one,I.off n] at this
 omega
end
theorem Lz {l:List Int} {b:Int} (h:Au l b) {i:Nat} (hi:i<l.length):∃a:Nat,l[i]? =some (a:Int)/\(l.getD i 0).toNat=a/\(a:Int)<=b:=by
 have:=h.2 _ (List.getElem_mem hi)
 refine⟨l[i].toNat,?_,?_,by omega⟩
 ·rw[List.getElem?_eq_getElem hi]
  congr 1
  omega
 ·rw[List.getD_eq_getElem?_getD,List.getElem?_eq_getElem hi]
  rfl
theorem ahz (x:List Int×List Int) (y:Int) (h:AZ x=some y):ME aC x=some y:=by
 obtain⟨s,ix⟩:=x
 simp only[AZ] at h
 split at h
 ·rename_i hc
  rw[<-h]
  obtain⟨h1,h2,he⟩:=hc
  try dsimp only at h1 h2 he
  simp only[ME]
  have hb:∀j,j<=s.length->sN (fun i=>(ix.getD i 0).toNat*(s.getD i 0).toNat) j<=j*8388608:=fun j hj=>ada j fun i hi=>by
   obtain⟨a,_,a2,a3⟩:=Lz h1 (i:=i) (by omega)
   obtain⟨b,_,b2,b3⟩:=Lz h2 (i:=i) (by omega)
   rw[a2,b2]
   exact Nat.mul_le_mul (show b<=8 by omega) (show a<=1048576 by omega)
  have hl:=h1.1
  rw[eH (fun j=>(s,ix,((sN (fun i=>(ix.getD i 0).toNat*(s.getD i 0).toNat) j:Nat):Int),(s.length:Int),(j:Int))) s.length ?a1 ?a2 ?a3 (dk (by omega))]
  case a3=>rfl
  case a2=>
   dsimp only
   rw[aL (cN (by omega))]
  case a1=>
   intro j hj
   obtain⟨a,a1,a2,a3⟩:=Lz h1 (i:=j) (by omega)
   obtain⟨b,b1,b2,b3⟩:=Lz h2 (i:=j) (by omega)
   have yZ:=hb j (by omega)
   have e:sN (fun i=>(ix.getD i 0).toNat*(s.getD i 0).toNat) (j+1)=sN (fun i=>(ix.getD i 0).toNat*(s.getD i 0).toNat) j+b*a:=by simp only[sN];rw[a2,b2]
   have hm:=Nat.mul_le_mul (show b<=8 by omega) (show a<=1048576 by omega)
   dsimp only
   rw[aR (df (by omega)),eu,eu,a1,b1]
   simp only[cz]
   rw[e,Nat.mul_comm b a]
   rw[Nat.mul_comm b a] at hm
   rw[o9 (by rw[<-Int.natCast_mul];omega) (by rw[<-Int.natCast_mul];omega),<-Int.natCast_mul,gw (by omega) (by omega),gw (by omega) (by omega)]
   rfl
  simp only[ca,Option.bind]
 ·cases h
theorem aht (x:T3×Int) (y:Int) (h:AV x=some y):Mz aC x=some y:=by
 obtain⟨⟨L,D,A⟩,v⟩:=x
 simp only[AV] at h
 split at h
 ·rename_i hc
  rw[<-h]
  try dsimp only at hc
  simp only[Mz]
  unfold yR
  by_cases hp:cD L v<L.length
  ·rw[if_pos hp]
   rw[eH (r:=Sum.inr ((cD L v:Nat):Int)) (fun j=>(v,L,(L.length:Int),(j:Int))) (cD L v) ?a1 ?a2 ?a3 (dk (by omega))]
   case a3=>rfl
   case a2=>
    dsimp only
    rw[aR (df (by omega)),eu,F3 hp]
    simp only[cz]
    rw[aR (by simp[cJ])]
   case a1=>
    intro j hj
    dsimp only
    rw[aR (df (by omega)),eu,List.getElem?_eq_getElem (by omega)]
    simp only[cz]
    rw[aL (by
     have:=F4 hj
     rw[List.getElem?_eq_getElem (by omega)] at this
     simp only[cJ,beq_eq_false_iff_ne,ne_eq]
     exact fun e=>this (congrArg some e)),gw (by omega) (by omega)]
    rfl
   simp only[ca,Option.bind]
  ·rw[if_neg hp]
   have tz:cD L v=L.length:=by have:=Db L v;omega
   rw[eH (r:=Sum.inl ()) (fun j=>(v,L,(L.length:Int),(j:Int))) L.length ?a1 ?a2 ?a3 (dk (by omega))]
   case a3=>rfl
   case a2=>
    dsimp only
    rw[aL (cN (by omega))]
   case a1=>
    intro j hj
    dsimp only
    rw[aR (df (by omega)),eu,List.getElem?_eq_getElem (by omega)]
    simp only[cz]
    rw[aL (by
     have:=F4 (l:=L) (v:=v) (j:=j) (by omega)
     rw[List.getElem?_eq_getElem (by omega)] at this
     simp only[cJ,beq_eq_false_iff_ne,ne_eq]
     exact fun e=>this (congrArg some e)),gw (by omega) (by omega)]
    rfl
   simp only[ca,Option.bind]
 ·cases h
theorem ahI (x:Rg×T3×Int) (y:List Int) (h:yd x=some y):ML aC x=some y:=by
 obtain⟨⟨k,p,m⟩,⟨L,D,A⟩,n⟩:=x
 simp only[yd,Xy] at h
 split at h
 ·rename_i hc
  rw[<-h]
  obtain⟨hr,h0,h1,h2⟩:=hc
  dsimp only at hr h0 h1 h2
  obtain⟨n,rfl⟩:=fu h0
  have hw:=DR hr
  simp only[Int.toNat_natCast] at h1⊢
  have m9:(n+1)*cg (k,p,m)=n*cg (k,p,m)+cg (k,p,m):=by rw[Nat.add_mul,Nat.one_mul]
  have hn:n+1<=1048576:=by have:=Nat.le_mul_of_pos_right (n+1) (show 0<cg (k,p,m) by omega);omega
  simp only[ML,v7,cz]
  rw[hw.1,gw (by omega) (by omega),show(n:Int)+1=((n+1:Nat):Int) by push_cast;rfl]
  rw[ab3 (a:=n) (b:=cg (k,p,m)) (by omega)]
  rw[ab3 (a:=n+1) (b:=cg (k,p,m)) (by omega)]
  rw[show mR ((n*cg (k,p,m):Nat):Int) (((n+1)*cg (k,p,m):Nat):Int) (aa A)=some (n*cg (k,p,m),cg (k,p,m)) by
   unfold mR aa
   rw[if_pos ⟨by omega,by omega,by omega⟩]
   congr 2
   omega]
  simp only[cz]
 ·cases h
end Go.Am
end
section
namespace Go.Am
def Iz:ao:=[(.agg,[.list [.int .i64],.list [.int .i64],.list [.int .i64]]),(.one,[.list [.int .i64]])]
def Uv:ao:=[(.one,[.list [.int .i64]])]
def anz:aQ:=[]
def MT (NN:Nat):(((List Int)×((List Int)×(List Int)))×(List Int))->(Option (List Int)):=
 (fun(((l0,l1,l2),l3):(((List Int)×((List Int)×(List Int)))×(List Int)))=>
 (rh (aS (aa l3)) (aS (aa l3)) 8).ab (fun k4=>
 ca ((ai 0 k4 (aa (eU k4 (0:Int)))).ab (fun _=>
 bM NN (fun(((l5,i6,i7),(l8,l9,fy),ct):(((List Int)×(Int×Int))×(((List Int)×((List Int)×(List Int)))×(List Int))))=>
 ax (iW (0:Int) i7)
 (ca (ca ((ai 0 (aa ct) (aa ct)).ab (fun _=>
 bM NN (fun(((dG,eG,e9,eP,fP,f8),(kD,fQ,gk),dI):(((List Int)×(Int×(Int×((List Int)×(Int×Int)))))×(((List Int)×((List Int)×(List Int)))×(List Int))))=>
 ax (bG f8 fP)
 ((eo eP f8).ab (fun ij=>
 (eo kD e9).ab (fun nf=>
 ax (cJ ij nf)
 ((fj f8 (aa dI)).ab (fun zJ=>
 (dt dI (bj 0 zJ)).ab (fun ng=>
 (ai 0 (aa dI) (aa (bR dI (bj 0 zJ) eG))).ab (fun _=>
 some (Sum.inl ((dG,eG,e9,eP,fP,bA .i64 f8 1),(kD,fQ,gk),bR dI (bj 0 zJ) eG))))))
 ((ai 0 (aa dI) (aa dI)).ab (fun _=>
 some (Sum.inl ((dG,eG,e9,eP,fP,bA .i64 f8 1),(kD,fQ,gk),dI)))))))
 (((ai 0 (aa dI) (aa dI)).ab (fun _=>
 some (Sum.inl ((eG,e9,dG),(kD,fQ,gk),dI)))).ab (fun ik=>
 some (Sum.inr ik))))
 ((l5,i6,i7,l5,aS (aa l5),(0:Int)),(l8,l9,fy),ct)))
 (fun((ky,oT,il),(jh,nk,np),jE)=>
 (eo nk oT).ab (fun iS=>
 (ai 0 (aa jE) (aa jE)).ab (fun _=>
 some (Sum.inl ((oT,il,cd .i64 ky iS),(jh,nk,np),jE))))))
 (fun((iT,gA,kV),(kE,ji,jZ),gm)=>
 (ai 0 (aa gm) (aa gm)).ab (fun _=>
 some (Sum.inl ((gA,kV,iF .i64 iT 1),(kE,ji,jZ),gm)))))
 (((ai 0 (aa ct) (aa ct)).ab (fun _=>
 some (Sum.inl ct))).ab (fun gn=>
 some (Sum.inr gn))))
 ((l3,(1:Int),iF .i64 (aS (aa l1)) (1:Int)),(l0,l1,l2),eU k4 (0:Int))))
 (fun gB=>
 (dw gB (aa gB)).ab (fun gp=>
 some gp))))
theorem aet {D:List Int} (h:km D) {i:Nat} (hi:i<=D.length):bn D i<=bJ D:=by
 have:=W3 (D:=D) (i:=0) (j:=i) (Nat.zero_le i) hi
 rw[GN] at this
 exact Nat.le_of_dvd (F6 fun x hx=>(h.2 x hx).1) this
theorem afm {L D S:List Int} (I:hH L D S) {q k:Nat} (hq:q<S.length) (hk:k<L.length):S.getD q 0=L.getD k 0↔cD L (S.getD q 0)=k:=by
 constructor
 ·intro e
  rw[e,xG I.nL hk]
 ·intro e
  have:=Tl (I.p.mem_iff.1 (mF hq))
  rw[e] at this
  exact this.symm
theorem r6 {l:List Int} {i:Nat} (h:i<l.length):l[i]? =some (l.getD i 0):=by
 rw[List.getD_eq_getElem?_getD,List.getElem?_eq_getElem h]
 rfl
theorem acX (n:Nat):eU n (0:Int)=bC n fun _=>0:=by
 apply List.ext_getElem?
 intro i
 by_cases hi:i<n
 ·rw[nz _ hi]
  show(List.replicate n (0:Int))[i]? =_
  rw[List.getElem?_replicate,if_pos hi]
 ·rw[List.getElem?_eq_none (by show(List.replicate n (0:Int)).length<=i;simp;omega),List.getElem?_eq_none (by rw[fc];omega)]
def kK (L D S:List Int) (j q:Nat) (i:Nat):Int:=if(i<q/\cD L (S.getD i 0)+1=D.length - j)\/D.length - j<=cD L (S.getD i 0) then((bn D (cD L (S.getD i 0)+1):Nat):Int) else 0
theorem ahS (x:T3×List Int) (y:List Int) (h:Bc x=some y):MT aC x=some y:=by
 obtain⟨⟨L,D,A⟩,S⟩:=x
 simp only[Bc] at h
 split at h
 ·rename_i hc
  rw[<-h]
  obtain⟨ha,hS,hp⟩:=hc
  try dsimp only at ha hS hp
  have I:=hH.mk' ha hS
  have EX:=I.dG
  have hl:=I.len
  have gI:=I.Gs
  simp only[MT]
  rw[CV (by simp only[aa,eQ];omega)]
  try simp only[cz]
  rw[show ai 0 (aa S) (aa (eU (aa S) (0:Int)))=some () from yW (by simp[aa,eU])]
  try simp only[cz]
  rw[eH (r:=Sum.inl (po L D S)) (fun j=>((S,((bn D (D.length - j):Nat):Int),(D.length:Int) - 1 - (j:Int)),(L,D,A),bC S.length (kK L D S j 0))) D.length ?a1 ?a2 ?a3 (dk (by omega))]
  case a3=>
   rw[pq (by show _<=((aa D:Nat):Int) - 1;omega) (by show((aa D:Nat):Int) - 1<=_;unfold aa;omega),acX]
   rw[show D.length - 0=D.length from rfl,uh]
   rw[show bC S.length (kK L D S 0 0)=bC (aa S) (fun _=>0) from jo fun i hi=>by
    have:=I.yu hi
    unfold kK
    rw[if_neg (by omega)]]
   show _=((S,((1:Nat):Int),(D.length:Int) - 1 - ((0:Nat):Int)),(L,D,A),_)
   rw[show(D.length:Int) - 1 - ((0:Nat):Int)=(D.length:Int) - 1 by omega]
   rfl
  case a2=>
   dsimp only
   rw[show iW (0:Int) ((D.length:Int) - 1 - (D.length:Int))=false from decide_eq_false (by omega),aL rfl]
   try simp only[cC,cz]
   rw[show bC S.length (kK L D S D.length 0)=po L D S from jo fun i hi=>by unfold kK;rw[if_pos (by omega)]]
  case a1=>
   intro j hj
   dsimp only
   rw[aR (xu (by omega))]
   try simp only[cC,cz]
   have hk:((D.length:Int) - 1 - (j:Int))=((D.length - 1 - j:Nat):Int):=by omega
   rw[hk]
   have hdk:=I.lG _ (mF (l:=D) (i:=D.length - 1 - j) (by omega))
   rw[eH (r:=Sum.inl ((((bn D (D.length - j):Nat):Int),((D.length - 1 - j:Nat):Int),S),(L,D,A),bC S.length (kK L D S (j+1) 0))) (fun q=>((S,((bn D (D.length - j):Nat):Int),((D.length - 1 - j:Nat):Int),S,(S.length:Int),(q:Int)),(L,D,A),bC S.length (kK L D S j q))) S.length ?b1 ?b2 ?b3 (dk (by omega))]
   case b3=>rfl
   case b2=>
    dsimp only
    rw[aL (cN (by omega))]
    try simp only[cC,cz]
    rw[show bC S.length (kK L D S j S.length)=bC S.length (kK L D S (j+1) 0) from jo fun i hi=>by
     unfold kK
     by_cases hc:(i<S.length/\cD L (S.getD i 0)+1=D.length - j)\/D.length - j<=cD L (S.getD i 0)
     ·rw[if_pos hc,if_pos (by omega)]
     ·rw[if_neg hc,if_neg (by omega)]]
   case b1=>
    intro q hq
    dsimp only
    rw[aR (df (by omega)),eu,eu,r6 hq,r6 (l:=L) (i:=D.length - 1 - j) (by omega)]
    try simp only[cz]
    rw[gw (by omega) (by omega)]
    have pN:=afm I hq (k:=D.length - 1 - j) (by omega)
    by_cases he:S.getD q 0=L.getD (D.length - 1 - j) 0
    ·have dU:=pN.1 he
     rw[aR (by unfold cJ;exact beq_iff_eq.2 he),BD _ hq]
     try simp only[cz,hZ]
     rw[wL _ hq]
     try simp only[cz]
     rw[Gb,show ai 0 (aa (bC S.length (kK L D S j q))) (aa (bC S.length fun i=>if i=q then((bn D (D.length - j):Nat):Int) else kK L D S j q i))=some () from pL _ _ _]
     try simp only[cz]
     rw[show bC S.length (fun i=>if i=q then((bn D (D.length - j):Nat):Int) else kK L D S j q i)=bC S.length (kK L D S j (q+1)) from jo fun i hi=>by
      by_cases hiq:i=q
      ·subst hiq
       rw[if_pos rfl]
       unfold kK
       rw[if_pos (by omega),dU,show D.length - 1 - j+1=D.length - j by omega]
      ·rw[if_neg hiq]
       unfold kK
       by_cases hc:(i<q/\cD L (S.getD i 0)+1=D.length - j)\/D.length - j<=cD L (S.getD i 0)
       ·rw[if_pos hc,if_pos (by omega)]
       ·rw[if_neg hc,if_neg (by omega)]]
     rfl
    ·have dU:cD L (S.getD q 0)≠D.length - 1 - j:=fun e=>he (pN.2 e)
     rw[aL (by simp only[cJ,beq_eq_false_iff_ne,ne_eq];exact he)]
     try simp only[cC,cz]
     rw[show bC S.length (kK L D S j (q+1))=bC S.length (kK L D S j q) from jo fun i hi=>by
      unfold kK
      by_cases hc:(i<q/\cD L (S.getD i 0)+1=D.length - j)\/D.length - j<=cD L (S.getD i 0)
      ·rw[if_pos hc,if_pos (by omega)]
      ·rw[if_neg hc,if_neg (by
        intro cA
        apply hc
        rcases cA with⟨c1,c2⟩|c2
        ·left
         refine⟨?_,c2⟩
         have:i≠q:=by intro e;subst e;omega
         omega
        ·exact .inr c2)]]
     rfl
   simp only[ca,Option.bind]
   rw[eu,r6 (l:=D) (i:=D.length - 1 - j) (by omega)]
   try simp only[cz,cC]
   obtain⟨d,d1,d2,d3,d4,d5⟩:=NU I.km (i:=D.length - 1 - j) (by omega)
   have ht:bn D (D.length - 1 - j)=d*bn D (D.length - 1 - j+1):=by rw[qq (by omega),d3]
   rw[show D.length - 1 - j+1=D.length - j by omega] at ht
   have ig:=aet I.km (i:=D.length - 1 - j) (by omega)
   rw[d2,o9 (by rw[<-Int.natCast_mul];omega) (by rw[<-Int.natCast_mul,Nat.mul_comm,<-ht];omega),pq (by omega) (by omega),<-Int.natCast_mul,Nat.mul_comm,<-ht]
   show some (Sum.inl _)=some (Sum.inl ((S,((bn D (D.length - (j+1)):Nat):Int),(D.length:Int) - 1 - ((j+1:Nat):Int)),(L,D,A),bC S.length (kK L D S (j+1) 0)))
   rw[show D.length - (j+1)=D.length - 1 - j by omega,show(D.length:Int) - 1 - ((j+1:Nat):Int)=((D.length - 1 - j:Nat):Int) - 1 by omega]
  simp only[ca,Option.bind,jJ,cz]
 ·cases h
end Go.Am
end
section
namespace Go.Am
def dE (m:Int) (r c:Nat) (d:List Int):Nat:=(cb m r (bB c d) c).2.1.length
def jd (m:Int) (r c:Nat) (d:List Int):List Int:=aq r (dE m r c d) (vA (bB c d) (cb m r (bB c d) c).2.1)
def kP (m:Int) (r c:Nat) (d:List Int):List Int:=aq (dE m r c d) c (cb m r (bB c d) c).1
def ab1 (m:Int) (r k c:Nat) (A B:List Int):List Int:=aq r c (iC m k (bB k A) (bB c B))
def XC:Int×List aM->Option (Int×List aM):=fun x=>if ug x<=1048576 then some x else none
def AW:Int×List aM->Option (Int×List aM):=XC
def adL (s:aM):Prop:=(0<=s.1/\s.1<=4096)/\(0<=s.2.1/\s.2.1<=4096)/\(0<=s.2.2.1/\s.2.2.1<=4096)
instance (s:aM):Decidable (adL s):=by unfold adL;infer_instance
def H8:ao:=[(.agg,[.int .i64,.list [.int .i64,.int .i64,.int .i64,.list [.int .i64]]])]
def T7:ao:=[(.agg,[.int .i64,.list [.int .i64,.int .i64,.int .i64,.list [.int .i64]]])]
def anb:aQ:=[]
def MA (NN:Nat):(Int×(List (Int×(Int×(Int×(List Int))))))->(Option (Int×(List (Int×(Int×(Int×(List Int))))))):=
 (fun((i0,l1):(Int×(List (Int×(Int×(Int×(List Int)))))))=>
 ca ((ai 0 0 (aa (([]:List (Int×(Int×(Int×(List Int)))))))).ab (fun _=>
 (ai 0 0 (aa (([]:List (Int×(Int×(Int×(List Int)))))))).ab (fun _=>
 bM NN (fun(((l2,i3,i4),i5,i6,l7,l8):(((List (Int×(Int×(Int×(List Int)))))×(Int×Int))×(Int×(Int×((List (Int×(Int×(Int×(List Int)))))×(List (Int×(Int×(Int×(List Int))))))))))=>
 ax (bG i4 i3)
 ((eo l2 i4).ab (fun(i9,cG,eF,dG)=>
 (kj dG).ab (fun eO=>
 (dw eO (aa eO)).ab (fun fg=>
 (ai 0 (aa l8) (aa l8)).ab (fun _=>
 (ai 0 1 (aa (((i9,cG,eF,fg)::([]:List (Int×(Int×(Int×(List Int))))))))).ab (fun _=>
 (lH (bj (aa l8) (aa (((i9,cG,eF,fg)::([]:List (Int×(Int×(Int×(List Int))))))))) 48).ab (fun _=>
 (ai 0 (aa l7) (aa l7)).ab (fun _=>
 (ai 0 (bj (aa l8) (aa (((i9,cG,eF,fg)::([]:List (Int×(Int×(Int×(List Int))))))))) (aa (eY l8 (((i9,cG,eF,fg)::([]:List (Int×(Int×(Int×(List Int)))))))))).ab (fun _=>
 some (Sum.inl ((l2,i3,bA .i64 i4 1),i5,i6,l7,eY l8 (((i9,cG,eF,fg)::([]:List (Int×(Int×(Int×(List Int))))))))))))))))))
 (((ai 0 (aa l7) (aa l7)).ab (fun _=>
 (ai 0 (aa l8) (aa l8)).ab (fun _=>
 some (Sum.inl (i5,i6,l7,l8))))).ab (fun eP=>
 some (Sum.inr eP))))
 ((l1,aS (aa l1),(0:Int)),(0:Int),i0,([]:List (Int×(Int×(Int×(List Int))))),([]:List (Int×(Int×(Int×(List Int)))))))))
 (fun(fP,f8,kD,fQ)=>
 (dw fQ (aa fQ)).ab (fun gk=>
 some (f8,gk))))
theorem wl {m:Int} {r c:Nat} {d:List Int} (hl:d.length=r*c) (h:dD m d):cT m r c (bB c d):=by
 rw[<-iL,qP hl];exact h
theorem asP {r c k:Nat} (M:aO) (hk:k<=r):(aq r c M).take (k*c)=aq k c M:=by
 unfold aq
 rw[<-List.map_take,List.take_range,Nat.min_eq_left (Nat.mul_le_mul_right _ hk)]
theorem EK {m:Int} {r c:Nat} {d:List Int} (hm:dh m) (hl:d.length=r*c) (hd:dD m d):
  BR (m,(r:Int),(c:Int),d)=(((r:Int),(dE m r c d:Int),jd m r c d),((dE m r c d:Int),(c:Int),kP m r c d))/\dE m r c d<=r/\dE m r c d<=c/\
  (jd m r c d).length=r*dE m r c d/\dD m (jd m r c d)/\(kP m r c d).length=dE m r c d*c/\dD m (kP m r c d):=by
 have hM:=wl hl hd
 have hI:=ph hm hM (r:=r) (c:=c) c
 have h1:dE m r c d<=r:=hI.l
 refine⟨?_,h1,hI.lj,iu _ _ _,?_,iu _ _ _,?_⟩
 ·simp only[BR,rq,Int.toNat_natCast]
  rw[asP _ hI.l]
  rfl
 ·unfold jd
  rw[iL]
  intro i hi t ht
  exact hM i hi _ (acx hI.e ht).2
 ·unfold kP
  rw[iL]
  exact fun i hi j hj=>hI.m i (by omega) j hj
theorem aii {m:Int} {r c:Nat} {d:List Int} (hp:cu m=true) (hc:c<=64) (hr:r<=4096) (hl:d.length=r*c) (hd:dD m d):
  x7 (m,(r:Int),(c:Int),d)=some (if r<=64 then(((r:Int),(dE m r c d:Int),jd m r c d),((dE m r c d:Int),(c:Int),kP m r c d),true) else((0,0,[]),(0,0,[]),false)):=by
 have hm:=eT hp
 have dV:r*c<=4096*64:=Nat.mul_le_mul hr hc
 have e:iB m ((r:Int),(c:Int),d)=decide (r<=64):=by
  have fo:nB m d=true:=List.all_eq_true.2 fun x hx=>decide_eq_true (hd x hx)
  have e3:(d.length:Int)=(r:Int)*(c:Int):=by rw[hl];norm_cast
  simp only[iB,hp,fo,e3,decide_true,Bool.true_and,Bool.and_true]
  rw[decide_eq_true (p:=0<=(c:Int)/\(c:Int)<=64) (by omega),Bool.and_true]
  by_cases h:r<=64
  ·rw[decide_eq_true h,decide_eq_true (by omega)]
  ·rw[decide_eq_false h,decide_eq_false (by omega)]
 simp only[x7,Ml]
 rw[if_pos (by show d.length<=_;omega),e,(EK hm hl hd).1]
 by_cases h:r<=64
 ·rw[if_pos h,if_pos (decide_eq_true h)]
 ·rw[if_neg h,if_neg (by rw[decide_eq_false h];simp)]
theorem anR {m:Int} {r k c:Nat} {A B:List Int} (hm:dh m) (hr:r<=4096) (hk:k<=4096) (hc:c<=4096) (h1:r*k<=1048576) (h2:k*c<=1048576) (h3:r*c<=1048576) (hA:A.length=r*k) (hB:B.length=k*c) (qA:dD m A) (qB:dD m B):
  yi (m,((r:Int),(k:Int),A),((k:Int),(c:Int),B))=some ((r:Int),(c:Int),ab1 m r k c A B):=by
 have e:=S3 (r:=r) (k:=k) (c:=c) hm hr hk hc h1 h2 h3 (wl hA qA) (wl hB qB)
 rw[qP hA,qP hB] at e
 exact e
theorem Ly {m:Int} {s:aM} (h:kJ m s=true):∃(b p c:Nat) (d:List Int),s=((b:Int),(p:Int),(c:Int),d)/\b<=32/\c<=32/\(1<=p/\p<=8)/\d.length=b*p*c/\dD m d:=by
 obtain⟨a,p,c,d⟩:=s
 obtain⟨t1,t2,t3,t4,t5⟩:=Wh h
 obtain⟨a,rfl⟩:=fu t1.1
 obtain⟨p,rfl⟩:=fu (show 0<=p by omega)
 obtain⟨c,rfl⟩:=fu t2.1
 refine⟨a,p,c,d,rfl,by omega,by omega,by omega,?_,fun x hx=>of_decide_eq_true (List.all_eq_true.1 t5 x hx)⟩
 have:((a:Int)*(p:Int)*(c:Int))=((a*p*c:Nat):Int):=by norm_cast
 rw[this] at t4;exact_mod_cast t4
theorem Dn {m:Int} {b p c:Nat} {d:List Int} (hb:b<=32) (hc:c<=32) (hp:1<=p/\p<=8) (hl:d.length=b*p*c) (hd:dD m d):kJ m ((b:Int),(p:Int),(c:Int),d)=true:=by
 have fo:nB m d=true:=List.all_eq_true.2 fun x hx=>decide_eq_true (hd x hx)
 have e3:(d.length:Int)=(b:Int)*(p:Int)*(c:Int):=by rw[hl];norm_cast
 simp only[kJ,fo,e3,decide_true,Bool.and_true,Bool.and_eq_true,decide_eq_true_eq]
 omega
def BS (m:Int) (L:List aM):Prop:=(∀k,k<L.length->kJ m (L.getD k bW)=true)/\∀k,k+1<L.length->(L.getD (k+1) bW).1=(L.getD k bW).2.2.1
theorem BT {m:Int} {l:List aM} (h:e7 (m,l)=true):BS m l:=by
 obtain⟨hm,hl,_,_,hs⟩:=uC h
 refine⟨fun k hk=>?_,fun k hk=>?_⟩
 ·obtain⟨p,M,e,h1,h2,h3,h4,h5⟩:=hs k hk
  rw[e]
  exact Dn h1 h2 h3 (iu _ _ _) (iL.2 h4)
 ·obtain⟨p,M,e,_⟩:=hs k (by omega)
  obtain⟨p',M',e',_⟩:=hs (k+1) hk
  rw[e,e']
theorem JP {L:List aM} {i:Nat} {s:aM} (hi:i<L.length) (k:Nat):(L.set i s).getD k bW=if k=i then s else L.getD k bW:=by
 rw[List.getD_eq_getElem?_getD,List.getElem?_set,List.getD_eq_getElem?_getD]
 by_cases h:i=k
 ·subst h;rw[if_pos rfl,if_pos hi,if_pos rfl];rfl
 ·rw[if_neg h,if_neg (fun e=>h e.symm)]
theorem ail {m:Int} {L:List aM} {i:Nat} {s t:aM} (F:BS m L) (hi:i+1<L.length) (hs:kJ m s=true) (ht:kJ m t=true) (h1:s.1=(L.getD i bW).1) (h2:t.1=s.2.2.1) (h3:t.2.2.1=(L.getD (i+1) bW).2.2.1):
  BS m ((L.set i s).set (i+1) t):=by
 have hg:∀k,((L.set i s).set (i+1) t).getD k bW=if k=i+1 then t else if k=i then s else L.getD k bW:=fun k=>by
  rw[JP (by simpa using hi),JP (by omega)]
 refine⟨fun k hk=>?_,fun k hk=>?_⟩
 ·rw[hg]
  by_cases e1:k=i+1
  ·rw[if_pos e1];exact ht
  ·rw[if_neg e1]
   by_cases e2:k=i
   ·rw[if_pos e2];exact hs
   ·rw[if_neg e2];exact F.1 k (by simpa using hk)
 ·rw[hg,hg]
  have cI:k+1<L.length:=by simpa using hk
  by_cases e1:k=i
  ·subst e1
   rw[if_pos rfl,if_neg (by omega),if_pos rfl];exact h2
  ·by_cases e2:k=i+1
   ·subst e2
    rw[if_neg (by omega),if_neg (by omega),if_pos rfl,h3]
    exact F.2 _ cI
   ·by_cases e3:k+1=i
    ·subst e3
     rw[if_neg (by omega),if_pos rfl,if_neg e2,if_neg e1,h1]
     exact F.2 _ cI
    ·rw[if_neg (by omega),if_neg (by omega),if_neg e2,if_neg e1]
     exact F.2 _ cI
theorem N5 {m:Int} {L:List aM} (F:BS m L) {i:Nat} (hi:i+1<L.length):∃(b p c p' c':Nat) (d d':List Int),L[i]? =some ((b:Int),(p:Int),(c:Int),d)/\L[i+1]? =some ((c:Int),(p':Int),(c':Int),d')/\
  L.getD i bW=((b:Int),(p:Int),(c:Int),d)/\L.getD (i+1) bW=((c:Int),(p':Int),(c':Int),d')/\
  b<=32/\c<=32/\c'<=32/\(1<=p/\p<=8)/\(1<=p'/\p'<=8)/\d.length=b*p*c/\d'.length=c*p'*c'/\dD m d/\dD m d':=by
 obtain⟨b,p,c,d,e1,a1,a2,a3,a4,a5⟩:=Ly (F.1 i (by omega))
 obtain⟨b',p',c',d',e2,b1,b2,b3,b4,b5⟩:=Ly (F.1 (i+1) hi)
 have h:=F.2 i hi
 rw[e1,e2] at h
 simp only at h
 have hbc:b'=c:=by omega
 subst hbc
 exact⟨b,p,b',p',c',d,d',by rw[getD_some bW (show i<L.length by omega),e1],by rw[getD_some bW hi,e2],e1,e2,a1,a2,b2,a3,b3,a4,b4,a5,b5⟩
theorem ahv (x:Int×List aM) (y:Int×List aM) (h:AW x=some y):MA aC x=some y:=by
 obtain⟨m,l⟩:=x
 simp only[AW,XC] at h
 split at h
 ·rename_i hs
  rw[<-h]
  obtain⟨hlen,dd⟩:=WX hs
  simp only[MA]
  rw[show ai 0 0 (aa ([]:List (Int×(Int×(Int×(List Int))))))=some () from rfl]
  simp only[av]
  rw[eH (fun i=>((l,aS (aa l),(i:Int)),(0:Int),m,([]:List aM),l.take i)) (r:=Sum.inl ((0:Int),m,([]:List aM),l)) l.length ?_ ?_ ?_ (dk (by omega))]
  ·rw[fx]
   simp only[jJ,av]
  all_goals try simp only
  ·intro j hj
   obtain⟨⟨a,p,c,d⟩,hs⟩:∃e,l[j]? =some e:=⟨_,List.getElem?_eq_getElem hj⟩
   have hd:d.length<=1048576:=dd _ (List.mem_of_getElem? hs)
   have e1:aa (l.take j)=j:=by simp[aa];omega
   have e2:eY (l.take j) [(a,p,c,d)]=l.take (j+1):=by simp[eY,List.take_add_one,hs]
   rw[aR (vt hs),eu,hs,av]
   simp only
   rw[show kj d=some d from if_pos (by omega),av,jJ,av]
   simp only[e1,cC,av,CP,show∀s:aM,aa [s]=1 from fun _=>rfl,show lH (bj j 1) 48=some () from ti (by simp only[bj,eQ];omega),C0 hs (by omega)]
   rw[e2]
  ·rw[aL (xv l),List.take_length]
   simp only[cC,av]
  ·rfl
 ·cases h
theorem aiD {L:List aM} {i j:Nat} {s:aM} (h:i≠j):dt (bR L i s) j=dt L j:=List.getElem?_set_ne h
end Go.Am
end
section
namespace Go.Am
def wF (m:Int) (p p' c':Nat) (X Jn:aO):aO:=fun I J=>ic m (fun q=>X (I%p*p'+J/c') q) (fun q=>Jn (I/p*p+q/p') (q%p'*c'+J%c')) (p*p')
def me (p p' c':Nat) (W:aO) (i j v:Nat):aO:=fun I J=>if I/p<i\/I/p=i/\(J%c'<j\/J%c'=j/\I%p*p'+J/c'<v) then W I J else 0
def s7 (m:Int) (s t:aM) (X:List Int):List Int:=
 aq (s.1.toNat*s.2.1.toNat) (t.2.1.toNat*t.2.2.1.toNat) (wF m s.2.1.toNat t.2.1.toNat t.2.2.1.toNat (bB (s.2.1.toNat*t.2.1.toNat) X)
  (iC m s.2.2.1.toNat (bB s.2.2.1.toNat s.2.2.2) (bB (t.2.1.toNat*t.2.2.1.toNat) t.2.2.2)))
def s8 (m:Int) (l:List aM) (k:Nat) (s t:aM) (W:List Int):List aM:=
 (l.set k (s.1,s.2.1,(dE m (s.1.toNat*s.2.1.toNat) (t.2.1.toNat*t.2.2.1.toNat) W:Int),jd m (s.1.toNat*s.2.1.toNat) (t.2.1.toNat*t.2.2.1.toNat) W)).set (k+1)
  ((dE m (s.1.toNat*s.2.1.toNat) (t.2.1.toNat*t.2.2.1.toNat) W:Int),t.2.1,t.2.2.1,kP m (s.1.toNat*s.2.1.toNat) (t.2.1.toNat*t.2.2.1.toNat) W)
def yx (m:Int) (s t:aM) (x:Int×Int×List Int):Prop:=x.1=s.2.1*t.2.1/\x.2.1=s.2.1*t.2.1/\s.1*s.2.1<=64/\t.2.1*t.2.2.1<=64
instance (m:Int) (s t:aM) (x:Int×Int×List Int):Decidable (yx m s t x):=by unfold yx;infer_instance
def Nn (m:Int) (out:List aM):(Int×List aM)×Bool:=if e7 (m,out)=true then((m,out),true) else((0,[]),false)
def Nm (m:Int) (l:List aM) (k:Int) (x:Int×Int×List Int):(Int×List aM)×Bool:=
 if e7 (m,l)=true/\(0<=k/\k+1<l.length)/\iB m x=true then
  if yx m (l.getD k.toNat bW) (l.getD (k.toNat+1) bW) x then
   Nn m (s8 m l k.toNat (l.getD k.toNat bW) (l.getD (k.toNat+1) bW) (s7 m (l.getD k.toNat bW) (l.getD (k.toNat+1) bW) x.2.2))
  else((0,[]),false)
 else((0,[]),false)
def Mj:(Int×List aM)×Int×Int×Int×List Int->Option ((Int×List aM)×Bool):=fun x=>
 if ug x.1<=1048576/\xY x.2.2<=1048576 then some (Nm x.1.1 x.1.2 x.2.1 x.2.2) else none
def vV:(Int×List aM)×Int×Int×Int×List Int->Option ((Int×List aM)×Bool):=Mj
def HI:ao:=[(.agg,[.int .i64,.list [.int .i64,.int .i64,.int .i64,.list [.int .i64]]]),(.one,[.int .i64]),(.agg,[.int .i64,.int .i64,.list [.int .i64]])]
def TL:ao:=[(.agg,[.int .i64,.list [.int .i64,.int .i64,.int .i64,.list [.int .i64]]]),(.one,[.bool])]
def amT:aQ:=[]
def Mp (NN:Nat):((Int×(List (Int×(Int×(Int×(List Int))))))×(Int×(Int×(Int×(List Int)))))->(Option ((Int×(List (Int×(Int×(Int×(List Int))))))×Bool)):=
 (fun(((i0,l1),i2,i3,i4,l5):((Int×(List (Int×(Int×(Int×(List Int))))))×(Int×(Int×(Int×(List Int))))))=>
 (sR (i0,l1)).ab (fun b6=>
 ax (dA b6)
 (some (((0:Int),([]:List (Int×(Int×(Int×(List Int)))))),false))
 (ax (bG i2 (0:Int))
 (some (((0:Int),([]:List (Int×(Int×(Int×(List Int)))))),false))
 (ax (iW (iF .i64 (aS (aa l1)) (1:Int)) i2)
 (some (((0:Int),([]:List (Int×(Int×(Int×(List Int)))))),false))
 ((rM (i0,i3,i4,l5)).ab (fun b7=>
 ax (dA b7)
 (some (((0:Int),([]:List (Int×(Int×(Int×(List Int)))))),false))
 ((eo l1 i2).ab (fun(i8,i9,cG,ct)=>
 (eo l1 (bA .i64 i2 1)).ab (fun(eA,eG,e9,eP)=>
 ax (gC i3 (cd .i64 i9 eG))
 (some (((0:Int),([]:List (Int×(Int×(Int×(List Int)))))),false))
 (ax (gC i4 (cd .i64 i9 eG))
 (some (((0:Int),([]:List (Int×(Int×(Int×(List Int)))))),false))
 (ax (bG (64:Int) (cd .i64 i8 i9))
 (some (((0:Int),([]:List (Int×(Int×(Int×(List Int)))))),false))
 (ax (bG (64:Int) (cd .i64 eG e9))
 (some (((0:Int),([]:List (Int×(Int×(Int×(List Int)))))),false))
 ((ye (i0,(cd .i64 i8 i9,cG,ct),eA,cd .i64 eG e9,eP)).ab (fun(fP,f8,kD)=>
 (vZ (cd .i64 i8 i9,cd .i64 eG e9)).ab (fun(gz,iQ,dI)=>
 ca ((ai 0 0 (aa (([]:List (Int×(Int×(Int×(List Int)))))))).ab (fun _=>
 (ai 0 (aa kD) (aa kD)).ab (fun _=>
 (ai 0 (aa dI) (aa dI)).ab (fun _=>
 bM NN (fun(((ij,nf),(su,fI),(kU,ky,jY),pT,(nZ,gV,iR,jE),(iS,iT,sv,iV),(kY,jU),(jC,n3),gn,gB,gp):((Int×Int)×((Int×(List (Int×(Int×(Int×(List Int))))))×((Int×(Int×(List Int)))×(Int×((Int×(Int×(Int×(List Int))))×((Int×(Int×(Int×(List Int))))×((Int×Int)×((Int×Int)×((List (Int×(Int×(Int×(List Int)))))×((List Int)×(List Int))))))))))))=>
 ax (bG nf nZ)
 (ca ((ai 0 (aa gn) (aa gn)).ab (fun _=>
 (ai 0 (aa gB) (aa gB)).ab (fun _=>
 (ai 0 (aa gp) (aa gp)).ab (fun _=>
 bM NN (fun(((mL,sx,lM),(kA,jF),(kB,n5,CH),kC,(nh,qX,tD,fJ),(vj,xg,pV,p9),(n6,ni),(i64,qY),nr,tL,od):((Int×(Int×Int))×((Int×(List (Int×(Int×(Int×(List Int))))))×((Int×(Int×(List Int)))×(Int×((Int×(Int×(Int×(List Int))))×((Int×(Int×(Int×(List Int))))×((Int×Int)×((Int×Int)×((List (Int×(Int×(Int×(List Int)))))×((List Int)×(List Int))))))))))))=>
 ax (bG lM pV)
 (ca ((ai 0 (aa nr) (aa nr)).ab (fun _=>
 (ai 0 (aa tL) (aa tL)).ab (fun _=>
 (ai 0 (aa od) (aa od)).ab (fun _=>
 bM NN (fun(((vk,Cw,Cx,Fy),(qZ,tN),(tE,nj,CK),pW,(n7,n8,vl,gL),(Fz,xi,xj,vp),(Cy,Kn),(Ko,FA),tP,tQ,vr):((Int×(Int×(Int×Int)))×((Int×(List (Int×(Int×(Int×(List Int))))))×((Int×(Int×(List Int)))×(Int×((Int×(Int×(Int×(List Int))))×((Int×(Int×(Int×(List Int))))×((Int×Int)×((Int×Int)×((List (Int×(Int×(Int×(List Int)))))×((List Int)×(List Int))))))))))))=>
 ax (bG Fy tE)
 (ca (ca ((ai 0 (aa tP) (aa tP)).ab (fun _=>
 (ai 0 (aa tQ) (aa tQ)).ab (fun _=>
 (ai 0 (aa vr) (aa vr)).ab (fun _=>
 bM NN (fun(((CA,zB,FB,Qz,Kp,zC),(Fv,abp),(zw,xf,Q1),Km,(aaP,Qo,Qp,KA),(Fw,zx,Fx,FI),(Qq,Qr),(aaQ,aaR),xp,xq,CG):((Int×(Int×(Int×(Int×(Int×Int)))))×((Int×(List (Int×(Int×(Int×(List Int))))))×((Int×(Int×(List Int)))×(Int×((Int×(Int×(Int×(List Int))))×((Int×(Int×(Int×(List Int))))×((Int×Int)×((Int×Int)×((List (Int×(Int×(Int×(List Int)))))×((List Int)×(List Int))))))))))))=>
 ax (bG zC xf)
 ((ki ((zw,xf,Q1),Qz,zC)).ab (fun ajF=>
 (Ah .i64 zC zx).ab (fun ajG=>
 (iZ zC zx).ab (fun ajH=>
 (cr xq 0 (aa xq)).ab (fun amf=>
 (ki ((Qq,Qr,amf),bA .i64 (cd .i64 zB Qo) ajG,bA .i64 (cd .i64 ajH Fx) FB)).ab (fun ajI=>
 (iZ (bA .i64 Kp (cd .i64 ajF ajI)) Fv).ab (fun ajJ=>
 (ai 0 (aa xp) (aa xp)).ab (fun _=>
 (ai 0 (aa xq) (aa xq)).ab (fun _=>
 (ai 0 (aa CG) (aa CG)).ab (fun _=>
 some (Sum.inl ((CA,zB,FB,Qz,ajJ,bA .i64 zC 1),(Fv,abp),(zw,xf,Q1),Km,(aaP,Qo,Qp,KA),(Fw,zx,Fx,FI),(Qq,Qr),(aaQ,aaR),xp,xq,CG))))))))))))
 (((ai 0 (aa xp) (aa xp)).ab (fun _=>
 (ai 0 (aa xq) (aa xq)).ab (fun _=>
 (ai 0 (aa CG) (aa CG)).ab (fun _=>
 some (Sum.inl ((Kp,Qz,CA,zB,FB),(Fv,abp),(zw,xf,Q1),Km,(aaP,Qo,Qp,KA),(Fw,zx,Fx,FI),(Qq,Qr),(aaQ,aaR),xp,xq,CG)))))).ab (fun amg=>
 some (Sum.inr amg))))
 ((vk,Cw,Cx,Fy,(0:Int),(0:Int)),(qZ,tN),(tE,nj,CK),pW,(n7,n8,vl,gL),(Fz,xi,xj,vp),(Cy,Kn),(Ko,FA),tP,tQ,vr)))))
 (fun((ajK,Qs,ajL,aaS,aaT),(ajM,amh),(ajN,ajO,ami),ajP,(ajQ,aaU,ajR,amj),(ajS,Qt,aaV,amk),(ajT,ajU),(aaW,aaX),Q4,Q5,KB)=>
 (Ah .i64 Qs Qt).ab (fun ajV=>
 (iZ Qs Qt).ab (fun ajW=>
 (ai 0 (aa KB) (aa KB)).ab (fun _=>
 (oD ((aaW,aaX,KB),bA .i64 (cd .i64 aaS aaU) ajV,bA .i64 (cd .i64 ajW aaV) aaT,ajK)).ab (fun abu=>
 (ai 0 (aa Q4) (aa Q4)).ab (fun _=>
 (ai 0 (aa Q5) (aa Q5)).ab (fun _=>
 (ai 0 (aa KB) (aa abu)).ab (fun _=>
 some (Sum.inl ((Qs,ajL,aaS,aaT),(ajM,amh),(ajN,ajO,ami),ajP,(ajQ,aaU,ajR,amj),(ajS,Qt,aaV,amk),(ajT,ajU),(aaW,aaX),Q4,Q5,abu)))))))))))
 (fun((ajX,ajY,ajZ,aj0),(aj1,aml),(aj2,aj3,amm),aj4,(aj5,aj6,aj7,amn),(aj8,aj9,aka,amo),(akb,akc),(akd,ake),Q6,Q7,Q8)=>
 (ai 0 (aa Q6) (aa Q6)).ab (fun _=>
 (ai 0 (aa Q7) (aa Q7)).ab (fun _=>
 (ai 0 (aa Q8) (aa Q8)).ab (fun _=>
 some (Sum.inl ((ajY,ajZ,aj0,bA .i64 ajX 1),(aj1,aml),(aj2,aj3,amm),aj4,(aj5,aj6,aj7,amn),(aj8,aj9,aka,amo),(akb,akc),(akd,ake),Q6,Q7,Q8)))))))
 (((ai 0 (aa tP) (aa tP)).ab (fun _=>
 (ai 0 (aa tQ) (aa tQ)).ab (fun _=>
 (ai 0 (aa vr) (aa vr)).ab (fun _=>
 some (Sum.inl ((Cx,vk,Cw),(qZ,tN),(tE,nj,CK),pW,(n7,n8,vl,gL),(Fz,xi,xj,vp),(Cy,Kn),(Ko,FA),tP,tQ,vr)))))).ab (fun amp=>
 some (Sum.inr amp))))
 ((mL,sx,lM,(0:Int)),(kA,jF),(kB,n5,CH),kC,(nh,qX,tD,fJ),(vj,xg,pV,p9),(n6,ni),(i64,qY),nr,tL,od)))))
 (fun((akf,akg,akh),(aki,amq),(akj,akk,amr),akl,(akm,akn,ako,ams),(akp,akq,akr,amt),(aks,akt),(aku,akv),Q9,Ra,Rb)=>
 (ai 0 (aa Q9) (aa Q9)).ab (fun _=>
 (ai 0 (aa Ra) (aa Ra)).ab (fun _=>
 (ai 0 (aa Rb) (aa Rb)).ab (fun _=>
 some (Sum.inl ((akg,akh,bA .i64 akf 1),(aki,amq),(akj,akk,amr),akl,(akm,akn,ako,ams),(akp,akq,akr,amt),(aks,akt),(aku,akv),Q9,Ra,Rb)))))))
 (((ai 0 (aa nr) (aa nr)).ab (fun _=>
 (ai 0 (aa tL) (aa tL)).ab (fun _=>
 (ai 0 (aa od) (aa od)).ab (fun _=>
 some (Sum.inl ((sx,mL),(kA,jF),(kB,n5,CH),kC,(nh,qX,tD,fJ),(vj,xg,pV,p9),(n6,ni),(i64,qY),nr,tL,od)))))).ab (fun amu=>
 some (Sum.inr amu))))
 ((ij,nf,(0:Int)),(su,fI),(kU,ky,jY),pT,(nZ,gV,iR,jE),(iS,iT,sv,iV),(kY,jU),(jC,n3),gn,gB,gp)))))
 (fun((akw,akx),(aky,amv),(akz,akA,amw),akB,(akC,akD,akE,amx),(akF,akG,akH,amy),(akI,akJ),(akK,akL),Rc,Rd,Re)=>
 (ai 0 (aa Rc) (aa Rc)).ab (fun _=>
 (ai 0 (aa Rd) (aa Rd)).ab (fun _=>
 (ai 0 (aa Re) (aa Re)).ab (fun _=>
 some (Sum.inl ((akx,bA .i64 akw 1),(aky,amv),(akz,akA,amw),akB,(akC,akD,akE,amx),(akF,akG,akH,amy),(akI,akJ),(akK,akL),Rc,Rd,Re)))))))
 (((ai 0 (aa gn) (aa gn)).ab (fun _=>
 (ai 0 (aa gp) (aa gp)).ab (fun _=>
 some (Sum.inl (ij,(su,fI),pT,(nZ,gV,iR,jE),(iS,iT,sv,iV),(jC,n3),gn,gp))))).ab (fun amz=>
 some (Sum.inr amz))))
 ((i2,(0:Int)),(i0,l1),(i3,i4,l5),(0:Int),(i8,i9,cG,ct),(eA,eG,e9,eP),(fP,f8),(gz,iQ),([]:List (Int×(Int×(Int×(List Int))))),kD,dI)))))
 (fun(aaY,(aaZ,amA),atA,(Qu,Qv,atB,atN),(atC,aa0,aa1,atO),(akM,akN),atP,abv)=>
 (cr abv 0 (aa abv)).ab (fun amB=>
 (x7 (aaZ,akM,akN,amB)).ab (fun((atD,Qw,abw),(aa2,atE,abx),aft)=>
 ax (dA aft)
 (some (((0:Int),([]:List (Int×(Int×(Int×(List Int)))))),false))
 ((AW (aaZ,amA)).ab (fun(aa3,xr)=>
 (fj aaY (aa xr)).ab (fun Ky=>
 (dt xr (bj 0 Ky)).ab (fun(atF,atG,atH,atQ)=>
 (dw abw (aa abw)).ab (fun Rf=>
 (fj (bA .i64 aaY 1) (aa xr)).ab (fun QT=>
 (dt (bR xr (bj 0 Ky) (Qu,Qv,Qw,Rf)) (bj 0 QT)).ab (fun(atJ,atK,atL,atS)=>
 (dw abx (aa abx)).ab (fun aby=>
 (cr (bR (bR xr (bj 0 Ky) (Qu,Qv,Qw,Rf)) (bj 0 QT) (aa2,aa0,aa1,aby)) 0 (aa xr)).ab (fun amC=>
 (sR (aa3,amC)).ab (fun afu=>
 ax (dA afu)
 (some (((0:Int),([]:List (Int×(Int×(Int×(List Int)))))),false))
 ((dw (bR (bR xr (bj 0 Ky) (Qu,Qv,Qw,Rf)) (bj 0 QT) (aa2,aa0,aa1,aby)) (aa xr)).ab (fun amD=>
 some ((aa3,amD),true)))))))))))))))))))))))))))))))
theorem aem {α:Type} {f:α->Nat} {B:Nat}:∀{l:List α},(∀e∈l,f e<=B)->(l.map f).sum<=l.length*B
 |[],_=>by simp
 |a::l,h=>by
  have h1:=h a List.mem_cons_self
  have h2:=aem (f:=f) (B:=B) (l:=l) fun e he=>h e (List.mem_cons_of_mem _ he)
  rw[List.map_cons,List.sum_cons,List.length_cons,Nat.add_mul]
  omega
theorem lx1 {a i b j w v:Nat} (h:a=i/\b=j/\w=v):a<i\/a=i/\(b<j\/b=j/\w<v+1):=by omega
theorem lx2 {a i b j w v:Nat} (q:a<i\/a=i/\(b<j\/b=j/\w<v)):a<i\/a=i/\(b<j\/b=j/\w<v+1):=by omega
theorem lx3 {a i b j w v:Nat} (h:¬(a=i/\b=j/\w=v)) (q:¬(a<i\/a=i/\(b<j\/b=j/\w<v))):¬(a<i\/a=i/\(b<j\/b=j/\w<v+1)):=by omega
theorem lx4 {a i b j w n:Nat} (q:a<i\/a=i/\(b<j\/b=j/\w<n)):a<i\/a=i/\(b<j+1\/b=j+1/\w<0):=by omega
theorem lx5 {a i b j w n:Nat} (hw:w<n) (q:¬(a<i\/a=i/\(b<j\/b=j/\w<n))):¬(a<i\/a=i/\(b<j+1\/b=j+1/\w<0)):=by omega
theorem lx6 {a i b w n:Nat} (q:a<i\/a=i/\(b<n\/b=n/\w<0)):a<i+1\/a=i+1/\(b<0\/b=0/\w<0):=by omega
theorem lx7 {a i b w n:Nat} (hb:b<n) (q:¬(a<i\/a=i/\(b<n\/b=n/\w<0))):¬(a<i+1\/a=i+1/\(b<0\/b=0/\w<0)):=by omega
theorem lx8 {a b w:Nat}:¬(a<0\/a=0/\(b<0\/b=0/\w<0)):=by omega
theorem ata {R C p p' c':Nat} {W:aO} {i j v:Nat} (hR:∀I,I<R->I/p*p+I%p=I) (hp:0<p) (bg:0<p') (hj:j<c') (hv:v<p*p') (hC:C=p'*c'):
  aq R C (jK (me p p' c' W i j v) (i*p+v/p') (v%p'*c'+j) (W (i*p+v/p') (v%p'*c'+j)))=aq R C (me p p' c' W i j (v+1)):=by
 refine iN fun I hI J hJ=>?_
 have cA:0<c':=by omega
 have hx:v%p'<p':=Nat.mod_lt _ bg
 have hu:v/p'<p:=(Nat.div_lt_iff_lt_mul bg).2 hv
 have JU:J/c'<p':=(Nat.div_lt_iff_lt_mul cA).2 (by rw[<-hC];exact hJ)
 have hI2:=Nat.mod_lt I hp
 have bZ:(I=i*p+v/p'/\J=v%p'*c'+j)↔(I/p=i/\J%c'=j/\I%p*p'+J/c'=v):=by
  constructor
  ·rintro⟨rfl,rfl⟩
   rw[pY hu,q9 hu,pY hj,q9 hj]
   exact⟨rfl,rfl,by rw[Nat.mul_comm];exact Nat.div_add_mod v p'⟩
  ·rintro⟨h1,h2,h3⟩
   have e1:v/p'=I%p:=by rw[<-h3];exact pY JU
   have e2:v%p'=J/c':=by rw[<-h3];exact q9 JU
   refine⟨by rw[e1,<-h1];exact(hR I hI).symm,?_⟩
   rw[e2,<-h2,Nat.mul_comm]
   exact(Nat.div_add_mod J c').symm
 unfold jK me
 by_cases h:I=i*p+v/p'/\J=v%p'*c'+j
 ·rw[if_pos h]
  have h':=bZ.1 h
  rw[if_pos (lx1 h'),h.1,h.2]
 ·rw[if_neg h]
  have h':¬(I/p=i/\J%c'=j/\I%p*p'+J/c'=v):=fun e=>h (bZ.2 e)
  by_cases q:I/p<i\/I/p=i/\(J%c'<j\/J%c'=j/\I%p*p'+J/c'<v)
  ·rw[if_pos q,if_pos (lx2 q)]
  ·rw[if_neg q,if_neg (lx3 h' q)]
theorem as9 {R C p p' c':Nat} {W:aO} {i j:Nat} (hp:0<p) (cA:0<c') (hC:C=p'*c'):aq R C (me p p' c' W i j (p*p'))=aq R C (me p p' c' W i (j+1) 0):=by
 refine iN fun I hI J hJ=>?_
 have JU:J/c'<p':=(Nat.div_lt_iff_lt_mul cA).2 (by rw[<-hC];exact hJ)
 have hI2:=Nat.mod_lt I hp
 have bK:=jV hI2 JU
 unfold me
 by_cases q:I/p<i\/I/p=i/\(J%c'<j\/J%c'=j/\I%p*p'+J/c'<p*p')
 ·rw[if_pos q,if_pos (lx4 q)]
 ·rw[if_neg q,if_neg (lx5 bK q)]
theorem as7 {R C p p' c':Nat} {W:aO} {i:Nat} (cA:0<c'\/C=0):aq R C (me p p' c' W i c' 0)=aq R C (me p p' c' W (i+1) 0 0):=by
 refine iN fun I hI J hJ=>?_
 have hc:0<c':=by omega
 have:=Nat.mod_lt J hc
 unfold me
 by_cases q:I/p<i\/I/p=i/\(J%c'<c'\/J%c'=c'/\I%p*p'+J/c'<0)
 ·rw[if_pos q,if_pos (lx6 q)]
 ·rw[if_neg q,if_neg (lx7 this q)]
theorem as8 {b C p p' c':Nat} {W:aO} (hp:0<p):aq (b*p) C (me p p' c' W b 0 0)=aq (b*p) C W:=
 iN fun I hI J _=>if_pos (.inl ((Nat.div_lt_iff_lt_mul hp).2 hI))
theorem as6 {R C p p' c':Nat} {W:aO}:aq R C (me p p' c' W 0 0 0)=aq R C fun _ _=>0:=iN fun I _ J _=>if_neg lx8
theorem aeO {m:Int} {p p' c' i j v:Nat} {X Jn:aO} (bg:0<p') (hj:j<c') (hv:v<p*p'):
  wF m p p' c' X Jn (i*p+v/p') (v%p'*c'+j)=ic m (fun q=>X v q) (fun q=>Jn (i*p+q/p') (q%p'*c'+j)) (p*p'):=by
 have hu:v/p'<p:=(Nat.div_lt_iff_lt_mul bg).2 hv
 unfold wF
 rw[pY hu,q9 hu,pY hj,q9 hj,show v/p'*p'+v%p'=v by rw[Nat.mul_comm];exact Nat.div_add_mod v p']
theorem acK {a b:Nat} (hb:0<b) (ha:a<=1048576):Ah .i64 (a:Int) (b:Int)=some ((a/b:Nat):Int):=afM hb ha
theorem amL {m:Int} {x:Int×Int×List Int} (h:iB m x=true):∃(r c:Nat) (d:List Int),x=((r:Int),(c:Int),d)/\r<=64/\c<=64/\d.length=r*c/\dD m d:=by
 obtain⟨r,c,M,e,_,h1,h2,h3,h4,h5⟩:=abT h
 exact⟨r,c,aq r c M,e,h1,h2,iu _ _ _,iL.2 h4⟩
theorem afF {m:Int} {l out:List aM} {k:Nat} {s t:aM} (hk:e7 (m,l)=true) (hs:s.2.2.2.length<=8192) (ht:t.2.2.2.length<=8192):ug (m,(l.set k s).set (k+1) t)<=131072:=by
 have hl:=(uC hk).2.1
 have F:=BT hk
 have ajt:∀e∈l,rE e<=8192:=fun e he=>by
  obtain⟨q,hq⟩:=List.mem_iff_getElem?.1 he
  have Ci:=CS hq
  obtain⟨b,p,c,d,e1,h1,h2,h3,h4,_⟩:=Ly (F.1 q Ci)
  have e2:=getD_some bW Ci
  rw[hq] at e2
  injection e2 with e2
  rw[<-e2] at e1
  subst e1
  show d.length<=_
  have q1:b*p<=32*8:=Nat.mul_le_mul h1 h3.2
  have q2:b*p*c<=(32*8)*32:=Nat.mul_le_mul q1 h2
  omega
 show((l.set k s).set (k+1) t).length+(((l.set k s).set (k+1) t).map rE).sum<=_
 have h:=aem (f:=rE) (B:=8192) (l:=(l.set k s).set (k+1) t) fun e he=>by
  rcases List.mem_or_eq_of_mem_set he with he|rfl
  ·rcases List.mem_or_eq_of_mem_set he with he|rfl
   ·exact ajt e he
   ·exact hs
  ·exact ht
 have ig:((l.set k s).set (k+1) t).length=l.length:=by simp
 rw[ig] at h⊢
 have:l.length*8192<=8*8192:=Nat.mul_le_mul_right _ hl.2
 omega
theorem afE {m:Int} {l:List aM} {k:Nat} {x:Int×Int×List Int} (hc:e7 (m,l)=true) (hk:k+1<l.length) (hx:iB m x=true) (hb:yx m (l.getD k bW) (l.getD (k+1) bW) x):
  ∃(b p c p' c':Nat) (d d' xd:List Int),l[k]? =some ((b:Int),(p:Int),(c:Int),d)/\l[k+1]? =some ((c:Int),(p':Int),(c':Int),d')/\
   l.getD k bW=((b:Int),(p:Int),(c:Int),d)/\l.getD (k+1) bW=((c:Int),(p':Int),(c':Int),d')/\x=(((p*p':Nat):Int),((p*p':Nat):Int),xd)/\
   b<=32/\c<=32/\c'<=32/\(1<=p/\p<=8)/\(1<=p'/\p'<=8)/\d.length=b*p*c/\d'.length=c*p'*c'/\dD m d/\dD m d'/\b*p<=64/\p'*c'<=64/\p*p'<=64/\xd.length=p*p'*(p*p')/\dD m xd:=by
 obtain⟨b,p,c,p',c',d,d',g1,g2,g3,g4,h1,h2,h3,h4,h5,h6,h7,h8,h9⟩:=N5 (BT hc) hk
 obtain⟨r,q,xd,rfl,r1,r2,r3,r4⟩:=amL hx
 rw[g3,g4] at hb
 obtain⟨q1,q2,q3,q4⟩:=hb
 simp only at q1 q2 q3 q4
 have e1:((p:Int)*(p':Int))=((p*p':Nat):Int):=by norm_cast
 have e2:((b:Int)*(p:Int))=((b*p:Nat):Int):=by norm_cast
 have e3:((p':Int)*(c':Int))=((p'*c':Nat):Int):=by norm_cast
 rw[e1] at q1 q2
 rw[e2] at q3
 rw[e3] at q4
 have hr:r=p*p':=by omega
 have hq:q=p*p':=by omega
 subst hr hq
 exact⟨b,p,c,p',c',d,d',xd,g1,g2,g3,g4,rfl,h1,h2,h3,h4,h5,h6,h7,h8,h9,by omega,by omega,r1,r3,r4⟩
theorem afD {m:Int} {l:List aM} {k:Nat} (hm:dh m) (hk:e7 (m,l)=true) {b p c p' c':Nat} {d d' W:List Int} (h1:b*p<=64) (h2:p'*c'<=64) (hl:W.length=b*p*(p'*c')) (hW:dD m W):
  ug (m,s8 m l k ((b:Int),(p:Int),(c:Int),d) ((c:Int),(p':Int),(c':Int),d') W)<=131072:=by
 obtain⟨_,f1,f2,f3,f4,f5,f6⟩:=EK hm hl hW
 have k1:b*p*dE m (b*p) (p'*c') W<=64*64:=Nat.mul_le_mul h1 (by omega)
 have k2:dE m (b*p) (p'*c') W*(p'*c')<=64*64:=Nat.mul_le_mul (by omega) h2
 simp only[s8,Int.toNat_natCast]
 exact afF (out:=l) hk (by rw[f3];omega) (by rw[f5];omega)
theorem Xk {m:Int} (hm:dh m) (p p' c':Nat) (X Jn:aO) (I J:Nat):eN m (wF m p p' c' X Jn I J):=wE hm _ _ _
theorem aha (x:(Int×List aM)×Int×Int×Int×List Int) (y:(Int×List aM)×Bool) (h:vV x=some y):Mp aC x=some y:=by
 obtain⟨⟨m,l⟩,k,x1,x2,xd⟩:=x
 simp only[vV,Mj] at h
 split at h
 ·rename_i hs
  obtain⟨Kh,Qa⟩:=hs
  rw[<-h]
  simp only[Mp,Nm]
  rw[show sR (m,l)=some (e7 (m,l)) from if_pos Kh,av]
  cases hc:e7 (m,l) with
  |false=>rw[aR (by rfl),if_neg (by simp)]
  |true=>
   rw[aL (by rfl)]
   obtain⟨hm,hl,_⟩:=uC hc
   have bk:cu m=true:=by have:=hc;simp only[e7,Bool.and_eq_true] at this;exact this.1
   by_cases k0:k<0
   ·rw[aR (df k0),if_neg (fun h=>by have:=h.2.1;omega)]
   rw[aL (cN (by omega)),nl,pq (by omega) (by omega)]
   by_cases k1:(l.length:Int) - 1<=k
   ·rw[aR (xu k1),if_neg (fun h=>by have:=h.2.1;omega)]
   rw[aL (CO (by omega)),show rM (m,x1,x2,xd)=some (iB m (x1,x2,xd)) from if_pos Qa,av]
   cases hx:iB m (x1,x2,xd) with
   |false=>rw[aR (by rfl),if_neg (by simp)]
   |true=>
   rw[aL (by rfl),if_pos ⟨rfl,⟨by omega,by omega⟩,rfl⟩]
   obtain⟨k,rfl⟩:=fu (show 0<=k by omega)
   have hk:k+1<l.length:=by omega
   simp only[Int.toNat_natCast]
   obtain⟨b,p,c,p',c',d,d',g1,g2,g3,g4,h1,h2,h3,h4,h5,h6,h7,h8,h9⟩:=N5 (BT hc) hk
   rw[eu,g1,av]
   simp only
   rw[fF (by omega),eu,g2,av]
   simp only
   rw[sD (by omega) (by omega),sD (by omega) (by omega),sD (by omega) (by omega)]
   have e1:((p:Int)*(p':Int))=((p*p':Nat):Int):=by norm_cast
   have e2:((b:Int)*(p:Int))=((b*p:Nat):Int):=by norm_cast
   have e3:((p':Int)*(c':Int))=((p'*c':Nat):Int):=by norm_cast
   have y4:yx m (l.getD k bW) (l.getD (k+1) bW) (x1,x2,xd)↔x1=((p*p':Nat):Int)/\x2=((p*p':Nat):Int)/\b*p<=64/\p'*c'<=64:=by
    rw[g3,g4]
    simp only[yx,e1,e2,e3]
    constructor<;>(rintro⟨a1,a2,a3,a4⟩;exact⟨a1,a2,by omega,by omega⟩)
   by_cases q1:x1=((p*p':Nat):Int)
   rotate_left
   ·rw[aR (vu q1),if_neg (fun h=>q1 (y4.1 h).1)]
   rw[aL (tT q1)]
   by_cases q2:x2=((p*p':Nat):Int)
   rotate_left
   ·rw[aR (vu q2),if_neg (fun h=>q2 (y4.1 h).2.1)]
   rw[aL (tT q2)]
   by_cases q3:b*p<=64
   rotate_left
   ·rw[aR (df (by omega)),if_neg (fun h=>q3 (y4.1 h).2.2.1)]
   rw[aL (cN (by omega))]
   by_cases q4:p'*c'<=64
   rotate_left
   ·rw[aR (df (by omega)),if_neg (fun h=>q4 (y4.1 h).2.2.2)]
   rw[aL (cN (by omega))]
   have hb:=y4.2 ⟨q1,q2,q3,q4⟩
   rw[if_pos hb]
   obtain⟨b_,p_,c_,aW,c'_,d_,d'_,xd_,_,_,z3,z4,z5,_,_,_,_,_,_,_,_,_,_,_,hD,oS,hxd⟩:=afE hc hk hx hb
   rw[g3] at z3
   rw[g4] at z4
   have ep:p_=p:=by injection z3 with _ z;injection z with z _;omega
   have ep':aW=p':=by injection z4 with _ z;injection z with z _;omega
   subst ep ep'
   have ex:xd_=xd:=by injection z5 with _ z;injection z with _ z;exact z.symm
   subst ex
   subst q1 q2
   rw[g3,g4]
   have tr:d'.length=c*(aW*c'):=by rw[h7,Nat.mul_assoc]
   have s1:b*p_*c<=64*32:=Nat.mul_le_mul q3 h2
   have s2:c*(aW*c')<=32*64:=Nat.mul_le_mul h2 q4
   have s3:b*p_*(aW*c')<=64*64:=Nat.mul_le_mul q3 q4
   have s4:p_*aW*(p_*aW)<=64*64:=Nat.mul_le_mul hD hD
   rw[show ye (m,(((b*p_:Nat):Int),(c:Int),d),((c:Int),((aW*c':Nat):Int),d'))=_ from anR hm (by omega) (by omega) (by omega) (by omega) (by omega) (by omega) h6 tr h8 h9,av]
   simp only
   rw[KT (by omega) (by omega) (by omega),av]
   simp only
   rw[show ai 0 0 (aa ([]:List (Int×(Int×(Int×(List Int))))))=some () from rfl]
   simp only[av,cC]
   have Pj:=qP oS
   generalize hX:bB (p_*aW) xd_=X at*
   have aiL:cT m (p_*aW) (p_*aW) X:=by rw[<-iL,Pj];exact hxd
   have hJn:ab1 m (b*p_) c (aW*c') d d'=aq (b*p_) (aW*c') (iC m c (bB c d) (bB (aW*c') d')):=rfl
   generalize hJ:iC m c (bB c d) (bB (aW*c') d')=Jn at*
   have aiH:∀I J,eN m (Jn I J):=fun I J=>by rw[<-hJ];exact wE hm _ _ _
   rw[hJn]
   have hRd:∀I,I<b*p_->I/p_*p_+I%p_=I:=fun I _=>by rw[Nat.mul_comm];exact Nat.div_add_mod I p_
   generalize hW:wF m p_ aW c' X Jn=W
   rw[<-Pj]
   rw[eH (fun i=>(((k:Int),(i:Int)),(m,l),(((p_*aW:Nat):Int),((p_*aW:Nat):Int),aq (p_*aW) (p_*aW) X),(0:Int),((b:Int),(p_:Int),(c:Int),d),((c:Int),(aW:Int),(c':Int),d'),(((b*p_:Nat):Int),((aW*c':Nat):Int)),(((b*p_:Nat):Int),((aW*c':Nat):Int)),([]:List aM),aq (b*p_) (aW*c') Jn,aq (b*p_) (aW*c') (me p_ aW c' W i 0 0)))
    (r:=Sum.inl ((k:Int),(m,l),(0:Int),((b:Int),(p_:Int),(c:Int),d),((c:Int),(aW:Int),(c':Int),d'),(((b*p_:Nat):Int),((aW*c':Nat):Int)),([]:List aM),aq (b*p_) (aW*c') W)) b ?_ ?_ ?_ (dk (by omega))]
   ·rw[fx]
    simp only[fT,av]
    have JX:(aq (b*p_) (aW*c') W).length=b*p_*(aW*c'):=iu _ _ _
    have aiK:dD m (aq (b*p_) (aW*c') W):=iL.2 fun I _ J _=>by rw[<-hW];exact Xk hm _ _ _ _ _ _ _
    rw[aii bk (by omega) (by omega) JX aiK,av,if_pos q3]
    simp only
    rw[aL (by rfl),show AW (m,l)=some (m,l) from if_pos Kh,av]
    simp only
    rw[qE (by show k<l.length;omega)]
    simp only[av,hZ]
    rw[show dt l k=_ from g1]
    simp only[av,jJ]
    rw[fF (by omega),qE (by show k+1<l.length;omega)]
    simp only[av,hZ]
    rw[aiD (by omega),show dt l (k+1)=_ from g2]
    simp only[av,jJ]
    have hTe:s8 m l k ((b:Int),(p_:Int),(c:Int),d) ((c:Int),(aW:Int),(c':Int),d') (s7 m ((b:Int),(p_:Int),(c:Int),d) ((c:Int),(aW:Int),(c':Int),d') (aq (p_*aW) (p_*aW) X))=
      bR (bR l k ((b:Int),(p_:Int),(dE m (b*p_) (aW*c') (aq (b*p_) (aW*c') W):Int),jd m (b*p_) (aW*c') (aq (b*p_) (aW*c') W))) (k+1) ((dE m (b*p_) (aW*c') (aq (b*p_) (aW*c') W):Int),(aW:Int),(c':Int),kP m (b*p_) (aW*c') (aq (b*p_) (aW*c') W)):=by
     have eB:s7 m ((b:Int),(p_:Int),(c:Int),d) ((c:Int),(aW:Int),(c':Int),d') (aq (p_*aW) (p_*aW) X)=aq (b*p_) (aW*c') W:=by
      simp only[s7,Int.toNat_natCast]
      rw[Pj,hX,hJ,hW]
     simp only[s8,Int.toNat_natCast,eB]
     rfl
    rw[<-hTe]
    have bP:ug (m,s8 m l k ((b:Int),(p_:Int),(c:Int),d) ((c:Int),(aW:Int),(c':Int),d') (s7 m ((b:Int),(p_:Int),(c:Int),d) ((c:Int),(aW:Int),(c':Int),d') (aq (p_*aW) (p_*aW) X)))<=131072:=by
     refine afD hm hc q3 q4 ?_ ?_
     ·simp only[s7,Int.toNat_natCast,iu]
     ·simp only[s7,Int.toNat_natCast]
      exact iL.2 fun I _ J _=>Xk hm _ _ _ _ _ _ _
    have ig:aa l=aa (s8 m l k ((b:Int),(p_:Int),(c:Int),d) ((c:Int),(aW:Int),(c':Int),d') (s7 m ((b:Int),(p_:Int),(c:Int),d) ((c:Int),(aW:Int),(c':Int),d') (aq (p_*aW) (p_*aW) X))):=by
     simp[s8,aa]
    rw[ig]
    generalize s8 m l k ((b:Int),(p_:Int),(c:Int),d) ((c:Int),(aW:Int),(c':Int),d') (s7 m ((b:Int),(p_:Int),(c:Int),d) ((c:Int),(aW:Int),(c':Int),d') (aq (p_*aW) (p_*aW) X))=out at*
    simp only[fT,av]
    rw[show sR (m,out)=some (e7 (m,out)) from if_pos (by omega),av,Nn]
    cases e7 (m,out) with
    |false=>rfl
    |true=>
     rw[aL (by rfl),if_pos rfl]
     simp only[jJ,av]
   ·intro i hi
    simp only
    rw[aR (j3 hi)]
    rw[eH (fun j=>(((k:Int),(i:Int),(j:Int)),(m,l),(((p_*aW:Nat):Int),((p_*aW:Nat):Int),aq (p_*aW) (p_*aW) X),(0:Int),((b:Int),(p_:Int),(c:Int),d),((c:Int),(aW:Int),(c':Int),d'),(((b*p_:Nat):Int),((aW*c':Nat):Int)),(((b*p_:Nat):Int),((aW*c':Nat):Int)),([]:List aM),aq (b*p_) (aW*c') Jn,aq (b*p_) (aW*c') (me p_ aW c' W i j 0)))
     (r:=Sum.inl (((i:Int),(k:Int)),(m,l),(((p_*aW:Nat):Int),((p_*aW:Nat):Int),aq (p_*aW) (p_*aW) X),(0:Int),((b:Int),(p_:Int),(c:Int),d),((c:Int),(aW:Int),(c':Int),d'),(((b*p_:Nat):Int),((aW*c':Nat):Int)),(((b*p_:Nat):Int),((aW*c':Nat):Int)),([]:List aM),aq (b*p_) (aW*c') Jn,aq (b*p_) (aW*c') (me p_ aW c' W (i+1) 0 0))) c' ?_ ?_ ?_ (dk (by omega))]
    ·rw[fx]
     simp only[cC,av,fF (show i<=1048577 by omega)]
    ·intro j hj
     simp only
     rw[aR (j3 hj)]
     rw[eH (fun v=>(((k:Int),(i:Int),(j:Int),(v:Int)),(m,l),(((p_*aW:Nat):Int),((p_*aW:Nat):Int),aq (p_*aW) (p_*aW) X),(0:Int),((b:Int),(p_:Int),(c:Int),d),((c:Int),(aW:Int),(c':Int),d'),(((b*p_:Nat):Int),((aW*c':Nat):Int)),(((b*p_:Nat):Int),((aW*c':Nat):Int)),([]:List aM),aq (b*p_) (aW*c') Jn,aq (b*p_) (aW*c') (me p_ aW c' W i j v)))
      (r:=Sum.inl (((j:Int),(k:Int),(i:Int)),(m,l),(((p_*aW:Nat):Int),((p_*aW:Nat):Int),aq (p_*aW) (p_*aW) X),(0:Int),((b:Int),(p_:Int),(c:Int),d),((c:Int),(aW:Int),(c':Int),d'),(((b*p_:Nat):Int),((aW*c':Nat):Int)),(((b*p_:Nat):Int),((aW*c':Nat):Int)),([]:List aM),aq (b*p_) (aW*c') Jn,aq (b*p_) (aW*c') (me p_ aW c' W i (j+1) 0))) (p_*aW) ?_ ?_ ?_ (dk (by omega))]
     ·rw[fx]
      simp only[cC,av,fF (show j<=1048577 by omega)]
     ·intro v hv
      have hvx:v%aW<aW:=Nat.mod_lt _ (by omega)
      have hvu:v/aW<p_:=(Nat.div_lt_iff_lt_mul (by omega)).2 hv
      have hI:=jV hi hvu
      have hJJ:=jV hvx hj
      simp only
      rw[aR (j3 hv)]
      rw[eH (fun q=>(((k:Int),(i:Int),(j:Int),(v:Int),ic m (fun q=>X v q) (fun q=>Jn (i*p_+q/aW) (q%aW*c'+j)) q,(q:Int)),(m,l),(((p_*aW:Nat):Int),((p_*aW:Nat):Int),aq (p_*aW) (p_*aW) X),(0:Int),((b:Int),(p_:Int),(c:Int),d),((c:Int),(aW:Int),(c':Int),d'),(((b*p_:Nat):Int),((aW*c':Nat):Int)),(((b*p_:Nat):Int),((aW*c':Nat):Int)),([]:List aM),aq (b*p_) (aW*c') Jn,aq (b*p_) (aW*c') (me p_ aW c' W i j v)))
       (r:=Sum.inl ((W (i*p_+v/aW) (v%aW*c'+j),(v:Int),(k:Int),(i:Int),(j:Int)),(m,l),(((p_*aW:Nat):Int),((p_*aW:Nat):Int),aq (p_*aW) (p_*aW) X),(0:Int),((b:Int),(p_:Int),(c:Int),d),((c:Int),(aW:Int),(c':Int),d'),(((b*p_:Nat):Int),((aW*c':Nat):Int)),(((b*p_:Nat):Int),((aW*c':Nat):Int)),([]:List aM),aq (b*p_) (aW*c') Jn,aq (b*p_) (aW*c') (me p_ aW c' W i j v))) (p_*aW) ?_ ?_ ?_ (dk (by omega))]
      ·rw[fx]
       simp only
       rw[acK (by omega) (by omega),av,Yr (by omega),av]
       try simp only[cC,av]
       rw[tG (by omega) (by omega) (by omega),tG (by omega) (by omega) (by omega),vJ (by omega) (by omega) (by omega) hI hJJ,av]
       rw[ata hRd (by omega) (by omega) hj hv rfl]
       simp only[uQ,av]
       rw[fx]
       simp only[fF (show v<=1048577 by omega)]
      ·intro q hq
       have hqx:q%aW<aW:=Nat.mod_lt _ (by omega)
       have hqu:q/aW<p_:=(Nat.div_lt_iff_lt_mul (by omega)).2 hq
       simp only
       rw[aR (j3 hq),nH (by omega) (by omega) (by omega) hv hq,av,acK (by omega) (by omega),av,Yr (by omega),av]
       simp only[fT,av]
       rw[tG (by omega) (by omega) (by omega),tG (by omega) (by omega) (by omega),nH (by omega) (by omega) (by omega) (jV hi hqu) (jV hqx hj),av,KF hm ((wE hm _ _ q).s hm) (aiL v hv q hq).le (aiH _ _).le,av]
       simp only[cC,av,fF (show q<=1048577 by omega),ic]
      ·simp only
       rw[aL (j0 (Nat.le_refl _)),<-hW,aeO (by omega) hj hv]
       try simp only[cC,av]
      ·rfl
     ·simp only
      rw[aL (j0 (Nat.le_refl _)),as9 (by omega) (by omega) rfl]
      try simp only[cC,av]
     ·rfl
    ·simp only
     rw[aL (j0 (Nat.le_refl _)),as7 (by rcases Nat.eq_zero_or_pos c' with h|h;exact .inr (by rw[h];simp);exact .inl h)]
     try simp only[cC,av]
    ·rfl
   ·simp only
    rw[aL (j0 (Nat.le_refl _)),as8 (by omega)]
    try simp only[cC,av]
   ·rw[as6];rfl
 ·cases h
end Go.Am
end
section
namespace Go.Am
section
variable {A1 A2 A3 A4 A5 X Y Z T ρ:Type}
end
section
variable {p:Int} {n:Nat} {a b:List Int} {ms:List jL} {N k:Nat}
end
section
variable {p:Int} {n:Nat} {a b:List Int} {ms:List jL} {N k:Nat}
theorem O8 {α:Type} (l r:List α):ai 0 (bj (aa l) (aa r)) (aa (eY l r))=some ():=yW (by simp[bj,aa,eY])
end
end Go.Am
end
section
namespace Go.Am
def Is:ao:=[(.agg,[.int .i64,.int .i64,.int .i64]),(.agg,[.list [.int .i64],.list [.int .i64],.list [.int .i64]]),(.one,[.list [.int .i64]])]
def Un:ao:=[(.agg,[.list [.int .i64],.list [.int .i64],.list [.int .i64]])]
def anr:aQ:=[]
def MP (NN:Nat):((Int×(Int×Int))×(((List Int)×((List Int)×(List Int)))×(List Int)))->(Option ((List Int)×((List Int)×(List Int)))):=
 (fun(((i0,i1,i2),(l3,l4,l5),l6):((Int×(Int×Int))×(((List Int)×((List Int)×(List Int)))×(List Int))))=>
 (kj l6).ab (fun l7=>
 (rh (aS (aa l6)) (aS (aa l6)) 8).ab (fun k8=>
 ca ((ai 0 0 (aa (([]:List Int)))).ab (fun _=>
 (ai 0 0 (aa (([]:List Int)))).ab (fun _=>
 (ai 0 0 (aa (([]:List Int)))).ab (fun _=>
 (ai 0 (aa l7) (aa l7)).ab (fun _=>
 (ai 0 k8 (aa (eU k8 (0:Int)))).ab (fun _=>
 (ai 0 0 (aa (([]:List Int)))).ab (fun _=>
 bM NN (fun(((l9,fy,eF,eA),(eG,e9,ii),(iU,gj,kD),fQ,gk,dI,dM,fz,fh):(((List Int)×((List Int)×(Int×Int)))×((Int×(Int×Int))×(((List Int)×((List Int)×(List Int)))×((List Int)×((List Int)×((List Int)×((List Int)×((List Int)×(List Int))))))))))=>
 ax (bG eA eF)
 ((eo fy eA).ab (fun ng=>
 (AV ((iU,gj,kD),ng)).ab (fun kU=>
 (eo gj kU).ab (fun ky=>
 (fj eA (aa fz)).ab (fun xo=>
 (dt fz (bj 0 xo)).ab (fun pT=>
 (ai 0 (aa fQ) (aa fQ)).ab (fun _=>
 (ai 0 (aa gk) (aa gk)).ab (fun _=>
 (ai 0 (aa dI) (aa dI)).ab (fun _=>
 (ai 0 (aa dM) (aa dM)).ab (fun _=>
 (ai 0 (aa fz) (aa (bR fz (bj 0 xo) ky))).ab (fun _=>
 (ai 0 (aa fh) (aa fh)).ab (fun _=>
 some (Sum.inl ((l9,fy,eF,bA .i64 eA 1),(eG,e9,ii),(iU,gj,kD),fQ,gk,dI,dM,bR fz (bj 0 xo) ky,fh))))))))))))))
 (((ai 0 (aa fQ) (aa fQ)).ab (fun _=>
 (ai 0 (aa gk) (aa gk)).ab (fun _=>
 (ai 0 (aa dI) (aa dI)).ab (fun _=>
 (ai 0 (aa dM) (aa dM)).ab (fun _=>
 (ai 0 (aa fz) (aa fz)).ab (fun _=>
 (ai 0 (aa fh) (aa fh)).ab (fun _=>
 some (Sum.inl (l9,(eG,e9,ii),(iU,gj,kD),fQ,gk,dI,dM,fz,fh))))))))).ab (fun jh=>
 some (Sum.inr jh))))
 ((l6,l6,aS (aa l6),(0:Int)),(i0,i1,i2),(l3,l4,l5),([]:List Int),([]:List Int),([]:List Int),l7,eU k8 (0:Int),([]:List Int)))))))))
 (fun(nk,(iR,mK,iS),(tK,gA,iV),kE,ji,jZ,gm,gn,gB)=>
 (Bc ((tK,gA,iV),nk)).ab (fun gp=>
 (rh (aS (aa nk)) (aS (aa nk)) 8).ab (fun QV=>
 (ai 0 (aa gp) (aa gp)).ab (fun _=>
 (ai 0 QV (aa (eU QV (0:Int)))).ab (fun _=>
 (ai 0 (aa kE) (aa kE)).ab (fun _=>
 (ai 0 (aa ji) (aa ji)).ab (fun _=>
 (ai 0 (aa jZ) (aa jZ)).ab (fun _=>
 (ai 0 (aa gm) (aa gm)).ab (fun _=>
 (ai 0 (aa gn) (aa gn)).ab (fun _=>
 (ai 0 (aa gB) (aa gB)).ab (fun _=>
 bM NN (fun(((sx,lM,kA),(jF,l50,zM),CH,CI,n9,lg,gK,fJ,oW,jk):((Int×(Int×Int))×(((List Int)×((List Int)×(List Int)))×((List Int)×((List Int)×((List Int)×((List Int)×((List Int)×((List Int)×((List Int)×(List Int)))))))))))=>
 (cr oW 0 (aa oW)).ab (fun zN=>
 (cr jk 0 (aa jk)).ab (fun p9=>
 (AZ (zN,p9)).ab (fun n6=>
 (yd ((sx,lM,kA),(jF,l50,zM),n6)).ab (fun CJ=>
 (ai 0 (aa fJ) (aa fJ)).ab (fun _=>
 (lH (bj (aa fJ) (aa CJ)) 8).ab (fun _=>
 (cr gK 0 (aa gK)).ab (fun zO=>
 (ai 0 (aa jk) (aa jk)).ab (fun _=>
 (uk (zO,jk)).ab (fun(b65,nr)=>
 ax (dA b65)
 (((dw lg (aa lg)).ab (fun tL=>
 (dw gK (aa gK)).ab (fun od=>
 (dw (eY fJ CJ) (bj (aa fJ) (aa CJ))).ab (fun tM=>
 some (tL,od,tM))))).ab (fun((oe,lP,lQ):((List Int)×((List Int)×(List Int))))=>
 some (Sum.inr (oe,lP,lQ))))
 ((ai 0 (aa oW) (aa oW)).ab (fun _=>
 (ai 0 (aa jk) (aa nr)).ab (fun _=>
 (ai 0 (aa CH) (aa CH)).ab (fun _=>
 (ai 0 (aa CI) (aa CI)).ab (fun _=>
 (ai 0 (aa n9) (aa n9)).ab (fun _=>
 (ai 0 (aa lg) (aa lg)).ab (fun _=>
 (ai 0 (aa gK) (aa gK)).ab (fun _=>
 (ai 0 (bj (aa fJ) (aa CJ)) (aa (eY fJ CJ))).ab (fun _=>
 some (Sum.inl ((sx,lM,kA),(jF,l50,zM),CH,CI,n9,lg,gK,eY fJ CJ,oW,nr)))))))))))))))))))))
 ((iR,mK,iS),(tK,gA,iV),kE,ji,jZ,gm,gn,gB,gp,eU QV (0:Int))))))))))))))))
theorem AE {r:Rg} {L D A:List Int} (h:gF r (L,D,A)=true):nI L D=true/\dr D<=4096:=by
 simp only[gF,Bool.and_eq_true,decide_eq_true_eq] at h
 obtain⟨h1,h2,h3,h4⟩:=h
 by_cases ha:nI L D=true/\dr D<=4096
 ·exact ha
 ·have e:jp L D= -1:=if_neg ha
  rw[e] at h2
  exact absurd h2 (by decide)
theorem Ym (r:Rg) (A:List Int) (off:Nat->Nat):∀n,(nJ r A off n).length<=n*cg r
 |0=>by simp[nJ]
 |n+1=>by
  have ih:=Ym r A off n
  unfold nJ
  rw[List.length_append,Nat.add_mul,Nat.one_mul]
  have:(lr A (off n*cg r) (cg r)).length<=cg r:=by unfold lr;rw[List.length_take];omega
  omega
theorem aph {L D S:List Int} (I:hH L D S) (n:Nat):sN (fun i=>((dm (dX L D S) n).getD i 0).toNat*((po L D S).getD i 0).toNat) (po L D S).length=jG L D S n:=by
 rw[show(po L D S).length=S.length from fc _ _]
 unfold jG
 refine UR _ fun i hi=>?_
 rw[Kq (by unfold dX;rw[fc];exact hi)]
 unfold gP
 rw[xG I.nS hi]
 congr 1
 unfold po
 rw[List.getD_eq_getElem?_getD,nz _ hi]
 exact Int.toNat_natCast _
theorem asw {L D S:List Int} (I:hH L D S) (hp:bJ D<=4096):Au (po L D S) 1048576:=by
 refine⟨by unfold po;rw[fc,I.Gs];exact I.dG,fun x hx=>?_⟩
 obtain⟨i,hi,rfl⟩:=List.mem_map.1 hx
 have h1:=I.yu (List.mem_range.1 hi)
 have:=aet I.km (i:=cD L (S.getD i 0)+1) (by have:=I.len;omega)
 omega
theorem akP {L D S:List Int} (I:hH L D S) (n:Nat):Au (dm (dX L D S) n) 8:=by
 refine⟨by unfold dm dX;rw[fc,fc,I.Gs];exact I.dG,fun x hx=>?_⟩
 obtain⟨i,hi,rfl⟩:=List.mem_map.1 hx
 have hi:i<S.length:=by have:=List.mem_range.1 hi;unfold dX at this;rwa[fc] at this
 have h1:=I.Y2 n hi
 have h2:=I.lG _ (mF (l:=D) (i:=cD L (S.getD i 0)) (by have:=I.yu hi;have:=I.len;omega))
 omega
theorem afs {L D A S:List Int} (I:hH L D S) {i:Nat} (hi:i<S.length):yR L (S.getD i 0)=((cD L (S.getD i 0):Nat):Int):=if_pos (I.yu hi)
def Ab (L D S:List Int) (j:Nat) (i:Nat):Int:=if i<j then D.getD (cD L (S.getD i 0)) 0 else 0
theorem ahL (x:Rg×T3×List Int) (y:T3) (h:A8 x=some y):MP aC x=some y:=by
 obtain⟨⟨k,p,m⟩,⟨L,D,A⟩,S⟩:=x
 simp only[A8,XA] at h
 split at h
 ·rename_i hc
  rw[<-h]
  obtain⟨ht,hS⟩:=hc
  try dsimp only at ht hS
  have qR:=(AE ht).1
  have I:=hH.mk' qR hS
  obtain⟨hr,⟨hl,hd⟩,Cp,⟨vb,oQ⟩,hA,hD,jQ,hpI,_⟩:=DH ht
  have hw:=DR hr
  have EX:=I.dG
  have hll:=I.len
  have gI:=I.Gs
  have Kg:=I.prod
  have hDP:=I.age
  have fY:(dX L D S).length=S.length:=fc _ _
  simp only[MP]
  rw[show kj S=some S from if_pos (by omega)]
  simp only[cz]
  rw[CV (by simp only[aa,eQ];omega)]
  simp only[cz,cC]
  rw[show ai 0 0 (aa ([]:List Int))=some () from rfl,show ai 0 (aa S) (aa (eU (aa S) (0:Int)))=some () from yW (by simp[aa,eU])]
  simp only[cz]
  rw[eH (r:=Sum.inl (S,(k,p,m),(L,D,A),([]:List Int),([]:List Int),([]:List Int),S,dX L D S,([]:List Int))) (fun j=>((S,S,(S.length:Int),(j:Int)),(k,p,m),(L,D,A),([]:List Int),([]:List Int),([]:List Int),S,bC S.length (Ab L D S j),([]:List Int))) S.length ?a1 ?a2 ?a3 (dk (by omega))]
  case a3=>
   rw[acX]
   rfl
  case a2=>
   dsimp only
   rw[aL (cN (by omega))]
   try simp only[cC,cz]
   rw[show bC S.length (Ab L D S S.length)=dX L D S from jo fun i hi=>if_pos hi]
  case a1=>
   intro i hi
   dsimp only
   have bU:=I.yu hi
   rw[aR (df (by omega)),eu,r6 hi]
   simp only[cz]
   rw[show AV ((L,D,A),S.getD i 0)=some (yR L (S.getD i 0)) from if_pos (by dsimp only;omega),afs (A:=A) I hi]
   simp only[cz]
   rw[eu,r6 (l:=D) (i:=cD L (S.getD i 0)) (by omega)]
   simp only[cz]
   rw[BD _ hi]
   simp only[cz,hZ]
   rw[wL _ hi]
   simp only[cz,cC]
   rw[Gb,show ai 0 (aa (bC S.length (Ab L D S i))) (aa (bC S.length fun q=>if q=i then D.getD (cD L (S.getD i 0)) 0 else Ab L D S i q))=some () from pL _ _ _]
   simp only[cz]
   rw[gw (by omega) (by omega)]
   rw[show bC S.length (fun q=>if q=i then D.getD (cD L (S.getD i 0)) 0 else Ab L D S i q)=bC S.length (Ab L D S (i+1)) from jo fun q hq=>by
    unfold Ab
    by_cases nc:q=i
    ·subst nc;rw[if_pos rfl,if_pos (by omega)]
    ·rw[if_neg nc]
     by_cases bK:q<i
     ·rw[if_pos bK,if_pos (by omega)]
     ·rw[if_neg bK,if_neg (by omega)]]
   rfl
  simp only[ca,Option.bind]
  rw[show Bc ((L,D,A),S)=some (po L D S) from if_pos ⟨qR,hS,oQ⟩]
  simp only[cz]
  rw[CV (by simp only[aa,eQ];omega)]
  simp only[cz,cC]
  rw[show ai 0 (aa S) (aa (eU (aa S) (0:Int)))=some () from yW (by simp[aa,eU])]
  simp only[cz]
  have ai2:eU (aa S) (0:Int)=dm (dX L D S) 0:=by
   have:=aa5 hDP
   rw[show aa (dX L D S)=aa S from fY] at this
   exact this
  have aaD:∀n,n<bJ D->AZ (po L D S,dm (dX L D S) n)=some ((jG L D S n:Nat):Int)/\yd ((k,p,m),(L,D,A),((jG L D S n:Nat):Int))=some (lr A (jG L D S n*cg (k,p,m)) (cg (k,p,m)))/\
    lH (bj (aa (nJ (k,p,m) A (jG L D S) n)) (aa (lr A (jG L D S n*cg (k,p,m)) (cg (k,p,m))))) 8=some ()/\uk (dX L D S,dm (dX L D S) n)=some (decide (n+1<bJ D),dm (dX L D S) (n+1)):=by
   intro n hn
   have ho:=I.aci n
   refine⟨?_,?_,?_,?_⟩
   ·rw[<-aph I n]
    exact if_pos ⟨asw I oQ,akP I n,by show(po L D S).length=(dm (dX L D S) n).length;unfold po dm;rw[fc,fc,fY]⟩
   ·have h1:(jG L D S n+1)*cg (k,p,m)<=bJ D*cg (k,p,m):=Nat.mul_le_mul_right _ ho
    have h2:bJ D*cg (k,p,m)<=4096*6:=Nat.mul_le_mul oQ hw.2.2
    rw[show yd ((k,p,m),(L,D,A),((jG L D S n:Nat):Int))=_ from if_pos ⟨hr,by dsimp only;omega,by dsimp only;rw[Int.toNat_natCast];omega,by dsimp only;omega⟩]
    rfl
   ·have h1:=Ym (k,p,m) A (jG L D S) n
    have h2:n*cg (k,p,m)<=4096*6:=Nat.mul_le_mul (by omega) hw.2.2
    have h3:(lr A (jG L D S n*cg (k,p,m)) (cg (k,p,m))).length<=6:=by unfold lr;rw[List.length_take];omega
    exact ti (by simp only[bj,aa,eQ];omega)
   ·have:=S4 hDP (n:=n) (by rw[Kg];exact hn) (by rw[Kg];omega)
    rw[Kg] at this
    exact this
  rw[ai2]
  rw[eH (r:=vz (k,p,m) (L,D,A) S) (fun n=>((k,p,m),(L,D,A),([]:List Int),([]:List Int),([]:List Int),S,dX L D S,nJ (k,p,m) A (jG L D S) n,po L D S,dm (dX L D S) n)) (bJ D - 1) ?b1 ?b2 ?b3 (dk (by omega))]
  case b3=>rfl
  case b2=>
   obtain⟨q1,q2,q3,q4⟩:=aaD (bJ D - 1) (by omega)
   dsimp only
   simp only[fT,cC,cz]
   rw[q1]
   simp only[cz]
   rw[q2]
   simp only[cz]
   rw[q3]
   simp only[cz]
   rw[q4]
   simp only[cz]
   rw[decide_eq_false (by omega),aR (b:=dA false) rfl]
   simp only[jJ,cz]
   rw[asI (by simp[bj,aa,eY])]
   simp only[cz]
   show some (Sum.inr (S,dX L D S,nJ (k,p,m) A (jG L D S) (bJ D - 1)++lr A (jG L D S (bJ D - 1)*cg (k,p,m)) (cg (k,p,m))))=some (Sum.inr (S,dX L D S,nJ (k,p,m) A (jG L D S) (bJ (dX L D S))))
   rw[Kg]
   obtain⟨N,hN⟩:∃N,bJ D=N+1:=⟨bJ D - 1,by omega⟩
   rw[hN]
   rfl
  case b1=>
   intro n hn
   obtain⟨q1,q2,q3,q4⟩:=aaD n (by omega)
   dsimp only
   simp only[fT,cC,cz]
   rw[q1]
   simp only[cz]
   rw[q2]
   simp only[cz]
   rw[q3]
   simp only[cz]
   rw[q4]
   simp only[cz]
   rw[decide_eq_true (by omega),aL (b:=dA true) rfl]
   rw[show ai 0 (aa (dm (dX L D S) n)) (aa (dm (dX L D S) (n+1)))=some () from by unfold dm;exact pL _ _ _]
   simp only[cz]
   rw[O8]
   rfl
 ·cases h
end Go.Am
end
section
namespace Go.Am
def HY:ao:=[(.agg,[.int .i64,.int .i64,.int .i64]),(.agg,[.list [.int .i64],.list [.int .i64],.list [.int .i64]])]
def T0:ao:=[(.agg,[.list [.int .i64],.list [.int .i64],.list [.int .i64]])]
def am5:aQ:=[]
def Mw (NN:Nat):((Int×(Int×Int))×((List Int)×((List Int)×(List Int))))->(Option ((List Int)×((List Int)×(List Int)))):=
 (fun(((i0,i1,i2),l3,l4,l5):((Int×(Int×Int))×((List Int)×((List Int)×(List Int)))))=>
 (oE ((i0,i1,i2),l3,l4,l5)).ab (fun b6=>
 ax (dA b6)
 (some (([]:List Int),([]:List Int),([]:List Int)))
 ((Bb l3).ab (fun l7=>
 (cr l7 0 (aa l7)).ab (fun l8=>
 (A8 ((i0,i1,i2),(l3,l4,l5),l8)).ab (fun(l9,fy,ct)=>
 (dw l9 (aa l9)).ab (fun dG=>
 (dw fy (aa fy)).ab (fun eO=>
 (dw ct (aa ct)).ab (fun fg=>
 some (dG,eO,fg))))))))))
theorem ahp (x:Rg×T3) (y:T3) (h:vW x=some y):Mw aC x=some y:=by
 obtain⟨⟨k,p,m⟩,L,D,A⟩:=x
 simp only[vW,Xu] at h
 split at h
 ·rename_i hc
  rw[<-h]
  simp only[Mw]
  rw[show oE ((k,p,m),L,D,A)=some (gF (k,p,m) (L,D,A)) from if_pos hc]
  simp only[cz]
  unfold lv
  cases ht:gF (k,p,m) (L,D,A) with
  |false=>rw[aR (b:=dA false) rfl,if_neg (by simp)]
  |true=>
   have EX:=(s0 (AE ht).1).1
   rw[aL (b:=dA true) rfl,if_pos rfl,show Bb L=some (fC L L.length) from if_pos EX]
   simp only[cz,fT]
   rw[show A8 ((k,p,m),(L,D,A),fC L L.length)=some (vz (k,p,m) (L,D,A) (fC L L.length)) from if_pos ⟨ht,rfl⟩]
   simp only[cz,vz,jJ]
 ·cases h
end Go.Am
end
section
namespace Go.Am
abbrev mS:=Nat×List Int×List aM
def cK (m:Int) (D:List Int) (i:Nat) (st:mS):Nat:=dE m (st.1*(D.getD i 0).toNat) (bn D (i+1)) st.2.1
def uA (m:Int) (D:List Int) (i:Nat) (st:mS):mS:=
 (cK m D i st,kP m (st.1*(D.getD i 0).toNat) (bn D (i+1)) st.2.1,st.2.2++[((st.1:Int),D.getD i 0,(cK m D i st:Int),jd m (st.1*(D.getD i 0).toNat) (bn D (i+1)) st.2.1)])
def Ej (D:List Int) (i:Nat) (st:mS):Bool:=decide (st.1*(D.getD i 0).toNat<=64/\bn D (i+1)<=64)
def NK (m:Int) (D:List Int) (i:Nat) (st:mS) (_:Nat):Option mS:=if Ej D i st=true then(if cK m D i st<=32 then some (uA m D i st) else none) else none
def zR (D:List Int) (st:mS):List aM:=st.2.2++[((st.1:Int),D.getD (D.length - 1) 0,1,st.2.1)]
structure uj (m:Int) (D A:List Int):Prop where
 pr:cu m=true
 l1:1<=D.length
 l8:D.length<=8
 lG:∀x∈D,1<=x/\x<=8
 pn:bJ D<=4096
 len:A.length=bJ D
 el:dD m A
structure sU (m:Int) (D:List Int) (i:Nat) (st:mS):Prop where
 left:st.1<=64
 len:st.2.1.length=st.1*bn D i
 el:dD m st.2.1
 jb:st.2.2.length=i
 sz:vO st.2.2<=i*5000
theorem asE (L:List aM) (s:aM):vO (L++[s])=vO L+1+s.2.2.2.length:=by
 simp only[vO,List.length_append,List.map_append,List.sum_append_nat,List.length_cons,List.length_nil,List.map_cons,List.map_nil,List.sum_cons,List.sum_nil]
 show _=_+1+rE s
 omega
theorem sU.rc {m:Int} {D A:List Int} (h:uj m D A) {i:Nat} (hi:i<D.length - 1) {st:mS} (I:sU m D i st):st.2.1.length=st.1*(D.getD i 0).toNat*bn D (i+1):=by
 rw[I.len,qq (by omega),Nat.mul_assoc]
theorem sU.next {m:Int} {D A:List Int} (h:uj m D A) {i:Nat} (hi:i<D.length - 1) {st:mS} (I:sU m D i st) (hf:Ej D i st=true):sU m D (i+1) (uA m D i st):=by
 have hf:=of_decide_eq_true hf
 obtain⟨_,f1,f2,f3,f4,f5,f6⟩:=EK (eT h.pr) (sU.rc h hi I) I.el
 refine⟨by show dE _ _ _ _<=64;omega,f5,f6,by show(st.2.2++[_]).length=_;rw[List.length_append,I.jb];rfl,?_⟩
 show vO (st.2.2++[_])<=_
 rw[asE]
 show vO st.2.2+1+(jd _ _ _ _).length<=_
 rw[f3]
 have h1:st.1*(D.getD i 0).toNat*dE m (st.1*(D.getD i 0).toNat) (bn D (i+1)) st.2.1<=64*64:=Nat.mul_le_mul hf.1 (by omega)
 have:=I.sz
 omega
structure yl (m:Int) (D:List Int) (i:Nat) (st:mS):Prop where
 s:sU m D i st
 left:st.1<=32
 ch:fN (mY m) 0 1 st.2.2=some (st.1:Int)
 Ew:aP st.2.2=D.take i
theorem JL {S α:Type} (step:Nat->S->α->Option S) (a:α):∀(l:List α) (i:Nat) (s:S),fN step i s (l++[a])=match fN step i s l with|some s'=>step (i+l.length) s' a|none=>none
 |[],i,s=>by
  simp only[List.nil_append,fN,List.length_nil,Nat.add_zero]
  cases step i s a<;>rfl
 |b::l,i,s=>by
  simp only[List.cons_append,fN]
  cases step i s b with
  |none=>rfl
  |some s1=>
   simp only
   rw[JL step a l (i+1) s1,List.length_cons,show i+1+l.length=i+(l.length+1) by omega]
theorem Y3 {m:Int} {D A:List Int} (h:uj m D A) {i:Nat} (hi:i<D.length):∃d:Nat,D.getD i 0=(d:Int)/\(D.getD i 0).toNat=d/\1<=d/\d<=8:=by
 have:=h.lG _ (mF hi)
 exact⟨(D.getD i 0).toNat,by omega,rfl,by omega,by omega⟩
theorem yl.next {m:Int} {D A:List Int} (h:uj m D A) {i:Nat} (hi:i<D.length - 1) {st:mS} (I:yl m D i st) (hf:Ej D i st=true) (hk:cK m D i st<=32):yl m D (i+1) (uA m D i st):=by
 have hs:=sU.next h hi I.s hf
 obtain⟨d,d1,d2,d3,d4⟩:=Y3 h (i:=i) (by omega)
 obtain⟨_,f1,f2,f3,f4,f5,f6⟩:=EK (eT h.pr) (sU.rc h hi I.s) I.s.el
 refine⟨hs,hk,?_,?_⟩
 ·show fN (mY m) 0 1 (st.2.2++[_])=some ((cK m D i st:Nat):Int)
  rw[JL,I.ch]
  show mY m _ _ _=_
  refine if_pos ⟨?_,rfl⟩
  have N0:(jd m (st.1*(D.getD i 0).toNat) (bn D (i+1)) st.2.1).length=st.1*(D.getD i 0).toNat*cK m D i st:=f3
  generalize jd m (st.1*(D.getD i 0).toNat) (bn D (i+1)) st.2.1=fa at N0 f4⊢
  rw[d2] at N0
  rw[d1]
  exact Dn I.left hk ⟨d3,d4⟩ N0 f4
 ·show aP (st.2.2++[_])=_
  unfold aP
  rw[List.map_append]
  show aP st.2.2++[D.getD i 0]=_
  rw[I.Ew,List.take_add_one,r6 (by omega)]
  rfl
theorem yl.fin {m:Int} {D A:List Int} (h:uj m D A) {st:mS} (I:yl m D (D.length - 1) st):e7 (m,zR D st)=true:=by
 have l1:=h.l1
 obtain⟨d,d1,d2,d3,d4⟩:=Y3 h (i:=D.length - 1) (by omega)
 have hlen:=I.s.len
 rw[qq (by omega),show D.length - 1+1=D.length by omega,uh,Nat.mul_one,d2] at hlen
 have E6:=I.s.jb
 have dF:fN (mY m) 0 1 (zR D st)=some 1:=by
  unfold zR
  rw[JL,I.ch]
  show mY m _ _ _=_
  refine if_pos ⟨?_,rfl⟩
  rw[d1]
  exact Dn (c:=1) I.left (by omega) ⟨d3,d4⟩ (by rw[hlen,Nat.mul_one]) I.s.el
 have gT:aP (zR D st)=D:=by
  unfold zR aP
  rw[List.map_append]
  show aP st.2.2++[D.getD (D.length - 1) 0]=_
  rw[I.Ew]
  have:=List.take_add_one (l:=D) (i:=D.length - 1)
  rw[show D.length - 1+1=D.length by omega,List.take_length,r6 (by omega)] at this
  exact this.symm
 have hp:dr D<=4096:=by
  rw[Ad fun x hx=>(h.lG x hx).1]
  have:=h.pn
  omega
 have hll:(zR D st).length=D.length:=by
  unfold zR
  rw[List.length_append,E6]
  show D.length - 1+1=_
  omega
 simp only[e7,h.pr,dF,gT,hll,Bool.true_and]
 rw[decide_eq_true ⟨l1,h.l8⟩,decide_eq_true hp]
 rfl
end Go.Am
end
section
namespace Go.Am
theorem af1 {n:Nat} (h1:1<=n) (h:n<=1000):iF .i64 (n:Int) 1=((n - 1:Nat):Int):=by rw[pq (by omega) (by omega)];omega
end Go.Am
end
section
namespace Go.Am
end Go.Am
end
section
namespace Go.Am
def IQ:ao:=[(.ptr,[.list [.int .u8],.int .i64,.int .i64]),(.one,[.int .i64]),(.one,[.int .i64]),(.one,[.int .i64])]
def UL:ao:=[(.agg,[.int .i64,.int .i64,.list [.int .i64]]),(.ptr,[.list [.int .u8],.int .i64,.int .i64])]
def anN:aQ:=[[some .aG]]
def Hw (NN:Nat):(((List Int)×(Int×Int))×(Int×(Int×Int)))->(Option ((Int×(Int×(List Int)))×((List Int)×(Int×Int)))):=
 (fun(((l0,i1,i2),i3,i4,i5):(((List Int)×(Int×Int))×(Int×(Int×Int))))=>
 (yj (i4,i5)).ab (fun(i6,i7,l8)=>
 ca ((ai 0 0 (aa (([]:List Int)))).ab (fun _=>
 (ai 0 (aa l8) (aa l8)).ab (fun _=>
 bM NN (fun(((i9,cG,eF,eA,eG),(fg,ii,fP),(f8,fw),(gz,iQ),dI,dM):((Int×(Int×(Int×(Int×Int))))×(((List Int)×(Int×Int))×((Int×Int)×((Int×Int)×((List Int)×(List Int)))))))=>
 ax (bG eG eA)
 ((wb ((fg,ii,fP),(3:Int))).ab (fun(Eh,fh,ng,kU)=>
 ax (dA Eh)
 ((ul ((fh,ng,kU),o7 i9 (256:Int))).ab (fun(ky,jY,pT,nZ)=>
 (fj eG (aa dM)).ab (fun QU=>
 (dt dM (bj 0 QU)).ab (fun iR=>
 (ai 0 (aa dI) (aa dI)).ab (fun _=>
 (ai 0 (aa dM) (aa (bR dM (bj 0 QU) ky))).ab (fun _=>
 some (Sum.inl ((i9,cG,eF,eA,bA .i64 eG 1),(jY,pT,nZ),(f8,fw),(gz,iQ),dI,bR dM (bj 0 QU) ky))))))))
 ((ai 0 (aa dI) (aa dI)).ab (fun _=>
 (ai 0 (aa dM) (aa dM)).ab (fun _=>
 some (Sum.inl ((i9,cG,eF,eA,bA .i64 eG 1),(fh,ng,kU),(f8,fw),(gz,iQ),dI,dM)))))))
 (((ai 0 (aa dI) (aa dI)).ab (fun _=>
 (ai 0 (aa dM) (aa dM)).ab (fun _=>
 some (Sum.inl ((cG,eF),(fg,ii,fP),(f8,fw),(gz,iQ),dI,dM))))).ab (fun jE=>
 some (Sum.inr jE))))
 ((i3,i4,i5,aS (aa l8),(0:Int)),(l0,i1,i2),((0:Int),(0:Int)),(i6,i7),([]:List Int),l8))))
 (fun((iS,iT),(gA,kV,kY),(jU,jC),(n3,pU),gB,gp)=>
 ax (bG (1:Int) iS)
 ((wb ((gA,kV,kY),(3:Int))).ab (fun(b45,gJ,lM,kA)=>
 ca (ax (b45)
 ((ai 0 (aa gB) (aa gB)).ab (fun _=>
 (ai 0 (aa gp) (aa gp)).ab (fun _=>
 bM NN (fun(((sy,kB),(zM,lc,kC),(nh,qX),(tD,Cv),oW,jk):((Int×Int)×(((List Int)×(Int×Int))×((Int×Int)×((Int×Int)×((List Int)×(List Int)))))))=>
 ax (bG kB sy)
 ((fj kB (aa jk)).ab (fun k60=>
 (dt jk (bj 0 k60)).ab (fun zy=>
 (fj (bA .i64 sy kB) (aa jk)).ab (fun QY=>
 (dt jk (bj 0 QY)).ab (fun ni=>
 (ai 0 (aa oW) (aa oW)).ab (fun _=>
 (ai 0 (aa jk) (aa (bR jk (bj 0 QY) zy))).ab (fun _=>
 some (Sum.inl ((sy,bA .i64 kB 1),(zM,lc,kC),(nh,qX),(tD,Cv),oW,bR jk (bj 0 QY) zy)))))))))
 (((ai 0 (aa oW) (aa oW)).ab (fun _=>
 (ai 0 (aa jk) (aa jk)).ab (fun _=>
 some (Sum.inl ((zM,lc,kC),(nh,qX),(tD,Cv),oW,jk))))).ab (fun zO=>
 some (Sum.inr zO))))
 ((iT,(0:Int)),(gJ,lM,kA),(jU,jC),(n3,pU),gB,gp))))
 ((ai 0 (aa gB) (aa gB)).ab (fun _=>
 (ai 0 (aa gp) (aa gp)).ab (fun _=>
 some (Sum.inl ((gJ,lM,kA),(jU,jC),(n3,pU),gB,gp))))))
 (fun((Rh,zz,sA),(zA,vk),(Cw,Cx),lQ,xt)=>
 (cr xt 0 (aa xt)).ab (fun tN=>
 some ((Cw,Cx,tN),Rh,zz,sA)))))
 (ca ((ai 0 (aa gB) (aa gB)).ab (fun _=>
 (ai 0 (aa gp) (aa gp)).ab (fun _=>
 some (Sum.inl ((gA,kV,kY),(jU,jC),(n3,pU),gB,gp)))))
 (fun((tO,nj,tF),(pW,n7),(n8,vl),gL,lk)=>
 (cr lk 0 (aa lk)).ab (fun FJ=>
 some ((n8,vl,FJ),tO,nj,tF)))))))
def Bm:(((List Int)×(Int×Int))×(Int×(Int×Int)))->(Option ((Int×(Int×(List Int)))×((List Int)×(Int×Int)))):=Hw aC
theorem ah9 (x:(((List Int)×(Int×Int))×(Int×(Int×Int)))) (z:((Int×(Int×(List Int)))×((List Int)×(Int×Int)))) (h:Bm x=some z):Hw aC x=some z:=h
theorem abX {p:Int} (h:2<=p):1<=o7 p 256/\o7 p 256<=p:=by rw[abV];omega
theorem Ro {α:Type} (l:List α):aa l=l.length:=rfl
theorem agp (c:Cu) (p:Int) (r k:Nat) (h:lC c) (hp:dh p) (hr:r<=100) (hk:k<=100):
  ∃d c',Bm (c,p,(r:Int),(k:Int))=some (((r:Int),(k:Int),d),c')/\d.length=r*k/\dD p d/\lC c':=by
 obtain⟨cl,ci,ch⟩:=c
 have hrk:r*k<=10000:=by
  have:=Nat.mul_le_mul hr hk
  omega
 simp only[Bm,Hw]
 rw[acd (by omega) (by omega) (by omega)]
 simp only[av,aiq,cC]
 generalize hL:bM aC _ _=o
 obtain⟨s,rfl,c',d,rfl,cA,hl,hd⟩:∃s,o=some s/\∃(c':Cu) (d:List Int),s=Sum.inl (((r:Int),(k:Int)),c',(0,0),((r:Int),(k:Int)),[],d)/\lC c'/\d.length=r*k/\dD p d:=by
  rw[<-hL]
  refine FL (r*k) (fun j (s:((Int×(Int×(Int×(Int×Int))))×(((List Int)×(Int×Int))×((Int×Int)×((Int×Int)×((List Int)×(List Int)))))))=>∃(c':Cu) (d:List Int),s=((p,(r:Int),(k:Int),((r*k:Nat):Int),(j:Int)),c',(0,0),((r:Int),(k:Int)),[],d)/\lC c'/\d.length=r*k/\dD p d) _ ?_ ?_ ?_ (dk (by omega))
  ·rintro j s hj ⟨⟨l1,i1,h1⟩,d,rfl,hc,hl,hd⟩
   dsimp only
   rw[aR (df (by omega))]
   obtain⟨b,⟨l2,i2,h2⟩,e2,hc⟩:=Tc _ 3 hc (by decide)
   rw[e2]
   simp only[av]
   cases b
   ·rw[aR (show dA false=true from rfl)]
    obtain⟨x,⟨l3,i3,h3⟩,e3,hx,_,hc⟩:=I2 _ (o7 p 256) hc (abX hp.1).1
    have hm:=(abX hp.1).2
    rw[e3]
    simp only[av]
    have iO:j<d.length:=by omega
    rw[qE (show j<aa d by rw[Ro];exact iO)]
    simp only[av,hZ]
    rw[show dt d j=some d[j] from List.getElem?_eq_getElem iO]
    simp only[av]
    rw[show ai 0 (aa d) (aa (bR d j x))=some () from yW (by simp[aa,bR])]
    simp only[av]
    rw[gw (by omega) (by omega)]
    refine⟨_,rfl,_,_,rfl,hc,by unfold bR;rw[List.length_set];exact hl,?_⟩
    intro e he
    unfold bR at he
    rcases List.mem_or_eq_of_mem_set he with h|h
    ·exact hd e h
    ·subst h;exact⟨hx.1,by omega⟩
   ·rw[aL (show dA true=false from rfl)]
    rw[gw (by omega) (by omega)]
    exact⟨_,rfl,_,_,rfl,hc,hl,hd⟩
  ·rintro s ⟨⟨l1,i1,h1⟩,d,rfl,hc,hl,hd⟩
   dsimp only
   rw[aL (cN (by omega))]
   exact⟨_,rfl,_,_,rfl,hc,hl,hd⟩
  ·refine⟨_,_,?_,h,iu r k _,iL.2 (fun i j _ _=>⟨Int.le_refl _,by have:=hp.1;omega⟩)⟩
   rw[show aS (aa (aq r k fun _ _=>0))=((r*k:Nat):Int) by unfold aS aa;rw[iu]]
   rfl
 obtain⟨l1,i1,h1⟩:=c'
 simp only[ca,Option.bind,Option.ab]
 by_cases hc:1<r
 ·rw[aR (df (by omega))]
  obtain⟨b,⟨l2,i2,h2⟩,e2,wR⟩:=Tc _ 3 cA (by decide)
  rw[e2]
  dsimp only
  cases b
  ·simp only[Es,cC,fT]
   exact⟨_,_,rfl,hl,hd,wR⟩
  ·simp only[Ji,cC,fT]
   generalize hL:bM aC _ _=o
   obtain⟨s,rfl,d',rfl,dQ,tr⟩:∃s,o=some s/\∃(d':List Int),s=Sum.inl ((l2,i2,h2),(0,0),((r:Int),(k:Int)),[],d')/\d'.length=r*k/\dD p d':=by
    rw[<-hL]
    refine FL k (fun j (s:((Int×Int)×(((List Int)×(Int×Int))×((Int×Int)×((Int×Int)×((List Int)×(List Int)))))))=>∃(d:List Int),s=(((k:Int),(j:Int)),(l2,i2,h2),(0,0),((r:Int),(k:Int)),[],d)/\d.length=r*k/\dD p d) _ ?_ ?_ ⟨_,rfl,hl,hd⟩ (dk (by omega))
    ·rintro j s hj ⟨d,rfl,hl,hd⟩
     dsimp only
     have atv:2*k<=r*k:=Nat.mul_le_mul_right k hc
     rw[aR (df (by omega))]
     have PP:j<d.length:=by omega
     have hj2:k+j<d.length:=by omega
     rw[gw (by omega) (by omega),show((k:Int)+(j:Int))=((k+j:Nat):Int) by push_cast;rfl]
     rw[qE (show j<aa d by rw[Ro];exact PP),qE (show k+j<aa d by rw[Ro];exact hj2)]
     simp only[hZ]
     rw[show dt d j=some d[j] from List.getElem?_eq_getElem PP,show dt d (k+j)=some d[k+j] from List.getElem?_eq_getElem hj2]
     dsimp only
     rw[show ai 0 (aa d) (aa (bR d (k+j) d[j]))=some () from yW (by simp[aa,bR])]
     dsimp only
     rw[gw (by omega) (by omega)]
     refine⟨_,rfl,_,rfl,by unfold bR;rw[List.length_set];exact hl,?_⟩
     intro e he
     unfold bR at he
     rcases List.mem_or_eq_of_mem_set he with h|h
     ·exact hd e h
     ·subst h;exact hd _ (List.getElem_mem PP)
    ·rintro s ⟨d,rfl,hl,hd⟩
     dsimp only
     rw[aL (cN (by omega))]
     exact⟨_,rfl,_,rfl,hl,hd⟩
   simp only[fT]
   exact⟨_,_,rfl,dQ,tr,wR⟩
 ·rw[aL (cN (by omega))]
  simp only[cC,fT]
  exact⟨_,_,rfl,hl,hd,cA⟩
theorem aqq:cu 2=true:=by decide+kernel
theorem aqr:cu 3=true:=by decide+kernel
theorem aqs:cu 7=true:=by decide+kernel
theorem aqp:cu 101=true:=by decide+kernel
theorem aqo:cu 1000003=true:=by decide+kernel
end Go.Am
end
section
namespace Go.Am
structure D9 (p:Int) (r:Nat) (M N:aO) (t k j:Nat) (inv:Int):Prop where
 tk:t<=k
 kr:k<r
 ne:M k j≠0
 one:M k j*inv%p=1
 nt:∀b,N t b=M k b*inv%p
 na:∀a,a<r->a≠t->∀b,N a b=(c9 M t k a b+(p - c9 M t k a j)*N t b)%p
 first:∀i,t<=i->i<k->M i j=0
theorem Ts {p:Int} {r c:Nat} {s:aO×List Int×Int} {j:Nat} (bk:cu p=true) (I:RI p r c s j) (hj:j<c):
  (kI p r s j=s/\∀i,s.2.1.length<=i->i<r->s.1 i j=0)\/
   ∃k N inv,kI p r s j=(N,s.2.1++[(j:Int)],La p s.1 s.2.1.length j k s.2.2)/\D9 p r s.1 N s.2.1.length k j inv/\s.2.1.length<r:=by
 have hp:dh p:=eT bk
 by_cases hl:s.2.1.length<r
 ·cases hk:qi s.1 j (r - s.2.1.length) s.2.1.length with
  |none=>exact .inl ⟨Tt hl hk,fun i h1 h2=>K7 hk i h1 (by omega)⟩
  |some k=>
   have hq:=F0 hk
   have zi:k<r:=by omega
   have hx:eN p (s.1 k j):=I.m k zi j hj
   have hi:=abe bk hx hq.2.2
   have Cl:c9 s.1 s.2.1.length k s.2.1.length j=s.1 k j:=if_pos rfl
   refine .inr ⟨k,_,ld p 1 (s.1 k j) (p - 2).toNat,Tu hl hk,⟨hq.1,zi,hq.2.2,hi,fun b=>?_,fun a ha bU b=>?_,Tj hk⟩,hl⟩
   ·unfold fk
    rw[if_neg (by omega)]
    unfold pb sI
    rw[if_pos rfl,Cl]
    congr 2
    exact if_pos rfl
   ·have e1:∀y,pb p s.1 s.2.1.length j k a y=c9 s.1 s.2.1.length k a y:=fun y=>by unfold pb sI;rw[if_neg bU]
    show fk p _ _ _ _ a b=_
    rw[show fk p (pb p s.1 s.2.1.length j k) s.2.1.length j r s.2.1.length b=pb p s.1 s.2.1.length j k s.2.1.length b from if_neg (by omega)]
    unfold fk
    rw[if_pos ⟨ha,bU⟩,e1,e1]
 ·refine .inl ⟨by unfold kI;rw[if_neg hl],fun i h1 h2=>by omega⟩
def pv (L:List Int) (i:Nat):Nat:=(L.getD i 0).toNat
theorem Tq {L:List Int} {x:Int} {i:Nat} (h:i<L.length):pv (L++[x]) i=pv L i:=by
 unfold pv
 rw[List.getD_eq_getElem?_getD,List.getD_eq_getElem?_getD,List.getElem?_append_left h]
theorem Ae {L:List Int} {j:Nat}:pv (L++[(j:Int)]) L.length=j:=by
 unfold pv
 rw[List.getD_eq_getElem?_getD,List.getElem?_append_right (Nat.le_refl _),Nat.sub_self]
 rfl
structure RF (r:Nat) (s:aO×List Int×Int) (j:Nat):Prop where
 lt:∀i,i<s.2.1.length->pv s.2.1 i<j
 mono:∀i i',i<i'->i'<s.2.1.length->pv s.2.1 i<pv s.2.1 i'
 one:∀i,i<s.2.1.length->s.1 i (pv s.2.1 i)=1
 bQ:∀i,i<s.2.1.length->∀a,a<r->a≠i->s.1 a (pv s.2.1 i)=0
 low:∀i,i<s.2.1.length->∀b,b<pv s.2.1 i->s.1 i b=0
 zero:∀i,s.2.1.length<=i->i<r->∀b,b<j->s.1 i b=0
theorem RF.step {p:Int} {r c:Nat} {s:aO×List Int×Int} {j:Nat} (bk:cu p=true) (I:RI p r c s j) (hj:j<c) (h:RF r s j):RF r (kI p r s j) (j+1):=by
 have hp:dh p:=eT bk
 rcases Ts bk I hj with⟨e,hz⟩|⟨k,N,inv,e,P,hl⟩
 ·rw[e]
  refine⟨fun i hi=>by have:=h.lt i hi;omega,h.mono,h.one,h.bQ,h.low,fun i h1 h2 b hb=>?_⟩
  by_cases y3:b=j
  ·rw[y3];exact hz i h1 h2
  ·exact h.zero i h1 h2 b (by omega)
 ·rw[e]
  obtain⟨M,L,d⟩:=s
  obtain⟨tk,kr,ne,one,nt,na,first⟩:=P
  dsimp only at tk kr ne one nt na first hl e⊢
  have bK:∀i,i<L.length->pv L i<j:=h.lt
  have Cg:∀i,i<L.length->pv (L++[(j:Int)]) i=pv L i:=fun i hi=>Tq hi
  have vb:=hp.1
  have S7:∀b,b<j->N L.length b=0:=fun b hb=>by
   rw[nt,show M k b=0 from h.zero k tk kr b hb,Int.zero_mul,Int.zero_emod]
  have S8:N L.length j=1:=by rw[nt];exact one
  have fB:∀a,a<r->a≠L.length->∀b,b<j->N a b=c9 M L.length k a b:=fun a ha bU b hb=>by
   rw[na a ha bU,S7 b hb,Int.mul_zero,Int.add_zero]
   have hs:eN p (c9 M L.length k a b):=LR I.m hl kr a ha b (by omega)
   exact Int.emod_eq_of_lt hs.1 hs.2
  have Xf:∀i,i<L.length->∀b,c9 M L.length k i b=M i b:=fun i hi b=>by
   unfold c9;rw[if_neg (by omega),if_neg (by omega)]
  have abO:∀a,L.length<=a->a<r->∀b,b<j->c9 M L.length k a b=0:=fun a h1 h2 b hb=>by
   unfold c9
   split
   ·exact h.zero k tk kr b hb
   ·split
    ·exact h.zero _ (Nat.le_refl _) hl b hb
    ·exact h.zero a h1 h2 b hb
  refine⟨?_,?_,?_,?_,?_,?_⟩<;>dsimp only
  ·intro i hi
   simp only[List.length_append,List.length_cons,List.length_nil] at hi
   by_cases ff:i<L.length
   ·rw[Cg i ff];have:=bK i ff;omega
   ·rw[show i=L.length by omega,Ae];omega
  ·intro i i' h1 h2
   simp only[List.length_append,List.length_cons,List.length_nil] at h2
   rw[Cg i (by omega)]
   by_cases ff:i'<L.length
   ·rw[Cg i' ff];exact h.mono i i' h1 ff
   ·rw[show i'=L.length by omega,Ae];exact bK i (by omega)
  ·intro i hi
   simp only[List.length_append,List.length_cons,List.length_nil] at hi
   by_cases ff:i<L.length
   ·rw[Cg i ff,fB i (by omega) (by omega) _ (bK i ff),Xf i ff];exact h.one i ff
   ·rw[show i=L.length by omega,Ae];exact S8
  ·intro i hi a ha hai
   simp only[List.length_append,List.length_cons,List.length_nil] at hi
   by_cases ff:i<L.length
   ·rw[Cg i ff]
    by_cases bU:a=L.length
    ·rw[bU];exact S7 _ (bK i ff)
    ·rw[fB a ha bU _ (bK i ff)]
     by_cases hal:a<L.length
     ·rw[Xf a hal];exact h.bQ i ff a ha hai
     ·exact abO a (by omega) ha _ (bK i ff)
   ·have J8:i=L.length:=by omega
    rw[J8,Ae]
    rw[na a ha (by omega),S8,Int.mul_one]
    rw[show c9 M L.length k a j+(p - c9 M L.length k a j)=p by omega]
    exact Int.emod_self
  ·intro i hi b hb
   simp only[List.length_append,List.length_cons,List.length_nil] at hi
   by_cases ff:i<L.length
   ·rw[Cg i ff] at hb
    have hlj:=bK i ff
    rw[fB i (by omega) (by omega) _ (by omega),Xf i ff]
    exact h.low i ff b hb
   ·have J8:i=L.length:=by omega
    rw[J8,Ae] at hb
    rw[J8]
    exact S7 b hb
  ·intro i h1 h2 b hb
   simp only[List.length_append,List.length_cons,List.length_nil] at h1
   by_cases y3:b=j
   ·rw[y3,na i h2 (by omega),S8,Int.mul_one]
    rw[show c9 M L.length k i j+(p - c9 M L.length k i j)=p by omega]
    exact Int.emod_self
   ·rw[fB i h2 (by omega) b (by omega)]
    exact abO i (by omega) h2 b (by omega)
theorem Ai {p:Int} {r c:Nat} {M:aO} (bk:cu p=true) (hM:cT p r c M):∀j,j<=c->RF r (cb p r M j) j
 |0,_=>⟨fun i hi=>absurd hi (Nat.not_lt_zero i),fun i i' _ hi=>absurd hi (Nat.not_lt_zero i'),fun i hi=>absurd hi (Nat.not_lt_zero i),fun i hi=>absurd hi (Nat.not_lt_zero i),fun i hi=>absurd hi (Nat.not_lt_zero i),fun i _ _ b hb=>absurd hb (Nat.not_lt_zero b)⟩
 |j+1,hj=>RF.step bk (ph (eT bk) hM j) (by omega) (Ai bk hM j (by omega))
def Sp (p:Int) (r c:Nat) (M:aO) (x:Nat->Int):Prop:=∃y:Nat->Int,∀b,b<c->x b%p=sm r (fun i=>y i*M i b)%p
theorem mU {p:Int} {r c:Nat} {M:aO} {i:Nat} (hi:i<r):Sp p r c M (M i):=
 ⟨fun k=>if k=i then 1 else 0,fun b _=>by
  have e:sm r (fun k=>(if k=i then 1 else 0)*M k b)=M i b:=by
   rw[sK (a:=i) r hi (fun k _ aD=>by simp[aD])]
   simp
  exact congrArg (·%p) e.symm⟩
theorem wi {p:Int} {r c:Nat} {M:aO} {x x':Nat->Int} (h:Sp p r c M x) (e:∀b,b<c->x' b%p=x b%p):Sp p r c M x':=by
 obtain⟨y,hy⟩:=h
 exact⟨y,fun b hb=>(e b hb).trans (hy b hb)⟩
theorem M3 {p:Int} {r c:Nat} {M:aO} {x x':Nat->Int} (f:Int) (h:Sp p r c M x) (h':Sp p r c M x'):Sp p r c M (fun b=>x b+f*x' b):=by
 obtain⟨y,hy⟩:=h
 obtain⟨y',hy'⟩:=h'
 refine⟨fun i=>y i+f*y' i,fun b hb=>?_⟩
 have e:sm r (fun i=>(y i+f*y' i)*M i b)=sm r (fun i=>y i*M i b)+f*sm r (fun i=>y' i*M i b):=by
  rw[<-vL,<-LA]
  exact j9 fun i _=>by rw[Int.add_mul,Int.mul_assoc]
 rw[e,Int.add_emod,Int.mul_emod,hy b hb,hy' b hb,<-Int.mul_emod,<-Int.add_emod]
theorem afb {p:Int} {r c:Nat} {M:aO}:Sp p r c M (fun _=>0):=⟨fun _=>0,fun b _=>by rw[Ds r fun i _=>Int.zero_mul _]⟩
theorem XP {p:Int} {r c:Nat} {M:aO} {x:Nat->Int} (f:Int) (h:Sp p r c M x):Sp p r c M (fun b=>x b*f):=
 wi (M3 f afb h) fun b _=>by rw[Int.zero_add,Int.mul_comm]
theorem qx {p:Int} {r r' c:Nat} {M N:aO} (h:∀i,i<r'->Sp p r c M (N i)) {x:Nat->Int} (hx:Sp p r' c N x):Sp p r c M x:=by
 obtain⟨y,hy⟩:=hx
 have h':∀i,∃y:Nat->Int,i<r'->∀b,b<c->N i b%p=sm r (fun k=>y k*M k b)%p:=by
  intro i
  by_cases hi:i<r'
  ·obtain⟨y,hy⟩:=h i hi
   exact⟨y,fun _=>hy⟩
  ·exact⟨fun _=>0,fun hi'=>absurd hi' hi⟩
 obtain⟨Y,hY⟩:=Classical.axiomOfChoice h'
 refine⟨fun k=>sm r' (fun i=>y i*Y i k),fun b hb=>?_⟩
 rw[hy b hb]
 have e:sm r (fun k=>sm r' (fun i=>y i*Y i k)*M k b)=sm r' (fun i=>y i*sm r (fun k=>Y i k*M k b)):=by
  rw[j9 (g:=fun k=>sm r' (fun i=>y i*Y i k*M k b)) fun k _=>(adJ (M k b) _ r').symm]
  rw[LB]
  exact j9 fun i _=>by rw[<-vL];exact j9 fun k _=>Int.mul_assoc _ _ _
 rw[e]
 exact Dr fun i hi=>by rw[Int.mul_emod,hY i hi b hb,<-Int.mul_emod]
theorem D9.span {p:Int} {r c:Nat} {M N:aO} {t k j:Nat} {inv:Int} (h:D9 p r M N t k j inv) (ht:t<r) (hj:j<c) (x:Nat->Int):Sp p r c N x↔Sp p r c M x:=by
 obtain⟨tk,kr,ne,one,nt,na,_⟩:=h
 have sw:∀a,a<r->Sp p r c M (c9 M t k a):=by
  intro a ha
  unfold c9
  by_cases h1:a=t
  ·simp only[h1,if_true];exact mU kr
  ·by_cases h2:a=k
   ·simp only[h2]
    by_cases h3:k=t
    ·simp only[h3,if_true];exact mU ht
    ·simp only[if_neg h3,if_true];exact mU ht
   ·simp only[if_neg h1,if_neg h2];exact mU ha
 have hNt:Sp p r c M (N t):=wi (XP inv (mU kr)) fun b _=>by rw[nt,Int.emod_emod_of_dvd _ (Int.dvd_refl p)]
 constructor
 ·refine qx fun a ha=>?_
  by_cases bU:a=t
  ·rw[bU];exact hNt
  ·exact wi (M3 (p - c9 M t k a j) (sw a ha) hNt) fun b _=>by rw[na a ha bU,Int.emod_emod_of_dvd _ (Int.dvd_refl p)]
 ·
  have hk:Sp p r c N (M k):=wi (XP (M k j) (mU ht)) fun b _=>by
   rw[nt,Int.mul_emod,Int.emod_emod_of_dvd _ (Int.dvd_refl p),<-Int.mul_emod]
   rw[show M k b*inv*M k j=M k b*(M k j*inv) by rw[Int.mul_assoc,Int.mul_comm inv]]
   rw[Int.mul_emod,one,Int.mul_one,Int.emod_emod_of_dvd _ (Int.dvd_refl p)]
  have hs:∀a,a<r->Sp p r c N (c9 M t k a):=by
   intro a ha
   by_cases bU:a=t
   ·have e:c9 M t k a=M k:=by unfold c9;funext b;rw[if_pos bU]
    rw[e];exact hk
   ·refine wi (M3 (c9 M t k a j) (mU ha) (mU ht)) fun b _=>?_
    rw[na a ha bU,Int.emod_add_emod]
    rw[show c9 M t k a b+(p - c9 M t k a j)*N t b+c9 M t k a j*N t b=c9 M t k a b+p*N t b by grind]
    rw[Int.add_mul_emod_self_left]
  refine qx fun a ha=>?_
  by_cases bU:a=t
  ·have e:M a=c9 M t k k:=by
    unfold c9;funext b
    by_cases PT:k=t
    ·rw[if_pos PT,bU,PT]
    ·rw[if_neg PT,if_pos rfl,bU]
   rw[e];exact hs k kr
  ·by_cases hak:a=k
   ·rw[hak];exact hk
   ·have e:M a=c9 M t k a:=by unfold c9;funext b;rw[if_neg bU,if_neg hak]
    rw[e];exact hs a ha
theorem Lb {p:Int} {r c:Nat} {M:aO} (bk:cu p=true) (hM:cT p r c M) (x:Nat->Int):∀j,j<=c->(Sp p r c (cb p r M j).1 x↔Sp p r c M x)
 |0,_=>Iff.rfl
 |j+1,hj=>by
  rw[<-Lb bk hM x j (by omega)]
  show Sp p r c (kI p r (cb p r M j) j).1 x↔_
  rcases Ts bk (ph (eT bk) hM j) (show j<c by omega) with⟨e,_⟩|⟨k,N,inv,e,P,hl⟩
  ·rw[e]
  ·rw[e];exact P.span hl (by omega) x
def ae5 (p:Int) (x:Nat->Int) (j:Nat):Prop:=(∀b,b<j->x b%p=0)/\x j%p≠0
theorem Tk {p:Int} {r c:Nat} {M:aO} (bk:cu p=true) (hM:cT p r c M) {j:Nat} (hj:j<c):
  (∃x,Sp p r c M x/\ae5 p x j)↔∃i,i<(cb p r M c).2.1.length/\pv (cb p r M c).2.1 i=j:=by
 have hp:dh p:=eT bk
 have vb:=hp.1
 have R:=Ai bk hM c (Nat.le_refl c)
 have I:=ph hp hM c
 have Qc:=fun x=>Lb bk hM x c (Nat.le_refl c)
 generalize cb p r M c=s at R I Qc
 constructor
 ·rintro⟨x,hx,h0,h1⟩
  obtain⟨y,hy⟩:=(Qc x).2 hx
  have bZ:∀i,i<s.2.1.length->x (pv s.2.1 i)%p=y i%p:=by
   intro i hi
   rw[hy _ (R.lt i hi),sK (a:=i) r (by have:=I.l;omega) fun a ha aD=>by rw[R.bQ i hi a ha aD,Int.mul_zero]]
   rw[R.one i hi,Int.mul_one]
  rw[hy j hj] at h1
  apply Classical.byContradiction
  intro cm
  apply h1
  rw[show(0:Int)=sm r (fun _=>0)%p by rw[Ds r fun _ _=>rfl,Int.zero_emod]]
  refine Dr fun i hi=>?_
  by_cases ff:i<s.2.1.length
  ·rcases Nat.lt_trichotomy (pv s.2.1 i) j with h|h|h
   ·have hz:y i%p=0:=by rw[<-bZ i ff];exact h0 _ h
    rw[Int.mul_emod,hz,Int.zero_mul]
   ·exact absurd ⟨i,ff,h⟩ cm
   ·rw[R.low i ff j h,Int.mul_zero]
  ·rw[R.zero i (by omega) hi j hj,Int.mul_zero]
 ·rintro⟨i,hi,rfl⟩
  refine⟨s.1 i,(Qc _).1 (mU (by have:=I.l;omega)),fun b hb=>by rw[R.low i hi b hb,Int.zero_emod],?_⟩
  rw[R.one i hi,Int.emod_eq_of_lt (by decide) (by omega)]
  decide
def xn (L:List Int) (j:Nat):Bool:=(List.range L.length).any fun i=>pv L i==j
theorem zG {L:List Int} {j:Nat}:xn L j=true↔∃i,i<L.length/\pv L i=j:=by
 simp only[xn,List.any_eq_true,List.mem_range,beq_iff_eq]
theorem Jk (P:Nat->Bool) (j:Nat):(List.range (j+1)).countP P=(List.range j).countP P+(if P j=true then 1 else 0):=by
 rw[List.range_succ,List.countP_append]
 simp[List.countP_cons]
theorem Jl {p:Int} {r c:Nat} {M:aO} (bk:cu p=true) (hM:cT p r c M):∀j,j<=c->(List.range j).countP (xn (cb p r M j).2.1)=(cb p r M j).2.1.length
 |0,_=>rfl
 |j+1,hj=>by
  have ih:=Jl bk hM j (by omega)
  have R:=Ai bk hM j (by omega)
  show(List.range (j+1)).countP (xn (kI p r (cb p r M j) j).2.1)=(kI p r (cb p r M j) j).2.1.length
  rw[Jk]
  rcases Ts bk (ph (eT bk) hM j) (show j<c by omega) with⟨e,_⟩|⟨k,N,inv,e,P,hl⟩
  ·rw[e,ih]
   have:xn (cb p r M j).2.1 j=false:=by
    rw[Bool.eq_false_iff]
    intro h
    obtain⟨i,hi,he⟩:=zG.1 h
    have:=R.lt i hi
    omega
   rw[this]
   simp
  ·rw[e]
   dsimp only
   have h1:xn ((cb p r M j).2.1++[(j:Int)]) j=true:=zG.2 ⟨_,by simp,Ae⟩
   have h2:(List.range j).countP (xn ((cb p r M j).2.1++[(j:Int)]))=(List.range j).countP (xn (cb p r M j).2.1):=by
    refine List.countP_congr fun b hb=>?_
    have hb:=List.mem_range.1 hb
    rw[zG,zG]
    constructor
    ·rintro⟨i,hi,he⟩
     simp only[List.length_append,List.length_cons,List.length_nil] at hi
     by_cases ff:i<(cb p r M j).2.1.length
     ·rw[Tq ff] at he;exact⟨i,ff,he⟩
     ·rw[show i=(cb p r M j).2.1.length by omega,Ae] at he;omega
    ·rintro⟨i,hi,he⟩
     exact⟨i,by simp only[List.length_append];omega,by rw[Tq hi];exact he⟩
   rw[h1,h2,ih]
   simp
theorem YQ {P Q:Nat->Bool}:∀n,(∀i,i<n->P i=true->Q i=true)->(List.range n).countP P<=(List.range n).countP Q
 |0,_=>Nat.le_refl _
 |n+1,h=>by
  rw[Jk,Jk]
  have:=YQ n fun i hi=>h i (by omega)
  cases hP:P n with
  |false=>simp;omega
  |true=>rw[h n (by omega) hP];omega
theorem xH {p:Int} {r r' c:Nat} {M M':aO} (bk:cu p=true) (hM:cT p r c M) (pM:cT p r' c M') (h:∀x,Sp p r c M x->Sp p r' c M' x):
  (cb p r M c).2.1.length<=(cb p r' M' c).2.1.length:=by
 rw[<-Jl bk hM c (Nat.le_refl c),<-Jl bk pM c (Nat.le_refl c)]
 refine YQ c fun j hj hP=>?_
 obtain⟨x,hx,hl⟩:=(Tk bk hM hj).2 (zG.1 hP)
 exact zG.2 ((Tk bk pM hj).1 ⟨x,h x hx,hl⟩)
end Go.Am
end
section
namespace Go.Am
def IA:ao:=[(.one,[.list [.int .i64]]),(.one,[.list [.int .i64]])]
def Ux:ao:=[(.one,[.bool])]
def anB:aQ:=[]
def Hk (NN:Nat):((List Int)×(List Int))->(Option Bool):=
 (fun((l0,l1):((List Int)×(List Int)))=>
 ca (bM NN (fun((l2,l3,l4,i5,i6):((List Int)×((List Int)×((List Int)×(Int×Int)))))=>
 ax (bG i6 i5)
 ((eo l4 i6).ab (fun i7=>
 ax (iW (aS (aa l3)) i6)
 (some (Sum.inr (Sum.inr false)))
 ((eo l3 i6).ab (fun i8=>
 ax (gC i8 i7)
 (some (Sum.inr (Sum.inr false)))
 (some (Sum.inl (l2,l3,l4,i5,bA .i64 i6 1)))))))
 (some (Sum.inr (Sum.inl (l2,l3)))))
 (l0,l1,l0,aS (aa l0),(0:Int)))
 (fun(l9,fy)=>
 some (cJ (aS (aa l9)) (aS (aa fy)))))
def v8:((List Int)×(List Int))->(Option Bool):=Hk aC
theorem ahU (x:((List Int)×(List Int))) (z:Bool) (h:v8 x=some z):Hk aC x=some z:=h
theorem QJ (l:List Int) (h:l.length<=1048576):v8 (l,l)=some true:=by
 simp only[v8,Hk]
 generalize hL:bM aC _ _=o
 obtain⟨r,rfl,rfl⟩:∃r,o=some r/\r=Sum.inl (l,l):=by
  rw[<-hL]
  refine FL l.length (fun i (x:List Int×List Int×List Int×Int×Int)=>x=(l,l,l,(l.length:Int),(i:Int))) _ ?_ ?_ rfl (dk (by omega))
  ·rintro i x hi rfl
   dsimp only
   rw[aR (df (by omega)),eu,List.getElem?_eq_getElem hi]
   simp only[av]
   rw[aL (CO (by unfold aS aa;omega))]
   rw[show gC l[i] l[i]=false from bne_self_eq_false _]
   rw[Es,gw (by omega) (by omega)]
   exact⟨_,rfl,rfl⟩
  ·rintro x rfl
   dsimp only
   rw[aL (cN (by omega))]
   exact⟨_,rfl,rfl⟩
 simp only[ca,Option.bind]
 rw[show cJ (aS (aa l)) (aS (aa l))=true from beq_self_eq_true _]
end Go.Am
end
section
namespace Go.Am
def IV:ao:=[(.ptr,[.list [.int .u8],.int .i64,.int .i64]),(.one,[.int .i64]),(.one,[.list [.int .i64]])]
def UN:ao:=[(.agg,[.int .i64,.list [.int .i64,.int .i64,.int .i64,.list [.int .i64]]]),(.ptr,[.list [.int .u8],.int .i64,.int .i64])]
def anP:aQ:=[[some .aG]]
def Hy (NN:Nat):(((List Int)×(Int×Int))×(Int×(List Int)))->(Option ((Int×(List (Int×(Int×(Int×(List Int))))))×((List Int)×(Int×Int)))):=
 (fun(((l0,i1,i2),i3,l4):(((List Int)×(Int×Int))×(Int×(List Int))))=>
 ca ((ai 0 0 (aa (([]:List (Int×(Int×(Int×(List Int)))))))).ab (fun _=>
 (ai 0 0 (aa (([]:List (Int×(Int×(Int×(List Int)))))))).ab (fun _=>
 bM NN (fun(((i5,l6,i7,l8,i9,cG),(ct,eA,eG),e9,ii,iU,gj):((Int×((List Int)×(Int×((List Int)×(Int×Int)))))×(((List Int)×(Int×Int))×(Int×(Int×((List (Int×(Int×(Int×(List Int)))))×(List (Int×(Int×(Int×(List Int)))))))))))=>
 ax (bG cG i9)
 ((eo l8 cG).ab (fun fw=>
 (ul ((ct,eA,eG),(4:Int))).ab (fun(gz,gk,jT,ij)=>
 (wb ((gk,jT,ij),(16:Int))).ab (fun(Eh,fh,ng,kU)=>
 ca (ax (Eh)
 ((ai 0 (aa iU) (aa iU)).ab (fun _=>
 (ai 0 (aa gj) (aa gj)).ab (fun _=>
 some (Sum.inl ((cG,i7,zW (1:Int) (o7 (4:Int) fw),(0:Int),cG,i5,l6,l8,i9),(fh,ng,kU),e9,ii,iU,gj)))))
 ((ai 0 (aa iU) (aa iU)).ab (fun _=>
 (ai 0 (aa gj) (aa gj)).ab (fun _=>
 some (Sum.inl ((cG,i7,zW (1:Int) (o7 (4:Int) fw),bA .i64 (1:Int) gz,cG,i5,l6,l8,i9),(fh,ng,kU),e9,ii,iU,gj))))))
 (fun((ky,oT,pT,nZ,gV,iR,jE,zL,iT),(gA,kV,kY),jU,jC,gm,gn)=>
 ca (ax (cJ ky (iF .i64 (aS (aa jE)) (1:Int)))
 ((ai 0 (aa gm) (aa gm)).ab (fun _=>
 (ai 0 (aa gn) (aa gn)).ab (fun _=>
 some (Sum.inl ((oT,pT,(1:Int),gV,iR,jE,zL,iT),(gA,kV,kY),jU,jC,gm,gn)))))
 ((ai 0 (aa gm) (aa gm)).ab (fun _=>
 (ai 0 (aa gn) (aa gn)).ab (fun _=>
 some (Sum.inl ((oT,pT,nZ,gV,iR,jE,zL,iT),(gA,kV,kY),jU,jC,gm,gn))))))
 (fun((kZ,kz,mL,sx,lM,vo,jF,kB),(zM,lc,kC),nh,qX,gK,fJ)=>
 (Bm ((zM,lc,kC),lM,cd .i64 kZ kz,mL)).ab (fun((vj,xg,zN),p9,n6,ni)=>
 (ai 0 (aa fJ) (aa fJ)).ab (fun _=>
 (ai 0 1 (aa (((kZ,kz,mL,zN)::([]:List (Int×(Int×(Int×(List Int))))))))).ab (fun _=>
 (lH (bj (aa fJ) (aa (((kZ,kz,mL,zN)::([]:List (Int×(Int×(Int×(List Int))))))))) 48).ab (fun _=>
 (ai 0 (aa gK) (aa gK)).ab (fun _=>
 (ai 0 (bj (aa fJ) (aa (((kZ,kz,mL,zN)::([]:List (Int×(Int×(Int×(List Int))))))))) (aa (eY fJ (((kZ,kz,mL,zN)::([]:List (Int×(Int×(Int×(List Int)))))))))).ab (fun _=>
 some (Sum.inl ((lM,vo,mL,jF,kB,bA .i64 sx 1),(p9,n6,ni),nh,qX,gK,eY fJ (((kZ,kz,mL,zN)::([]:List (Int×(Int×(Int×(List Int)))))))))))))))))))))
 (((ai 0 (aa iU) (aa iU)).ab (fun _=>
 (ai 0 (aa gj) (aa gj)).ab (fun _=>
 some (Sum.inl ((ct,eA,eG),e9,ii,iU,gj))))).ab (fun zO=>
 some (Sum.inr zO))))
 ((i3,l4,(1:Int),l4,aS (aa l4),(0:Int)),(l0,i1,i2),(0:Int),i3,([]:List (Int×(Int×(Int×(List Int))))),([]:List (Int×(Int×(Int×(List Int)))))))))
 (fun((Rh,zz,sA),zA,vk,oe,lP)=>
 (cr lP 0 (aa lP)).ab (fun lQ=>
 some ((vk,lQ),Rh,zz,sA))))
def Bn:(((List Int)×(Int×Int))×(Int×(List Int)))->(Option ((Int×(List (Int×(Int×(Int×(List Int))))))×((List Int)×(Int×Int)))):=Hy aC
theorem aib (x:(((List Int)×(Int×Int))×(Int×(List Int)))) (z:((Int×(List (Int×(Int×(Int×(List Int))))))×((List Int)×(Int×Int)))) (h:Bn x=some z):Hy aC x=some z:=h
def IF:ao:=[(.one,[.list [.int .u8]]),(.one,[.int .i64]),(.one,[.int .i64]),(.one,[.list [.int .i64]])]
def UC:ao:=[(.agg,[.int .i64,.list [.int .i64,.int .i64,.int .i64,.list [.int .i64]]])]
def anE:aQ:=[[some .aG]]
def Hm (NN:Nat):((List Int)×(Int×(Int×(List Int))))->(Option (Int×(List (Int×(Int×(Int×(List Int))))))):=
 (fun((l0,i1,i2,l3):((List Int)×(Int×(Int×(List Int)))))=>
 (wc (l0,i1)).ab (fun(l4,i5,i6)=>
 (Bn ((l4,i5,i6),i2,l3)).ab (fun((i7,l8),l9,cG,eF)=>
 some (i7,l8))))
def Bh:((List Int)×(Int×(Int×(List Int))))->(Option (Int×(List (Int×(Int×(Int×(List Int))))))):=Hm aC
theorem ahZ (x:((List Int)×(Int×(Int×(List Int))))) (z:(Int×(List (Int×(Int×(Int×(List Int))))))) (h:Bh x=some z):Hm aC x=some z:=h
def IB:ao:=[(.agg,[.list [.int .i64],.list [.int .i64],.list [.int .i64]]),(.agg,[.list [.int .i64],.list [.int .i64],.list [.int .i64]])]
def Uy:ao:=[(.one,[.bool])]
def anC:aQ:=[]
def Hl (NN:Nat):(((List Int)×((List Int)×(List Int)))×((List Int)×((List Int)×(List Int))))->(Option Bool):=
 (fun(((l0,l1,l2),l3,l4,l5):(((List Int)×((List Int)×(List Int)))×((List Int)×((List Int)×(List Int)))))=>
 (v8 (l0,l3)).ab (fun b6=>
 ax (b6)
 ((v8 (l1,l4)).ab (fun b7=>
 ax (b7)
 ((v8 (l2,l5)).ab (fun b8=>
 some b8))
 (some false)))
 (some false)))
def Be:(((List Int)×((List Int)×(List Int)))×((List Int)×((List Int)×(List Int))))->(Option Bool):=Hl aC
theorem ahV (x:(((List Int)×((List Int)×(List Int)))×((List Int)×((List Int)×(List Int))))) (z:Bool) (h:Be x=some z):Hl aC x=some z:=h
def Iw:ao:=[(.one,[.int .i64]),(.one,[.list [.int .i64]]),(.one,[.list [.int .i64]])]
def Ur:ao:=[(.one,[.int .i64])]
def anv:aQ:=[]
def Hi (NN:Nat):(Int×((List Int)×(List Int)))->(Option Int):=
 (fun((i0,l1,l2):(Int×((List Int)×(List Int))))=>
 ca (bM NN (fun((i3,l4,l5,i6,i7):(Int×((List Int)×((List Int)×(Int×Int)))))=>
 ax (bG i7 i6)
 ((eo l5 i7).ab (fun i8=>
 ax (cJ i8 i3)
 ((eo l4 i7).ab (fun i9=>
 some (Sum.inr (Sum.inr i9))))
 (some (Sum.inl (i3,l4,l5,i6,bA .i64 i7 1)))))
 (some (Sum.inr (Sum.inl i3))))
 (i0,l2,l1,aS (aa l1),(0:Int)))
 (fun cG=>
 some cG))
def Ba:(Int×((List Int)×(List Int)))->(Option Int):=Hi aC
theorem ahP (x:(Int×((List Int)×(List Int)))) (z:Int) (h:Ba x=some z):Hi aC x=some z:=h
def HU:ao:=[(.agg,[.int .i64,.int .i64,.int .i64]),(.agg,[.list [.int .i64],.list [.int .i64],.list [.int .i64]]),(.one,[.list [.int .i64]]),(.one,[.list [.int .i64]])]
def TW:ao:=[(.agg,[.list [.int .i64],.list [.int .i64],.list [.int .i64]]),(.one,[.bool])]
def am1:aQ:=[]
def Hc (NN:Nat):((Int×(Int×Int))×(((List Int)×((List Int)×(List Int)))×((List Int)×(List Int))))->(Option (((List Int)×((List Int)×(List Int)))×Bool)):=
 (fun(((i0,i1,i2),(l3,l4,l5),l6,l7):((Int×(Int×Int))×(((List Int)×((List Int)×(List Int)))×((List Int)×(List Int)))))=>
 (oE ((i0,i1,i2),l3,l4,l5)).ab (fun b8=>
 ax (dA b8)
 (some ((([]:List Int),([]:List Int),([]:List Int)),false))
 (ax (gC (aS (aa l6)) (aS (aa l7)))
 (some ((([]:List Int),([]:List Int),([]:List Int)),false))
 ((AY (l3,l4,l5)).ab (fun(l9,fy,ct)=>
 ca ((ai 0 (aa l9) (aa l9)).ab (fun _=>
 (ai 0 0 (aa (([]:List Int)))).ab (fun _=>
 (ai 0 0 (aa (([]:List Int)))).ab (fun _=>
 (ai 0 0 (aa (([]:List Int)))).ab (fun _=>
 (ai 0 (aa l9) (aa l9)).ab (fun _=>
 (ai 0 (aa fy) (aa fy)).ab (fun _=>
 (ai 0 (aa ct) (aa ct)).ab (fun _=>
 bM NN (fun(((dG,eO,e9,ii),(fP,f8,fw),fQ,gk,dI,dM,fz,fh):(((List Int)×((List Int)×(Int×Int)))×((Int×(Int×Int))×((List Int)×((List Int)×((List Int)×((List Int)×((List Int)×(List Int)))))))))=>
 ax (bG ii e9)
 ((fj ii (aa dM)).ab (fun k25=>
 (dt dM (bj 0 k25)).ab (fun kU=>
 (Ba (kU,dG,eO)).ab (fun ky=>
 (fj ii (aa dM)).ab (fun xo=>
 (dt dM (bj 0 xo)).ab (fun pT=>
 (ai 0 (aa dM) (aa (bR dM (bj 0 xo) ky))).ab (fun _=>
 (ai 0 (aa fQ) (aa fQ)).ab (fun _=>
 (ai 0 (aa gk) (aa gk)).ab (fun _=>
 (ai 0 (aa dI) (aa dI)).ab (fun _=>
 (ai 0 (aa dM) (aa (bR dM (bj 0 xo) ky))).ab (fun _=>
 (ai 0 (aa fz) (aa fz)).ab (fun _=>
 (ai 0 (aa fh) (aa fh)).ab (fun _=>
 some (Sum.inl ((dG,eO,e9,bA .i64 ii 1),(fP,f8,fw),fQ,gk,dI,bR dM (bj 0 xo) ky,fz,fh)))))))))))))))
 (((ai 0 (aa fQ) (aa fQ)).ab (fun _=>
 (ai 0 (aa gk) (aa gk)).ab (fun _=>
 (ai 0 (aa dI) (aa dI)).ab (fun _=>
 (ai 0 (aa dM) (aa dM)).ab (fun _=>
 (ai 0 (aa fz) (aa fz)).ab (fun _=>
 (ai 0 (aa fh) (aa fh)).ab (fun _=>
 some (Sum.inl ((fP,f8,fw),fQ,gk,dI,dM,fz,fh))))))))).ab (fun jh=>
 some (Sum.inr jh))))
 ((l6,l7,aS (aa l9),(0:Int)),(i0,i1,i2),([]:List Int),([]:List Int),([]:List Int),l9,fy,ct)))))))))
 (fun((gV,iR,mK),zL,tK,gA,iV,kE,ji)=>
 (cr iV 0 (aa iV)).ab (fun jZ=>
 (cr kE 0 (aa kE)).ab (fun gm=>
 (cr ji 0 (aa ji)).ab (fun gn=>
 (oE ((gV,iR,mK),jZ,gm,gn)).ab (fun b43=>
 ax (dA b43)
 (some ((([]:List Int),([]:List Int),([]:List Int)),false))
 ((dw iV (aa iV)).ab (fun gp=>
 (dw kE (aa kE)).ab (fun nq=>
 (dw ji (aa ji)).ab (fun gJ=>
 some ((gp,nq,gJ),true)))))))))))))))
def AQ:((Int×(Int×Int))×(((List Int)×((List Int)×(List Int)))×((List Int)×(List Int))))->(Option (((List Int)×((List Int)×(List Int)))×Bool)):=Hc aC
theorem ahl (x:((Int×(Int×Int))×(((List Int)×((List Int)×(List Int)))×((List Int)×(List Int))))) (z:(((List Int)×((List Int)×(List Int)))×Bool)) (h:AQ x=some z):Hc aC x=some z:=h
def Ih:ao:=[(.agg,[.list [.int .i64],.list [.int .i64],.list [.int .i64]]),(.agg,[.list [.int .i64],.list [.int .i64],.list [.int .i64]])]
def Ue:ao:=[(.one,[.bool])]
def anj:aQ:=[]
def He (NN:Nat):(((List Int)×((List Int)×(List Int)))×((List Int)×((List Int)×(List Int))))->(Option Bool):=
 (fun(((l0,l1,l2),l3,l4,l5):(((List Int)×((List Int)×(List Int)))×((List Int)×((List Int)×(List Int)))))=>
 (sT (l0,l3)).ab (fun b6=>
 ax (b6)
 ((sT (l1,l4)).ab (fun b7=>
 ax (b7)
 ((sT (l2,l5)).ab (fun b8=>
 some b8))
 (some false)))
 (some false)))
def DW:(((List Int)×((List Int)×(List Int)))×((List Int)×((List Int)×(List Int))))->(Option Bool):=He aC
theorem ahC (x:(((List Int)×((List Int)×(List Int)))×((List Int)×((List Int)×(List Int))))) (z:Bool) (h:DW x=some z):He aC x=some z:=h
def HW:ao:=[(.agg,[.int .i64,.int .i64,.int .i64]),(.agg,[.list [.int .i64],.list [.int .i64],.list [.int .i64]]),(.agg,[.list [.int .i64],.list [.int .i64],.list [.int .i64]])]
def TY:ao:=[(.one,[.bool])]
def am3:aQ:=[]
def Hd (NN:Nat):((Int×(Int×Int))×(((List Int)×((List Int)×(List Int)))×((List Int)×((List Int)×(List Int)))))->(Option Bool):=
 (fun(((i0,i1,i2),(l3,l4,l5),l6,l7,l8):((Int×(Int×Int))×(((List Int)×((List Int)×(List Int)))×((List Int)×((List Int)×(List Int))))))=>
 (oE ((i0,i1,i2),l3,l4,l5)).ab (fun b9=>
 ax (b9)
 ((oE ((i0,i1,i2),l6,l7,l8)).ab (fun qC=>
 ax (qC)
 ((vW ((i0,i1,i2),l3,l4,l5)).ab (fun(ct,dG,eO)=>
 (vW ((i0,i1,i2),l6,l7,l8)).ab (fun(fg,eP,iU)=>
 (cr ct 0 (aa ct)).ab (fun gj=>
 (cr dG 0 (aa dG)).ab (fun kD=>
 (cr eO 0 (aa eO)).ab (fun fQ=>
 (cr fg 0 (aa fg)).ab (fun gk=>
 (cr eP 0 (aa eP)).ab (fun dI=>
 (cr iU 0 (aa iU)).ab (fun dM=>
 (DW ((gj,kD,fQ),gk,dI,dM)).ab (fun Eh=>
 some Eh))))))))))
 (some false)))
 (some false)))
def AS:((Int×(Int×Int))×(((List Int)×((List Int)×(List Int)))×((List Int)×((List Int)×(List Int)))))->(Option Bool):=Hd aC
theorem ahn (x:((Int×(Int×Int))×(((List Int)×((List Int)×(List Int)))×((List Int)×((List Int)×(List Int)))))) (z:Bool) (h:AS x=some z):Hd aC x=some z:=h
structure vU (p:Int) (D:List Int) (j:Nat) (left:Nat) (L:List aM):Prop where
 lf:left<=4
 fin:j=D.length->left=1
 jb:L.length=j
 Ew:aP L=D.take j
 ch:fN (mY p) 0 1 L=some (left:Int)
 b4:∀s∈L,s.2.2.1<=4
theorem vU.next {p:Int} {D:List Int} {j left right:Nat} {L:List aM} {d:List Int} (I:vU p D j left L) (hj:j<D.length) (hd:∀v∈D,1<=v/\v<=3) (hr:right<=4) (hf:j+1=D.length->right=1)
  (hl:d.length=left*(D.getD j 0).toNat*right) (ha:dD p d):vU p D (j+1) right (L++[((left:Int),D.getD j 0,(right:Int),d)]):=by
 have hv:=hd _ (mF hj)
 have atp:=I.lf
 refine⟨hr,hf,by rw[List.length_append,I.jb];rfl,?_,?_,?_⟩
 ·unfold aP
  rw[List.map_append]
  show aP L++[D.getD j 0]=_
  rw[I.Ew,List.take_add_one,r6 hj]
  rfl
 ·rw[JL,I.ch]
  show mY p _ _ _=_
  refine if_pos ⟨?_,rfl⟩
  obtain⟨e,he⟩:∃e:Nat,D.getD j 0=(e:Int):=⟨(D.getD j 0).toNat,by omega⟩
  rw[he] at hl hv⊢
  rw[Int.toNat_natCast] at hl
  exact Dn (by omega) (by omega) ⟨by omega,by omega⟩ hl ha
 ·intro s hs
  rcases List.mem_append.1 hs with h|h
  ·exact I.b4 s h
  ·rw[List.mem_singleton] at h
   subst h
   show(right:Int)<=4
   omega
theorem vU.ok {p:Int} {D:List Int} {left:Nat} {L:List aM} (I:vU p D D.length left L) (hp:cu p=true) (hl:1<=D.length/\D.length<=4) (hd:∀v∈D,1<=v/\v<=3):e7 (p,L)=true/\aP L=D:=by
 have gT:aP L=D:=by rw[I.Ew,List.take_length]
 have h1:=I.fin rfl
 subst h1
 have bk:dr D<=4096:=by
  rw[Ad fun x hx=>(hd x hx).1]
  have:∀(l:List Int),(∀v∈l,1<=v/\v<=3)->bJ l<=3^l.length:=by
   intro l
   induction l with
   |nil=>intro _;decide
   |cons a l ih=>
    intro h
    have ha:=h a (by simp)
    have:=Nat.mul_le_mul (show a.toNat<=3 by omega) (ih fun v hv=>h v (by simp[hv]))
    simp only[bJ,List.length_cons,Nat.pow_succ]
    omega
  have h2:=this D hd
  have h3:3^D.length<=3^4:=Nat.pow_le_pow_right (by decide) hl.2
  omega
 refine⟨?_,gT⟩
 simp only[e7,hp,I.ch,gT,I.jb,Bool.true_and]
 rw[decide_eq_true ⟨hl.1,by omega⟩,decide_eq_true bk]
 rfl
theorem afN (c:Cu) (p:Int) (D:List Int) (h:lC c) (hp:cu p=true) (hl:1<=D.length/\D.length<=4) (hd:∀v∈D,1<=v/\v<=3):
  ∃L c',Bn (c,p,D)=some ((p,L),c')/\lC c'/\vU p D D.length 1 L:=by
 obtain⟨cl,ci,ck⟩:=c
 simp only[Bn,Hy]
 rw[show ai 0 0 (aa ([]:List (Int×(Int×(Int×(List Int))))))=some () from rfl]
 simp only[av]
 generalize hL:bM aC _ _=o
 obtain⟨s,rfl,c',L,rfl,cA,hI⟩:∃s,o=some s/\∃(c':Cu) (L:List aM),s=Sum.inl (c',(0:Int),p,([]:List aM),L)/\lC c'/\vU p D D.length 1 L:=by
  rw[<-hL]
  refine FL D.length (fun j (s:((Int×((List Int)×(Int×((List Int)×(Int×Int)))))×(((List Int)×(Int×Int))×(Int×(Int×((List (Int×(Int×(Int×(List Int)))))×(List (Int×(Int×(Int×(List Int)))))))))))=>∃(c':Cu) (left:Nat) (L:List aM),s=((p,D,(left:Int),D,(D.length:Int),(j:Int)),c',(0:Int),p,([]:List aM),L)/\lC c'/\vU p D j left L) _ ?_ ?_ ?_ (dk (by omega))
  ·rintro j s hj ⟨⟨l1,i1,h1⟩,left,L,rfl,hc,I⟩
   dsimp only
   have hv:=hd _ (mF hj)
   have hlf:=I.lf
   rw[aR (df (by omega)),eu,r6 hj]
   simp only[av]
   obtain⟨y,⟨l2,i2,h2⟩,e2,hy,_,hc⟩:=I2 _ 4 hc (by decide)
   rw[e2]
   simp only[av]
   obtain⟨b,⟨l3,i3,h3⟩,e3,hc⟩:=Tc _ 16 hc (by decide)
   rw[e3]
   simp only[av,cC]
   rw[gw (a:=1) (b:=y) (by omega) (by omega)]
   have dd:zW (1:Int) (o7 (4:Int) (D.getD j 0))=D.getD j 0:=by unfold zW o7;omega
   rw[dd]
   have fq:iF .i64 (aS (aa D)) 1=((D.length - 1:Nat):Int):=af1 (n:=D.length) hl.1 (by omega)
   have bZ:∀r:Int,0<=r/\r<=4->∃right:Nat,(right<=4/\(j+1=D.length->right=1))/\(right:Int)=if j=D.length - 1 then 1 else r:=fun r hr=>by
    by_cases e:j=D.length - 1
    ·exact⟨1,⟨by omega,fun _=>rfl⟩,by rw[if_pos e];rfl⟩
    ·exact⟨r.toNat,⟨by omega,fun _=>by omega⟩,by rw[if_neg e];omega⟩
   obtain⟨r,hr,Pw⟩:∃r:Int,(0<=r/\r<=4)/\r=if b=true then 0 else 1+y:=by
    cases b
    ·exact⟨1+y,by omega,rfl⟩
    ·exact⟨0,by omega,rfl⟩
   obtain⟨right,⟨g1,g2⟩,g3⟩:=bZ r hr
   have hld:cd .i64 (left:Int) (D.getD j 0)=((left*(D.getD j 0).toNat:Nat):Int):=by
    obtain⟨e,he⟩:∃e:Nat,D.getD j 0=(e:Int):=⟨(D.getD j 0).toNat,by omega⟩
    rw[he,sD (by omega) (by omega)]
    rfl
   have tt:left*(D.getD j 0).toNat<=4*3:=Nat.mul_le_mul hlf (by omega)
   obtain⟨d,⟨l4,i4,h4⟩,e4,q1,q2,hc⟩:=agp (l3,i3,h3) p (left*(D.getD j 0).toNat) right hc (eT hp) (by omega) (by omega)
   have I':=I.next hj hd g1 g2 q1 q2
   by_cases e:j=D.length - 1
   ·rw[if_pos e] at g3
    cases b<;>
    ·first|rw[aL rfl]|rw[aR rfl]
     simp only[ca,Option.bind]
     rw[fq]
     rw[aR (by unfold cJ;exact beq_iff_eq.2 (by omega))]
     simp only[cC,av,hld]
     rw[g3] at e4
     rw[e4]
     simp only[av,cC]
     rw[show∀s:aM,ai 0 1 (aa [s])=some () from fun _=>rfl]
     simp only[av]
     rw[ti (by show(bj L.length 1)*48<=eQ;rw[I.jb];simp only[bj,eQ];omega)]
     simp only[av]
     rw[O8,gw (by omega) (by omega)]
     exact⟨_,rfl,(l4,i4,h4),right,L++[((left:Int),D.getD j 0,(right:Int),d)],by rw[g3];rfl,hc,I'⟩
   ·rw[if_neg e,Pw] at g3
    cases b<;>
    ·first|rw[aL rfl]|rw[aR rfl]
     simp only[ca,Option.bind]
     rw[fq]
     rw[aL (by unfold cJ;rw[beq_eq_false_iff_ne];omega)]
     simp only[cC,av,hld]
     simp only[Bool.false_eq_true,if_false,if_true] at g3
     rw[g3] at e4
     rw[e4]
     simp only[av,cC]
     rw[show∀s:aM,ai 0 1 (aa [s])=some () from fun _=>rfl]
     simp only[av]
     rw[ti (by show(bj L.length 1)*48<=eQ;rw[I.jb];simp only[bj,eQ];omega)]
     simp only[av]
     rw[O8,gw (by omega) (by omega)]
     exact⟨_,rfl,(l4,i4,h4),right,L++[((left:Int),D.getD j 0,(right:Int),d)],by rw[g3];rfl,hc,I'⟩
  ·rintro s ⟨⟨l1,i1,h1⟩,left,L,rfl,hc,I⟩
   dsimp only
   rw[aL (cN (by omega))]
   simp only[av,cC]
   have:=I.fin rfl
   subst this
   exact⟨_,rfl,_,_,rfl,hc,I⟩
  ·exact⟨(cl,ci,ck),1,[],rfl,h,⟨by decide,fun _=>rfl,rfl,rfl,rfl,fun s hs=>by cases hs⟩⟩
 simp only[ca,Option.bind,fT,av]
 exact⟨L,c',rfl,cA,hI⟩
end Go.Am
end
section
namespace Go.Am
def d2 (a b c d:Int):Int:=a*d - b*c
def d3 (a b c d e f g h i:Int):Int:=a*d2 e f h i - b*d2 d f g i+c*d2 d e g h
theorem bI.sub {p a b c d:Int} (h:bI p a b) (h':bI p c d):bI p (a - c) (b - d):=by
 obtain⟨q,rfl⟩:=h;obtain⟨q',rfl⟩:=h';exact⟨q - q',by grind⟩
end Go.Am
end
section
namespace Go.Am
section
variable {p:Int} {n:Nat} {M0:aO}
end
end Go.Am
end
section
namespace Go.Am
def CX (n:Nat) (X Y:aO):aO:=fun a b=>sm n (fun i=>X a i*Y i b)
theorem qJ {p a b:Int}:bI p a b↔a%p=b%p:=by
 constructor
 ·rintro⟨q,rfl⟩;exact Int.add_mul_emod_self_left b p q
 ·intro h;exact((BO p a).symm).trans (by rw[h];exact BO p b)
theorem ko {p:Int} {f g:Nat->Int} {n:Nat} (h:∀i,i<n->bI p (f i) (g i)):bI p (sm n f) (sm n g):=qJ.2 (Dr fun i hi=>qJ.1 (h i hi))
structure ae9 (p:Int) (n:Nat) (A B:aO) (t k:Nat) (inv:Int) (f:Nat->Int):Prop where
 bt:∀b,b<n->bI p (B t b) (inv*A k b)
 ba:∀a,a<n->a≠t->∀b,b<n->bI p (B a b) (c9 A t k a b+f a*B t b)
theorem D9.vF {p:Int} {n:Nat} {M N:aO} {t k j:Nat} {inv:Int} (P:D9 p n M N t k j inv) (Y:aO):ae9 p n (CX n M Y) (CX n N Y) t k inv (fun a=>p - c9 M t k a j):=by
 constructor
 ·intro b _
  unfold CX
  rw[<-vL]
  refine ko fun i _=>?_
  rw[P.nt i]
  refine(bI.mul (BO p _) (bI.refl p (Y i b))).trans ?_
  exact⟨0,by grind⟩
 ·intro a ha bU b _
  have e:c9 (CX n M Y) t k a b=sm n (fun i=>c9 M t k a i*Y i b):=by
   unfold c9 CX
   split
   ·rfl
   ·split<;>rfl
  rw[e]
  unfold CX
  rw[<-vL,<-LA]
  refine ko fun i _=>?_
  rw[P.na a ha bU i]
  refine(bI.mul (BO p _) (bI.refl p (Y i b))).trans ?_
  exact⟨0,by grind⟩
theorem YP {P:Nat->Bool}:∀n,(List.range n).countP P=n↔∀i,i<n->P i=true
 |0=>by simp
 |n+1=>by
  rw[Jk]
  have h:=YP (P:=P) n
  have ig:(List.range n).countP P<=n:=by have:=List.countP_le_length (p:=P) (l:=List.range n);simpa using this
  constructor
  ·intro hh
   cases hP:P n with
   |false=>rw[hP] at hh;simp at hh;omega
   |true=>
    rw[hP] at hh
    simp only[if_true] at hh
    have:=h.1 (by omega)
    intro i hi
    by_cases gf:i=n
    ·rw[gf];exact hP
    ·exact this i (by omega)
  ·intro hh
   rw[hh n (by omega),h.2 fun i hi=>hh i (by omega)]
   simp
theorem S1 (p:Int) (k:Nat) (A B:aO) (i j:Nat):bI p (iC p k A B i j) (sm k (fun t=>A i t*B t j)):=by
 unfold iC
 rw[Y7]
 exact BO _ _
theorem ac5 {p:Int} {r c:Nat} {M:aO} (bk:cu p=true) (hM:cT p r c M) {i j:Nat} (hi:i<r) (hj:j<c):
  bI p (sm (cb p r M c).2.1.length (fun t=>M i (pv (cb p r M c).2.1 t)*(cb p r M c).1 t j)) (M i j):=by
 have hp:dh p:=eT bk
 have R:=Ai bk hM c (Nat.le_refl c)
 have I:=ph hp hM c
 obtain⟨y,hy⟩:=(Lb bk hM (M i) c (Nat.le_refl c)).2 (mU hi)
 generalize cb p r M c=s at R I hy
 have bZ:∀t,t<s.2.1.length->bI p (M i (pv s.2.1 t)) (y t):=fun t ht=>by
  refine qJ.2 ?_
  rw[hy _ (R.lt t ht),sK (a:=t) r (by have:=I.l;omega) fun a ha aD=>by rw[R.bQ t ht a ha aD,Int.mul_zero]]
  rw[R.one t ht,Int.mul_one]
 have e1:bI p (sm s.2.1.length (fun t=>M i (pv s.2.1 t)*s.1 t j)) (sm s.2.1.length (fun t=>y t*s.1 t j)):=ko fun t ht=>bI.mul (bZ t ht) (bI.refl _ _)
 refine e1.trans (qJ.2 ?_)
 rw[hy j hj,Wl (m:=s.2.1.length) r I.l fun a ha hla=>by rw[R.zero a hla ha j hj,Int.mul_zero]]
theorem aeE {p:Int} {r c:Nat} {M:aO} (bk:cu p=true) (hM:cT p r c M):(cb p c (ui M) r).2.1.length<=(cb p r M c).2.1.length:=by
 have hp:dh p:=eT bk
 have R:=Ai bk hM c (Nat.le_refl c)
 have hT:cT p c r (ui M):=fun j hj i hi=>hM i hi j hj
 have hB:cT p (cb p r M c).2.1.length r (fun t i=>M i (pv (cb p r M c).2.1 t)):=fun t ht i hi=>hM i hi _ (R.lt t ht)
 refine Nat.le_trans (xH bk hT hB fun x hx=>qx (fun j hj=>?_) hx) (ph hp hB r).l
 refine⟨fun t=>(cb p r M c).1 t j,fun i hi=>?_⟩
 show M i j%p=_
 rw[<-qJ.1 (ac5 bk hM hi hj)]
 congr 1
 exact j9 fun t _=>Int.mul_comm _ _
theorem asV {p:Int} {r c:Nat} {M:aO} (bk:cu p=true) (hM:cT p r c M):(cb p c (ui M) r).2.1.length=(cb p r M c).2.1.length:=
 Nat.le_antisymm (aeE bk hM) (aeE (M:=ui M) bk (fun j hj i hi=>hM i hi j hj))
end Go.Am
end
section
namespace Go.Am
theorem Dq (N k:Nat) (y g:Nat->Int) (L:aO):sm N (fun u=>y u*sm k (fun t=>L u t*g t))=sm k (fun t=>sm N (fun u=>y u*L u t)*g t):=by
 have e1:sm N (fun u=>y u*sm k (fun t=>L u t*g t))=sm N (fun u=>sm k (fun t=>y u*L u t*g t)):=j9 fun u _=>by
  rw[<-vL]
  exact j9 fun t _=>by rw[Int.mul_assoc]
 rw[e1,LB]
 exact j9 fun t _=>by rw[adJ]
theorem Y6 (p:Int) (f g:Nat->Int) (n:Nat):bI p (ic p f g n) (sm n (fun t=>f t*g t)):=S1 p n (fun _=>f) (fun t _=>g t) 0 0
theorem adK {k t:Nat} (g:Nat->Int) (ht:t<k):sm k (fun b=>(if b=t then(1:Int) else 0)*g b)=g t:=by
 rw[sK (a:=t) k ht (fun i _ aD=>by simp[aD])]
 simp
theorem yM {p a b:Int} (h:a=b):bI p a b:=h▸bI.refl p a
theorem Jw {p a:Int}:bI p (a%p) a:=BO p a
def LI (m:Int) (N k:Nat) (L:aO):Prop:=∀x:Nat->Int,Sp m N k L x
def q8:aO:=fun a b=>if b=a then 1 else 0
theorem afa {m:Int} {k:Nat} (x:Nat->Int):Sp m k k q8 x:=⟨x,fun b hb=>by
 have:sm k (fun i=>x i*q8 i b)=x b:=by
  rw[sK (a:=b) k hb (fun i _ aD=>by unfold q8;rw[if_neg (fun h=>aD h.symm),Int.mul_zero])]
  unfold q8
  rw[if_pos rfl,Int.mul_one]
 rw[this]⟩
theorem ae4 {m:Int} {N k:Nat} {L:aO} (h:∀t,t<k->∃i,i<N/\∀b,b<k->q8 t b%m=L i b%m):LI m N k L:=fun x=>
 qx (fun t ht=>by
  obtain⟨i,hi,e⟩:=h t ht
  exact wi (mU hi) e) (afa x)
theorem ae3 {m:Int} {N k N' k' K:Nat} {L A L':aO} (hL:LI m N k L) (hA:LI m K k' A)
  (h:∀a,a<K->∃(t:Nat) (φ ψ:Nat->Nat),t<k/\ψ t=a/\(∀u,u<N->φ u<N')/\∀u,u<N->∀b,b<k'->bI m (L' (φ u) b) (sm k (fun t=>L u t*A (ψ t) b))):LI m N' k' L':=fun x=>by
 refine qx (fun a ha=>?_) (hA x)
 obtain⟨t,φ,ψ,ht,hψ,hφ,e⟩:=h a ha
 refine qx (N:=fun u=>L' (φ u)) (r':=N) (fun u hu=>mU (hφ u hu)) ?_
 obtain⟨y,hy⟩:=hL (fun b=>if b=t then 1 else 0)
 refine⟨y,fun b hb=>qJ.1 (bI.symm ?_)⟩
 refine(ko fun u hu=>bI.mul (bI.refl _ (y u)) (e u hu b hb)).trans ?_
 rw[Dq]
 refine(ko fun q hq=>bI.mul (qJ.2 (hy q hq).symm) (bI.refl _ (A (ψ q) b))).trans ?_
 rw[adK (fun q=>A (ψ q) b) ht,hψ]
 exact bI.refl _ _
theorem aa4 {m:Int} (hm:dh m) (k:Nat):cT m k k q8:=fun a _ b _=>by
 have:=hm.1
 unfold q8 eN
 split<;>omega
theorem aqJ {m:Int} {k:Nat} (bk:cu m=true):(cb m k q8 k).2.1.length=k:=by
 have hm:=eT bk
 have h2:=hm.1
 have hI:=aa4 hm k
 rw[<-Jl bk hI k (Nat.le_refl k)]
 refine(YP k).2 fun j hj=>zG.2 ((Tk bk hI hj).1 ⟨q8 j,mU hj,fun b hb=>?_,?_⟩)
 ·unfold q8
  rw[if_neg (by omega)]
  exact Int.zero_emod _
 ·unfold q8
  rw[if_pos rfl,Int.emod_eq_of_lt (by omega) (by omega)]
  decide
theorem aqG {m:Int} {N k:Nat} {L:aO} (bk:cu m=true) (hL:cT m N k L) (h:LI m N k L):(cb m N L k).2.1.length=k:=by
 have hm:=eT bk
 refine Nat.le_antisymm (ph hm hL k).lj ?_
 have:=xH bk (aa4 hm k) hL fun x _=>h x
 rwa[aqJ bk] at this
theorem ae2 {m:Int} {N k:Nat} {L L':aO} (h:LI m N k L) (e:∀u,u<N->∀b,b<k->bI m (L' u b) (L u b)):LI m N k L':=fun x=>by
 obtain⟨y,hy⟩:=h x
 refine⟨y,fun b hb=>(hy b hb).trans (qJ.1 (ko fun u hu=>bI.mul (bI.refl _ _) (e u hu b hb).symm))⟩
theorem aqH {m:Int} {N k c:Nat} {U L R:aO} (bk:cu m=true) (hU:cT m N c U) (hL:LI m N k L) (hR:LI m c k (ui R)) (h:∀u,u<N->∀w,w<c->bI m (U u w) (sm k (fun t=>L u t*R t w))):
  (cb m N U c).2.1.length=k:=by
 have hm:=eT bk
 have h2:=hm.1
 let R':aO:=fun t w=>R t w%m
 have wQ:cT m k c R':=fun t _ w _=>⟨Int.emod_nonneg _ (by omega),Int.emod_lt_of_pos _ (by omega)⟩
 have hT:cT m c k (ui R'):=fun w hw t ht=>wQ t ht w hw
 have k1:(cb m c (ui R') k).2.1.length=k:=aqG bk hT (ae2 hR fun w _ t _=>Jw)
 rw[asV bk wQ] at k1
 refine Nat.le_antisymm ?_ ?_
 ·refine Nat.le_trans (xH bk hU wQ fun x hx=>qx (fun u hu=>?_) hx) (Nat.le_of_eq k1)
  refine⟨fun t=>L u t,fun w hw=>?_⟩
  refine qJ.1 ((h u hu w hw).trans (ko fun t _=>bI.mul (bI.refl _ _) Jw.symm))
 ·rw[<-k1]
  refine(xH bk wQ hU fun x hx=>qx (fun t ht=>?_) hx)
  obtain⟨y,hy⟩:=hL (fun b=>if b=t then 1 else 0)
  refine⟨y,fun w hw=>qJ.1 (bI.symm ?_)⟩
  refine(ko fun u hu=>bI.mul (bI.refl _ (y u)) (h u hu w hw)).trans ?_
  rw[Dq]
  refine(ko fun q hq=>bI.mul (qJ.2 (hy q hq).symm) (bI.refl _ (R q w))).trans ?_
  rw[adK (fun q=>R q w) ht]
  exact Jw.symm
theorem aqK {m:Int} {N k c:Nat} {U L R:aO} (bk:cu m=true) (hU:cT m N c U) (h:∀u,u<N->∀w,w<c->bI m (U u w) (sm k (fun t=>L u t*R t w))):(cb m N U c).2.1.length<=k:=by
 have hm:=eT bk
 have h2:=hm.1
 have wQ:cT m k c (fun t w=>R t w%m):=fun t _ w _=>⟨Int.emod_nonneg _ (by omega),Int.emod_lt_of_pos _ (by omega)⟩
 refine Nat.le_trans (xH bk hU wQ fun x hx=>qx (fun u hu=>?_) hx) (ph hm wQ c).l
 refine⟨fun t=>L u t,fun w hw=>qJ.1 ((h u hu w hw).trans (ko fun t _=>bI.mul (bI.refl _ _) Jw.symm))⟩
theorem ZE {m:Int} {r c:Nat} {d:List Int} (bk:cu m=true) (hl:d.length=r*c) (hd:dD m d) {i j:Nat} (hi:i<r) (hj:j<c):
  bI m (bB c d i j) (sm (dE m r c d) (fun t=>bB (dE m r c d) (jd m r c d) i t*bB c (kP m r c d) t j)):=by
 have hM:=wl hl hd
 refine(ac5 bk hM hi hj).symm.trans (ko fun t ht=>?_)
 have h1:bB (dE m r c d) (jd m r c d) i t=bB c d i (pv (cb m r (bB c d) c).2.1 t):=j7 _ hi ht
 have h2:bB c (kP m r c d) t j=(cb m r (bB c d) c).1 t j:=j7 _ ht hj
 rw[h1,h2]
 exact bI.refl _ _
theorem aid {m:Int} {r c:Nat} {d:List Int} (bk:cu m=true) (hl:d.length=r*c) (hd:dD m d):LI m r (dE m r c d) (bB (dE m r c d) (jd m r c d)):=fun x=>by
 have hM:=wl hl hd
 have R:=Ai bk hM c (Nat.le_refl c)
 have I:=ph (eT bk) hM c
 have hs:Sp m r c (cb m r (bB c d) c).1 (fun b=>sm (dE m r c d) (fun s=>x s*(cb m r (bB c d) c).1 s b)):=by
  refine qx (N:=(cb m r (bB c d) c).1) (r':=dE m r c d) (fun i hi=>mU (Nat.lt_of_lt_of_le hi I.l)) ⟨x,fun b _=>rfl⟩
 obtain⟨y,hy⟩:=(Lb bk hM _ c (Nat.le_refl c)).1 hs
 refine⟨y,fun t ht=>?_⟩
 have e1:=hy (pv (cb m r (bB c d) c).2.1 t) (R.lt t ht)
 have e2:sm (dE m r c d) (fun s=>x s*(cb m r (bB c d) c).1 s (pv (cb m r (bB c d) c).2.1 t))=x t:=by
  rw[sK (a:=t) _ ht (fun s hs aD=>by rw[R.bQ t ht s (Nat.lt_of_lt_of_le hs I.l) aD,Int.mul_zero]),R.one t ht,Int.mul_one]
 have e1:=(congrArg (·%m) e2).symm.trans e1
 refine Eq.trans e1 ?_
 congr 1
 refine j9 fun i hi=>?_
 have h1:bB (dE m r c d) (jd m r c d) i t=bB c d i (pv (cb m r (bB c d) c).2.1 t):=j7 _ hi ht
 rw[h1]
theorem aie {m:Int} {r c:Nat} {d:List Int} (bk:cu m=true) (hl:d.length=r*c) (hd:dD m d):LI m c (dE m r c d) (ui (bB c (kP m r c d))):=by
 have hM:=wl hl hd
 have R:=Ai bk hM c (Nat.le_refl c)
 have I:=ph (eT bk) hM c
 refine ae4 fun t ht=>⟨_,R.lt t ht,fun b hb=>?_⟩
 have h2:ui (bB c (kP m r c d)) (pv (cb m r (bB c d) c).2.1 t) b=(cb m r (bB c d) c).1 b (pv (cb m r (bB c d) c).2.1 t):=j7 _ hb (R.lt t ht)
 rw[h2]
 unfold q8
 by_cases h:b=t
 ·rw[if_pos h,h,R.one t ht]
 ·rw[if_neg h,R.bQ t ht b (Nat.lt_of_lt_of_le hb I.l) h]
theorem KX (c p:Nat) (l:List Int) (a v j:Nat):bB c l (a*p+v) j=bB (p*c) l a (v*c+j):=by
 unfold bB
 congr 1
 rw[Nat.add_mul,Nat.mul_assoc,Nat.add_assoc]
def lN (m:Int) (l:List aM) (D:List Int):Nat->Nat->Nat->Int
 |0,_=>fun _=>1
 |i+1,u=>vF m (lN m l D i (u/(D.getD i 0).toNat)) (l.getD i bW) (u%(D.getD i 0).toNat)
def rL:List aM->aO
 |[]=>fun _ _=>1
 |s::l=>fun t w=>sm s.2.2.1.toNat (fun j=>oy s (w/bJ (aP l)) t j*rL l j (w%bJ (aP l)))
theorem ac3 {m:Int} {l:List aM} {D:List Int} {n:Nat}:∀i,i<=D.length->rA m l (dm D n) i=lN m l D i (n/bn D i)
 |0,_=>rfl
 |i+1,hi=>by
  show vF m (rA m l (dm D n) i) _ _=vF m (lN m l D i (n/bn D (i+1)/(D.getD i 0).toNat)) _ _
  rw[ac3 i (by omega),Kq (by omega),Nat.div_div_eq_div_mul,qq (show i<D.length by omega),Nat.mul_comm]
  rfl
theorem Rm {m:Int} (hm:dh m) (l:List aM) (D:List Int):∀i u j,eN m (lN m l D i u j)
 |0,_,_=>by have:=hm.1;exact⟨by show(0:Int)<=1;decide,by show(1:Int)<m;omega⟩
 |i+1,_,_=>wE hm _ _ _
theorem KD {m:Int} {l:List aM} {D:List Int} {i u v j:Nat} (hv:v<(D.getD i 0).toNat):
  bI m (lN m l D (i+1) (u*(D.getD i 0).toNat+v) j) (sm (l.getD i bW).1.toNat (fun t=>lN m l D i u t*oy (l.getD i bW) v t j)):=by
 show bI m (vF m (lN m l D i ((u*(D.getD i 0).toNat+v)/(D.getD i 0).toNat)) _ ((u*(D.getD i 0).toNat+v)%(D.getD i 0).toNat) j) _
 rw[pY hv,q9 hv]
 exact Y6 _ _ _ _
theorem Rl {m:Int} {l l':List aM} {D:List Int}:∀i,(∀k,k<i->l.getD k bW=l'.getD k bW)->lN m l D i=lN m l' D i
 |0,_=>rfl
 |i+1,h=>by
  funext u
  show vF m (lN m l D i _) _ _=vF m (lN m l' D i _) _ _
  rw[Rl i (fun k hk=>h k (by omega)),h i (by omega)]
def gN (m:Int) (l:List aM) (n:Nat):Int:=lN m l (aP l) l.length n 0
theorem Nw {m:Int} {l:List aM} (n:Nat):rR m l (dm (aP l) n)=gN m l n:=by
 unfold rR gN
 rw[ac3 l.length (by rw[ir];exact Nat.le_refl _),<-ir l,uh,Nat.div_one]
structure Ch (m:Int) (D:List Int) (L:List aM):Prop where
 fit:BS m L
 lG:aP L=D
 len:1<=L.length
 fst:(L.getD 0 bW).1=1
 KE:(L.getD (L.length - 1) bW).2.2.1=1
theorem Ch.left {m:Int} {D:List Int} {L:List aM} (h:Ch m D L):∀{k:Nat},k<L.length->(L.getD k bW).1.toNat=cP L k
 |0,_=>by rw[h.fst];rfl
 |k+1,hk=>by rw[h.fit.2 k hk];rfl
theorem Ch.Y4 {m:Int} {D:List Int} {L:List aM} (h:Ch m D L):D.length=L.length:=by rw[<-h.lG];exact ir L
theorem Ch.last {m:Int} {D:List Int} {L:List aM} (h:Ch m D L):cP L L.length=1:=by
 have:=h.len
 have e:L.length=L.length - 1+1:=by omega
 rw[e]
 show(L.getD (L.length - 1) bW).2.2.1.toNat=1
 rw[h.KE]
 rfl
theorem agq (L:List aM) (k:Nat):bJ (aP (L.drop k))=bn (aP L) k:=by
 unfold bn aP
 rw[List.map_drop]
theorem agr {L:List aM} {k:Nat} (hk:k<L.length):L.drop k=L.getD k bW::L.drop (k+1):=by
 rw[List.drop_eq_getElem_cons hk]
 congr 1
 rw[List.getD_eq_getElem?_getD,List.getElem?_eq_getElem hk]
 rfl
theorem aqE {m:Int} {D:List Int} {L:List aM} (h:Ch m D L) {i t v w:Nat} (hi:i<L.length) (hw:w<bn D (i+1)):
  rL (L.drop i) t (v*bn D (i+1)+w)=sm (cP L (i+1)) (fun j=>oy (L.getD i bW) v t j*rL (L.drop (i+1)) j w):=by
 rw[agr hi]
 show sm _ (fun j=>oy (L.getD i bW) ((v*bn D (i+1)+w)/bJ (aP (L.drop (i+1)))) t j*rL (L.drop (i+1)) j ((v*bn D (i+1)+w)%bJ (aP (L.drop (i+1)))))=_
 rw[agq,h.lG,pY hw,q9 hw]
 rfl
theorem Ch.split {m:Int} {D:List Int} {L:List aM} (h:Ch m D L):∀(q i:Nat),i+q=L.length->∀u w,w<bn D i->
  bI m (lN m L D L.length (u*bn D i+w) 0) (sm (cP L i) (fun t=>lN m L D i u t*rL (L.drop i) t w))
 |0,i,hi,u,w,hw=>by
  have hi:i=L.length:=hi
  subst hi
  have e:bn D L.length=1:=by rw[<-h.Y4];exact uh D
  rw[e] at hw⊢
  have:w=0:=by omega
  subst this
  rw[h.last,List.drop_length,Nat.mul_one,Nat.add_zero]
  refine yM ?_
  show _=0+_*1
  rw[Int.mul_one,Int.zero_add]
 |q+1,i,hi,u,w,hw=>by
  have ff:i<L.length:=by omega
  have ih:=Ch.split h q (i+1) (by omega)
  rw[qq (by rw[h.Y4];exact ff)] at hw⊢
  have hP:0<bn D (i+1):=by
   rcases Nat.eq_zero_or_pos (bn D (i+1)) with h0|h0
   ·rw[h0,Nat.mul_zero] at hw;omega
   ·exact h0
  have hv:w/bn D (i+1)<(D.getD i 0).toNat:=Nat.div_lt_of_lt_mul (by rw[Nat.mul_comm];exact hw)
  have hr:w%bn D (i+1)<bn D (i+1):=Nat.mod_lt _ hP
  have ew:w=w/bn D (i+1)*bn D (i+1)+w%bn D (i+1):=by rw[Nat.mul_comm];exact(Nat.div_add_mod _ _).symm
  generalize w/bn D (i+1)=v at hv ew
  generalize w%bn D (i+1)=w' at hr ew
  subst ew
  have e:u*((D.getD i 0).toNat*bn D (i+1))+(v*bn D (i+1)+w')=(u*(D.getD i 0).toNat+v)*bn D (i+1)+w':=by
   rw[Nat.add_mul,Nat.mul_assoc,Nat.add_assoc]
  rw[e]
  refine(ih _ _ hr).trans ?_
  refine(ko fun j _=>bI.mul (KD hv) (bI.refl _ _)).trans (yM ?_)
  rw[h.left ff,<-Dq]
  exact j9 fun t _=>by rw[aqE h ff hr]
def aeG (m:Int) (L:List aM) (D:List Int) (i:Nat):aO:=fun u w=>lN m L D L.length (u*bn D i+w) 0
theorem Ch.xH {m:Int} {D:List Int} {L:List aM} (h:Ch m D L) (bk:cu m=true) {i:Nat} (hi:i<=L.length) (N:Nat):(cb m N (aeG m L D i) (bn D i)).2.1.length<=cP L i:=
 aqK bk (fun _ _ _ _=>Rm (eT bk) _ _ _ _ _) fun u _ w hw=>Ch.split h (L.length - i) i (by omega) u w hw
def m6 (D:List Int):Nat->Nat
 |0=>1
 |i+1=>m6 D i*(D.getD i 0).toNat
theorem head_tail (D:List Int):∀i,i<=D.length->m6 D i*bn D i=bJ D
 |0,_=>by rw[GN];exact Nat.one_mul _
 |i+1,hi=>by
  rw[<-head_tail D i (by omega),qq (show i<D.length by omega),<-Nat.mul_assoc]
  rfl
end Go.Am
end
section
namespace Go.Am
def rH (D A:List Int) (i:Nat):aO:=bB (bn D i) A
structure wg (m:Int) (D A:List Int) (i:Nat) (st:mS):Prop where
 c:yl m D i st
 b4:st.1<=4
 val:∀u,u<m6 D i->∀w,w<bn D i->bI m (rH D A i u w) (sm st.1 (fun t=>lN m st.2.2 D i u t*bB (bn D i) st.2.1 t w))
 li:LI m (m6 D i) st.1 (lN m st.2.2 D i)
 rk:∀k,k<i->(cb m (m6 D (k+1)) (rH D A (k+1)) (bn D (k+1))).2.1.length=((st.2.2.getD k bW).2.2.1).toNat
theorem Z9 {l l':List aM} {k:Nat} (h:k<l.length):(l++l').getD k bW=l.getD k bW:=by
 rw[List.getD_eq_getElem?_getD,List.getD_eq_getElem?_getD,List.getElem?_append_left h]
theorem aaa {l:List aM} {s:aM} {k:Nat} (h:l.length=k):(l++[s]).getD k bW=s:=by
 rw[List.getD_eq_getElem?_getD,List.getElem?_append_right (by omega),h,Nat.sub_self]
 rfl
theorem LG {d u N:Nat} (hu:u<N*d):∃u' v,u=u'*d+v/\u'<N/\v<d:=by
 have hd:0<d:=by
  rcases Nat.eq_zero_or_pos d with h|h
  ·rw[h,Nat.mul_zero] at hu;omega
  ·exact h
 exact⟨u/d,u%d,by rw[Nat.mul_comm];exact(Nat.div_add_mod _ _).symm,Nat.div_lt_of_lt_mul (by rw[Nat.mul_comm];exact hu),Nat.mod_lt _ hd⟩
theorem aeF {m:Int} {D A:List Int} (h:uj m D A) {i:Nat} (hi:i<=D.length):cT m (m6 D i) (bn D i) (rH D A i):=
 wl (by rw[h.len,head_tail D i hi]) h.el
theorem adN {m:Int} {D:List Int} {l:List aM} {a k i u v z:Nat} {fa:List Int} (hl:l.length=i) (hv:v<(D.getD i 0).toNat):
  bI m (lN m (l++[((a:Int),D.getD i 0,(k:Int),fa)]) D (i+1) (u*(D.getD i 0).toNat+v) z) (sm a (fun t=>lN m l D i u t*bB k fa (t*(D.getD i 0).toNat+v) z)):=by
 refine(KD hv).trans (yM ?_)
 rw[aaa hl,Rl (l:=l++[((a:Int),D.getD i 0,(k:Int),fa)]) (l':=l) i (fun q hq=>Z9 (by omega))]
 rfl
theorem wg.next {m:Int} {D A:List Int} (h:uj m D A) (y8:∀x∈D,x<=3) (hn:D.length<=4) {i:Nat} (hi:i<D.length - 1)
  (hr:(cb m (m6 D (i+1)) (rH D A (i+1)) (bn D (i+1))).2.1.length<=4) {st:mS} (I:wg m D A i st):Ej D i st=true/\cK m D i st<=4/\wg m D A (i+1) (uA m D i st):=by
 have hi':i<D.length:=by omega
 have h3:(D.getD i 0).toNat<=3:=by have:=y8 _ (mF hi');omega
 have dV:=sU.rc h (by omega) I.c.s
 have bk:=h.pr
 have fW:Ej D i st=true:=by
  refine decide_eq_true ⟨Nat.le_trans (Nat.mul_le_mul I.b4 h3) (by decide),?_⟩
  have bZ:∀q i,i+q=D.length->1<=i->bn D i<=3^q:=by
   intro q
   induction q with
   |zero=>intro i hi _;have:i=D.length:=hi;subst this;rw[uh];decide
   |succ q ih=>
    intro i hi h1
    rw[qq (by omega),Nat.pow_succ,Nat.mul_comm]
    have h3:(D.getD i 0).toNat<=3:=by have:=y8 _ (mF (l:=D) (i:=i) (by omega));omega
    exact Nat.mul_le_mul (ih (i+1) (by omega) (by omega)) h3
  have:=bZ (D.length - (i+1)) (i+1) (by omega) (by omega)
  have h4:3^(D.length - (i+1))<=3^3:=Nat.pow_le_pow_right (by decide) (by omega)
  have:(3:Nat)^3=27:=by decide
  omega
 have hN:m6 D (i+1)=m6 D i*(D.getD i 0).toNat:=rfl
 have hT:bn D i=(D.getD i 0).toNat*bn D (i+1):=qq hi'
 have E6:=I.c.s.jb
 have aeK:∀u,u<m6 D (i+1)->∀w,w<bn D (i+1)->bI m (rH D A (i+1) u w) (sm (cK m D i st) (fun t=>lN m (uA m D i st).2.2 D (i+1) u t*bB (bn D (i+1)) (uA m D i st).2.1 t w)):=by
  intro u hu w hw
  obtain⟨u',v,rfl,lL,hv⟩:=LG hu
  have e1:rH D A (i+1) (u'*(D.getD i 0).toNat+v) w=rH D A i u' (v*bn D (i+1)+w):=by
   unfold rH
   rw[KX,<-hT]
  rw[e1]
  have hw2:v*bn D (i+1)+w<bn D i:=by rw[hT];exact jV hv hw
  refine(I.val u' lL _ hw2).trans ?_
  have e2:∀t,t<st.1->bI m (bB (bn D i) st.2.1 t (v*bn D (i+1)+w)) (sm (cK m D i st) (fun z=>bB (cK m D i st) (jd m (st.1*(D.getD i 0).toNat) (bn D (i+1)) st.2.1) (t*(D.getD i 0).toNat+v) z*bB (bn D (i+1)) (uA m D i st).2.1 z w)):=by
   intro t ht
   rw[hT,<-KX]
   exact ZE bk dV I.c.s.el (jV ht hv) hw
  refine(ko fun t ht=>bI.mul (bI.refl _ _) (e2 t ht)).trans ?_
  rw[Dq]
  exact ko fun z _=>bI.mul (adN E6 hv).symm (bI.refl _ _)
 have li':LI m (m6 D (i+1)) (cK m D i st) (lN m (uA m D i st).2.2 D (i+1)):=by
  refine ae3 I.li (aid bk dV I.c.s.el) fun a ha=>?_
  obtain⟨t,v,rfl,ht,hv⟩:=LG ha
  refine⟨t,fun u=>u*(D.getD i 0).toNat+v,fun t=>t*(D.getD i 0).toNat+v,ht,rfl,fun u hu=>jV hu hv,fun u hu b hb=>adN E6 hv⟩
 have hk:(cb m (m6 D (i+1)) (rH D A (i+1)) (bn D (i+1))).2.1.length=cK m D i st:=
  aqH bk (aeF h (by omega)) li' (aie bk dV I.c.s.el) aeK
 have Fe:cK m D i st<=4:=by omega
 refine⟨fW,Fe,yl.next h hi I.c fW (by omega),Fe,aeK,li',fun k cI=>?_⟩
 by_cases zh:k<i
 ·rw[I.rk k zh]
  show _=((st.2.2++[_]).getD k bW).2.2.1.toNat
  rw[Z9 (by omega)]
 ·have:k=i:=by omega
  subst this
  rw[hk]
  show _=((st.2.2++[_]).getD k bW).2.2.1.toNat
  rw[aaa E6]
  rfl
theorem wg.run {m:Int} {D A:List Int} (h:uj m D A) (y8:∀x∈D,x<=3) (hn:D.length<=4)
  (hr:∀i,i<D.length - 1->(cb m (m6 D (i+1)) (rH D A (i+1)) (bn D (i+1))).2.1.length<=4):∀(es:List Nat) (i:Nat) (st:mS),i+es.length=D.length - 1->wg m D A i st->
  ∃WL,fN (NK m D) i st es=some WL/\wg m D A (D.length - 1) WL
 |[],i,st,hi,I=>by
  rw[List.length_nil,Nat.add_zero] at hi
  subst hi
  exact⟨st,rfl,I⟩
 |e::es,i,st,hi,I=>by
  rw[List.length_cons] at hi
  obtain⟨h1,h2,h3⟩:=wg.next h y8 hn (i:=i) (by omega) (hr i (by omega)) I
  simp only[fN]
  rw[show NK m D i st e=some (uA m D i st) by unfold NK;rw[if_pos h1,if_pos (by omega)]]
  exact wg.run h y8 hn hr es (i+1) _ (by omega) h3
end Go.Am
end
section
namespace Go.Am
def Bd (L:List aM):Prop:=∀k,k<L.length->(L.getD k bW).1.toNat<=4/\(L.getD k bW).2.1.toNat<=3/\(L.getD k bW).2.2.1.toNat<=4
theorem aad {L:List aM} {i:Nat} {s t:aM} (hi:i+1<L.length) (k:Nat):((L.set i s).set (i+1) t).getD k bW=if k=i+1 then t else if k=i then s else L.getD k bW:=by
 rw[JP (by simpa using hi),JP (by omega)]
theorem JF {l l':List Int} (hl:l.length=l'.length) (h:∀k,k<l.length->l.getD k 0=l'.getD k 0):l=l':=
 List.ext_getElem hl fun k h1 h2=>by
  have:=h k h1
  rw[List.getD_eq_getElem?_getD,List.getD_eq_getElem?_getD,List.getElem?_eq_getElem h1,List.getElem?_eq_getElem h2] at this
  exact this
structure Two (m:Int) (D:List Int) (L L':List aM) (i:Nat):Prop where
 len:L'.length=L.length
 ch:Ch m D L'
 bd:∀k,k<=L.length->k≠i+1->cP L' k=cP L k
 val:∀k,k<=L.length->k≠i+1->∀u j,j<cP L k->lN m L' D k u j=lN m L D k u j
 b4:Bd L'
theorem abz {m:Int} {D:List Int} {L:List aM} (h:Ch m D L) {i u v v' j:Nat} (hi:i+1<L.length) (hv:v<(D.getD i 0).toNat) (eS:v'<(D.getD (i+1) 0).toNat):
  bI m (lN m L D (i+2) ((u*(D.getD i 0).toNat+v)*(D.getD (i+1) 0).toNat+v') j) (sm (cP L i) (fun t=>lN m L D i u t*sm (cP L (i+1)) (fun q=>oy (L.getD i bW) v t q*oy (L.getD (i+1) bW) v' q j))):=by
 refine(KD eS).trans ?_
 rw[h.left (show i+1<L.length from hi),Dq]
 refine ko fun q _=>bI.mul ?_ (bI.refl _ _)
 rw[<-h.left (show i<L.length by omega)]
 exact KD hv
theorem adD (b p c:Nat) (d:List Int) (v x q:Nat):oy ((b:Int),(p:Int),(c:Int),d) v x q=bB c d (x*p+v) q:=rfl
structure FwI (m:Int) (D:List Int) (l L:List aM) (i:Nat):Prop where
 ch:Ch m D L
 len:L.length=l.length
 b4:Bd L
 val:∀u,lN m L D l.length u 0=lN m l D l.length u 0
 li:∀k,k<=i->LI m (m6 D k) (cP L k) (lN m L D k)
structure BwI (m:Int) (D:List Int) (l L:List aM) (i:Nat):Prop where
 f:FwI m D l L (l.length - 1)
 ri:∀k,i<k->k<=l.length->LI m (bn D k) (cP L k) (ui (rL (L.drop k)))
theorem Ch.of {m:Int} {l:List aM} (h:e7 (m,l)=true):Ch m (aP l) l:=by
 obtain⟨_,⟨h1,h8⟩,_,hb,hs⟩:=uC h
 refine⟨BT h,rfl,h1,?_,?_⟩
 ·obtain⟨p,M,e,_⟩:=hs 0 (by omega)
  rw[e]
  rfl
 ·obtain⟨p,M,e,_⟩:=hs (l.length - 1) (by omega)
  have e1:l.length - 1+1=l.length:=by omega
  rw[e,e1,hb]
  rfl
theorem Ch.ok {m:Int} {D:List Int} {L:List aM} (h:Ch m D L) (bk:cu m=true) (h8:L.length<=8) (hp:dr D<=4096):e7 (m,L)=true:=by
 have dF:fN (mY m) 0 1 L=some 1:=by
  refine(Nv L 0 1 1).2 ⟨fun k hk=>⟨h.fit.1 k hk,?_⟩,?_⟩
  ·cases k with
   |zero=>exact h.fst
   |succ k=>exact h.fit.2 k hk
  ·have:=h.len
   rw[show L.length=L.length - 1+1 by omega]
   exact h.KE.symm
 simp only[e7,bk,dF,h.lG,Bool.true_and]
 rw[decide_eq_true ⟨h.len,h8⟩,decide_eq_true hp]
 rfl
theorem Ny {m:Int} {l:List aM} (h:e7 (m,l)=true):cu m=true/\l.length<=8/\dr (aP l)<=4096:=by
 obtain⟨_,h8,hp,_⟩:=uC h
 refine⟨?_,h8.2,hp⟩
 simp only[e7,Bool.and_eq_true] at h
 exact h.1
end Go.Am
end
section
namespace Go.Am
theorem RH {p:Int} {r c:Nat} {M:aO} (bk:cu p=true) (hr:r<=64) (hc:c<=64) (hM:cT p r c M):iB p ((r:Int),(c:Int),aq r c M)=true:=by
 simp only[iB,Bool.and_eq_true,decide_eq_true_eq]
 exact⟨bk,⟨by omega,by omega⟩,⟨by omega,by omega⟩,by rw[iu];push_cast;rfl,aq1.2 (iL.2 hM)⟩
theorem aer {r c:Nat} {M:aO} (hr:r<=64) (hc:c<=64):xY ((r:Int),(c:Int),aq r c M)<=1048576:=by
 show(aq r c M).length<=_
 rw[iu]
 have:=Nat.mul_le_mul hr hc
 omega
theorem aqI {p:Int} {r c:Nat} {A B:aO} (bk:cu p=true) (hA:cT p r c A) (hB:cT p r c B) (h:∀a,a<r->∀b,b<c->A a b=B a b):(cb p r A c).2.1.length=(cb p r B c).2.1.length:=by
 apply Nat.le_antisymm
 ·exact xH bk hA hB fun x hx=>qx (fun i hi=>wi (mU hi) fun b hb=>by rw[h i hi b hb]) hx
 ·exact xH bk hB hA fun x hx=>qx (fun i hi=>wi (mU hi) fun b hb=>by rw[h i hi b hb]) hx
theorem Z8 {r c:Nat} (M:aO):∀a,a<r->∀b,b<c->bB c (aq r c M) a b=M a b:=fun a ha b hb=>j7 M ha hb
theorem anV {p:Int} {r k c:Nat} {A B:aO} (bk:cu p=true) (hr:r<=64) (hk:k<=64) (hc:c<=64) (hA:cT p r k A) (hB:cT p k c B):
  AP (p,((r:Int),(k:Int),aq r k A),((k:Int),(c:Int),aq k c B))=some (((r:Int),(c:Int),aq r c (iC p k A B)),true):=by
 simp only[AP,G4,Int.toNat_natCast]
 rw[if_pos ⟨aer hr hk,aer hk hc⟩,if_pos ⟨RH bk hr hk hA,RH bk hk hc hB,trivial⟩]
 rw[iN fun i hi j hj=>S0 (fun t ht=>Z8 A i hi t ht) (fun t ht=>Z8 B t ht j hj)]
end Go.Am
end
section
namespace Go.Am
theorem dO {α β:Type} (x:α) (f:α->Option β):(some x).ab f=f x:=by
 have h:∀o:Option α,o=some x->o.ab f=f x:=by intro o h;subst h;rfl
 exact h _ rfl
theorem yB {α:Type} (x y:α):ax true x y=x:=rfl
theorem wB {α:Type} (x y:α):ax false x y=y:=rfl
theorem aim {m:Int} {L:List aM} (F:BS m L) (h:L.length<=8):ug (m,L)<=131072:=by
 show L.length+(L.map rE).sum<=_
 have bZ:∀l:List aM,(∀e∈l,rE e<=8192)->(l.map rE).sum<=l.length*8192:=by
  intro l
  induction l with
  |nil=>intro _;simp
  |cons a l ih=>
   intro hl
   have h1:=hl a List.mem_cons_self
   have h2:=ih fun e he=>hl e (List.mem_cons_of_mem _ he)
   rw[List.map_cons,List.sum_cons,List.length_cons,Nat.add_mul]
   omega
 have:=bZ L fun e he=>by
  obtain⟨k,hk⟩:=List.mem_iff_getElem?.1 he
  have hl:=CS hk
  obtain⟨b,p,c,d,e1,h1,h2,h3,h4,_⟩:=Ly (F.1 k hl)
  have e2:=getD_some bW hl
  rw[hk] at e2
  injection e2 with e2
  rw[<-e2] at e1
  subst e1
  show d.length<=_
  have q1:b*p<=32*8:=Nat.mul_le_mul h1 h3.2
  have q2:b*p*c<=(32*8)*32:=Nat.mul_le_mul q1 h2
  omega
 have h2:L.length*8192<=8*8192:=Nat.mul_le_mul_right _ h
 omega
theorem acj {m:Int} {L:List aM} (h:e7 (m,L)=true):ug (m,L)<=1048576:=by
 have:=aim (BT h) (Ny h).2.1
 omega
theorem W6 {m:Int} {L:List aM} (h:e7 (m,L)=true):sS (m,L)=some (lZ m L):=by
 simp only[sS,Mk]
 rw[if_pos (acj h),if_pos h]
theorem asT {m:Int} {L L':List aM} (hd:aP L'=aP L) (hv:∀n,n<bJ (aP L)->gN m L' n=gN m L n):lZ m L'=lZ m L:=by
 have hl:L'.length=L.length:=by rw[<-ir,<-ir,hd]
 unfold lZ
 rw[hl]
 congr 2
 ·rw[hd]
  refine jo fun n hn=>?_
  have e1:=Nw (m:=m) (l:=L') n
  rw[hd] at e1
  rw[e1,Nw,hv n hn]
theorem W7 {m:Int} {L:List aM} (h:e7 (m,L)=true):(lZ m L).1.length=L.length/\(lZ m L).2.1.length=L.length/\(lZ m L).2.2.length=bJ (aP L)/\L.length<=8/\bJ (aP L)<=4096:=by
 obtain⟨_,⟨_,hp⟩,h8,_⟩:=NT h
 rw[ir] at h8
 exact⟨fc _ _,ir L,fc _ _,h8,hp⟩
theorem art (t:List Int×List Int×List Int) (h1:t.1.length<=1048576) (h2:t.2.1.length<=1048576) (h3:t.2.2.length<=1048576):Be (t,t)=some true:=by
 obtain⟨a,b,c⟩:=t
 simp only[Be,Hl]
 rw[QJ a h1]
 simp only[dO,yB]
 rw[QJ b h2]
 simp only[dO,yB]
 rw[QJ c h3]
 rfl
theorem Gj {n k:Nat} (h:k<n):(c8 n).getD k 0=(k:Int):=by
 unfold c8
 rw[List.getD_eq_getElem?_getD,nz _ h]
 rfl
theorem arY {l:List Int} (h:∀k,k+1<l.length->l.getD k 0<=l.getD (k+1) 0):∀k,k<l.length->ox k l=l
 |0,_=>rfl
 |k+1,hk=>by
  unfold ox
  rw[if_neg (by have:=h k hk;omega)]
theorem adU {l:List Int} (h:∀k,k+1<l.length->l.getD k 0<=l.getD (k+1) 0):∀i,i<=l.length->fC l i=l
 |0,_=>rfl
 |i+1,hi=>by
  show ox i (fC l i)=l
  rw[adU h i (by omega),arY h i (by omega)]
theorem ase (n:Nat):fC (c8 n) n=c8 n:=by
 have hl:(c8 n).length=n:=fc _ _
 have:=adU (l:=c8 n) (fun k hk=>by rw[hl] at hk;rw[Gj (by omega),Gj hk];omega) n (by rw[hl];exact Nat.le_refl n)
 exact this
theorem afr {D:List Int} (hl:D.length<=12) (hd:∀x∈D,1<=x/\x<=8):nI (c8 D.length) D=true:=by
 have hs:(c8 D.length).length=D.length:=fc _ _
 simp only[nI,Bool.and_eq_true,decide_eq_true_eq]
 refine⟨by omega,hs,fun j hj=>⟨?_,hd _ (mF (by omega)),?_⟩⟩
 ·rw[Gj (by omega)];omega
 ·rw[Gj (by omega)]
  intro hm
  obtain⟨k,hk,e⟩:=List.mem_iff_getElem.1 hm
  rw[List.length_take,hs] at hk
  rw[List.getElem_take] at e
  have e2:=Gj (n:=D.length) (k:=k) (by omega)
  rw[List.getD_eq_getElem?_getD,List.getElem?_eq_getElem (by omega)] at e2
  have e2:(c8 D.length)[k]'(by omega)=(k:Int):=e2
  rw[e2] at e
  omega
theorem aqX {p:Int} (h:cu p=true):j8 (2,p,0)=true:=by
 have:j8 (2,p,0)=(cu p&&decide ((0:Int)=0)):=rfl
 rw[this,h]
 rfl
theorem W5 {p:Int} {L D A:List Int} (hp:cu p=true) (qR:nI L D=true) (hP:bJ D<=4096) (hA:A.length=bJ D) (ha:dD p A):gF (2,p,0) (L,D,A)=true:=by
 have hd:=Ef qR
 have hI:=Ad (D:=D) fun x hx=>(hd x hx).1
 have ht:jp L D=dr D:=if_pos ⟨qR,by omega⟩
 simp only[gF,Bool.and_eq_true,decide_eq_true_eq]
 refine⟨aqX hp,by rw[ht,hI];omega,?_,?_⟩
 ·rw[ht,hI,hA]
  show _=(bJ D:Int)*1
  omega
 ·refine List.all_eq_true.2 fun x hx=>decide_eq_true ?_
  have h1:=ha x hx
  have h2:eW (2,p,0)=p - 1:=rfl
  rw[h2]
  exact⟨h1.1,by have:=h1.2;omega⟩
theorem Yo {p:Int} {A:List Int} {off:Nat->Nat}:∀n,n<=A.length->(∀k,k<n->off k=k)->nJ (2,p,0) A off n=A.take n
 |0,_,_=>rfl
 |n+1,hn,h=>by
  unfold nJ
  rw[Yo n (by omega) fun k hk=>h k (by omega),h n (by omega),show cg (2,p,0)=1 from rfl,Nat.mul_one]
  unfold lr
  have bm:n<A.length:=by omega
  have e1:A.take (n+1)=A.take n++[A[n]]:=by rw[List.take_add_one,List.getElem?_eq_getElem bm];rfl
  rw[e1,List.drop_eq_getElem_cons bm]
  rfl
theorem aeg {p:Int} {D A:List Int} (ht:gF (2,p,0) (c8 D.length,D,A)=true):lv (2,p,0) (c8 D.length,D,A)=(c8 D.length,D,A):=by
 have qR:=(AE ht).1
 have hs:(c8 D.length).length=D.length:=fc _ _
 have hS:fC (c8 D.length) (c8 D.length).length=c8 D.length:=by rw[hs];exact ase _
 have I:=hH.mk' qR (S:=c8 D.length) hS.symm
 obtain⟨_,_,_,_,hA,hG,_⟩:=DH ht
 have Ke:dX (c8 D.length) D (c8 D.length)=D:=by
  unfold dX
  rw[hs]
  refine JF (fc _ _) fun k hk=>?_
  rw[fc] at hk
  rw[List.getD_eq_getElem?_getD,nz _ hk]
  show D.getD (cD (c8 D.length) ((c8 D.length).getD k 0)) 0=_
  rw[xG I.nL (by rw[hs];exact hk)]
 have Cd:∀k,k<bJ D->jG (c8 D.length) D (c8 D.length) k=k:=fun k hk=>by
  rw[<-I.off k]
  have e:rl (c8 D.length) D (c8 D.length) k=dm D k:=by
   unfold rl dm
   refine jo fun q hq=>?_
   rw[Ke,xG I.nL (by rw[hs];exact hq)]
  rw[e,S9 hG hk D.length (Nat.le_refl _),uh,Nat.div_one]
 have e:lv (2,p,0) (c8 D.length,D,A)=vz (2,p,0) (c8 D.length,D,A) (c8 D.length):=by
  unfold lv
  rw[if_pos ht]
  show vz _ _ (fC (c8 D.length) (c8 D.length).length)=_
  rw[hS]
 rw[e]
 unfold vz
 have wO:A.length=bJ D:=by rw[hA,show cg (2,p,0)=1 from rfl,Nat.mul_one]
 show(c8 D.length,dX (c8 D.length) D (c8 D.length),nJ (2,p,0) A (jG (c8 D.length) D (c8 D.length)) (bJ (dX (c8 D.length) D (c8 D.length))))=_
 rw[Ke,Yo _ (by omega) Cd,<-wO,List.take_length]
structure DC (p:Int) (L:List aM):Prop where
 ok:e7 (p,L)=true
 b4:Bd L
 n4:L.length<=4
theorem DC.pr {p:Int} {L:List aM} (h:DC p L):cu p=true:=(Ny h.ok).1
theorem DC.d3 {p:Int} {L:List aM} (h:DC p L):∀x∈aP L,1<=x/\x<=3:=fun x hx=>by
 obtain⟨hG,_⟩:=NT h.ok
 obtain⟨k,hk,e⟩:=List.mem_iff_getElem.1 hx
 have e2:(aP L).getD k 0=x:=by rw[List.getD_eq_getElem?_getD,List.getElem?_eq_getElem hk];exact e
 rw[wD] at e2
 rw[ir] at hk
 have:=(h.b4 k hk).2.1
 have:=(hG.2 x hx).1
 omega
theorem DC.len {p:Int} {L:List aM} (h:DC p L):1<=L.length:=(Ch.of h.ok).len
theorem DO {p:Int} (hp:cu p=true) (L:List aM) (n:Nat):eN p (gN p L n):=Rm (eT hp) _ _ _ _ _
theorem LX {m:Int} {L:List aM}:lZ m L=(c8 (aP L).length,aP L,bC (bJ (aP L)) (gN m L)):=by
 unfold lZ
 rw[ir]
 congr 2
 exact jo fun n _=>Nw n
theorem Lg {p:Int} {n:Nat} {f:Nat->Int} (h:∀k,eN p (f k)):dD p (bC n f):=fun x hx=>by
 unfold bC at hx
 obtain⟨k,_,rfl⟩:=List.mem_map.1 hx
 exact h k
theorem DC.ten {p:Int} {L:List aM} (h:DC p L):gF (2,p,0) (lZ p L)=true:=by
 have n4:=h.n4
 obtain⟨_,_,_,_,hP⟩:=W7 h.ok
 rw[LX]
 refine W5 h.pr (afr (by rw[ir];omega) fun x hx=>?_) hP (fc _ _) (Lg fun k=>DO h.pr L k)
 have:=h.d3 x hx
 omega
theorem DC.da {p:Int} {L:List aM} (h:DC p L):uj p (aP L) (bC (bJ (aP L)) (gN p L)):=by
 have n4:=h.n4
 have l1:=h.len
 obtain⟨_,_,_,_,hP⟩:=W7 h.ok
 refine⟨h.pr,by rw[ir];exact l1,by rw[ir];omega,fun x hx=>?_,hP,fc _ _,Lg fun k=>DO h.pr L k⟩
 have:=h.d3 x hx
 omega
theorem DC.jq {p:Int} {L:List aM} (h:DC p L) {i:Nat} (hi:i<=L.length):
  (cb p (m6 (aP L) i) (rH (aP L) (bC (bJ (aP L)) (gN p L)) i) (bn (aP L) i)).2.1.length=(cb p (m6 (aP L) i) (aeG p L (aP L) i) (bn (aP L) i)).2.1.length:=by
 refine aqI h.pr (aeF h.da (by rw[ir];exact hi)) (fun _ _ _ _=>Rm (eT h.pr) _ _ _ _ _) fun u hu w hw=>?_
 have hn:u*bn (aP L) i+w<bJ (aP L):=by
  rw[<-head_tail (aP L) i (by rw[ir];exact hi)]
  exact jV hu hw
 unfold rH bB
 rw[List.getD_eq_getElem?_getD,nz _ hn]
 rfl
theorem afO (l:List Int) (n p:Int) (D:List Int) (h:l.length<=1048576) (hn:0<=n) (hp:cu p=true) (hl:1<=D.length/\D.length<=4) (hd:∀v∈D,1<=v/\v<=3):
  ∃L,Bh (l,n,p,D)=some (p,L)/\DC p L/\aP L=D:=by
 obtain⟨⟨a,b,c⟩,e,hc⟩:=Na l n h hn
 obtain⟨L,⟨a',b',c'⟩,e2,_,I⟩:=afN _ p D hc hp hl hd
 obtain⟨h1,h2⟩:=I.ok hp hl hd
 refine⟨L,?_,⟨h1,fun k hk=>?_,by rw[<-ir,h2];exact hl.2⟩,h2⟩
 ·simp only[Bh,Hm]
  rw[e]
  simp only[dO]
  rw[e2]
  rfl
 ·have hF:=BT h1
  have hb:∀k,k<L.length->(L.getD k bW).2.2.1.toNat<=4:=fun k hk=>by
   have:=I.b4 (L.getD k bW) (List.mem_of_getElem? (getD_some bW hk))
   omega
  refine⟨?_,?_,hb k hk⟩
  ·have hC:=Ch.of h1
   cases k with
   |zero=>rw[hC.fst];decide
   |succ k=>rw[hF.2 k hk];exact hb k (by omega)
  ·rw[<-wD,h2]
   have:=hd _ (mF (l:=D) (i:=k) (by rw[<-h2,ir];exact hk))
   omega
end Go.Am
end
section
namespace Go.Am
theorem arL {m:Int} {D:List Int} {L:List aM} {i:Nat} {s t:aM} (h:Ch m D L) (hi:i+1<L.length) (hs:kJ m s=true) (ht:kJ m t=true)
  (s1:s.1=(L.getD i bW).1) (s2:s.2.1=(L.getD i bW).2.1) (t1:t.1=s.2.2.1) (t2:t.2.1=(L.getD (i+1) bW).2.1) (t3:t.2.2.1=(L.getD (i+1) bW).2.2.1):
  Ch m D ((L.set i s).set (i+1) t)/\((L.set i s).set (i+1) t).length=L.length/\(∀k,k<=L.length->k≠i+1->cP ((L.set i s).set (i+1) t) k=cP L k)/\((L.set i s).set (i+1) t).drop (i+2)=L.drop (i+2):=by
 have hdr:((L.set i s).set (i+1) t).drop (i+2)=L.drop (i+2):=by
  rw[List.drop_set_of_lt (by omega),List.drop_set_of_lt (by omega)]
 have hg:=aad (s:=s) (t:=t) hi
 have hlen:((L.set i s).set (i+1) t).length=L.length:=by simp
 have fW:=ail h.fit hi hs ht s1 t1 t3
 generalize (L.set i s).set (i+1) t=L' at hg hlen fW hdr
 refine⟨⟨fW,?_,by rw[hlen];exact h.len,?_,?_⟩,hlen,?_,hdr⟩
 ·rw[<-h.lG]
  refine JF (by rw[ir,ir,hlen]) fun k _=>?_
  rw[wD,wD,hg]
  by_cases e1:k=i+1
  ·rw[if_pos e1,t2,e1]
  ·rw[if_neg e1]
   by_cases e2:k=i
   ·rw[if_pos e2,s2,e2]
   ·rw[if_neg e2]
 ·rw[hg,if_neg (by omega)]
  by_cases e2:0=i
  ·rw[if_pos e2,s1,<-e2];exact h.fst
  ·rw[if_neg e2];exact h.fst
 ·rw[hg,hlen]
  by_cases e1:L.length - 1=i+1
  ·rw[if_pos e1,t3,<-e1];exact h.KE
  ·rw[if_neg e1,if_neg (by omega)];exact h.KE
 ·intro k hk aD
  cases k with
  |zero=>rfl
  |succ k=>
   show(L'.getD k bW).2.2.1.toNat=(L.getD k bW).2.2.1.toNat
   rw[hg]
   by_cases e1:k=i+1
   ·rw[if_pos e1,t3,e1]
   ·rw[if_neg e1,if_neg (by omega)]
theorem ar5 (k P:Nat) (l x:Nat->Int) (Y:aO):sm k (fun t=>l t*sm P (fun q=>x q*Y q t))=sm P (fun q=>x q*sm k (fun t=>l t*Y q t)):=by
 have e1:sm k (fun t=>l t*sm P (fun q=>x q*Y q t))=sm k (fun t=>sm P (fun q=>x q*(l t*Y q t))):=j9 fun t _=>by
  rw[<-vL]
  exact j9 fun q _=>by rw[Int.mul_left_comm]
 rw[e1,LB]
 exact j9 fun q _=>by rw[vL]
structure XK (m:Int) (L L':List aM) (k P:Nat) (X:List Int):Prop where
 ok:e7 (m,L')=true
 lG:aP L'=aP L
 bd:∀i,i<=L.length->i≠k+1->cP L' i=cP L i
 val:∀u r w,r<P->w<bn (aP L) (k+2)->bI m (gN m L' ((u*P+r)*bn (aP L) (k+2)+w)) (sm P (fun q=>bB P X r q*gN m L ((u*P+q)*bn (aP L) (k+2)+w)))
theorem Yg {m:Int} {L:List aM} {k P:Nat} {X:List Int} (h:e7 (m,L)=true) (hk:k+1<L.length) (hP:P=((aP L).getD k 0).toNat*((aP L).getD (k+1) 0).toNat) (JS:P<=64)
  (h1:cP L k*((aP L).getD k 0).toNat<=32) (h2:((aP L).getD (k+1) 0).toNat*cP L (k+2)<=64) (hX:X.length=P*P) (JY:dD m X):
  ∃L',vV ((m,L),(k:Int),((P:Int),(P:Int),X))=some ((m,L'),true)/\XK m L L' k P X:=by
 obtain⟨bk,h8,hp⟩:=Ny h
 have hm:=eT bk
 have hC:=Ch.of h
 obtain⟨b,p,c,p',c',d,d',g1,g2,e1,e2,a1,a2,a3,a4,a5,a6,a7,a8,a9⟩:=N5 hC.fit hk
 have hd:((aP L).getD k 0).toNat=p:=by rw[wD,e1];rfl
 have tr:((aP L).getD (k+1) 0).toNat=p':=by rw[wD,e2];rfl
 have Po:cP L k=b:=by rw[<-hC.left (by omega),e1];rfl
 have yZ:cP L (k+1)=c:=by show(L.getD k bW).2.2.1.toNat=c;rw[e1];rfl
 have tq:cP L (k+2)=c':=by show(L.getD (k+1) bW).2.2.1.toNat=c';rw[e2];rfl
 rw[hd,tr] at hP
 rw[hd,Po] at h1
 rw[tr,tq] at h2
 have ajb:iB m ((P:Int),(P:Int),X)=true:=by
  have:=RH (M:=bB P X) bk JS JS (wl hX JY)
  rwa[qP hX] at this
 have y4:yx m (L.getD k bW) (L.getD (k+1) bW) ((P:Int),(P:Int),X):=by
  rw[e1,e2]
  refine⟨?_,?_,?_,?_⟩<;>simp only
  ·rw[hP];norm_cast
  ·rw[hP];norm_cast
  ·exact_mod_cast (show b*p<=64 by omega)
  ·exact_mod_cast h2
 have hW:∃W,s7 m (L.getD k bW) (L.getD (k+1) bW) X=W/\W=aq (b*p) (p'*c') (wF m p p' c' (bB (p*p') X) (iC m c (bB c d) (bB (p'*c') d'))):=by
  refine⟨_,rfl,?_⟩
  rw[e1,e2]
  rfl
 obtain⟨W,hW1,Ph⟩:=hW
 have JX:W.length=b*p*(p'*c'):=by rw[Ph,iu]
 have hWm:dD m W:=by rw[Ph,iL];exact fun _ _ _ _=>Xk hm _ _ _ _ _ _ _
 obtain⟨_,f1,f2,f3,f4,f5,f6⟩:=EK hm JX hWm
 have aau:dE m (b*p) (p'*c') W<=32:=by omega
 have Kh:=Dn (m:=m) a1 aau a4 f3 f4
 have Qa:=Dn (m:=m) aau a3 a5 (by rw[f5,Nat.mul_assoc]) f6
 obtain⟨c1,c2,c3,c4⟩:=arL (s:=((b:Int),(p:Int),(dE m (b*p) (p'*c') W:Int),jd m (b*p) (p'*c') W)) (t:=((dE m (b*p) (p'*c') W:Int),(p':Int),(c':Int),kP m (b*p) (p'*c') W)) hC hk Kh Qa (by rw[e1]) (by rw[e1]) rfl (by rw[e2]) (by rw[e2])
 have hg:=aad (L:=L) (s:=((b:Int),(p:Int),(dE m (b*p) (p'*c') W:Int),jd m (b*p) (p'*c') W)) (t:=((dE m (b*p) (p'*c') W:Int),(p':Int),(c':Int),kP m (b*p) (p'*c') W)) hk
 have hT:s8 m L k (L.getD k bW) (L.getD (k+1) bW) W=(L.set k ((b:Int),(p:Int),(dE m (b*p) (p'*c') W:Int),jd m (b*p) (p'*c') W)).set (k+1) ((dE m (b*p) (p'*c') W:Int),(p':Int),(c':Int),kP m (b*p) (p'*c') W):=by
  rw[e1,e2]
  rfl
 generalize (L.set k ((b:Int),(p:Int),(dE m (b*p) (p'*c') W:Int),jd m (b*p) (p'*c') W)).set (k+1) ((dE m (b*p) (p'*c') W:Int),(p':Int),(c':Int),kP m (b*p) (p'*c') W)=L' at c1 c2 c3 c4 hg hT
 have fH:e7 (m,L')=true:=c1.ok bk (by omega) hp
 refine⟨L',?_,fH,c1.lG,c3,?_⟩
 ·simp only[vV,Mj]
  have hz:xY ((P:Int),(P:Int),X)<=1048576:=by
   show X.length<=_
   rw[hX]
   have:=Nat.mul_le_mul JS JS
   omega
  rw[if_pos ⟨acj h,hz⟩]
  unfold Nm
  rw[if_pos ⟨h,⟨by omega,by omega⟩,ajb⟩,Int.toNat_natCast,if_pos y4,hW1,hT]
  unfold Nn
  rw[if_pos fH]
 ·have hgk:L'.getD k bW=((b:Int),(p:Int),(dE m (b*p) (p'*c') W:Int),jd m (b*p) (p'*c') W):=by rw[hg,if_neg (by omega),if_pos rfl]
  have aiZ:L'.getD (k+1) bW=((dE m (b*p) (p'*c') W:Int),(p':Int),(c':Int),kP m (b*p) (p'*c') W):=by rw[hg,if_pos rfl]
  have hbk:cP L' (k+1)=dE m (b*p) (p'*c') W:=by show(L'.getD k bW).2.2.1.toNat=_;rw[hgk];rfl
  have fm:0<p':=a5.1
  have two:∀u r j,r<P->j<c'->bI m (lN m L' (aP L) (k+2) (u*P+r) j) (sm P (fun q=>bB P X r q*lN m L (aP L) (k+2) (u*P+q) j)):=by
   intro u r j hr hj
   have hr':r<p*p':=by rw[<-hP];exact hr
   have hv:r/p'<p:=(Nat.div_lt_iff_lt_mul fm).2 hr'
   have eS:r%p'<p':=Nat.mod_lt _ fm
   have Y9:∀q,u*P+q=(u*p+q/p')*p'+q%p':=fun q=>by
    rw[hP,Nat.add_mul,Nat.mul_assoc,Nat.add_assoc]
    congr 1
    rw[Nat.mul_comm]
    exact(Nat.div_add_mod _ _).symm
   have s1:=abz c1 (i:=k) (u:=u) (v:=r/p') (v':=r%p') (j:=j) (by omega) (by rw[hd];exact hv) (by rw[tr];exact eS)
   rw[hd,tr,<-Y9 r,c3 k (by omega) (by omega),Po,hbk,hgk,aiZ] at s1
   refine s1.trans ?_
   rw[Rl (l:=L') (l':=L) k fun q hq=>by rw[hg,if_neg (by omega),if_neg (by omega)]]
   have s2:∀x,x<b->bI m (sm (dE m (b*p) (p'*c') W) (fun q=>oy ((b:Int),(p:Int),(dE m (b*p) (p'*c') W:Int),jd m (b*p) (p'*c') W) (r/p') x q*oy ((dE m (b*p) (p'*c') W:Int),(p':Int),(c':Int),kP m (b*p) (p'*c') W) (r%p') q j))
     (sm P (fun q=>bB P X r q*sm c (fun z=>bB c d (x*p+q/p') z*bB c' d' (z*p'+q%p') j))):=by
    intro x hx
    have t1:bI m (bB (p'*c') W (x*p+r/p') (r%p'*c'+j)) (sm (dE m (b*p) (p'*c') W) (fun q=>oy ((b:Int),(p:Int),(dE m (b*p) (p'*c') W:Int),jd m (b*p) (p'*c') W) (r/p') x q*oy ((dE m (b*p) (p'*c') W:Int),(p':Int),(c':Int),kP m (b*p) (p'*c') W) (r%p') q j)):=by
     refine(ZE bk JX hWm (jV hx hv) (jV eS hj)).trans (yM (j9 fun q _=>?_))
     rw[adD,adD,KX c' p']
    refine t1.symm.trans ?_
    have t2:bB (p'*c') W (x*p+r/p') (r%p'*c'+j)=wF m p p' c' (bB (p*p') X) (iC m c (bB c d) (bB (p'*c') d')) (x*p+r/p') (r%p'*c'+j):=by
     rw[Ph]
     exact j7 _ (jV hx hv) (jV eS hj)
    rw[t2,aeO fm hj hr',<-hP]
    refine(Y6 _ _ _ _).trans (ko fun q _=>bI.mul (bI.refl _ _) ?_)
    refine(S1 _ _ _ _ _ _).trans (yM (j9 fun z _=>?_))
    rw[<-KX c' p']
   refine(ko fun x hx=>bI.mul (bI.refl _ _) (s2 x hx)).trans ?_
   rw[ar5]
   refine ko fun q hq=>bI.mul (bI.refl _ _) ?_
   have d9:q<p*p':=by rw[<-hP];exact hq
   have s3:=abz hC (i:=k) (u:=u) (v:=q/p') (v':=q%p') (j:=j) hk (by rw[hd];exact(Nat.div_lt_iff_lt_mul fm).2 d9) (by rw[tr];exact Nat.mod_lt _ fm)
   rw[hd,tr,<-Y9 q,Po,yZ,e1,e2] at s3
   exact s3.symm
  intro u r w hr hw
  have ev:∀n,gN m L' n=lN m L' (aP L) L'.length n 0:=fun n=>by unfold gN;rw[c1.lG]
  rw[ev]
  refine(c1.split (L'.length - (k+2)) (k+2) (by omega) _ _ hw).trans ?_
  rw[c3 (k+2) (by omega) (by omega),tq,c4]
  refine(ko fun t ht=>bI.mul (two u r t hr ht) (bI.refl _ _)).trans ?_
  rw[<-Dq]
  refine ko fun q _=>bI.mul (bI.refl _ _) ?_
  have s4:=hC.split (L.length - (k+2)) (k+2) (by omega) (u*P+q) w hw
  rw[tq] at s4
  exact s4.symm
end Go.Am
end
section
namespace Go.Am
theorem adS {a b i:Nat} {M:aO} (hi:i<a):∀j,j<=b->∀R C,C<a*b->Dw a b i M j R C=if C/b=i/\C%b<j/\R=C%b*a+i then 1 else M R C
 |0,_,R,C,_=>by
  rw[if_neg (fun h=>absurd h.2.1 (Nat.not_lt_zero _))]
  rfl
 |j+1,hj,R,C,hC=>by
  have hb:0<b:=by omega
  show jK (Dw a b i M j) (j*a+i) (i*b+j) 1 R C=_
  unfold jK
  rw[adS hi j (by omega) R C hC]
  have e:C=i*b+j↔C/b=i/\C%b=j:=by
   constructor
   ·rintro rfl
    exact⟨pY (by omega),q9 (by omega)⟩
   ·rintro⟨rfl,rfl⟩
    rw[Nat.mul_comm]
    exact(Nat.div_add_mod _ _).symm
  by_cases h1:R=j*a+i/\C=i*b+j
  ·rw[if_pos h1]
   obtain⟨h2,h3⟩:=e.1 h1.2
   rw[if_pos ⟨h2,by omega,by rw[h3];exact h1.1⟩]
  ·rw[if_neg h1]
   by_cases h2:C/b=i/\C%b<j/\R=C%b*a+i
   ·rw[if_pos h2,if_pos ⟨h2.1,by omega,h2.2.2⟩]
   ·rw[if_neg h2,if_neg]
    rintro⟨q1,q2,q3⟩
    by_cases q4:C%b=j
    ·exact h1 ⟨by rw[<-q4];exact q3,e.2 ⟨q1,q4⟩⟩
    ·exact h2 ⟨q1,by omega,q3⟩
theorem adR {a b:Nat} (hb:0<b):∀i,i<=a->∀R C,C<a*b->jI a b i R C=if C/b<i/\R=C%b*a+C/b then 1 else 0
 |0,_,R,C,_=>by
  rw[if_neg (fun h=>absurd h.1 (Nat.not_lt_zero _))]
  rfl
 |i+1,hi,R,C,hC=>by
  show Dw a b i (jI a b i) b R C=_
  rw[adS (by omega) b (Nat.le_refl b) R C hC,adR hb i (by omega) R C hC]
  have hm:C%b<b:=Nat.mod_lt _ hb
  by_cases h1:C/b=i
  ·subst h1
   by_cases h2:R=C%b*a+C/b
   ·rw[if_pos ⟨rfl,hm,h2⟩,if_pos ⟨by omega,h2⟩]
   ·rw[if_neg (fun h=>h2 h.2.2),if_neg (fun h=>h2 h.2),if_neg (fun h=>h2 h.2)]
  ·rw[if_neg (fun h=>h1 h.1)]
   by_cases h2:C/b<i/\R=C%b*a+C/b
   ·rw[if_pos h2,if_pos ⟨by omega,h2.2⟩]
   ·rw[if_neg h2,if_neg (fun h=>h2 ⟨by omega,h.2⟩)]
def ue (a b C:Nat):Nat:=C%b*a+C/b
theorem Dx {a b R C:Nat} (hC:C<a*b):jI a b a R C=if R=ue a b C then 1 else 0:=by
 have hb:0<b:=by
  rcases Nat.eq_zero_or_pos b with h|h
  ·rw[h,Nat.mul_zero] at hC;omega
  ·exact h
 have:C/b<a:=(Nat.div_lt_iff_lt_mul hb).2 hC
 rw[adR hb a (Nat.le_refl a) R C hC]
 unfold ue
 by_cases h:R=C%b*a+C/b
 ·rw[if_pos ⟨this,h⟩,if_pos h]
 ·rw[if_neg (fun q=>h q.2),if_neg h]
theorem AB {a b C:Nat} (hC:C<a*b):ue a b C<b*a:=by
 have hb:0<b:=by
  rcases Nat.eq_zero_or_pos b with h|h
  ·rw[h,Nat.mul_zero] at hC;omega
  ·exact h
 exact jV (Nat.mod_lt _ hb) ((Nat.div_lt_iff_lt_mul hb).2 hC)
theorem GK {a b C:Nat} (hC:C<a*b):ue b a (ue a b C)=C:=by
 have hb:0<b:=by
  rcases Nat.eq_zero_or_pos b with h|h
  ·rw[h,Nat.mul_zero] at hC;omega
  ·exact h
 have h1:C/b<a:=(Nat.div_lt_iff_lt_mul hb).2 hC
 unfold ue
 rw[q9 h1,pY h1,Nat.mul_comm]
 exact Nat.div_add_mod _ _
theorem asd {p:Int} (hp:dh p) {a b R C:Nat} (hR:R<a*b) (hC:C<a*b):iC p (a*b) (jI b a b) (jI a b a) R C=if R=C then 1 else 0:=by
 have h2:=hp.1
 have hs:eN p (if R=C then 1 else 0):=by unfold eN;split<;>omega
 refine Zh ?_ (anS hp (a*b) (a*b) _ _ _ R hR C hC) hs
 refine(S1 _ _ _ _ _ _).trans (yM ?_)
 have ht:=AB hC
 rw[sK (a:=ue a b C) (a*b) (by rw[Nat.mul_comm];exact ht) fun t _ aD=>by rw[Dx hC,if_neg aD,Int.mul_zero]]
 rw[Dx hC,if_pos rfl,Int.mul_one,Dx ht,GK hC]
theorem Ws {p:Int} (hp:dh p) (a b:Nat):cT p (a*b) (a*b) (jI a b a):=fun R _ C hC=>by
 have:=hp.1
 rw[Dx hC]
 unfold eN
 split<;>omega
theorem Wr {p:Int} (hp:cu p=true) {a b:Nat} (ha:1<=a/\a<=8) (hb:1<=b/\b<=8):vY (p,(a:Int),(b:Int))=some ((((a*b:Nat):Int),((a*b:Nat):Int),aq (a*b) (a*b) (jI a b a)),true):=by
 simp only[vY,G5]
 rw[if_pos ⟨hp,by simp only;omega,by simp only;omega⟩]
 have e:((a:Int)*(b:Int))=((a*b:Nat):Int):=by norm_cast
 rw[e]
 simp only[Int.toNat_natCast]
theorem agb {N i:Nat} (hN:0<N) (hi:i<N*N):i%(N+1)=0↔i/N=i%N:=by
 have h1:i/N<N:=(Nat.div_lt_iff_lt_mul hN).2 hi
 have h2:i%N<N:=Nat.mod_lt _ hN
 have e:i=i/N*N+i%N:=by rw[Nat.mul_comm];exact(Nat.div_add_mod _ _).symm
 generalize i/N=r at*
 generalize i%N=c at*
 subst e
 constructor
 ·intro h
  by_cases hc:r<=c
  ·have:r*N+c=(c - r)+(N+1)*r:=by rw[Nat.add_mul,Nat.mul_comm N r];omega
   rw[this,Nat.add_mul_mod_self_left,Nat.mod_eq_of_lt (by omega)] at h
   omega
  ·exfalso
   have:r*N+c=(N+1 - (r - c))+(N+1)*(r - 1):=by
    obtain⟨q,rfl⟩:∃q,r=q+1:=⟨r - 1,by omega⟩
    rw[Nat.add_sub_cancel,Nat.add_mul,Nat.add_mul,Nat.mul_comm N q]
    omega
   rw[this,Nat.add_mul_mod_self_left,Nat.mod_eq_of_lt (by omega)] at h
   omega
 ·rintro rfl
  have:r*N+r=(N+1)*r:=by rw[Nat.add_mul,Nat.mul_comm N r,Nat.one_mul]
  rw[this]
  exact Nat.mul_mod_right _ _
def sF (v:Int) (f t:List Int):Int:=if cD f v<f.length then t.getD (cD f v) 0 else v
theorem aql {f:List Int} {v:Int} {j:Nat} (h:j<cD f v):∃x,f[j]? =some x/\x≠v:=by
 have hl:=Db f v
 have hj:j<f.length:=by omega
 refine⟨f[j],List.getElem?_eq_getElem hj,?_⟩
 have:=List.not_of_lt_findIdx h
 simpa using this
theorem aqk {f:List Int} {v:Int} (h:cD f v<f.length):f[cD f v]? =some v:=by
 rw[List.getElem?_eq_getElem h]
 have:=List.findIdx_getElem (w:=h)
 congr 1
 exact of_decide_eq_true this
theorem aqT (v:Int) (f t:List Int) (hl:f.length=t.length) (h:f.length<=1048576):Ba (v,f,t)=some (sF v f t):=by
  simp only[Ba,Hi]
  have ig:=Db f v
  have hL:∀o,o=bM aC (fun((i3,l4,l5,i6,i7):(Int×((List Int)×((List Int)×(Int×Int)))))=>
        ax (bG i7 i6)
          ((eo l5 i7).ab (fun(i8:Int)=>
            ax (cJ i8 i3)
              ((eo l4 i7).ab (fun(i9:Int)=>
                some (Sum.inr (Sum.inr i9))))
              (some (Sum.inl (i3,l4,l5,i6,bA .i64 i7 (1:Int))))))
          (some (Sum.inr (Sum.inl i3))))
      (v,t,f,aS (aa f),(0:Int))->o=some (if cD f v<f.length then Sum.inr (t.getD (cD f v) 0) else Sum.inl v):=by
    rintro o rfl
    refine eH (fun j=>(v,t,f,aS (aa f),(j:Int))) (cD f v) ?_ ?_ rfl (dk (by omega))
    · intro j hj
      dsimp only
      obtain⟨x,hx,aD⟩:=aql hj
      rw[aR (df (by show(j:Int)<(f.length:Int);omega)),eu,hx]
      simp only[dO]
      rw[aL (rW aD),fF (by omega)]
    · dsimp only
      by_cases hc:cD f v<f.length
      · rw[aR (df (by show((cD f v:Nat):Int)<(f.length:Int);omega)),eu,aqk hc]
        simp only[dO]
        rw[aR (tg rfl),eu,r6 (by omega),if_pos hc]
        rfl
      · rw[aL (cN (by show(f.length:Int)<=((cD f v:Nat):Int);omega)),if_neg hc]
  rw[hL _ rfl]
  unfold sF
  by_cases hc:cD f v<f.length
  · rw[if_pos hc,if_pos hc]
    rfl
  · rw[if_neg hc,if_neg hc]
    rfl
def xw (L f t:List Int) (i q:Nat):Int:=if q<i then sF (L.getD q 0) f t else L.getD q 0
theorem aq7 (L:List Int):bC L.length (fun q=>L.getD q 0)=L:=JF (fc _ _) fun k hk=>by
 rw[fc] at hk
 rw[List.getD_eq_getElem?_getD,nz _ hk]
 rfl
theorem aqR {r:Rg} {L D A f t:List Int} (h:gF r (L,D,A)=true) (hl:f.length=t.length) (hs:f.length<=1048576) (h':gF r (L.map (fun v=>sF v f t),D,A)=true):
  AQ (r,(L,D,A),f,t)=some ((L.map (fun v=>sF v f t),D,A),true):=by
 obtain⟨r1,r2,r3⟩:=r
 obtain⟨_,⟨EX,_⟩,Cp,⟨_,hP⟩,hA,hG,_⟩:=DH h
 have qR:=s0 (AE h).1
 have atl:L.length<=12:=by omega
 have hw:=DR (by have:=(DH h).1;exact this)
 have wO:A.length<=1048576:=by
  rw[hA]
  have h8:cg (r1,r2,r3)<=20:=by omega
  have:=Nat.mul_le_mul hP h8
  omega
 simp only[AQ,Hc]
 rw[show oE ((r1,r2,r3),L,D,A)=some (gF (r1,r2,r3) (L,D,A)) from if_pos ⟨by dsimp only;omega,by dsimp only;omega,wO⟩,h]
 simp only[dO]
 rw[show dA true=false from rfl,wB,tT (show aS (aa f)=aS (aa t) by unfold aS aa;rw[hl]),wB]
 rw[show AY (L,D,A)=some (L,D,A) from if_pos ⟨by dsimp only;omega,by dsimp only;omega,wO⟩]
 simp only[dO,cC]
 rw[show ai 0 0 (aa ([]:List Int))=some () from rfl]
 simp only[dO]
 rw[eH (fun i=>((f,t,aS (aa L),(i:Int)),(r1,r2,r3),([]:List Int),([]:List Int),([]:List Int),bC L.length (xw L f t i),D,A)) L.length ?a1 ?a2 ?a3 (dk (by omega))]
 case a1=>
  intro i hi
  dsimp only
  rw[aR (df (by show(i:Int)<(L.length:Int);omega)),BD _ hi]
  simp only[dO]
  rw[hZ,wL _ hi]
  simp only[dO]
  have e1:xw L f t i i=L.getD i 0:=if_neg (by omega)
  rw[e1,aqT _ f t hl hs]
  simp only[dO]
  have e2:bR (bC L.length (xw L f t i)) i (sF (L.getD i 0) f t)=bC L.length (xw L f t (i+1)):=by
   rw[Gb]
   refine jo fun q hq=>?_
   unfold xw
   by_cases e:q=i
   ·subst e
    rw[if_pos rfl,if_pos (by omega)]
   ·rw[if_neg e]
    by_cases e3:q<i
    ·rw[if_pos e3,if_pos (by omega)]
    ·rw[if_neg e3,if_neg (by omega)]
  rw[e2,pL]
  simp only[dO,cC]
  rw[fF (by omega)]
 case a2=>
  dsimp only
  rw[aL (cN (by show(L.length:Int)<=(L.length:Int);omega))]
  try simp only[dO,cC]
  try rfl
 case a3=>
  have:bC L.length (xw L f t 0)=L:=by
   have e:bC L.length (xw L f t 0)=bC L.length (fun q=>L.getD q 0):=jo fun q _=>if_neg (by omega)
   rw[e,aq7]
  rw[this]
  rfl
 have aiW:bC L.length (xw L f t L.length)=L.map (fun v=>sF v f t):=by
  refine JF (by rw[fc,List.length_map]) fun k hk=>?_
  rw[fc] at hk
  rw[List.getD_eq_getElem?_getD,nz _ hk,List.getD_eq_getElem?_getD,List.getElem?_map,r6 hk]
  exact if_pos hk
 rw[aiW]
 simp only[ca,Option.bind,fT,dO]
 have hlm:(L.map (fun v=>sF v f t)).length=L.length:=List.length_map _
 rw[show oE ((r1,r2,r3),L.map (fun v=>sF v f t),D,A)=some (gF (r1,r2,r3) (L.map (fun v=>sF v f t),D,A)) from if_pos ⟨by dsimp only;omega,by dsimp only;omega,wO⟩,h']
 simp only[dO]
 rw[show dA true=false from rfl,wB]
 simp only[jJ,dO]
theorem ars {p:Int} {t t':T3} (h:gF (2,p,0) t=true) (h':gF (2,p,0) t'=true) (he:lv (2,p,0) t=lv (2,p,0) t') (hl:(lv (2,p,0) t').1.length<=1048576/\(lv (2,p,0) t').2.1.length<=1048576/\(lv (2,p,0) t').2.2.length<=1048576):AS ((2,p,0),t,t')=some true:=by
 obtain⟨L,D,A⟩:=t
 obtain⟨L',D',A'⟩:=t'
 have bZ:∀{L D A:List Int},gF (2,p,0) (L,D,A)=true->L.length<=1048576/\D.length<=1048576/\A.length<=1048576:=fun{L D A} h=>by
  obtain⟨_,⟨EX,_⟩,Cp,⟨_,hP⟩,hA,hG,_⟩:=DH h
  have qR:=s0 (AE h).1
  rw[show cg (2,p,0)=1 from rfl,Nat.mul_one] at hA
  omega
 simp only[AS,Hd]
 rw[show oE ((2,p,0),L,D,A)=some (gF (2,p,0) (L,D,A)) from if_pos (bZ h),h]
 simp only[dO,yB]
 rw[show oE ((2,p,0),L',D',A')=some (gF (2,p,0) (L',D',A')) from if_pos (bZ h'),h']
 simp only[dO,yB]
 rw[show vW ((2,p,0),L,D,A)=some (lv (2,p,0) (L,D,A)) from if_pos (bZ h),show vW ((2,p,0),L',D',A')=some (lv (2,p,0) (L',D',A')) from if_pos (bZ h'),he]
 generalize lv (2,p,0) (L',D',A')=s at hl
 obtain⟨a,b,c⟩:=s
 simp only[dO,fT,DW,He]
 rw[show sT (a,a)=some (decide (a=a)) from if_pos ⟨hl.1,hl.1⟩,show sT (b,b)=some (decide (b=b)) from if_pos ⟨hl.2.1,hl.2.1⟩,show sT (c,c)=some (decide (c=c)) from if_pos ⟨hl.2.2,hl.2.2⟩]
 simp only[dO,decide_true,yB]
theorem Yn {p:Int} {A:List Int} {off:Nat->Nat}:∀n,(∀k,k<n->off k<A.length)->nJ (2,p,0) A off n=bC n (fun k=>A.getD (off k) 0)
 |0,_=>rfl
 |n+1,h=>by
  unfold nJ
  rw[Yn n fun k hk=>h k (by omega),show cg (2,p,0)=1 from rfl,Nat.mul_one]
  have hn:=h n (by omega)
  have e:lr A (off n) 1=[A.getD (off n) 0]:=by
   unfold lr
   rw[List.drop_eq_getElem_cons hn,List.getD_eq_getElem?_getD,List.getElem?_eq_getElem hn]
   rfl
  rw[e]
  exact Le n _
theorem aso {p:Int} {L D A:List Int} (h:gF (2,p,0) (L,D,A)=true):
  lv (2,p,0) (L,D,A)=(fC L L.length,dX L D (fC L L.length),bC (bJ (dX L D (fC L L.length))) (fun n=>A.getD (mP D (rl L D (fC L L.length) n) D.length) 0)):=by
 have I:=hH.mk' (AE h).1 (S:=fC L L.length) rfl
 obtain⟨_,_,_,_,hA,_⟩:=DH h
 rw[show cg (2,p,0)=1 from rfl,Nat.mul_one] at hA
 unfold lv
 rw[if_pos h]
 unfold vz
 show(_,_,nJ (2,p,0) A (jG L D (fC L L.length)) _)=_
 rw[Yn _ fun k _=>by rw[hA];exact I.aci k]
 congr 2
 exact jo fun n _=>by rw[I.off n]
end Go.Am
end
