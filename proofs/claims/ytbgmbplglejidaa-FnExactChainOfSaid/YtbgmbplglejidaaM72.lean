/- M66, M67, M26, M27, M28, M68, M69, M70, M71, M72: parts of the proof. No condition. -/
import Derived.Test.YtbgmbplglejidaaM65
set_option linter.unusedVariables false
set_option linter.unusedSimpArgs false
set_option linter.unusedSectionVars false
section
namespace Go.Am
def sN (f:Nat->Nat):Nat->Nat
 |0=>0
 |q+1=>sN f q+f q
def cl (L D S:List Int):List Int:=ci S.length fun i=>D.getD (bQ L (S.getD i 0)) 0
def gP (L D S:List Int) (n:Nat) (v:Int):Nat:=(dw (cl L D S) n (bQ S v)).toNat*bT D (bQ L v+1)
def eX (L D S:List Int) (n:Nat):Nat:=sN (fun i=>gP L D S n (S.getD i 0)) S.length
def iy (r:Rg) (A:List Int) (off:Nat->Nat):Nat->List Int
 |0=>[]
 |n+1=>iy r A off n++fe A (off n*bw r) (bw r)
def w4 (r:Rg) (t:T3) (S:List Int):T3:=(S,cl t.1 t.2.1 S,iy r t.2.2 (eX t.1 t.2.1 S) (cv (cl t.1 t.2.1 S)))
def Sf (x:Rg×T3×List Int):Prop:=gQ x.1 x.2.1=true/\x.2.2=eQ x.2.1.1 x.2.1.1.length
instance (x:Rg×T3×List Int):Decidable (Sf x):=by unfold Sf;infer_instance
def vz:Rg×T3×List Int->Option T3:=fun x=>if Sf x then some (w4 x.1 x.2.1 x.2.2) else none
def zO:Rg×T3×List Int->Option T3:=vz
def qQ (r:Rg) (t:T3):T3:=if gQ r t=true then w4 r t (eQ t.1 t.1.length) else([],[],[])
def vu:Rg×T3->Option T3:=fun x=>if x.2.1.length<=1048576/\x.2.2.1.length<=1048576/\x.2.2.2.length<=1048576 then some (qQ x.1 x.2) else none
def zF:Rg×T3->Option T3:=vu
def zH:T3×Int->Option Int:=fun x=>if x.1.1.length<=1048576 then some (pT x.1.1 x.2) else none
def rY (l:List Int) (b:Int):Prop:=l.length<=12/\∀x∈l,0<=x/\x<=b
instance (l:List Int) (b:Int):Decidable (rY l b):=by unfold rY;infer_instance
def Aa:List Int×List Int->Option Int:=fun x=>if rY x.1 8/\rY x.2 8/\x.1.length=x.2.length then some ((ir x.1 x.2 x.1.length:Nat):Int) else none
def zJ:List Int×List Int->Option Int:=fun x=>if rY x.1 1048576/\rY x.2 8/\x.1.length=x.2.length then some ((sN (fun i=>(x.2.getD i 0).toNat*(x.1.getD i 0).toNat) x.1.length:Nat):Int) else none
def ov (L D S:List Int):List Int:=ci S.length fun i=>((bT D (bQ L (S.getD i 0)+1):Nat):Int)
def zR:T3×List Int->Option (List Int):=fun x=>if mY x.1.1 x.1.2.1=true/\x.2=eQ x.1.1 x.1.1.length/\cv x.1.2.1<=4096 then some (ov x.1.1 x.1.2.1 x.2) else none
def tD:Rg×T3×Int->Option (List Int):=fun x=>if M4 x then some (fe x.2.1.2.2 (x.2.2.toNat*bw x.1) (bw x.1)) else none
def xG:Rg×T3×Int->Option (List Int):=tD
def Hp:ai:=[(.one,[.list [.int .i64]]),(.one,[.list [.int .i64]])]
def TO:ai:=[(.one,[.int .i64])]
def alH:aN:=[]
def Hl:ai:=[(.agg,[.int .i64,.int .i64,.int .i64]),(.agg,[.list [.int .i64],.list [.int .i64],.list [.int .i64]]),(.one,[.int .i64])]
def TL:ai:=[(.one,[.list [.int .i64]])]
def alE:aN:=[]
def Gq:ai:=[(.agg,[.list [.int .i64],.list [.int .i64],.list [.int .i64]]),(.one,[.int .i64])]
def SU:ai:=[(.one,[.int .i64])]
def akW:aN:=[]
def Gt:ai:=[(.one,[.list [.int .i64]]),(.one,[.list [.int .i64]])]
def SY:ai:=[(.one,[.int .i64])]
def akZ:aN:=[]
def GA:ai:=[(.agg,[.int .i64,.int .i64,.int .i64]),(.agg,[.list [.int .i64],.list [.int .i64],.list [.int .i64]]),(.one,[.int .i64])]
def S5:ai:=[(.one,[.list [.int .i64]])]
def ak5:aN:=[[some .aO]]
def L3 (NN:Nat):((List Int)×(List Int))->(Option Int):=
 (fun((l0,l1):((List Int)×(List Int)))=>
 bD (bu NN (fun((l2,i3,l4,i5,i6):((List Int)×(Int×((List Int)×(Int×Int)))))=>
 ak (bd i6 i5)
 ((dd l4 i6).U (fun i7=>
 (dd l2 i6).U (fun i8=>
 some (Sum.inl (l2,aU .i64 (cu .i64 i3 i7) i8,l4,i5,aU .i64 i6 1)))))
 (some (Sum.inr (Sum.inl i3))))
 (l1,(0:Int),l0,aI (J l0),(0:Int)))
 (fun i9=>
 some i9))
def LX (NN:Nat):((Int×(Int×Int))×(((List Int)×((List Int)×(List Int)))×Int))->(Option (List Int)):=
 (fun(((i0,i1,i2),(l3,l4,l5),i6):((Int×(Int×Int))×(((List Int)×((List Int)×(List Int)))×Int)))=>
 (xI (i0,i1,i2)).U (fun i7=>
 (f7 (cu .i64 i6 i7) (aU .i64 (cu .i64 i6 i7) i7) (J l5)).U (fun(k8,k9)=>
 (ae 0 0 (J (([]:List Int)))).U (fun _=>
 (jL (aC (J (([]:List Int))) (J (fe l5 k8 k9))) 8).U (fun _=>
 (c9 (dP (([]:List Int)) (fe l5 k8 k9)) (aC (J (([]:List Int))) (J (fe l5 k8 k9)))).U (fun eW=>
 some eW))))))
def Ld (NN:Nat):(((List Int)×((List Int)×(List Int)))×Int)->(Option Int):=
 (fun(((l0,l1,l2),i3):(((List Int)×((List Int)×(List Int)))×Int))=>
 bD (bu NN (fun((i4,l5,i6,i7):(Int×((List Int)×(Int×Int))))=>
 ak (bd i7 i6)
 ((dd l5 i7).U (fun i8=>
 ak (bL i8 i4)
 (some (Sum.inr (Sum.inr i7)))
 (some (Sum.inl (i4,l5,i6,aU .i64 i7 1)))))
 (some (Sum.inr (Sum.inl ()))))
 (i3,l0,aI (J l0),(0:Int)))
 (fun _=>
 some ((-1:Int))))
def Lg (NN:Nat):((List Int)×(List Int))->(Option Int):=
 (fun((l0,l1):((List Int)×(List Int)))=>
 bD (bu NN (fun((l2,l3,i4,i5,i6):((List Int)×((List Int)×(Int×(Int×Int)))))=>
 ak (bd i6 i5)
 ((dd l2 i6).U (fun i7=>
 (dd l3 i6).U (fun i8=>
 some (Sum.inl (l2,l3,aU .i64 i4 (cu .i64 i7 i8),i5,aU .i64 i6 1)))))
 (some (Sum.inr (Sum.inl i4))))
 (l0,l1,(0:Int),aI (J l0),(0:Int)))
 (fun i9=>
 some i9))
def Lm (NN:Nat):((Int×(Int×Int))×(((List Int)×((List Int)×(List Int)))×Int))->(Option (List Int)):=
 (fun(((i0,i1,i2),(l3,l4,l5),i6):((Int×(Int×Int))×(((List Int)×((List Int)×(List Int)))×Int)))=>
 (vo (i0,i1,i2)).U (fun i7=>
 (f7 (cu .i64 i6 i7) (cu .i64 (aU .i64 i6 1) i7) (J l5)).U (fun(k8,k9)=>
 some (fe l5 k8 k9))))
theorem acm {f:Nat->Nat} {b:Nat}:∀q,(∀i,i<q->f i<=b)->sN f q<=q*b
 |0,_=>Nat.zero_le _
 |q+1,h=>by
  have h1:=acm (f:=f) (b:=b) q fun i hi=>h i (by omega)
  have h2:=h q (by omega)
  simp only[sN]
  rw[Nat.add_mul,Nat.one_mul]
  omega
theorem T4 {f g:Nat->Nat}:∀q,(∀i,i<q->f i=g i)->sN f q=sN g q
 |0,_=>rfl
 |q+1,h=>by simp only[sN];rw[T4 q fun i hi=>h i (by omega),h q (by omega)]
theorem aco (g:Int->Nat) (l:List Int):∀q,q<=l.length->sN (fun i=>g (l.getD i 0)) q=((l.take q).map g).sum
 |0,_=>by simp[sN]
 |q+1,h=>by
  simp only[sN]
  rw[aco g l q (by omega),List.take_succ_eq_append_getElem (by omega),List.map_append,List.sum_append_nat,List.getD_eq_getElem?_getD,List.getElem?_eq_getElem (by omega)]
  simp
theorem acn (g:Int->Nat) (l:List Int):sN (fun i=>g (l.getD i 0)) l.length=(l.map g).sum:=by
 rw[aco g l _ (Nat.le_refl _),List.take_length]
theorem apn {S L:List Int} (h:S.Perm L) (g:Int->Nat):sN (fun i=>g (S.getD i 0)) S.length=sN (fun i=>g (L.getD i 0)) L.length:=by
 rw[acn,acn]
 exact(h.map g).sum_nat
theorem JW {l:List Int} {v:Int} (h:v∈l):bQ l v<l.length:=by
 refine Nat.lt_of_le_of_ne (EN l v) fun e=>?_
 obtain⟨i,hi⟩:=List.getElem?_of_mem h
 have hl:=(List.getElem?_eq_some_iff.1 hi).1
 exact BV (by omega) hi
theorem Sj {l:List Int} {v:Int} (h:v∈l):l.getD (bQ l v) 0=v:=by
 rw[List.getD_eq_getElem?_getD,BU (JW h)]
 rfl
theorem pZ {l:List Int} {i:Nat} (h:i<l.length):l.getD i 0∈l:=by
 rw[List.getD_eq_getElem?_getD,List.getElem?_eq_getElem h]
 exact List.getElem_mem h
theorem BW {l:List Int} (hn:l.Nodup) {i:Nat} (h:i<l.length):bQ l (l.getD i 0)=i:=by
 have hm:=pZ h
 have h1:=JW hm
 have h2:=BU h1
 rw[List.getElem?_eq_getElem h1] at h2
 have e:l[bQ l (l.getD i 0)]=l[i]:=by
  injection h2 with h2
  rw[h2,List.getD_eq_getElem?_getD,List.getElem?_eq_getElem h]
  rfl
 exact(List.getElem_inj hn).1 e
theorem aex {L D:List Int} (h:mY L D=true):L.Nodup:=by
 obtain⟨h1,h2,h3⟩:=tN h
 rw[List.nodup_iff_pairwise_ne,List.pairwise_iff_getElem]
 intro i j hi hj jm e
 have:=(h3 j hj).2.2
 apply this
 rw[List.getD_eq_getElem?_getD,List.getElem?_eq_getElem hj]
 show L[j]∈L.take j
 rw[<-e,List.mem_take_iff_getElem]
 exact⟨i,by omega,rfl⟩
structure gE (L D S:List Int):Prop where
 p:S.Perm L
 nL:L.Nodup
 nS:S.Nodup
 len:L.length=D.length
 dk:L.length<=12
 sF:∀x∈D,1<=x/\x<=8
theorem gE.mk' {L D S:List Int} (h:mY L D=true) (hS:S=eQ L L.length):gE L D S:=by
 have hp:S.Perm L:=by rw[hS];exact ac4 L _ (Nat.le_refl _)
 obtain⟨h1,h2,h3⟩:=tN h
 have hn:=aex h
 exact⟨hp,hn,hp.nodup_iff.2 hn,h2,h1,CU h⟩
section
variable {L D S:List Int} (I:gE L D S)
include I
theorem gE.Cg:S.length=L.length:=I.p.length_eq
theorem gE.inv {q k:Nat} (hq:q<S.length) (hk:k<L.length):bQ L (S.getD q 0)=k↔bQ S (L.getD k 0)=q:=by
 have m1:S.getD q 0∈L:=I.p.mem_iff.1 (pZ hq)
 have m2:L.getD k 0∈S:=I.p.mem_iff.2 (pZ hk)
 constructor
 ·intro e
  have:=Sj m1
  rw[e] at this
  rw[this,BW I.nS hq]
 ·intro e
  have:=Sj m2
  rw[e] at this
  rw[this,BW I.nL hk]
theorem gE.tM {q:Nat} (hq:q<S.length):bQ L (S.getD q 0)<L.length:=JW (I.p.mem_iff.1 (pZ hq))
theorem gE.aaC {k:Nat} (hk:k<L.length):bQ S (L.getD k 0)<S.length:=JW (I.p.mem_iff.2 (pZ hk))
theorem gE.jK:jK D:=⟨by have:=I.len;have:=I.dk;omega,fun x hx=>by have:=I.sF x hx;omega⟩
theorem gE.MY:∀x∈cl L D S,1<=x/\x<=8:=by
 intro x hx
 obtain⟨i,hi,rfl⟩:=List.mem_map.1 hx
 have:=I.tM (List.mem_range.1 hi)
 exact I.sF _ (pZ (by have:=I.len;omega))
theorem gE.Yd:Am.jK (cl L D S):=⟨by show(ci _ _).length<=_;rw[ia,I.Cg];have:=I.dk;omega,fun x hx=>by have:=I.MY x hx;omega⟩
omit I in
theorem aoI {h:Int->Int} {S L:List Int} (p:S.Perm L):cv (S.map h)=cv (L.map h):=by
 induction p with
 |nil=>rfl
 |cons x _ ih=>simp only[List.map_cons,cv,ih]
 |swap x y l=>simp only[List.map_cons,cv];rw[Nat.mul_left_comm]
 |trans _ _ h1 h2=>exact h1.trans h2
omit I in
theorem acb (h:Int->Int) (l:List Int):ci l.length (fun i=>h (l.getD i 0))=l.map h:=by
 apply List.ext_getElem?
 intro i
 by_cases hi:i<l.length
 ·rw[qM _ hi,List.getElem?_map,List.getElem?_eq_getElem hi,List.getD_eq_getElem?_getD,List.getElem?_eq_getElem hi]
  rfl
 ·rw[List.getElem?_eq_none (by rw[ia];omega),List.getElem?_eq_none (by simp;omega)]
theorem gE.prod:cv (cl L D S)=cv D:=by
 have e1:cl L D S=S.map fun v=>D.getD (bQ L v) 0:=acb (fun v=>D.getD (bQ L v) 0) S
 have e2:L.map (fun v=>D.getD (bQ L v) 0)=D:=by
  rw[<-acb (fun v=>D.getD (bQ L v) 0) L]
  apply List.ext_getElem?
  intro i
  by_cases hi:i<L.length
  ·rw[qM _ hi,BW I.nL hi,List.getD_eq_getElem?_getD,List.getElem?_eq_getElem (by have:=I.len;omega)]
   rfl
  ·rw[List.getElem?_eq_none (by rw[ia];omega),List.getElem?_eq_none (by have:=I.len;omega)]
 rw[e1,aoI I.p,e2]
def po (L D S:List Int) (n:Nat):List Int:=ci D.length fun k=>dw (cl L D S) n (bQ S (L.getD k 0))
theorem gE.pd {i:Nat} (hi:i<S.length):(cl L D S).getD i 0=D.getD (bQ L (S.getD i 0)) 0:=by
 unfold cl
 rw[List.getD_eq_getElem?_getD,qM _ hi]
 rfl
theorem gE.Yb (n:Nat) {i:Nat} (hi:i<S.length):0<=dw (cl L D S) n i/\dw (cl L D S) n i<D.getD (bQ L (S.getD i 0)) 0:=by
 have hd:=I.sF _ (pZ (l:=D) (i:=bQ L (S.getD i 0)) (by have:=I.tM hi;have:=I.len;omega))
 unfold dw
 rw[I.pd hi]
 have:=Nat.mod_lt (n/bT (cl L D S) (i+1)) (show 0<(D.getD (bQ L (S.getD i 0)) 0).toNat by omega)
 omega
omit I in
theorem abq {D ix:List Int} (h:∀k,k<D.length->(ix.getD k 0).toNat<(D.getD k 0).toNat):∀j,j<=D.length->(ir D ix j+1)*bT D j<=cv D
 |0,_=>by simp[ir,bT]
 |j+1,hj=>by
  have ih:=abq h j (by omega)
  have hk:=h j (by omega)
  rw[tz (by omega),<-Nat.mul_assoc] at ih
  refine Nat.le_trans (Nat.mul_le_mul_right _ ?_) ih
  simp only[ir]
  rw[Nat.add_mul,Nat.one_mul]
  omega
omit I in
theorem abr {D ix:List Int}:∀j,j<=D.length->ir D ix j*bT D j=sN (fun k=>(ix.getD k 0).toNat*bT D (k+1)) j
 |0,_=>by simp[ir,sN]
 |j+1,hj=>by
  simp only[ir,sN]
  rw[<-abr j (by omega),tz (i:=j) (by omega),Nat.add_mul,Nat.mul_assoc]
theorem gE.Sb (n:Nat) {k:Nat} (hk:k<D.length):(po L D S n).getD k 0=dw (cl L D S) n (bQ S (L.getD k 0)):=by
 unfold po
 rw[List.getD_eq_getElem?_getD,qM _ hk]
 rfl
theorem gE.abu (n:Nat) {k:Nat} (hk:k<D.length):0<=(po L D S n).getD k 0/\(po L D S n).getD k 0<D.getD k 0:=by
 rw[I.Sb n hk]
 have cY:k<L.length:=by have:=I.len;omega
 have h1:=I.aaC cY
 have h2:=I.Yb n h1
 rw[(I.inv h1 cY).2 rfl] at h2
 exact h2
theorem gE.off (n:Nat):ir D (po L D S n) D.length=eX L D S n:=by
 have h1:=abr (D:=D) (ix:=po L D S n) D.length (Nat.le_refl _)
 rw[xu,Nat.mul_one] at h1
 rw[h1]
 unfold eX
 rw[apn I.p (gP L D S n),I.len]
 refine T4 _ fun k hk=>?_
 rw[I.Sb n hk]
 unfold gP
 rw[BW I.nL (by have:=I.len;omega)]
theorem gE.R9 (n:Nat):eX L D S n<cv D:=by
 have:=abq (D:=D) (ix:=po L D S n) (fun k hk=>by have:=I.abu n hk;omega) D.length (Nat.le_refl _)
 rw[xu,Nat.mul_one,I.off n] at this
 omega
end
theorem xl {l:List Int} {b:Int} (h:rY l b) {i:Nat} (hi:i<l.length):∃a:Nat,l[i]? =some (a:Int)/\(l.getD i 0).toNat=a/\(a:Int)<=b:=by
 have:=h.2 _ (List.getElem_mem hi)
 refine⟨l[i].toNat,?_,?_,by omega⟩
 ·rw[List.getElem?_eq_getElem hi]
  congr 1
  omega
 ·rw[List.getD_eq_getElem?_getD,List.getElem?_eq_getElem hi]
  rfl
theorem abo {D ix:List Int} (h1:rY D 8) (h2:rY ix 8) (he:D.length=ix.length):∀j,j<=D.length->ir D ix j<=17^j
 |0,_=>by simp[ir]
 |j+1,hj=>by
  have ih:=abo h1 h2 he j (by omega)
  obtain⟨a,_,a2,a3⟩:=xl h1 (i:=j) (by omega)
  obtain⟨b,_,b2,b3⟩:=xl h2 (i:=j) (by omega)
  have hp:17^0<=17^j:=Nat.pow_le_pow_right (by omega) (Nat.zero_le j)
  rw[Nat.pow_zero] at hp
  simp only[ir]
  rw[a2,b2,Nat.pow_succ]
  have:=Nat.mul_le_mul ih (show a<=8 by omega)
  omega
theorem aha (x:List Int×List Int) (y:Int) (h:Aa x=some y):L3 az x=some y:=by
 obtain⟨D,ix⟩:=x
 simp only[Aa] at h
 split at h
 ·rename_i hc
  rw[<-h]
  obtain⟨h1,h2,he⟩:=hc
  simp only[L3]
  have hb:∀j,j<=D.length->ir D ix j<=582622237229761:=fun j hj=>Nat.le_trans (abo h1 h2 he j hj) (Nat.le_trans (Nat.pow_le_pow_right (by omega) (show j<=12 by have:=h1.1;omega)) (by decide))
  rw[ef (fun j=>(ix,((ir D ix j:Nat):Int),D,(D.length:Int),(j:Int))) D.length ?a1 ?a2 ?a3 (cX (by have:=h1.1;omega))]
  case a3=>rfl
  case a2=>
   dsimp only
   rw[aK (cP (by omega))]
  case a1=>
   intro j hj
   obtain⟨a,a1,a2,a3⟩:=xl h1 (i:=j) (by omega)
   obtain⟨b,b1,b2,b3⟩:=xl h2 (i:=j) (by omega)
   have sP:=hb j (by omega)
   have hl:=h1.1
   have e:ir D ix (j+1)=ir D ix j*a+b:=by simp only[ir];rw[a2,b2]
   have hm:=Nat.mul_le_mul sP (show a<=8 by omega)
   dsimp only
   rw[aH (df (by omega)),dj,dj,a1,b1]
   simp only[aG]
   rw[kq (by rw[<-Int.natCast_mul];omega) (by rw[<-Int.natCast_mul];omega),<-Int.natCast_mul,eK (by omega) (by omega),eK (by omega) (by omega),e]
   rfl
  simp only[bD,Option.bind]
 ·cases h
theorem ago (x:List Int×List Int) (y:Int) (h:zJ x=some y):Lg az x=some y:=by
 obtain⟨s,ix⟩:=x
 simp only[zJ] at h
 split at h
 ·rename_i hc
  rw[<-h]
  obtain⟨h1,h2,he⟩:=hc
  try dsimp only at h1 h2 he
  simp only[Lg]
  have hb:∀j,j<=s.length->sN (fun i=>(ix.getD i 0).toNat*(s.getD i 0).toNat) j<=j*8388608:=fun j hj=>acm j fun i hi=>by
   obtain⟨a,_,a2,a3⟩:=xl h1 (i:=i) (by omega)
   obtain⟨b,_,b2,b3⟩:=xl h2 (i:=i) (by omega)
   rw[a2,b2]
   exact Nat.mul_le_mul (show b<=8 by omega) (show a<=1048576 by omega)
  have hl:=h1.1
  rw[ef (fun j=>(s,ix,((sN (fun i=>(ix.getD i 0).toNat*(s.getD i 0).toNat) j:Nat):Int),(s.length:Int),(j:Int))) s.length ?a1 ?a2 ?a3 (cX (by omega))]
  case a3=>rfl
  case a2=>
   dsimp only
   rw[aK (cP (by omega))]
  case a1=>
   intro j hj
   obtain⟨a,a1,a2,a3⟩:=xl h1 (i:=j) (by omega)
   obtain⟨b,b1,b2,b3⟩:=xl h2 (i:=j) (by omega)
   have sP:=hb j (by omega)
   have e:sN (fun i=>(ix.getD i 0).toNat*(s.getD i 0).toNat) (j+1)=sN (fun i=>(ix.getD i 0).toNat*(s.getD i 0).toNat) j+b*a:=by simp only[sN];rw[a2,b2]
   have hm:=Nat.mul_le_mul (show b<=8 by omega) (show a<=1048576 by omega)
   dsimp only
   rw[aH (df (by omega)),dj,dj,a1,b1]
   simp only[aG]
   rw[e,Nat.mul_comm b a]
   rw[Nat.mul_comm b a] at hm
   rw[kq (by rw[<-Int.natCast_mul];omega) (by rw[<-Int.natCast_mul];omega),<-Int.natCast_mul,eK (by omega) (by omega),eK (by omega) (by omega)]
   rfl
  simp only[bD,Option.bind]
 ·cases h
theorem agl (x:T3×Int) (y:Int) (h:zH x=some y):Ld az x=some y:=by
 obtain⟨⟨L,D,A⟩,v⟩:=x
 simp only[zH] at h
 split at h
 ·rename_i hc
  rw[<-h]
  try dsimp only at hc
  simp only[Ld]
  unfold pT
  by_cases hp:bQ L v<L.length
  ·rw[if_pos hp]
   rw[ef (r:=Sum.inr ((bQ L v:Nat):Int)) (fun j=>(v,L,(L.length:Int),(j:Int))) (bQ L v) ?a1 ?a2 ?a3 (cX (by omega))]
   case a3=>rfl
   case a2=>
    dsimp only
    rw[aH (df (by omega)),dj,BU hp]
    simp only[aG]
    rw[aH (by simp[bL])]
   case a1=>
    intro j hj
    dsimp only
    rw[aH (df (by omega)),dj,List.getElem?_eq_getElem (by omega)]
    simp only[aG]
    rw[aK (by
     have:=BV hj
     rw[List.getElem?_eq_getElem (by omega)] at this
     simp only[bL,beq_eq_false_iff_ne,ne_eq]
     exact fun e=>this (congrArg some e)),eK (by omega) (by omega)]
    rfl
   simp only[bD,Option.bind]
  ·rw[if_neg hp]
   have sU:bQ L v=L.length:=by have:=EN L v;omega
   rw[ef (r:=Sum.inl ()) (fun j=>(v,L,(L.length:Int),(j:Int))) L.length ?a1 ?a2 ?a3 (cX (by omega))]
   case a3=>rfl
   case a2=>
    dsimp only
    rw[aK (cP (by omega))]
   case a1=>
    intro j hj
    dsimp only
    rw[aH (df (by omega)),dj,List.getElem?_eq_getElem (by omega)]
    simp only[aG]
    rw[aK (by
     have:=BV (l:=L) (v:=v) (j:=j) (by omega)
     rw[List.getElem?_eq_getElem (by omega)] at this
     simp only[bL,beq_eq_false_iff_ne,ne_eq]
     exact fun e=>this (congrArg some e)),eK (by omega) (by omega)]
    rfl
   simp only[bD,Option.bind]
 ·cases h
theorem agv (x:Rg×T3×Int) (y:List Int) (h:xG x=some y):Lm az x=some y:=by
 obtain⟨⟨k,p,m⟩,⟨L,D,A⟩,n⟩:=x
 simp only[xG,tD] at h
 split at h
 ·rename_i hc
  rw[<-h]
  obtain⟨hr,h0,h1,h2⟩:=hc
  dsimp only at hr h0 h1 h2
  obtain⟨n,rfl⟩:=jD h0
  have hw:=zA hr
  simp only[Int.toNat_natCast] at h1⊢
  have kG:(n+1)*bw (k,p,m)=n*bw (k,p,m)+bw (k,p,m):=by rw[Nat.add_mul,Nat.one_mul]
  have hn:n+1<=1048576:=by have:=Nat.le_mul_of_pos_right (n+1) (show 0<bw (k,p,m) by omega);omega
  simp only[Lm,vo,aG]
  rw[hw.1,eK (by omega) (by omega),show(n:Int)+1=((n+1:Nat):Int) by push_cast;rfl]
  rw[R5 (a:=n) (b:=bw (k,p,m)) (by omega)]
  rw[R5 (a:=n+1) (b:=bw (k,p,m)) (by omega)]
  rw[show f7 ((n*bw (k,p,m):Nat):Int) (((n+1)*bw (k,p,m):Nat):Int) (J A)=some (n*bw (k,p,m),bw (k,p,m)) by
   unfold f7 J
   rw[if_pos ⟨by omega,by omega,by omega⟩]
   congr 2
   omega]
  simp only[aG]
 ·cases h
theorem ag7 (x:Rg×T3×Int) (y:List Int) (h:tD x=some y):LX az x=some y:=by
 obtain⟨⟨k,p,m⟩,⟨L,D,A⟩,n⟩:=x
 simp only[tD] at h
 split at h
 ·rename_i hc
  rw[<-h]
  obtain⟨hr,h0,h1,h2⟩:=hc
  dsimp only at hr h0 h1 h2
  obtain⟨n,rfl⟩:=jD h0
  have hw:=zA hr
  simp only[Int.toNat_natCast] at h1⊢
  have kG:(n+1)*bw (k,p,m)=n*bw (k,p,m)+bw (k,p,m):=by rw[Nat.add_mul,Nat.one_mul]
  have hn:n+1<=1048576:=by have:=Nat.le_mul_of_pos_right (n+1) (show 0<bw (k,p,m) by omega);omega
  simp only[LX,xI,aG]
  rw[hw.1,R5 (a:=n) (b:=bw (k,p,m)) (by omega),eK (by omega) (by omega),show((n*bw (k,p,m):Nat):Int)+((bw (k,p,m):Nat):Int)=(((n+1)*bw (k,p,m):Nat):Int) by rw[kG];push_cast;rfl]
  rw[show f7 ((n*bw (k,p,m):Nat):Int) (((n+1)*bw (k,p,m):Nat):Int) (J A)=some (n*bw (k,p,m),bw (k,p,m)) by
   unfold f7 J
   rw[if_pos ⟨by omega,by omega,by omega⟩]
   congr 2
   omega]
  simp only[aG]
  rw[show ae 0 0 (J ([]:List Int))=some () from rfl]
  simp only[aG]
  have hlen:(fe A (n*bw (k,p,m)) (bw (k,p,m))).length<=bw (k,p,m):=by unfold fe;rw[List.length_take];omega
  rw[nO (by simp only[aC,J,List.length_nil,dA];omega)]
  simp only[aG]
  rw[Wo (by simp[aC,J,dP])]
  rfl
 ·cases h
end Go.Am
end
section
namespace Go.Am
def GJ:ai:=[(.agg,[.list [.int .i64],.list [.int .i64],.list [.int .i64]]),(.one,[.list [.int .i64]])]
def Tc:ai:=[(.one,[.list [.int .i64]])]
def alc:aN:=[]
def Lr (NN:Nat):(((List Int)×((List Int)×(List Int)))×(List Int))->(Option (List Int)):=
 (fun(((l0,l1,l2),l3):(((List Int)×((List Int)×(List Int)))×(List Int)))=>
 (qB (aI (J l3)) (aI (J l3)) 8).U (fun k4=>
 bD ((ae 0 k4 (J (dN k4 (0:Int)))).U (fun _=>
 bu NN (fun(((l5,i6,i7),(l8,l9,eW),dz):(((List Int)×(Int×Int))×(((List Int)×((List Int)×(List Int)))×(List Int))))=>
 ak (fM (0:Int) i7)
 (bD (bD ((ae 0 (J dz) (J dz)).U (fun _=>
 bu NN (fun(((dk,cU,ca,de,eO,gn),(iq,d7,fx),cM):(((List Int)×(Int×(Int×((List Int)×(Int×Int)))))×(((List Int)×((List Int)×(List Int)))×(List Int))))=>
 ak (bd gn eO)
 ((dd de gn).U (fun g9=>
 (dd iq ca).U (fun jq=>
 ak (bL g9 jq)
 ((da gn (J cM)).U (fun P6=>
 (bY cM (aC 0 P6)).U (fun qh=>
 (ae 0 (J cM) (J (bg cM (aC 0 P6) cU))).U (fun _=>
 some (Sum.inl ((dk,cU,ca,de,eO,aU .i64 gn 1),(iq,d7,fx),bg cM (aC 0 P6) cU))))))
 ((ae 0 (J cM) (J cM)).U (fun _=>
 some (Sum.inl ((dk,cU,ca,de,eO,aU .i64 gn 1),(iq,d7,fx),cM)))))))
 (((ae 0 (J cM) (J cM)).U (fun _=>
 some (Sum.inl ((cU,ca,dk),(iq,d7,fx),cM)))).U (fun dr=>
 some (Sum.inr dr))))
 ((l5,i6,i7,l5,aI (J l5),(0:Int)),(l8,l9,eW),dz)))
 (fun((lM,wC,nY),(nZ,n3,Ep),n4)=>
 (dd n3 wC).U (fun qi=>
 (ae 0 (J n4) (J n4)).U (fun _=>
 some (Sum.inl ((wC,nY,cu .i64 lM qi),(nZ,n3,Ep),n4))))))
 (fun((mH,kK,kI),(hJ,iG,iZ),kL)=>
 (ae 0 (J kL) (J kL)).U (fun _=>
 some (Sum.inl ((kK,kI,dV .i64 mH 1),(hJ,iG,iZ),kL)))))
 (((ae 0 (J dz) (J dz)).U (fun _=>
 some (Sum.inl dz))).U (fun tg=>
 some (Sum.inr tg))))
 ((l3,(1:Int),dV .i64 (aI (J l1)) (1:Int)),(l0,l1,l2),dN k4 (0:Int))))
 (fun ja=>
 (c9 ja (J ja)).U (fun km=>
 some km))))
theorem Wm {D:List Int} (h:jK D) {i:Nat} (hi:i<=D.length):bT D i<=cv D:=by
 have:=Wl (D:=D) (i:=0) (j:=i) (Nat.zero_le i) hi
 rw[FB] at this
 exact Nat.le_of_dvd (JX fun x hx=>(h.2 x hx).1) this
theorem aet {L D S:List Int} (I:gE L D S) {q k:Nat} (hq:q<S.length) (hk:k<L.length):S.getD q 0=L.getD k 0↔bQ L (S.getD q 0)=k:=by
 constructor
 ·intro e
  rw[e,BW I.nL hk]
 ·intro e
  have:=Sj (I.p.mem_iff.1 (pZ hq))
  rw[e] at this
  exact this.symm
theorem oO {l:List Int} {i:Nat} (h:i<l.length):l[i]? =some (l.getD i 0):=by
 rw[List.getD_eq_getElem?_getD,List.getElem?_eq_getElem h]
 rfl
theorem Sx (n:Nat):dN n (0:Int)=ci n fun _=>0:=by
 apply List.ext_getElem?
 intro i
 by_cases hi:i<n
 ·rw[qM _ hi]
  show(List.replicate n (0:Int))[i]? =_
  rw[List.getElem?_replicate,if_pos hi]
 ·rw[List.getElem?_eq_none (by show(List.replicate n (0:Int)).length<=i;simp;omega),List.getElem?_eq_none (by rw[ia];omega)]
def jY (L D S:List Int) (j q:Nat) (i:Nat):Int:=if(i<q/\bQ L (S.getD i 0)+1=D.length - j)\/D.length - j<=bQ L (S.getD i 0) then((bT D (bQ L (S.getD i 0)+1):Nat):Int) else 0
theorem agA (x:T3×List Int) (y:List Int) (h:zR x=some y):Lr az x=some y:=by
 obtain⟨⟨L,D,A⟩,S⟩:=x
 simp only[zR] at h
 split at h
 ·rename_i hc
  rw[<-h]
  obtain⟨ha,hS,hp⟩:=hc
  try dsimp only at ha hS hp
  have I:=gE.mk' ha hS
  have vU:=I.dk
  have hl:=I.len
  have fV:=I.Cg
  simp only[Lr]
  rw[y6 (by simp only[J,dA];omega)]
  try simp only[aG]
  rw[show ae 0 (J S) (J (dN (J S) (0:Int)))=some () from yj (by simp[J,dN])]
  try simp only[aG]
  rw[ef (r:=Sum.inl (ov L D S)) (fun j=>((S,((bT D (D.length - j):Nat):Int),(D.length:Int) - 1 - (j:Int)),(L,D,A),ci S.length (jY L D S j 0))) D.length ?a1 ?a2 ?a3 (cX (by omega))]
  case a3=>
   rw[kV (by show _<=((J D:Nat):Int) - 1;omega) (by show((J D:Nat):Int) - 1<=_;unfold J;omega),Sx]
   rw[show D.length - 0=D.length from rfl,xu]
   rw[show ci S.length (jY L D S 0 0)=ci (J S) (fun _=>0) from kt fun i hi=>by
    have:=I.tM hi
    unfold jY
    rw[if_neg (by omega)]]
   show _=((S,((1:Nat):Int),(D.length:Int) - 1 - ((0:Nat):Int)),(L,D,A),_)
   rw[show(D.length:Int) - 1 - ((0:Nat):Int)=(D.length:Int) - 1 by omega]
   rfl
  case a2=>
   dsimp only
   rw[show fM (0:Int) ((D.length:Int) - 1 - (D.length:Int))=false from decide_eq_false (by omega),aK rfl]
   try simp only[bW,aG]
   rw[show ci S.length (jY L D S D.length 0)=ov L D S from kt fun i hi=>by unfold jY;rw[if_pos (by omega)]]
  case a1=>
   intro j hj
   dsimp only
   rw[aH (o7 (by omega))]
   try simp only[bW,aG]
   have hk:((D.length:Int) - 1 - (j:Int))=((D.length - 1 - j:Nat):Int):=by omega
   rw[hk]
   have hdk:=I.sF _ (pZ (l:=D) (i:=D.length - 1 - j) (by omega))
   rw[ef (r:=Sum.inl ((((bT D (D.length - j):Nat):Int),((D.length - 1 - j:Nat):Int),S),(L,D,A),ci S.length (jY L D S (j+1) 0))) (fun q=>((S,((bT D (D.length - j):Nat):Int),((D.length - 1 - j:Nat):Int),S,(S.length:Int),(q:Int)),(L,D,A),ci S.length (jY L D S j q))) S.length ?b1 ?b2 ?b3 (cX (by omega))]
   case b3=>rfl
   case b2=>
    dsimp only
    rw[aK (cP (by omega))]
    try simp only[bW,aG]
    rw[show ci S.length (jY L D S j S.length)=ci S.length (jY L D S (j+1) 0) from kt fun i hi=>by
     unfold jY
     by_cases hc:(i<S.length/\bQ L (S.getD i 0)+1=D.length - j)\/D.length - j<=bQ L (S.getD i 0)
     ·rw[if_pos hc,if_pos (by omega)]
     ·rw[if_neg hc,if_neg (by omega)]]
   case b1=>
    intro q hq
    dsimp only
    rw[aH (df (by omega)),dj,dj,oO hq,oO (l:=L) (i:=D.length - 1 - j) (by omega)]
    try simp only[aG]
    rw[eK (by omega) (by omega)]
    have oQ:=aet I hq (k:=D.length - 1 - j) (by omega)
    by_cases he:S.getD q 0=L.getD (D.length - 1 - j) 0
    ·have ed:=oQ.1 he
     rw[aH (by unfold bL;exact beq_iff_eq.2 he),HV _ hq]
     try simp only[aG,eZ]
     rw[DB _ hq]
     try simp only[aG]
     rw[EU,show ae 0 (J (ci S.length (jY L D S j q))) (J (ci S.length fun i=>if i=q then((bT D (D.length - j):Nat):Int) else jY L D S j q i))=some () from AL _ _ _]
     try simp only[aG]
     rw[show ci S.length (fun i=>if i=q then((bT D (D.length - j):Nat):Int) else jY L D S j q i)=ci S.length (jY L D S j (q+1)) from kt fun i hi=>by
      by_cases ZJ:i=q
      ·subst ZJ
       rw[if_pos rfl]
       unfold jY
       rw[if_pos (by omega),ed,show D.length - 1 - j+1=D.length - j by omega]
      ·rw[if_neg ZJ]
       unfold jY
       by_cases hc:(i<q/\bQ L (S.getD i 0)+1=D.length - j)\/D.length - j<=bQ L (S.getD i 0)
       ·rw[if_pos hc,if_pos (by omega)]
       ·rw[if_neg hc,if_neg (by omega)]]
     rfl
    ·have ed:bQ L (S.getD q 0)≠D.length - 1 - j:=fun e=>he (oQ.2 e)
     rw[aK (by simp only[bL,beq_eq_false_iff_ne,ne_eq];exact he)]
     try simp only[bW,aG]
     rw[show ci S.length (jY L D S j (q+1))=ci S.length (jY L D S j q) from kt fun i hi=>by
      unfold jY
      by_cases hc:(i<q/\bQ L (S.getD i 0)+1=D.length - j)\/D.length - j<=bQ L (S.getD i 0)
      ·rw[if_pos hc,if_pos (by omega)]
      ·rw[if_neg hc,if_neg (by
        intro cO
        apply hc
        rcases cO with⟨c1,c2⟩|c2
        ·left
         refine⟨?_,c2⟩
         have:i≠q:=by intro e;subst e;omega
         omega
        ·exact .inr c2)]]
     rfl
   simp only[bD,Option.bind]
   rw[dj,oO (l:=D) (i:=D.length - 1 - j) (by omega)]
   try simp only[aG,bW]
   obtain⟨d,d1,d2,d3,d4,d5⟩:=MZ I.jK (i:=D.length - 1 - j) (by omega)
   have ht:bT D (D.length - 1 - j)=d*bT D (D.length - 1 - j+1):=by rw[tz (by omega),d3]
   rw[show D.length - 1 - j+1=D.length - j by omega] at ht
   have gI:=Wm I.jK (i:=D.length - 1 - j) (by omega)
   rw[d2,kq (by rw[<-Int.natCast_mul];omega) (by rw[<-Int.natCast_mul,Nat.mul_comm,<-ht];omega),kV (by omega) (by omega),<-Int.natCast_mul,Nat.mul_comm,<-ht]
   show some (Sum.inl _)=some (Sum.inl ((S,((bT D (D.length - (j+1)):Nat):Int),(D.length:Int) - 1 - ((j+1:Nat):Int)),(L,D,A),ci S.length (jY L D S (j+1) 0)))
   rw[show D.length - (j+1)=D.length - 1 - j by omega,show(D.length:Int) - 1 - ((j+1:Nat):Int)=((D.length - 1 - j:Nat):Int) - 1 by omega]
  simp only[bD,Option.bind,gO,aG]
 ·cases h
end Go.Am
end
section
namespace Go.Am
def lG (m:Int) (r c:Nat) (d:List Int):Nat:=(dM m r (fY c d) c).2.1.length
def sI (m:Int) (r c:Nat) (d:List Int):List Int:=aB r (lG m r c d) (nq (fY c d) (dM m r (fY c d) c).2.1)
def yf (m:Int) (r c:Nat) (d:List Int):List Int:=aB (lG m r c d) c (dM m r (fY c d) c).1
def acY (s:fH):Prop:=(0<=s.1/\s.1<=4096)/\(0<=s.2.1/\s.2.1<=4096)/\(0<=s.2.2.1/\s.2.2.1<=4096)
instance (s:fH):Decidable (acY s):=by unfold acY;infer_instance
theorem aej {m:Int} {r c:Nat} {d:List Int} (hl:d.length=r*c) (h:iw m d):fC m r c (fY c d):=by
 rw[<-pH,AM hl];exact h
theorem aqp {r c k:Nat} (M:bR) (hk:k<=r):(aB r c M).take (k*c)=aB k c M:=by
 unfold aB
 rw[<-List.map_take,List.take_range,Nat.min_eq_left (Nat.mul_le_mul_right _ hk)]
theorem Iy {m:Int} {r c:Nat} {d:List Int} (hm:eo m) (hl:d.length=r*c) (hd:iw m d):
  yg (m,(r:Int),(c:Int),d)=(((r:Int),(lG m r c d:Int),sI m r c d),((lG m r c d:Int),(c:Int),yf m r c d))/\lG m r c d<=r/\lG m r c d<=c/\
  (sI m r c d).length=r*lG m r c d/\iw m (sI m r c d)/\(yf m r c d).length=lG m r c d*c/\iw m (yf m r c d):=by
 have hM:=aej hl hd
 have hI:=B2 hm hM (r:=r) (c:=c) c
 have h1:lG m r c d<=r:=hI.l
 refine⟨?_,h1,hI.lj,mz _ _ _,?_,mz _ _ _,?_⟩
 ·simp only[yg,nt,Int.toNat_natCast]
  rw[aqp _ hI.l]
  rfl
 ·unfold sI
  rw[pH]
  intro i hi t ht
  exact hM i hi _ (Sg hI.e ht).2
 ·unfold yf
  rw[pH]
  exact fun i hi j hj=>hI.m i (by omega) j hj
theorem aho {m:Int} {r c:Nat} {d:List Int} (hm:eo m) (hr:r<=4096) (hc:c<=4096) (db:r*c<=1048576) (hl:d.length=r*c) (hd:iw m d):
  Ab (m,(r:Int),(c:Int),d)=some (((r:Int),(lG m r c d:Int),sI m r c d),((lG m r c d:Int),(c:Int),yf m r c d)):=by
 rw[<-(Iy hm hl hd).1]
 refine if_pos ⟨hm,⟨⟨by simp only;omega,by simp only;omega⟩,⟨by simp only;omega,by simp only;omega⟩,?_,by simp only;omega⟩,hd⟩
 simp only
 rw[hl];norm_cast
theorem ahn {m:Int} {r c:Nat} {d:List Int} (hp:eE m=true) (hc:c<=64) (hr:r<=4096) (hl:d.length=r*c) (hd:iw m d):
  tA (m,(r:Int),(c:Int),d)=some (if r<=64 then(((r:Int),(lG m r c d:Int),sI m r c d),((lG m r c d:Int),(c:Int),yf m r c d),true) else((0,0,[]),(0,0,[]),false)):=by
 have hm:=jT hp
 have db:r*c<=4096*64:=Nat.mul_le_mul hr hc
 have e:o9 m ((r:Int),(c:Int),d)=decide (r<=64):=by
  have eS:nv m d=true:=List.all_eq_true.2 fun x hx=>decide_eq_true (hd x hx)
  have e3:(d.length:Int)=(r:Int)*(c:Int):=by rw[hl];norm_cast
  simp only[o9,hp,eS,e3,decide_true,Bool.true_and,Bool.and_true]
  rw[decide_eq_true (p:=0<=(c:Int)/\(c:Int)<=64) (by omega),Bool.and_true]
  by_cases h:r<=64
  ·rw[decide_eq_true h,decide_eq_true (by omega)]
  ·rw[decide_eq_false h,decide_eq_false (by omega)]
 simp only[tA,K3]
 rw[if_pos (by show d.length<=_;omega),e,(Iy hm hl hd).1]
 by_cases h:r<=64
 ·rw[if_pos h,if_pos (decide_eq_true h)]
 ·rw[if_neg h,if_neg (by rw[decide_eq_false h];simp)]
theorem acS {m:Int} {b p c:Nat} {d:List Int} (hb:b<=32) (hc:c<=32) (hp:1<=p/\p<=8) (hl:d.length=b*p*c) (hd:iw m d):rW m ((b:Int),(p:Int),(c:Int),d)=true:=by
 have eS:nv m d=true:=List.all_eq_true.2 fun x hx=>decide_eq_true (hd x hx)
 have e3:(d.length:Int)=(b:Int)*(p:Int)*(c:Int):=by rw[hl];norm_cast
 simp only[rW,eS,e3,decide_true,Bool.and_true,Bool.and_eq_true,decide_eq_true_eq]
 omega
theorem IA {S α:Type} (step:Nat->S->α->Option S) (I:Nat->S->Prop) (es:List α):∀(l:List α) (i:Nat) (s s':S),I i s->(∀k s a s',l[k - i]? =some a->i<=k->I k s->step k s a=some s'->I (k+1) s')->dZ step i s l=some s'->I (i+l.length) s'
 |[],i,s,s',h,_,e=>by simp only[dZ] at e;injection e with e;subst e;exact h
 |a::l,i,s,s',h,hs,e=>by
  simp only[dZ] at e
  cases cq:step i s a with
  |none=>rw[cq] at e;cases e
  |some s1=>
   rw[cq] at e
   have:=IA step I es l (i+1) s1 s' (hs i s a s1 (by simp) (Nat.le_refl _) h cq) (fun k s b s' hb hk hI cq=>hs k s b s' (by rw[show k - i=(k - (i+1))+1 by omega];simpa using hb) (by omega) hI cq) e
   rw[List.length_cons,show i+(l.length+1)=i+1+l.length by omega]
   exact this
end Go.Am
end
section
namespace Go.Am
def Xk (m:Int) (s t:fH) (x:Int×Int×List Int):Prop:=x.1=s.2.1*t.2.1/\x.2.1=s.2.1*t.2.1/\s.1*s.2.1<=64/\t.2.1*t.2.2.1<=64
instance (m:Int) (s t:fH) (x:Int×Int×List Int):Decidable (Xk m s t x):=by unfold Xk;infer_instance
end Go.Am
end
section
namespace Go.Am
section
variable {A1 A2 A3 A4 A5 X Y Z T ρ:Type}
end
section
variable {p:Int} {n:Nat} {a b:List Int} {ms:List jd} {N k:Nat}
end
section
variable {p:Int} {n:Nat} {a b:List Int} {ms:List jd} {N k:Nat}
theorem yi {α:Type} (l r:List α):ae 0 (aC (J l) (J r)) (J (dP l r))=some ():=yj (by simp[aC,J,dP])
end
end Go.Am
end
section
namespace Go.Am
def GD:ai:=[(.agg,[.int .i64,.int .i64,.int .i64]),(.agg,[.list [.int .i64],.list [.int .i64],.list [.int .i64]]),(.one,[.list [.int .i64]])]
def S7:ai:=[(.agg,[.list [.int .i64],.list [.int .i64],.list [.int .i64]])]
def ak7:aN:=[]
def Lo (NN:Nat):((Int×(Int×Int))×(((List Int)×((List Int)×(List Int)))×(List Int)))->(Option ((List Int)×((List Int)×(List Int)))):=
 (fun(((i0,i1,i2),(l3,l4,l5),l6):((Int×(Int×Int))×(((List Int)×((List Int)×(List Int)))×(List Int))))=>
 (nF l6).U (fun l7=>
 (qB (aI (J l6)) (aI (J l6)) 8).U (fun k8=>
 bD ((ae 0 0 (J (([]:List Int)))).U (fun _=>
 (ae 0 0 (J (([]:List Int)))).U (fun _=>
 (ae 0 0 (J (([]:List Int)))).U (fun _=>
 (ae 0 (J l7) (J l7)).U (fun _=>
 (ae 0 k8 (J (dN k8 (0:Int)))).U (fun _=>
 (ae 0 0 (J (([]:List Int)))).U (fun _=>
 bu NN (fun(((l9,eW,cT,cZ),(cU,ca,kH),(dS,c8,iq),d7,fx,cM,ju,mK,fE):(((List Int)×((List Int)×(Int×Int)))×((Int×(Int×Int))×(((List Int)×((List Int)×(List Int)))×((List Int)×((List Int)×((List Int)×((List Int)×((List Int)×(List Int))))))))))=>
 ak (bd cZ cT)
 ((dd eW cZ).U (fun qh=>
 (zH ((dS,c8,iq),qh)).U (fun yI=>
 (dd c8 yI).U (fun lM=>
 (da cZ (J mK)).U (fun yU=>
 (bY mK (aC 0 yU)).U (fun oW=>
 (ae 0 (J d7) (J d7)).U (fun _=>
 (ae 0 (J fx) (J fx)).U (fun _=>
 (ae 0 (J cM) (J cM)).U (fun _=>
 (ae 0 (J ju) (J ju)).U (fun _=>
 (ae 0 (J mK) (J (bg mK (aC 0 yU) lM))).U (fun _=>
 (ae 0 (J fE) (J fE)).U (fun _=>
 some (Sum.inl ((l9,eW,cT,aU .i64 cZ 1),(cU,ca,kH),(dS,c8,iq),d7,fx,cM,ju,bg mK (aC 0 yU) lM,fE))))))))))))))
 (((ae 0 (J d7) (J d7)).U (fun _=>
 (ae 0 (J fx) (J fx)).U (fun _=>
 (ae 0 (J cM) (J cM)).U (fun _=>
 (ae 0 (J ju) (J ju)).U (fun _=>
 (ae 0 (J mK) (J mK)).U (fun _=>
 (ae 0 (J fE) (J fE)).U (fun _=>
 some (Sum.inl (l9,(cU,ca,kH),(dS,c8,iq),d7,fx,cM,ju,mK,fE))))))))).U (fun nZ=>
 some (Sum.inr nZ))))
 ((l6,l6,aI (J l6),(0:Int)),(i0,i1,i2),(l3,l4,l5),([]:List Int),([]:List Int),([]:List Int),l7,dN k8 (0:Int),([]:List Int)))))))))
 (fun(n3,(gv,gK,qi),(tf,kK,rL),hJ,iG,iZ,kL,tg,ja)=>
 (zR ((tf,kK,rL),n3)).U (fun km=>
 (qB (aI (J n3)) (aI (J n3)) 8).U (fun P8=>
 (ae 0 (J km) (J km)).U (fun _=>
 (ae 0 P8 (J (dN P8 (0:Int)))).U (fun _=>
 (ae 0 (J hJ) (J hJ)).U (fun _=>
 (ae 0 (J iG) (J iG)).U (fun _=>
 (ae 0 (J iZ) (J iZ)).U (fun _=>
 (ae 0 (J kL) (J kL)).U (fun _=>
 (ae 0 (J tg) (J tg)).U (fun _=>
 (ae 0 (J ja) (J ja)).U (fun _=>
 bu NN (fun(((nV,rI,uL),(gN,lQ,rM),nh,fo,gd,iH,iI,jw,yY,qv):((Int×(Int×Int))×(((List Int)×((List Int)×(List Int)))×((List Int)×((List Int)×((List Int)×((List Int)×((List Int)×((List Int)×((List Int)×(List Int)))))))))))=>
 (cd yY 0 (J yY)).U (fun Br=>
 (cd qv 0 (J qv)).U (fun Bt=>
 (zJ (Br,Bt)).U (fun s6=>
 (xG ((nV,rI,uL),(gN,lQ,rM),s6)).U (fun Bu=>
 (ae 0 (J jw) (J jw)).U (fun _=>
 (jL (aC (J jw) (J Bu)) 8).U (fun _=>
 (cd iI 0 (J iI)).U (fun l64=>
 (ae 0 (J qv) (J qv)).U (fun _=>
 (vn (l64,qv)).U (fun(b65,Bv)=>
 ak (cC b65)
 (((c9 iH (J iH)).U (fun wM=>
 (c9 iI (J iI)).U (fun n5=>
 (c9 (dP jw Bu) (aC (J jw) (J Bu))).U (fun qw=>
 some (wM,n5,qw))))).U (fun((jU,kN,mM):((List Int)×((List Int)×(List Int))))=>
 some (Sum.inr (jU,kN,mM))))
 ((ae 0 (J yY) (J yY)).U (fun _=>
 (ae 0 (J qv) (J Bv)).U (fun _=>
 (ae 0 (J nh) (J nh)).U (fun _=>
 (ae 0 (J fo) (J fo)).U (fun _=>
 (ae 0 (J gd) (J gd)).U (fun _=>
 (ae 0 (J iH) (J iH)).U (fun _=>
 (ae 0 (J iI) (J iI)).U (fun _=>
 (ae 0 (aC (J jw) (J Bu)) (J (dP jw Bu))).U (fun _=>
 some (Sum.inl ((nV,rI,uL),(gN,lQ,rM),nh,fo,gd,iH,iI,dP jw Bu,yY,Bv)))))))))))))))))))))
 ((gv,gK,qi),(tf,kK,rL),hJ,iG,iZ,kL,tg,ja,km,dN P8 (0:Int))))))))))))))))
theorem FD {r:Rg} {L D A:List Int} (h:gQ r (L,D,A)=true):mY L D=true/\c7 D<=4096:=by
 simp only[gQ,Bool.and_eq_true,decide_eq_true_eq] at h
 obtain⟨h1,h2,h3,h4⟩:=h
 by_cases ha:mY L D=true/\c7 D<=4096
 ·exact ha
 ·have e:gR L D= -1:=if_neg ha
  rw[e] at h2
  exact absurd h2 (by decide)
theorem abN {D:List Int} (hl:D.length<=1048576) (hd:∀x∈D,1<=x/\x<=8) (hp:cv D<=4096):oA (D,4096)=some ((cv D:Nat):Int):=by
 have hI:=BZ (D:=D) fun x hx=>(hd x hx).1
 have e:sB 4096 D=((cv D:Nat):Int):=by
  unfold sB
  rw[CX (by decide) _ 0 1 (fun x hx=>(hd x hx).1) (by decide) (by decide),Int.one_mul,hI,Int.min_eq_left (by omega)]
 rw[<-e]
 exact if_pos ⟨by decide,hl,List.all_eq_true.2 fun v hv=>by have:=hd v hv;exact decide_eq_true (by omega)⟩
theorem Mu (r:Rg) (A:List Int) (off:Nat->Nat):∀n,(iy r A off n).length<=n*bw r
 |0=>by simp[iy]
 |n+1=>by
  have ih:=Mu r A off n
  unfold iy
  rw[List.length_append,Nat.add_mul,Nat.one_mul]
  have:(fe A (off n*bw r) (bw r)).length<=bw r:=by unfold fe;rw[List.length_take];omega
  omega
theorem anp {L D S:List Int} (I:gE L D S) (n:Nat):sN (fun i=>((dK (cl L D S) n).getD i 0).toNat*((ov L D S).getD i 0).toNat) (ov L D S).length=eX L D S n:=by
 rw[show(ov L D S).length=S.length from ia _ _]
 unfold eX
 refine T4 _ fun i hi=>?_
 rw[aah (by unfold cl;rw[ia];exact hi)]
 unfold gP
 rw[BW I.nS hi]
 congr 1
 unfold ov
 rw[List.getD_eq_getElem?_getD,qM _ hi]
 exact Int.toNat_natCast _
theorem ap8 {L D S:List Int} (I:gE L D S) (hp:cv D<=4096):rY (ov L D S) 1048576:=by
 refine⟨by unfold ov;rw[ia,I.Cg];exact I.dk,fun x hx=>?_⟩
 obtain⟨i,hi,rfl⟩:=List.mem_map.1 hx
 have h1:=I.tM (List.mem_range.1 hi)
 have:=Wm I.jK (i:=bQ L (S.getD i 0)+1) (by have:=I.len;omega)
 omega
theorem aiL {L D S:List Int} (I:gE L D S) (n:Nat):rY (dK (cl L D S) n) 8:=by
 refine⟨by unfold dK cl;rw[ia,ia,I.Cg];exact I.dk,fun x hx=>?_⟩
 obtain⟨i,hi,rfl⟩:=List.mem_map.1 hx
 have hi:i<S.length:=by have:=List.mem_range.1 hi;unfold cl at this;rwa[ia] at this
 have h1:=I.Yb n hi
 have h2:=I.sF _ (pZ (l:=D) (i:=bQ L (S.getD i 0)) (by have:=I.tM hi;have:=I.len;omega))
 omega
theorem Xe {L D A S:List Int} (I:gE L D S) {i:Nat} (hi:i<S.length):pT L (S.getD i 0)=((bQ L (S.getD i 0):Nat):Int):=if_pos (I.tM hi)
def zd (L D S:List Int) (j:Nat) (i:Nat):Int:=if i<j then D.getD (bQ L (S.getD i 0)) 0 else 0
theorem agx (x:Rg×T3×List Int) (y:T3) (h:zO x=some y):Lo az x=some y:=by
 obtain⟨⟨k,p,m⟩,⟨L,D,A⟩,S⟩:=x
 simp only[zO,vz] at h
 split at h
 ·rename_i hc
  rw[<-h]
  obtain⟨ht,hS⟩:=hc
  try dsimp only at ht hS
  have ym:=(FD ht).1
  have I:=gE.mk' ym hS
  obtain⟨hr,⟨hl,hd⟩,D8,⟨uB,jo⟩,hA,hD,jk,hpI,_⟩:=Wq ht
  have hw:=zA hr
  have vU:=I.dk
  have Pb:=I.len
  have fV:=I.Cg
  have wm:=I.prod
  have DC:=I.Yd
  have fk:(cl L D S).length=S.length:=ia _ _
  simp only[Lo]
  rw[show nF S=some S from if_pos (by omega)]
  simp only[aG]
  rw[y6 (by simp only[J,dA];omega)]
  simp only[aG,bW]
  rw[show ae 0 0 (J ([]:List Int))=some () from rfl,show ae 0 (J S) (J (dN (J S) (0:Int)))=some () from yj (by simp[J,dN])]
  simp only[aG]
  rw[ef (r:=Sum.inl (S,(k,p,m),(L,D,A),([]:List Int),([]:List Int),([]:List Int),S,cl L D S,([]:List Int))) (fun j=>((S,S,(S.length:Int),(j:Int)),(k,p,m),(L,D,A),([]:List Int),([]:List Int),([]:List Int),S,ci S.length (zd L D S j),([]:List Int))) S.length ?a1 ?a2 ?a3 (cX (by omega))]
  case a3=>
   rw[Sx]
   rfl
  case a2=>
   dsimp only
   rw[aK (cP (by omega))]
   try simp only[bW,aG]
   rw[show ci S.length (zd L D S S.length)=cl L D S from kt fun i hi=>if_pos hi]
  case a1=>
   intro i hi
   dsimp only
   have cg:=I.tM hi
   rw[aH (df (by omega)),dj,oO hi]
   simp only[aG]
   rw[show zH ((L,D,A),S.getD i 0)=some (pT L (S.getD i 0)) from if_pos (by dsimp only;omega),Xe (A:=A) I hi]
   simp only[aG]
   rw[dj,oO (l:=D) (i:=bQ L (S.getD i 0)) (by omega)]
   simp only[aG]
   rw[HV _ hi]
   simp only[aG,eZ]
   rw[DB _ hi]
   simp only[aG,bW]
   rw[EU,show ae 0 (J (ci S.length (zd L D S i))) (J (ci S.length fun q=>if q=i then D.getD (bQ L (S.getD i 0)) 0 else zd L D S i q))=some () from AL _ _ _]
   simp only[aG]
   rw[eK (by omega) (by omega)]
   rw[show ci S.length (fun q=>if q=i then D.getD (bQ L (S.getD i 0)) 0 else zd L D S i q)=ci S.length (zd L D S (i+1)) from kt fun q hq=>by
    unfold zd
    by_cases mD:q=i
    ·subst mD;rw[if_pos rfl,if_pos (by omega)]
    ·rw[if_neg mD]
     by_cases bB:q<i
     ·rw[if_pos bB,if_pos (by omega)]
     ·rw[if_neg bB,if_neg (by omega)]]
   rfl
  simp only[bD,Option.bind]
  rw[show zR ((L,D,A),S)=some (ov L D S) from if_pos ⟨ym,hS,jo⟩]
  simp only[aG]
  rw[y6 (by simp only[J,dA];omega)]
  simp only[aG,bW]
  rw[show ae 0 (J S) (J (dN (J S) (0:Int)))=some () from yj (by simp[J,dN])]
  simp only[aG]
  have ah0:dN (J S) (0:Int)=dK (cl L D S) 0:=by
   have:=aiK DC
   rw[show J (cl L D S)=J S from fk] at this
   exact this
  have I7:∀n,n<cv D->zJ (ov L D S,dK (cl L D S) n)=some ((eX L D S n:Nat):Int)/\xG ((k,p,m),(L,D,A),((eX L D S n:Nat):Int))=some (fe A (eX L D S n*bw (k,p,m)) (bw (k,p,m)))/\
    jL (aC (J (iy (k,p,m) A (eX L D S) n)) (J (fe A (eX L D S n*bw (k,p,m)) (bw (k,p,m))))) 8=some ()/\vn (cl L D S,dK (cl L D S) n)=some (decide (n+1<cv D),dK (cl L D S) (n+1)):=by
   intro n hn
   have ho:=I.R9 n
   refine⟨?_,?_,?_,?_⟩
   ·rw[<-anp I n]
    exact if_pos ⟨ap8 I jo,aiL I n,by show(ov L D S).length=(dK (cl L D S) n).length;unfold ov dK;rw[ia,ia,fk]⟩
   ·have h1:(eX L D S n+1)*bw (k,p,m)<=cv D*bw (k,p,m):=Nat.mul_le_mul_right _ ho
    have h2:cv D*bw (k,p,m)<=4096*6:=Nat.mul_le_mul jo hw.2.2
    rw[show xG ((k,p,m),(L,D,A),((eX L D S n:Nat):Int))=_ from if_pos ⟨hr,by dsimp only;omega,by dsimp only;rw[Int.toNat_natCast];omega,by dsimp only;omega⟩]
    rfl
   ·have h1:=Mu (k,p,m) A (eX L D S) n
    have h2:n*bw (k,p,m)<=4096*6:=Nat.mul_le_mul (by omega) hw.2.2
    have h3:(fe A (eX L D S n*bw (k,p,m)) (bw (k,p,m))).length<=6:=by unfold fe;rw[List.length_take];omega
    exact nO (by simp only[aC,J,dA];omega)
   ·have:=ani DC (n:=n) (by rw[wm];exact hn) (by rw[wm];omega)
    rw[wm] at this
    exact this
  rw[ah0]
  rw[ef (r:=w4 (k,p,m) (L,D,A) S) (fun n=>((k,p,m),(L,D,A),([]:List Int),([]:List Int),([]:List Int),S,cl L D S,iy (k,p,m) A (eX L D S) n,ov L D S,dK (cl L D S) n)) (cv D - 1) ?b1 ?b2 ?b3 (cX (by omega))]
  case b3=>rfl
  case b2=>
   obtain⟨q1,q2,q3,q4⟩:=I7 (cv D - 1) (by omega)
   dsimp only
   simp only[ky,bW,aG]
   rw[q1]
   simp only[aG]
   rw[q2]
   simp only[aG]
   rw[q3]
   simp only[aG]
   rw[q4]
   simp only[aG]
   rw[decide_eq_false (by omega),aH (b:=cC false) rfl]
   simp only[gO,aG]
   rw[Wo (by simp[aC,J,dP])]
   simp only[aG]
   show some (Sum.inr (S,cl L D S,iy (k,p,m) A (eX L D S) (cv D - 1)++fe A (eX L D S (cv D - 1)*bw (k,p,m)) (bw (k,p,m))))=some (Sum.inr (S,cl L D S,iy (k,p,m) A (eX L D S) (cv (cl L D S))))
   rw[wm]
   obtain⟨N,hN⟩:∃N,cv D=N+1:=⟨cv D - 1,by omega⟩
   rw[hN]
   rfl
  case b1=>
   intro n hn
   obtain⟨q1,q2,q3,q4⟩:=I7 n (by omega)
   dsimp only
   simp only[ky,bW,aG]
   rw[q1]
   simp only[aG]
   rw[q2]
   simp only[aG]
   rw[q3]
   simp only[aG]
   rw[q4]
   simp only[aG]
   rw[decide_eq_true (by omega),aK (b:=cC true) rfl]
   rw[show ae 0 (J (dK (cl L D S) n)) (J (dK (cl L D S) (n+1)))=some () from by unfold dK;exact AL _ _ _]
   simp only[aG]
   rw[yi]
   rfl
 ·cases h
end Go.Am
end
section
namespace Go.Am
def Hr:ai:=[(.agg,[.int .i64,.int .i64,.int .i64]),(.agg,[.list [.int .i64],.list [.int .i64],.list [.int .i64]]),(.one,[.list [.int .i64]])]
def TQ:ai:=[(.agg,[.list [.int .i64],.list [.int .i64],.list [.int .i64]])]
def alJ:aN:=[]
def Hc:ai:=[(.agg,[.int .i64,.int .i64,.int .i64]),(.agg,[.list [.int .i64],.list [.int .i64],.list [.int .i64]])]
def TC:ai:=[(.agg,[.list [.int .i64],.list [.int .i64],.list [.int .i64]])]
def alw:aN:=[]
def Gm:ai:=[(.agg,[.int .i64,.int .i64,.int .i64]),(.agg,[.list [.int .i64],.list [.int .i64],.list [.int .i64]])]
def SQ:ai:=[(.agg,[.list [.int .i64],.list [.int .i64],.list [.int .i64]])]
def akT:aN:=[]
def L5 (NN:Nat):((Int×(Int×Int))×(((List Int)×((List Int)×(List Int)))×(List Int)))->(Option ((List Int)×((List Int)×(List Int)))):=
 (fun(((i0,i1,i2),(l3,l4,l5),l6):((Int×(Int×Int))×(((List Int)×((List Int)×(List Int)))×(List Int))))=>
 bD ((ae 0 0 (J (([]:List Int)))).U (fun _=>
 (ae 0 0 (J (([]:List Int)))).U (fun _=>
 (ae 0 0 (J (([]:List Int)))).U (fun _=>
 (ae 0 0 (J (([]:List Int)))).U (fun _=>
 (ae 0 0 (J (([]:List Int)))).U (fun _=>
 bu NN (fun(((l7,l8,i9,cr),(cT,cZ,cU),(e9,de,dS),c8,iq,d7,fx,cM):(((List Int)×((List Int)×(Int×Int)))×((Int×(Int×Int))×(((List Int)×((List Int)×(List Int)))×((List Int)×((List Int)×((List Int)×((List Int)×(List Int)))))))))=>
 ak (bd cr i9)
 ((dd l8 cr).U (fun g9=>
 (tC (e9,g9)).U (fun jq=>
 (ae 0 (J cM) (J cM)).U (fun _=>
 (cd ((jq::([]:List Int))) 0 1).U (fun fE=>
 (jL (aC (J cM) (J fE)) 8).U (fun _=>
 (dd de jq).U (fun qh=>
 (ae 0 (J fx) (J fx)).U (fun _=>
 (cd ((qh::([]:List Int))) 0 1).U (fun dr=>
 (jL (aC (J fx) (J dr)) 8).U (fun _=>
 (ae 0 (aC (J fx) (J dr)) (J (dP fx dr))).U (fun _=>
 (ae 0 (aC (J cM) (J fE)) (J (dP cM fE))).U (fun _=>
 (ae 0 (J c8) (J c8)).U (fun _=>
 (ae 0 (J iq) (J iq)).U (fun _=>
 (ae 0 (J d7) (J d7)).U (fun _=>
 some (Sum.inl ((l7,l8,i9,aU .i64 cr 1),(cT,cZ,cU),(e9,de,dS),c8,iq,d7,dP fx dr,dP cM fE)))))))))))))))))
 (((ae 0 (J fx) (J fx)).U (fun _=>
 (ae 0 (J cM) (J cM)).U (fun _=>
 (ae 0 (J c8) (J c8)).U (fun _=>
 (ae 0 (J iq) (J iq)).U (fun _=>
 (ae 0 (J d7) (J d7)).U (fun _=>
 some (Sum.inl (l7,(cT,cZ,cU),(e9,de,dS),c8,iq,d7,fx,cM)))))))).U (fun gL=>
 some (Sum.inr gL))))
 ((l6,l6,aI (J l6),(0:Int)),(i0,i1,i2),(l3,l4,l5),([]:List Int),([]:List Int),([]:List Int),([]:List Int),([]:List Int))))))))
 (fun(gy,(oW,mG,jS),(Ep,n4,kl),tf,kK,rL,hJ,iG)=>
 (nG gy).U (fun iZ=>
 (qB (aI (J iG)) (aI (J iG)) 8).U (fun P7=>
 bD ((ae 0 (J hJ) (J hJ)).U (fun _=>
 (ae 0 (J iG) (J iG)).U (fun _=>
 (ae 0 P7 (J (dN P7 (0:Int)))).U (fun _=>
 (ae 0 (J tf) (J tf)).U (fun _=>
 (ae 0 (J kK) (J kK)).U (fun _=>
 (ae 0 (J rL) (J rL)).U (fun _=>
 (ae 0 (J iZ) (J iZ)).U (fun _=>
 (ae 0 (J hJ) (J hJ)).U (fun _=>
 (ae 0 0 (J (([]:List Int)))).U (fun _=>
 bu NN (fun((mJ,(nf,rH,s0),(jv,gM,kM),gN,lQ,rM,nh,fo,gd,iH,iI):(Int×((Int×(Int×Int))×(((List Int)×((List Int)×(List Int)))×((List Int)×((List Int)×((List Int)×((List Int)×((List Int)×((List Int)×((List Int)×(List Int))))))))))))=>
 (cd fo 0 (J fo)).U (fun jw=>
 (oA (jw,(4096:Int))).U (fun wE=>
 ak (bd mJ wE)
 (bD ((cd fo 0 (J fo)).U (fun qv=>
 (z9 (qv,mJ)).U (fun Br=>
 bD ((ae 0 (J fo) (J fo)).U (fun _=>
 (ae 0 (J iH) (J iH)).U (fun _=>
 (ae 0 (J iI) (J iI)).U (fun _=>
 (ae 0 (J Br) (J Br)).U (fun _=>
 (ae 0 (J gN) (J gN)).U (fun _=>
 (ae 0 (J lQ) (J lQ)).U (fun _=>
 (ae 0 (J rM) (J rM)).U (fun _=>
 (ae 0 (J nh) (J nh)).U (fun _=>
 (ae 0 (J fo) (J fo)).U (fun _=>
 (ae 0 (J gd) (J gd)).U (fun _=>
 bu NN (fun(((Bi,s6,qn),(i64,s7,wF),(wM,n5,qw),jU,kN,mM,qx,ni,th,wN,uU,Er):((Int×(Int×Int))×((Int×(Int×Int))×(((List Int)×((List Int)×(List Int)))×((List Int)×((List Int)×((List Int)×((List Int)×((List Int)×((List Int)×((List Int)×((List Int)×(List Int)))))))))))))=>
 ak (bd qn s6)
 ((da qn (J Er)).U (fun k79=>
 (bY Er (aC 0 k79)).U (fun ki=>
 (da qn (J wN)).U (fun k81=>
 (bY wN (aC 0 k81)).U (fun uQ=>
 (da uQ (J uU)).U (fun Qb=>
 (bY uU (aC 0 Qb)).U (fun Bj=>
 (ae 0 (J ni) (J ni)).U (fun _=>
 (ae 0 (J wN) (J wN)).U (fun _=>
 (ae 0 (J uU) (J (bg uU (aC 0 Qb) ki))).U (fun _=>
 (ae 0 (J Er) (J Er)).U (fun _=>
 (ae 0 (J jU) (J jU)).U (fun _=>
 (ae 0 (J kN) (J kN)).U (fun _=>
 (ae 0 (J mM) (J mM)).U (fun _=>
 (ae 0 (J qx) (J qx)).U (fun _=>
 (ae 0 (J ni) (J ni)).U (fun _=>
 (ae 0 (J th) (J th)).U (fun _=>
 some (Sum.inl ((Bi,s6,aU .i64 qn 1),(i64,s7,wF),(wM,n5,qw),jU,kN,mM,qx,ni,th,wN,bg uU (aC 0 Qb) ki,Er)))))))))))))))))))
 (((ae 0 (J ni) (J ni)).U (fun _=>
 (ae 0 (J wN) (J wN)).U (fun _=>
 (ae 0 (J uU) (J uU)).U (fun _=>
 (ae 0 (J jU) (J jU)).U (fun _=>
 (ae 0 (J kN) (J kN)).U (fun _=>
 (ae 0 (J mM) (J mM)).U (fun _=>
 (ae 0 (J qx) (J qx)).U (fun _=>
 (ae 0 (J ni) (J ni)).U (fun _=>
 (ae 0 (J th) (J th)).U (fun _=>
 some (Sum.inl (Bi,(i64,s7,wF),(wM,n5,qw),jU,kN,mM,qx,ni,th,wN,uU)))))))))))).U (fun Jp=>
 some (Sum.inr Jp))))
 ((mJ,aI (J Br),(0:Int)),(nf,rH,s0),(jv,gM,kM),gN,lQ,rM,nh,fo,gd,iH,iI,Br))))))))))))
 (fun(Bk,(uR,i88,i89),(n6,Bw,Bx),rN,yZ,Et,y3,uV,oZ,wO,yV)=>
 (cd yV 0 (J yV)).U (fun akk=>
 (Aa (Bw,akk)).U (fun Eb=>
 (tD ((uR,i88,i89),(n6,Bw,Bx),Eb)).U (fun aaE=>
 (ae 0 (J oZ) (J oZ)).U (fun _=>
 (cd aaE 0 (J aaE)).U (fun Jn=>
 (jL (aC (J oZ) (J Jn)) 8).U (fun _=>
 (ae 0 (J uV) (J uV)).U (fun _=>
 (ae 0 (J wO) (J wO)).U (fun _=>
 (ae 0 (J yV) (J yV)).U (fun _=>
 (ae 0 (J rN) (J rN)).U (fun _=>
 (ae 0 (J yZ) (J yZ)).U (fun _=>
 (ae 0 (J Et) (J Et)).U (fun _=>
 (ae 0 (J y3) (J y3)).U (fun _=>
 (ae 0 (J uV) (J uV)).U (fun _=>
 (ae 0 (aC (J oZ) (J Jn)) (J (dP oZ Jn))).U (fun _=>
 some (Sum.inl (Bk,(uR,i88,i89),(n6,Bw,Bx),rN,yZ,Et,y3,uV,dP oZ Jn,wO,yV)))))))))))))))))))))
 (fun(PJ,(aiz,aiA,aiB),(Qg,akl,akm),Qh,Qi,Bp,Bq,wL,Em,En,yX)=>
 (ae 0 (J wL) (J wL)).U (fun _=>
 (ae 0 (J En) (J En)).U (fun _=>
 (ae 0 (J yX) (J yX)).U (fun _=>
 (ae 0 (J Qh) (J Qh)).U (fun _=>
 (ae 0 (J Qi) (J Qi)).U (fun _=>
 (ae 0 (J Bp) (J Bp)).U (fun _=>
 (ae 0 (J Bq) (J Bq)).U (fun _=>
 (ae 0 (J wL) (J wL)).U (fun _=>
 (ae 0 (J Em) (J Em)).U (fun _=>
 some (Sum.inl (aU .i64 PJ 1,(aiz,aiA,aiB),(Qg,akl,akm),Qh,Qi,Bp,Bq,wL,Em,En,yX)))))))))))))
 (((ae 0 (J gN) (J gN)).U (fun _=>
 (ae 0 (J lQ) (J lQ)).U (fun _=>
 (ae 0 (J rM) (J rM)).U (fun _=>
 (ae 0 (J nh) (J nh)).U (fun _=>
 (ae 0 (J fo) (J fo)).U (fun _=>
 (ae 0 (J gd) (J gd)).U (fun _=>
 some (Sum.inl (gN,lQ,rM,nh,fo,gd))))))))).U (fun Eo=>
 some (Sum.inr Eo))))))
 ((0:Int),(oW,mG,jS),(Ep,n4,kl),tf,kK,rL,iZ,hJ,([]:List Int),iG,dN P7 (0:Int))))))))))))
 (fun(Jo,aaF,aaG,aaH,aaI,aaJ)=>
 (c9 aaH (J aaH)).U (fun akn=>
 (c9 aaI (J aaI)).U (fun ako=>
 (c9 aaJ (J aaJ)).U (fun aaK=>
 some (akn,ako,aaK)))))))))
def LQ (NN:Nat):((Int×(Int×Int))×((List Int)×((List Int)×(List Int))))->(Option ((List Int)×((List Int)×(List Int)))):=
 (fun(((i0,i1,i2),l3,l4,l5):((Int×(Int×Int))×((List Int)×((List Int)×(List Int)))))=>
 (si ((i0,i1,i2),l3,l4,l5)).U (fun b6=>
 ak (cC b6)
 (some (([]:List Int),([]:List Int),([]:List Int)))
 ((sj l3).U (fun l7=>
 (cd l7 0 (J l7)).U (fun l8=>
 (vz ((i0,i1,i2),(l3,l4,l5),l8)).U (fun(l9,eW,dz)=>
 (c9 l9 (J l9)).U (fun dk=>
 (c9 eW (J eW)).U (fun iF=>
 (c9 dz (J dz)).U (fun e9=>
 some (dk,iF,e9))))))))))
def La (NN:Nat):((Int×(Int×Int))×((List Int)×((List Int)×(List Int))))->(Option ((List Int)×((List Int)×(List Int)))):=
 (fun(((i0,i1,i2),l3,l4,l5):((Int×(Int×Int))×((List Int)×((List Int)×(List Int)))))=>
 (vm ((i0,i1,i2),l3,l4,l5)).U (fun b6=>
 ak (cC b6)
 (some (([]:List Int),([]:List Int),([]:List Int)))
 ((zQ l3).U (fun l7=>
 (cd l7 0 (J l7)).U (fun l8=>
 (zO ((i0,i1,i2),(l3,l4,l5),l8)).U (fun(l9,eW,dz)=>
 (c9 l9 (J l9)).U (fun dk=>
 (c9 eW (J eW)).U (fun iF=>
 (c9 dz (J dz)).U (fun e9=>
 some (dk,iF,e9))))))))))
def w6 (L D S:List Int) (n:Nat) (k:Nat):Int:=if n=0 then 0 else dw (cl L D S) (n - 1) (bQ S (L.getD k 0))
def tc (L D S:List Int) (n q:Nat) (k:Nat):Int:=if bQ S (L.getD k 0)<q then dw (cl L D S) n (bQ S (L.getD k 0)) else w6 L D S n k
def mb (L S:List Int) (j:Nat):List Int:=ci j fun i=>((bQ L (S.getD i 0):Nat):Int)
theorem ad3 {α:Type} (x:α):cd [x] 0 1=some [x]:=rfl
theorem ahc (x:Rg×T3×List Int) (y:T3) (h:vz x=some y):L5 az x=some y:=by
 obtain⟨⟨k,p,m⟩,⟨L,D,A⟩,S⟩:=x
 simp only[vz] at h
 split at h
 ·rename_i hc
  rw[<-h]
  obtain⟨ht,hS⟩:=hc
  try dsimp only at ht hS
  have ym:=(FD ht).1
  have I:=gE.mk' ym hS
  obtain⟨hr,⟨hl,hd⟩,D8,⟨uB,jo⟩,hA,hD,jk,hpI,_⟩:=Wq ht
  have hw:=zA hr
  have vU:=I.dk
  have Pb:=I.len
  have fV:=I.Cg
  have wm:=I.prod
  have DC:=I.Yd
  have fk:(cl L D S).length=S.length:=ia _ _
  simp only[L5]
  rw[show ae 0 0 (J ([]:List Int))=some () from rfl]
  simp only[aG]
  rw[ef (r:=Sum.inl (S,(k,p,m),(L,D,A),([]:List Int),([]:List Int),([]:List Int),cl L D S,mb L S S.length)) (fun j=>((S,S,(S.length:Int),(j:Int)),(k,p,m),(L,D,A),([]:List Int),([]:List Int),([]:List Int),ci j (fun i=>D.getD (bQ L (S.getD i 0)) 0),mb L S j)) S.length ?a1 ?a2 ?a3 (cX (by omega))]
  case a3=>rfl
  case a2=>
   dsimp only
   rw[aK (cP (by omega))]
   try simp only[bW,aG]
   rfl
  case a1=>
   intro i hi
   dsimp only
   have cg:=I.tM hi
   rw[aH (df (by omega)),dj,oO hi]
   simp only[aG]
   rw[show tC (L,S.getD i 0)=some (pT L (S.getD i 0)) from if_pos (by dsimp only;omega),Xe (A:=A) I hi]
   simp only[aG,bW,ad3]
   rw[nO (by show(aC (J (mb L S i)) 1)*8<=dA;unfold mb;rw[uW];simp only[aC,dA];omega)]
   simp only[aG]
   rw[dj,oO (l:=D) (i:=bQ L (S.getD i 0)) (by omega)]
   simp only[aG,ad3]
   rw[nO (by show(aC (J (ci i _)) 1)*8<=dA;rw[uW];simp only[aC,dA];omega)]
   simp only[aG]
   rw[yi,yi]
   simp only[aG]
   rw[eK (by omega) (by omega)]
   unfold mb
   rw[aca i fun i=>D.getD (bQ L (S.getD i 0)) 0,aca i fun i=>((bQ L (S.getD i 0):Nat):Int)]
   rfl
  simp only[bD,Option.bind]
  have aqT:(mb L S S.length).length=S.length:=ia _ _
  rw[show nG S=some S from if_pos (by omega)]
  simp only[aG]
  rw[y6 (by simp only[J,dA];omega)]
  simp only[aG,bW]
  rw[show ae 0 (J (mb L S S.length)) (J (dN (J (mb L S S.length)) (0:Int)))=some () from yj (by simp[J,dN])]
  try simp only[aG]
  try rw[show ae 0 0 (J ([]:List Int))=some () from rfl]
  try simp only[aG]
  have I7:∀n,n<cv D->Aa (D,po L D S n)=some ((eX L D S n:Nat):Int)/\tD ((k,p,m),(L,D,A),((eX L D S n:Nat):Int))=some (fe A (eX L D S n*bw (k,p,m)) (bw (k,p,m)))/\
    jL (aC (J (iy (k,p,m) A (eX L D S) n)) (J (fe A (eX L D S n*bw (k,p,m)) (bw (k,p,m))))) 8=some ():=by
   intro n hn
   have ho:=I.R9 n
   refine⟨?_,?_,?_⟩
   ·rw[<-I.off n]
    refine if_pos ⟨⟨hl,fun x hx=>by have:=hd x hx;omega⟩,⟨by show(po L D S n).length<=12;unfold po;rw[ia];omega,fun x hx=>?_⟩,by show D.length=(po L D S n).length;unfold po;rw[ia]⟩
    obtain⟨i,hi,rfl⟩:=List.mem_map.1 hx
    have hi:=List.mem_range.1 hi
    have h1:=I.abu n hi
    rw[I.Sb n hi] at h1
    have h2:=hd _ (pZ hi)
    omega
   ·have h1:(eX L D S n+1)*bw (k,p,m)<=cv D*bw (k,p,m):=Nat.mul_le_mul_right _ ho
    have h2:cv D*bw (k,p,m)<=4096*6:=Nat.mul_le_mul jo hw.2.2
    rw[show tD ((k,p,m),(L,D,A),((eX L D S n:Nat):Int))=_ from if_pos ⟨hr,by dsimp only;omega,by dsimp only;rw[Int.toNat_natCast];omega,by dsimp only;omega⟩]
    rfl
   ·have h1:=Mu (k,p,m) A (eX L D S) n
    have h2:n*bw (k,p,m)<=4096*6:=Nat.mul_le_mul (by omega) hw.2.2
    have h3:(fe A (eX L D S n*bw (k,p,m)) (bw (k,p,m))).length<=6:=by unfold fe;rw[List.length_take];omega
    exact nO (by simp only[aC,J,dA];omega)
  have hP:oA (cl L D S,4096)=some ((cv D:Nat):Int):=by
   rw[<-wm]
   exact abN DC.1 I.MY (by rw[wm];exact jo)
  rw[ef (r:=Sum.inl (([]:List Int),([]:List Int),([]:List Int),S,cl L D S,iy (k,p,m) A (eX L D S) (cv D))) (fun n=>((n:Int),(k,p,m),(L,D,A),([]:List Int),([]:List Int),([]:List Int),S,cl L D S,iy (k,p,m) A (eX L D S) n,mb L S S.length,ci D.length (w6 L D S n))) (cv D) ?b1 ?b2 ?b3 (cX (by omega))]
  case b3=>
   rw[Sx,show J (mb L S S.length)=D.length by show(mb L S S.length).length=_;omega]
   rfl
  case b2=>
   dsimp only
   simp only[ky,aG]
   rw[hP]
   simp only[aG]
   rw[aK (cP (by omega))]
   try simp only[bW,aG]
  case b1=>
   intro n hn
   obtain⟨q1,q2,q3⟩:=I7 n hn
   dsimp only
   simp only[ky,aG]
   rw[hP]
   simp only[aG]
   rw[aH (df (by omega)),show z9 (cl L D S,(n:Int))=some (dK (cl L D S) n) from if_pos ⟨DC,by dsimp only;omega,by dsimp only;omega⟩]
   simp only[aG,bW]
   have hil:(dK (cl L D S) n).length=S.length:=(ia _ _).trans fk
   rw[ef (r:=Sum.inl ((n:Int),(k,p,m),(L,D,A),([]:List Int),([]:List Int),([]:List Int),S,cl L D S,iy (k,p,m) A (eX L D S) n,mb L S S.length,ci D.length (w6 L D S (n+1)))) (fun q=>(((n:Int),(S.length:Int),(q:Int)),(k,p,m),(L,D,A),([]:List Int),([]:List Int),([]:List Int),S,cl L D S,iy (k,p,m) A (eX L D S) n,mb L S S.length,ci D.length (tc L D S n q),dK (cl L D S) n)) S.length ?c1 ?c2 ?c3 (cX (by omega))]
   case c3=>
    rw[show aI (J (dK (cl L D S) n))=(S.length:Int) by show((dK (cl L D S) n).length:Int)=_;rw[hil],show ci D.length (tc L D S n 0)=ci D.length (w6 L D S n) from kt fun j hj=>if_neg (by omega)]
    rfl
   case c2=>
    dsimp only
    rw[aK (cP (by omega))]
    try simp only[bW,aG]
    rw[show ci D.length (tc L D S n S.length)=ci D.length (w6 L D S (n+1)) from kt fun j hj=>by
     unfold tc w6
     rw[if_pos (I.aaC (by omega)),if_neg (by omega)]
     rfl]
   case c1=>
    intro q hq
    dsimp only
    have cg:=I.tM hq
    rw[aH (df (by omega)),pL (show q<J (dK (cl L D S) n) by show q<(dK (cl L D S) n).length;omega)]
    simp only[aG,eZ]
    rw[show bY (dK (cl L D S) n) q=some (dw (cl L D S) n q) from qM _ (by omega)]
    simp only[aG]
    rw[pL (show q<J (mb L S S.length) by show q<(mb L S S.length).length;omega)]
    simp only[aG,eZ]
    rw[show bY (mb L S S.length) q=some ((bQ L (S.getD q 0):Nat):Int) from qM _ hq]
    simp only[aG]
    rw[HV _ (show bQ L (S.getD q 0)<D.length by omega)]
    simp only[aG,eZ]
    rw[DB _ (show bQ L (S.getD q 0)<D.length by omega)]
    simp only[aG,bW]
    rw[EU,show ae 0 (J (ci D.length (tc L D S n q))) (J (ci D.length fun j=>if j=bQ L (S.getD q 0) then dw (cl L D S) n q else tc L D S n q j))=some () from AL _ _ _]
    simp only[aG]
    rw[eK (by omega) (by omega)]
    rw[show ci D.length (fun j=>if j=bQ L (S.getD q 0) then dw (cl L D S) n q else tc L D S n q j)=ci D.length (tc L D S n (q+1)) from kt fun j hj=>by
     have wa:=I.inv hq (show j<L.length by omega)
     by_cases e:j=bQ L (S.getD q 0)
     ·have e2:=wa.1 e.symm
      rw[if_pos e]
      unfold tc
      rw[if_pos (by omega),e2]
     ·have e2:bQ S (L.getD j 0)≠q:=fun e'=>e (wa.2 e').symm
      rw[if_neg e]
      unfold tc
      by_cases bB:bQ S (L.getD j 0)<q
      ·rw[if_pos bB,if_pos (by omega)]
      ·rw[if_neg bB,if_neg (by omega)]]
    rfl
   simp only[bD,Option.bind,ky,aG]
   have hold:ci D.length (w6 L D S (n+1))=po L D S n:=kt fun j hj=>by
    unfold w6
    rw[if_neg (by omega)]
    rfl
   rw[hold,q1]
   simp only[aG]
   rw[q2]
   simp only[aG,ky,bW]
   rw[q3]
   simp only[aG]
   rw[yi]
   simp only[aG,bW]
   rw[eK (by omega) (by omega)]
   rfl
  simp only[bD,Option.bind,gO,aG]
  show some (S,cl L D S,iy (k,p,m) A (eX L D S) (cv D))=some (S,cl L D S,iy (k,p,m) A (eX L D S) (cv (cl L D S)))
  rw[wm]
 ·cases h
theorem agZ (x:Rg×T3) (y:T3) (h:vu x=some y):LQ az x=some y:=by
 obtain⟨⟨k,p,m⟩,L,D,A⟩:=x
 simp only[vu] at h
 split at h
 ·rename_i hc
  rw[<-h]
  simp only[LQ]
  rw[show si ((k,p,m),L,D,A)=some (gQ (k,p,m) (L,D,A)) from if_pos hc]
  simp only[aG]
  unfold qQ
  cases ht:gQ (k,p,m) (L,D,A) with
  |false=>rw[aH (b:=cC false) rfl,if_neg (by simp)]
  |true=>
   have vU:=(tN (FD ht).1).1
   rw[aK (b:=cC true) rfl,if_pos rfl,show sj L=some (eQ L L.length) from if_pos vU]
   simp only[aG,ky]
   rw[show vz ((k,p,m),(L,D,A),eQ L L.length)=some (w4 (k,p,m) (L,D,A) (eQ L L.length)) from if_pos ⟨ht,rfl⟩]
   simp only[aG,w4,gO]
 ·cases h
theorem agi (x:Rg×T3) (y:T3) (h:zF x=some y):La az x=some y:=by
 obtain⟨⟨k,p,m⟩,L,D,A⟩:=x
 simp only[zF,vu] at h
 split at h
 ·rename_i hc
  rw[<-h]
  simp only[La]
  rw[show vm ((k,p,m),L,D,A)=some (gQ (k,p,m) (L,D,A)) from if_pos hc]
  simp only[aG]
  unfold qQ
  cases ht:gQ (k,p,m) (L,D,A) with
  |false=>rw[aH (b:=cC false) rfl,if_neg (by simp)]
  |true=>
   have vU:=(tN (FD ht).1).1
   rw[aK (b:=cC true) rfl,if_pos rfl,show zQ L=some (eQ L L.length) from if_pos vU]
   simp only[aG,ky]
   rw[show zO ((k,p,m),(L,D,A),eQ L L.length)=some (w4 (k,p,m) (L,D,A) (eQ L L.length)) from if_pos ⟨ht,rfl⟩]
   simp only[aG,w4,gO]
 ·cases h
end Go.Am
end
section
namespace Go.Am
abbrev iQ:=Nat×List Int×List fH
def cK (m:Int) (D:List Int) (i:Nat) (st:iQ):Nat:=lG m (st.1*(D.getD i 0).toNat) (bT D (i+1)) st.2.1
def tP (m:Int) (D:List Int) (i:Nat) (st:iQ):iQ:=
 (cK m D i st,yf m (st.1*(D.getD i 0).toNat) (bT D (i+1)) st.2.1,st.2.2++[((st.1:Int),D.getD i 0,(cK m D i st:Int),sI m (st.1*(D.getD i 0).toNat) (bT D (i+1)) st.2.1)])
def vI (D:List Int) (i:Nat) (st:iQ):Bool:=decide (st.1*(D.getD i 0).toNat<=64/\bT D (i+1)<=64)
def nM (m:Int) (D:List Int) (i:Nat) (st:iQ) (_:Nat):Option iQ:=if vI D i st=true then some (tP m D i st) else none
def lz (m:Int) (D:List Int) (i:Nat) (st:iQ) (_:Nat):Option iQ:=if vI D i st=true then(if cK m D i st<=32 then some (tP m D i st) else none) else none
def mN (D:List Int) (st:iQ):List fH:=st.2.2++[((st.1:Int),D.getD (D.length - 1) 0,1,st.2.1)]
def ra:(Int×List fH)×Bool:=((0,[]),false)
def AH (m:Int) (D:List Int) (st:iQ):(Int×List fH)×Bool:=if tR (m,mN D st)=true then((m,mN D st),true) else ra
def YS (m:Int) (D:List Int) (st:iQ):(Int×List fH)×Bool:=((m,mN D st),true)
def ruS (m:Int) (D A:List Int):(Int×List fH)×Bool:=match dZ (nM m D) 0 (1,A,[]) (List.range (D.length - 1)) with|some st=>AH m D st|none=>ra
def zk (m:Int) (D A:List Int):(Int×List fH)×Bool:=match dZ (lz m D) 0 (1,A,[]) (List.range (D.length - 1)) with|some st=>YS m D st|none=>ra
def Au (x:Int×T3):(Int×List fH)×Bool:=if gQ (2,x.1,0) x.2=true/\1<=x.2.1.length/\x.2.1.length<=8 then zk x.1 (qQ (2,x.1,0) x.2).2.1 (qQ (2,x.1,0) x.2).2.2 else ra
def vt:Int×T3->Option ((Int×List fH)×Bool):=fun x=>if x.2.1.length<=1048576/\x.2.2.1.length<=1048576/\x.2.2.2.length<=1048576 then some (Au x) else none
def xC:Int×T3->Option ((Int×List fH)×Bool):=vt
structure nE (m:Int) (D A:List Int):Prop where
 pr:eE m=true
 l1:1<=D.length
 l8:D.length<=8
 sF:∀x∈D,1<=x/\x<=8
 pn:cv D<=4096
 len:A.length=cv D
 el:iw m A
theorem Xs {r:Rg} {A:List Int} {off:Nat->Nat}:∀n,∀x∈iy r A off n,x∈A
 |0,x,hx=>by simp[iy] at hx
 |n+1,x,hx=>by
  unfold iy at hx
  rcases List.mem_append.1 hx with h|h
  ·exact Xs n x h
  ·exact List.mem_of_mem_drop (List.mem_of_mem_take h)
theorem Xr {r:Rg} {A:List Int} {off:Nat->Nat} {N:Nat} (hA:A.length=N*bw r) (ho:∀n,off n<N):∀n,(iy r A off n).length=n*bw r
 |0=>by simp[iy]
 |n+1=>by
  unfold iy
  rw[List.length_append,Xr hA ho n,Nat.add_mul,Nat.one_mul]
  have h1:(off n+1)*bw r<=N*bw r:=Nat.mul_le_mul_right _ (ho n)
  rw[Nat.add_mul,Nat.one_mul] at h1
  unfold fe
  rw[List.length_take,List.length_drop]
  omega
theorem V3 {p:Int} {L D A:List Int} (ht:gQ (2,p,0) (L,D,A)=true) (h1:1<=L.length) (h8:L.length<=8):nE p (qQ (2,p,0) (L,D,A)).2.1 (qQ (2,p,0) (L,D,A)).2.2:=by
 have ym:=(FD ht).1
 have I:=gE.mk' ym (S:=eQ L L.length) rfl
 obtain⟨hr,_,_,⟨_,jo⟩,hA,_,_,_,lJ⟩:=Wq ht
 have e:qQ (2,p,0) (L,D,A)=w4 (2,p,0) (L,D,A) (eQ L L.length):=if_pos ht
 have yB:eE p=true:=by
  have:iv (2,p,0)=(eE p&&decide ((0:Int)=0)):=rfl
  rw[this,Bool.and_eq_true] at hr
  exact hr.1
 have hl:(cl L D (eQ L L.length)).length=L.length:=by unfold cl;rw[ia,vf]
 rw[e]
 refine⟨yB,by show 1<=(cl L D (eQ L L.length)).length;omega,by show(cl L D (eQ L L.length)).length<=8;omega,I.MY,by show cv (cl _ _ _)<=_;rw[I.prod];exact jo,?_,?_⟩
 ·show(iy (2,p,0) A (eX L D (eQ L L.length)) (cv (cl L D (eQ L L.length)))).length=cv (cl L D (eQ L L.length))
  rw[Xr hA I.R9,show bw (2,p,0)=1 from rfl,Nat.mul_one]
 ·intro x hx
  have:=List.all_eq_true.1 lJ x (Xs _ x hx)
  have hv:=of_decide_eq_true this
  have ht:dO (2,p,0)=p - 1:=rfl
  rw[ht] at hv
  exact⟨hv.1,by omega⟩
structure ie (m:Int) (D:List Int) (i:Nat) (st:iQ):Prop where
 left:st.1<=64
 len:st.2.1.length=st.1*bT D i
 el:iw m st.2.1
 bA:st.2.2.length=i
 sz:j3 st.2.2<=i*5000
theorem adG (L:List fH) (s:fH):j3 (L++[s])=j3 L+1+s.2.2.2.length:=by
 simp only[j3,List.length_append,List.map_append,List.sum_append_nat,List.length_cons,List.length_nil,List.map_cons,List.map_nil,List.sum_cons,List.sum_nil]
 show _=_+1+j0 s
 omega
theorem ie.rc {m:Int} {D A:List Int} (h:nE m D A) {i:Nat} (hi:i<D.length - 1) {st:iQ} (I:ie m D i st):st.2.1.length=st.1*(D.getD i 0).toNat*bT D (i+1):=by
 rw[I.len,tz (by omega),Nat.mul_assoc]
theorem ie.next {m:Int} {D A:List Int} (h:nE m D A) {i:Nat} (hi:i<D.length - 1) {st:iQ} (I:ie m D i st) (hf:vI D i st=true):ie m D (i+1) (tP m D i st):=by
 have hf:=of_decide_eq_true hf
 obtain⟨_,f1,f2,f3,f4,f5,f6⟩:=Iy (jT h.pr) (ie.rc h hi I) I.el
 refine⟨by show lG _ _ _ _<=64;omega,f5,f6,by show(st.2.2++[_]).length=_;rw[List.length_append,I.bA];rfl,?_⟩
 show j3 (st.2.2++[_])<=_
 rw[adG]
 show j3 st.2.2+1+(sI _ _ _ _).length<=_
 rw[f3]
 have h1:st.1*(D.getD i 0).toNat*lG m (st.1*(D.getD i 0).toNat) (bT D (i+1)) st.2.1<=64*64:=Nat.mul_le_mul hf.1 (by omega)
 have:=I.sz
 omega
structure tG (m:Int) (D:List Int) (i:Nat) (st:iQ):Prop where
 s:ie m D i st
 left:st.1<=32
 ch:dZ (j5 m) 0 1 st.2.2=some (st.1:Int)
 Yc:iU st.2.2=D.take i
theorem On {S α:Type} (step:Nat->S->α->Option S) (a:α):∀(l:List α) (i:Nat) (s:S),dZ step i s (l++[a])=match dZ step i s l with|some s'=>step (i+l.length) s' a|none=>none
 |[],i,s=>by
  simp only[List.nil_append,dZ,List.length_nil,Nat.add_zero]
  cases step i s a<;>rfl
 |b::l,i,s=>by
  simp only[List.cons_append,dZ]
  cases step i s b with
  |none=>rfl
  |some s1=>
   simp only
   rw[On step a l (i+1) s1,List.length_cons,show i+1+l.length=i+(l.length+1) by omega]
theorem C8 {m:Int} {D A:List Int} (h:nE m D A) {i:Nat} (hi:i<D.length):∃d:Nat,D.getD i 0=(d:Int)/\(D.getD i 0).toNat=d/\1<=d/\d<=8:=by
 have:=h.sF _ (pZ hi)
 exact⟨(D.getD i 0).toNat,by omega,rfl,by omega,by omega⟩
theorem tG.next {m:Int} {D A:List Int} (h:nE m D A) {i:Nat} (hi:i<D.length - 1) {st:iQ} (I:tG m D i st) (hf:vI D i st=true) (hk:cK m D i st<=32):tG m D (i+1) (tP m D i st):=by
 have hs:=ie.next h hi I.s hf
 obtain⟨d,d1,d2,d3,d4⟩:=C8 h (i:=i) (by omega)
 obtain⟨_,f1,f2,f3,f4,f5,f6⟩:=Iy (jT h.pr) (ie.rc h hi I.s) I.s.el
 refine⟨hs,hk,?_,?_⟩
 ·show dZ (j5 m) 0 1 (st.2.2++[_])=some ((cK m D i st:Nat):Int)
  rw[On,I.ch]
  show j5 m _ _ _=_
  refine if_pos ⟨?_,rfl⟩
  have M7:(sI m (st.1*(D.getD i 0).toNat) (bT D (i+1)) st.2.1).length=st.1*(D.getD i 0).toNat*cK m D i st:=f3
  generalize sI m (st.1*(D.getD i 0).toNat) (bT D (i+1)) st.2.1=fa at M7 f4⊢
  rw[d2] at M7
  rw[d1]
  exact acS I.left hk ⟨d3,d4⟩ M7 f4
 ·show iU (st.2.2++[_])=_
  unfold iU
  rw[List.map_append]
  show iU st.2.2++[D.getD i 0]=_
  rw[I.Yc,List.take_add_one,oO (by omega)]
  rfl
theorem tG.fin {m:Int} {D A:List Int} (h:nE m D A) {st:iQ} (I:tG m D (D.length - 1) st):tR (m,mN D st)=true:=by
 have l1:=h.l1
 obtain⟨d,d1,d2,d3,d4⟩:=C8 h (i:=D.length - 1) (by omega)
 have hlen:=I.s.len
 rw[tz (by omega),show D.length - 1+1=D.length by omega,xu,Nat.mul_one,d2] at hlen
 have ahO:=I.s.bA
 have dF:dZ (j5 m) 0 1 (mN D st)=some 1:=by
  unfold mN
  rw[On,I.ch]
  show j5 m _ _ _=_
  refine if_pos ⟨?_,rfl⟩
  rw[d1]
  exact acS (c:=1) I.left (by omega) ⟨d3,d4⟩ (by rw[hlen,Nat.mul_one]) I.s.el
 have ahQ:iU (mN D st)=D:=by
  unfold mN iU
  rw[List.map_append]
  show iU st.2.2++[D.getD (D.length - 1) 0]=_
  rw[I.Yc]
  have:=List.take_add_one (l:=D) (i:=D.length - 1)
  rw[show D.length - 1+1=D.length by omega,List.take_length,oO (by omega)] at this
  exact this.symm
 have hp:c7 D<=4096:=by
  rw[BZ fun x hx=>(h.sF x hx).1]
  have:=h.pn
  omega
 have Pb:(mN D st).length=D.length:=by
  unfold mN
  rw[List.length_append,ahO]
  show D.length - 1+1=_
  omega
 simp only[tR,h.pr,dF,ahQ,Pb,Bool.true_and]
 rw[decide_eq_true ⟨l1,h.l8⟩,decide_eq_true hp]
 rfl
theorem Xx {m:Int}:∀{l:List fH} {i:Nat} {b b':Int},dZ (j5 m) i b l=some b'->∀s∈l,rW m s=true
 |[],_,_,_,_,s,hs=>by cases hs
 |a::l,i,b,b',h,s,hs=>by
  simp only[dZ] at h
  by_cases hc:rW m a=true/\a.1=b
  ·rw[show j5 m i b a=some a.2.2.1 from if_pos hc] at h
   cases hs with
   |head=>exact hc.1
   |tail _ hs=>exact Xx h s hs
  ·rw[show j5 m i b a=none from if_neg hc] at h
   cases h
theorem aeR {m:Int} {l:List fH} {s:fH} (hs:s∈l) (hb:¬s.2.2.1<=32):tR (m,l)=false:=by
 have hn:dZ (j5 m) 0 1 l=none:=by
  cases hf:dZ (j5 m) 0 1 l with
  |none=>rfl
  |some b=>
   have:=Xx hf s hs
   simp only[rW,Bool.and_eq_true,decide_eq_true_eq] at this
   exact absurd this.2.1.2 hb
 simp only[tR,hn,Bool.and_false]
theorem acg {m:Int} {D:List Int}:∀(es:List Nat) (i:Nat) (st:iQ),(∃s∈st.2.2,¬s.2.2.1<=32)->(match dZ (nM m D) i st es with|some st=>AH m D st|none=>ra)=ra
 |[],i,st,⟨s,hs,hb⟩=>by
  simp only[dZ]
  unfold AH
  rw[aeR (s:=s) (by unfold mN;exact List.mem_append_left _ hs) hb,if_neg (by simp)]
 |e::es,i,st,⟨s,hs,hb⟩=>by
  simp only[dZ]
  by_cases hf:vI D i st=true
  ·rw[show nM m D i st e=some (tP m D i st) from if_pos hf]
   exact acg es (i+1) _ ⟨s,List.mem_append_left _ hs,hb⟩
  ·rw[show nM m D i st e=none from if_neg hf]
theorem ack {m:Int} {D A:List Int} (h:nE m D A):∀(es:List Nat) (i:Nat) (st:iQ),i+es.length=D.length - 1->tG m D i st->
  (match dZ (nM m D) i st es with|some st=>AH m D st|none=>ra)=(match dZ (lz m D) i st es with|some st=>YS m D st|none=>ra)
 |[],i,st,hi,I=>by
  simp only[dZ]
  rw[List.length_nil,Nat.add_zero] at hi
  subst hi
  unfold AH
  rw[if_pos (tG.fin h I)]
  rfl
 |e::es,i,st,hi,I=>by
  rw[List.length_cons] at hi
  simp only[dZ]
  by_cases hf:vI D i st=true
  ·rw[show nM m D i st e=some (tP m D i st) from if_pos hf]
   by_cases hk:cK m D i st<=32
   ·rw[show lz m D i st e=some (tP m D i st) by unfold lz;rw[if_pos hf,if_pos hk]]
    exact ack h es (i+1) _ (by omega) (tG.next h (by omega) I hf hk)
   ·rw[show lz m D i st e=none by unfold lz;rw[if_pos hf,if_neg hk]]
    exact acg es (i+1) _ ⟨_,List.mem_append_right _ (List.mem_singleton.2 rfl),by show¬((cK m D i st:Nat):Int)<=32;omega⟩
  ·rw[show nM m D i st e=none from if_neg hf,show lz m D i st e=none from if_neg hf]
theorem Bo {m:Int} {D A:List Int} (h:nE m D A):tG m D 0 (1,A,[]):=
 ⟨⟨by show(1:Nat)<=64;decide,by show A.length=1*bT D 0;rw[Nat.one_mul,FB];exact h.len,h.el,rfl,by show j3 []<=0;decide⟩,by show(1:Nat)<=32;decide,rfl,rfl⟩
theorem apa {m:Int} {D A:List Int} (h:nE m D A):ruS m D A=zk m D A:=
 ack h (List.range (D.length - 1)) 0 _ (by rw[List.length_range,Nat.zero_add]) (Bo h)
end Go.Am
end
section
namespace Go.Am
def G7:ai:=[(.one,[.int .i64]),(.agg,[.list [.int .i64],.list [.int .i64],.list [.int .i64]])]
def Tx:ai:=[(.agg,[.int .i64,.list [.int .i64,.int .i64,.int .i64,.list [.int .i64]]]),(.one,[.bool])]
def als:aN:=[]
def LM (NN:Nat):(Int×((List Int)×((List Int)×(List Int))))->(Option ((Int×(List (Int×(Int×(Int×(List Int))))))×Bool)):=
 (fun((i0,l1,l2,l3):(Int×((List Int)×((List Int)×(List Int)))))=>
 (si (((2:Int),i0,(0:Int)),l1,l2,l3)).U (fun b4=>
 ak (cC b4)
 (some (((0:Int),([]:List (Int×(Int×(Int×(List Int)))))),false))
 ((gS (aI (J l1),(1:Int),(8:Int))).U (fun b5=>
 ak (cC b5)
 (some (((0:Int),([]:List (Int×(Int×(Int×(List Int)))))),false))
 ((vu (((2:Int),i0,(0:Int)),l1,l2,l3)).U (fun(l6,l7,l8)=>
 (cd l8 0 (J l8)).U (fun l9=>
 (nG l9).U (fun eW=>
 bD ((ae 0 (J eW) (J eW)).U (fun _=>
 (ae 0 (J l7) (J l7)).U (fun _=>
 (ae 0 0 (J (([]:List (Int×(Int×(Int×(List Int)))))))).U (fun _=>
 (ae 0 (J l6) (J l6)).U (fun _=>
 (ae 0 (J l7) (J l7)).U (fun _=>
 (ae 0 (J l8) (J l8)).U (fun _=>
 (ae 0 0 (J (([]:List (Int×(Int×(Int×(List Int)))))))).U (fun _=>
 bu NN (fun(((cT,cZ,cU,ca),kH,eO,c8,iq,d7,fx,cM,ju):((Int×(Int×(Int×Int)))×(Int×(Int×((List (Int×(Int×(Int×(List Int)))))×((List Int)×((List Int)×((List Int)×((List (Int×(Int×(Int×(List Int)))))×(List Int))))))))))=>
 ak (bd ca cU)
 ((da ca (J d7)).U (fun El=>
 (bY d7 (aC 0 El)).U (fun gu=>
 ak (bL ca (dV .i64 (aI (J d7)) (1:Int)))
 ((c9 ju (J ju)).U (fun dL=>
 (ae 0 (J cM) (J cM)).U (fun _=>
 (ae 0 1 (J (((cZ,gu,(1:Int),dL)::([]:List (Int×(Int×(Int×(List Int))))))))).U (fun _=>
 (jL (aC (J cM) (J (((cZ,gu,(1:Int),dL)::([]:List (Int×(Int×(Int×(List Int))))))))) 48).U (fun _=>
 ((ae 0 (J c8) (J c8)).U (fun _=>
 (ae 0 (aC (J cM) (J (((cZ,gu,(1:Int),dL)::([]:List (Int×(Int×(Int×(List Int))))))))) (J (dP cM (((cZ,gu,(1:Int),dL)::([]:List (Int×(Int×(Int×(List Int)))))))))).U (fun _=>
 some (Sum.inl (kH,eO,c8,dP cM (((cZ,gu,(1:Int),dL)::([]:List (Int×(Int×(Int×(List Int)))))))))))).U (fun dr=>
 some (Sum.inr dr)))))))
 ((f7 (aU .i64 ca 1) (aI (J d7)) (J d7)).U (fun(k27,yU)=>
 (cd d7 (aC 0 k27) yU).U (fun nY=>
 (oA (nY,(4096:Int))).U (fun mG=>
 ak (bd (64:Int) (cu .i64 cZ gu))
 (some (Sum.inr (Sum.inr (((0:Int),([]:List (Int×(Int×(Int×(List Int)))))),false))))
 (ak (bd (64:Int) mG)
 (some (Sum.inr (Sum.inr (((0:Int),([]:List (Int×(Int×(Int×(List Int)))))),false))))
 ((cd ju 0 (J ju)).U (fun n3=>
 (Ab (cT,cu .i64 cZ gu,mG,n3)).U (fun((gv,gK,kl),mH,uJ,rL)=>
 (c9 kl (J kl)).U (fun hJ=>
 (ae 0 (J cM) (J cM)).U (fun _=>
 (ae 0 1 (J (((cZ,gu,gK,hJ)::([]:List (Int×(Int×(Int×(List Int))))))))).U (fun _=>
 (jL (aC (J cM) (J (((cZ,gu,gK,hJ)::([]:List (Int×(Int×(Int×(List Int))))))))) 48).U (fun _=>
 (ae 0 (J rL) (J rL)).U (fun _=>
 (ae 0 (J d7) (J d7)).U (fun _=>
 (ae 0 (J c8) (J c8)).U (fun _=>
 (ae 0 (J iq) (J iq)).U (fun _=>
 (ae 0 (J d7) (J d7)).U (fun _=>
 (ae 0 (J fx) (J fx)).U (fun _=>
 (ae 0 (aC (J cM) (J (((cZ,gu,gK,hJ)::([]:List (Int×(Int×(Int×(List Int))))))))) (J (dP cM (((cZ,gu,gK,hJ)::([]:List (Int×(Int×(Int×(List Int)))))))))).U (fun _=>
 some (Sum.inl ((cT,gK,cU,aU .i64 ca 1),kH,eO,c8,iq,d7,fx,dP cM (((cZ,gu,gK,hJ)::([]:List (Int×(Int×(Int×(List Int))))))),rL))))))))))))))))))))))))
 (((ae 0 (J c8) (J c8)).U (fun _=>
 (ae 0 (J cM) (J cM)).U (fun _=>
 some (Sum.inl (kH,eO,c8,cM))))).U (fun iG=>
 some (Sum.inr iG))))
 ((i0,(1:Int),aI (J l7),(0:Int)),(0:Int),i0,([]:List (Int×(Int×(Int×(List Int))))),l6,l7,l8,([]:List (Int×(Int×(Int×(List Int))))),eW)))))))))
 (fun(qk,mI,tg,ja)=>
 (cd ja 0 (J ja)).U (fun km=>
 (z6 (mI,km)).U (fun b45=>
 ak (cC b45)
 (some (((0:Int),([]:List (Int×(Int×(Int×(List Int)))))),false))
 ((c9 ja (J ja)).U (fun jv=>
 some ((mI,jv),true))))))))))))))
theorem MN {n:Nat} (h1:1<=n) (h:n<=1000):dV .i64 (n:Int) 1=((n - 1:Nat):Int):=by rw[kV (by omega) (by omega)];omega
theorem ae2 {D:List Int} {i:Nat}:fe D i (D.length - i)=D.drop i:=by
 unfold fe
 exact List.take_of_length_le (by rw[List.length_drop];exact Nat.le_refl _)
theorem ae3 {D:List Int} {i:Nat} (h:i<=D.length):cd D i (D.length - i)=some (D.drop i):=by
 unfold cd
 rw[if_pos (by omega),List.take_of_length_le (by rw[List.length_drop];exact Nat.le_refl _)]
theorem XR {D:List Int} {i:Nat} (h:i<=D.length):f7 (i:Int) (aI (J D)) (J D)=some (i,D.length - i):=by
 unfold f7 aI J
 rw[if_pos ⟨by omega,by omega,by omega⟩]
 congr 2
 omega
theorem Wn {m:Int} {D A:List Int} (h:nE m D A) (i:Nat):oA (D.drop i,4096)=some ((bT D i:Nat):Int)/\zM (D.drop i)=some ((bT D i:Nat):Int)/\bT D i<=4096:=by
 have l8:=h.l8
 have hd:∀x∈D.drop i,1<=x/\x<=8:=fun x hx=>h.sF x (List.mem_of_mem_drop hx)
 have hG:jK D:=⟨by omega,fun x hx=>by have:=h.sF x hx;omega⟩
 have hp:cv (D.drop i)<=4096:=by
  by_cases hi:i<=D.length
  ·exact Nat.le_trans (Wm hG hi) h.pn
  ·rw[List.drop_eq_nil_of_le (by omega)];decide
 refine⟨abN (by rw[List.length_drop];omega) hd hp,?_,hp⟩
 have e:c7 (D.drop i)=((bT D i:Nat):Int):=BZ fun x hx=>(hd x hx).1
 rw[<-e]
 exact if_pos ⟨by rw[List.length_drop];omega,hd⟩
theorem H7 {m:Int} {D A:List Int} (h:nE m D A) {st:iQ} (I:ie m D (D.length - 1) st):iN (m,mN D st)<=1048576/\st.2.1.length<=4096:=by
 have l1:=h.l1
 have l8:=h.l8
 obtain⟨d,d1,d2,d3,d4⟩:=C8 h (i:=D.length - 1) (by omega)
 have hlen:=I.len
 rw[tz (by omega),show D.length - 1+1=D.length by omega,xu,Nat.mul_one,d2] at hlen
 have h1:st.1*d<=64*8:=Nat.mul_le_mul I.left d4
 have bF:=I.sz
 refine⟨?_,by omega⟩
 show j3 (st.2.2++[_])<=_
 rw[adG]
 show j3 st.2.2+1+st.2.1.length<=_
 omega
theorem agV (x:Int×T3) (y:(Int×List fH)×Bool) (h:vt x=some y):LM az x=some y:=by
 obtain⟨m,L0,D0,A0⟩:=x
 simp only[vt] at h
 split at h
 ·rename_i hc
  rw[<-h]
  simp only[LM]
  rw[show si ((2,m,0),L0,D0,A0)=some (gQ (2,m,0) (L0,D0,A0)) from if_pos hc]
  simp only[aG]
  unfold Au
  cases ht:gQ (2,m,0) (L0,D0,A0) with
  |false=>rw[aH (b:=cC false) rfl,if_neg (by simp)];rfl
  |true=>
   rw[aK (b:=cC true) rfl]
   simp only[gS,aG]
   by_cases hl:1<=L0.length/\L0.length<=8
   ·rw[decide_eq_true (show(1:Int)<=aI (J L0)/\aI (J L0)<=8 by show(1:Int)<=(L0.length:Int)/\(L0.length:Int)<=8;omega),aK (b:=cC true) rfl,if_pos ⟨trivial,hl⟩]
    rw[show vu ((2,m,0),L0,D0,A0)=some (qQ (2,m,0) (L0,D0,A0)) from if_pos hc]
    have HD:=V3 ht hl.1 hl.2
    generalize qQ (2,m,0) (L0,D0,A0)=X at HD⊢
    obtain⟨S,D,A⟩:=X
    have HD:nE m D A:=HD
    simp only[aG,ky]
    have l1:=HD.l1
    have l8:=HD.l8
    have hm:=jT HD.pr
    have wl:=HD.pn
    have hAl:=HD.len
    rw[show nG A=some A from if_pos (by omega)]
    simp only[aG,bW]
    rw[show ae 0 0 (J ([]:List (Int×(Int×(Int×(List Int))))))=some () from rfl]
    simp only[aG]
    have kc:(List.range (D.length - 1)).length=D.length - 1:=List.length_range
    rw[Qt (List.range (D.length - 1)) (fun(st:iQ) i=>((m,(st.1:Int),(D.length:Int),(i:Int)),(0:Int),m,([]:List fH),S,D,A,st.2.2,st.2.1)) (ie m D) (nM m D) (Sum.inr ra) (fun st=>Sum.inl ((0:Int),m,([]:List fH),mN D st)) ?a1 ?a2 ?a3 (s:=(1,A,[])) (Bo HD).s ?a4 (cX (by rw[kc];omega))]
    case a4=>rfl
    case a2=>
     intro i st a st' ha I cq
     have hi:i<D.length - 1:=by rw[<-kc];exact rP ha
     unfold nM at cq
     split at cq
     ·rename_i hf
      injection cq with cq
      subst cq
      exact ie.next HD hi I hf
     ·cases cq
    case a3=>
     intro st I
     rw[kc] at I
     rw[kc]
     dsimp only
     have bG:=H7 HD I
     rw[aH (df (by omega)),pL (show D.length - 1<J D by show _<D.length;omega)]
     simp only[aG,eZ]
     rw[show bY D (D.length - 1)=some (D.getD (D.length - 1) 0) from oO (by omega)]
     simp only[aG]
     rw[show dV .i64 (aI (J D)) 1=((D.length - 1:Nat):Int) from MN (n:=D.length) l1 (by omega),aH (by unfold bL;exact beq_iff_eq.2 rfl),gO]
     simp only[aG,bW]
     rw[show ae 0 1 (J [((st.1:Int),D.getD (D.length - 1) 0,(1:Int),st.2.1)])=some () from rfl]
     simp only[aG]
     rw[nO (by show(aC st.2.2.length 1)*48<=dA;rw[I.bA];simp only[aC,dA];omega)]
     simp only[aG]
     rw[yi]
     rfl
    case a1=>
     intro i st a ha I
     have hi:i<D.length - 1:=by rw[<-kc];exact rP ha
     obtain⟨d,d1,d2,d3,d4⟩:=C8 HD (i:=i) (by omega)
     obtain⟨t1,t2,t3⟩:=Wn HD (i+1)
     have db:=ie.rc HD hi I
     have IZ:=I.left
     have hrd:st.1*d<=64*8:=Nat.mul_le_mul IZ d4
     dsimp only
     rw[aH (df (by omega)),pL (show i<J D by show _<D.length;omega)]
     simp only[aG,eZ]
     rw[show bY D i=some (D.getD i 0) from oO (by omega)]
     simp only[aG]
     rw[show dV .i64 (aI (J D)) 1=((D.length - 1:Nat):Int) from MN (n:=D.length) l1 (by omega),aK (by unfold bL;rw[beq_eq_false_iff_ne];omega)]
     rw[eK (by omega) (by omega),show(i:Int)+1=((i+1:Nat):Int) by omega,XR (by omega)]
     simp only[aG]
     rw[ae3 (by omega)]
     simp only[aG]
     rw[t1]
     simp only[aG]
     have DV:cu .i64 (st.1:Int) (D.getD i 0)=((st.1*d:Nat):Int):=by rw[d1,Ez (by omega) (by omega)]
     rw[DV]
     unfold nM
     by_cases hf:vI D i st=true
     ·have fv:=of_decide_eq_true hf
      rw[d2] at fv
      rw[if_pos hf,aK (cP (by omega)),aK (cP (by omega))]
      simp only[ky,aG]
      rw[d2] at db
      have h64:st.1*d*bT D (i+1)<=64*64:=Nat.mul_le_mul fv.1 fv.2
      rw[aho hm (by omega) (by omega) (by omega) db I.el]
      simp only[aG,gO,bW]
      rw[show∀s:fH,ae 0 1 (J [s])=some () from fun _=>rfl]
      simp only[aG]
      rw[nO (by show(aC st.2.2.length 1)*48<=dA;rw[I.bA];simp only[aC,dA];omega)]
      simp only[aG]
      rw[yi]
      simp only[tP,cK]
      rw[d2]
      rfl
     ·have fv:¬(st.1*(D.getD i 0).toNat<=64/\bT D (i+1)<=64):=fun e=>hf (decide_eq_true e)
      rw[d2] at fv
      rw[if_neg hf]
      by_cases h1:st.1*d<=64
      ·rw[aK (cP (by omega)),aH (df (by omega))]
       rfl
      ·rw[aH (df (by omega))]
       rfl
    have hS:∀st,dZ (nM m D) 0 (1,A,[]) (List.range (D.length - 1))=some st->ie m D (D.length - 1) st:=fun st cq=>by
     have:=IA (nM m D) (ie m D) (List.range (D.length - 1)) (List.range (D.length - 1)) 0 (1,A,[]) st (Bo HD).s (fun k s a s' ha _ hI cq=>by
      have hi:k<D.length - 1:=by have:=rP ha;rw[kc] at this;omega
      unfold nM at cq
      split at cq
      ·rename_i hf
       injection cq with cq
       subst cq
       exact ie.next HD hi hI hf
      ·cases cq) cq
     rw[kc,Nat.zero_add] at this
     exact this
    show _=some (zk m D A)
    rw[<-apa HD]
    unfold ruS
    cases DO:dZ (nM m D) 0 (1,A,[]) (List.range (D.length - 1)) with
    |none=>rfl
    |some st=>
     have bG:=H7 HD (hS st DO)
     simp only[bD,Option.bind,ky,aG]
     rw[show z6 (m,mN D st)=some (tR (m,mN D st)) from if_pos bG.1]
     simp only[aG]
     unfold AH
     cases OT:tR (m,mN D st) with
     |false=>rw[aH (b:=cC false) rfl,if_neg (by simp)];rfl
     |true=>rw[aK (b:=cC true) rfl,gO,if_pos rfl];rfl
   ·rw[decide_eq_false (show¬((1:Int)<=aI (J L0)/\aI (J L0)<=8) by show¬((1:Int)<=(L0.length:Int)/\(L0.length:Int)<=8);omega),aH (b:=cC false) rfl,if_neg (fun e=>hl e.2)]
    rfl
 ·cases h
end Go.Am
end
section
namespace Go.Am
def Gc:ai:=[(.one,[.int .i64]),(.agg,[.list [.int .i64],.list [.int .i64],.list [.int .i64]])]
def SH:ai:=[(.agg,[.int .i64,.list [.int .i64,.int .i64,.int .i64,.list [.int .i64]]]),(.one,[.bool])]
def akN:aN:=[]
def K6 (NN:Nat):(Int×((List Int)×((List Int)×(List Int))))->(Option ((Int×(List (Int×(Int×(Int×(List Int))))))×Bool)):=
 (fun((i0,l1,l2,l3):(Int×((List Int)×((List Int)×(List Int)))))=>
 (vm (((2:Int),i0,(0:Int)),l1,l2,l3)).U (fun b4=>
 ak (cC b4)
 (some (((0:Int),([]:List (Int×(Int×(Int×(List Int)))))),false))
 (ak (bL (aI (J l1)) (0:Int))
 (some (((0:Int),([]:List (Int×(Int×(Int×(List Int)))))),false))
 (ak (bd (8:Int) (aI (J l1)))
 (some (((0:Int),([]:List (Int×(Int×(Int×(List Int)))))),false))
 ((zF (((2:Int),i0,(0:Int)),l1,l2,l3)).U (fun(l5,l6,l7)=>
 (c9 l5 (J l5)).U (fun l8=>
 (c9 l6 (J l6)).U (fun l9=>
 (c9 l7 (J l7)).U (fun eW=>
 (f7 (0:Int) (dV .i64 (aI (J l9)) (1:Int)) (J l9)).U (fun(td,wJ)=>
 bD ((ae 0 0 (J (([]:List (Int×(Int×(Int×(List Int)))))))).U (fun _=>
 (ae 0 0 (J (([]:List (Int×(Int×(Int×(List Int)))))))).U (fun _=>
 bu NN (fun(((cU,ca,de,eO,c8,gp,gJ),g8,(cM,ju,mK),gu,dL,dr):((Int×(Int×((List Int)×(Int×((List Int)×(Int×Int))))))×(Int×(((List Int)×((List Int)×(List Int)))×(Int×((List (Int×(Int×(Int×(List Int)))))×(List (Int×(Int×(Int×(List Int)))))))))))=>
 ak (bd gJ gp)
 ((dd c8 gJ).U (fun lM=>
 (f7 (aU .i64 gJ 1) (aI (J ju)) (J ju)).U (fun(yU,k29)=>
 (zM (fe ju yU k29)).U (fun mG=>
 (tA (cU,cu .i64 ca lM,mG,de)).U (fun((jS,gv,n4),(qi,mH,kK),b37)=>
 ak (cC b37)
 (some (Sum.inr (Sum.inr (((0:Int),([]:List (Int×(Int×(Int×(List Int)))))),false))))
 (ak (bd (32:Int) gv)
 (some (Sum.inr (Sum.inr (((0:Int),([]:List (Int×(Int×(Int×(List Int)))))),false))))
 ((c9 n4 (J n4)).U (fun hJ=>
 (ae 0 (J dr) (J dr)).U (fun _=>
 (ae 0 1 (J (((ca,lM,gv,hJ)::([]:List (Int×(Int×(Int×(List Int))))))))).U (fun _=>
 (jL (aC (J dr) (J (((ca,lM,gv,hJ)::([]:List (Int×(Int×(Int×(List Int))))))))) 48).U (fun _=>
 (c9 kK (J kK)).U (fun iG=>
 (ae 0 (J dL) (J dL)).U (fun _=>
 (ae 0 (aC (J dr) (J (((ca,lM,gv,hJ)::([]:List (Int×(Int×(Int×(List Int))))))))) (J (dP dr (((ca,lM,gv,hJ)::([]:List (Int×(Int×(Int×(List Int)))))))))).U (fun _=>
 some (Sum.inl ((cU,gv,iG,eO,c8,gp,aU .i64 gJ 1),g8,(cM,ju,mK),gu,dL,dP dr (((ca,lM,gv,hJ)::([]:List (Int×(Int×(Int×(List Int)))))))))))))))))))))))
 (((ae 0 (J dL) (J dL)).U (fun _=>
 (ae 0 (J dr) (J dr)).U (fun _=>
 some (Sum.inl ((ca,eO,de),g8,(cM,ju,mK),gu,dL,dr))))).U (fun iZ=>
 some (Sum.inr iZ))))
 ((i0,(1:Int),eW,dV .i64 (aI (J l9)) (1:Int),fe l9 td wJ,aI (J (fe l9 td wJ)),(0:Int)),(0:Int),(l8,l9,eW),i0,([]:List (Int×(Int×(Int×(List Int))))),([]:List (Int×(Int×(Int×(List Int)))))))))
 (fun((mI,mJ,ja),rH,(mL,jv,gM),uL,gN,lQ)=>
 (dd jv mJ).U (fun qm=>
 (nF ja).U (fun nh=>
 (c9 nh (J nh)).U (fun fo=>
 (ae 0 (J lQ) (J lQ)).U (fun _=>
 (ae 0 1 (J (((mI,qm,(1:Int),fo)::([]:List (Int×(Int×(Int×(List Int))))))))).U (fun _=>
 (jL (aC (J lQ) (J (((mI,qm,(1:Int),fo)::([]:List (Int×(Int×(Int×(List Int))))))))) 48).U (fun _=>
 (c9 (dP lQ (((mI,qm,(1:Int),fo)::([]:List (Int×(Int×(Int×(List Int)))))))) (aC (J lQ) (J (((mI,qm,(1:Int),fo)::([]:List (Int×(Int×(Int×(List Int)))))))))).U (fun gd=>
 some ((uL,gd),true)))))))))))))))))))
theorem af8 (x:Int×T3) (y:(Int×List fH)×Bool) (h:xC x=some y):K6 az x=some y:=by
 obtain⟨m,L0,D0,A0⟩:=x
 simp only[xC,vt] at h
 split at h
 ·rename_i hc
  rw[<-h]
  simp only[K6]
  rw[show vm ((2,m,0),L0,D0,A0)=some (gQ (2,m,0) (L0,D0,A0)) from if_pos hc]
  simp only[aG]
  unfold Au
  have aR:aI (J L0)=(L0.length:Int):=rfl
  cases ht:gQ (2,m,0) (L0,D0,A0) with
  |false=>rw[aH (b:=cC false) rfl,if_neg (by simp)];rfl
  |true=>
   rw[aK (b:=cC true) rfl,aR]
   by_cases hl:1<=L0.length/\L0.length<=8
   ·rw[aK (by unfold bL;rw[beq_eq_false_iff_ne];omega),aK (cP (by omega)),if_pos ⟨rfl,hl⟩]
    rw[show zF ((2,m,0),L0,D0,A0)=some (qQ (2,m,0) (L0,D0,A0)) from if_pos hc]
    have HD:=V3 ht hl.1 hl.2
    generalize qQ (2,m,0) (L0,D0,A0)=X at HD⊢
    obtain⟨S,D,A⟩:=X
    have HD:nE m D A:=HD
    simp only[aG,gO]
    have l1:=HD.l1
    have l8:=HD.l8
    have hm:=jT HD.pr
    have wl:=HD.pn
    have hAl:=HD.len
    have e8:dV .i64 (aI (J D)) 1=((D.length - 1:Nat):Int):=MN (n:=D.length) l1 (by omega)
    rw[e8]
    rw[show f7 (0:Int) ((D.length - 1:Nat):Int) (J D)=some (0,D.length - 1) by
     unfold f7 J
     rw[if_pos ⟨by omega,by omega,by omega⟩]
     congr 2]
    simp only[aG,bW]
    rw[show ae 0 0 (J ([]:List (Int×(Int×(Int×(List Int))))))=some () from rfl]
    simp only[aG]
    have wu:fe D 0 (D.length - 1)=D.take (D.length - 1):=by unfold fe;rw[List.drop_zero]
    have htl:(D.take (D.length - 1)).length=D.length - 1:=by rw[List.length_take];omega
    rw[wu,show aI (J (D.take (D.length - 1)))=((D.length - 1:Nat):Int) by show(((D.take (D.length - 1)).length:Nat):Int)=_;rw[htl]]
    have kc:(List.range (D.length - 1)).length=D.length - 1:=List.length_range
    rw[Qt (List.range (D.length - 1)) (fun(st:iQ) i=>((m,(st.1:Int),st.2.1,((D.length - 1:Nat):Int),D.take (D.length - 1),((D.length - 1:Nat):Int),(i:Int)),(0:Int),(S,D,A),m,([]:List fH),st.2.2)) (ie m D) (lz m D) (Sum.inr ra) (fun st=>Sum.inl (((st.1:Int),((D.length - 1:Nat):Int),st.2.1),(0:Int),(S,D,A),m,([]:List fH),st.2.2)) ?a1 ?a2 ?a3 (s:=(1,A,[])) (Bo HD).s ?a4 (cX (by rw[kc];omega))]
    case a4=>rfl
    case a2=>
     intro i st a st' ha I cq
     have hi:i<D.length - 1:=by rw[<-kc];exact rP ha
     unfold lz at cq
     split at cq
     ·rename_i hf
      split at cq
      ·injection cq with cq
       subst cq
       exact ie.next HD hi I hf
      ·cases cq
     ·cases cq
    case a3=>
     intro st I
     rw[kc]
     dsimp only
     rw[aK (cP (by omega))]
     try simp only[bW,aG]
    case a1=>
     intro i st a ha I
     have hi:i<D.length - 1:=by rw[<-kc];exact rP ha
     obtain⟨d,d1,d2,d3,d4⟩:=C8 HD (i:=i) (by omega)
     obtain⟨t1,t2,t3⟩:=Wn HD (i+1)
     have db:=ie.rc HD hi I
     have IZ:=I.left
     have hrd:st.1*d<=64*8:=Nat.mul_le_mul IZ d4
     dsimp only
     rw[aH (df (by omega)),dj,List.getElem?_take_of_lt hi,oO (l:=D) (i:=i) (by omega)]
     simp only[aG]
     rw[eK (by omega) (by omega),show(i:Int)+1=((i+1:Nat):Int) by omega,XR (by omega)]
     simp only[aG]
     rw[ae2,t2]
     simp only[aG]
     have DV:cu .i64 (st.1:Int) (D.getD i 0)=((st.1*d:Nat):Int):=by rw[d1,Ez (by omega) (by omega)]
     rw[DV]
     rw[d2] at db
     unfold lz
     by_cases hf:vI D i st=true
     ·have fv:=of_decide_eq_true hf
      rw[d2] at fv
      rw[if_pos hf,ahn HD.pr fv.2 (by omega) db I.el,if_pos fv.1]
      simp only[aG]
      rw[aK (b:=cC true) rfl]
      have OT:cK m D i st=lG m (st.1*d) (bT D (i+1)) st.2.1:=by unfold cK;rw[d2]
      by_cases hk:cK m D i st<=32
      ·rw[if_pos hk,aK (cP (by rw[<-OT];omega))]
       try simp only[aG,bW,gO]
       rw[show∀s:fH,ae 0 1 (J [s])=some () from fun _=>rfl]
       simp only[aG]
       rw[nO (by show(aC st.2.2.length 1)*48<=dA;rw[I.bA];simp only[aC,dA];omega)]
       try simp only[aG,bW,gO]
       rw[yi]
       simp only[tP,cK]
       rw[d2]
       rfl
      ·rw[if_neg hk,aH (df (by rw[<-OT];omega))]
       rfl
     ·have fv:¬(st.1*(D.getD i 0).toNat<=64/\bT D (i+1)<=64):=fun e=>hf (decide_eq_true e)
      rw[d2] at fv
      rw[if_neg hf]
      have bS:o9 m (((st.1*d:Nat):Int),((bT D (i+1):Nat):Int),st.2.1)=false:=by
       cases hmk:o9 m (((st.1*d:Nat):Int),((bT D (i+1):Nat):Int),st.2.1) with
       |false=>rfl
       |true=>
        simp only[o9,Bool.and_eq_true,decide_eq_true_eq] at hmk
        exact absurd ⟨by omega,by omega⟩ fv
      have hlen:st.2.1.length<=64*4096:=by
       rw[I.len]
       exact Nat.mul_le_mul IZ (Wn HD i).2.2
      rw[show tA (m,((st.1*d:Nat):Int),((bT D (i+1):Nat):Int),st.2.1)=some ((0,0,[]),(0,0,[]),false) by
       rw[show tA (m,((st.1*d:Nat):Int),((bT D (i+1):Nat):Int),st.2.1)=_ from if_pos (by show dC st.2.1<=_;show st.2.1.length<=_;omega)]
       dsimp only
       rw[bS,if_neg (by simp)]]
      simp only[aG]
      rw[aH (b:=cC false) rfl]
      rfl
    have hS:∀st,dZ (lz m D) 0 (1,A,[]) (List.range (D.length - 1))=some st->ie m D (D.length - 1) st:=fun st cq=>by
     have:=IA (lz m D) (ie m D) (List.range (D.length - 1)) (List.range (D.length - 1)) 0 (1,A,[]) st (Bo HD).s (fun k s a s' ha _ hI cq=>by
      have hi:k<D.length - 1:=by have:=rP ha;rw[kc] at this;omega
      unfold lz at cq
      split at cq
      ·rename_i hf
       split at cq
       ·injection cq with cq
        subst cq
        exact ie.next HD hi hI hf
       ·cases cq
      ·cases cq) cq
     rw[kc,Nat.zero_add] at this
     exact this
    show _=some (zk m D A)
    unfold zk
    cases DO:dZ (lz m D) 0 (1,A,[]) (List.range (D.length - 1)) with
    |none=>rfl
    |some st=>
     have hI:=hS st DO
     have bG:=H7 HD hI
     simp only[bD,Option.bind]
     rw[dj,oO (l:=D) (i:=D.length - 1) (by omega)]
     simp only[aG]
     rw[show nF st.2.1=some st.2.1 from if_pos (by omega)]
     simp only[aG,gO,bW]
     rw[show∀s:fH,ae 0 1 (J [s])=some () from fun _=>rfl]
     simp only[aG]
     rw[nO (by show(aC st.2.2.length 1)*48<=dA;rw[hI.bA];simp only[aC,dA];omega)]
     simp only[aG]
     rw[Wo (by simp[aC,J,dP])]
     rfl
   ·rw[if_neg (fun e=>hl e.2)]
    by_cases h0:L0.length=0
    ·rw[aH (by unfold bL;exact beq_iff_eq.2 (by omega))]
     rfl
    ·rw[aK (by unfold bL;rw[beq_eq_false_iff_ne];omega),aH (df (by omega))]
     rfl
 ·cases h
end Go.Am
end
