/- M1, Mx, M4, M31, M6, M7, M8, M9, Fm, M14, M15, M16, M17, M19, M33, M36, M18, M32, M34, M38, M48, M49, M50, M51, M52, M12, M20, M21: parts of the proof. No condition. -/
import Derived.Test.YtifmggmhdcdgbaaMT
set_option linter.unusedVariables false
set_option linter.unusedSimpArgs false
section
namespace Go.Am
def lx:Int×Int×Int->Option Bool:=fun((a,b,c):Int×Int×Int)=>some (decide (b<=a/\a<=c))
def FN:ao:=[(.one,[.int .i64]),(.one,[.int .i64]),(.one,[.int .i64])]
def QN:ao:=[(.one,[.bool])]
def ag5:aW:=[]
def J9 (NN:Nat):(Int×(Int×Int))->(Option Bool):=
 (fun((i0,i1,i2):(Int×(Int×Int)))=>
 aw (qk i1 i0)
 (some (qk i0 i2))
 (some false))
theorem acU (x:Int×Int×Int) (y:Bool) (h:lx x=some y):J9 aA x=some y:=by
 obtain⟨a,b,c⟩:=x
 rw[<-h]
 simp only[lx,J9,qk]
 by_cases hc:b<=a<;>simp[hc,aw]
end Go.Am
end
section
namespace Go.Am
def ai (r c:Nat) (M:Nat->Nat->Int):List Int:=(List.range (r*c)).map fun n=>M (n/c) (n%c)
def bu (c:Nat) (l:List Int):Nat->Nat->Int:=fun i j=>l.getD (i*c+j) 0
def kf (M:Nat->Nat->Int) (i j:Nat) (x:Int):Nat->Nat->Int:=fun a b=>if a=i/\b=j then x else M a b
theorem WW {r c i j:Nat} (hi:i<r) (hj:j<c):i*c+j<r*c:=by
 have:(i+1)*c<=r*c:=Nat.mul_le_mul_right _ hi
 rw[Nat.add_mul] at this
 omega
theorem WV {c i j:Nat} (hj:j<c):(i*c+j)/c=i:=by
 rw[Nat.mul_comm,Nat.mul_add_div (by omega),Nat.div_eq_of_lt hj,Nat.add_zero]
theorem WX {c i j:Nat} (hj:j<c):(i*c+j)%c=j:=by
 rw[Nat.mul_comm,Nat.mul_add_mod,Nat.mod_eq_of_lt hj]
theorem jz (r c:Nat) (M:Nat->Nat->Int):(ai r c M).length=r*c:=by simp[ai]
theorem G7 {r c i j:Nat} (M:Nat->Nat->Int) (hi:i<r) (hj:j<c):(ai r c M)[i*c+j]? =some (M i j):=by
 unfold ai
 rw[List.getElem?_map,List.getElem?_range (WW hi hj)]
 simp[WV hj,WX hj]
theorem gZ {r c:Nat} {M M':Nat->Nat->Int} (h:∀i,i<r->∀j,j<c->M i j=M' i j):ai r c M=ai r c M':=by
 unfold ai
 refine List.map_congr_left fun n hn=>?_
 have hn:=List.mem_range.1 hn
 have hc:0<c:=by
  rcases Nat.eq_zero_or_pos c with h|h
  ·subst h;simp at hn
  ·exact h
 exact h _ ((Nat.div_lt_iff_lt_mul hc).2 hn) _ (Nat.mod_lt _ hc)
theorem VG {r c i j:Nat} (M:Nat->Nat->Int) (hj:j<c) (x:Int):(ai r c M).set (i*c+j) x=ai r c (kf M i j x):=by
 apply List.ext_getElem?
 intro n
 rw[List.getElem?_set,jz]
 unfold ai
 simp only[List.getElem?_map]
 by_cases hn:n<r*c
 ·rw[List.getElem?_range hn]
  have hc:0<c:=by omega
  by_cases he:i*c+j=n
  ·rw[if_pos he,if_pos (by omega)]
   subst he
   simp[kf,WV hj,WX hj]
  ·rw[if_neg he]
   simp only[Option.map_some,kf]
   rw[if_neg]
   rintro⟨h1,h2⟩
   apply he
   rw[<-h1,<-h2]
   have:=Nat.div_add_mod n c
   rw[Nat.mul_comm] at this
   exact this
 ·rw[List.getElem?_eq_none (by simp;omega)]
  by_cases he:i*c+j=n
  ·rw[if_pos he,if_neg (by omega)];rfl
  ·rw[if_neg he];rfl
theorem pT {r c:Nat} {l:List Int} (h:l.length=r*c):ai r c (bu c l)=l:=by
 apply List.ext_getElem?
 intro n
 unfold ai
 simp only[List.getElem?_map]
 by_cases hn:n<r*c
 ·rw[List.getElem?_range hn,List.getElem?_eq_getElem (by omega)]
  simp only[Option.map_some,bu]
  have:=Nat.div_add_mod n c
  rw[Nat.mul_comm] at this
  rw[this,List.getD_eq_getElem?_getD,List.getElem?_eq_getElem (by omega)]
  rfl
 ·rw[List.getElem?_eq_none (by simp;omega),List.getElem?_eq_none (by omega)]
  rfl
theorem kD {r c i j:Nat} (M:Nat->Nat->Int) (hi:i<r) (hj:j<c):bu c (ai r c M) i j=M i j:=by
 unfold bu
 rw[List.getD_eq_getElem?_getD,G7 M hi hj]
 rfl
theorem adA (r c:Nat) (x:Int):cR (r*c) x=ai r c (fun _ _=>x):=by
 unfold ai cR
 rw[List.map_const',List.length_range]
theorem nw {i c j:Nat} (hi:i<=1048576) (hc:c<=1048576) (hj:j<=1048576):aM .i64 (cz .i64 (i:Int) (c:Int)) (j:Int)=((i*c+j:Nat):Int):=by
 have h1:i*c<=1048576*1048576:=Nat.mul_le_mul hi hc
 have e:(i:Int)*(c:Int)=((i*c:Nat):Int):=by norm_cast
 rw[cz,yO (by omega) (by omega),jS (by omega) (by omega),e]
 omega
theorem ahm {i c:Nat} (hi:i<=1048576) (hc:c<=1048576):cz .i64 (i:Int) (c:Int)=((i*c:Nat):Int):=by
 have h1:i*c<=1048576*1048576:=Nat.mul_le_mul hi hc
 have e:(i:Int)*(c:Int)=((i*c:Nat):Int):=by norm_cast
 rw[cz,yO (by omega) (by omega),e]
theorem xA {r c i j:Nat} (M:Nat->Nat->Int) (hi:i<r) (hj:j<c):dz (ai r c M) ((i*c+j:Nat):Int)=some (M i j):=by rw[fF,G7 M hi hj]
theorem nR {r c i j:Nat} (M:Nat->Nat->Int) (hi:i<r) (hj:j<c):dT ((i*c+j:Nat):Int) (J (ai r c M))=some (i*c+j):=zr (by unfold J;rw[jz];exact WW hi hj)
theorem nY {r c i j:Nat} (M:Nat->Nat->Int) (hi:i<r) (hj:j<c):dg (ai r c M) (i*c+j)=some (M i j):=G7 M hi hj
theorem Bj {r c i j:Nat} (M:Nat->Nat->Int) (hj:j<c) (x:Int):bI (ai r c M) (i*c+j) x=ai r c (kf M i j x):=VG M hj x
theorem AA (r c:Nat) (M:Nat->Nat->Int):J (ai r c M)=r*c:=jz r c M
theorem jW (r c:Nat) (M M':Nat->Nat->Int):ae 0 (J (ai r c M)) (J (ai r c M'))=some ():=by rw[AA,AA];exact bq _
theorem DT (r c:Nat) (M M':Nat->Nat->Int):oD (J (ai r c M)) (J (ai r c M'))=some ():=by rw[AA,AA];exact Bf rfl
theorem ID {a p:Int} (ha:0<=a) (hp:0<p):gQ a p=some (a%p):=by
 unfold gQ
 rw[if_neg (by omega),Int.tmod_eq_emod_of_nonneg ha]
theorem dY {i n:Nat} (h:i<n):bc (i:Int) (n:Int)=true:=gC (by omega)
theorem eA {i n:Nat} (h:n<=i):bc (i:Int) (n:Int)=false:=fh (by omega)
theorem dI {i:Nat} (h:i<=1048577):aM .i64 (i:Int) 1=((i+1:Nat):Int):=by rw[jS (by omega) (by omega)];omega
def di (p:Int):Prop:=2<=p/\p<=1000003
instance (p:Int):Decidable (di p):=inferInstanceAs (Decidable (2<=p/\p<=1000003))
def fZ (p x:Int):Prop:=0<=x/\x<p
instance (p x:Int):Decidable (fZ p x):=inferInstanceAs (Decidable (0<=x/\x<p))
theorem sa {p:Int} (hp:di p) (a:Int):fZ p (a%p):=⟨Int.emod_nonneg _ (by have:=hp.1;omega),Int.emod_lt_of_pos _ (by have:=hp.1;omega)⟩
theorem fZ.le {p x:Int} (h:fZ p x):0<=x/\x<=p:=⟨h.1,Int.le_of_lt h.2⟩
theorem fZ.s {p x:Int} (hp:di p) (h:fZ p x):0<=x/\x<=1000003000000:=⟨h.1,by have:=h.2;have:=hp.2;omega⟩
theorem PN {p a b:Int} (hp:di p) (ha:0<=a/\a<=p) (hb:0<=b/\b<=p):0<=a*b/\a*b<=1000006000009:=by
 refine⟨Int.mul_nonneg ha.1 hb.1,?_⟩
 have h1:=hp.2
 have:=Int.mul_le_mul (show a<=1000003 by omega) (show b<=1000003 by omega) hb.1 (by omega)
 omega
theorem XX {p a b:Int} (hp:di p) (ha:0<=a/\a<=p) (hb:0<=b/\b<=p):cz .i64 a b=a*b:=by
 have:=PN hp ha hb
 exact yO (by omega) (by omega)
theorem Dt {p s a b:Int} (hp:di p) (hs:0<=s/\s<=1000003000000) (ha:0<=a/\a<=p) (hb:0<=b/\b<=p):gQ (aM .i64 s (cz .i64 a b)) p=some ((s+a*b)%p):=by
 have h:=PN hp ha hb
 rw[XX hp ha hb,jS (by omega) (by omega),ID (by omega) (by have:=hp.1;omega)]
theorem AJ {p a b:Int} (hp:di p) (ha:0<=a/\a<=p) (hb:0<=b/\b<=p):gQ (cz .i64 a b) p=some (a*b%p):=by
 have h:=PN hp ha hb
 rw[XX hp ha hb,ID h.1 (by have:=hp.1;omega)]
def nc (p:Int) (f g:Nat->Int):Nat->Int
 |0=>0
 |n+1=>(nc p f g n+f n*g n)%p
theorem GD {p:Int} (hp:di p) (f g:Nat->Int):∀n,fZ p (nc p f g n)
 |0=>⟨Int.le_refl _,by have:=hp.1;show(0:Int)<p;omega⟩
 |n+1=>sa hp _
def du (p:Int) (k:Nat) (A B:Nat->Nat->Int):Nat->Nat->Int:=fun i j=>nc p (fun t=>A i t) (fun t=>B t j) k
def cY (p:Int) (r c:Nat) (M:Nat->Nat->Int):Prop:=∀i,i<r->∀j,j<c->fZ p (M i j)
def fw (p:Int) (l:List Int):Prop:=∀x∈l,fZ p x
instance (p:Int) (l:List Int):Decidable (fw p l):=inferInstanceAs (Decidable (∀x∈l,fZ p x))
theorem jU {p:Int} {r c:Nat} {M:Nat->Nat->Int}:fw p (ai r c M)↔cY p r c M:=by
 constructor
 ·intro h i hi j hj
  exact h _ (List.mem_of_getElem? (G7 M hi hj))
 ·intro h x hx
  unfold ai at hx
  obtain⟨n,hn,rfl⟩:=List.mem_map.1 hx
  have hn:=List.mem_range.1 hn
  have hc:0<c:=by
   rcases Nat.eq_zero_or_pos c with h|h
   ·subst h;simp at hn
   ·exact h
  exact h _ ((Nat.div_lt_iff_lt_mul hc).2 hn) _ (Nat.mod_lt _ hc)
def mO (x:Int×Int×List Int):Prop:=(0<=x.1/\x.1<=4096)/\(0<=x.2.1/\x.2.1<=4096)/\(x.2.2.length:Int)=x.1*x.2.1/\x.2.2.length<=1048576
instance (x:Int×Int×List Int):Decidable (mO x):=by unfold mO;infer_instance
theorem ql {x:Int×Int×List Int} (h:mO x):∃(r c:Nat) (M:Nat->Nat->Int),x=((r:Int),(c:Int),ai r c M)/\r<=4096/\c<=4096/\r*c<=1048576:=by
 obtain⟨r,c,l⟩:=x
 obtain⟨h1,h2,h3,h4⟩:=h
 simp only at h1 h2 h3 h4
 obtain⟨r,rfl⟩:=jn h1.1
 obtain⟨c,rfl⟩:=jn h2.1
 have e:l.length=r*c:=by
  have:((r:Int)*(c:Int))=((r*c:Nat):Int):=by norm_cast
  rw[this] at h3;exact_mod_cast h3
 exact⟨r,c,bu c l,by rw[pT e],by omega,by omega,by omega⟩
theorem uw {r c:Nat} (M:Nat->Nat->Int) (hr:r<=4096) (hc:c<=4096) (h:r*c<=1048576):mO ((r:Int),(c:Int),ai r c M):=by
 refine⟨⟨by omega,by show(r:Int)<=4096;omega⟩,⟨by show(0:Int)<=c;omega,by show(c:Int)<=4096;omega⟩,?_,?_⟩
 ·simp only[jz];norm_cast
 ·simp only[jz];exact h
end Go.Am
end
section
namespace Go.Am
def pM (n:Int) (i:Nat):Bool:=decide ((i:Int)*i<=n)&&decide (n%(i:Int)=0)
def f0 (n:Int):Bool:=decide (2<=n/\n<=1000003)&& !((List.range' 2 999).any (pM n))
def uZ:Int->Option Bool:=fun(n:Int)=>some (f0 n)
def uV:Int->Option Bool:=fun(n:Int)=>some (f0 n)
def vU (m:Int) (v:Int):Bool:=decide (0<=v/\v<m)
def kc (m:Int) (l:List Int):Bool:=l.all (vU m)
def rJ:Int×List Int->Option Bool:=fun((m,l):Int×List Int)=>if l.length<=1048576 then some (kc m l) else none
def u6:Int×List Int×Int->Option Bool:=fun((m,l,n):Int×List Int×Int)=>if(1<=m/\m<=1000003)/\l.length<=1048576 then some (kc m l&&decide ((l.length:Int)=n)) else none
def ou (m:Int) (x:Int×Int×List Int):Bool:=f0 m&&(decide (0<=x.1/\x.1<=64)&&(decide (0<=x.2.1/\x.2.1<=64)&&(decide ((x.2.2.length:Int)=x.1*x.2.1)&&kc m x.2.2)))
def wW:Int×Int×Int×List Int->Option Bool:=fun((m,x):Int×Int×Int×List Int)=>if gR x<=1048576 then some (ou m x) else none
def wR:Int×Int×Int×List Int->Option Bool:=fun((m,x):Int×Int×Int×List Int)=>if gR x<=1048576 then some (ou m x) else none
def rr (m n:Int) (x:Int×Int×List Int):Bool:=ou m x&&(decide (x.1=n)&&decide (x.2.1=n))
def gG (x:Int×Int×List Int×List (Int×Int×List Int)×List Int):Bool:=match x with
 |(m,n,a,ms,b)=>f0 m&&(decide (0<=n/\n<=12)&&((kc m a&&decide ((a.length:Int)=n))&&((kc m b&&decide ((b.length:Int)=n))&&(decide (1<=ms.length/\ms.length<=4)&&ms.all (rr m n)))))
def tg:Int×Int×List Int×List (Int×Int×List Int)×List Int->Option Bool:=fun x=>if fR x<=1048576 then some (gG x) else none
def s9:Int×Int×List Int×List (Int×Int×List Int)×List Int->Option Bool:=fun x=>if fR x<=1048576 then some (gG x) else none
def FK:ao:=[(.one,[.int .i64])]
def QK:ao:=[(.one,[.bool])]
def ag2:aW:=[]
def F6:ao:=[(.one,[.int .i64]),(.one,[.list [.int .i64]]),(.one,[.int .i64])]
def Q2:ao:=[(.one,[.bool])]
def ahi:aW:=[]
def FL:ao:=[(.one,[.int .i64]),(.agg,[.int .i64,.int .i64,.list [.int .i64]])]
def QL:ao:=[(.one,[.bool])]
def ag3:aW:=[]
def FJ:ao:=[(.agg,[.int .i64,.int .i64,.list [.int .i64],.list [.int .i64,.int .i64,.list [.int .i64]],.list [.int .i64]])]
def QJ:ao:=[(.one,[.bool])]
def ag1:aW:=[]
def E4:ao:=[(.one,[.int .i64])]
def P6:ao:=[(.one,[.bool])]
def agu:aW:=[]
def Ff:ao:=[(.one,[.int .i64]),(.one,[.list [.int .i64]])]
def Qg:ao:=[(.one,[.bool])]
def agB:aW:=[]
def E5:ao:=[(.one,[.int .i64]),(.agg,[.int .i64,.int .i64,.list [.int .i64]])]
def P7:ao:=[(.one,[.bool])]
def agv:aW:=[]
def E3:ao:=[(.agg,[.int .i64,.int .i64,.list [.int .i64],.list [.int .i64,.int .i64,.list [.int .i64]],.list [.int .i64]])]
def P5:ao:=[(.one,[.bool])]
def agt:aW:=[]
def J7 (NN:Nat):Int->(Option Bool):=
 (fun(i0:Int)=>
 bK (bf NN (fun((i1,i2):(Int×Int))=>
 aw (qk (cz .i64 i2 i2) i1)
 (aw (qk i1 (1000003:Int))
 ((gQ i1 i2).U (fun i3=>
 aw (lI i3 (0:Int))
 (some (Sum.inr (Sum.inr false)))
 (some (Sum.inl (i1,aM .i64 i2 1)))))
 (some (Sum.inr (Sum.inl i1))))
 (some (Sum.inr (Sum.inl i1))))
 (i0,(2:Int)))
 (fun i4=>
 (lx (i4,(2:Int),(1000003:Int))).U (fun b5=>
 some b5)))
def Kg (NN:Nat):(Int×((List Int)×Int))->(Option Bool):=
 (fun((i0,l1,i2):(Int×((List Int)×Int)))=>
 bK (bf NN (fun((i3,l4,i5,l6,i7,i8):(Int×((List Int)×(Int×((List Int)×(Int×Int))))))=>
 aw (bc i8 i7)
 ((dz l6 i8).U (fun i9=>
 (lx (i9,(0:Int),mf .i64 i3 1)).U (fun rV=>
 aw (eC rV)
 (some (Sum.inr (Sum.inr false)))
 (some (Sum.inl (i3,l4,i5,l6,i7,aM .i64 i8 1))))))
 (some (Sum.inr (Sum.inl (l4,i5)))))
 (i0,l1,i2,l1,aL (J l1),(0:Int)))
 (fun(lW,cq)=>
 some (lI (aL (J lW)) cq)))
def J8 (NN:Nat):(Int×(Int×(Int×(List Int))))->(Option Bool):=
 (fun((i0,i1,i2,l3):(Int×(Int×(Int×(List Int)))))=>
 (uZ i0).U (fun b4=>
 aw (eC b4)
 (some false)
 ((lx (i1,(0:Int),(64:Int))).U (fun b5=>
 aw (eC b5)
 (some false)
 ((lx (i2,(0:Int),(64:Int))).U (fun b6=>
 aw (eC b6)
 (some false)
 (aw (dB (aL (J l3)) (cz .i64 i1 i2))
 (some false)
 (bK (bf NN (fun((i7,l8,i9,bS):(Int×((List Int)×(Int×Int))))=>
 aw (bc bS i9)
 ((dz l8 bS).U (fun bZ=>
 (lx (bZ,(0:Int),mf .i64 i7 1)).U (fun Kt=>
 aw (eC Kt)
 (some (Sum.inr (Sum.inr false)))
 (some (Sum.inl (i7,l8,i9,aM .i64 bS 1))))))
 (some (Sum.inr (Sum.inl ()))))
 (i0,l3,aL (J l3),(0:Int)))
 (fun _=>
 some true)))))))))
def J6 (NN:Nat):(Int×(Int×((List Int)×((List (Int×(Int×(List Int))))×(List Int)))))->(Option Bool):=
 (fun((i0,i1,l2,l3,l4):(Int×(Int×((List Int)×((List (Int×(Int×(List Int))))×(List Int))))))=>
 (uZ i0).U (fun b5=>
 aw (eC b5)
 (some false)
 ((lx (i1,(0:Int),(12:Int))).U (fun b6=>
 aw (eC b6)
 (some false)
 ((u6 (i0,l2,i1)).U (fun b7=>
 aw (eC b7)
 (some false)
 ((u6 (i0,l4,i1)).U (fun b8=>
 aw (eC b8)
 (some false)
 ((lx (aL (J l3),(1:Int),(4:Int))).U (fun b9=>
 aw (eC b9)
 (some false)
 (bK (bf NN (fun(((fA,bZ,cq),cO,db,bJ,cg,bB):(((List (Int×(Int×(List Int))))×(Int×Int))×(Int×(Int×((List Int)×((List (Int×(Int×(List Int))))×(List Int)))))))=>
 aw (bc cq bZ)
 ((dz fA cq).U (fun(dX,cX,ff)=>
 (wW (cO,dX,cX,ff)).U (fun b21=>
 aw (eC b21)
 (some (Sum.inr (Sum.inr false)))
 (aw (dB dX db)
 (some (Sum.inr (Sum.inr false)))
 (aw (dB cX db)
 (some (Sum.inr (Sum.inr false)))
 (some (Sum.inl ((fA,bZ,aM .i64 cq 1),cO,db,bJ,cg,bB))))))))
 (some (Sum.inr (Sum.inl ()))))
 ((l3,aL (J l3),(0:Int)),i0,i1,l2,l3,l4))
 (fun _=>
 some true))))))))))))
def JH (NN:Nat):Int->(Option Bool):=
 (fun(i0:Int)=>
 aw (bc i0 (2:Int))
 (some false)
 (aw (bc (1000003:Int) i0)
 (some false)
 (bK (bf NN (fun((i1,i2):(Int×Int))=>
 aw (qk (cz .i64 i2 i2) i1)
 ((gQ i1 i2).U (fun i3=>
 aw (lI i3 (0:Int))
 (some (Sum.inr (Sum.inr false)))
 (some (Sum.inl (i1,aM .i64 i2 1)))))
 (some (Sum.inr (Sum.inl ()))))
 (i0,(2:Int)))
 (fun _=>
 some true))))
def JL (NN:Nat):(Int×(List Int))->(Option Bool):=
 (fun((i0,l1):(Int×(List Int)))=>
 bK (bf NN (fun((i2,l3,i4,i5):(Int×((List Int)×(Int×Int))))=>
 aw (bc i5 i4)
 ((dz l3 i5).U (fun i6=>
 aw (bc i6 (0:Int))
 (some (Sum.inr (Sum.inr false)))
 (aw (qk i2 i6)
 (some (Sum.inr (Sum.inr false)))
 (some (Sum.inl (i2,l3,i4,aM .i64 i5 1))))))
 (some (Sum.inr (Sum.inl ()))))
 (i0,l1,aL (J l1),(0:Int)))
 (fun _=>
 some true))
def JI (NN:Nat):(Int×(Int×(Int×(List Int))))->(Option Bool):=
 (fun((i0,i1,i2,l3):(Int×(Int×(Int×(List Int)))))=>
 (uV i0).U (fun b4=>
 aw (eC b4)
 (some false)
 (aw (bc i1 (0:Int))
 (some false)
 (aw (bc i2 (0:Int))
 (some false)
 (aw (bc (64:Int) i1)
 (some false)
 (aw (bc (64:Int) i2)
 (some false)
 (aw (lI (aL (J l3)) (cz .i64 i1 i2))
 ((rJ (i0,l3)).U (fun b5=>
 some b5))
 (some false))))))))
def JG (NN:Nat):(Int×(Int×((List Int)×((List (Int×(Int×(List Int))))×(List Int)))))->(Option Bool):=
 (fun((i0,i1,l2,l3,l4):(Int×(Int×((List Int)×((List (Int×(Int×(List Int))))×(List Int))))))=>
 (uV i0).U (fun b5=>
 aw (eC b5)
 (some false)
 (aw (bc i1 (0:Int))
 (some false)
 (aw (bc (12:Int) i1)
 (some false)
 (aw (dB (aL (J l2)) i1)
 (some false)
 (aw (dB (aL (J l4)) i1)
 (some false)
 ((rJ (i0,l2)).U (fun b6=>
 aw (eC b6)
 (some false)
 ((rJ (i0,l4)).U (fun b7=>
 aw (eC b7)
 (some false)
 (aw (bc (aL (J l3)) (1:Int))
 (some false)
 (aw (bc (4:Int) (aL (J l3)))
 (some false)
 (bK (bf NN (fun(((l8,i9,bS),bZ,cq,iA,c8,bJ):(((List (Int×(Int×(List Int))))×(Int×Int))×(Int×(Int×((List Int)×((List (Int×(Int×(List Int))))×(List Int)))))))=>
 aw (bc bS i9)
 ((dz l8 bS).U (fun(ed,jg,c9)=>
 (wR (bZ,ed,jg,c9)).U (fun b19=>
 aw (eC b19)
 (some (Sum.inr (Sum.inr false)))
 (aw (dB ed cq)
 (some (Sum.inr (Sum.inr false)))
 (aw (dB jg cq)
 (some (Sum.inr (Sum.inr false)))
 (some (Sum.inl ((l8,i9,aM .i64 bS 1),bZ,cq,iA,c8,bJ))))))))
 (some (Sum.inr (Sum.inl ()))))
 ((l3,aL (J l3),(0:Int)),i0,i1,l2,l3,l4))
 (fun _=>
 some true))))))))))))))
theorem qp {a b:Int} (h1: -9223372036854775808<=a*b) (h2:a*b<=9223372036854775807):cz .i64 a b=a*b:=yO h1 h2
theorem IC {n:Int} {i:Nat} (hn:0<=n) (hi:0<i):gQ n (i:Int)=some (n%(i:Int)):=by
 unfold gQ
 rw[if_neg (by omega),Int.tmod_eq_emod_of_nonneg hn]
theorem SJ {i j:Nat} (h:i<=j):(i:Int)*i<=(j:Int)*j:=by
 have:=Nat.mul_le_mul h h
 exact_mod_cast this
theorem UJ {X Y:Type} {f:X->Option (X⊕(Y⊕Bool))} (n:Int) (mk:Nat->X) (r:Y) (hn:n<=1000003)
  (h1:∀i:Nat,2<=i->i<=1001->(i:Int)*i<=n->n%(i:Int)=0->f (mk i)=some (.inr (.inr false)))
  (h2:∀i:Nat,2<=i->i<=1001->(i:Int)*i<=n->n%(i:Int)≠0->f (mk i)=some (.inl (mk (i+1))))
  (h3:∀i:Nat,2<=i->i<=1001->¬(i:Int)*i<=n->f (mk i)=some (.inr (.inl r))) {x0:X} (hx:x0=mk 2):
  bf aA f x0=some (if(List.range' 2 999).any (pM n)=true then .inr false else .inl r):=by
 subst hx
 have cP:∀(d i:Nat),2<=i->i+d=1001->∀N,d<N->bf N f (mk i)=some (if(List.range' i d).any (pM n)=true then .inr false else .inl r):=by
  intro d
  induction d with
  |zero=>
   intro i hi hd N hN
   obtain⟨N,rfl⟩:∃M,N=M+1:=⟨N - 1,by omega⟩
   have:i=1001:=by omega
   subst this
   rw[bf,h3 1001 (by omega) (by omega) (by omega)]
   rfl
  |succ d ih=>
   intro i hi hd N hN
   obtain⟨N,rfl⟩:∃M,N=M+1:=⟨N - 1,by omega⟩
   rw[List.range'_succ,List.any_cons]
   by_cases gi:(i:Int)*i<=n
   ·by_cases hm:n%(i:Int)=0
    ·rw[bf,h1 i hi (by omega) gi hm]
     simp[pM,gi,hm]
    ·rw[bf,h2 i hi (by omega) gi hm]
     simp only
     rw[ih (i+1) (by omega) (by omega) N (by omega),show pM n i=false by simp[pM,hm],Bool.false_or]
   ·rw[bf,h3 i hi (by omega) gi]
    have:(List.range' (i+1) d).any (pM n)=false:=by
     rw[List.any_eq_false]
     intro j hj
     have:=(List.mem_range'_1.1 hj).1
     have:=SJ (show i<=j by omega)
     simp only[pM,Bool.and_eq_true,decide_eq_true_eq,not_and]
     intro h;omega
    simp only
    rw[this]
    simp[pM,gi]
 exact cP 999 2 (by omega) (by omega) aA (cG (by omega))
theorem Bw {i:Nat} (h:i<=1001):0<=(i:Int)*i/\(i:Int)*i<=1002001:=by
 have h1:=SJ h
 have h0:=SJ (Nat.zero_le i)
 omega
theorem acR (x:Int) (y:Bool) (h:uZ x=some y):J7 aA x=some y:=by
 rw[<-h]
 simp only[uZ,J7]
 by_cases hx:x<=1000003
 ·rw[UJ x (fun i=>(x,(i:Int))) x hx ?_ ?_ ?_ ?_]
  ·by_cases hd:(List.range' 2 999).any (pM x)=true
   ·rw[if_pos hd,HT,f0,hd]
    simp
   ·rw[if_neg hd,cK,f0]
    simp only[lx,au]
    simp[hd]
  all_goals try simp only
  ·intro i h2 hi gi hm
   have hs:=Bw hi
   rw[qp (by omega) (by omega),aT (uv gi),aT (uv hx),IC (by omega) (by omega),au,aT (xq hm)]
  ·intro i h2 hi gi hm
   have hs:=Bw hi
   rw[qp (by omega) (by omega),aT (uv gi),aT (uv hx),IC (by omega) (by omega),au,aS (xp hm),jS (by omega) (by omega)]
   rfl
  ·intro i h2 hi gi
   have hs:=Bw hi
   rw[qp (by omega) (by omega),aS (Dr (by omega))]
  ·rfl
 ·rw[dP (fun i=>(x,(i:Int)+2)) (r:=Sum.inl x) 0 (fun j hj=>by omega) ?_ ?_ (cG (by omega))]
  ·rw[cK,f0]
   simp only[lx,au]
   have:¬(2<=x/\x<=1000003):=by omega
   simp[this]
  ·simp only
   rw[aT (uv (by rw[qp (by omega) (by omega)];omega)),aS (Dr (by omega))]
  ·rfl
theorem aca (x:Int) (y:Bool) (h:uV x=some y):JH aA x=some y:=by
 rw[<-h]
 simp only[uV,JH]
 by_cases h2:x<2
 ·rw[aT (gC h2),f0,decide_eq_false (by omega)];rfl
 rw[aS (fh (by omega))]
 by_cases hx:1000003<x
 ·rw[aT (gC hx),f0,decide_eq_false (by omega)];rfl
 rw[aS (fh (by omega))]
 rw[UJ x (fun i=>(x,(i:Int))) () (by omega) ?_ ?_ ?_ ?_]
 ·have hr:(2<=x/\x<=1000003):=by omega
  by_cases hd:(List.range' 2 999).any (pM x)=true
  ·rw[if_pos hd,HT,f0,hd]
   simp
  ·rw[if_neg hd,cK,f0]
   simp[hd,hr]
 all_goals try simp only
 ·intro i h2 hi gi hm
  have hs:=Bw hi
  rw[qp (by omega) (by omega),aT (uv gi),IC (by omega) (by omega),au,aT (xq hm)]
 ·intro i h2 hi gi hm
  have hs:=Bw hi
  rw[qp (by omega) (by omega),aT (uv gi),IC (by omega) (by omega),au,aS (xp hm),jS (by omega) (by omega)]
  rfl
 ·intro i h2 hi gi
  have hs:=Bw hi
  rw[qp (by omega) (by omega),aS (Dr (by omega))]
 ·rfl
theorem acm (x:Int×List Int) (y:Bool) (h:rJ x=some y):JL aA x=some y:=by
 obtain⟨m,l⟩:=x
 simp only[rJ] at h
 split at h
 ·rename_i hl
  rw[<-h]
  simp only[JL]
  rw[AE (mk:=fun i=>(m,l,aL (J l),(i:Int))) l (vU m) (Sum.inr false) (Sum.inl ()) ?_ ?_ ?_ ?_ (cG (by omega))]
  ·unfold kc
   cases l.all (vU m)<;>rfl
  all_goals try simp only
  ·intro i a ha hp
   have hp:=of_decide_eq_true hp
   rw[aT (iR ha),fF,ha,au,aS (fh (by omega)),aS (Dr (by omega)),mR ha (by omega)]
  ·intro i a ha hp
   have hp:=of_decide_eq_false hp
   rw[aT (iR ha),fF,ha,au]
   by_cases h0:a<0
   ·rw[aT (gC h0)]
   ·rw[aS (fh (by omega)),aT (uv (by omega))]
  ·rw[aS (ot l)]
  ·rfl
 ·cases h
theorem ac8 (x:Int×List Int×Int) (y:Bool) (h:u6 x=some y):Kg aA x=some y:=by
 obtain⟨m,l,n⟩:=x
 simp only[u6] at h
 split at h
 ·rename_i hl
  obtain⟨hm,hl⟩:=hl
  rw[<-h]
  simp only[Kg]
  rw[AE (mk:=fun i=>(m,l,n,l,aL (J l),(i:Int))) l (vU m) (Sum.inr false) (Sum.inl (l,n)) ?_ ?_ ?_ ?_ (cG (by omega))]
  ·unfold kc
   cases l.all (vU m)
   ·rfl
   ·rw[if_pos rfl,cK]
    simp only[Bool.true_and]
    rfl
  all_goals try simp only
  ·intro i a ha hp
   have hp:=of_decide_eq_true hp
   rw[aT (iR ha),fF,ha,au,rD (by omega) (by omega)]
   simp only[lx,au]
   rw[aS (AV (by omega)),mR ha (by omega)]
  ·intro i a ha hp
   have hp:=of_decide_eq_false hp
   rw[aT (iR ha),fF,ha,au,rD (by omega) (by omega)]
   simp only[lx,au]
   rw[aT (AU (by omega))]
  ·rw[aS (ot l)]
  ·rfl
 ·cases h
theorem sI {m:Int} (h:f0 m=true):2<=m/\m<=1000003:=by
 simp only[f0,Bool.and_eq_true,decide_eq_true_eq] at h
 exact h.1
theorem acb (x:Int×Int×Int×List Int) (y:Bool) (h:wR x=some y):JI aA x=some y:=by
 obtain⟨m,r,c,l⟩:=x
 simp only[wR] at h
 split at h
 ·rename_i hl
  rw[<-h]
  have hl:l.length<=1048576:=hl
  simp only[JI,uV,au,ou]
  cases hp:f0 m with
  |false=>rfl
  |true=>
   rw[aS (by rfl),Bool.true_and]
   by_cases h1:r<0
   ·rw[aT (gC h1),decide_eq_false (by omega)];rfl
   rw[aS (fh (by omega))]
   by_cases h2:c<0
   ·rw[aT (gC h2),decide_eq_false (p:=0<=c/\c<=64) (by omega)];simp
   rw[aS (fh (by omega))]
   by_cases h3:64<r
   ·rw[aT (gC h3),decide_eq_false (by omega)];rfl
   rw[aS (fh (by omega))]
   by_cases h4:64<c
   ·rw[aT (gC h4),decide_eq_false (p:=0<=c/\c<=64) (by omega)];simp
   rw[aS (fh (by omega)),decide_eq_true (p:=0<=r/\r<=64) (by omega),decide_eq_true (p:=0<=c/\c<=64) (by omega),Bool.true_and,Bool.true_and]
   obtain⟨r,rfl⟩:=jn (z:=r) (by omega)
   obtain⟨c,rfl⟩:=jn (z:=c) (by omega)
   have dh:r*c<=64*64:=Nat.mul_le_mul (by omega) (by omega)
   have aei:(r:Int)*(c:Int)=((r*c:Nat):Int):=by norm_cast
   rw[qp (by omega) (by omega),show rJ (m,l)=some (kc m l) from if_pos hl]
   by_cases h5:(l.length:Int)=(r:Int)*c
   ·rw[aT (show lI (aL (J l)) _=true from xq h5),decide_eq_true h5];rfl
   ·rw[aS (show lI (aL (J l)) _=false from xp h5),decide_eq_false h5];rfl
 ·cases h
theorem acS (x:Int×Int×Int×List Int) (y:Bool) (h:wW x=some y):J8 aA x=some y:=by
 obtain⟨m,r,c,l⟩:=x
 simp only[wW] at h
 split at h
 ·rename_i hl
  rw[<-h]
  have hl:l.length<=1048576:=hl
  simp only[J8,uZ,lx,au,ou]
  cases hp:f0 m with
  |false=>rfl
  |true=>
   obtain⟨jc,iF⟩:=sI hp
   rw[aS (by rfl),Bool.true_and]
   by_cases h1:0<=r/\r<=64
   rotate_left
   ·rw[aT (AU h1),decide_eq_false h1];rfl
   rw[aS (AV h1),decide_eq_true h1,Bool.true_and]
   by_cases h2:0<=c/\c<=64
   rotate_left
   ·rw[aT (AU h2),decide_eq_false h2];rfl
   rw[aS (AV h2),decide_eq_true h2,Bool.true_and]
   obtain⟨r,rfl⟩:=jn (z:=r) (by omega)
   obtain⟨c,rfl⟩:=jn (z:=c) (by omega)
   have dh:r*c<=64*64:=Nat.mul_le_mul (by omega) (by omega)
   have aei:(r:Int)*(c:Int)=((r*c:Nat):Int):=by norm_cast
   rw[qp (by omega) (by omega)]
   by_cases h5:(l.length:Int)=(r:Int)*c
   rotate_left
   ·rw[aT (show dB (aL (J l)) _=true from mQ h5),decide_eq_false h5];rfl
   rw[aS (show dB (aL (J l)) _=false from kC h5),decide_eq_true h5,Bool.true_and]
   rw[AE (mk:=fun i=>(m,l,aL (J l),(i:Int))) l (vU m) (Sum.inr false) (Sum.inl ()) ?_ ?_ ?_ ?_ (cG (by omega))]
   ·unfold kc
    cases l.all (vU m)<;>rfl
   all_goals try simp only
   ·intro i a ha hp
    have hp:=of_decide_eq_true hp
    rw[aT (iR ha),fF,ha,au,rD (by omega) (by omega),aS (AV (by omega)),mR ha (by omega)]
   ·intro i a ha hp
    have hp:=of_decide_eq_false hp
    rw[aT (iR ha),fF,ha,au,rD (by omega) (by omega),aT (AU (by omega))]
   ·rw[aS (ot l)]
   ·rfl
 ·cases h
theorem ZX {m n:Int} {a:List Int} {ms:List (Int×Int×List Int)} {b:List Int} (h:fR (m,n,a,ms,b)<=1048576):a.length<=1048576/\b.length<=1048576/\ms.length<=1048576/\∀e∈ms,gR e<=1048576:=by
 have h1:a.length+gS ms+b.length<=1048576:=h
 have h2:=S9 (l:=ms) (by omega)
 exact⟨by omega,by omega,h2.1,h2.2⟩
theorem acQ (x:Int×Int×List Int×List (Int×Int×List Int)×List Int) (y:Bool) (h:tg x=some y):J6 aA x=some y:=by
 obtain⟨m,n,a,ms,b⟩:=x
 simp only[tg] at h
 split at h
 ·rename_i hl
  rw[<-h]
  obtain⟨ha,hb,hms,cU⟩:=ZX hl
  simp only[J6,uZ,lx,au,gG]
  cases hp:f0 m with
  |false=>rfl
  |true=>
   have hm:=sI hp
   rw[aS (by rfl),Bool.true_and]
   by_cases h1:0<=n/\n<=12
   rotate_left
   ·rw[aT (AU h1),decide_eq_false h1];rfl
   rw[aS (AV h1),decide_eq_true h1,Bool.true_and]
   rw[show u6 (m,a,n)=some (kc m a&&decide ((a.length:Int)=n)) from if_pos ⟨by omega,ha⟩,au]
   rw[show u6 (m,b,n)=some (kc m b&&decide ((b.length:Int)=n)) from if_pos ⟨by omega,hb⟩,au]
   cases (kc m a&&decide ((a.length:Int)=n)) with
   |false=>rfl
   |true=>
   rw[aS (by rfl),Bool.true_and]
   cases (kc m b&&decide ((b.length:Int)=n)) with
   |false=>rfl
   |true=>
   rw[aS (by rfl),Bool.true_and]
   by_cases h2:1<=ms.length/\ms.length<=4
   rotate_left
   ·rw[aT (AU (by have:=nl ms;omega)),decide_eq_false h2];rfl
   rw[aS (AV (by have:=nl ms;omega)),decide_eq_true h2,Bool.true_and]
   rw[AE (mk:=fun i=>((ms,aL (J ms),(i:Int)),m,n,a,ms,b)) ms (rr m n) (Sum.inr false) (Sum.inl ()) ?_ ?_ ?_ ?_ (cG (by omega))]
   ·cases ms.all (rr m n)<;>rfl
   all_goals try simp only
   ·rintro i ⟨r,c,l⟩ hi hp
    simp only[rr,Bool.and_eq_true,decide_eq_true_eq] at hp
    obtain⟨p1,p2,p3⟩:=hp
    rw[aT (iR hi),fF,hi,au]
    simp only
    rw[show wW (m,r,c,l)=some (ou m (r,c,l)) from if_pos (cU _ (List.mem_of_getElem? hi)),au,p1,aS (by rfl),aS (kC p2),aS (kC p3),mR hi (by omega)]
   ·rintro i ⟨r,c,l⟩ hi hp
    rw[aT (iR hi),fF,hi,au]
    simp only
    rw[show wW (m,r,c,l)=some (ou m (r,c,l)) from if_pos (cU _ (List.mem_of_getElem? hi)),au]
    cases p1:ou m (r,c,l) with
    |false=>rw[aT (by rfl)]
    |true=>
     rw[aS (by rfl)]
     by_cases p2:r=n
     ·rw[aS (kC p2)]
      by_cases p3:c=n
      ·simp[rr,p1,p2,p3] at hp
       rw[p2,p3] at p1
       rw[p1] at hp
       cases hp
      ·rw[aT (mQ p3)]
     ·rw[aT (mQ p2)]
   ·rw[aS (ot ms)]
   ·rfl
 ·cases h
theorem ab9 (x:Int×Int×List Int×List (Int×Int×List Int)×List Int) (y:Bool) (h:s9 x=some y):JG aA x=some y:=by
 obtain⟨m,n,a,ms,b⟩:=x
 simp only[s9] at h
 split at h
 ·rename_i hl
  rw[<-h]
  obtain⟨ha,hb,hms,cU⟩:=ZX hl
  simp only[JG,uV,au,gG]
  cases hp:f0 m with
  |false=>rfl
  |true=>
   have hm:=sI hp
   rw[aS (by rfl),Bool.true_and]
   by_cases h0:n<0
   ·rw[aT (gC h0),decide_eq_false (by omega)];rfl
   rw[aS (fh (by omega))]
   by_cases h1:12<n
   ·rw[aT (gC h1),decide_eq_false (by omega)];rfl
   rw[aS (fh (by omega)),decide_eq_true (p:=0<=n/\n<=12) (by omega),Bool.true_and]
   by_cases e1:(a.length:Int)=n
   rotate_left
   ·rw[aT (show dB (aL (J a)) _=true from mQ e1),decide_eq_false e1,Bool.and_false,Bool.false_and]
   rw[aS (show dB (aL (J a)) _=false from kC e1),decide_eq_true e1,Bool.and_true]
   by_cases e2:(b.length:Int)=n
   rotate_left
   ·rw[aT (show dB (aL (J b)) _=true from mQ e2),decide_eq_false e2,Bool.and_false,Bool.false_and,Bool.and_false]
   rw[aS (show dB (aL (J b)) _=false from kC e2),decide_eq_true e2,Bool.and_true]
   rw[show rJ (m,a)=some (kc m a) from if_pos ha,au]
   rw[show rJ (m,b)=some (kc m b) from if_pos hb,au]
   cases kc m a with
   |false=>rfl
   |true=>
   rw[aS (by rfl),Bool.true_and]
   cases kc m b with
   |false=>rfl
   |true=>
   rw[aS (by rfl),Bool.true_and]
   by_cases h2:ms.length<1
   ·rw[aT (gC (by have:=nl ms;omega)),decide_eq_false (by omega)];rfl
   rw[aS (fh (by have:=nl ms;omega))]
   by_cases h3:4<ms.length
   ·rw[aT (gC (by have:=nl ms;omega)),decide_eq_false (by omega)];rfl
   rw[aS (fh (by have:=nl ms;omega)),decide_eq_true (by omega),Bool.true_and]
   rw[AE (mk:=fun i=>((ms,aL (J ms),(i:Int)),m,n,a,ms,b)) ms (rr m n) (Sum.inr false) (Sum.inl ()) ?_ ?_ ?_ ?_ (cG (by omega))]
   ·cases ms.all (rr m n)<;>rfl
   all_goals try simp only
   ·rintro i ⟨r,c,l⟩ hi hp
    simp only[rr,Bool.and_eq_true,decide_eq_true_eq] at hp
    obtain⟨p1,p2,p3⟩:=hp
    rw[aT (iR hi),fF,hi,au]
    simp only
    rw[show wR (m,r,c,l)=some (ou m (r,c,l)) from if_pos (cU _ (List.mem_of_getElem? hi)),au,p1,aS (by rfl),aS (kC p2),aS (kC p3),mR hi (by omega)]
   ·rintro i ⟨r,c,l⟩ hi hp
    rw[aT (iR hi),fF,hi,au]
    simp only
    rw[show wR (m,r,c,l)=some (ou m (r,c,l)) from if_pos (cU _ (List.mem_of_getElem? hi)),au]
    cases p1:ou m (r,c,l) with
    |false=>rw[aT (by rfl)]
    |true=>
     rw[aS (by rfl)]
     by_cases p2:r=n
     ·rw[aS (kC p2)]
      by_cases p3:c=n
      ·simp[rr,p1,p2,p3] at hp
       rw[p2,p3] at p1
       rw[p1] at hp
       cases hp
      ·rw[aT (mQ p3)]
     ·rw[aT (mQ p2)]
   ·rw[aS (ot ms)]
   ·rfl
 ·cases h
end Go.Am
end
section
namespace Go.Am
def Bd:Int×Int×Int->Bool:=fun((k,p,n):Int×Int×Int)=>
 if k=1 then decide (p=0/\n=0) else if k=2 then f0 p&&decide (n=0) else if k=3\/k=4\/k=5 then decide ((1<=p/\p<=1000000)/\n=0)
 else if k=6 then decide (p=0/\1<=n/\n<=20) else if k=7 then f0 p&&decide (1<=n/\n<=6) else if k=8 then f0 p&&decide (p≠2/\n=0) else false
def rG:Int×Int×Int->Int:=fun((k,p,n):Int×Int×Int)=>if k=7 then n else if k=8 then 4 else 1
def iW (r:Int×Int×Int):Nat:=(rG r).toNat
def mY:Int×Int×Int->Int:=fun((k,p,n):Int×Int×Int)=>if k=1 then 1 else if k=3\/k=4\/k=5 then p else if k=6 then 2^n.toNat - 1 else p - 1
def WY (t v:Int):Bool:=decide (0<=v/\v<=t)
def zB (r:Int×Int×Int) (x:List Int):Bool:=decide (x.length=iW r)&&x.all (WY (mY r))
def AW:Int×Int×Int->List Int:=fun((k,p,n):Int×Int×Int)=>bI (cR (iW (k,p,n)) 0) 0 (if k=4 then 0 else if k=5\/k=6 then mY (k,p,n) else 1)
def sm:Nat->(Nat->Int)->Int
 |0,_=>0
 |n+1,f=>sm n f+f n
def kW (om:Bool) (x y:Nat->Int) (t i j:Nat):Int:=if i+j=t then x i*y j else if om=true/\i+j=t+4 then -(x i*y j) else 0
def oE (w:Nat) (f:Nat->Int):List Int:=(List.range w).map f
def gY (x:List Int):Nat->Int:=fun i=>x.getD i 0
def KZ (p:Int) (om:Bool) (w:Nat) (x y:Nat->Int):List Int:=oE w fun t=>sm w (fun i=>sm w (fun j=>kW om x y t i j))%p
def PH:Int×Int×Int->Int->Int->Int:=fun((k,p,n):Int×Int×Int) a b=>
 if k=1\/k=6 then((a.toNat&&&b.toNat:Nat):Int) else if k=2 then a*b%p else if k=3 then min (a*b) p else if k=4 then min (a+b) p else min a b
def Ik (r:Int×Int×Int) (x y:List Int):List Int:=if r.1=7\/r.1=8 then KZ r.2.1 (decide (r.1=8)) (iW r) (gY x) (gY y) else[PH r (gY x 0) (gY y 0)]
theorem P1 {k p n:Int} (h:Bd (k,p,n)=true):(k=1/\p=0/\n=0)\/(k=2/\f0 p=true/\n=0)\/(k=3/\(1<=p/\p<=1000000)/\n=0)\/(k=4/\(1<=p/\p<=1000000)/\n=0)\/(k=5/\(1<=p/\p<=1000000)/\n=0)\/
  (k=6/\p=0/\1<=n/\n<=20)\/(k=7/\f0 p=true/\1<=n/\n<=6)\/(k=8/\f0 p=true/\p≠2/\n=0):=by
 simp only[Bd] at h
 by_cases h1:k=1
 ·rw[if_pos h1] at h;exact .inl ⟨h1,by simpa using h⟩
 rw[if_neg h1] at h
 by_cases h2:k=2
 ·rw[if_pos h2] at h;simp at h;exact .inr (.inl ⟨h2,h⟩)
 rw[if_neg h2] at h
 by_cases h3:k=3\/k=4\/k=5
 ·rw[if_pos h3] at h
  simp only[decide_eq_true_eq] at h
  rcases h3 with h3|h3|h3
  ·exact .inr (.inr (.inl ⟨h3,h⟩))
  ·exact .inr (.inr (.inr (.inl ⟨h3,h⟩)))
  ·exact .inr (.inr (.inr (.inr (.inl ⟨h3,h⟩))))
 rw[if_neg h3] at h
 by_cases h4:k=6
 ·rw[if_pos h4] at h;simp at h;exact .inr (.inr (.inr (.inr (.inr (.inl ⟨h4,h⟩)))))
 rw[if_neg h4] at h
 by_cases h5:k=7
 ·rw[if_pos h5] at h;simp at h;exact .inr (.inr (.inr (.inr (.inr (.inr (.inl ⟨h5,h⟩))))))
 rw[if_neg h5] at h
 by_cases h6:k=8
 ·rw[if_pos h6] at h;simp at h;exact .inr (.inr (.inr (.inr (.inr (.inr (.inr ⟨h6,h⟩))))))
 rw[if_neg h6] at h
 cases h
theorem alj {r:Int×Int×Int} (h:Bd r=true):rG r=(iW r:Int)/\1<=iW r/\iW r<=6:=by
 obtain⟨k,p,n⟩:=r
 rcases P1 h with⟨rfl,rfl,rfl⟩|⟨rfl,hp,rfl⟩|⟨rfl,hp,rfl⟩|⟨rfl,hp,rfl⟩|⟨rfl,hp,rfl⟩|⟨rfl,rfl,hn⟩|⟨rfl,hp,hn⟩|⟨rfl,hp,tV,rfl⟩
 ·simp[iW,rG]
 ·simp[iW,rG]
 ·simp[iW,rG]
 ·simp[iW,rG]
 ·simp[iW,rG]
 ·simp[iW,rG]
 ·simp[iW,rG];omega
 ·simp[iW,rG]
theorem ajK {w:Nat} {p:Int} (h:w=1):bI (cR w (0:Int)) 0 p=[p]:=by subst h;rfl
theorem En (w:Nat) (f:Nat->Int):(oE w f).length=w:=by simp[oE]
theorem Em {w j:Nat} (f:Nat->Int) (h:j<w):(oE w f)[j]? =some (f j):=by simp[oE,h]
theorem akU {w:Nat} {f g:Nat->Int} (h:∀j,j<w->f j=g j):oE w f=oE w g:=List.map_congr_left fun j hj=>h j (List.mem_range.1 hj)
theorem akX {w:Nat} (f:Nat->Int) (j:Nat) (v:Int):(oE w f).set j v=oE w (fun i=>if i=j then v else f i):=by
 apply List.ext_getElem?
 intro i
 by_cases hi:i<w
 ·rw[Em _ hi]
  by_cases hj:j=i
  ·subst hj
   rw[List.getElem?_set_self (by rw[En];exact hi),if_pos rfl]
  ·rw[List.getElem?_set_ne hj,Em _ hi,if_neg (fun e=>hj e.symm)]
 ·rw[List.getElem?_eq_none (by rw[List.length_set,En];omega),List.getElem?_eq_none (by rw[En];omega)]
theorem Vu {x:List Int} {j:Nat} (h:j<x.length):x[j]? =some (gY x j):=by
 rw[List.getElem?_eq_getElem h]
 simp[gY,List.getD_eq_getElem?_getD,List.getElem?_eq_getElem h]
theorem adg {w j:Nat} (f:Nat->Int) (h:j<w):gY (oE w f) j=f j:=by simp[gY,List.getD_eq_getElem?_getD,Em f h]
theorem akV {x:List Int} {w:Nat} (h:x.length=w):oE w (gY x)=x:=by
 subst h
 apply List.ext_getElem?
 intro i
 by_cases hi:i<x.length
 ·rw[Em _ hi,Vu hi]
 ·rw[List.getElem?_eq_none (by rw[En];omega),List.getElem?_eq_none (by omega)]
theorem akW (w:Nat) (c:Int):cR w c=oE w fun _=>c:=by
 apply List.ext_getElem?
 intro i
 by_cases hi:i<w
 ·rw[Em _ hi];simp[cR,hi]
 ·rw[List.getElem?_eq_none (by simp[cR];omega),List.getElem?_eq_none (by rw[En];omega)]
theorem UN {r:Int×Int×Int} {x:List Int} (h:zB r x=true):x.length=iW r:=by
 simp only[zB,Bool.and_eq_true,decide_eq_true_eq] at h;exact h.1
theorem UM {r:Int×Int×Int} {x:List Int} (h:zB r x=true) {j:Nat} (hj:j<iW r):0<=gY x j/\gY x j<=mY r:=by
 simp only[zB,Bool.and_eq_true,decide_eq_true_eq] at h
 have:=List.all_eq_true.1 h.2 (gY x j) (List.mem_of_getElem? (Vu (by rw[h.1];exact hj)))
 simpa[WY] using this
theorem abx {r:Int×Int×Int} {x:List Int} (h:zB r x=true) (hw:iW r=1):x=[gY x 0]/\0<=gY x 0/\gY x 0<=mY r:=by
 have hl:=UN h
 rw[hw] at hl
 match x,hl with
 |[a],_=>exact⟨rfl,UM h (j:=0) (by omega)⟩
theorem Bo {f g:Nat->Int}:∀{n:Nat},(∀i,i<n->f i=g i)->sm n f=sm n g
 |0,_=>rfl
 |n+1,h=>by simp only[sm];rw[Bo (n:=n) (fun i hi=>h i (by omega)),h n (by omega)]
structure TC (k p:Int) (w:Nat):Prop where
 ck:k=7\/k=8
 cp:2<=p/\p<=1000003
 cw:1<=w/\w<=6
 w8:k=8->w=4
theorem aa1 {k p n:Int} (h:Bd (k,p,n)=true) (hk:k=7\/k=8):TC k p (iW (k,p,n)):=by
 have hw:=alj h
 refine⟨hk,?_,hw.2,fun e=>by subst e;rfl⟩
 rcases P1 h with⟨rfl,rfl,rfl⟩|⟨rfl,hp,rfl⟩|⟨rfl,hp,rfl⟩|⟨rfl,hp,rfl⟩|⟨rfl,hp,rfl⟩|⟨rfl,rfl,hn⟩|⟨rfl,hp,hn⟩|⟨rfl,hp,tV,rfl⟩
 all_goals first|exact sI hp|(exfalso;omega)
theorem ahl {r:Int×Int×Int} {a b:Int} (h:¬(r.1=7\/r.1=8)):Ik r [a] [b]=[PH r a b]:=by simp only[Ik];rw[if_neg h];rfl
theorem aiE (k p n:Int):AW (k,p,n)=oE (iW (k,p,n)) fun j=>if j=0 then(if k=4 then 0 else if k=5\/k=6 then mY (k,p,n) else 1) else 0:=by
 simp only[AW]
 rw[akW]
 exact akX _ 0 _
end Go.Am
end
section
namespace Go.Am
def AQ (x:Int×Int):Prop:=(0<=x.1/\x.1<=4096)/\(0<=x.2/\x.2<=4096)/\x.1*x.2<=1048576
instance (x:Int×Int):Decidable (AQ x):=by unfold AQ;infer_instance
def rP:Int×Int->Option (Int×Int×List Int):=fun(x:Int×Int)=>if AQ x then some (x.1,x.2,ai x.1.toNat x.2.toNat fun _ _=>0) else none
def rI:Int×Int->Option (Int×Int×List Int):=fun(x:Int×Int)=>if AQ x then some (x.1,x.2,ai x.1.toNat x.2.toNat fun _ _=>0) else none
def jq:(Int×Int×List Int)×Int×Int->Option Int:=fun(x:(Int×Int×List Int)×Int×Int)=>
 if mO x.1/\(0<=x.2.1/\x.2.1<x.1.1)/\(0<=x.2.2/\x.2.2<x.1.2.1) then some (bu x.1.2.1.toNat x.1.2.2 x.2.1.toNat x.2.2.toNat) else none
def m6:(Int×Int×List Int)×Int×Int×Int->Option (List Int):=fun(x:(Int×Int×List Int)×Int×Int×Int)=>
 if mO x.1/\(0<=x.2.1/\x.2.1<x.1.1)/\(0<=x.2.2.1/\x.2.2.1<x.1.2.1) then some (ai x.1.1.toNat x.1.2.1.toNat (kf (bu x.1.2.1.toNat x.1.2.2) x.2.1.toNat x.2.2.1.toNat x.2.2.2)) else none
def e8 (M:Nat->Nat->Int) (a b:Nat):Nat->Nat->Int:=fun i j=>if i=a then M b j else if i=b then M a j else M i j
def rQ:(Int×Int×List Int)×Int×Int->Option (List Int):=fun(x:(Int×Int×List Int)×Int×Int)=>
 if mO x.1/\(0<=x.2.1/\x.2.1<x.1.1)/\(0<=x.2.2/\x.2.2<x.1.1) then some (ai x.1.1.toNat x.1.2.1.toNat (e8 (bu x.1.2.1.toNat x.1.2.2) x.2.1.toNat x.2.2.toNat)) else none
def yR:(Int×Int×List Int)×Int×Int->Option (List Int):=rQ
def oQ (p:Int) (M:Nat->Nat->Int) (i k:Nat) (f:Int):Nat->Nat->Int:=fun a j=>if a=i then(M i j+f*M k j)%p else M a j
def wS:(Int×Int×List Int)×Int×Int×Int×Int->Option (List Int):=fun(x:(Int×Int×List Int)×Int×Int×Int×Int)=>
 if mO x.1/\di x.2.1/\(0<=x.2.2.1/\x.2.2.1<x.1.1)/\(0<=x.2.2.2.1/\x.2.2.2.1<x.1.1)/\(0<=x.2.2.2.2/\x.2.2.2.2<=x.2.1)/\fw x.2.1 x.1.2.2 then
  some (ai x.1.1.toNat x.1.2.1.toNat (oQ x.2.1 (bu x.1.2.1.toNat x.1.2.2) x.2.2.1.toNat x.2.2.2.1.toNat x.2.2.2.2)) else none
def wX:Int×(Int×Int×List Int)×Int×Int×Int->Option (List Int):=fun(x:Int×(Int×Int×List Int)×Int×Int×Int)=>
 if mO x.2.1/\di x.1/\(0<=x.2.2.1/\x.2.2.1<x.2.1.1)/\(0<=x.2.2.2.1/\x.2.2.2.1<x.2.1.1)/\(0<=x.2.2.2.2/\x.2.2.2.2<=x.1)/\fw x.1 x.2.1.2.2 then
  some (ai x.2.1.1.toNat x.2.1.2.1.toNat (oQ x.1 (bu x.2.1.2.1.toNat x.2.1.2.2) x.2.2.1.toNat x.2.2.2.1.toNat (x.1 - x.2.2.2.2))) else none
def iV (M:Nat->Nat->Int) (j:Nat):Nat->Nat->Option Nat
 |0,_=>none
 |d+1,k=>if M k j=0 then iV M j d (k+1) else some k
def uA (o:Option Nat):Int:=match o with|some k=>(k:Int)|none=> -1
def wY:(Int×Int×List Int)×Int×Int->Option Int:=fun(x:(Int×Int×List Int)×Int×Int)=>
 if mO x.1/\(0<=x.2.1/\x.2.1<=x.1.1)/\(0<=x.2.2/\x.2.2<x.1.2.1) then some (uA (iV (bu x.1.2.1.toNat x.1.2.2) x.2.2.toNat (x.1.1 - x.2.1).toNat x.2.1.toNat)) else none
def iz (p out x:Int) (n:Nat):Int:=if h:n=0 then out else iz p (if n%2=1 then out*x%p else out) (x*x%p) (n/2)
termination_by n
decreasing_by omega
def u4:Int×Int->Option Int:=fun(x:Int×Int)=>if di x.1/\fZ x.1 x.2 then some (iz x.1 1 x.2 (x.1 - 2).toNat) else none
def yT:Int×Int->Option Int:=u4
def mh:List Int->Option (List Int):=fun(l:List Int)=>if l.length<=1099511627776 then some l else none
def mg:List Int->Option (List Int):=fun(l:List Int)=>if l.length<=1099511627776 then some l else none
def yS:Int×Int×List Int->Option (Int×Int×List Int):=fun(x:Int×Int×List Int)=>if x.2.2.length<=1099511627776 then some x else none
def qH (M:Nat->Nat->Int):Nat->Nat->Int:=fun i j=>M j i
def qK:Int×Int×List Int->Option (Int×Int×List Int):=fun(x:Int×Int×List Int)=>if mO x then some (x.2.1,x.1,ai x.2.1.toNat x.1.toNat (qH (bu x.2.1.toNat x.2.2))) else none
def yV:Int×Int×List Int->Option (Int×Int×List Int):=qK
def Dx (x:Int×(Int×Int×List Int)×(Int×Int×List Int)):Prop:=di x.1/\mO x.2.1/\mO x.2.2/\x.2.1.2.1=x.2.2.1/\x.2.1.1*x.2.2.2.1<=1048576/\fw x.1 x.2.1.2.2/\fw x.1 x.2.2.2.2
instance (x:Int×(Int×Int×List Int)×(Int×Int×List Int)):Decidable (Dx x):=by unfold Dx;infer_instance
def nL:Int×(Int×Int×List Int)×(Int×Int×List Int)->Option (Int×Int×List Int):=fun(x:Int×(Int×Int×List Int)×(Int×Int×List Int))=>
 if Dx x then some (x.2.1.1,x.2.2.2.1,ai x.2.1.1.toNat x.2.2.2.1.toNat (du x.1 x.2.1.2.1.toNat (bu x.2.1.2.1.toNat x.2.1.2.2) (bu x.2.2.2.1.toNat x.2.2.2.2))) else none
def rK:Int×(Int×Int×List Int)×(Int×Int×List Int)->Option (Int×Int×List Int):=nL
def FU:ao:=[(.one,[.int .i64]),(.one,[.int .i64])]
def QS:ao:=[(.agg,[.int .i64,.int .i64,.list [.int .i64]])]
def ag9:aW:=[]
def Fe:ao:=[(.one,[.int .i64]),(.one,[.int .i64])]
def Qf:ao:=[(.agg,[.int .i64,.int .i64,.list [.int .i64]])]
def agA:aW:=[]
def FO:ao:=[(.one,[.list [.int .i64]])]
def QO:ao:=[(.one,[.list [.int .i64]])]
def ag6:aW:=[]
def Fb:ao:=[(.one,[.list [.int .i64]])]
def Qd:ao:=[(.one,[.list [.int .i64]])]
def agy:aW:=[]
def Fc:ao:=[(.agg,[.int .i64,.int .i64,.list [.int .i64]])]
def Qe:ao:=[(.agg,[.int .i64,.int .i64,.list [.int .i64]])]
def agz:aW:=[]
def E7:ao:=[(.agg,[.int .i64,.int .i64,.list [.int .i64]]),(.one,[.int .i64]),(.one,[.int .i64])]
def P9:ao:=[(.one,[.int .i64])]
def agw:aW:=[]
def E8:ao:=[(.agg,[.int .i64,.int .i64,.list [.int .i64]]),(.one,[.int .i64]),(.one,[.int .i64]),(.one,[.int .i64])]
def Qa:ao:=[(.one,[.list [.int .i64]])]
def Ib:aW:=[[none,none,some .aa]]
def FX:ao:=[(.agg,[.int .i64,.int .i64,.list [.int .i64]]),(.one,[.int .i64]),(.one,[.int .i64])]
def QV:ao:=[(.one,[.list [.int .i64]])]
def Ij:aW:=[[none,none,some .aa]]
def E9:ao:=[(.agg,[.int .i64,.int .i64,.list [.int .i64]]),(.one,[.int .i64]),(.one,[.int .i64])]
def Qb:ao:=[(.one,[.list [.int .i64]])]
def Ic:aW:=[[none,none,some .aa]]
def E6:ao:=[(.agg,[.int .i64,.int .i64,.list [.int .i64]]),(.one,[.int .i64]),(.one,[.int .i64]),(.one,[.int .i64]),(.one,[.int .i64])]
def P8:ao:=[(.one,[.list [.int .i64]])]
def Ia:aW:=[[none,none,some .aa]]
def FQ:ao:=[(.one,[.int .i64]),(.agg,[.int .i64,.int .i64,.list [.int .i64]]),(.one,[.int .i64]),(.one,[.int .i64]),(.one,[.int .i64])]
def QP:ao:=[(.one,[.list [.int .i64]])]
def Ii:aW:=[[],[none,none,some .aa]]
def FV:ao:=[(.agg,[.int .i64,.int .i64,.list [.int .i64]]),(.one,[.int .i64]),(.one,[.int .i64])]
def QT:ao:=[(.one,[.int .i64])]
def aha:aW:=[]
def FR:ao:=[(.one,[.int .i64]),(.one,[.int .i64])]
def QQ:ao:=[(.one,[.int .i64])]
def ag7:aW:=[]
def Fg:ao:=[(.one,[.int .i64]),(.one,[.int .i64])]
def Qh:ao:=[(.one,[.int .i64])]
def agC:aW:=[]
def FY:ao:=[(.agg,[.int .i64,.int .i64,.list [.int .i64]])]
def QW:ao:=[(.agg,[.int .i64,.int .i64,.list [.int .i64]])]
def ahc:aW:=[]
def Fk:ao:=[(.agg,[.int .i64,.int .i64,.list [.int .i64]])]
def Ql:ao:=[(.agg,[.int .i64,.int .i64,.list [.int .i64]])]
def agG:aW:=[]
def FT:ao:=[(.one,[.int .i64]),(.agg,[.int .i64,.int .i64,.list [.int .i64]]),(.agg,[.int .i64,.int .i64,.list [.int .i64]])]
def QR:ao:=[(.agg,[.int .i64,.int .i64,.list [.int .i64]])]
def ag8:aW:=[]
def Fh:ao:=[(.one,[.int .i64]),(.agg,[.int .i64,.int .i64,.list [.int .i64]]),(.agg,[.int .i64,.int .i64,.list [.int .i64]])]
def Qi:ao:=[(.agg,[.int .i64,.int .i64,.list [.int .i64]])]
def agD:aW:=[]
def EO (NN:Nat):(Int×Int)->(Option (Int×(Int×(List Int)))):=
 (fun((i0,i1):(Int×Int))=>
 (ov (cz .i64 i0 i1) (cz .i64 i0 i1) 8).U (fun k2=>
 (ci (cR k2 (0:Int)) k2).U (fun l3=>
 some (i0,i1,l3))))
def TH (NN:Nat):(Int×Int)->(Option (Int×(Int×(List Int)))):=
 (fun((i0,i1):(Int×Int))=>
 (ov (cz .i64 i0 i1) (cz .i64 i0 i1) 8).U (fun k2=>
 (ci (cR k2 (0:Int)) k2).U (fun l3=>
 some (i0,i1,l3))))
def Ka (NN:Nat):(List Int)->(Option (List Int)):=
 (fun(l0:(List Int))=>
 (ae 0 0 (J (([]:List Int)))).U (fun _=>
 (jV (aE (J (([]:List Int))) (J l0)) 8).U (fun _=>
 (ci (cm (([]:List Int)) l0) (aE (J (([]:List Int))) (J l0))).U (fun l1=>
 some l1))))
def JJ (NN:Nat):(List Int)->(Option (List Int)):=
 (fun(l0:(List Int))=>
 (jV (aE (J (([]:List Int))) (J l0)) 8).U (fun _=>
 (ci (cm (([]:List Int)) l0) (aE (J (([]:List Int))) (J l0))).U (fun l1=>
 some l1)))
def JK (NN:Nat):(Int×(Int×(List Int)))->(Option (Int×(Int×(List Int)))):=
 (fun((i0,i1,l2):(Int×(Int×(List Int))))=>
 (mg l2).U (fun l3=>
 (ci l3 (J l3)).U (fun l4=>
 some (i0,i1,l4))))
def EC (NN:Nat):((Int×(Int×(List Int)))×(Int×Int))->(Option Int):=
 (fun(((i0,i1,l2),i3,i4):((Int×(Int×(List Int)))×(Int×Int)))=>
 (dz l2 (aM .i64 (cz .i64 i3 i1) i4)).U (fun i5=>
 some i5))
def ED (NN:Nat):((Int×(Int×(List Int)))×(Int×(Int×Int)))->(Option (List Int)):=
 (fun(((i0,i1,l2),i3,i4,i5):((Int×(Int×(List Int)))×(Int×(Int×Int))))=>
 (dT (aM .i64 (cz .i64 i3 i1) i4) (J l2)).U (fun k6=>
 (dg l2 (aE 0 k6)).U (fun i7=>
 (oD (J (bI l2 (aE 0 k6) i5)) (J l2)).U (fun _=>
 some (bI l2 (aE 0 k6) i5)))))
def ER (NN:Nat):((Int×(Int×(List Int)))×(Int×Int))->(Option (List Int)):=
 (fun(((i0,i1,l2),i3,i4):((Int×(Int×(List Int)))×(Int×Int)))=>
 (ae 0 (J l2) (J l2)).U (fun _=>
 bf NN (fun(((i5,i6,i7),l8,i9,bS):((Int×(Int×Int))×((List Int)×(Int×Int))))=>
 aw (bc i7 bS)
 ((dT (aM .i64 (cz .i64 i5 bS) i7) (J l8)).U (fun Dh=>
 (dg l8 (aE 0 Dh)).U (fun cq=>
 (dT (aM .i64 (cz .i64 i6 bS) i7) (J l8)).U (fun ye=>
 (dg l8 (aE 0 ye)).U (fun db=>
 (dT (aM .i64 (cz .i64 i5 bS) i7) (J l8)).U (fun Ap=>
 (dg l8 (aE 0 Ap)).U (fun ed=>
 (dT (aM .i64 (cz .i64 i6 bS) i7) (J l8)).U (fun Di=>
 (dg (bI l8 (aE 0 Ap) db) (aE 0 Di)).U (fun dX=>
 (ae 0 (J l8) (J (bI (bI l8 (aE 0 Ap) db) (aE 0 Di) cq))).U (fun _=>
 some (Sum.inl ((i5,i6,aM .i64 i7 1),bI (bI l8 (aE 0 Ap) db) (aE 0 Di) cq,i9,bS))))))))))))
 (((oD (J l8) (J l2)).U (fun _=>
 some l8)).U (fun eR=>
 some (Sum.inr eR))))
 ((i3,i4,(0:Int)),l2,i0,i1)))
def EE (NN:Nat):((Int×(Int×(List Int)))×(Int×Int))->(Option (List Int)):=
 (fun(((i0,i1,l2),i3,i4):((Int×(Int×(List Int)))×(Int×Int)))=>
 (ae 0 (J l2) (J l2)).U (fun _=>
 bf NN (fun(((i5,i6,i7),l8,i9,bS):((Int×(Int×Int))×((List Int)×(Int×Int))))=>
 aw (bc i7 bS)
 ((bg l8 0 (J l8)).U (fun lW=>
 (jq ((i9,bS,lW),i5,i7)).U (fun cq=>
 (bg l8 0 (J l8)).U (fun iA=>
 (jq ((i9,bS,iA),i6,i7)).U (fun db=>
 (ae 0 (J l8) (J l8)).U (fun _=>
 (m6 ((i9,bS,l8),i5,i7,db)).U (fun bJ=>
 (ae 0 (J l8) (J bJ)).U (fun _=>
 (m6 ((i9,bS,bJ),i6,i7,cq)).U (fun cg=>
 (ae 0 (J l8) (J cg)).U (fun _=>
 some (Sum.inl ((i5,i6,aM .i64 i7 1),cg,i9,bS))))))))))))
 (((oD (J l8) (J l2)).U (fun _=>
 some l8)).U (fun bB=>
 some (Sum.inr bB))))
 ((i3,i4,(0:Int)),l2,i0,i1)))
def EB (NN:Nat):((Int×(Int×(List Int)))×(Int×(Int×(Int×Int))))->(Option (List Int)):=
 (fun(((i0,i1,l2),i3,i4,i5,i6):((Int×(Int×(List Int)))×(Int×(Int×(Int×Int)))))=>
 (ae 0 (J l2) (J l2)).U (fun _=>
 bf NN (fun(((i7,i8,i9,bS,bZ),dM,cO,db):((Int×(Int×(Int×(Int×Int))))×((List Int)×(Int×Int))))=>
 aw (bc bZ db)
 ((bg dM 0 (J dM)).U (fun bJ=>
 (jq ((cO,db,bJ),i8,bZ)).U (fun ed=>
 (bg dM 0 (J dM)).U (fun bB=>
 (jq ((cO,db,bB),i9,bZ)).U (fun dX=>
 (gQ (aM .i64 ed (cz .i64 bS dX)) i7).U (fun cX=>
 (ae 0 (J dM) (J dM)).U (fun _=>
 (m6 ((cO,db,dM),i8,bZ,cX)).U (fun ff=>
 (ae 0 (J dM) (J ff)).U (fun _=>
 some (Sum.inl ((i7,i8,i9,bS,aM .i64 bZ 1),ff,cO,db)))))))))))
 (((oD (J dM) (J l2)).U (fun _=>
 some dM)).U (fun ib=>
 some (Sum.inr ib))))
 ((i3,i4,i5,i6,(0:Int)),l2,i0,i1)))
def EM (NN:Nat):(Int×((Int×(Int×(List Int)))×(Int×(Int×Int))))->(Option (List Int)):=
 (fun((i0,(i1,i2,l3),i4,i5,i6):(Int×((Int×(Int×(List Int)))×(Int×(Int×Int)))))=>
 (ae 0 (J l3) (J l3)).U (fun _=>
 bf NN (fun(((i7,i8,i9,bS,bZ),dM,cO,db):((Int×(Int×(Int×(Int×Int))))×((List Int)×(Int×Int))))=>
 aw (bc bZ db)
 ((dT (aM .i64 (cz .i64 i8 db) bZ) (J dM)).U (fun Ap=>
 (dg dM (aE 0 Ap)).U (fun ed=>
 (dT (aM .i64 (cz .i64 i9 db) bZ) (J dM)).U (fun Di=>
 (dg dM (aE 0 Di)).U (fun dX=>
 (gQ (aM .i64 ed (cz .i64 (mf .i64 i7 bS) dX)) i7).U (fun cX=>
 (dT (aM .i64 (cz .i64 i8 db) bZ) (J dM)).U (fun NK=>
 (dg dM (aE 0 NK)).U (fun eQ=>
 (ae 0 (J dM) (J (bI dM (aE 0 NK) cX))).U (fun _=>
 some (Sum.inl ((i7,i8,i9,bS,aM .i64 bZ 1),bI dM (aE 0 NK) cX,cO,db)))))))))))
 (((oD (J dM) (J l3)).U (fun _=>
 some dM)).U (fun cV=>
 some (Sum.inr cV))))
 ((i0,i4,i5,i6,(0:Int)),l3,i1,i2)))
def EP (NN:Nat):((Int×(Int×(List Int)))×(Int×Int))->(Option Int):=
 (fun(((i0,i1,l2),i3,i4):((Int×(Int×(List Int)))×(Int×Int)))=>
 bK (bf NN (fun(((i5,i6),i7,i8,l9):((Int×Int)×(Int×(Int×(List Int)))))=>
 aw (bc i6 i7)
 ((dz l9 (aM .i64 (cz .i64 i6 i8) i5)).U (fun bS=>
 aw (dB bS (0:Int))
 (some (Sum.inr (Sum.inr i6)))
 (some (Sum.inl ((i5,aM .i64 i6 1),i7,i8,l9)))))
 (some (Sum.inr (Sum.inl ()))))
 ((i4,i3),i0,i1,l2))
 (fun _=>
 some ((-1:Int))))
def Kc (NN:Nat):(Int×Int)->(Option Int):=
 (fun((i0,i1):(Int×Int))=>
 bK (bf NN (fun((i2,i3,i4,i5):(Int×(Int×(Int×Int))))=>
 aw (bc (0:Int) i5)
 ((gQ i5 (2:Int)).U (fun i6=>
 bK (aw (lI i6 (1:Int))
 ((gQ (cz .i64 i4 i3) i2).U (fun i7=>
 some (Sum.inl (i3,i5,i2,i7))))
 (some (Sum.inl (i3,i5,i2,i4))))
 (fun(i8,i9,bS,bZ)=>
 (gQ (cz .i64 i8 i8) bS).U (fun cq=>
 (DK .i64 i9 (2:Int)).U (fun cO=>
 some (Sum.inl (bS,cq,bZ,cO)))))))
 (some (Sum.inr (Sum.inl i4))))
 (i0,i1,(1:Int),mf .i64 i0 2))
 (fun db=>
 some db))
def JM (NN:Nat):(Int×Int)->(Option Int):=
 (fun((i0,i1):(Int×Int))=>
 bK (bf NN (fun((i2,i3,i4,i5):(Int×(Int×(Int×Int))))=>
 aw (bc (0:Int) i5)
 (bK (aw (lI (Ga .i64 i5 (1:Int)) (1:Int))
 ((gQ (cz .i64 i4 i3) i2).U (fun i6=>
 some (Sum.inl (i3,i5,i2,i6))))
 (some (Sum.inl (i3,i5,i2,i4))))
 (fun(i7,i8,i9,bS)=>
 (gQ (cz .i64 i7 i7) i9).U (fun bZ=>
 (Bm .i64 i8 (1:Int)).U (fun cq=>
 some (Sum.inl (i9,bZ,bS,cq))))))
 (some (Sum.inr (Sum.inl i4))))
 (i0,i1,(1:Int),mf .i64 i0 2))
 (fun cO=>
 some cO))
def ES (NN:Nat):(Int×(Int×(List Int)))->(Option (Int×(Int×(List Int)))):=
 (fun((i0,i1,l2):(Int×(Int×(List Int))))=>
 (rP (i1,i0)).U (fun(i3,i4,l5)=>
 bK ((ae 0 0 (J (([]:List Int)))).U (fun _=>
 (ae 0 (J l5) (J l5)).U (fun _=>
 bf NN (fun((i6,(i7,i8,l9),(bS,bZ),(cq,cO),c8,bJ):(Int×((Int×(Int×(List Int)))×((Int×Int)×((Int×Int)×((List Int)×(List Int)))))))=>
 aw (bc i6 i7)
 (bK ((ae 0 (J c8) (J c8)).U (fun _=>
 (ae 0 (J bJ) (J bJ)).U (fun _=>
 bf NN (fun(((ed,jg),(dX,cX,ff),(eQ,fW),(ef,eH),cL,cb):((Int×Int)×((Int×(Int×(List Int)))×((Int×Int)×((Int×Int)×((List Int)×(List Int)))))))=>
 aw (bc jg cX)
 ((dz ff (aM .i64 (cz .i64 ed cX) jg)).U (fun fe=>
 (dT (aM .i64 (cz .i64 jg dX) ed) (J cb)).U (fun NL=>
 (dg cb (aE 0 NL)).U (fun xZ=>
 (ae 0 (J cL) (J cL)).U (fun _=>
 (ae 0 (J cb) (J (bI cb (aE 0 NL) fe))).U (fun _=>
 some (Sum.inl ((ed,aM .i64 jg 1),(dX,cX,ff),(eQ,fW),(ef,eH),cL,bI cb (aE 0 NL) fe))))))))
 (((ae 0 (J cL) (J cL)).U (fun _=>
 (ae 0 (J cb) (J cb)).U (fun _=>
 some (Sum.inl (ed,(dX,cX,ff),(eQ,fW),(ef,eH),cL,cb))))).U (fun f6=>
 some (Sum.inr f6))))
 ((i6,(0:Int)),(i7,i8,l9),(bS,bZ),(cq,cO),c8,bJ))))
 (fun(eU,(n8,jE,f7),(gM,gm),(lR,n9),ft,fg)=>
 (ae 0 (J ft) (J ft)).U (fun _=>
 (ae 0 (J fg) (J fg)).U (fun _=>
 some (Sum.inl (aM .i64 eU 1,(n8,jE,f7),(gM,gm),(lR,n9),ft,fg))))))
 (((ae 0 (J c8) (J c8)).U (fun _=>
 (ae 0 (J bJ) (J bJ)).U (fun _=>
 some (Sum.inl ((bS,bZ),(cq,cO),c8,bJ))))).U (fun la=>
 some (Sum.inr la))))
 ((0:Int),(i0,i1,l2),((0:Int),(0:Int)),(i3,i4),([]:List Int),l5))))
 (fun((kw,fq),(fY,hY),f8,ic)=>
 (ci ic (J ic)).U (fun gz=>
 some (fY,hY,gz)))))
def EJ (NN:Nat):(Int×(Int×(List Int)))->(Option (Int×(Int×(List Int)))):=
 (fun((i0,i1,l2):(Int×(Int×(List Int))))=>
 (rI (i1,i0)).U (fun(i3,i4,l5)=>
 bK ((ae 0 0 (J (([]:List Int)))).U (fun _=>
 (ae 0 (J l5) (J l5)).U (fun _=>
 bf NN (fun((i6,(i7,i8,l9),(bS,bZ),(cq,cO),c8,bJ):(Int×((Int×(Int×(List Int)))×((Int×Int)×((Int×Int)×((List Int)×(List Int)))))))=>
 aw (bc i6 i7)
 (bK ((ae 0 (J c8) (J c8)).U (fun _=>
 (ae 0 (J bJ) (J bJ)).U (fun _=>
 bf NN (fun(((ed,jg),(dX,cX,ff),(eQ,fW),(ef,eH),cL,cb):((Int×Int)×((Int×(Int×(List Int)))×((Int×Int)×((Int×Int)×((List Int)×(List Int)))))))=>
 aw (bc jg cX)
 ((jq ((dX,cX,ff),ed,jg)).U (fun fe=>
 (ae 0 (J cb) (J cb)).U (fun _=>
 (m6 ((ef,eH,cb),jg,ed,fe)).U (fun iN=>
 (ae 0 (J cL) (J cL)).U (fun _=>
 (ae 0 (J cb) (J iN)).U (fun _=>
 some (Sum.inl ((ed,aM .i64 jg 1),(dX,cX,ff),(eQ,fW),(ef,eH),cL,iN))))))))
 (((ae 0 (J cL) (J cL)).U (fun _=>
 (ae 0 (J cb) (J cb)).U (fun _=>
 some (Sum.inl (ed,(dX,cX,ff),(eQ,fW),(ef,eH),cL,cb))))).U (fun dR=>
 some (Sum.inr dR))))
 ((i6,(0:Int)),(i7,i8,l9),(bS,bZ),(cq,cO),c8,bJ))))
 (fun(hH,(eU,n8,fN),(hJ,gM),(gm,lR),dN,ft)=>
 (ae 0 (J dN) (J dN)).U (fun _=>
 (ae 0 (J ft) (J ft)).U (fun _=>
 some (Sum.inl (aM .i64 hH 1,(eU,n8,fN),(hJ,gM),(gm,lR),dN,ft))))))
 (((ae 0 (J c8) (J c8)).U (fun _=>
 (ae 0 (J bJ) (J bJ)).U (fun _=>
 some (Sum.inl ((bS,bZ),(cq,cO),c8,bJ))))).U (fun fg=>
 some (Sum.inr fg))))
 ((0:Int),(i0,i1,l2),((0:Int),(0:Int)),(i3,i4),([]:List Int),l5))))
 (fun((kT,kw),(fq,fY),nz,f8)=>
 (ci f8 (J f8)).U (fun ic=>
 some (fq,fY,ic)))))
def EN (NN:Nat):(Int×((Int×(Int×(List Int)))×(Int×(Int×(List Int)))))->(Option (Int×(Int×(List Int)))):=
 (fun((i0,(i1,i2,l3),i4,i5,l6):(Int×((Int×(Int×(List Int)))×(Int×(Int×(List Int))))))=>
 (rP (i1,i5)).U (fun(i7,i8,l9)=>
 bK ((ae 0 0 (J (([]:List Int)))).U (fun _=>
 (ae 0 (J l9) (J l9)).U (fun _=>
 bf NN (fun(((bS,bZ),(cq,cO,c8),(fV,ed,bB),(dX,cX),(eG,eQ),cV,dD):((Int×Int)×((Int×(Int×(List Int)))×((Int×(Int×(List Int)))×((Int×Int)×((Int×Int)×((List Int)×(List Int))))))))=>
 aw (bc bZ cq)
 (bK ((ae 0 (J cV) (J cV)).U (fun _=>
 (ae 0 (J dD) (J dD)).U (fun _=>
 bf NN (fun(((eH,jC,jD),(fe,fK,dR),(hH,eU,eg),(jE,hJ),(gM,gm),dt,dN):((Int×(Int×Int))×((Int×(Int×(List Int)))×((Int×(Int×(List Int)))×((Int×Int)×((Int×Int)×((List Int)×(List Int))))))))=>
 aw (bc jD eU)
 (bK (bK ((ae 0 (J dt) (J dt)).U (fun _=>
 (ae 0 (J dN) (J dN)).U (fun _=>
 bf NN (fun(((kv,mG,kT,kw,fq),(fY,hY,f8),(j3,kx,eW),(kU,jF),(kV,ky),ek,dO):((Int×(Int×(Int×(Int×Int))))×((Int×(Int×(List Int)))×((Int×(Int×(List Int)))×((Int×Int)×((Int×Int)×((List Int)×(List Int))))))))=>
 aw (bc fq hY)
 ((dz f8 (aM .i64 (cz .i64 mG hY) fq)).U (fun ug=>
 (dz eW (aM .i64 (cz .i64 fq kx) kT)).U (fun jh=>
 (gQ (aM .i64 kw (cz .i64 ug jh)) kv).U (fun iK=>
 (ae 0 (J ek) (J ek)).U (fun _=>
 (ae 0 (J dO) (J dO)).U (fun _=>
 some (Sum.inl ((kv,mG,kT,iK,aM .i64 fq 1),(fY,hY,f8),(j3,kx,eW),(kU,jF),(kV,ky),ek,dO))))))))
 (((ae 0 (J ek) (J ek)).U (fun _=>
 (ae 0 (J dO) (J dO)).U (fun _=>
 some (Sum.inl ((kw,kT,kv,mG),(fY,hY,f8),(j3,kx,eW),(kU,jF),(kV,ky),ek,dO))))).U (fun pj=>
 some (Sum.inr pj))))
 ((eH,jC,jD,(0:Int),(0:Int)),(fe,fK,dR),(hH,eU,eg),(jE,hJ),(gM,gm),dt,dN))))
 (fun((lS,mH,jG,kz),(i64,sD,rq),(lT,nr,mM),(uh,rl),(rm,pb),jm,iP)=>
 (dT (aM .i64 (cz .i64 kz nr) mH) (J iP)).U (fun NQ=>
 (dg iP (aE 0 NQ)).U (fun jI=>
 (ae 0 (J jm) (J jm)).U (fun _=>
 (ae 0 (J iP) (J (bI iP (aE 0 NQ) lS))).U (fun _=>
 some (Sum.inl ((mH,jG,kz),(i64,sD,rq),(lT,nr,mM),(uh,rl),(rm,pb),jm,bI iP (aE 0 NQ) lS))))))))
 (fun((jJ,hZ,ji),(sF,pd,gO),(nt,nu,nB),(lU,vR),(C9,x6),lb,mN)=>
 (ae 0 (J lb) (J lb)).U (fun _=>
 (ae 0 (J mN) (J mN)).U (fun _=>
 some (Sum.inl ((hZ,ji,aM .i64 jJ 1),(sF,pd,gO),(nt,nu,nB),(lU,vR),(C9,x6),lb,mN))))))
 (((ae 0 (J dt) (J dt)).U (fun _=>
 (ae 0 (J dN) (J dN)).U (fun _=>
 some (Sum.inl ((jC,eH),(fe,fK,dR),(hH,eU,eg),(jE,hJ),(gM,gm),dt,dN))))).U (fun oq=>
 some (Sum.inr oq))))
 ((bS,bZ,(0:Int)),(cq,cO,c8),(fV,ed,bB),(dX,cX),(eG,eQ),cV,dD))))
 (fun((uj,nv),(rn,Db,qj),(rp,Ac,Ar),(n7,lQ),(rk,C5),jL,iM)=>
 (ae 0 (J jL) (J jL)).U (fun _=>
 (ae 0 (J iM) (J iM)).U (fun _=>
 some (Sum.inl ((nv,aM .i64 uj 1),(rn,Db,qj),(rp,Ac,Ar),(n7,lQ),(rk,C5),jL,iM))))))
 (((ae 0 (J cV) (J cV)).U (fun _=>
 (ae 0 (J dD) (J dD)).U (fun _=>
 some (Sum.inl ((dX,cX),(eG,eQ),cV,dD))))).U (fun ph=>
 some (Sum.inr ph))))
 ((i0,(0:Int)),(i1,i2,l3),(i4,i5,l6),((0:Int),(0:Int)),(i7,i8),([]:List Int),l9))))
 (fun((Ad,qc),(sB,xW),As,sK)=>
 (ci sK (J sK)).U (fun yg=>
 some (sB,xW,yg)))))
def EG (NN:Nat):(Int×((Int×(Int×(List Int)))×(Int×(Int×(List Int)))))->(Option (Int×(Int×(List Int)))):=
 (fun((i0,(i1,i2,l3),i4,i5,l6):(Int×((Int×(Int×(List Int)))×(Int×(Int×(List Int))))))=>
 (rI (i1,i5)).U (fun(i7,i8,l9)=>
 bK ((ae 0 0 (J (([]:List Int)))).U (fun _=>
 (ae 0 (J l9) (J l9)).U (fun _=>
 bf NN (fun(((bS,bZ),(cq,cO,c8),(fV,ed,bB),(dX,cX),(eG,eQ),cV,dD):((Int×Int)×((Int×(Int×(List Int)))×((Int×(Int×(List Int)))×((Int×Int)×((Int×Int)×((List Int)×(List Int))))))))=>
 aw (bc bZ cq)
 (bK ((ae 0 (J cV) (J cV)).U (fun _=>
 (ae 0 (J dD) (J dD)).U (fun _=>
 bf NN (fun(((eH,jC,jD),(fe,fK,dR),(hH,eU,eg),(jE,hJ),(gM,gm),dt,dN):((Int×(Int×Int))×((Int×(Int×(List Int)))×((Int×(Int×(List Int)))×((Int×Int)×((Int×Int)×((List Int)×(List Int))))))))=>
 aw (bc jD eU)
 (bK (bK ((ae 0 (J dt) (J dt)).U (fun _=>
 (ae 0 (J dN) (J dN)).U (fun _=>
 bf NN (fun(((kv,mG,kT,kw,fq),(fY,hY,f8),(j3,kx,eW),(kU,jF),(kV,ky),ek,dO):((Int×(Int×(Int×(Int×Int))))×((Int×(Int×(List Int)))×((Int×(Int×(List Int)))×((Int×Int)×((Int×Int)×((List Int)×(List Int))))))))=>
 aw (bc fq hY)
 ((jq ((fY,hY,f8),mG,fq)).U (fun ug=>
 (jq ((j3,kx,eW),fq,kT)).U (fun jh=>
 (gQ (aM .i64 kw (cz .i64 ug jh)) kv).U (fun iK=>
 (ae 0 (J ek) (J ek)).U (fun _=>
 (ae 0 (J dO) (J dO)).U (fun _=>
 some (Sum.inl ((kv,mG,kT,iK,aM .i64 fq 1),(fY,hY,f8),(j3,kx,eW),(kU,jF),(kV,ky),ek,dO))))))))
 (((ae 0 (J ek) (J ek)).U (fun _=>
 (ae 0 (J dO) (J dO)).U (fun _=>
 some (Sum.inl ((kw,kT,kv,mG),(fY,hY,f8),(j3,kx,eW),(kU,jF),(kV,ky),ek,dO))))).U (fun pj=>
 some (Sum.inr pj))))
 ((eH,jC,jD,(0:Int),(0:Int)),(fe,fK,dR),(hH,eU,eg),(jE,hJ),(gM,gm),dt,dN))))
 (fun((lS,mH,jG,kz),(i64,sD,rq),(lT,nr,mM),(uh,rl),(rm,pb),jm,iP)=>
 (ae 0 (J iP) (J iP)).U (fun _=>
 (m6 ((rm,pb,iP),kz,mH,lS)).U (fun wa=>
 (ae 0 (J jm) (J jm)).U (fun _=>
 (ae 0 (J iP) (J wa)).U (fun _=>
 some (Sum.inl ((mH,jG,kz),(i64,sD,rq),(lT,nr,mM),(uh,rl),(rm,pb),jm,wa))))))))
 (fun((jI,jJ,hZ),(ji,sF,gN),(Aj,nt,yk),(vQ,lU),(vR,C9),gP,lb)=>
 (ae 0 (J gP) (J gP)).U (fun _=>
 (ae 0 (J lb) (J lb)).U (fun _=>
 some (Sum.inl ((jJ,hZ,aM .i64 jI 1),(ji,sF,gN),(Aj,nt,yk),(vQ,lU),(vR,C9),gP,lb))))))
 (((ae 0 (J dt) (J dt)).U (fun _=>
 (ae 0 (J dN) (J dN)).U (fun _=>
 some (Sum.inl ((jC,eH),(fe,fK,dR),(hH,eU,eg),(jE,hJ),(gM,gm),dt,dN))))).U (fun mN=>
 some (Sum.inr mN))))
 ((bS,bZ,(0:Int)),(cq,cO,c8),(fV,ed,bB),(dX,cX),(eG,eQ),cV,dD))))
 (fun((pf,uj),(nv,rn,po),(uk,rp,qi),(ud,n7),(lQ,rk),kZ,jL)=>
 (ae 0 (J kZ) (J kZ)).U (fun _=>
 (ae 0 (J jL) (J jL)).U (fun _=>
 some (Sum.inl ((uj,aM .i64 pf 1),(nv,rn,po),(uk,rp,qi),(ud,n7),(lQ,rk),kZ,jL))))))
 (((ae 0 (J cV) (J cV)).U (fun _=>
 (ae 0 (J dD) (J dD)).U (fun _=>
 some (Sum.inl ((dX,cX),(eG,eQ),cV,dD))))).U (fun iM=>
 some (Sum.inr iM))))
 ((i0,(0:Int)),(i1,i2,l3),(i4,i5,l6),((0:Int),(0:Int)),(i7,i8),([]:List Int),l9))))
 (fun((Nk,Ad),(qc,sB),Dl,As)=>
 (ci As (J As)).U (fun sK=>
 some (qc,sB,sK)))))
theorem aiv {r c:Nat} (hr:r<=4096) (hc:c<=4096) (h:r*c<=1048576):AQ ((r:Int),(c:Int)):=by
 refine⟨⟨by omega,by show(r:Int)<=4096;omega⟩,⟨by show(0:Int)<=c;omega,by show(c:Int)<=4096;omega⟩,?_⟩
 show(r:Int)*(c:Int)<=1048576
 have e:(r:Int)*(c:Int)=((r*c:Nat):Int):=by norm_cast
 omega
theorem aiu {x:Int×Int} (h:AQ x):∃r c:Nat,x=((r:Int),(c:Int))/\r<=4096/\c<=4096/\r*c<=1048576:=by
 obtain⟨r,c⟩:=x
 obtain⟨h1,h2,h3⟩:=h
 simp only at h1 h2 h3
 obtain⟨r,rfl⟩:=jn h1.1
 obtain⟨c,rfl⟩:=jn h2.1
 have e:(r:Int)*(c:Int)=((r*c:Nat):Int):=by norm_cast
 exact⟨r,c,rfl,by omega,by omega,by omega⟩
theorem Dz {r c:Nat} (hr:r<=4096) (hc:c<=4096) (h:r*c<=1048576):rP ((r:Int),(c:Int))=some ((r:Int),(c:Int),ai r c fun _ _=>0):=by
 simp only[rP,Int.toNat_natCast]
 rw[if_pos (aiv hr hc h)]
theorem Dy {r c:Nat} (hr:r<=4096) (hc:c<=4096) (h:r*c<=1048576):rI ((r:Int),(c:Int))=some ((r:Int),(c:Int),ai r c fun _ _=>0):=Dz hr hc h
theorem adn {r c:Nat} (hr:r<=4096) (hc:c<=4096) (h:r*c<=1048576):EO aA ((r:Int),(c:Int))=some ((r:Int),(c:Int),ai r c fun _ _=>0):=by
 simp only[EO]
 rw[ahm (by omega) (by omega)]
 have:=Om (n:=r*c) (by_:=8) (by unfold eZ;omega)
 rw[show((r*c:Nat):Int)=aL (r*c) from rfl,this,au,adA]
 rw[show ci (ai r c fun _ _=>0) (r*c)=some (ai r c fun _ _=>0) by
  have:=gu (ai r c fun _ _=>(0:Int))
  rwa[AA] at this]
 rfl
theorem Vd (x:Int×Int) (y:Int×Int×List Int) (h:rP x=some y):EO aA x=some y:=by
 simp only[rP] at h
 split at h
 ·rename_i hc
  obtain⟨r,c,rfl,h1,h2,h3⟩:=aiu hc
  rw[<-h,adn h1 h2 h3];rfl
 ·cases h
theorem ack (x:Int×Int) (y:Int×Int×List Int) (h:rI x=some y):TH aA x=some y:=Vd x y h
theorem acV (x y:List Int) (h:mh x=some y):Ka aA x=some y:=by
 simp only[mh] at h
 split at h
 ·rename_i hl
  rw[<-h]
  simp only[Ka]
  rw[show ae 0 0 (J ([]:List Int))=some () from rfl,au,lK (by simp only[aE,J,List.length_nil,eZ];omega),au]
  have:cm [] x=x:=rfl
  rw[this,show aE (J ([]:List Int)) (J x)=J x by simp[aE,J],gu]
  rfl
 ·cases h
theorem aci (x y:List Int) (h:mg x=some y):JJ aA x=some y:=by
 simp only[mg] at h
 split at h
 ·rename_i hl
  rw[<-h]
  simp only[JJ]
  rw[lK (by simp only[aE,J,List.length_nil,eZ];omega),au]
  have:cm [] x=x:=rfl
  rw[this,show aE (J ([]:List Int)) (J x)=J x by simp[aE,J],gu]
  rfl
 ·cases h
theorem acj (x y:Int×Int×List Int) (h:yS x=some y):JK aA x=some y:=by
 obtain⟨r,c,l⟩:=x
 simp only[yS] at h
 split at h
 ·rename_i hl
  rw[<-h]
  simp only[JK,mg,if_pos hl,au,gu]
 ·cases h
theorem pw {a b:Int} (h:0<=a/\a<b):∃n:Nat,a=(n:Int)/\∀m:Nat,b=(m:Int)->n<m:=⟨a.toNat,by omega,fun m hm=>by omega⟩
theorem aiq {a b:Int} (h:0<=a/\a<=b):∃n:Nat,a=(n:Int)/\∀m:Nat,b=(m:Int)->n<=m:=⟨a.toNat,by omega,fun m hm=>by omega⟩
theorem adi {r c i j:Nat} {M:Nat->Nat->Int} (hr:r<=4096) (hc:c<=4096) (hi:i<r) (hj:j<c):EC aA (((r:Int),(c:Int),ai r c M),(i:Int),(j:Int))=some (M i j):=by
 simp only[EC]
 rw[nw (by omega) (by omega) (by omega),xA M hi hj];rfl
theorem mq {r c i j:Nat} {M:Nat->Nat->Int} (hr:r<=4096) (hc:c<=4096) (h:r*c<=1048576) (hi:i<r) (hj:j<c):jq (((r:Int),(c:Int),ai r c M),(i:Int),(j:Int))=some (M i j):=by
 simp only[jq,Int.toNat_natCast]
 rw[if_pos ⟨uw M hr hc h,by omega,by omega⟩]
 rw[kD M hi hj]
theorem ace (x:(Int×Int×List Int)×Int×Int) (y:Int) (h:jq x=some y):EC aA x=some y:=by
 obtain⟨m,i,j⟩:=x
 simp only[jq] at h
 split at h
 ·rename_i hc
  obtain⟨h1,h2,h3⟩:=hc
  obtain⟨r,c,M,rfl,hr,hc,dh⟩:=ql h1
  obtain⟨i,rfl,hi⟩:=pw h2
  obtain⟨j,rfl,hj⟩:=pw h3
  have hi:=hi r rfl;have hj:=hj c rfl
  rw[<-h,adi hr hc hi hj]
  exact congrArg some (kD M hi hj).symm
 ·cases h
theorem adv {r c i j:Nat} {M:Nat->Nat->Int} {x:Int} (hr:r<=4096) (hc:c<=4096) (hi:i<r) (hj:j<c):ED aA (((r:Int),(c:Int),ai r c M),(i:Int),(j:Int),x)=some (ai r c (kf M i j x)):=by
 simp only[ED]
 rw[nw (by omega) (by omega) (by omega),nR M hi hj,au,jT,nY M hi hj,au,Bj M hj,DT,au]
theorem sW {r c i j:Nat} {M:Nat->Nat->Int} {x:Int} (hr:r<=4096) (hc:c<=4096) (h:r*c<=1048576) (hi:i<r) (hj:j<c):m6 (((r:Int),(c:Int),ai r c M),(i:Int),(j:Int),x)=some (ai r c (kf M i j x)):=by
 simp only[m6,Int.toNat_natCast]
 rw[if_pos ⟨uw M hr hc h,by omega,by omega⟩]
 refine(congrArg some (gZ fun a ha b hb=>?_))
 unfold kf
 rw[kD M ha hb]
theorem acf (x:(Int×Int×List Int)×Int×Int×Int) (y:List Int) (h:m6 x=some y):ED aA x=some y:=by
 obtain⟨m,i,j,v⟩:=x
 have h0:=h
 simp only[m6] at h
 split at h
 ·rename_i hc
  obtain⟨h1,h2,h3⟩:=hc
  obtain⟨r,c,M,rfl,hr,hc,dh⟩:=ql h1
  obtain⟨i,rfl,hi⟩:=pw h2
  obtain⟨j,rfl,hj⟩:=pw h3
  have hi:=hi r rfl;have hj:=hj c rfl
  rw[<-h0,adv hr hc hi hj,sW hr hc dh hi hj]
 ·cases h
def wK (M:Nat->Nat->Int) (a b k:Nat):Nat->Nat->Int:=fun i j=>if j<k then e8 M a b i j else M i j
theorem ZT (M:Nat->Nat->Int) (a b:Nat):wK M a b 0=M:=by funext i j;exact if_neg (by omega)
theorem ZW {r c:Nat} (M:Nat->Nat->Int) (a b k:Nat):ai r c (kf (kf (wK M a b k) a k (M b k)) b k (M a k))=ai r c (wK M a b (k+1)):=by
 refine gZ fun i _ j _=>?_
 unfold kf wK e8
 by_cases hj:j=k
 ·subst hj
  by_cases hb:i=b
  ·by_cases ha:i=a
   ·subst hb;subst ha;simp
   ·have:b≠a:=fun e=>ha (hb.trans e)
    simp[hb,this]
  ·by_cases ha:i=a
   ·have:a≠b:=fun e=>hb (ha.trans e)
    simp[ha,this]
   ·simp[ha,hb]
 ·have h1:¬(i=b/\j=k):=fun h=>hj h.2
  have h2:¬(i=a/\j=k):=fun h=>hj h.2
  rw[if_neg h1,if_neg h2]
  by_cases hk:j<k
  ·simp only[if_pos hk,if_pos (show j<k+1 by omega)]
  ·simp only[if_neg hk,if_neg (show¬j<k+1 by omega)]
theorem ZU {r c:Nat} (M:Nat->Nat->Int) (a b:Nat):ai r c (wK M a b c)=ai r c (e8 M a b):=gZ fun i _ j hj=>if_pos hj
theorem ZV (M:Nat->Nat->Int) (a b k i:Nat):wK M a b k i k=M i k:=if_neg (by omega)
theorem adx {r c a b:Nat} {M:Nat->Nat->Int} (hr:r<=4096) (hc:c<=4096) (ha:a<r) (hb:b<r):ER aA (((r:Int),(c:Int),ai r c M),(a:Int),(b:Int))=some (ai r c (e8 M a b)):=by
 simp only[ER,bq,au]
 refine dP (fun k=>(((a:Int),(b:Int),(k:Int)),ai r c (wK M a b k),(r:Int),(c:Int))) c ?_ ?_ ?_ (cG (by omega))
 ·intro k hk
  simp only
  rw[aT (dY hk),nw (by omega) (by omega) (by omega),nw (by omega) (by omega) (by omega)]
  simp only[nR _ ha hk,nR _ hb hk,au,jT,nY _ ha hk,nY _ hb hk,Bj _ hk,jW,ZV,dI (show k<=1048577 by omega),ZW]
 ·simp only
  rw[aS (eA (Nat.le_refl c)),DT,au,au,ZU]
 ·rw[ZT];rfl
theorem Jj {r c a b:Nat} {M:Nat->Nat->Int} (hr:r<=4096) (hc:c<=4096) (h:r*c<=1048576) (ha:a<r) (hb:b<r):rQ (((r:Int),(c:Int),ai r c M),(a:Int),(b:Int))=some (ai r c (e8 M a b)):=by
 simp only[rQ,Int.toNat_natCast]
 rw[if_pos ⟨uw M hr hc h,by omega,by omega⟩]
 refine(congrArg some (gZ fun i hi j hj=>?_))
 unfold e8
 rw[kD M hb hj,kD M ha hj,kD M hi hj]
theorem ac1 (x:(Int×Int×List Int)×Int×Int) (y:List Int) (h:rQ x=some y):ER aA x=some y:=by
 obtain⟨m,i,j⟩:=x
 have h0:=h
 simp only[rQ] at h
 split at h
 ·rename_i hc
  obtain⟨h1,h2,h3⟩:=hc
  obtain⟨r,c,M,rfl,hr,hc,dh⟩:=ql h1
  obtain⟨i,rfl,hi⟩:=pw h2
  obtain⟨j,rfl,hj⟩:=pw h3
  have hi:=hi r rfl;have hj:=hj r rfl
  rw[<-h0,adx hr hc hi hj,Jj hr hc dh hi hj]
 ·cases h
theorem adw {r c a b:Nat} {M:Nat->Nat->Int} (hr:r<=4096) (hc:c<=4096) (h:r*c<=1048576) (ha:a<r) (hb:b<r):EE aA (((r:Int),(c:Int),ai r c M),(a:Int),(b:Int))=some (ai r c (e8 M a b)):=by
 simp only[EE,bq,au,ik]
 refine dP (fun k=>(((a:Int),(b:Int),(k:Int)),ai r c (wK M a b k),(r:Int),(c:Int))) c ?_ ?_ ?_ (cG (by omega))
 ·intro k hk
  simp only
  rw[aT (dY hk)]
  simp only[mq hr hc h ha hk,mq hr hc h hb hk,sW hr hc h ha hk,sW hr hc h hb hk,au,jW,ZV,dI (show k<=1048577 by omega),ZW]
 ·simp only
  rw[aS (eA (Nat.le_refl c)),DT,au,au,ZU]
 ·rw[ZT];rfl
theorem acg (x:(Int×Int×List Int)×Int×Int) (y:List Int) (h:yR x=some y):EE aA x=some y:=by
 obtain⟨m,i,j⟩:=x
 have h0:rQ (m,i,j)=some y:=h
 simp only[yR,rQ] at h
 split at h
 ·rename_i hc
  obtain⟨h1,h2,h3⟩:=hc
  obtain⟨r,c,M,rfl,hr,hc,dh⟩:=ql h1
  obtain⟨i,rfl,hi⟩:=pw h2
  obtain⟨j,rfl,hj⟩:=pw h3
  have hi:=hi r rfl;have hj:=hj r rfl
  rw[<-h0,adw hr hc dh hi hj,Jj hr hc dh hi hj]
 ·cases h
def vk (p:Int) (M:Nat->Nat->Int) (i k:Nat) (f:Int) (n:Nat):Nat->Nat->Int:=fun a j=>if j<n then oQ p M i k f a j else M a j
theorem Uk (p:Int) (M:Nat->Nat->Int) (i k:Nat) (f:Int):vk p M i k f 0=M:=by funext a j;exact if_neg (by omega)
theorem Uo {r c:Nat} (p:Int) (M:Nat->Nat->Int) (i k:Nat) (f:Int) (n:Nat):ai r c (kf (vk p M i k f n) i n ((M i n+f*M k n)%p))=ai r c (vk p M i k f (n+1)):=by
 refine gZ fun a _ j _=>?_
 unfold kf vk oQ
 by_cases hj:j=n
 ·subst hj
  by_cases ha:a=i
  ·subst ha;simp
  ·simp[ha]
 ·rw[if_neg (fun h=>hj h.2)]
  by_cases hk:j<n
  ·simp only[if_pos hk,if_pos (show j<n+1 by omega)]
  ·simp only[if_neg hk,if_neg (show¬j<n+1 by omega)]
theorem Ul {r c:Nat} (p:Int) (M:Nat->Nat->Int) (i k:Nat) (f:Int):ai r c (vk p M i k f c)=ai r c (oQ p M i k f):=gZ fun a _ j hj=>if_pos hj
theorem Um (p:Int) (M:Nat->Nat->Int) (i k:Nat) (f:Int) (n a:Nat):vk p M i k f n a n=M a n:=if_neg (by omega)
theorem adh {p f:Int} {r c i k:Nat} {M:Nat->Nat->Int} (hp:di p) (hr:r<=4096) (hc:c<=4096) (h:r*c<=1048576) (hi:i<r) (hk:k<r) (hf:0<=f/\f<=p) (hM:cY p r c M):
  EB aA (((r:Int),(c:Int),ai r c M),p,(i:Int),(k:Int),f)=some (ai r c (oQ p M i k f)):=by
 simp only[EB,bq,au,ik]
 refine dP (fun n=>((p,(i:Int),(k:Int),f,(n:Int)),ai r c (vk p M i k f n),(r:Int),(c:Int))) c ?_ ?_ ?_ (cG (by omega))
 ·intro n hn
  simp only
  rw[aT (dY hn)]
  have h1:=hM i hi n hn
  simp only[mq hr hc h hi hn,mq hr hc h hk hn,au,Um,Dt hp (h1.s hp) hf (hM k hk n hn).le,sW hr hc h hi hn,jW,dI (show n<=1048577 by omega),Uo]
 ·simp only
  rw[aS (eA (Nat.le_refl c)),DT,au,au,Ul]
 ·rw[Uk];rfl
theorem TR {p f:Int} {r c i k:Nat} {M:Nat->Nat->Int} (hp:di p) (hr:r<=4096) (hc:c<=4096) (h:r*c<=1048576) (hi:i<r) (hk:k<r) (hf:0<=f/\f<=p) (hM:cY p r c M):
  wS (((r:Int),(c:Int),ai r c M),p,(i:Int),(k:Int),f)=some (ai r c (oQ p M i k f)):=by
 simp only[wS,Int.toNat_natCast]
 rw[if_pos ⟨uw M hr hc h,hp,by omega,by omega,hf,jU.2 hM⟩]
 refine(congrArg some (gZ fun a ha j hj=>?_))
 unfold oQ
 rw[kD M hi hj,kD M hk hj,kD M ha hj]
theorem acd (x:(Int×Int×List Int)×Int×Int×Int×Int) (y:List Int) (h:wS x=some y):EB aA x=some y:=by
 obtain⟨m,p,i,k,f⟩:=x
 have h0:=h
 simp only[wS] at h
 split at h
 ·rename_i hc
  obtain⟨h1,hp,h2,h3,hf,hM⟩:=hc
  obtain⟨r,c,M,rfl,hr,hc,dh⟩:=ql h1
  obtain⟨i,rfl,hi⟩:=pw h2
  obtain⟨k,rfl,hk⟩:=pw h3
  have hi:=hi r rfl;have hk:=hk r rfl
  have hM:=jU.1 hM
  rw[<-h0,adh hp hr hc dh hi hk hf hM,TR hp hr hc dh hi hk hf hM]
 ·cases h
theorem adk {p x:Int} {r c i k:Nat} {M:Nat->Nat->Int} (hp:di p) (hr:r<=4096) (hc:c<=4096) (hi:i<r) (hk:k<r) (hf:0<=x/\x<=p) (hM:cY p r c M):
  EM aA (p,((r:Int),(c:Int),ai r c M),(i:Int),(k:Int),x)=some (ai r c (oQ p M i k (p - x))):=by
 simp only[EM,bq,au]
 have tV:=hp.2
 refine dP (fun n=>((p,(i:Int),(k:Int),x,(n:Int)),ai r c (vk p M i k (p - x) n),(r:Int),(c:Int))) c ?_ ?_ ?_ (cG (by omega))
 ·intro n hn
  simp only
  rw[aT (dY hn),nw (by omega) (by omega) (by omega),nw (by omega) (by omega) (by omega),rD (by omega) (by omega)]
  have h1:=hM i hi n hn
  simp only[nR _ hi hn,nR _ hk hn,au,jT,nY _ hi hn,nY _ hk hn,Um,Dt hp (h1.s hp) (show 0<=p - x/\p - x<=p by omega) (hM k hk n hn).le,Bj _ hn,jW,dI (show n<=1048577 by omega),Uo]
 ·simp only
  rw[aS (eA (Nat.le_refl c)),DT,au,au,Ul]
 ·rw[Uk];rfl
theorem Un {p x:Int} {r c i k:Nat} {M:Nat->Nat->Int} (hp:di p) (hr:r<=4096) (hc:c<=4096) (h:r*c<=1048576) (hi:i<r) (hk:k<r) (hf:0<=x/\x<=p) (hM:cY p r c M):
  wX (p,((r:Int),(c:Int),ai r c M),(i:Int),(k:Int),x)=some (ai r c (oQ p M i k (p - x))):=by
 simp only[wX,Int.toNat_natCast]
 rw[if_pos ⟨uw M hr hc h,hp,by omega,by omega,hf,jU.2 hM⟩]
 refine(congrArg some (gZ fun a ha j hj=>?_))
 unfold oQ
 rw[kD M hi hj,kD M hk hj,kD M ha hj]
theorem acW (x:Int×(Int×Int×List Int)×Int×Int×Int) (y:List Int) (h:wX x=some y):EM aA x=some y:=by
 obtain⟨p,m,i,k,f⟩:=x
 have h0:=h
 simp only[wX] at h
 split at h
 ·rename_i hc
  obtain⟨h1,hp,h2,h3,hf,hM⟩:=hc
  obtain⟨r,c,M,rfl,hr,hc,dh⟩:=ql h1
  obtain⟨i,rfl,hi⟩:=pw h2
  obtain⟨k,rfl,hk⟩:=pw h3
  have hi:=hi r rfl;have hk:=hk r rfl
  have hM:=jU.1 hM
  rw[<-h0,adk hp hr hc hi hk hf hM,Un hp hr hc dh hi hk hf hM]
 ·cases h
theorem aju {r c i j:Nat} {M:Nat->Nat->Int} {f:((Int×Int)×Int×Int×List Int)->Option (((Int×Int)×Int×Int×List Int)⊕(Unit⊕Int))}
  (h1:∀k,k<r->f (((j:Int),(k:Int)),(r:Int),(c:Int),ai r c M)=if M k j=0 then some (.inl (((j:Int),((k+1:Nat):Int)),(r:Int),(c:Int),ai r c M)) else some (.inr (.inr (k:Int))))
  (h2:f (((j:Int),(r:Int)),(r:Int),(c:Int),ai r c M)=some (.inr (.inl ()))):
  ∀(d k:Nat),k+d=r->∀N,d<N->bf N f (((j:Int),(k:Int)),(r:Int),(c:Int),ai r c M)=some (match iV M j d k with|some q=>.inr (q:Int)|none=>.inl ()):=by
 intro d
 induction d with
 |zero=>
  intro k hk N hN
  obtain⟨N,rfl⟩:∃m,N=m+1:=⟨N - 1,by omega⟩
  have:k=r:=by omega
  subst this
  simp only[bf,h2,iV]
 |succ d ih=>
  intro k hk N hN
  obtain⟨N,rfl⟩:∃m,N=m+1:=⟨N - 1,by omega⟩
  simp only[bf,h1 k (by omega),iV]
  by_cases h0:M k j=0
  ·rw[if_pos h0,if_pos h0]
   exact ih (k+1) (by omega) N (by omega)
  ·rw[if_neg h0,if_neg h0]
theorem Yq {M M':Nat->Nat->Int} {j:Nat}:∀(d k:Nat),(∀i,k<=i->i<k+d->M i j=M' i j)->iV M j d k=iV M' j d k
 |0,k,_=>rfl
 |d+1,k,h=>by
  simp only[iV]
  rw[h k (by omega) (by omega),Yq d (k+1) fun i h1 h2=>h i (by omega) (by omega)]
theorem DI {M:Nat->Nat->Int} {j q:Nat}:∀{d k:Nat},iV M j d k=some q->k<=q/\q<k+d/\M q j≠0
 |0,k,h=>by cases h
 |d+1,k,h=>by
  simp only[iV] at h
  split at h
  ·have:=DI h
   exact⟨by omega,by omega,this.2.2⟩
  ·rename_i h0
   injection h with h
   subst h
   exact⟨by omega,by omega,h0⟩
theorem ado {r c i j:Nat} {M:Nat->Nat->Int} (hr:r<=4096) (hc:c<=4096) (hi:i<=r) (hj:j<c):EP aA (((r:Int),(c:Int),ai r c M),(i:Int),(j:Int))=some (uA (iV M j (r - i) i)):=by
 simp only[EP]
 rw[aju (M:=M) (r:=r) (c:=c) (i:=i) (j:=j) ?_ ?_ (r - i) i (by omega) aA (cG (by omega))]
 ·cases iV M j (r - i) i with
  |none=>rfl
  |some q=>rfl
 ·intro k hk
  simp only
  rw[aT (dY hk),nw (by omega) (by omega) (by omega),xA M hk hj,au,dI (by omega)]
  by_cases h0:M k j=0
  ·rw[if_pos h0,aS (kC h0)]
  ·rw[if_neg h0,aT (mQ h0)]
 ·simp only
  rw[aS (eA (Nat.le_refl r))]
theorem Yr {r c i j:Nat} {M:Nat->Nat->Int} (hr:r<=4096) (hc:c<=4096) (h:r*c<=1048576) (hi:i<=r) (hj:j<c):wY (((r:Int),(c:Int),ai r c M),(i:Int),(j:Int))=some (uA (iV M j (r - i) i)):=by
 simp only[wY,Int.toNat_natCast]
 rw[if_pos ⟨uw M hr hc h,by omega,by omega⟩]
 rw[show((r:Int) - (i:Int)).toNat=r - i by omega]
 rw[Yq (M':=M) (r - i) i fun a h1 h2=>kD M (by omega) hj]
theorem acZ (x:(Int×Int×List Int)×Int×Int) (y:Int) (h:wY x=some y):EP aA x=some y:=by
 obtain⟨m,i,j⟩:=x
 have h0:=h
 simp only[wY] at h
 split at h
 ·rename_i hc
  obtain⟨h1,h2,h3⟩:=hc
  obtain⟨r,c,M,rfl,hr,hc,dh⟩:=ql h1
  obtain⟨i,rfl,hi⟩:=aiq h2
  obtain⟨j,rfl,hj⟩:=pw h3
  have hi:=hi r rfl;have hj:=hj c rfl
  rw[<-h0,ado hr hc hi hj,Yr hr hc dh hi hj]
 ·cases h
theorem HN (p out x:Int):iz p out x 0=out:=by rw[iz];rfl
theorem HO {n:Nat} (h:n≠0) (p out x:Int):iz p out x n=iz p (if n%2=1 then out*x%p else out) (x*x%p) (n/2):=by
 rw[iz,dif_neg h]
theorem W6 {p:Int} (hp:di p):∀(n:Nat) (out x:Int),fZ p out->fZ p (iz p out x n):=by
 intro n
 induction n using Nat.strongRecOn with
 |ind n ih=>
  intro out x ho
  by_cases h:n=0
  ·subst h;rw[HN];exact ho
  ·rw[HO h]
   refine ih (n/2) (by omega) _ _ ?_
   split
   ·exact sa hp _
   ·exact ho
theorem W8 {p out x:Int} {n:Nat} {Y:Type} {o:Option (Int×Int×Int×Int⊕Y)} (k:Int×Int×Int×Int->Option Y) (b:Bool) (hb:b=decide (n%2=1)) (hp:di p) (ho:fZ p out) (hx:fZ p x):
  bK (aw b ((gQ (cz .i64 out x) p).U fun i=>some (Sum.inl (x,(n:Int),p,i))) (some (Sum.inl (x,(n:Int),p,out)))) k=k (x,(n:Int),p,if n%2=1 then out*x%p else out):=by
 subst hb
 by_cases h:n%2=1
 ·rw[aT (decide_eq_true h),AJ hp ho.le hx.le,au,cK,if_pos h]
 ·rw[aS (decide_eq_false h),cK,if_neg h]
theorem acX (x:Int×Int) (y:Int) (h:u4 x=some y):Kc aA x=some y:=by
 obtain⟨p,x⟩:=x
 simp only[u4] at h
 split at h
 ·rename_i hc
  obtain⟨hp,hx⟩:=hc
  have vF:=hp.1;have tV:=hp.2
  obtain⟨n,hn⟩:=jn (show 0<=p - 2 by omega)
  rw[<-h]
  simp only[Kc]
  rw[rD (by omega) (by omega),hn,Int.toNat_natCast]
  rw[H6 (r:=Sum.inl (iz p 1 x n)) (fun m s=>∃out x':Int,s=(p,x',out,(m:Int))/\m<=n/\fZ p out/\fZ p x'/\iz p out x' m=iz p 1 x n) ?_ n _ ⟨1,x,rfl,by omega,⟨by omega,by omega⟩,hx,rfl⟩ aA (cG (by omega))]
  ·rw[cK]
  ·rintro m s ⟨out,x',rfl,hm,ho,eT,he⟩
   simp only
   by_cases h0:m=0
   ·subst h0
    left
    rw[aS (fh (by omega)),<-he,HN]
   ·right
    refine⟨m/2,_,by omega,?_,if m%2=1 then out*x'%p else out,x'*x'%p,rfl,by omega,?_,sa hp _,by rw[<-he,HO h0]⟩
    ·rw[aT (gC (by omega)),ID (by omega) (by omega),au]
     have hb:lI ((m:Int)%2) 1=decide (m%2=1):=by
      by_cases h1:m%2=1
      ·rw[xq (by omega),decide_eq_true h1]
      ·rw[xp (by omega),decide_eq_false h1]
     rw[W8 (o:=none) _ _ hb hp ho eT]
     simp only
     rw[AJ hp eT.le eT.le,au]
     have hq:DK .i64 (m:Int) 2=some ((m/2:Nat):Int):=by
      unfold DK
      rw[if_neg (by omega),Int.tdiv_eq_ediv_of_nonneg (by omega),yO (by omega) (by omega)]
      congr 1
     rw[hq,au]
    ·split
     ·exact sa hp _
     ·exact ho
 ·cases h
theorem acn (x:Int×Int) (y:Int) (h:yT x=some y):JM aA x=some y:=by
 obtain⟨p,x⟩:=x
 simp only[yT,u4] at h
 split at h
 ·rename_i hc
  obtain⟨hp,hx⟩:=hc
  have vF:=hp.1;have tV:=hp.2
  obtain⟨n,hn⟩:=jn (show 0<=p - 2 by omega)
  rw[<-h]
  simp only[JM]
  rw[rD (by omega) (by omega),hn,Int.toNat_natCast]
  rw[H6 (r:=Sum.inl (iz p 1 x n)) (fun m s=>∃out x':Int,s=(p,x',out,(m:Int))/\m<=n/\fZ p out/\fZ p x'/\iz p out x' m=iz p 1 x n) ?_ n _ ⟨1,x,rfl,by omega,⟨by omega,by omega⟩,hx,rfl⟩ aA (cG (by omega))]
  ·rw[cK]
  ·rintro m s ⟨out,x',rfl,hm,ho,eT,he⟩
   simp only
   by_cases h0:m=0
   ·subst h0
    left
    rw[aS (fh (by omega)),<-he,HN]
   ·right
    refine⟨m/2,_,by omega,?_,if m%2=1 then out*x'%p else out,x'*x'%p,rfl,by omega,?_,sa hp _,by rw[<-he,HO h0]⟩
    ·rw[aT (gC (by omega))]
     have hb:lI (Ga .i64 (m:Int) 1) 1=decide (m%2=1):=by
      rw[show(1:Int)=((1:Nat):Int) from rfl,aax (by omega) (by omega),Nat.and_one_is_mod]
      by_cases h1:m%2=1
      ·rw[xq (by omega),decide_eq_true h1]
      ·rw[xp (by omega),decide_eq_false h1]
     rw[W8 (o:=none) _ _ hb hp ho eT]
     simp only
     rw[AJ hp eT.le eT.le,au]
     have hq:Bm .i64 (m:Int) 1=some ((m/2:Nat):Int):=by
      rw[show(1:Int)=((1:Nat):Int) from rfl,ako (by omega),Nat.shiftRight_eq_div_pow]
     rw[hq,au]
    ·split
     ·exact sa hp _
     ·exact ho
 ·cases h
def oG (M:Nat->Nat->Int) (i j:Nat):Nat->Nat->Int:=fun a b=>if b<i\/b=i/\a<j then M b a else 0
theorem aad {r c:Nat} (M:Nat->Nat->Int) (i j:Nat):ai c r (kf (oG M i j) j i (M i j))=ai c r (oG M i (j+1)):=by
 refine gZ fun a _ b _=>?_
 unfold kf oG
 by_cases h:a=j/\b=i
 ·obtain⟨rfl,rfl⟩:=h
  simp
 ·rw[if_neg h]
  by_cases h1:b<i\/b=i/\a<j
  ·simp only[if_pos h1,if_pos (show b<i\/b=i/\a<j+1 by omega)]
  ·simp only[if_neg h1,if_neg (show¬(b<i\/b=i/\a<j+1) by omega)]
theorem aac {r c:Nat} (M:Nat->Nat->Int) (i:Nat):ai c r (oG M i c)=ai c r (oG M (i+1) 0):=by
 refine gZ fun a ha b _=>?_
 unfold oG
 by_cases h1:b<i\/b=i/\a<c
 ·rw[if_pos h1,if_pos (by omega)]
 ·rw[if_neg h1,if_neg (by omega)]
theorem aab {r c:Nat} (M:Nat->Nat->Int):ai c r (oG M r 0)=ai c r (qH M):=gZ fun a ha b hb=>if_pos (.inl hb)
theorem aaa {r c:Nat} (M:Nat->Nat->Int):ai c r (oG M 0 0)=ai c r fun _ _=>0:=gZ fun a ha b hb=>if_neg (by omega)
theorem ady {r c:Nat} {M:Nat->Nat->Int} (hr:r<=4096) (hc:c<=4096) (h:r*c<=1048576):ES aA ((r:Int),(c:Int),ai r c M)=some ((c:Int),(r:Int),ai c r (qH M)):=by
 simp only[ES,Dz hc hr (by rw[Nat.mul_comm];exact h),au,bq]
 rw[show ae 0 0 (J ([]:List Int))=some () from rfl,au]
 rw[dP (r:=Sum.inl (((0:Int),(0:Int)),((c:Int),(r:Int)),([]:List Int),ai c r (qH M))) (fun i=>((i:Int),((r:Int),(c:Int),ai r c M),((0:Int),(0:Int)),((c:Int),(r:Int)),([]:List Int),ai c r (oG M i 0))) r ?_ ?_ ?_ (cG (by omega))]
 ·rw[cK];simp only[gu,au]
 ·intro i hi
  simp only
  rw[aT (dY hi)]
  rw[dP (r:=Sum.inl ((i:Int),((r:Int),(c:Int),ai r c M),((0:Int),(0:Int)),((c:Int),(r:Int)),([]:List Int),ai c r (oG M (i+1) 0))) (fun j=>(((i:Int),(j:Int)),((r:Int),(c:Int),ai r c M),((0:Int),(0:Int)),((c:Int),(r:Int)),([]:List Int),ai c r (oG M i j))) c ?_ ?_ ?_ (cG (by omega))]
  ·rw[cK];simp only[dI (show i<=1048577 by omega)]
  ·intro j hj
   simp only
   rw[aT (dY hj),nw (by omega) (by omega) (by omega),nw (by omega) (by omega) (by omega),xA M hi hj,au]
   simp only[nR _ hj hi,au,jT,nY _ hj hi,Bj _ hi,jW,aad (r:=r) (c:=c),dI (show j<=1048577 by omega)]
  ·simp only
   rw[aS (eA (Nat.le_refl c)),aac]
  ·rfl
 ·simp only
  rw[aS (eA (Nat.le_refl r)),aab]
 ·rw[aaa];rfl
theorem Jr {r c:Nat} {M:Nat->Nat->Int} (hr:r<=4096) (hc:c<=4096) (h:r*c<=1048576):qK ((r:Int),(c:Int),ai r c M)=some ((c:Int),(r:Int),ai c r (qH M)):=by
 simp only[qK,Int.toNat_natCast]
 rw[if_pos (uw M hr hc h)]
 refine(congrArg (fun l=>some ((c:Int),(r:Int),l)) (gZ fun a ha b hb=>kD M hb ha))
theorem ac2 (x y:Int×Int×List Int) (h:qK x=some y):ES aA x=some y:=by
 have h0:=h
 simp only[qK] at h
 split at h
 ·rename_i hc
  obtain⟨r,c,M,rfl,hr,hc,dh⟩:=ql hc
  rw[<-h0,ady hr hc dh,Jr hr hc dh]
 ·cases h
theorem adz {r c:Nat} {M:Nat->Nat->Int} (hr:r<=4096) (hc:c<=4096) (h:r*c<=1048576):EJ aA ((r:Int),(c:Int),ai r c M)=some ((c:Int),(r:Int),ai c r (qH M)):=by
 have h':c*r<=1048576:=by rw[Nat.mul_comm];exact h
 simp only[EJ,Dy hc hr h',au,bq]
 rw[show ae 0 0 (J ([]:List Int))=some () from rfl,au]
 rw[dP (r:=Sum.inl (((0:Int),(0:Int)),((c:Int),(r:Int)),([]:List Int),ai c r (qH M))) (fun i=>((i:Int),((r:Int),(c:Int),ai r c M),((0:Int),(0:Int)),((c:Int),(r:Int)),([]:List Int),ai c r (oG M i 0))) r ?_ ?_ ?_ (cG (by omega))]
 ·rw[cK];simp only[gu,au]
 ·intro i hi
  simp only
  rw[aT (dY hi)]
  rw[dP (r:=Sum.inl ((i:Int),((r:Int),(c:Int),ai r c M),((0:Int),(0:Int)),((c:Int),(r:Int)),([]:List Int),ai c r (oG M (i+1) 0))) (fun j=>(((i:Int),(j:Int)),((r:Int),(c:Int),ai r c M),((0:Int),(0:Int)),((c:Int),(r:Int)),([]:List Int),ai c r (oG M i j))) c ?_ ?_ ?_ (cG (by omega))]
  ·rw[cK];simp only[dI (show i<=1048577 by omega)]
  ·intro j hj
   simp only
   rw[aT (dY hj)]
   simp only[mq hr hc h hi hj,sW hc hr h' hj hi,au,jW,aad (r:=r) (c:=c),dI (show j<=1048577 by omega)]
  ·simp only
   rw[aS (eA (Nat.le_refl c)),aac]
  ·rfl
 ·simp only
  rw[aS (eA (Nat.le_refl r)),aab]
 ·rw[aaa];rfl
theorem acr (x y:Int×Int×List Int) (h:yV x=some y):EJ aA x=some y:=by
 have h0:qK x=some y:=h
 simp only[yV,qK] at h
 split at h
 ·rename_i hc
  obtain⟨r,c,M,rfl,hr,hc,dh⟩:=ql hc
  rw[<-h0,adz hr hc dh,Jr hr hc dh]
 ·cases h
def eB (W:Nat->Nat->Int) (i j:Nat):Nat->Nat->Int:=fun a b=>if a<i\/a=i/\b<j then W a b else 0
theorem Px {r c:Nat} (W:Nat->Nat->Int) (i j:Nat):ai r c (kf (eB W i j) i j (W i j))=ai r c (eB W i (j+1)):=by
 refine gZ fun a _ b _=>?_
 unfold kf eB
 by_cases h:a=i/\b=j
 ·obtain⟨rfl,rfl⟩:=h
  simp
 ·rw[if_neg h]
  by_cases h1:a<i\/a=i/\b<j
  ·simp only[if_pos h1,if_pos (show a<i\/a=i/\b<j+1 by omega)]
  ·simp only[if_neg h1,if_neg (show¬(a<i\/a=i/\b<j+1) by omega)]
theorem AO {r c:Nat} (W:Nat->Nat->Int) (i:Nat):ai r c (eB W i c)=ai r c (eB W (i+1) 0):=by
 refine gZ fun a _ b hb=>?_
 unfold eB
 by_cases h1:a<i\/a=i/\b<c
 ·simp only[if_pos h1,if_pos (show a<i+1\/a=i+1/\b<0 by omega)]
 ·simp only[if_neg h1,if_neg (show¬(a<i+1\/a=i+1/\b<0) by omega)]
theorem AM {r c:Nat} (W:Nat->Nat->Int):ai r c (eB W r 0)=ai r c W:=gZ fun a ha b hb=>if_pos (.inl ha)
theorem AL {r c:Nat} (W:Nat->Nat->Int):ai r c (eB W 0 0)=ai r c fun _ _=>0:=gZ fun a ha b hb=>if_neg (by omega)
theorem Pw {p:Int} {k:Nat} {A A' B B':Nat->Nat->Int} {i j:Nat} (hA:∀t,t<k->A i t=A' i t) (hB:∀t,t<k->B t j=B' t j):du p k A B i j=du p k A' B' i j:=by
 unfold du
 have:∀n,n<=k->nc p (fun t=>A i t) (fun t=>B t j) n=nc p (fun t=>A' i t) (fun t=>B' t j) n:=by
  intro n
  induction n with
  |zero=>intro _;rfl
  |succ n ih=>
   intro hn
   simp only[nc]
   rw[ih (by omega),hA n (by omega),hB n (by omega)]
 exact this k (Nat.le_refl k)
theorem Dw {p:Int} (hp:di p) (r c k:Nat) (A B:Nat->Nat->Int):cY p r c (du p k A B):=fun i _ j _=>GD hp _ _ k
theorem XY {x:Int×(Int×Int×List Int)×(Int×Int×List Int)} (h:Dx x):∃(p:Int) (r k c:Nat) (A B:Nat->Nat->Int),x=(p,((r:Int),(k:Int),ai r k A),((k:Int),(c:Int),ai k c B))/\di p/\
  r<=4096/\k<=4096/\c<=4096/\r*k<=1048576/\k*c<=1048576/\r*c<=1048576/\cY p r k A/\cY p k c B:=by
 obtain⟨p,a,b⟩:=x
 obtain⟨hp,ha,hb,hk,dh,h1,h2⟩:=h
 obtain⟨r,k,A,rfl,q1,q2,q3⟩:=ql ha
 obtain⟨k',c,B,rfl,q4,q5,q6⟩:=ql hb
 simp only at hk dh h1 h2
 have:k'=k:=by omega
 subst this
 have e:(r:Int)*(c:Int)=((r*c:Nat):Int):=by norm_cast
 exact⟨p,r,k',c,A,B,rfl,hp,q1,q2,q5,q3,q6,by omega,jU.1 h1,jU.1 h2⟩
theorem ahn {p:Int} {r k c:Nat} {A B:Nat->Nat->Int} (hp:di p) (hr:r<=4096) (hk:k<=4096) (hc:c<=4096) (h1:r*k<=1048576) (h2:k*c<=1048576) (h3:r*c<=1048576) (hA:cY p r k A) (hB:cY p k c B):
  Dx (p,((r:Int),(k:Int),ai r k A),((k:Int),(c:Int),ai k c B)):=by
 refine⟨hp,uw A hr hk h1,uw B hk hc h2,rfl,?_,jU.2 hA,jU.2 hB⟩
 show(r:Int)*(c:Int)<=1048576
 have e:(r:Int)*(c:Int)=((r*c:Nat):Int):=by norm_cast
 omega
theorem AK {p:Int} {r k c:Nat} {A B:Nat->Nat->Int} (hp:di p) (hr:r<=4096) (hk:k<=4096) (hc:c<=4096) (h1:r*k<=1048576) (h2:k*c<=1048576) (h3:r*c<=1048576) (hA:cY p r k A) (hB:cY p k c B):
  nL (p,((r:Int),(k:Int),ai r k A),((k:Int),(c:Int),ai k c B))=some ((r:Int),(c:Int),ai r c (du p k A B)):=by
 simp only[nL,Int.toNat_natCast]
 rw[if_pos (ahn hp hr hk hc h1 h2 h3 hA hB)]
 exact congrArg (fun l=>some ((r:Int),(c:Int),l)) (gZ fun i hi j hj=>Pw (fun t ht=>kD A hi ht) (fun t ht=>kD B ht hj))
theorem adm {p:Int} {r k c:Nat} {A B:Nat->Nat->Int} (hp:di p) (hr:r<=4096) (hk:k<=4096) (hc:c<=4096) (h1:r*k<=1048576) (h2:k*c<=1048576) (h3:r*c<=1048576) (hA:cY p r k A) (hB:cY p k c B):
  EN aA (p,((r:Int),(k:Int),ai r k A),((k:Int),(c:Int),ai k c B))=some ((r:Int),(c:Int),ai r c (du p k A B)):=by
 simp only[EN,Dz hr hc h3,au,bq]
 rw[show ae 0 0 (J ([]:List Int))=some () from rfl,au]
 rw[dP (r:=Sum.inl (((0:Int),(0:Int)),((r:Int),(c:Int)),([]:List Int),ai r c (du p k A B))) (fun i=>((p,(i:Int)),((r:Int),(k:Int),ai r k A),((k:Int),(c:Int),ai k c B),((0:Int),(0:Int)),((r:Int),(c:Int)),([]:List Int),ai r c (eB (du p k A B) i 0))) r ?_ ?_ ?_ (cG (by omega))]
 ·rw[cK];simp only[gu,au]
 ·intro i hi
  simp only
  rw[aT (dY hi)]
  rw[dP (r:=Sum.inl (((i:Int),p),((r:Int),(k:Int),ai r k A),((k:Int),(c:Int),ai k c B),((0:Int),(0:Int)),((r:Int),(c:Int)),([]:List Int),ai r c (eB (du p k A B) (i+1) 0))) (fun j=>((p,(i:Int),(j:Int)),((r:Int),(k:Int),ai r k A),((k:Int),(c:Int),ai k c B),((0:Int),(0:Int)),((r:Int),(c:Int)),([]:List Int),ai r c (eB (du p k A B) i j))) c ?_ ?_ ?_ (cG (by omega))]
  ·rw[cK];simp only[dI (show i<=1048577 by omega)]
  ·intro j hj
   simp only
   rw[aT (dY hj)]
   rw[dP (r:=Sum.inl ((du p k A B i j,(j:Int),p,(i:Int)),((r:Int),(k:Int),ai r k A),((k:Int),(c:Int),ai k c B),((0:Int),(0:Int)),((r:Int),(c:Int)),([]:List Int),ai r c (eB (du p k A B) i j))) (fun t=>((p,(i:Int),(j:Int),nc p (fun t=>A i t) (fun t=>B t j) t,(t:Int)),((r:Int),(k:Int),ai r k A),((k:Int),(c:Int),ai k c B),((0:Int),(0:Int)),((r:Int),(c:Int)),([]:List Int),ai r c (eB (du p k A B) i j))) k ?_ ?_ ?_ (cG (by omega))]
   ·rw[cK]
    simp only[nw (show i<=1048576 by omega) (show c<=1048576 by omega) (show j<=1048576 by omega),nR _ hi hj,au,jT,nY _ hi hj,Bj _ hj,jW,Px (r:=r) (c:=c)]
    rw[cK]
    simp only[dI (show j<=1048577 by omega)]
   ·intro t ht
    simp only
    rw[aT (dY ht),nw (by omega) (by omega) (by omega),nw (by omega) (by omega) (by omega),xA A hi ht,au,xA B ht hj,au,Dt hp ((GD hp _ _ t).s hp) (hA i hi t ht).le (hB t ht j hj).le,au]
    simp only[dI (show t<=1048577 by omega),nc]
   ·simp only
    rw[aS (eA (Nat.le_refl k))]
    rfl
   ·rfl
  ·simp only
   rw[aS (eA (Nat.le_refl c)),AO]
  ·rfl
 ·simp only
  rw[aS (eA (Nat.le_refl r)),AM]
 ·rw[AL];rfl
theorem acY (x:Int×(Int×Int×List Int)×(Int×Int×List Int)) (y:Int×Int×List Int) (h:nL x=some y):EN aA x=some y:=by
 have h0:=h
 simp only[nL] at h
 split at h
 ·rename_i hc
  obtain⟨p,r,k,c,A,B,rfl,hp,hr,hk,hc,h1,h2,h3,hA,hB⟩:=XY hc
  rw[<-h0,adm hp hr hk hc h1 h2 h3 hA hB,AK hp hr hk hc h1 h2 h3 hA hB]
 ·cases h
theorem adl {p:Int} {r k c:Nat} {A B:Nat->Nat->Int} (hp:di p) (hr:r<=4096) (hk:k<=4096) (hc:c<=4096) (h1:r*k<=1048576) (h2:k*c<=1048576) (h3:r*c<=1048576) (hA:cY p r k A) (hB:cY p k c B):
  EG aA (p,((r:Int),(k:Int),ai r k A),((k:Int),(c:Int),ai k c B))=some ((r:Int),(c:Int),ai r c (du p k A B)):=by
 simp only[EG,Dy hr hc h3,au,bq]
 rw[show ae 0 0 (J ([]:List Int))=some () from rfl,au]
 rw[dP (r:=Sum.inl (((0:Int),(0:Int)),((r:Int),(c:Int)),([]:List Int),ai r c (du p k A B))) (fun i=>((p,(i:Int)),((r:Int),(k:Int),ai r k A),((k:Int),(c:Int),ai k c B),((0:Int),(0:Int)),((r:Int),(c:Int)),([]:List Int),ai r c (eB (du p k A B) i 0))) r ?_ ?_ ?_ (cG (by omega))]
 ·rw[cK];simp only[gu,au]
 ·intro i hi
  simp only
  rw[aT (dY hi)]
  rw[dP (r:=Sum.inl (((i:Int),p),((r:Int),(k:Int),ai r k A),((k:Int),(c:Int),ai k c B),((0:Int),(0:Int)),((r:Int),(c:Int)),([]:List Int),ai r c (eB (du p k A B) (i+1) 0))) (fun j=>((p,(i:Int),(j:Int)),((r:Int),(k:Int),ai r k A),((k:Int),(c:Int),ai k c B),((0:Int),(0:Int)),((r:Int),(c:Int)),([]:List Int),ai r c (eB (du p k A B) i j))) c ?_ ?_ ?_ (cG (by omega))]
  ·rw[cK];simp only[dI (show i<=1048577 by omega)]
  ·intro j hj
   simp only
   rw[aT (dY hj)]
   rw[dP (r:=Sum.inl ((du p k A B i j,(j:Int),p,(i:Int)),((r:Int),(k:Int),ai r k A),((k:Int),(c:Int),ai k c B),((0:Int),(0:Int)),((r:Int),(c:Int)),([]:List Int),ai r c (eB (du p k A B) i j))) (fun t=>((p,(i:Int),(j:Int),nc p (fun t=>A i t) (fun t=>B t j) t,(t:Int)),((r:Int),(k:Int),ai r k A),((k:Int),(c:Int),ai k c B),((0:Int),(0:Int)),((r:Int),(c:Int)),([]:List Int),ai r c (eB (du p k A B) i j))) k ?_ ?_ ?_ (cG (by omega))]
   ·rw[cK]
    simp only[sW hr hc h3 hi hj,au,jW,Px (r:=r) (c:=c)]
    rw[cK]
    simp only[dI (show j<=1048577 by omega)]
   ·intro t ht
    simp only
    rw[aT (dY ht),mq hr hk h1 hi ht,au,mq hk hc h2 ht hj,au,Dt hp ((GD hp _ _ t).s hp) (hA i hi t ht).le (hB t ht j hj).le,au]
    simp only[dI (show t<=1048577 by omega),nc]
   ·simp only
    rw[aS (eA (Nat.le_refl k))]
    rfl
   ·rfl
  ·simp only
   rw[aS (eA (Nat.le_refl c)),AO]
  ·rfl
 ·simp only
  rw[aS (eA (Nat.le_refl r)),AM]
 ·rw[AL];rfl
theorem aco (x:Int×(Int×Int×List Int)×(Int×Int×List Int)) (y:Int×Int×List Int) (h:rK x=some y):EG aA x=some y:=by
 have h0:nL x=some y:=h
 simp only[rK,nL] at h
 split at h
 ·rename_i hc
  obtain⟨p,r,k,c,A,B,rfl,hp,hr,hk,hc,h1,h2,h3,hA,hB⟩:=XY hc
  rw[<-h0,adl hp hr hk hc h1 h2 h3 hA hB,AK hp hr hk hc h1 h2 h3 hA hB]
 ·cases h
end Go.Am
end
section
namespace Go.Am
def Zs (x:Int×Int×Int):Prop:=f0 x.1=true/\(1<=x.2.1/\x.2.1<=8)/\(1<=x.2.2/\x.2.2<=8)
instance (x:Int×Int×Int):Decidable (Zs x):=by unfold Zs;infer_instance
theorem aeP {p:Int} {r c:Nat} {l:List Int} (h:l.length=r*c) (hr:kc p l=true):cY p r c (bu c l):=by
 apply jU.1
 rw[pT h]
 intro x hx
 have:=List.all_eq_true.1 hr x hx
 exact of_decide_eq_true this
theorem ago {m:Int} {x:Int×Int×List Int} (h:ou m x=true):∃(r c:Nat) (M:Nat->Nat->Int),x=((r:Int),(c:Int),ai r c M)/\di m/\r<=64/\c<=64/\r*c<=4096/\cY m r c M:=by
 obtain⟨r,c,l⟩:=x
 simp only[ou,Bool.and_eq_true,decide_eq_true_eq] at h
 obtain⟨h1,h2,h3,h4,h5⟩:=h
 obtain⟨r,rfl⟩:=jn (z:=r) (by omega)
 obtain⟨c,rfl⟩:=jn (z:=c) (by omega)
 have hl:l.length=r*c:=by
  have e:(r:Int)*(c:Int)=((r*c:Nat):Int):=by norm_cast
  omega
 have dh:r*c<=64*64:=Nat.mul_le_mul (by omega) (by omega)
 exact⟨r,c,bu c l,by rw[pT hl],sI h1,by omega,by omega,by omega,aeP hl h5⟩
theorem zg {x y:Nat} (h:x+y<=1099511627776):aM .i64 (x:Int) (y:Int)=((x+y:Nat):Int):=by
 rw[jS (by omega) (by omega)]
 omega
end Go.Am
end
section
namespace Go.Am
abbrev bL:=Nat->Nat->Int
def uJ (p inv:Int) (M:bL) (t n:Nat):bL:=fun a b=>if a=t/\b<n then M t b*inv%p else M a b
def uI (p inv:Int) (M:bL) (t:Nat):bL:=fun a b=>if a=t then M t b*inv%p else M a b
def fb (p:Int) (M:bL) (t j n:Nat):bL:=fun a b=>if a<n/\a≠t then(M a b+(p - M a j)*M t b)%p else M a b
def qu (p:Int) (M:bL) (t j k:Nat):bL:=uI p (iz p 1 (e8 M t k t j) (p - 2).toNat) (e8 M t k) t
def A7 (p:Int) (M:bL) (t j k:Nat) (d:Int):Int:=(if k=t then d else(p - d)%p)*e8 M t k t j%p
def mS (p:Int) (r:Nat) (s:bL×List Int×Int) (j:Nat):bL×List Int×Int:=
 if s.2.1.length<r then
  match iV s.1 j (r - s.2.1.length) s.2.1.length with
  |none=>s
  |some k=>(fb p (qu p s.1 s.2.1.length j k) s.2.1.length j r,s.2.1++[(j:Int)],A7 p s.1 s.2.1.length j k s.2.2)
 else s
def ga (p:Int) (r:Nat) (M:bL):Nat->bL×List Int×Int
 |0=>(M,[],1)
 |j+1=>mS p r (ga p r M j) j
def yz (x:Int×Int×Int×List Int):Prop:=di x.1/\mO x.2/\fw x.1 x.2.2.2
instance (x:Int×Int×Int×List Int):Decidable (yz x):=by unfold yz;infer_instance
def nE (x:Int×Int×Int×List Int):bL×List Int×Int:=ga x.1 x.2.1.toNat (bu x.2.2.1.toNat x.2.2.2) x.2.2.1.toNat
def u5:Int×Int×Int×List Int->Option ((Int×Int×List Int)×List Int×Int):=fun(x:Int×Int×Int×List Int)=>
 if yz x then some ((x.2.1,x.2.2.1,ai x.2.1.toNat x.2.2.1.toNat (nE x).1),(nE x).2) else none
def uW:Int×Int×Int×List Int->Option ((Int×Int×List Int)×List Int):=fun(x:Int×Int×Int×List Int)=>
 if yz x then some ((x.2.1,x.2.2.1,ai x.2.1.toNat x.2.2.1.toNat (nE x).1),(nE x).2.1) else none
def FW:ao:=[(.one,[.int .i64]),(.agg,[.int .i64,.int .i64,.list [.int .i64]])]
def QU:ao:=[(.agg,[.int .i64,.int .i64,.list [.int .i64]]),(.one,[.list [.int .i64]]),(.one,[.int .i64])]
def ahb:aW:=[]
def Fj:ao:=[(.one,[.int .i64]),(.agg,[.int .i64,.int .i64,.list [.int .i64]])]
def Qk:ao:=[(.agg,[.int .i64,.int .i64,.list [.int .i64]]),(.one,[.list [.int .i64]])]
def agF:aW:=[]
def EQ (NN:Nat):(Int×(Int×(Int×(List Int))))->(Option ((Int×(Int×(List Int)))×((List Int)×Int))):=
 (fun((i0,i1,i2,l3):(Int×(Int×(Int×(List Int)))))=>
 (mh l3).U (fun l4=>
 bK ((ae 0 0 (J (([]:List Int)))).U (fun _=>
 (ae 0 0 (J (([]:List Int)))).U (fun _=>
 (ae 0 (J l4) (J l4)).U (fun _=>
 bf NN (fun(((i5,i6,i7),(i8,i9,fA),(bZ,cq),(cO,db),bJ,cg,bB):((Int×(Int×Int))×((Int×(Int×(List Int)))×((Int×Int)×((Int×Int)×((List Int)×((List Int)×(List Int))))))))=>
 aw (bc i7 i9)
 (aw (bc (aL (J bB)) i8)
 (bK ((bg cg 0 (J cg)).U (fun c9=>
 (wY ((cO,db,c9),aL (J bB),i7)).U (fun cX=>
 aw (bc cX (0:Int))
 ((ae 0 (J bB) (J bB)).U (fun _=>
 (ae 0 (J bJ) (J bJ)).U (fun _=>
 (ae 0 (J cg) (J cg)).U (fun _=>
 some (Sum.inl ((i7,i5,i6),(i8,i9,fA),(bZ,cq),(cO,db),bJ,cg,bB))))))
 (bK (aw (dB cX (aL (J bB)))
 ((ae 0 (J cg) (J cg)).U (fun _=>
 (rQ ((cO,db,cg),aL (J bB),cX)).U (fun ff=>
 (gQ (mf .i64 i5 i6) i5).U (fun eQ=>
 (ae 0 (J bB) (J bB)).U (fun _=>
 (ae 0 (J bJ) (J bJ)).U (fun _=>
 (ae 0 (J cg) (J ff)).U (fun _=>
 some (Sum.inl ((eQ,aL (J bB),i7,i5),(i8,i9,fA),(bZ,cq),(cO,db),bJ,ff,bB)))))))))
 ((ae 0 (J bB) (J bB)).U (fun _=>
 (ae 0 (J bJ) (J bJ)).U (fun _=>
 (ae 0 (J cg) (J cg)).U (fun _=>
 some (Sum.inl ((i6,aL (J bB),i7,i5),(i8,i9,fA),(bZ,cq),(cO,db),bJ,cg,bB)))))))
 (fun((fW,ef,eH,jC),(jD,fe,iN),(xZ,hH),(eU,n8),fN,f7,k8)=>
 (dT (aM .i64 (cz .i64 ef fe) eH) (J f7)).U (fun k36=>
 (dg f7 (aE 0 k36)).U (fun lR=>
 (gQ (cz .i64 fW lR) jC).U (fun n9=>
 (u4 (jC,lR)).U (fun kv=>
 bK ((ae 0 (J k8) (J k8)).U (fun _=>
 (ae 0 (J fN) (J fN)).U (fun _=>
 (ae 0 (J f7) (J f7)).U (fun _=>
 bf NN (fun(((mG,kT,kw,fq,fY,hY),(qd,j3,gz),(sC,kU),(jF,kV),mL,ek,dO):((Int×(Int×(Int×(Int×(Int×Int)))))×((Int×(Int×(List Int)))×((Int×Int)×((Int×Int)×((List Int)×((List Int)×(List Int))))))))=>
 aw (bc hY j3)
 ((dT (aM .i64 (cz .i64 fq j3) hY) (J ek)).U (fun k56=>
 (dg ek (aE 0 k56)).U (fun jh=>
 (gQ (cz .i64 jh fY) mG).U (fun iK=>
 (dT (aM .i64 (cz .i64 fq j3) hY) (J ek)).U (fun NO=>
 (dg ek (aE 0 NO)).U (fun lS=>
 (ae 0 (J dO) (J dO)).U (fun _=>
 (ae 0 (J mL) (J mL)).U (fun _=>
 (ae 0 (J ek) (J (bI ek (aE 0 NO) iK))).U (fun _=>
 some (Sum.inl ((mG,kT,kw,fq,fY,aM .i64 hY 1),(qd,j3,gz),(sC,kU),(jF,kV),mL,bI ek (aE 0 NO) iK,dO)))))))))))
 (((ae 0 (J dO) (J dO)).U (fun _=>
 (ae 0 (J mL) (J mL)).U (fun _=>
 (ae 0 (J ek) (J ek)).U (fun _=>
 some (Sum.inl ((kT,mG,kw,fq),(qd,j3,gz),(sC,kU),(jF,kV),mL,ek,dO)))))).U (fun lY=>
 some (Sum.inr lY))))
 ((jC,n9,eH,ef,kv,(0:Int)),(jD,fe,iN),(xZ,hH),(eU,n8),fN,f7,k8)))))
 (fun((jG,kz,i64,sD),(qe,lT,pn),(qf,uh),(rl,rm),nA,jm,iP)=>
 bK ((ae 0 (J iP) (J iP)).U (fun _=>
 (ae 0 (J nA) (J nA)).U (fun _=>
 (ae 0 (J jm) (J jm)).U (fun _=>
 bf NN (fun(((jH,jI,jJ,hZ,ji),(sF,pd,gO),(nt,nu),(vQ,lU),j8,gA,gP):((Int×(Int×(Int×(Int×Int))))×((Int×(Int×(List Int)))×((Int×Int)×((Int×Int)×((List Int)×((List Int)×(List Int))))))))=>
 aw (bc ji sF)
 (aw (dB ji hZ)
 ((dT (aM .i64 (cz .i64 ji pd) jJ) (J gA)).U (fun k91=>
 (dg gA (aE 0 k91)).U (fun vS=>
 (ae 0 (J gA) (J gA)).U (fun _=>
 (wX (jH,(vQ,lU,gA),ji,hZ,vS)).U (fun oq=>
 (ae 0 (J gP) (J gP)).U (fun _=>
 (ae 0 (J j8) (J j8)).U (fun _=>
 (ae 0 (J gA) (J oq)).U (fun _=>
 some (Sum.inl ((jH,jI,jJ,hZ,aM .i64 ji 1),(sF,pd,gO),(nt,nu),(vQ,lU),j8,oq,gP))))))))))
 ((ae 0 (J gP) (J gP)).U (fun _=>
 (ae 0 (J j8) (J j8)).U (fun _=>
 (ae 0 (J gA) (J gA)).U (fun _=>
 some (Sum.inl ((jH,jI,jJ,hZ,aM .i64 ji 1),(sF,pd,gO),(nt,nu),(vQ,lU),j8,gA,gP)))))))
 (((ae 0 (J gP) (J gP)).U (fun _=>
 (ae 0 (J j8) (J j8)).U (fun _=>
 (ae 0 (J gA) (J gA)).U (fun _=>
 some (Sum.inl ((jJ,jH,jI),(sF,pd,gO),(nt,nu),(vQ,lU),j8,gA,gP)))))).U (fun sN=>
 some (Sum.inr sN))))
 ((kz,jG,i64,sD,(0:Int)),(qe,lT,pn),(qf,uh),(rl,rm),nA,jm,iP)))))
 (fun((nv,rn,Db),(uk,rp,qi),(ud,n7),(lQ,rk),kZ,jL,iM)=>
 (ae 0 (J iM) (J iM)).U (fun _=>
 (bg ((nv::([]:List Int))) 0 1).U (fun ph=>
 (jV (aE (J iM) (J ph)) 8).U (fun _=>
 (ae 0 (aE (J iM) (J ph)) (J (cm iM ph))).U (fun _=>
 (ae 0 (J kZ) (J kZ)).U (fun _=>
 (ae 0 (J jL) (J jL)).U (fun _=>
 some (Sum.inl ((nv,rn,Db),(uk,rp,qi),(ud,n7),(lQ,rk),kZ,jL,cm iM ph)))))))))))))))))))
 (fun((Ad,qc,sB),(xW,Ae,sK),(C6,aew),(xX,Af),yh,NV,NW)=>
 (ae 0 (J NW) (J NW)).U (fun _=>
 (ae 0 (J yh) (J yh)).U (fun _=>
 (ae 0 (J NV) (J NV)).U (fun _=>
 some (Sum.inl ((qc,sB,aM .i64 Ad 1),(xW,Ae,sK),(C6,aew),(xX,Af),yh,NV,NW)))))))
 (((ae 0 (J bB) (J bB)).U (fun _=>
 (ae 0 (J bJ) (J bJ)).U (fun _=>
 (ae 0 (J cg) (J cg)).U (fun _=>
 some (Sum.inl (i6,(bZ,cq),(cO,db),bJ,cg,bB)))))).U (fun af4=>
 some (Sum.inr af4))))
 (((ae 0 (J bB) (J bB)).U (fun _=>
 (ae 0 (J bJ) (J bJ)).U (fun _=>
 (ae 0 (J cg) (J cg)).U (fun _=>
 some (Sum.inl (i6,(bZ,cq),(cO,db),bJ,cg,bB)))))).U (fun vZ=>
 some (Sum.inr vZ))))
 ((i0,(1:Int),(0:Int)),(i1,i2,l3),((0:Int),(0:Int)),(i1,i2),([]:List Int),l4,([]:List Int))))))
 (fun(Nl,(WG,vO),(ue,Ag),HX,ur,uu)=>
 (ci ur (J ur)).U (fun af5=>
 (ci uu (J uu)).U (fun HY=>
 some ((ue,Ag,af5),HY,Nl))))))
def EI (NN:Nat):(Int×(Int×(Int×(List Int))))->(Option ((Int×(Int×(List Int)))×(List Int))):=
 (fun((i0,i1,i2,l3):(Int×(Int×(Int×(List Int)))))=>
 (yS (i1,i2,l3)).U (fun(i4,i5,l6)=>
 bK ((ae 0 0 (J (([]:List Int)))).U (fun _=>
 (ae 0 0 (J (([]:List Int)))).U (fun _=>
 (ae 0 (J l6) (J l6)).U (fun _=>
 bf NN (fun(((i7,i8),(i9,bS),(bZ,cq),iA,c8,bJ):((Int×Int)×((Int×Int)×((Int×Int)×((List Int)×((List Int)×(List Int)))))))=>
 aw (bc i8 cq)
 (bK (bK ((ae 0 (J bJ) (J bJ)).U (fun _=>
 (ae 0 (J iA) (J iA)).U (fun _=>
 (ae 0 (J c8) (J c8)).U (fun _=>
 bf NN (fun(((ed,jg,dX,cX),(eG,eQ),(fW,ef),fM,cL,cb):((Int×(Int×(Int×Int)))×((Int×Int)×((Int×Int)×((List Int)×((List Int)×(List Int)))))))=>
 aw (bc cX fW)
 ((bg cL 0 (J cL)).U (fun j5=>
 (jq ((fW,ef,j5),cX,jg)).U (fun fK=>
 aw (lI fK (0:Int))
 ((ae 0 (J cb) (J cb)).U (fun _=>
 (ae 0 (J fM) (J fM)).U (fun _=>
 (ae 0 (J cL) (J cL)).U (fun _=>
 some (Sum.inl ((ed,jg,dX,aM .i64 cX 1),(eG,eQ),(fW,ef),fM,cL,cb))))))
 (((ae 0 (J cb) (J cb)).U (fun _=>
 (ae 0 (J fM) (J fM)).U (fun _=>
 (ae 0 (J cL) (J cL)).U (fun _=>
 some (Sum.inl ((cX,dX,jg,ed),(eG,eQ),(fW,ef),fM,cL,cb)))))).U (fun dR=>
 some (Sum.inr dR))))))
 (((ae 0 (J cb) (J cb)).U (fun _=>
 (ae 0 (J fM) (J fM)).U (fun _=>
 (ae 0 (J cL) (J cL)).U (fun _=>
 some (Sum.inl ((cX,dX,jg,ed),(eG,eQ),(fW,ef),fM,cL,cb)))))).U (fun f6=>
 some (Sum.inr f6))))
 ((i7,i8,aL (J bJ),aL (J bJ)),(i9,bS),(bZ,cq),iA,c8,bJ)))))
 (fun((eU,n8,jE,hJ),(gM,gm),(lR,n9),ft,fg,la)=>
 aw (lI eU lR)
 ((ae 0 (J la) (J la)).U (fun _=>
 (ae 0 (J ft) (J ft)).U (fun _=>
 (ae 0 (J fg) (J fg)).U (fun _=>
 some (Sum.inl ((jE,hJ),(gM,gm),(lR,n9),ft,fg,la))))))
 ((ae 0 (J fg) (J fg)).U (fun _=>
 (yR ((lR,n9,fg),n8,eU)).U (fun pi=>
 (bg pi 0 (J fg)).U (fun HZ=>
 (jq ((lR,n9,HZ),n8,jE)).U (fun fY=>
 (yT (hJ,fY)).U (fun hY=>
 bK ((ae 0 (J la) (J la)).U (fun _=>
 (ae 0 (J ft) (J ft)).U (fun _=>
 (ae 0 (J fg) (J pi)).U (fun _=>
 bf NN (fun(((qd,j3,kx,sC,kU),(jF,kV),(ky,uf),dO,j7,v8):((Int×(Int×(Int×(Int×Int))))×((Int×Int)×((Int×Int)×((List Int)×((List Int)×(List Int)))))))=>
 aw (bc kU uf)
 ((bg j7 0 (J j7)).U (fun Dn=>
 (jq ((ky,uf,Dn),kx,kU)).U (fun o9=>
 (gQ (cz .i64 o9 sC) qd).U (fun lS=>
 (ae 0 (J j7) (J j7)).U (fun _=>
 (m6 ((ky,uf,j7),kx,kU,lS)).U (fun lY=>
 (ae 0 (J v8) (J v8)).U (fun _=>
 (ae 0 (J dO) (J dO)).U (fun _=>
 (ae 0 (J j7) (J lY)).U (fun _=>
 some (Sum.inl ((qd,j3,kx,sC,aM .i64 kU 1),(jF,kV),(ky,uf),dO,lY,v8)))))))))))
 (((ae 0 (J v8) (J v8)).U (fun _=>
 (ae 0 (J dO) (J dO)).U (fun _=>
 (ae 0 (J j7) (J j7)).U (fun _=>
 some (Sum.inl ((qd,j3,kx),(jF,kV),(ky,uf),dO,j7,v8)))))).U (fun pk=>
 some (Sum.inr pk))))
 ((hJ,jE,n8,hY,(0:Int)),(gM,gm),(lR,n9),ft,pi,la)))))
 (fun((kz,i64,sD),(qe,lT),(nr,qf),iO,ma,oh)=>
 bK ((ae 0 (J oh) (J oh)).U (fun _=>
 (ae 0 (J iO) (J iO)).U (fun _=>
 (ae 0 (J ma) (J ma)).U (fun _=>
 bf NN (fun(((pb,ui,sE,jH),(jI,jJ),(hZ,ji),iQ,gN,gO):((Int×(Int×(Int×Int)))×((Int×Int)×((Int×Int)×((List Int)×((List Int)×(List Int)))))))=>
 aw (bc jH hZ)
 (aw (dB jH sE)
 ((bg gN 0 (J gN)).U (fun yj=>
 (jq ((hZ,ji,yj),jH,ui)).U (fun nu=>
 aw (dB nu (0:Int))
 ((bg gN 0 (J gN)).U (fun nB=>
 (jq ((hZ,ji,nB),jH,ui)).U (fun lU=>
 (ae 0 (J gN) (J gN)).U (fun _=>
 (wS ((hZ,ji,gN),pb,jH,sE,mf .i64 pb lU)).U (fun j8=>
 (ae 0 (J gO) (J gO)).U (fun _=>
 (ae 0 (J iQ) (J iQ)).U (fun _=>
 (ae 0 (J gN) (J j8)).U (fun _=>
 some (Sum.inl ((pb,ui,sE,aM .i64 jH 1),(jI,jJ),(hZ,ji),iQ,j8,gO))))))))))
 ((ae 0 (J gO) (J gO)).U (fun _=>
 (ae 0 (J iQ) (J iQ)).U (fun _=>
 (ae 0 (J gN) (J gN)).U (fun _=>
 some (Sum.inl ((pb,ui,sE,aM .i64 jH 1),(jI,jJ),(hZ,ji),iQ,gN,gO)))))))))
 ((ae 0 (J gO) (J gO)).U (fun _=>
 (ae 0 (J iQ) (J iQ)).U (fun _=>
 (ae 0 (J gN) (J gN)).U (fun _=>
 some (Sum.inl ((pb,ui,sE,aM .i64 jH 1),(jI,jJ),(hZ,ji),iQ,gN,gO)))))))
 (((ae 0 (J gO) (J gO)).U (fun _=>
 (ae 0 (J iQ) (J iQ)).U (fun _=>
 (ae 0 (J gN) (J gN)).U (fun _=>
 some (Sum.inl ((ui,pb),(jI,jJ),(hZ,ji),iQ,gN,gO)))))).U (fun gA=>
 some (Sum.inr gA))))
 ((kz,i64,sD,(0:Int)),(qe,lT),(nr,qf),iO,ma,oh)))))
 (fun((x6,Da),(vS,pf),(uj,nv),yl,po,qj)=>
 (ae 0 (J qj) (J qj)).U (fun _=>
 (bg ((x6::([]:List Int))) 0 1).U (fun wb=>
 (jV (aE (J qj) (J wb)) 8).U (fun _=>
 (ae 0 (aE (J qj) (J wb)) (J (cm qj wb))).U (fun _=>
 (ae 0 (J yl) (J yl)).U (fun _=>
 (ae 0 (J po) (J po)).U (fun _=>
 some (Sum.inl ((x6,Da),(vS,pf),(uj,nv),yl,po,cm qj wb))))))))))))))))))
 (fun((Ac,ud),(n7,lQ),(rk,C5),jL,iM,ph)=>
 (ae 0 (J ph) (J ph)).U (fun _=>
 (ae 0 (J jL) (J jL)).U (fun _=>
 (ae 0 (J iM) (J iM)).U (fun _=>
 some (Sum.inl ((ud,aM .i64 Ac 1),(n7,lQ),(rk,C5),jL,iM,ph)))))))
 (((ae 0 (J bJ) (J bJ)).U (fun _=>
 (ae 0 (J iA) (J iA)).U (fun _=>
 (ae 0 (J c8) (J c8)).U (fun _=>
 some (Sum.inl ((i9,bS),(bZ,cq),iA,c8,bJ)))))).U (fun yf=>
 some (Sum.inr yf))))
 ((i0,(0:Int)),((0:Int),(0:Int)),(i4,i5),([]:List Int),l6,([]:List Int))))))
 (fun((qc,sB),(xW,Ae),sK,yg,uq)=>
 (ci yg (J yg)).U (fun NT=>
 (ci uq (J uq)).U (fun NU=>
 some ((xW,Ae,NT),NU))))))
theorem ZN (P:Nat->Prop) [DecidablePred P]:∀c:Nat,∃n,n<=c/\(∀j,j<n->P j)/\(n=c\/¬P n)
 |0=>⟨0,Nat.le_refl 0,fun j hj=>absurd hj (Nat.not_lt_zero j),.inl rfl⟩
 |c+1=>by
  obtain⟨n,h1,h2,h3⟩:=ZN P c
  by_cases h:P n
  ·rcases h3 with h3|h3
   ·subst h3
    refine⟨n+1,Nat.le_refl _,fun j hj=>?_,.inl rfl⟩
    by_cases kq:j=n
    ·subst kq;exact h
    ·exact h2 j (by omega)
   ·exact absurd h h3
  ·exact⟨n,by omega,h2,.inr h⟩
theorem Ji {p:Int} {r c:Nat} {M:bL} (hM:cY p r c M) {a b:Nat} (ha:a<r) (hb:b<r):cY p r c (e8 M a b):=by
 intro i hi j hj
 unfold e8
 split
 ·exact hM b hb j hj
 ·split
  ·exact hM a ha j hj
  ·exact hM i hi j hj
theorem akR (M:bL) (a:Nat):e8 M a a=M:=by
 funext i j
 unfold e8
 split
 ·rename_i h;rw[h]
 ·rfl
theorem Y1 {p inv:Int} {r c:Nat} {M:bL} (hp:di p) (hM:cY p r c M) (t:Nat):cY p r c (uI p inv M t):=by
 intro i hi j hj
 unfold uI
 split
 ·exact sa hp _
 ·exact hM i hi j hj
theorem KU {p:Int} {r c:Nat} {M:bL} (hp:di p) (hM:cY p r c M) (t k n:Nat):cY p r c (fb p M t k n):=by
 intro i hi j hj
 unfold fb
 split
 ·exact sa hp _
 ·exact hM i hi j hj
theorem PG {p:Int} (hp:di p):fZ p 1:=⟨by omega,by have:=hp.1;omega⟩
theorem PM {p:Int} {r c:Nat} {M:bL} (hp:di p) (hM:cY p r c M) {t k:Nat} (ht:t<r) (hk:k<r) (j:Nat):cY p r c (qu p M t j k):=Y1 hp (Ji hM ht hk) t
structure RI (p:Int) (r c:Nat) (s:bL×List Int×Int) (j:Nat):Prop where
 m:cY p r c s.1
 l:s.2.1.length<=r
 lj:s.2.1.length<=j
 d:fZ p s.2.2
 e:∀x∈s.2.1,0<=x/\x<(j:Int)
theorem RI.step {p:Int} {r c:Nat} {s:bL×List Int×Int} {j:Nat} (hp:di p) (h:RI p r c s j):RI p r c (mS p r s j) (j+1):=by
 have eV:RI p r c s (j+1):=⟨h.m,h.l,by have:=h.lj;omega,h.d,fun x hx=>by have:=h.e x hx;omega⟩
 unfold mS
 split
 ·rename_i hl
  split
  ·exact eV
  ·rename_i k hk
   have hq:=DI hk
   refine⟨KU hp (PM hp h.m hl (by omega) j) _ _ _,?_,?_,sa hp _,?_⟩
   ·simp only[List.length_append,List.length_cons,List.length_nil];omega
   ·have:=h.lj
    simp only[List.length_append,List.length_cons,List.length_nil];omega
   ·intro x hx
    simp only[List.mem_append,List.mem_singleton] at hx
    rcases hx with hx|rfl
    ·have:=h.e x hx;omega
    ·omega
 ·exact eV
theorem DO {p:Int} {r c:Nat} {M:bL} (hp:di p) (hM:cY p r c M):∀j,RI p r c (ga p r M j) j
 |0=>⟨hM,Nat.zero_le _,Nat.le_refl 0,PG hp,fun x hx=>absurd hx (List.not_mem_nil)⟩
 |j+1=>(DO hp hM j).step hp
theorem YG {p:Int} {r:Nat} {M:bL} {n:Nat} (h:¬(ga p r M n).2.1.length<r):∀d,ga p r M (n+d)=ga p r M n
 |0=>rfl
 |d+1=>by
  have ih:=YG h d
  show mS p r (ga p r M (n+d)) (n+d)=_
  rw[ih,mS,if_neg h]
theorem Y5 {r c:Nat} {p inv:Int} (M:bL) (t n:Nat):ai r c (kf (uJ p inv M t n) t n (M t n*inv%p))=ai r c (uJ p inv M t (n+1)):=by
 refine gZ fun a _ b _=>?_
 unfold kf uJ
 by_cases h:a=t/\b=n
 ·obtain⟨rfl,rfl⟩:=h
  simp
 ·rw[if_neg h]
  by_cases h1:a=t/\b<n
  ·rw[if_pos h1,if_pos ⟨h1.1,by omega⟩]
  ·rw[if_neg h1,if_neg (by omega)]
theorem Y2 {p inv:Int} (M:bL) (t:Nat):uJ p inv M t 0=M:=by funext a b;exact if_neg (by omega)
theorem Y4 {p inv:Int} (M:bL) (t n:Nat):uJ p inv M t n t n=M t n:=if_neg (by omega)
theorem Y3 {r c:Nat} {p inv:Int} (M:bL) (t:Nat):ai r c (uJ p inv M t c)=ai r c (uI p inv M t):=by
 refine gZ fun a _ b hb=>?_
 unfold uJ uI
 by_cases h:a=t
 ·rw[if_pos ⟨h,hb⟩,if_pos h]
 ·rw[if_neg (fun q=>h q.1),if_neg h]
theorem KT {p:Int} (M:bL) (t j:Nat):fb p M t j 0=M:=by funext a b;exact if_neg (by omega)
theorem B3 {p:Int} (M:bL) (t j n b:Nat):fb p M t j n n b=M n b:=if_neg (by omega)
theorem Up {p:Int} (M:bL) (t j n b:Nat):fb p M t j n t b=M t b:=if_neg (by omega)
theorem KV {p:Int} (M:bL) (t j:Nat):fb p M t j (t+1)=fb p M t j t:=by
 funext a b
 unfold fb
 by_cases h:a<t
 ·rw[if_pos (by omega),if_pos (by omega)]
 ·rw[if_neg (by omega),if_neg (by omega)]
theorem Uq {r c:Nat} {p:Int} (M:bL) (t j n:Nat) (hn:n≠t):ai r c (oQ p (fb p M t j n) n t (p - M n j))=ai r c (fb p M t j (n+1)):=by
 refine gZ fun a _ b _=>?_
 unfold oQ
 by_cases h:a=n
 ·subst h
  rw[if_pos rfl,B3,Up]
  exact(if_pos ⟨by omega,hn⟩).symm
 ·rw[if_neg h]
  unfold fb
  by_cases h1:a<n/\a≠t
  ·rw[if_pos h1,if_pos ⟨by omega,h1.2⟩]
  ·rw[if_neg h1,if_neg (by omega)]
theorem aa7 {r c:Nat} {p:Int} (M:bL) (t j n:Nat) (hM:cY p r c M) (h0:M n j=0):ai r c (fb p M t j n)=ai r c (fb p M t j (n+1)):=by
 refine gZ fun a ha b hb=>?_
 unfold fb
 by_cases h:a=n
 ·subst h
  rw[if_neg (by omega)]
  by_cases ht:a=t
  ·rw[if_neg (by omega)]
  ·rw[if_pos ⟨by omega,ht⟩,h0,Int.sub_zero,Int.add_mul_emod_self_left]
   exact(Int.emod_eq_of_lt (hM a ha b hb).1 (hM a ha b hb).2).symm
 ·by_cases h1:a<n/\a≠t
  ·rw[if_pos h1,if_pos ⟨by omega,h1.2⟩]
  ·rw[if_neg h1,if_neg (by omega)]
theorem PL {M:bL} {j:Nat}:∀{d k:Nat},iV M j d k=none->∀i,k<=i->i<k+d->M i j=0
 |0,k,_,i,h1,h2=>by omega
 |d+1,k,h,i,h1,h2=>by
  simp only[iV] at h
  split at h
  ·rename_i h0
   by_cases hi:i=k
   ·rw[hi];exact h0
   ·exact PL h i (by omega) (by omega)
  ·cases h
theorem Yp {M:bL} {j q:Nat}:∀{d k:Nat},iV M j d k=some q->∀i,k<=i->i<q->M i j=0
 |0,k,h,i,h1,h2=>by cases h
 |d+1,k,h,i,h1,h2=>by
  simp only[iV] at h
  split at h
  ·rename_i h0
   by_cases hi:i=k
   ·rw[hi];exact h0
   ·exact Yp h i (by omega) h2
  ·have:=Option.some.inj h;omega
theorem akO {p d:Int} (hp:di p) (hd:fZ p d):gQ (mf .i64 p d) p=some ((p - d)%p):=by
 have h1:=hp.1;have h2:=hp.2;have h3:=hd.1;have h4:=hd.2
 rw[rD (by omega) (by omega),ID (by omega) (by omega)]
theorem PT {p:Int} {r:Nat} {s:bL×List Int×Int} {j:Nat} (hl:s.2.1.length<r) (h:iV s.1 j (r - s.2.1.length) s.2.1.length=none):mS p r s j=s:=by
 unfold mS
 rw[if_pos hl,h]
theorem PU {p:Int} {r:Nat} {s:bL×List Int×Int} {j k:Nat} (hl:s.2.1.length<r) (h:iV s.1 j (r - s.2.1.length) s.2.1.length=some k):
  mS p r s j=(fb p (qu p s.1 s.2.1.length j k) s.2.1.length j r,s.2.1++[(j:Int)],A7 p s.1 s.2.1.length j k s.2.2):=by
 unfold mS
 rw[if_pos hl,h]
theorem aeW {p x:Int} (hp:di p) (hx:fZ p x):u4 (p,x)=some (iz p 1 x (p - 2).toNat):=if_pos ⟨hp,hx⟩
theorem aeU {p x:Int} (hp:di p) (hx:fZ p x):yT (p,x)=some (iz p 1 x (p - 2).toNat):=if_pos ⟨hp,hx⟩
theorem Tw {r c:Nat} (M M':bL):bg (ai r c M) 0 (J (ai r c M'))=some (ai r c M):=wO (by rw[AA];exact(jz r c M))
theorem aa9 {α:Type} {b:Bool} {u v x:α} (h1:b=true->u=x) (h2:b=false->v=x):aw b u v=x:=by
 cases b
 ·exact h2 rfl
 ·exact h1 rfl
section
variable {p:Int} {r c:Nat} {M0:bL}
abbrev SX (p:Int) (r c:Nat) (L0:List Int) (s:bL×List Int×Int) (j:Nat):(Int×Int×Int)×(Int×Int×List Int)×(Int×Int)×(Int×Int)×List Int×List Int×List Int:=
 ((p,s.2.2,(j:Int)),((r:Int),(c:Int),L0),((0:Int),(0:Int)),((r:Int),(c:Int)),([]:List Int),ai r c s.1,s.2.1)
theorem adu (hp:di p) (hr:r<=4096) (hc:c<=4096) (dh:r*c<=1048576) (hM:cY p r c M0):
  EQ aA (p,(r:Int),(c:Int),ai r c M0)=some (((r:Int),(c:Int),ai r c (ga p r M0 c).1),(ga p r M0 c).2.1,(ga p r M0 c).2.2):=by
 obtain⟨n,hn,bX,Hm⟩:=ZN (fun j=>(ga p r M0 j).2.1.length<r) c
 have My:ga p r M0 c=ga p r M0 n:=by
  rcases Hm with e|e
  ·rw[e]
  ·obtain⟨d,rfl⟩:∃d,c=n+d:=⟨c - n,by omega⟩
   exact YG e d
 rw[My]
 have hlen:(ai r c M0).length<=1099511627776:=by rw[jz];omega
 simp only[EQ,mh,if_pos hlen,au,bq]
 rw[dP (r:=Sum.inl ((ga p r M0 n).2.2,((0:Int),(0:Int)),((r:Int),(c:Int)),([]:List Int),ai r c (ga p r M0 n).1,(ga p r M0 n).2.1)) (fun j=>SX p r c (ai r c M0) (ga p r M0 j) j) n ?_ ?_ ?_ (cG (by omega))]
 ·rw[show ae 0 0 (J ([]:List Int))=some () from rfl];simp only[au];rw[cK];simp only[gu,au]
 ·intro j hj
  have hI:=DO hp hM (r:=r) (c:=c) j
  have hl:=bX j hj
  generalize hs:ga p r M0 j=s at hI hl⊢
  have hS:ga p r M0 (j+1)=mS p r s j:=by rw[<-hs];rfl
  obtain⟨M,L,d⟩:=s
  simp only at hl
  have tI:cY p r c M:=hI.m
  have VN:fZ p d:=hI.d
  simp only[SX]
  rw[aT (dY (show j<c by omega)),aT (show bc (aL (J L)) (r:Int)=true from dY hl)]
  simp only[ik,au]
  rw[show aL (J L)=((L.length:Nat):Int) from rfl,Yr hr hc dh (show L.length<=r by omega) (show j<c by omega),au]
  cases hk:iV M j (r - L.length) L.length with
  |none=>
   rw[hS,PT (s:=(M,L,d)) hl hk,aT (show bc (uA none) 0=true from rfl),cK]
   simp only[dI (show j<=1048577 by omega)]
  |some k=>
   obtain⟨sv,jB,hq3⟩:=DI hk
   have q8:k<r:=by omega
   rw[hS,PU (s:=(M,L,d)) hl hk,aS (show bc (uA (some k)) 0=false from fh (by show(0:Int)<=(k:Int);omega))]
   have xF:=Ji tI hl q8
   have hx:=xF L.length hl j (by omega)
   have CN:=W6 hp (p - 2).toNat 1 (e8 M L.length k L.length j) (PG hp)
   have hd':fZ p (if k=L.length then d else(p - d)%p):=by split;exact VN;exact sa hp _
   rw[aa9 (b:=dB (uA (some k)) ((L.length:Nat):Int)) (x:=some (Sum.inl (((if k=L.length then d else(p - d)%p),((L.length:Nat):Int),(j:Int),p),((r:Int),(c:Int),ai r c M0),((0:Int),(0:Int)),((r:Int),(c:Int)),([]:List Int),ai r c (e8 M L.length k),L))) ?_ ?_]
   ·rw[cK]
    simp only[nw (show L.length<=1048576 by omega) (show c<=1048576 by omega) (show j<=1048576 by omega),nR _ hl (show j<c by omega),au,jT,nY _ hl (show j<c by omega)]
    rw[AJ hp hd'.le hx.le,au,aeW hp hx,au]
    rw[dP (r:=Sum.inl ((A7 p M L.length j k d,p,(j:Int),((L.length:Nat):Int)),((r:Int),(c:Int),ai r c M0),((0:Int),(0:Int)),((r:Int),(c:Int)),([]:List Int),ai r c (qu p M L.length j k),L)) (fun b=>((p,A7 p M L.length j k d,(j:Int),((L.length:Nat):Int),iz p 1 (e8 M L.length k L.length j) (p - 2).toNat,(b:Int)),((r:Int),(c:Int),ai r c M0),((0:Int),(0:Int)),((r:Int),(c:Int)),([]:List Int),ai r c (uJ p (iz p 1 (e8 M L.length k L.length j) (p - 2).toNat) (e8 M L.length k) L.length b),L)) c ?_ ?_ ?_ (cG (by omega))]
    ·rw[cK]
     simp only
     have hP:cY p r c (qu p M L.length j k):=PM hp tI hl q8 j
     generalize qu p M L.length j k=P at hP⊢
     generalize hD:A7 p M L.length j k d=D
     rw[dP (r:=Sum.inl (((j:Int),p,D),((r:Int),(c:Int),ai r c M0),((0:Int),(0:Int)),((r:Int),(c:Int)),([]:List Int),ai r c (fb p P L.length j r),L)) (fun a=>((p,D,(j:Int),((L.length:Nat):Int),(a:Int)),((r:Int),(c:Int),ai r c M0),((0:Int),(0:Int)),((r:Int),(c:Int)),([]:List Int),ai r c (fb p P L.length j a),L)) r ?_ ?_ ?_ (cG (by omega))]
     ·rw[cK]
      simp only
      rw[wO (xs:=[(j:Int)]) (n:=1) rfl,au,lK (by simp only[aE,J,eZ,List.length_cons,List.length_nil];omega),au,Xu,bq,au,cK]
      simp only[dI (show j<=1048577 by omega),<-hD]
      rfl
     ·intro a ha
      simp only
      rw[aT (dY ha)]
      by_cases cr:a=L.length
      ·rw[aS (kC (by omega))]
       simp only[dI (show a<=1048577 by omega)]
       rw[cr,KV]
      ·rw[aT (mQ (by omega))]
       simp only[nw (show a<=1048576 by omega) (show c<=1048576 by omega) (show j<=1048576 by omega),nR _ ha (show j<c by omega),au,jT,nY _ ha (show j<c by omega),B3]
       rw[Un hp hr hc dh ha hl (hP a ha j (by omega)).le (KU hp hP _ _ _)]
       simp only[au,jW,dI (show a<=1048577 by omega)]
       rw[Uq P L.length j a cr]
     ·simp only
      rw[aS (eA (Nat.le_refl r))]
     ·rw[KT]
      rfl
    ·intro b hb
     simp only
     rw[aT (dY hb)]
     simp only[nw (show L.length<=1048576 by omega) (show c<=1048576 by omega) (show b<=1048576 by omega),nR _ hl hb,au,jT,nY _ hl hb,Y4]
     rw[AJ hp (xF L.length hl b hb).le CN.le]
     simp only[au,Bj _ hb,jW,Y5,dI (show b<=1048577 by omega)]
    ·simp only
     rw[aS (eA (Nat.le_refl c)),Y3]
     rfl
    ·rw[Y2]
     rfl
   ·intro aC
    have ad6:k≠L.length:=by
     intro q;subst q;rw[show dB (uA (some L.length)) ((L.length:Nat):Int)=false from kC rfl] at aC;cases aC
    rw[if_neg ad6,show uA (some k)=(k:Int) from rfl,Jj hr hc dh hl q8,au,akO hp VN]
    simp only[au,jW]
   ·intro dA
    have VZ:k=L.length:=by
     by_cases q:k=L.length
     ·exact q
     ·rw[show dB (uA (some k)) ((L.length:Nat):Int)=true from mQ (by show((k:Nat):Int)≠_;omega)] at dA;cases dA
    rw[if_pos VZ,VZ,akR]
 ·simp only[SX]
  by_cases pZ:n=c
  ·subst pZ
   rw[aS (eA (Nat.le_refl n))]
  ·have he:r<=(ga p r M0 n).2.1.length:=by
    rcases Hm with e|e
    ·exact absurd e pZ
    ·exact Nat.le_of_not_lt e
   rw[aT (dY (show n<c by omega)),aS (show bc (aL (J (ga p r M0 n).2.1)) (r:Int)=false from eA he)]
 ·rfl
end
section
variable {p:Int} {r c:Nat} {M0:bL}
abbrev SW (p:Int) (r c:Nat) (s:bL×List Int×Int) (j:Nat):(Int×Int)×(Int×Int)×(Int×Int)×List Int×List Int×List Int:=
 ((p,(j:Int)),((0:Int),(0:Int)),((r:Int),(c:Int)),([]:List Int),ai r c s.1,s.2.1)
theorem adt (hp:di p) (hr:r<=4096) (hc:c<=4096) (dh:r*c<=1048576) (hM:cY p r c M0):
  EI aA (p,(r:Int),(c:Int),ai r c M0)=some (((r:Int),(c:Int),ai r c (ga p r M0 c).1),(ga p r M0 c).2.1):=by
 have hlen:(ai r c M0).length<=1099511627776:=by rw[jz];omega
 simp only[EI,yS,if_pos hlen,au,bq]
 rw[dP (r:=Sum.inl (((0:Int),(0:Int)),((r:Int),(c:Int)),([]:List Int),ai r c (ga p r M0 c).1,(ga p r M0 c).2.1)) (fun j=>SW p r c (ga p r M0 j) j) c ?_ ?_ ?_ (cG (by omega))]
 ·rw[show ae 0 0 (J ([]:List Int))=some () from rfl];simp only[au];rw[cK];simp only[gu,au]
 ·intro j hj
  have hI:=DO hp hM (r:=r) (c:=c) j
  generalize hs:ga p r M0 j=s at hI⊢
  have hS:ga p r M0 (j+1)=mS p r s j:=by rw[<-hs];rfl
  obtain⟨M,L,d⟩:=s
  have tI:cY p r c M:=hI.m
  have kS:L.length<=r:=hI.l
  have hlj:L.length<=j:=hI.lj
  simp only[SW]
  rw[aT (dY hj)]
  have akj:∃k:Nat,L.length<=k/\k<=r/\(∀i,L.length<=i->i<k->M i j=0)/\((k=r/\mS p r (M,L,d) j=(M,L,d))\/(k<r/\M k j≠0/\L.length<r/\mS p r (M,L,d) j=(fb p (qu p M L.length j k) L.length j r,L++[(j:Int)],A7 p M L.length j k d))):=by
   by_cases hl:L.length<r
   ·cases hk:iV M j (r - L.length) L.length with
    |none=>exact⟨r,kS,Nat.le_refl r,fun i h1 h2=>PL hk i h1 (by omega),.inl ⟨rfl,PT (s:=(M,L,d)) hl hk⟩⟩
    |some k=>
     obtain⟨q1,q2,q3⟩:=DI hk
     exact⟨k,q1,by omega,fun i h1 h2=>Yp hk i h1 h2,.inr ⟨by omega,q3,hl,PU (s:=(M,L,d)) hl hk⟩⟩
   ·refine⟨r,kS,Nat.le_refl r,fun i h1 h2=>by omega,.inl ⟨rfl,?_⟩⟩
    unfold mS
    exact if_neg hl
  obtain⟨k,Hs,V5,hk3,V6⟩:=akj
  rw[dP (r:=Sum.inl (((k:Int),((L.length:Nat):Int),(j:Int),p),((0:Int),(0:Int)),((r:Int),(c:Int)),([]:List Int),ai r c M,L)) (fun e=>((p,(j:Int),((L.length:Nat):Int),((L.length+e:Nat):Int)),((0:Int),(0:Int)),((r:Int),(c:Int)),([]:List Int),ai r c M,L)) (k - L.length) ?_ ?_ ?_ (cG (by omega))]
  ·rw[cK]
   simp only
   rcases V6 with⟨q8,Mg⟩|⟨q8,aC,hl,Mg⟩
   ·rw[hS,Mg,aT (xq (by omega)),cK]
    simp only[dI (show j<=1048577 by omega)]
   ·rw[hS,Mg,aS (xp (by omega))]
    have xF:=Ji tI hl q8
    have hx:=xF L.length hl j hj
    have CN:=W6 hp (p - 2).toNat 1 (e8 M L.length k L.length j) (PG hp)
    rw[show yR (((r:Int),(c:Int),ai r c M),((L.length:Nat):Int),(k:Int))=some (ai r c (e8 M L.length k)) from Jj hr hc dh hl q8,au,Tw,au,mq hr hc dh hl hj,au,aeU hp hx,au]
    simp only[jW,au]
    rw[dP (r:=Sum.inl ((p,(j:Int),((L.length:Nat):Int)),((0:Int),(0:Int)),((r:Int),(c:Int)),([]:List Int),ai r c (qu p M L.length j k),L)) (fun b=>((p,(j:Int),((L.length:Nat):Int),iz p 1 (e8 M L.length k L.length j) (p - 2).toNat,(b:Int)),((0:Int),(0:Int)),((r:Int),(c:Int)),([]:List Int),ai r c (uJ p (iz p 1 (e8 M L.length k L.length j) (p - 2).toNat) (e8 M L.length k) L.length b),L)) c ?_ ?_ ?_ (cG (by omega))]
    ·rw[cK]
     simp only
     have hP:cY p r c (qu p M L.length j k):=PM hp tI hl q8 j
     generalize qu p M L.length j k=P at hP⊢
     rw[dP (r:=Sum.inl (((j:Int),p),((0:Int),(0:Int)),((r:Int),(c:Int)),([]:List Int),ai r c (fb p P L.length j r),L)) (fun a=>((p,(j:Int),((L.length:Nat):Int),(a:Int)),((0:Int),(0:Int)),((r:Int),(c:Int)),([]:List Int),ai r c (fb p P L.length j a),L)) r ?_ ?_ ?_ (cG (by omega))]
     ·rw[cK]
      simp only
      rw[wO (xs:=[(j:Int)]) (n:=1) rfl,au,lK (by simp only[aE,J,eZ,List.length_cons,List.length_nil];omega),au,Xu,bq,au,cK]
      simp only[dI (show j<=1048577 by omega)]
      rfl
     ·intro a ha
      simp only
      rw[aT (dY ha)]
      by_cases cr:a=L.length
      ·rw[aS (kC (by omega))]
       simp only[dI (show a<=1048577 by omega)]
       rw[cr,KV]
      ·rw[aT (mQ (by omega)),Tw,au,mq hr hc dh ha hj,au,B3]
       have He:=hP a ha j hj
       by_cases h0:P a j=0
       ·rw[aS (kC h0)]
        simp only[dI (show a<=1048577 by omega)]
        rw[aa7 P L.length j a hP h0]
       ·rw[aT (mQ h0),au,mq hr hc dh ha hj,au,B3]
        have hs:mf .i64 p (P a j)=p - P a j:=by
         have h1:=hp.1;have h2:=hp.2;have h3:=He.1;have h4:=He.2
         exact rD (by omega) (by omega)
        rw[hs,TR hp hr hc dh ha hl (by have h3:=He.1;have h4:=He.2;omega) (KU hp hP _ _ _)]
        simp only[au,jW,dI (show a<=1048577 by omega)]
        rw[Uq P L.length j a cr]
     ·simp only
      rw[aS (eA (Nat.le_refl r))]
     ·rw[KT]
      rfl
    ·intro b hb
     simp only
     rw[aT (dY hb),Tw,au,mq hr hc dh hl hb,au,Y4,AJ hp (xF L.length hl b hb).le CN.le,au,sW hr hc dh hl hb]
     simp only[au,jW,Y5,dI (show b<=1048577 by omega)]
    ·simp only
     rw[aS (eA (Nat.le_refl c)),Y3]
     rfl
    ·rw[Y2]
     rfl
  ·intro e he
   simp only
   rw[aT (dY (show L.length+e<r by omega)),ik,au,mq hr hc dh (show L.length+e<r by omega) hj,au,aT (xq (hk3 _ (by omega) (by omega)))]
   simp only[dI (show L.length+e<=1048577 by omega)]
   rfl
  ·have e1:L.length+(k - L.length)=k:=by omega
   simp only[e1]
   by_cases q8:k<r
   ·have aC:M k j≠0:=by
     rcases V6 with⟨h1,_⟩|⟨_,h1,_⟩
     ·omega
     ·exact h1
    rw[aT (dY q8),ik,au,mq hr hc dh q8 hj,au,aS (xp aC)]
   ·rw[aS (eA (by omega))]
  ·rfl
 ·simp only[SW]
  rw[aS (eA (Nat.le_refl c))]
 ·rfl
end
theorem YH {x:Int×Int×Int×List Int} (h:yz x):∃(p:Int) (r c:Nat) (M:bL),x=(p,(r:Int),(c:Int),ai r c M)/\di p/\r<=4096/\c<=4096/\r*c<=1048576/\cY p r c M/\M=bu c (ai r c M):=by
 obtain⟨p,x⟩:=x
 obtain⟨hp,hm,ha⟩:=h
 obtain⟨r,c,M,rfl,h1,h2,h3⟩:=ql hm
 simp only at hp ha
 have e:ai r c (bu c (ai r c M))=ai r c M:=pT (jz r c M)
 exact⟨p,r,c,bu c (ai r c M),by rw[e],hp,h1,h2,h3,jU.1 (by rw[e];exact ha),by rw[e]⟩
theorem ac0 (x:Int×Int×Int×List Int) (y:(Int×Int×List Int)×List Int×Int) (h:u5 x=some y):EQ aA x=some y:=by
 simp only[u5] at h
 split at h
 ·rename_i hc
  obtain⟨p,r,c,M,rfl,hp,h1,h2,h3,hM,e⟩:=YH hc
  rw[<-h,adu hp h1 h2 h3 hM]
  simp only[nE,Int.toNat_natCast,<-e]
 ·cases h
theorem acq (x:Int×Int×Int×List Int) (y:(Int×Int×List Int)×List Int) (h:uW x=some y):EI aA x=some y:=by
 simp only[uW] at h
 split at h
 ·rename_i hc
  obtain⟨p,r,c,M,rfl,hp,h1,h2,h3,hM,e⟩:=YH hc
  rw[<-h,adt hp h1 h2 h3 hM]
  simp only[nE,Int.toNat_natCast,<-e]
 ·cases h
end Go.Am
end
section
namespace Go.Am
section
variable {p:Int} {r c:Nat} {M R:bL} {L:List Int}
end
end Go.Am
end
section
namespace Go.Am
def ch:Nat->Nat->Nat
 |_,0=>1
 |0,_+1=>0
 |n+1,k+1=>ch n k+ch n (k+1)
theorem Gi:∀{n k:Nat},n<k->ch n k=0
 |0,k+1,_=>by simp[ch]
 |n+1,k+1,h=>by simp[ch,Gi (show n<k by omega),Gi (show n<k+1 by omega)]
theorem B1 (n:Nat):ch n 0=1:=by cases n<;>rfl
theorem Ub:∀n,ch n n=1
 |0=>rfl
 |n+1=>by simp[ch,Ub n,Gi (Nat.lt_succ_self n)]
theorem Gj:∀(n k:Nat),(k+1)*ch (n+1) (k+1)=(n+1)*ch n k
 |0,0=>by simp[ch]
 |0,k+1=>by simp[ch]
 |n+1,0=>by
  have h:=Gj n 0
  simp only[B1] at h⊢
  have e:ch (n+1+1) (0+1)=ch (n+1) 0+ch (n+1) (0+1):=rfl
  rw[e,B1]
  omega
 |n+1,k+1=>by
  have h1:=Gj n k
  have h2:=Gj n (k+1)
  have e1:ch (n+1+1) (k+1+1)=ch (n+1) (k+1)+ch (n+1) (k+1+1):=rfl
  have e2:ch (n+1) (k+1)=ch n k+ch n (k+1):=rfl
  rw[e1]
  generalize ch (n+1) (k+1+1)=B at*
  generalize ch (n+1) (k+1)=A at*
  generalize ch n k=u at*
  generalize ch n (k+1)=v at*
  subst e2
  grind
def nH (f:Nat->Nat):Nat->Nat
 |0=>0
 |m+1=>nH f m+f m
theorem ZS (n a:Nat):∀m,nH (fun k=>ch (n+1) k*a^k) (m+1)=nH (fun k=>ch n k*a^k) (m+1)+a*nH (fun k=>ch n k*a^k) m
 |0=>by simp[nH,B1]
 |m+1=>by
  have h:=ZS n a m
  simp only[nH] at h⊢
  have e:ch (n+1) (m+1)=ch n m+ch n (m+1):=rfl
  rw[h,e,Nat.pow_succ]
  grind
theorem T7 (a:Nat):∀n,(a+1)^n=nH (fun k=>ch n k*a^k) (n+1)
 |0=>by simp[nH,B1]
 |n+1=>by
  rw[ZS]
  have e:nH (fun k=>ch n k*a^k) (n+1+1)=nH (fun k=>ch n k*a^k) (n+1):=by
   show nH _ (n+1)+ch n (n+1)*a^(n+1)=_
   rw[Gi (Nat.lt_succ_self n)];simp
  rw[e,<-T7 a n,Nat.pow_succ]
  grind
theorem ZR {p:Nat} {f:Nat->Nat}:∀m,(∀k,0<k->k<=m->p∣f k)->nH f (m+1)%p=f 0%p
 |0,h=>by simp[nH]
 |m+1,h=>by
  have i:=ZR m fun k h1 h2=>h k h1 (by omega)
  obtain⟨c,hc⟩:=h (m+1) (by omega) (Nat.le_refl _)
  show(nH f (m+1)+f (m+1))%p=_
  rw[hc,Nat.add_mul_mod_self_left,i]
def w9 (p:Nat):Prop:=2<=p/\∀d,d∣p->d=1\/d=p
theorem w9.Uw {p a:Nat} (hp:w9 p) (h:¬p∣a):Nat.Coprime p a:=by
 have:=hp.2 (Nat.gcd p a) (Nat.gcd_dvd_left p a)
 rcases this with h1|h1
 ·exact h1
 ·exact absurd (h1▸Nat.gcd_dvd_right p a) h
theorem w9.ch {p k:Nat} (hp:w9 p) (h1:0<k) (h2:k<p):p∣ch p k:=by
 obtain⟨q,rfl⟩:∃q,p=q+1:=⟨p - 1,by omega⟩
 obtain⟨j,rfl⟩:∃j,k=j+1:=⟨k - 1,by omega⟩
 have hm:=Gj q j
 have hd:(q+1)∣(j+1)*Go.Am.ch (q+1) (j+1):=⟨Go.Am.ch q j,hm⟩
 exact(hp.Uw fun h=>absurd (Nat.le_of_dvd (by omega) h) (by omega)).dvd_of_dvd_mul_left hd
theorem Ve {p:Nat} (hp:w9 p):∀a,a^p%p=a%p
 |0=>by rw[Nat.zero_pow (by have:=hp.1;omega)]
 |a+1=>by
  rw[T7]
  show(nH _ p+Go.Am.ch p p*a^p)%p=_
  obtain⟨q,rfl⟩:∃q,p=q+1:=⟨p - 1,by have:=hp.1;omega⟩
  have h:=ZR (p:=q+1) (f:=fun k=>Go.Am.ch (q+1) k*a^k) q fun k h1 h2=>Nat.dvd_trans (hp.ch h1 (by omega)) (Nat.dvd_mul_right _ _)
  rw[Ub,Nat.one_mul,Nat.add_mod,h,Ve hp a]
  simp only[B1,Nat.pow_zero,Nat.mul_one]
  rw[<-Nat.add_mod,Nat.add_comm]
theorem adb {p a:Nat} (hp:w9 p) (ha:¬p∣a):a*a^(p - 2)%p=1:=by
 have h2:=hp.1
 have h:=Ve hp a
 have e:a^p=a*(a*a^(p - 2)):=by
  obtain⟨q,rfl⟩:∃q,p=q+2:=⟨p - 2,by omega⟩
  rw[Nat.pow_succ,Nat.pow_succ,Nat.add_sub_cancel]
  rw[Nat.mul_comm a (a^q),Nat.mul_comm a (a^q*a)]
 rw[e] at h
 have Hf:0<a:=by
  rcases Nat.eq_zero_or_pos a with h|h
  ·subst h;exact absurd ⟨0,by simp⟩ ha
  ·exact h
 have hz:0<a*a^(p - 2):=Nat.mul_pos Hf (Nat.pow_pos Hf)
 generalize a*a^(p - 2)=z at h hz⊢
 obtain⟨y,rfl⟩:∃y,z=y+1:=⟨z - 1,by omega⟩
 have hd:p∣a*y:=by
  have e:a*(y+1)=a*y+a:=by rw[Nat.mul_add,Nat.mul_one]
  rw[e] at h
  have:(a*y+a - a)%p=0:=Nat.sub_mod_eq_zero_of_mod_eq h
  rw[Nat.add_sub_cancel] at this
  exact Nat.dvd_of_mod_eq_zero this
 obtain⟨c,rfl⟩:=(hp.Uw ha).dvd_of_dvd_mul_left hd
 rw[Nat.add_comm,Nat.add_mul_mod_self_left]
 exact Nat.mod_eq_of_lt (by omega)
end Go.Am
end
section
namespace Go.Am
theorem aeZ {p:Int} (h:f0 p=true):w9 p.toNat:=by
 have hp:=sI h
 obtain⟨n,rfl⟩:=jn (show 0<=p by omega)
 simp only[Int.toNat_natCast]
 refine⟨by omega,fun d hd=>?_⟩
 rcases Nat.lt_or_ge d 2 with h2|h2
 ·rcases Nat.eq_zero_or_pos d with h0|h0
  ·subst h0
   have:=Nat.eq_zero_of_zero_dvd hd
   omega
  ·exact .inl (by omega)
 ·obtain⟨e,he⟩:=hd
  simp only[f0,Bool.and_eq_true,decide_eq_true_eq,Bool.not_eq_true',List.any_eq_false] at h
  have cP:∀a b:Nat,2<=a->2<=b->a<=b->n≠a*b:=by
   intro a b ha hb fc e
   have h1:a*a<=n:=by rw[e];exact Nat.mul_le_mul_left _ fc
   have h3:a<1001:=by
    rcases Nat.lt_or_ge a 1001 with h|h
    ·exact h
    ·have:=Nat.mul_le_mul h h;omega
   refine h.2 a (by simp;omega) ?_
   unfold pM
   have ea:((a:Int))*(a:Int)=((a*a:Nat):Int):=by norm_cast
   simp only[Bool.and_eq_true,decide_eq_true_eq]
   constructor
   ·rw[ea];omega
   ·rw[e];push_cast;exact Int.mul_emod_right _ _
  right
  rcases Nat.lt_or_ge e 2 with h3|h3
  ·have:e=1:=by
    rcases Nat.eq_zero_or_pos e with h0|h0
    ·subst h0;simp at he;omega
    ·omega
   subst this;omega
  ·exfalso
   rcases Nat.le_total d e with Mv|Mv
   ·exact cP d e h2 h3 Mv he
   ·exact cP e d h3 h2 Mv (by rw[he,Nat.mul_comm])
theorem Ys (x:Int) (b:Nat):∀m:Nat,(x*x)^m*x^b=x^(2*m+b)
 |0=>by simp
 |m+1=>by
  have ih:=Ys x b m
  rw[show 2*(m+1)+b=2*m+b+1+1 by omega,Int.pow_succ,Int.pow_succ (n:=2*m+b+1),Int.pow_succ (n:=2*m+b),<-ih]
  grind
theorem aeT {p:Int} (hp:di p):∀(n:Nat) (out x:Int),iz p out x n%p=out*x^n%p:=by
 intro n
 induction n using Nat.strongRecOn with
 |ind n ih=>
  intro out x
  by_cases h0:n=0
  ·subst h0;rw[HN];simp
  ·rw[HO h0,ih (n/2) (by omega)]
   have e:x^n=(x*x)^(n/2)*x^(n%2):=by
    rw[Ys,Nat.div_add_mod]
   rw[e]
   have h1:((x*x%p)^(n/2))%p=((x*x)^(n/2))%p:=by
    have:∀k:Nat,((x*x%p)^k)%p=((x*x)^k)%p:=by
     intro k
     induction k with
     |zero=>simp
     |succ k ih=>rw[Int.pow_succ,Int.pow_succ,Int.mul_emod,ih,Int.emod_emod,<-Int.mul_emod]
    exact this _
   by_cases hb:n%2=1
   ·rw[if_pos hb,hb,Int.mul_emod,h1,Int.emod_emod,<-Int.mul_emod]
    congr 1
    grind
   ·rw[if_neg hb,show n%2=0 by omega,Int.mul_emod,h1,<-Int.mul_emod]
    congr 1
    grind
theorem aeX {p x:Int} (CX:f0 p=true) (hx:fZ p x) (h0:x≠0):x*iz p 1 x (p - 2).toNat%p=1:=by
 have hp:=sI CX
 have be:di p:=⟨hp.1,hp.2⟩
 obtain⟨n,rfl⟩:=jn (show 0<=p by omega)
 obtain⟨a,rfl⟩:=jn hx.1
 have hN:=aeZ CX
 simp only[Int.toNat_natCast] at hN
 have ha:¬n∣a:=fun h=>by
  have:=Nat.le_of_dvd (by omega) h
  have:=hx.2
  omega
 have hf:=adb hN ha
 have e:(((n:Int)) - 2).toNat=n - 2:=by omega
 rw[Int.mul_emod,aeT be,e,Int.one_mul,<-Int.mul_emod]
 exact_mod_cast hf
def gb (f g:Nat->Int):Nat->Int
 |0=>0
 |n+1=>gb f g n+f n*g n
theorem ZP {p:Int} {f f' g:Nat->Int}:∀n,(∀k,k<n->∃q,f k=f' k+p*q)->∃q,gb f g n=gb f' g n+p*q
 |0,_=>⟨0,by simp[gb]⟩
 |n+1,h=>by
  obtain⟨q,hq⟩:=ZP (g:=g) n fun k hk=>h k (by omega)
  obtain⟨q',dW⟩:=h n (by omega)
  exact⟨q+q'*g n,by simp only[gb,hq,dW];grind⟩
theorem S3 (f f2 g:Nat->Int) (c:Int):∀n,gb (fun k=>f k+c*f2 k) g n=gb f g n+c*gb f2 g n
 |0=>by simp[gb]
 |n+1=>by simp only[gb,S3 f f2 g c n];grind
theorem Jh (f g g2:Nat->Int) (c:Int):∀n,gb f (fun k=>g k - c*g2 k) n=gb f g n - c*gb f g2 n
 |0=>by simp[gb]
 |n+1=>by simp only[gb,Jh f g g2 c n];grind
theorem S4 (f g:Nat->Int) (c:Int):∀n,gb (fun k=>f k*c) g n=gb f g n*c
 |0=>by simp[gb]
 |n+1=>by simp only[gb,S4 f g c n];grind
theorem S5 (f g:Nat->Int) (c:Int):∀n,gb f (fun k=>g k*c) n=gb f g n*c
 |0=>by simp[gb]
 |n+1=>by simp only[gb,S5 f g c n];grind
def dl (a b:Nat):Int:=if a=b then 1 else 0
def lA (p:Int) (n:Nat) (E X:bL):Prop:=∀a,a<n->∀b,b<n->∃q,gb (E a) (fun k=>X k b) n=dl a b+p*q
theorem lA.congr {p:Int} {n:Nat} {E E' X:bL} (h:lA p n E X) (he:∀a,a<n->∀k,k<n->∃q,E' a k=E a k+p*q):lA p n E' X:=by
 intro a ha b hb
 obtain⟨q,hq⟩:=h a ha b hb
 obtain⟨q',dW⟩:=ZP (p:=p) (f:=E' a) (f':=E a) (g:=fun k=>X k b) n (he a ha)
 exact⟨q+q',by rw[dW,hq];grind⟩
theorem lA.swap {p:Int} {n:Nat} {E X:bL} (h:lA p n E X) {s t:Nat} (hs:s<n) (ht:t<n):∃X',lA p n (e8 E s t) X':=by
 let sw:Nat->Nat:=fun i=>if i=s then t else if i=t then s else i
 have Hz:∀i,i<n->sw i<n:=by
  intro i hi
  show(if i=s then t else if i=t then s else i)<n
  split
  ·exact ht
  ·split
   ·exact hs
   ·exact hi
 have vB:∀i j,sw i=sw j->i=j:=by
  intro i j
  show(if i=s then t else if i=t then s else i)=(if j=s then t else if j=t then s else j)->i=j
  intro h
  repeat' split at h
  all_goals omega
 refine⟨fun k b=>X k (sw b),fun a ha b hb=>?_⟩
 obtain⟨q,hq⟩:=h (sw a) (Hz a ha) (sw b) (Hz b hb)
 refine⟨q,?_⟩
 have e:e8 E s t a=E (sw a):=by
  funext k
  show(if a=s then E t k else if a=t then E s k else E a k)=E (if a=s then t else if a=t then s else a) k
  split
  ·rfl
  ·split<;>rfl
 rw[e,hq]
 congr 1
 unfold dl
 by_cases fc:a=b
 ·subst fc;simp
 ·rw[if_neg fc,if_neg fun h=>fc (vB _ _ h)]
theorem lA.akd {p inv u:Int} {n:Nat} {E X:bL} (h:lA p n E X) {t:Nat} (ht:t<n) (hu:u*inv%p=1):∃X',lA p n (uI p inv E t) X':=by
 have mE:∃z,u*inv=1+p*z:=⟨u*inv/p,by have:=Int.emod_add_mul_ediv (u*inv) p;omega⟩
 obtain⟨z,hz⟩:=mE
 refine⟨fun k b=>if b=t then X k t*u else X k b,lA.congr (E:=fun a k=>if a=t then E t k*inv else E a k) (fun a ha b hb=>?_) (fun a ha k hk=>?_)⟩
 ·obtain⟨q,hq⟩:=h a ha b hb
  by_cases cr:a=t
  ·subst cr
   by_cases ng:b=a
   ·subst ng
    refine⟨z+q*inv*u,?_⟩
    simp only[if_true]
    rw[S4,S5,hq,dl,if_pos rfl]
    grind
   ·refine⟨q*inv,?_⟩
    simp only[if_true,if_neg ng]
    rw[S4,hq,dl,if_neg (Ne.symm ng)]
    grind
  ·by_cases ng:b=t
   ·subst ng
    refine⟨q*u,?_⟩
    simp only[if_neg cr,if_true]
    rw[S5]
    have:gb (fun k=>E a k) (fun k=>X k b) n=dl a b+p*q:=hq
    rw[this,dl,if_neg cr]
    grind
   ·refine⟨q,?_⟩
    simp only[if_neg cr,if_neg ng]
    exact hq
 ·unfold uI
  by_cases cr:a=t
  ·simp only[cr,if_true]
   refine⟨-(E t k*inv/p),?_⟩
   have:=Int.emod_add_mul_ediv (E t k*inv) p
   have e:p* -(E t k*inv/p)= -(p*(E t k*inv/p)):=Int.mul_neg _ _
   omega
  ·simp only[cr,if_false]
   exact⟨0,by simp⟩
theorem lA.add {p f:Int} {n:Nat} {E E' X:bL} (h:lA p n E X) {m t:Nat} (hm:m<n) (ht:t<n) (zY:m≠t) (he:∀a,a<n->∀k,k<n->∃q,E' a k=(if a=m then E m k+f*E t k else E a k)+p*q):∃X',lA p n E' X':=by
 refine⟨fun k b=>if b=t then X k t - f*X k m else X k b,lA.congr (E:=fun a k=>if a=m then E m k+f*E t k else E a k) (fun a ha b hb=>?_) he⟩
 obtain⟨q1,h1⟩:=h a ha b hb
 obtain⟨q2,h2⟩:=h t ht b hb
 obtain⟨q3,h3⟩:=h a ha m hm
 obtain⟨q4,h4⟩:=h t ht m hm
 have kO:gb (fun k=>E a k) (fun k=>X k b) n=dl a b+p*q1:=h1
 have zJ:gb (fun k=>E t k) (fun k=>X k b) n=dl t b+p*q2:=h2
 have vt:gb (fun k=>E a k) (fun k=>X k m) n=dl a m+p*q3:=h3
 have h4':gb (fun k=>E t k) (fun k=>X k m) n=dl t m+p*q4:=h4
 have d1:dl t m=0:=if_neg (Ne.symm zY)
 by_cases xD:a=m
 ·subst xD
  have d2:dl a a=1:=if_pos rfl
  by_cases ng:b=t
  ·subst ng
   have d3:dl a b=0:=if_neg zY
   have d4:dl b b=1:=if_pos rfl
   refine⟨q1+f*q2 - f*q3 - f*f*q4,?_⟩
   simp only[if_true]
   rw[S3,Jh,Jh,kO,zJ,vt,h4',d1,d2,d3,d4]
   grind
  ·refine⟨q1+f*q2,?_⟩
   have d3:dl t b=0:=if_neg (Ne.symm ng)
   simp only[if_true,if_neg ng]
   rw[S3,kO,zJ,d3]
   grind
 ·by_cases ng:b=t
  ·subst ng
   have d3:dl a m=0:=if_neg xD
   refine⟨q1 - f*q3,?_⟩
   simp only[if_neg xD,if_true]
   rw[Jh,kO,vt,d3]
   grind
  ·refine⟨q1,?_⟩
   simp only[if_neg xD,if_neg ng]
   exact kO
def RK (p:Int) (n:Nat) (s:bL×List Int×Int) (j:Nat):Prop:=
 (∃X,lA p n (fun a k=>s.1 a (n+k)) X)/\∀b,b<j->∀i,s.2.1.length<=i->i<n->s.1 i b=0
theorem RK.step {p:Int} {n:Nat} {s:bL×List Int×Int} {j:Nat} (CX:f0 p=true) (hj:j<2*n) (I:RI p n (2*n) s j) (h:RK p n s j):RK p n (mS p n s j) (j+1):=by
 have hp:di p:=sI CX
 obtain⟨⟨X,hX⟩,hz⟩:=h
 obtain⟨M,L,d⟩:=s
 simp only at hX hz
 by_cases hl:L.length<n
 ·cases hk:iV M j (n - L.length) L.length with
  |none=>
   rw[PT (s:=(M,L,d)) hl hk]
   refine⟨⟨X,hX⟩,fun b hb i h1 h2=>?_⟩
   by_cases Mm:b=j
   ·subst Mm;exact PL hk i h1 (by simp only at h1;omega)
   ·exact hz b (by omega) i h1 h2
  |some k=>
   rw[PU (s:=(M,L,d)) hl hk]
   simp only
   have hq:=DI hk
   have kR:k<n:=by omega
   have hM:cY p n (2*n) M:=I.m
   have hx:fZ p (M k j):=hM k kR j hj
   have Hz:e8 M L.length k L.length j=M k j:=if_pos rfl
   have hi:=aeX CX hx hq.2.2
   generalize CN:iz p 1 (M k j) (p - 2).toNat=inv at hi
   have aed:qu p M L.length j k=uI p inv (e8 M L.length k) L.length:=by unfold qu;rw[Hz,CN]
   rw[aed]
   have hS:cY p n (2*n) (e8 M L.length k):=Ji hM hl kR
   generalize Hd:uI p inv (e8 M L.length k) L.length=M2
   have alv:cY p n (2*n) M2:=by rw[<-Hd];exact Y1 hp hS _
   constructor
   ·obtain⟨X1,hX1⟩:=hX.swap (s:=L.length) (t:=k) hl kR
    obtain⟨X2,hX2⟩:=hX1.akd (inv:=inv) (u:=M k j) hl hi
    have zj:lA p n (fun a b=>fb p M2 L.length j 0 a (n+b)) X2:=by
     rw[KT,<-Hd];exact hX2
    have cP:∀m,m<=n->∃X',lA p n (fun a b=>fb p M2 L.length j m a (n+b)) X':=by
     intro m
     induction m with
     |zero=>intro _;exact⟨X2,zj⟩
     |succ m ih=>
      intro hm
      obtain⟨X',VP⟩:=ih (by omega)
      by_cases zY:m=L.length
      ·subst zY
       rw[KV];exact⟨X',VP⟩
      ·refine VP.add (f:=p - M2 m j) (m:=m) (t:=L.length) (by omega) hl zY fun a ha b hb=>?_
       show∃q,fb p M2 L.length j (m+1) a (n+b)=_
       by_cases xD:a=m
       ·subst xD
        rw[if_pos rfl]
        show∃q,fb p M2 L.length j (a+1) a (n+b)=(fb p M2 L.length j a a (n+b)+(p - M2 a j)*fb p M2 L.length j a L.length (n+b))+p*q
        rw[B3,Up]
        unfold fb
        rw[if_pos ⟨by omega,zY⟩]
        refine⟨-((M2 a (n+b)+(p - M2 a j)*M2 L.length (n+b))/p),?_⟩
        have e1:=Int.emod_add_mul_ediv (M2 a (n+b)+(p - M2 a j)*M2 L.length (n+b)) p
        have e2:=Int.mul_neg p ((M2 a (n+b)+(p - M2 a j)*M2 L.length (n+b))/p)
        omega
       ·rw[if_neg xD]
        refine⟨0,?_⟩
        show fb p M2 L.length j (m+1) a (n+b)=fb p M2 L.length j m a (n+b)+p*0
        unfold fb
        by_cases hc:a<m/\a≠L.length
        ·rw[if_pos hc,if_pos ⟨by omega,hc.2⟩];simp
        ·rw[if_neg hc,if_neg (by omega)];simp
    exact cP n (Nat.le_refl _)
   ·intro b hb i h1 h2
    simp only[List.length_append,List.length_cons,List.length_nil] at h1
    show fb p M2 L.length j n i b=0
    unfold fb
    rw[if_pos ⟨h2,by omega⟩]
    have e2:∀c,M2 i c=e8 M L.length k i c:=fun c=>by rw[<-Hd];exact if_neg (by omega)
    have e3:∀c,M2 L.length c=M k c*inv%p:=fun c=>by rw[<-Hd];show(if L.length=L.length then _ else _)=_;rw[if_pos rfl];congr 2;exact if_pos rfl
    by_cases Mm:b=j
    ·subst Mm
     rw[e3 b,hi]
     have:M2 i b+(p - M2 i b)*1=p:=by omega
     rw[this];exact Int.emod_self
    ·have Mn:b<j:=by omega
     rw[e3 b,hz b Mn k hq.1 kR,e2 b]
     have:e8 M L.length k i b=0:=by
      unfold e8
      rw[if_neg (by omega)]
      split
      ·exact hz b Mn L.length (Nat.le_refl _) hl
      ·exact hz b Mn i (by omega) h2
     rw[this];simp
 ·unfold mS
  rw[if_neg hl]
  exact⟨⟨X,hX⟩,fun b hb i h1 h2=>by simp only at h1;omega⟩
end Go.Am
end
section
namespace Go.Am
def alk (n:Nat) (M:bL):bL:=fun a b=>if b<n then M a b else dl a (b - n)
def alm (n:Nat) (M:bL):bL:=bu (2*n) (ai n (2*n) (alk n M))
def W7 (p:Int) (n:Nat) (M:bL):bL×List Int×Int:=ga p n (alm n M) (2*n)
def aeV (p:Int) (n:Nat) (M:bL):Prop:=∀i,i<n->(W7 p n M).2.1.getD i 0=(i:Int)
instance (p:Int) (n:Nat) (M:bL):Decidable (aeV p n M):=inferInstanceAs (Decidable (∀i,i<n->(W7 p n M).2.1.getD i 0=(i:Int)))
theorem VH {L:List Int} {i:Nat} (h:i<L.length):dg L i=some (L.getD i 0):=by
 show L[i]? =_
 rw[List.getElem?_eq_getElem h]
 simp[List.getD,h]
section
variable {p:Int} {n:Nat} {M R:bL} {L:List Int}
end
section
variable {p:Int} {n:Nat} {M R:bL} {L:List Int}
end
end Go.Am
end
section
namespace Go.Am
abbrev c7:=Int×Int×List Int
abbrev dj:=Int×Int×List Int×List (Int×Int×List Int)×List Int
def yM (k:Nat) (w:List Int):Prop:=∀c∈w,0<=c/\c<(k:Int)
instance (k:Nat) (w:List Int):Decidable (yM k w):=inferInstanceAs (Decidable (∀c∈w,0<=c/\c<(k:Int)))
def uO (p:Int) (n:Nat) (ms:List c7) (v:List Int) (c:Int):List Int:=ai 1 n (du p n (bu n v) (bu n (ms.getD c.toNat (0,0,[])).2.2))
def dS (p:Int) (n:Nat) (ms:List c7) (v:List Int) (w:List Int):List Int:=w.foldl (uO p n ms) v
def nd (p:Int) (x y:List Int):Int:=nc p (fun t=>x.getD t 0) (fun t=>y.getD t 0) x.length
def w4:Int×List Int×Int×Int×List Int->Option (List Int):=fun(x:Int×List Int×Int×Int×List Int)=>
 match nL (x.1,(1,x.2.2.1,x.2.1),x.2.2) with
 |some y=>some y.2.2
 |none=>none
def PR (x:dj×List Int):Prop:=gG x.1=true/\yM x.1.2.2.2.1.length x.2/\x.2.length<=1048576
instance (x:dj×List Int):Decidable (PR x):=by unfold PR;infer_instance
def rR:dj×List Int->Option (List Int):=fun(x:dj×List Int)=>if PR x then some (dS x.1.1 x.1.2.1.toNat x.1.2.2.2.1 x.1.2.2.1 x.2) else none
def wV:dj×List Int->Option (List Int):=rR
def zb:Int×List Int×List Int->Option Int:=fun(x:Int×List Int×List Int)=>if di x.1/\x.2.1.length=x.2.2.length/\x.2.1.length<=1048576/\fw x.1 x.2.1/\fw x.1 x.2.2 then some (nd x.1 x.2.1 x.2.2) else none
def F8:ao:=[(.one,[.int .i64]),(.one,[.list [.int .i64]]),(.agg,[.int .i64,.int .i64,.list [.int .i64]])]
def Q4:ao:=[(.one,[.list [.int .i64]])]
def ahk:aW:=[]
def F4:ao:=[(.agg,[.int .i64,.int .i64,.list [.int .i64],.list [.int .i64,.int .i64,.list [.int .i64]],.list [.int .i64]]),(.one,[.list [.int .i64]])]
def Q0:ao:=[(.one,[.list [.int .i64]])]
def ahg:aW:=[]
def Fp:ao:=[(.agg,[.int .i64,.int .i64,.list [.int .i64],.list [.int .i64,.int .i64,.list [.int .i64]],.list [.int .i64]]),(.one,[.list [.int .i64]])]
def Qp:ao:=[(.one,[.list [.int .i64]])]
def agK:aW:=[]
def F0:ao:=[(.one,[.int .i64]),(.one,[.list [.int .i64]]),(.one,[.list [.int .i64]])]
def QY:ao:=[(.one,[.int .i64])]
def ahe:aW:=[]
def Ki (NN:Nat):(Int×((List Int)×(Int×(Int×(List Int)))))->(Option (List Int)):=
 (fun((i0,l1,i2,i3,l4):(Int×((List Int)×(Int×(Int×(List Int))))))=>
 (nL (i0,((1:Int),i2,l1),i2,i3,l4)).U (fun(i5,i6,l7)=>
 (ci l7 (J l7)).U (fun l8=>
 some l8)))
def EU (NN:Nat):((Int×(Int×((List Int)×((List (Int×(Int×(List Int))))×(List Int)))))×(List Int))->(Option (List Int)):=
 (fun(((i0,i1,l2,l3,l4),l5):((Int×(Int×((List Int)×((List (Int×(Int×(List Int))))×(List Int)))))×(List Int)))=>
 (mh l2).U (fun l6=>
 bK ((ae 0 (J l6) (J l6)).U (fun _=>
 bf NN (fun(((l7,i8,i9),(bS,bZ,dM,iA,c8),bJ):(((List Int)×(Int×Int))×((Int×(Int×((List Int)×((List (Int×(Int×(List Int))))×(List Int)))))×(List Int))))=>
 aw (bc i9 i8)
 ((dz l7 i9).U (fun ed=>
 (dz iA ed).U (fun(jg,dX,eR)=>
 (bg bJ 0 (J bJ)).U (fun ff=>
 (w4 (bS,ff,jg,dX,eR)).U (fun ib=>
 (ae 0 (J ib) (J ib)).U (fun _=>
 some (Sum.inl ((l7,i8,aM .i64 i9 1),(bS,bZ,dM,iA,c8),ib))))))))
 (((ae 0 (J bJ) (J bJ)).U (fun _=>
 some (Sum.inl bJ))).U (fun cV=>
 some (Sum.inr cV))))
 ((l5,aL (J l5),(0:Int)),(i0,i1,l2,l3,l4),l6)))
 (fun dD=>
 (ci dD (J dD)).U (fun fM=>
 some fM))))
def EK (NN:Nat):((Int×(Int×((List Int)×((List (Int×(Int×(List Int))))×(List Int)))))×(List Int))->(Option (List Int)):=
 (fun(((i0,i1,l2,l3,l4),l5):((Int×(Int×((List Int)×((List (Int×(Int×(List Int))))×(List Int)))))×(List Int)))=>
 (mg l2).U (fun l6=>
 bK ((ae 0 (J l6) (J l6)).U (fun _=>
 bf NN (fun(((l7,i8,i9),(bS,bZ,dM,iA,c8),(fV,ed),bB):(((List Int)×(Int×Int))×((Int×(Int×((List Int)×((List (Int×(Int×(List Int))))×(List Int)))))×((Int×Int)×(List Int)))))=>
 aw (bc i9 i8)
 ((dz l7 i9).U (fun dX=>
 (dz iA dX).U (fun(cX,eG,ib)=>
 (bg bB 0 (J bB)).U (fun cV=>
 (rK (bS,(fV,ed,cV),cX,eG,ib)).U (fun(ef,eH,cL)=>
 (ae 0 (J cL) (J cL)).U (fun _=>
 some (Sum.inl ((l7,i8,aM .i64 i9 1),(bS,bZ,dM,iA,c8),(ef,eH),cL))))))))
 (((ae 0 (J bB) (J bB)).U (fun _=>
 some (Sum.inl ((fV,ed),bB)))).U (fun cb=>
 some (Sum.inr cb))))
 ((l5,aL (J l5),(0:Int)),(i0,i1,l2,l3,l4),((1:Int),aL (J l6)),l6)))
 (fun((fe,fK),dR)=>
 (ci dR (J dR)).U (fun f6=>
 some f6))))
def Kd (NN:Nat):(Int×((List Int)×(List Int)))->(Option Int):=
 (fun((i0,l1,l2):(Int×((List Int)×(List Int))))=>
 bK (bf NN (fun((i3,l4,i5,l6,i7,i8):(Int×((List Int)×(Int×((List Int)×(Int×Int))))))=>
 aw (bc i8 i7)
 ((dz l6 i8).U (fun i9=>
 (dz l4 i8).U (fun bS=>
 (gQ (aM .i64 i5 (cz .i64 i9 bS)) i3).U (fun bZ=>
 some (Sum.inl (i3,l4,bZ,l6,i7,aM .i64 i8 1))))))
 (some (Sum.inr (Sum.inl i5))))
 (i0,l2,(0:Int),l1,aL (J l1),(0:Int)))
 (fun cq=>
 some cq))
theorem DR {m:Int} {l:List Int}:kc m l=true↔fw m l:=by
 simp only[kc,fw,List.all_eq_true,vU,decide_eq_true_eq,fZ]
structure jQ (p:Int) (n:Nat) (a:List Int) (ms:List c7) (b:List Int):Prop where
 pr:f0 p=true
 hn:n<=12
 al:a.length=n
 ap:fw p a
 bl:b.length=n
 bp:fw p b
 l1:1<=ms.length
 l4:ms.length<=4
 hm:∀x∈ms,∃M:bL,x=((n:Int),(n:Int),ai n n M)/\cY p n n M
theorem jQ.p {p:Int} {n:Nat} {a b:List Int} {ms:List c7} (h:jQ p n a ms b):di p:=sI h.pr
theorem tu {x:dj} (h:gG x=true):∃(p:Int) (n:Nat) (a:List Int) (ms:List c7) (b:List Int),x=(p,(n:Int),a,ms,b)/\jQ p n a ms b:=by
 obtain⟨p,n,a,ms,b⟩:=x
 simp only[gG,Bool.and_eq_true,decide_eq_true_eq] at h
 obtain⟨h1,h2,⟨h3,h4⟩,⟨h5,h6⟩,h7,h8⟩:=h
 obtain⟨n,rfl⟩:=jn h2.1
 refine⟨p,n,a,ms,b,rfl,h1,by omega,by omega,DR.1 h3,by omega,DR.1 h5,by omega,by omega,fun x hx=>?_⟩
 have hm:=List.all_eq_true.1 h8 x hx
 simp only[rr,Bool.and_eq_true,decide_eq_true_eq] at hm
 obtain⟨hm,hr,hc⟩:=hm
 obtain⟨r,c,M,rfl,hp,hr',cI,dh,hM⟩:=ago hm
 simp only at hr hc
 have er:r=n:=by omega
 have ec:c=n:=by omega
 subst er ec
 exact⟨M,rfl,hM⟩
theorem rv {p:Int} {r c:Nat} {l:List Int} (hl:l.length=r*c) (h:fw p l):cY p r c (bu c l):=jU.1 (by rw[pT hl];exact h)
section
variable {p:Int} {n:Nat} {a b:List Int} {ms:List c7}
theorem S2 {s:List Int} {c:Int}:(uO p n ms s c).length=n:=by unfold uO;rw[jz];omega
theorem S1 (hp:di p) {s:List Int} {c:Int}:fw p (uO p n ms s c):=jU.2 (Dw hp 1 n n _ _)
theorem XZ (H:jQ p n a ms b) {s:List Int} (hl:s.length=n) (hs:fw p s) {x:c7} (hx:x∈ms):
  nL (p,(1,(n:Int),s),x)=some (1,(n:Int),ai 1 n (du p n (bu n s) (bu n x.2.2))):=by
 obtain⟨M,rfl,hM⟩:=H.hm x hx
 have hn:=H.hn
 have hnn:n*n<=12*12:=Nat.mul_le_mul hn hn
 have e1:ai 1 n (bu n s)=s:=pT (by omega)
 have e2:ai n n (bu n (ai n n M))=ai n n M:=pT (jz _ _ _)
 have h:=AK (r:=1) (k:=n) (c:=n) (A:=bu n s) (B:=bu n (ai n n M)) H.p (by omega) (by omega) (by omega) (by omega) (by omega) (by omega) (rv (by omega) hs) (rv (jz _ _ _) (jU.2 hM))
 rw[e1,e2] at h
 exact h
theorem ZM {w:List Int} (hw:yM ms.length w) {i:Nat} {c:Int} (hc:w[i]? =some c):∃x,x∈ms/\dz ms c=some x/\ms.getD c.toNat (0,0,[])=x:=by
 have h:=hw c (List.mem_of_getElem? hc)
 obtain⟨k,rfl⟩:=jn h.1
 have hk:k<ms.length:=by omega
 refine⟨ms[k],List.getElem_mem hk,by rw[fF,List.getElem?_eq_getElem hk],?_⟩
 simp[List.getD,hk]
theorem L7 {S α:Type} (f:S->α->S):∀(l:List α) (i:Nat) (s:S),xy (fun _ s a=>f s a) i s l=l.foldl f s
 |[],i,s=>rfl
 |x::l,i,s=>L7 f l (i+1) (f s x)
theorem IA (hp:di p):∀(w:List Int) (s:List Int),s.length=n->fw p s->(dS p n ms s w).length=n/\fw p (dS p n ms s w)
 |[],s,h1,h2=>⟨h1,h2⟩
 |c::w,s,h1,h2=>IA hp w (uO p n ms s c) S2 (S1 hp)
theorem ada (x:Int×List Int×Int×Int×List Int) (y:List Int) (h:w4 x=some y):Ki aA x=some y:=by
 obtain⟨p,l,r,c,d⟩:=x
 simp only[w4] at h
 split at h
 ·rename_i z e
  injection h with h
  subst h
  obtain⟨z0,z1,z2⟩:=z
  simp only[Ki,e,au,gu]
 ·cases h
theorem ak3 (H:jQ p n a ms b) {s:List Int} (hl:s.length=n) (hs:fw p s) {x:c7} (hx:x∈ms):
  w4 (p,s,x)=some (ai 1 n (du p n (bu n s) (bu n x.2.2))):=by
 have h:=XZ H hl hs hx
 obtain⟨M,rfl,hM⟩:=H.hm x hx
 simp only[w4]
 rw[h]
theorem ads (H:jQ p n a ms b) {w:List Int} (hw:yM ms.length w) (hl:w.length<=1048576):EU aA ((p,(n:Int),a,ms,b),w)=some (dS p n ms a w):=by
 simp only[EU]
 rw[show mh a=some a from if_pos (by have:=H.al;have:=H.hn;omega),au]
 simp only[bq,au]
 rw[XF w (fun s i=>((w,aL (J w),(i:Int)),(p,(n:Int),a,ms,b),s)) (fun _ s=>s.length=n/\fw p s) (fun _ s c=>uO p n ms s c) (fun s=>Sum.inl s) ?h1 ?h3 (s:=a) ⟨H.al,H.ap⟩ ?h0 (cG (by omega))]
 case h0=>rfl
 case h1=>
  intro i s c hc hI
  refine⟨?_,S2,S1 H.p⟩
  obtain⟨x,hx,hg,hd⟩:=ZM hw hc
  have ht:=ak3 H hI.1 hI.2 hx
  simp only
  rw[aT (iR hc),fF,hc,au,hg,au]
  obtain⟨x0,x1,x2⟩:=x
  simp only[ik,au,ht,bq]
  rw[mR hc (by omega)]
  unfold uO
  rw[hd]
 case h3=>
  intro s hI
  simp only
  rw[aS (ot w)]
  try simp only[bq,au]
 rw[cK]
 simp only[gu,au]
 rw[L7]
 rfl
theorem adq (H:jQ p n a ms b) {w:List Int} (hw:yM ms.length w) (hl:w.length<=1048576):EK aA ((p,(n:Int),a,ms,b),w)=some (dS p n ms a w):=by
 simp only[EK]
 rw[show mg a=some a from if_pos (by have:=H.al;have:=H.hn;omega),au]
 simp only[bq,au]
 have ea:aL (J a)=(n:Int):=by rw[nl,H.al]
 rw[ea]
 rw[XF w (fun s i=>((w,aL (J w),(i:Int)),(p,(n:Int),a,ms,b),((1:Int),(n:Int)),s)) (fun _ s=>s.length=n/\fw p s) (fun _ s c=>uO p n ms s c) (fun s=>Sum.inl (((1:Int),(n:Int)),s)) ?h1 ?h3 (s:=a) ⟨H.al,H.ap⟩ ?h0 (cG (by omega))]
 case h0=>rfl
 case h1=>
  intro i s c hc hI
  refine⟨?_,S2,S1 H.p⟩
  obtain⟨x,hx,hg,hd⟩:=ZM hw hc
  have ht:rK (p,(1,(n:Int),s),x)=_:=XZ H hI.1 hI.2 hx
  simp only
  rw[aT (iR hc),fF,hc,au,hg,au]
  obtain⟨x0,x1,x2⟩:=x
  simp only[ik,au,ht,bq]
  rw[mR hc (by omega)]
  unfold uO
  rw[hd]
 case h3=>
  intro s hI
  simp only
  rw[aS (ot w)]
  try simp only[bq,au]
 rw[cK]
 simp only[gu,au]
 rw[L7]
 rfl
end
theorem ac6 (x:dj×List Int) (y:List Int) (h:rR x=some y):EU aA x=some y:=by
 obtain⟨x,w⟩:=x
 simp only[rR] at h
 split at h
 ·rename_i hc
  obtain⟨p,n,a,ms,b,rfl,H⟩:=tu hc.1
  rw[<-h]
  exact ads H hc.2.1 hc.2.2
 ·cases h
theorem acw (x:dj×List Int) (y:List Int) (h:wV x=some y):EK aA x=some y:=by
 obtain⟨x,w⟩:=x
 simp only[wV,rR] at h
 split at h
 ·rename_i hc
  obtain⟨p,n,a,ms,b,rfl,H⟩:=tu hc.1
  rw[<-h]
  exact adq H hc.2.1 hc.2.2
 ·cases h
theorem ac4 (x:Int×List Int×List Int) (y:Int) (h:zb x=some y):Kd aA x=some y:=by
 obtain⟨p,l,m⟩:=x
 simp only[zb] at h
 split at h
 ·rename_i hc
  obtain⟨hp,hlm,hl,hL,hM⟩:=hc
  rw[<-h]
  simp only[Kd]
  rw[dP (fun i=>(p,m,nc p (fun t=>l.getD t 0) (fun t=>m.getD t 0) i,l,aL (J l),(i:Int))) l.length ?h1 ?h2 ?h0 (cG (by omega))]
  case h0=>rfl
  case h2=>simp only;rw[aS (ot l)]
  case h1=>
   intro i hi
   have g1:l[i]? =some (l.getD i 0):=VH hi
   have g2:m[i]? =some (m.getD i 0):=VH (by omega)
   have i1:=hL _ (List.mem_of_getElem? g1)
   have i2:=hM _ (List.mem_of_getElem? g2)
   simp only
   rw[aT (iR g1),fF,g1,au,fF,g2,au,Dt hp ((GD hp _ _ i).s hp) i1.le i2.le,au,mR g1 (by omega)]
   rfl
  rw[cK]
  rfl
 ·cases h
end Go.Am
end
section
namespace Go.Am
section
variable {p:Int} {n m:Nat} {a b a2 b2:List Int} {ms XV:List c7}
end
section
variable {p sg:Int} {n m:Nat} {a b a2 b2:List Int} {ms XV:List c7}
end
end Go.Am
end
section
namespace Go.Am
section
variable {n:Int} {d:List (Int×Int)} {a b:Int}
end
end Go.Am
end
section
namespace Go.Am
def pC (b a:Int) (l:List Int):List Int:=l.map fun x=>if x=b then a else x
def ve (l:List Int) (i:Int):Int:=l.getD i.toNat 0
def vW (n:Nat):List Int:=(List.range n).map fun i=>((i:Nat):Int)
def A4 (s:Nat) (i:Nat) (st:Int×List Int) (e:Int×Int):Int×List Int:=
 if s.testBit i=true/\ve st.2 e.1≠ve st.2 e.2 then(st.1 - 1,pC (ve st.2 e.2) (ve st.2 e.1) st.2) else st
def parts (n:Int) (es:List (Int×Int)) (s:Int):Int×List Int:=xy (A4 s.toNat) 0 (n,vW n.toNat) es
def N7 (s:Nat) (i:Nat) (l:List Int) (e:Int×Int):List Int:=
 if s.testBit i=true then pC (max (ve l e.1) (ve l e.2)) (min (ve l e.1) (ve l e.2)) l else l
def Lh (l:List Int):Int:=((List.range l.length).countP fun i=>l.getD i 0==(i:Int):Nat)
theorem NG (n:Nat):(vW n).length=n:=by simp[vW]
theorem PX (b a:Int) (l:List Int):(pC b a l).length=l.length:=by simp[pC]
theorem Uy (p:Nat->Bool) (j:Nat):(List.range (j+1)).countP p=(List.range j).countP p+(if p j=true then 1 else 0):=by
 rw[List.range_succ,List.countP_append,List.countP_singleton]
theorem Ux (p q:Nat->Bool) (k:Nat):∀n,k<n->(∀i,i<n->i≠k->p i=q i)->p k=true->q k=false->(List.range n).countP p=(List.range n).countP q+1
 |0,h,_,_,_=>by omega
 |n+1,h,M3,h1,h2=>by
  rw[Uy,Uy]
  by_cases hk:k=n
  ·subst hk
   rw[h1,h2]
   have:(List.range k).countP p=(List.range k).countP q:=List.countP_congr fun i hi=>by
    have:=List.mem_range.1 hi
    rw[M3 i (by omega) (by omega)]
   rw[this]
   simp
  ·rw[Ux p q k n (by omega) (fun i hi=>M3 i (by omega)) h1 h2,M3 n (by omega) (by omega)]
   omega
structure BT (m:Nat) (l:List Int) (c:Int) (q:List Int):Prop where
 ll:l.length=m
 lq:q.length=m
 fP:∀i j:Nat,i<m->j<m->(l.getD i 0=l.getD j 0↔q.getD i 0=q.getD j 0)
 low:∀i:Nat,i<m->0<=l.getD i 0/\l.getD i 0<=(i:Int)/\l.getD (l.getD i 0).toNat 0=l.getD i 0
 bH:Lh l=c
theorem YL {b a:Int} {l:List Int} {i:Nat} (h:i<l.length):(pC b a l).getD i 0=if l.getD i 0=b then a else l.getD i 0:=by
 simp[pC,List.getD,List.getElem?_map,List.getElem?_eq_getElem h]
theorem ajI (b:Int) (l:List Int):pC b b l=l:=by
 unfold pC
 conv=>rhs;rw[<-List.map_id l]
 refine List.map_congr_left fun x _=>?_
 split
 ·rename_i h;exact h.symm
 ·rfl
theorem XP {b a x y:Int}:((if x=b then a else x)=(if y=b then a else y))↔(x=y\/((x=b\/x=a)/\(y=b\/y=a))):=by
 constructor
 ·intro h;split at h<;>split at h<;>omega
 ·intro h;split<;>split<;>omega
theorem BT.step {m:Nat} {l:List Int} {c:Int} {q:List Int} (h:BT m l c q) {u v:Nat} (hu:u<m) (hv:v<m) {s i:Nat}:
  BT m (N7 s i l ((u:Int),(v:Int))) (A4 s i (c,q) ((u:Int),(v:Int))).1 (A4 s i (c,q) ((u:Int),(v:Int))).2:=by
 cases hb:s.testBit i with
 |false=>
  have e1:N7 s i l ((u:Int),(v:Int))=l:=if_neg (by rw[hb];decide)
  have e2:A4 s i (c,q) ((u:Int),(v:Int))=(c,q):=if_neg (fun hh=>by rw[hb] at hh;exact absurd hh.1 (by decide))
  rw[e1,e2]
  exact h
 |true=>
  have ep:q.getD u 0=q.getD v 0->A4 s i (c,q) ((u:Int),(v:Int))=(c,q):=fun h=>if_neg (fun hh=>hh.2 h)
  have en:q.getD u 0≠q.getD v 0->A4 s i (c,q) ((u:Int),(v:Int))=(c - 1,pC (q.getD v 0) (q.getD u 0) q):=fun h=>if_pos ⟨hb,h⟩
  have el:N7 s i l ((u:Int),(v:Int))=pC (max (l.getD u 0) (l.getD v 0)) (min (l.getD u 0) (l.getD v 0)) l:=if_pos hb
  obtain⟨ll,lq,fP,low,bH⟩:=h
  by_cases hq:q.getD u 0=q.getD v 0
  ·have hl:=(fP u v hu hv).2 hq
   rw[ep hq,el,hl,Int.max_self,Int.min_self,ajI]
   exact⟨ll,lq,fP,low,bH⟩
  ·have hl:l.getD u 0≠l.getD v 0:=fun e=>hq ((fP u v hu hv).1 e)
   rw[en hq,el]
   obtain⟨lu0,lu1,Oe⟩:=low u hu
   obtain⟨lv0,lv1,Of⟩:=low v hv
   obtain⟨lo,hi,e1,e2,bX,z4,ad3,vD,tQ,V3⟩:∃lo hi:Nat,min (l.getD u 0) (l.getD v 0)=(lo:Int)/\max (l.getD u 0) (l.getD v 0)=(hi:Int)/\lo<hi/\
     (∀x:Int,(x=(hi:Int)\/x=(lo:Int))↔(x=l.getD v 0\/x=l.getD u 0))/\lo<m/\l.getD lo 0=(lo:Int)/\l.getD hi 0=(hi:Int)/\hi<m:=by
    obtain⟨a,ha⟩:=jn lu0
    obtain⟨b,hb⟩:=jn lv0
    rw[ha,Int.toNat_natCast] at Oe
    rw[hb,Int.toNat_natCast] at Of
    rw[ha] at lu1 hl
    rw[hb] at lv1 hl
    rw[ha,hb]
    rcases Nat.lt_or_ge a b with fc|fc
    ·exact⟨a,b,by omega,by omega,fc,fun x=>by omega,by omega,Oe,Of,by omega⟩
    ·exact⟨b,a,by omega,by omega,by omega,fun x=>by omega,by omega,Of,Oe,by omega⟩
   rw[e1,e2]
   have gl:∀j,j<m->(pC (hi:Int) (lo:Int) l).getD j 0=if l.getD j 0=(hi:Int) then(lo:Int) else l.getD j 0:=fun j hj=>YL (by omega)
   have gq:∀j,j<m->(pC (q.getD v 0) (q.getD u 0) q).getD j 0=if q.getD j 0=q.getD v 0 then q.getD u 0 else q.getD j 0:=fun j hj=>YL (by omega)
   refine⟨by rw[PX];exact ll,by rw[PX];exact lq,?_,?_,?_⟩
   ·intro x y hx hy
    rw[gl x hx,gl y hy,gq x hx,gq y hy,XP,XP,z4,z4,fP x y hx hy,fP x u hx hu,fP x v hx hv,fP y u hy hu,fP y v hy hv]
   ·intro x hx
    obtain⟨h0,h1,h2⟩:=low x hx
    rw[gl x hx]
    by_cases Nh:l.getD x 0=(hi:Int)
    ·rw[if_pos Nh]
     refine⟨by omega,by omega,?_⟩
     rw[Int.toNat_natCast,gl lo ad3,vD,if_neg (by omega)]
    ·rw[if_neg Nh]
     refine⟨h0,h1,?_⟩
     rw[gl _ (by omega),h2,if_neg Nh]
   ·have hc:=Ux (fun j=>l.getD j 0==(j:Int)) (fun j=>(pC (hi:Int) (lo:Int) l).getD j 0==(j:Int)) hi m V3 ?_ (by rw[tQ];simp) (by rw[gl hi V3,if_pos tQ];simp;omega)
    ·unfold Lh at bH⊢
     rw[PX,ll]
     rw[ll,hc] at bH
     omega
    ·intro j hj aC
     rw[gl j hj]
     by_cases MJ:l.getD j 0=(hi:Int)
     ·rw[if_pos MJ,MJ,Bool.eq_iff_iff]
      simp only[beq_iff_eq]
      constructor
      ·intro h;omega
      ·intro h
       have:lo=j:=by omega
       subst this
       omega
     ·rw[if_neg MJ]
theorem NF {m i:Nat} (h:i<m):(vW m).getD i 0=(i:Int):=by
 simp[vW,List.getD,List.getElem?_map,List.getElem?_range h]
theorem BT.init (m:Nat):BT m (vW m) (m:Int) (vW m):=by
 refine⟨NG m,NG m,fun _ _ _ _=>Iff.rfl,fun i hi=>?_,?_⟩
 ·rw[NF hi,Int.toNat_natCast,NF hi]
  omega
 ·unfold Lh
  rw[NG]
  have:(List.range m).countP (fun i=>(vW m).getD i 0==(i:Int))=(List.range m).length:=by
   rw[List.countP_eq_length]
   intro i hi
   rw[NF (List.mem_range.1 hi)]
   simp
  rw[this,List.length_range]
end Go.Am
end
section
namespace Go.Am
theorem agi {X Y:Type} {f:X->Option (X⊕Y)} (n:Nat) (I:Nat->X->Prop) (Q:Y->Prop)
  (h1:∀i x,i<n->I i x->∃x',f x=some (.inl x')/\I (i+1) x') (h2:∀x,I n x->∃r,f x=some (.inr r)/\Q r) {x0:X} (h0:I 0 x0) {N:Nat} (hN:n<N):∃r,bf N f x0=some r/\Q r:=by
 have cP:∀(k i:Nat) (x:X),i+k=n->I i x->∀N,k<N->∃r,bf N f x=some r/\Q r:=by
  intro k
  induction k with
  |zero=>
   intro i x hi hx N hN
   obtain⟨N,rfl⟩:∃M,N=M+1:=⟨N - 1,by omega⟩
   have:i=n:=by omega
   subst this
   obtain⟨r,e,q⟩:=h2 x hx
   exact⟨r,by simp only[bf,e],q⟩
  |succ k ih=>
   intro i x hi hx N hN
   obtain⟨N,rfl⟩:∃M,N=M+1:=⟨N - 1,by omega⟩
   obtain⟨x',e,eT⟩:=h1 i x (by omega) hx
   obtain⟨r,e',q⟩:=ih (i+1) x' (by omega) eT N (by omega)
   exact⟨r,by simp only[bf,e];exact e',q⟩
 exact cP n 0 x0 (by omega) h0 N hN
theorem Cx {α:Type}:ae 0 0 (J ([]:List α))=some ():=rfl
theorem G4 {α:Type} (l:List α) (x:α):ae 0 (aE (J l) (J [x])) (J (cm l [x]))=some ():=by
 rw[show J (cm l [x])=aE (J l) (J [x]) by simp[aE,J,cm]];exact bq _
end Go.Am
end
section
namespace Go.Am
def Xk (x:Int×c7×c7):Prop:=di x.1/\mO x.2.1/\mO x.2.2/\(x.2.1.1*x.2.2.1<=4096/\x.2.1.2.1*x.2.2.2.1<=4096)/\(x.2.1.1*x.2.2.1)*(x.2.1.2.1*x.2.2.2.1)<=1048576/\fw x.1 x.2.1.2.2/\fw x.1 x.2.2.2.2
instance (x:Int×c7×c7):Decidable (Xk x):=by unfold Xk;infer_instance
section
variable {p:Int} {r c s d:Nat} {A B:bL}
end
section
variable {p:Int} {n m:Nat} {a b a2 b2:List Int} {ms XV:List c7}
end
end Go.Am
end
section
namespace Go.Am
end Go.Am
end
section
namespace Go.Am
def cS (om:Bool) (w:Nat) (x y:Nat->Int) (t:Nat):Int:=sm w (fun i=>sm w (fun j=>kW om x y t i j))
def pc (x y:Nat->Int) (t:Nat):Int:=sm (t+1) (fun i=>x i*y (t - i))
theorem Sy:∀(n:Nat) {f:Nat->Int},(∀i,i<n->f i=0)->sm n f=0
 |0,_,_=>rfl
 |n+1,f,h=>by simp only[sm];rw[Sy n (fun i hi=>h i (by omega)),h n (by omega)];rfl
theorem Sx {a:Nat} {f:Nat->Int}:∀(n:Nat),a<n->(∀i,i<n->i≠a->f i=0)->sm n f=f a
 |0,h,_=>by omega
 |n+1,h,hf=>by
  simp only[sm]
  by_cases e:a=n
  ·subst e
   rw[Sy a (fun i hi=>hf i (by omega) (by omega))];omega
  ·rw[Sx n (by omega) (fun i hi aC=>hf i (by omega) aC),hf n (by omega) (by omega)];omega
theorem Zl {m:Nat} {f:Nat->Int}:∀(n:Nat),m<=n->(∀i,i<n->m<=i->f i=0)->sm n f=sm m f
 |0,h,_=>by rw[show m=0 by omega]
 |n+1,h,hf=>by
  by_cases e:m=n+1
  ·rw[e]
  ·simp only[sm]
   rw[Zl n (by omega) (fun i hi hm=>hf i (by omega) hm),hf n (by omega) (by omega)];omega
theorem aaW {w t:Nat} (x y:Nat->Int) (h:t<w):cS false w x y t=pc x y t:=by
 have fG:∀i,i<w->sm w (fun j=>kW false x y t i j)=if i<=t then x i*y (t - i) else 0:=by
  intro i hi
  split
  ·rename_i Hr
   rw[Sx (a:=t - i) w (by omega) (fun j hj aC=>by unfold kW;rw[if_neg (by omega),if_neg (by simp)])]
   unfold kW
   rw[if_pos (by omega)]
  ·exact Sy w fun j hj=>by unfold kW;rw[if_neg (by omega),if_neg (by simp)]
 unfold cS pc
 rw[Bo fG,Zl (m:=t+1) w (by omega) (fun i hi hm=>if_neg (by omega))]
 exact Bo fun i hi=>if_pos (by omega)
theorem aaV {om:Bool} {w t:Nat} {x x' y y':Nat->Int} (hx:∀i,i<w->x i=x' i) (hy:∀i,i<w->y i=y' i):cS om w x y t=cS om w x' y' t:=
 Bo fun i hi=>Bo fun j hj=>by unfold kW;rw[hx i hi,hy j hj]
theorem abc (x y:Nat->Int):cS true 4 x y 0=x 0*y 0 - x 1*y 3 - x 2*y 2 - x 3*y 1:=by simp[cS,sm,kW];grind
theorem abd (x y:Nat->Int):cS true 4 x y 1=x 0*y 1+x 1*y 0 - x 2*y 3 - x 3*y 2:=by simp[cS,sm,kW];grind
theorem abe (x y:Nat->Int):cS true 4 x y 2=x 0*y 2+x 1*y 1+x 2*y 0 - x 3*y 3:=by simp[cS,sm,kW];grind
theorem abf (x y:Nat->Int):cS true 4 x y 3=x 0*y 3+x 1*y 2+x 2*y 1+x 3*y 0:=by simp[cS,sm,kW]
theorem abn (p:Int) (om:Bool) (w:Nat) (x y:Nat->Int):KZ p om w x y=oE w fun t=>cS om w x y t%p:=rfl
theorem abo {r:Int×Int×Int} (h:r.1=7\/r.1=8) (x y:List Int):Ik r x y=KZ r.2.1 (decide (r.1=8)) (iW r) (gY x) (gY y):=if_pos h
theorem ali {r:Int×Int×Int} (hk:¬(r.1=7\/r.1=8)):iW r=1:=by
 obtain⟨k,p,n⟩:=r
 simp only at hk
 simp only[iW,rG]
 rw[if_neg (by omega),if_neg (by omega)]
 rfl
theorem adf {k p n:Int} (hk:k=7\/k=8) {j:Nat} (hj:j<iW (k,p,n)):gY (AW (k,p,n)) j=if j=0 then 1 else 0:=by
 rw[aiE,adg _ hj,if_neg (show¬k=4 by omega),if_neg (show¬(k=5\/k=6) by omega)]
theorem aaU {k p:Int} {w:Nat} (c:TC k p w) (u:Nat->Int) (v:Int) {t:Nat} (h:t<w):cS (decide (k=8)) w u (fun j=>if j=0 then v else 0) t=u t*v:=by
 by_cases h8:k=8
 ·obtain rfl:=c.w8 h8
  rw[decide_eq_true h8]
  match t,h with
  |0,_=>rw[abc];simp
  |1,_=>rw[abd];simp
  |2,_=>rw[abe];simp
  |3,_=>rw[abf];simp
 ·rw[decide_eq_false h8,aaW _ _ h]
  unfold pc
  rw[Sx (a:=t) (t+1) (by omega) (fun i hi aC=>by simp only;rw[if_neg (by omega),Int.mul_zero])]
  simp only
  rw[if_pos (by omega)]
theorem aiF {k p n:Int} (hr:Bd (k,p,n)=true) (hk:¬(k=7\/k=8)) {a:Int} (ha:0<=a/\a<=mY (k,p,n)):PH (k,p,n) a (if k=4 then 0 else if k=5\/k=6 then mY (k,p,n) else 1)=a:=by
 rcases P1 hr with⟨rfl,rfl,rfl⟩|⟨rfl,hp,rfl⟩|⟨rfl,hp,rfl⟩|⟨rfl,hp,rfl⟩|⟨rfl,hp,rfl⟩|⟨rfl,rfl,hn⟩|⟨rfl,hp,hn⟩|⟨rfl,hp,tV,rfl⟩
 ·have e:mY (1,0,0)=1:=rfl
  have h1:a=0\/a=1:=by omega
  rcases h1 with rfl|rfl<;>decide
 ·have e:mY (2,p,0)=p - 1:=rfl
  have:=sI hp
  show a*1%p=a
  rw[Int.mul_one,Int.emod_eq_of_lt (by omega) (by omega)]
 ·have e:mY (3,p,0)=p:=rfl
  show min (a*1) p=a
  omega
 ·have e:mY (4,p,0)=p:=rfl
  show min (a+0) p=a
  omega
 ·have e:mY (5,p,0)=p:=rfl
  show min a p=a
  omega
 ·have e:mY (6,0,n)=2^n.toNat - 1:=rfl
  have e2:(((2:Nat)^n.toNat:Nat):Int)=(2:Int)^n.toNat:=by push_cast;rfl
  show((a.toNat&&&(2^n.toNat - 1:Int).toNat:Nat):Int)=a
  rw[show(2^n.toNat - 1:Int).toNat=2^n.toNat - 1 by omega,Nat.and_two_pow_sub_one_eq_mod,Nat.mod_eq_of_lt (by omega)]
  omega
 ·omega
 ·omega
theorem mul_one {r:Int×Int×Int} {x:List Int} (hr:Bd r=true) (hx:zB r x=true):Ik r x (AW r)=x:=by
 obtain⟨k,p,n⟩:=r
 by_cases hk:k=7\/k=8
 ·have c:=aa1 hr hk
  rw[abo hk,abn]
  simp only
  have hT:mY (k,p,n)=p - 1:=by
   simp only[mY]
   rw[if_neg (by omega),if_neg (by omega),if_neg (by omega)]
  refine(akU fun t ht=>?_).trans (akV (UN hx))
  rw[aaV (x':=gY x) (y':=fun j=>if j=0 then 1 else 0) (fun _ _=>rfl) (fun i hi=>adf hk hi),aaU c _ _ ht,Int.mul_one]
  have:=UM hx ht
  rw[hT] at this
  exact Int.emod_eq_of_lt this.1 (by omega)
 ·have hw:=ali (r:=(k,p,n)) hk
  obtain⟨e,ha⟩:=abx hx hw
  have e1:AW (k,p,n)=[if k=4 then 0 else if k=5\/k=6 then mY (k,p,n) else 1]:=by simp only[AW];exact ajK hw
  rw[e,e1,ahl hk,aiF hr hk ha]
end Go.Am
end
section
namespace Go.Am
theorem K8 (p:Int) (f g:Nat->Int):∀n,nc p f g n=sm n (fun t=>f t*g t)%p
 |0=>by simp[nc,sm]
 |n+1=>by simp only[nc,sm];rw[K8 p f g n,Int.emod_add_emod]
theorem abv (p:Int) (x y:List Int):nd p x y=sm x.length (fun t=>gY x t*gY y t)%p:=by
 unfold nd
 rw[K8]
 rfl
theorem xi {p:Int} {n:Nat} {a b:List Int} {ms:List c7} (H:jQ p n a ms b):gG (p,(n:Int),a,ms,b)=true:=by
 have hp:=H.p
 have hn:=H.hn
 simp only[gG,Bool.and_eq_true,decide_eq_true_eq]
 refine⟨H.pr,⟨by omega,by omega⟩,⟨DR.2 H.ap,by rw[H.al]⟩,⟨DR.2 H.bp,by rw[H.bl]⟩,⟨H.l1,H.l4⟩,List.all_eq_true.2 fun x hx=>?_⟩
 obtain⟨M,rfl,hM⟩:=H.hm x hx
 simp only[rr,ou,Bool.and_eq_true,decide_eq_true_eq]
 exact⟨⟨H.pr,⟨by omega,by omega⟩,⟨by omega,by omega⟩,by rw[jz];push_cast;rfl,DR.2 (jU.2 hM)⟩,trivial,trivial⟩
theorem ZQ {α:Type} (f:α->Nat) (B:Nat):∀(l:List α),(∀x∈l,f x<=B)->(l.map f).sum<=B*l.length
 |[],_=>by simp
 |x::l,h=>by
  rw[List.map_cons,List.sum_cons,List.length_cons,Nat.mul_succ]
  have:=h x (by simp)
  have:=ZQ f B l fun y hy=>h y (by simp[hy])
  omega
theorem aaI {p:Int} {n:Nat} {a b:List Int} {ms:List c7} (H:jQ p n a ms b):fR (p,(n:Int),a,ms,b)<=1000:=by
 have h1:gS ms<=4+144*4:=by
  unfold gS
  have:=ZQ gR 144 ms fun x hx=>by
   obtain⟨M,rfl,_⟩:=H.hm x hx
   show(ai n n M).length<=144
   rw[jz]
   exact Nat.mul_le_mul H.hn H.hn
  have:=H.l4
  have:144*ms.length<=144*4:=Nat.mul_le_mul_left _ H.l4
  omega
 show a.length+gS ms+b.length<=1000
 have:=H.al
 have:=H.bl
 have:=H.hn
 omega
end Go.Am
end
section
namespace Go.Am
abbrev Wd:=List Int
def uF (p:Int) (n k:Nat) (D:List Int):Nat:=(nE (p,(k:Int),(n:Int),D)).2.1.length
def xd (p:Int) (n:Nat) (ms:List c7) (s:List Int) (S:List Wd×List Int) (w:Wd):Bool:=decide (uF p n (S.1.length+1) (S.2++dS p n ms s w)=S.1.length+1)
def j4 (t:Nat) (w:Wd):List Wd:=(List.range t).map fun(x:Nat)=>w++[(x:Int)]
def mZ (p:Int) (n:Nat) (ms:List c7) (s:List Int):Nat->List Wd×List Int->List Wd->List Wd×List Int
 |0,S,_=>S
 |_+1,S,[]=>S
 |f+1,S,w::q=>if xd p n ms s S w=true then mZ p n ms s f (S.1++[w],S.2++dS p n ms s w) (q++j4 ms.length w) else mZ p n ms s f S q
def dG (x:dj):List Wd×List Int:=mZ x.1 x.2.1.toNat x.2.2.2.1 x.2.2.1 64 ([],[]) [[]]
def wu (x:dj):Option (List (List Int)×Int×Int×List Int):=if gG x=true then some ((dG x).1,((dG x).1.length:Int),x.2.1,(dG x).2) else none
def yU:dj->Option (List (List Int)×Int×Int×List Int):=wu
def za:dj->Option (List (List Int)×Int×Int×List Int):=wu
def Fi:ao:=[(.agg,[.int .i64,.int .i64,.list [.int .i64],.list [.int .i64,.int .i64,.list [.int .i64]],.list [.int .i64]])]
def Qj:ao:=[(.one,[.list [.list [.int .i64]]]),(.agg,[.int .i64,.int .i64,.list [.int .i64]])]
def agE:aW:=[[some .aF]]
def EH (NN:Nat):(Int×(Int×((List Int)×((List (Int×(Int×(List Int))))×(List Int)))))->(Option ((List (List Int))×(Int×(Int×(List Int))))):=
 (fun((i0,i1,l2,l3,l4):(Int×(Int×((List Int)×((List (Int×(Int×(List Int))))×(List Int))))))=>
 (rI ((0:Int),i1)).U (fun(i5,i6,l7)=>
 bK ((ae 0 0 (J (([]:List (List Int))))).U (fun _=>
 (ae 0 1 (J ((([]:List Int)::([]:List (List Int)))))).U (fun _=>
 (ae 0 0 (J (([]:List Int)))).U (fun _=>
 (ae 0 (J l7) (J l7)).U (fun _=>
 bf NN (fun(((i8,i9,fA,lW,dM),(cO,db),(fV,ed),bB,c9,eR,ff):((Int×(Int×((List Int)×((List (Int×(Int×(List Int))))×(List Int)))))×((Int×Int)×((Int×Int)×((List Int)×((List Int)×((List (List Int))×(List (List Int)))))))))=>
 aw (bc (0:Int) (aL (J ff)))
 ((dT (0:Int) (J ff)).U (fun k21=>
 (dg ff (aE 0 k21)).U (fun cV=>
 (ae 0 (J ff) (J ff)).U (fun _=>
 (qD (1:Int) (aL (J ff)) (J ff)).U (fun(HU,Aq)=>
 (bg c9 0 (J c9)).U (fun cL=>
 (mg cL).U (fun cb=>
 (wV ((i8,i9,fA,lW,dM),cV)).U (fun j5=>
 (ae 0 (J cb) (J cb)).U (fun _=>
 (bg j5 0 (J j5)).U (fun iN=>
 (jV (aE (J cb) (J iN)) 8).U (fun _=>
 (bg (cm cb iN) 0 (aE (J cb) (J iN))).U (fun dR=>
 (uW (i8,aM .i64 fV 1,i9,dR)).U (fun((hH,eU,eg),fN)=>
 aw (bc (aL (J fN)) (aM .i64 fV 1))
 ((ae 0 (J eR) (J eR)).U (fun _=>
 (ae 0 Aq (J (fD ff HU Aq))).U (fun _=>
 (ae 0 (J bB) (J bB)).U (fun _=>
 (ae 0 (J c9) (J c9)).U (fun _=>
 some (Sum.inl ((i8,i9,fA,lW,dM),(cO,db),(fV,ed),bB,c9,eR,fD ff HU Aq)))))))
 ((ae 0 (J eR) (J eR)).U (fun _=>
 (ae 0 1 (J ((cV::([]:List (List Int)))))).U (fun _=>
 (jV (aE (J eR) (J ((cV::([]:List (List Int)))))) 24).U (fun _=>
 (ae 0 (aE (J eR) (J ((cV::([]:List (List Int)))))) (J (cm eR ((cV::([]:List (List Int))))))).U (fun _=>
 (ae 0 Aq (J (fD ff HU Aq))).U (fun _=>
 (ae 0 (J bB) (J bB)).U (fun _=>
 (ae 0 (aE (J cb) (J iN)) (J (cm cb iN))).U (fun _=>
 bf NN (fun(((f7,gM,gm),(lR,n9,ft,fg,la),(kw,fq),(fY,hY),f8,ic,gz,eW):(((List Int)×(Int×Int))×((Int×(Int×((List Int)×((List (Int×(Int×(List Int))))×(List Int)))))×((Int×Int)×((Int×Int)×((List Int)×((List Int)×((List (List Int))×(List (List Int))))))))))=>
 aw (bc gm gM)
 ((mg f7).U (fun iB=>
 (ae 0 (J iB) (J iB)).U (fun _=>
 (bg ((gm::([]:List Int))) 0 1).U (fun sM=>
 (jV (aE (J iB) (J sM)) 8).U (fun _=>
 (ci (cm iB sM) (aE (J iB) (J sM))).U (fun mK=>
 (ae 0 (J eW) (J eW)).U (fun _=>
 (ae 0 1 (J ((mK::([]:List (List Int)))))).U (fun _=>
 (jV (aE (J eW) (J ((mK::([]:List (List Int)))))) 24).U (fun _=>
 (ae 0 (J gz) (J gz)).U (fun _=>
 (ae 0 (aE (J eW) (J ((mK::([]:List (List Int)))))) (J (cm eW ((mK::([]:List (List Int))))))).U (fun _=>
 (ae 0 (J f8) (J f8)).U (fun _=>
 (ae 0 (J ic) (J ic)).U (fun _=>
 some (Sum.inl ((f7,gM,aM .i64 gm 1),(lR,n9,ft,fg,la),(kw,fq),(fY,hY),f8,ic,gz,cm eW ((mK::([]:List (List Int)))))))))))))))))))
 (((ae 0 (J gz) (J gz)).U (fun _=>
 (ae 0 (J eW) (J eW)).U (fun _=>
 (ae 0 (J f8) (J f8)).U (fun _=>
 (ae 0 (J ic) (J ic)).U (fun _=>
 some (Sum.inl ((lR,n9,ft,fg,la),(kw,fq),(fY,hY),f8,ic,gz,eW))))))).U (fun mL=>
 some (Sum.inr mL))))
 ((cV,aL (J lW),(0:Int)),(i8,i9,fA,lW,dM),(cO,db),(aM .i64 fV 1,i9),bB,cm cb iN,cm eR ((cV::([]:List (List Int)))),fD ff HU Aq))))))))))))))))))))))
 (((ae 0 (J eR) (J eR)).U (fun _=>
 (ae 0 (J bB) (J bB)).U (fun _=>
 (ae 0 (J c9) (J c9)).U (fun _=>
 some (Sum.inl ((cO,db),(fV,ed),bB,c9,eR)))))).U (fun ek=>
 some (Sum.inr ek))))
 ((i0,i1,l2,l3,l4),((0:Int),(0:Int)),(i5,i6),([]:List Int),l7,([]:List (List Int)),(([]:List Int)::([]:List (List Int)))))))))
 (fun((WU,ug),(jh,iK),pj,v9,lY)=>
 (bg lY 0 (J lY)).U (fun pk=>
 (bg v9 0 (J v9)).U (fun oe=>
 some (pk,jh,iK,oe))))))
structure BI (p:Int) (n t:Nat) (S:List Wd×List Int) (q:List Wd):Prop where
 dl:S.2.length=S.1.length*n
 dp:fw p S.2
 kn:S.1.length<=n
 qo:∀w∈q,yM t w/\w.length<=S.1.length
 wo:∀w∈S.1,yM t w/\w.length<=n
section
variable {p:Int} {n:Nat} {s b:List Int} {ms:List c7}
theorem HV (t:Nat) (w:Wd):(j4 t w).length=t:=by simp[j4]
theorem aal (m:Nat) (S:List Wd×List Int):mZ p n ms s m S []=S:=by cases m<;>rfl
theorem Tt {m:Nat} {S:List Wd×List Int} {w:Wd} {q:List Wd} (h:xd p n ms s S w=true):mZ p n ms s (m+1) S (w::q)=mZ p n ms s m (S.1++[w],S.2++dS p n ms s w) (q++j4 ms.length w):=if_pos h
theorem Ts {m:Nat} {S:List Wd×List Int} {w:Wd} {q:List Wd} (h:¬xd p n ms s S w=true):mZ p n ms s (m+1) S (w::q)=mZ p n ms s m S q:=if_neg h
theorem Oo (H:jQ p n s ms b) {S:List Wd×List Int} {w:Wd} {q:List Wd} (h:BI p n ms.length S (w::q)):
  yz (p,((S.1.length+1:Nat):Int),(n:Int),S.2++dS p n ms s w)/\uF p n (S.1.length+1) (S.2++dS p n ms s w)<=n/\(S.2++dS p n ms s w).length=(S.1.length+1)*n/\fw p (S.2++dS p n ms s w)/\uF p n (S.1.length+1) (S.2++dS p n ms s w)<=S.1.length+1:=by
 have hn:=H.hn
 obtain⟨r1,r2⟩:=IA (n:=n) (ms:=ms) H.p w s H.al H.ap
 have hl:(S.2++dS p n ms s w).length=(S.1.length+1)*n:=by rw[List.length_append,r1,h.dl,Nat.add_mul,Nat.one_mul]
 have hp:fw p (S.2++dS p n ms s w):=fun x hx=>by
  rcases List.mem_append.1 hx with h1|h1
  ·exact h.dp x h1
  ·exact r2 x h1
 have hk:=h.kn
 have hb:(S.1.length+1)*n<=13*12:=Nat.mul_le_mul (by omega) hn
 have I:=DO (r:=S.1.length+1) (c:=n) H.p (rv hl hp) n
 refine⟨⟨H.p,⟨⟨by dsimp only;omega,by dsimp only;omega⟩,⟨by dsimp only;omega,by dsimp only;omega⟩,by dsimp only;rw[hl];push_cast;rfl,by dsimp only;omega⟩,hp⟩,?_,hl,hp,?_⟩
 ·unfold uF nE
  simp only[Int.toNat_natCast]
  exact I.lj
 ·unfold uF nE
  simp only[Int.toNat_natCast]
  exact I.l
theorem BI.no {S:List Wd×List Int} {w:Wd} {q:List Wd} (h:BI p n ms.length S (w::q)):BI p n ms.length S q:=⟨h.dl,h.dp,h.kn,fun v hv=>h.qo v (by simp[hv]),h.wo⟩
theorem BI.Tz (H:jQ p n s ms b) {S:List Wd×List Int} {w:Wd} {q:List Wd} (h:BI p n ms.length S (w::q)) (ha:xd p n ms s S w=true):
  BI p n ms.length (S.1++[w],S.2++dS p n ms s w) (q++j4 ms.length w)/\S.1.length+1<=n:=by
 obtain⟨m1,m2,m3,m4,_⟩:=Oo H h
 have hk:=of_decide_eq_true ha
 have hw:=h.qo w (by simp)
 have kR:S.1.length+1<=n:=by omega
 refine⟨⟨by dsimp only;rw[m3,List.length_append];rfl,m4,by dsimp only;rw[List.length_append];exact kR,?_,?_⟩,kR⟩
 ·intro v hv
  dsimp only
  rw[List.length_append,List.length_singleton]
  rcases List.mem_append.1 hv with h1|h1
  ·have:=h.qo v (by simp[h1])
   exact⟨this.1,by omega⟩
  ·obtain⟨x,hx,rfl⟩:=List.mem_map.1 h1
   have hx:=List.mem_range.1 hx
   refine⟨fun c hc=>?_,by rw[List.length_append,List.length_singleton];omega⟩
   rcases List.mem_append.1 hc with h2|h2
   ·exact hw.1 c h2
   ·rw[List.mem_singleton] at h2;subst h2;exact⟨by omega,by omega⟩
 ·intro v hv
  rcases List.mem_append.1 hv with h1|h1
  ·exact h.wo v h1
  ·rw[List.mem_singleton] at h1;subst h1;exact⟨hw.1,by omega⟩
theorem XW {k t m q:Nat} (hk:k+1<=n) (h:(n - k)*t+(q+1)<=m+1):(n - (k+1))*t+(q+t)<=m:=by
 have e:n - k=n - (k+1)+1:=by omega
 rw[e,Nat.add_mul,Nat.one_mul] at h
 omega
end
theorem ZZ {α:Type} {l:List α} {n:Nat} (h:n=l.length):ci l n=some l:=by subst h;unfold ci;rw[if_pos (Nat.le_refl _),List.take_length]
theorem Xj (t:Nat) (w:Wd):j4 t w++[w++[(t:Int)]]=j4 (t+1) w:=by unfold j4;rw[List.range_succ,List.map_append];rfl
theorem akt {α:Type} (w:α) (q:List α):fD (w::q) 1 q.length=q:=by unfold fD;rw[List.drop_succ_cons,List.drop_zero,List.take_length]
section
variable {p:Int} {n:Nat} {s b:List Int} {ms:List c7}
theorem adp (H:jQ p n s ms b):EH aA (p,(n:Int),s,ms,b)=wu (p,(n:Int),s,ms,b):=by
 have hp:=H.p
 have hn:=H.hn
 have M9:=H.l4
 have tU:eZ=140737488355328:=rfl
 unfold wu
 rw[if_pos (xi H)]
 simp only[EH]
 rw[show rI ((0:Int),(n:Int))=some ((0:Int),(n:Int),ai 0 n fun _ _=>0) from Dy (r:=0) (by omega) (by omega) (by omega)]
 simp only[au,Cx,bq]
 rw[show ai 0 n (fun _ _=>0)=[] by unfold ai;rw[Nat.zero_mul];rfl,show ae 0 1 (J [([]:List Int)])=some () from rfl]
 simp only[au]
 obtain⟨R,hR⟩:∃R,dG (p,(n:Int),s,ms,b)=R:=⟨_,rfl⟩
 have Mf:mZ p n ms s 64 ([],[]) [[]]=R:=by rw[<-hR];unfold dG;simp only[Int.toNat_natCast]
 rw[hR]
 rw[H6 (r:=Sum.inl ((0,0),((R.1.length:Int),(n:Int)),[],R.2,R.1))
  (fun m x=>∃(S:List Wd×List Int) (q:List Wd),x=((p,(n:Int),s,ms,b),((0:Int),(0:Int)),((S.1.length:Int),(n:Int)),([]:List Int),S.2,S.1,q)/\BI p n ms.length S q/\(n - S.1.length)*ms.length+q.length<=m/\m<=64/\mZ p n ms s m S q=R) ?a1 64 _ ?a0 aA (cG (by omega))]
 ·simp only[bK,Option.bind,ik,Option.U]
 case a0=>
  exact⟨([],[]),[[]],rfl,⟨by simp,fun x hx=>absurd hx (by simp),Nat.zero_le _,fun w hw=>by rw[List.mem_singleton] at hw;subst hw;exact⟨fun c hc=>absurd hc (by simp),Nat.zero_le _⟩,fun w hw=>absurd hw (by simp)⟩,by
   have:n*ms.length<=12*4:=Nat.mul_le_mul hn M9
   simp only[List.length_nil,List.length_singleton,Nat.sub_zero];omega,Nat.le_refl _,Mf⟩
 case a1=>
  rintro m x ⟨S,q,rfl,hB,iG,hm,bo⟩
  dsimp only
  cases q with
  |nil=>
   left
   rw[aal] at bo
   subst bo
   rw[aS (fh (by unfold aL J;simp))]
   try simp only[bq,Cx,au]
  |cons w q=>
   right
   obtain⟨m,rfl⟩:∃k,m=k+1:=⟨m - 1,by simp only[List.length_cons] at iG;omega⟩
   simp only[List.length_cons] at iG
   have hw:=hB.qo w (by simp)
   have kR:=hB.kn
   obtain⟨k1,k2,k3,k4,k5⟩:=Oo H hB
   have hb:S.1.length*n<=12*12:=Nat.mul_le_mul (by omega) hn
   have tY:=(IA (n:=n) (ms:=ms) hp w s H.al H.ap).1
   rw[aT (gC (by unfold aL J;simp only[List.length_cons];omega))]
   rw[show dT (0:Int) (J (w::q))=some 0 from zr (i:=0) (by unfold J;simp)]
   simp only[au,jT]
   rw[show dg (w::q) 0=some w from rfl]
   simp only[au,bq]
   rw[show qD (1:Int) (aL (J (w::q))) (J (w::q))=some (1,q.length) by
    unfold qD aL J
    rw[if_pos ⟨by decide,by simp only[List.length_cons];omega,Int.le_refl _⟩]
    congr 2
    simp only[List.length_cons];omega]
   simp only[au,ik]
   rw[show mg S.2=some S.2 from if_pos (by rw[hB.dl];omega)]
   simp only[au,bq]
   rw[show wV ((p,(n:Int),s,ms,b),w)=some (dS p n ms s w) by
    simp only[wV,rR]
    rw[if_pos ⟨xi H,hw.1,show w.length<=1048576 by omega⟩]
    simp only[Int.toNat_natCast]]
   simp only[au,ik]
   rw[lK (by simp only[aE,J];rw[hB.dl,tY];omega)]
   simp only[au]
   rw[show bg (cm S.2 (dS p n ms s w)) 0 (aE (J S.2) (J (dS p n ms s w)))=some (S.2++dS p n ms s w) from wO (by simp[cm,aE,J])]
   simp only[au]
   rw[jS (by omega) (by omega),show(S.1.length:Int)+1=((S.1.length+1:Nat):Int) by push_cast;rfl]
   rw[show uW (p,((S.1.length+1:Nat):Int),(n:Int),S.2++dS p n ms s w)=_ from if_pos k1]
   simp only[au,akt,bq,Cx]
   rw[show ae 0 q.length (J q)=some () from bq _]
   rw[show aL (J (nE (p,((S.1.length+1:Nat):Int),(n:Int),S.2++dS p n ms s w)).2.1)=((uF p n (S.1.length+1) (S.2++dS p n ms s w):Nat):Int) from rfl]
   by_cases ha:xd p n ms s S w=true
   ·have hk:=of_decide_eq_true ha
    obtain⟨Ha,MK⟩:=BI.Tz H hB ha
    rw[Tt ha] at bo
    rw[aS (fh (by omega))]
    rw[show ae 0 1 (J [w])=some () from rfl]
    simp only[au,G4]
    rw[lK (by simp only[aE,J,List.length_singleton];omega)]
    simp only[au]
    rw[show ae 0 (aE (J S.2) (J (dS p n ms s w))) (J (cm S.2 (dS p n ms s w)))=some () from qU (by simp[cm,aE,J])]
    simp only[au]
    have MT:=XW (q:=q.length) MK iG
    refine⟨m,((p,(n:Int),s,ms,b),((0:Int),(0:Int)),(((S.1++[w]).length:Int),(n:Int)),([]:List Int),S.2++dS p n ms s w,S.1++[w],q++j4 ms.length w),by omega,?_,_,_,rfl,Ha,?_,by omega,bo⟩
    ·refine dP (fun x=>((w,(ms.length:Int),(x:Int)),(p,(n:Int),s,ms,b),((0:Int),(0:Int)),(((S.1.length+1:Nat):Int),(n:Int)),([]:List Int),S.2++dS p n ms s w,S.1++[w],q++j4 x w)) ms.length ?_ ?_ ?_ (cG (by omega))
     ·intro x hx
      dsimp only
      rw[aT (gC (by omega))]
      rw[show mg w=some w from if_pos (by omega)]
      simp only[au,bq]
      rw[show bg [(x:Int)] 0 1=some [(x:Int)] from rfl]
      simp only[au]
      rw[lK (by simp only[aE,J,List.length_singleton];omega)]
      simp only[au]
      rw[show ci (cm w [(x:Int)]) (aE (J w) (J [(x:Int)]))=some (w++[(x:Int)]) from ZZ (by simp[cm,aE,J])]
      simp only[au]
      rw[show ae 0 1 (J [w++[(x:Int)]])=some () from rfl]
      simp only[au,G4,Cx]
      have Hx:q.length<=64:=by
       have:=Nat.le_add_left (q.length+1) ((n - S.1.length)*ms.length)
       omega
      rw[lK (by simp only[aE,J,List.length_singleton,List.length_append,HV];omega)]
      simp only[au]
      rw[jS (by omega) (by omega)]
      rw[show cm (q++j4 x w) [w++[(x:Int)]]=q++j4 (x+1) w by unfold cm;rw[List.append_assoc,Xj]]
      rfl
     ·dsimp only
      rw[aS (fh (by omega))]
      try simp only[au,bq,Cx]
      rw[List.length_append,List.length_singleton]
     ·simp[cm,j4,aL,J]
    ·dsimp only
     rw[List.length_append,List.length_append,List.length_singleton,HV]
     exact MT
   ·have hk:¬(uF p n (S.1.length+1) (S.2++dS p n ms s w)=S.1.length+1):=fun h=>ha (decide_eq_true h)
    rw[Ts ha] at bo
    rw[aT (gC (by omega))]
    simp only[au]
    exact⟨m,_,by omega,rfl,S,q,rfl,hB.no,by omega,by omega,bo⟩
end
theorem acp (x:dj) (z:List (List Int)×Int×Int×List Int) (h:yU x=some z):EH aA x=some z:=by
 have ho:gG x=true:=by
  unfold yU wu at h
  split at h
  ·assumption
  ·cases h
 obtain⟨p,n,s,ms,b,rfl,H⟩:=tu ho
 rw[adp H]
 exact h
end Go.Am
end
section
namespace Go.Am
def FZ:ao:=[(.agg,[.int .i64,.int .i64,.list [.int .i64],.list [.int .i64,.int .i64,.list [.int .i64]],.list [.int .i64]])]
def QX:ao:=[(.one,[.list [.list [.int .i64]]]),(.agg,[.int .i64,.int .i64,.list [.int .i64]])]
def ahd:aW:=[[some .aF]]
def ET (NN:Nat):(Int×(Int×((List Int)×((List (Int×(Int×(List Int))))×(List Int)))))->(Option ((List (List Int))×(Int×(Int×(List Int))))):=
 (fun((i0,i1,l2,l3,l4):(Int×(Int×((List Int)×((List (Int×(Int×(List Int))))×(List Int))))))=>
 (ci (([]:List Int)) 0).U (fun l5=>
 bK ((ae 0 0 (J (([]:List (List Int))))).U (fun _=>
 (ae 0 1 (J ((l5::([]:List (List Int)))))).U (fun _=>
 (ae 0 0 (J (([]:List Int)))).U (fun _=>
 (ae 0 0 (J (([]:List Int)))).U (fun _=>
 bf NN (fun(((i6,i7,l8,l9,fA),(bZ,cq),(cO,db),bJ,cg,bB,c9):((Int×(Int×((List Int)×((List (Int×(Int×(List Int))))×(List Int)))))×((Int×Int)×((Int×Int)×((List Int)×((List Int)×((List (List Int))×(List (List Int)))))))))=>
 aw (bc (0:Int) (aL (J c9)))
 (bK ((ae 0 (J bB) (J bB)).U (fun _=>
 (ae 0 0 (J (([]:List (List Int))))).U (fun _=>
 (ae 0 (J c9) (J c9)).U (fun _=>
 (ae 0 (J bJ) (J bJ)).U (fun _=>
 (ae 0 (J cg) (J cg)).U (fun _=>
 bf NN (fun(((cX,eG),(eQ,fW,dD,fM,cL),(jD,fe),(fK,xZ),f6,k7,eg,fN,f7):((Int×Int)×((Int×(Int×((List Int)×((List (Int×(Int×(List Int))))×(List Int)))))×((Int×Int)×((Int×Int)×((List Int)×((List Int)×((List (List Int))×((List (List Int))×(List (List Int)))))))))))=>
 aw (bc eG cX)
 (bK ((dT eG (J f7)).U (fun k35=>
 (dg f7 (aE 0 k35)).U (fun jk=>
 (rR ((eQ,fW,dD,fM,cL),jk)).U (fun dt=>
 (bg k7 0 (J k7)).U (fun dN=>
 (mh dN).U (fun ft=>
 (ae 0 (J ft) (J ft)).U (fun _=>
 (bg dt 0 (J dt)).U (fun fg=>
 (jV (aE (J ft) (J fg)) 8).U (fun _=>
 (bg (cm ft fg) 0 (aE (J ft) (J fg))).U (fun la=>
 (u5 (eQ,aM .i64 fK 1,fW,la)).U (fun((kw,fq,Xs),nz,qd)=>
 aw (qk (aL (J nz)) fK)
 ((ae 0 (J eg) (J eg)).U (fun _=>
 (ae 0 (J fN) (J fN)).U (fun _=>
 (ae 0 (J f7) (J f7)).U (fun _=>
 (ae 0 (J f6) (J f6)).U (fun _=>
 (ae 0 (J k7) (J k7)).U (fun _=>
 some (Sum.inl ((eG,cX),(eQ,fW,dD,fM,cL),(jD,fe),(fK,xZ),f6,k7,eg,fN,f7))))))))
 ((ae 0 (J eg) (J eg)).U (fun _=>
 (ae 0 1 (J ((jk::([]:List (List Int)))))).U (fun _=>
 (jV (aE (J eg) (J ((jk::([]:List (List Int)))))) 24).U (fun _=>
 (ae 0 (aE (J eg) (J ((jk::([]:List (List Int)))))) (J (cm eg ((jk::([]:List (List Int))))))).U (fun _=>
 (ae 0 (J fN) (J fN)).U (fun _=>
 (ae 0 (J f7) (J f7)).U (fun _=>
 (ae 0 (J f6) (J f6)).U (fun _=>
 (ae 0 (aE (J ft) (J fg)) (J (cm ft fg))).U (fun _=>
 bf NN (fun(((ic,kx,sC,kU,jF),(kV,ky,ek,dO,j7),(jh,iK),(o9,lS),lY,pk,oe,jl,lZ):(((List Int)×(Int×(Int×(Int×Int))))×((Int×(Int×((List Int)×((List (Int×(Int×(List Int))))×(List Int)))))×((Int×Int)×((Int×Int)×((List Int)×((List Int)×((List (List Int))×((List (List Int))×(List (List Int)))))))))))=>
 aw (bc jF kU)
 ((mh ic).U (fun rq=>
 (ae 0 (J rq) (J rq)).U (fun _=>
 (bg ((jF::([]:List Int))) 0 1).U (fun Dp=>
 (jV (aE (J rq) (J Dp)) 8).U (fun _=>
 (ci (cm rq Dp) (aE (J rq) (J Dp))).U (fun pn=>
 (ae 0 (J jl) (J jl)).U (fun _=>
 (ae 0 1 (J ((pn::([]:List (List Int)))))).U (fun _=>
 (jV (aE (J jl) (J ((pn::([]:List (List Int)))))) 24).U (fun _=>
 (ae 0 (J oe) (J oe)).U (fun _=>
 (ae 0 (aE (J jl) (J ((pn::([]:List (List Int)))))) (J (cm jl ((pn::([]:List (List Int))))))).U (fun _=>
 (ae 0 (J lZ) (J lZ)).U (fun _=>
 (ae 0 (J lY) (J lY)).U (fun _=>
 (ae 0 (J pk) (J pk)).U (fun _=>
 some (Sum.inl ((ic,kx,sC,kU,aM .i64 jF 1),(kV,ky,ek,dO,j7),(jh,iK),(o9,lS),lY,pk,oe,cm jl ((pn::([]:List (List Int)))),lZ))))))))))))))))
 (((ae 0 (J oe) (J oe)).U (fun _=>
 (ae 0 (J jl) (J jl)).U (fun _=>
 (ae 0 (J lZ) (J lZ)).U (fun _=>
 (ae 0 (J lY) (J lY)).U (fun _=>
 (ae 0 (J pk) (J pk)).U (fun _=>
 some (Sum.inl ((sC,kx),(kV,ky,ek,dO,j7),(jh,iK),(o9,lS),lY,pk,oe,jl,lZ)))))))).U (fun mM=>
 some (Sum.inr mM))))
 ((jk,cX,eG,aL (J fM),(0:Int)),(eQ,fW,dD,fM,cL),(jD,fe),(aM .i64 fK 1,fW),f6,cm ft fg,cm eg ((jk::([]:List (List Int)))),fN,f7)))))))))))))))))))))
 (fun((uh,rl),(rm,pb,jm,iP,wa),(jI,jJ),(hZ,ji),iQ,gN,gO,yj,yk)=>
 (ae 0 (J gO) (J gO)).U (fun _=>
 (ae 0 (J yj) (J yj)).U (fun _=>
 (ae 0 (J yk) (J yk)).U (fun _=>
 (ae 0 (J iQ) (J iQ)).U (fun _=>
 (ae 0 (J gN) (J gN)).U (fun _=>
 some (Sum.inl ((rl,aM .i64 uh 1),(rm,pb,jm,iP,wa),(jI,jJ),(hZ,ji),iQ,gN,gO,yj,yk)))))))))
 (((ae 0 (J fN) (J fN)).U (fun _=>
 (ae 0 (J eg) (J eg)).U (fun _=>
 (ae 0 (J f6) (J f6)).U (fun _=>
 (ae 0 (J k7) (J k7)).U (fun _=>
 some (Sum.inl ((eQ,fW,dD,fM,cL),(jD,fe),(fK,xZ),f6,k7,fN,eg))))))).U (fun nB=>
 some (Sum.inr nB))))
 ((aL (J c9),(0:Int)),(i6,i7,l8,l9,fA),(bZ,cq),(cO,db),bJ,cg,bB,([]:List (List Int)),c9)))))))
 (fun((lU,vR,gA,gP,lb),(vS,pf),(uj,nv),yl,po,qj,wb)=>
 (ae 0 (J wb) (J wb)).U (fun _=>
 (ae 0 (J qj) (J qj)).U (fun _=>
 (ae 0 (J yl) (J yl)).U (fun _=>
 (ae 0 (J po) (J po)).U (fun _=>
 some (Sum.inl ((lU,vR,gA,gP,lb),(vS,pf),(uj,nv),yl,po,wb,qj))))))))
 (((ae 0 (J bB) (J bB)).U (fun _=>
 (ae 0 (J bJ) (J bJ)).U (fun _=>
 (ae 0 (J cg) (J cg)).U (fun _=>
 some (Sum.inl ((bZ,cq),(cO,db),bJ,cg,bB)))))).U (fun qi=>
 some (Sum.inr qi))))
 ((i0,i1,l2,l3,l4),((0:Int),(0:Int)),((0:Int),i1),([]:List Int),([]:List Int),([]:List (List Int)),(l5::([]:List (List Int)))))))))
 (fun((ud,n7),(lQ,rk),kZ,jL,iM)=>
 (bg iM 0 (J iM)).U (fun ph=>
 (bg jL 0 (J jL)).U (fun yf=>
 some (ph,lQ,rk,yf))))))
theorem iv {α β:Type} (x:α) (f:α->Option β):(some x).U f=f x:=by
 have h:∀o:Option α,o=some x->o.U f=f x:=by intro o h;subst h;rfl
 exact h _ rfl
theorem tH {α:Type}:ae 0 0 (J ([]:List α))=some ():=by
 have h:∀l:List α,l=[]->ae 0 0 (J l)=some ():=by intro l h;subst h;rfl
 exact h _ rfl
section
variable {p:Int} {n:Nat} {s b:List Int} {ms:List c7}
theorem adj (H:jQ p n s ms b):ET aA (p,(n:Int),s,ms,b)=wu (p,(n:Int),s,ms,b):=by
 have hp:=H.p
 have hn:=H.hn
 have M9:=H.l4
 have tU:eZ=140737488355328:=rfl
 unfold wu
 rw[if_pos (xi H)]
 simp only[ET]
 rw[show ci ([]:List Int) 0=some [] from rfl]
 simp only[iv,tH]
 rw[show ae 0 1 (J [([]:List Int)])=some () from rfl]
 simp only[iv]
 obtain⟨R,hR⟩:∃R,dG (p,(n:Int),s,ms,b)=R:=⟨_,rfl⟩
 have Mf:mZ p n ms s 64 ([],[]) [[]]=R:=by rw[<-hR];unfold dG;simp only[Int.toNat_natCast]
 rw[hR]
 rw[H6 (r:=Sum.inl ((0,0),((R.1.length:Int),(n:Int)),[],R.2,R.1))
  (fun m x=>∃(S:List Wd×List Int) (q:List Wd),x=((p,(n:Int),s,ms,b),((0:Int),(0:Int)),((S.1.length:Int),(n:Int)),([]:List Int),S.2,S.1,q)/\BI p n ms.length S q/\(n - S.1.length)*ms.length+q.length<=m/\m<=64/\mZ p n ms s m S q=R) ?a1 64 _ ?a0 aA (cG (by omega))]
 ·simp only[bK,Option.bind,ik,Option.U]
 case a0=>
  exact⟨([],[]),[[]],rfl,⟨by simp,fun x hx=>absurd hx (by simp),Nat.zero_le _,fun w hw=>by rw[List.mem_singleton] at hw;subst hw;exact⟨fun c hc=>absurd hc (by simp),Nat.zero_le _⟩,fun w hw=>absurd hw (by simp)⟩,by
   have:n*ms.length<=12*4:=Nat.mul_le_mul hn M9
   simp only[List.length_nil,List.length_singleton,Nat.sub_zero];omega,Nat.le_refl _,Mf⟩
 case a1=>
  rintro m x ⟨S0,q0,rfl,hB0,ad5,hm,M7⟩
  dsimp only
  by_cases lN:q0.length=0
  ·left
   obtain rfl:q0=[]:=List.eq_nil_of_length_eq_zero lN
   rw[aal] at M7
   subst M7
   rw[aS (fh (by unfold aL J;simp))]
   try simp only[bq,tH,iv]
  ·right
   rw[aT (gC (by unfold aL J;omega))]
   simp only[bq,tH,iv]
   have alA:q0.length<=m:=by
    have:=Nat.le_add_left q0.length ((n - S0.1.length)*ms.length)
    omega
   generalize hL:bf aA _ _=o
   obtain⟨z,rfl,S,lg,rfl,hB,iG,bo⟩:∃z,o=some z/\∃(S:List Wd×List Int) (lg:List Wd),z=Sum.inl ((p,(n:Int),s,ms,b),((0:Int),(0:Int)),((S.1.length:Int),(n:Int)),([]:List Int),S.2,lg,S.1)/\BI p n ms.length S lg/\(n - S.1.length)*ms.length+lg.length<=m - q0.length/\mZ p n ms s (m - q0.length) S lg=R:=by
    rw[<-hL]
    refine agi q0.length (fun j x=>∃(S:List Wd×List Int) (lg:List Wd),x=(((q0.length:Int),(j:Int)),(p,(n:Int),s,ms,b),((0:Int),(0:Int)),((S.1.length:Int),(n:Int)),([]:List Int),S.2,S.1,lg,q0)/\BI p n ms.length S (q0.drop j++lg)/\(n - S.1.length)*ms.length+(q0.drop j++lg).length<=m - j/\mZ p n ms s (m - j) S (q0.drop j++lg)=R) _ ?_ ?_
     ⟨S0,[],rfl,by rw[List.drop_zero,List.append_nil];exact hB0,by rw[List.drop_zero,List.append_nil];exact ad5,by rw[List.drop_zero,List.append_nil];exact M7⟩ (cG (by omega))
    ·rintro j x hj ⟨S,lg,rfl,hB,iG,bo⟩
     dsimp only
     rw[aT (gC (by omega))]
     obtain⟨w,Ww⟩:∃w,q0[j]? =some w:=⟨_,List.getElem?_eq_getElem hj⟩
     rw[drop_cons Ww] at hB iG bo
     rw[List.cons_append] at hB iG bo
     obtain⟨m',bE⟩:∃k,m - j=k+1:=⟨m - j - 1,by omega⟩
     have iF:m - (j+1)=m':=by omega
     rw[bE] at iG bo
     rw[iF]
     simp only[List.length_cons] at iG
     have hw:=hB.qo w (by simp)
     have kR:=hB.kn
     obtain⟨k1,k2,k3,k4,k5⟩:=Oo H hB
     have hb:S.1.length*n<=12*12:=Nat.mul_le_mul (by omega) hn
     have tY:=(IA (n:=n) (ms:=ms) hp w s H.al H.ap).1
     rw[show dT (j:Int) (J q0)=some j from zr (by unfold J;omega)]
     simp only[iv,jT]
     rw[show dg q0 j=some w from Ww]
     simp only[iv]
     rw[show rR ((p,(n:Int),s,ms,b),w)=some (dS p n ms s w) by
      simp only[rR]
      rw[if_pos ⟨xi H,hw.1,show w.length<=1048576 by omega⟩]
      simp only[Int.toNat_natCast]]
     simp only[iv,ik]
     rw[show mh S.2=some S.2 from if_pos (by rw[hB.dl];omega)]
     simp only[iv,bq,ik]
     rw[lK (by simp only[aE,J];rw[hB.dl,tY];omega)]
     simp only[iv]
     rw[show bg (cm S.2 (dS p n ms s w)) 0 (aE (J S.2) (J (dS p n ms s w)))=some (S.2++dS p n ms s w) from wO (by simp[cm,aE,J])]
     simp only[iv]
     rw[jS (by omega) (by omega),show(S.1.length:Int)+1=((S.1.length+1:Nat):Int) by push_cast;rfl]
     rw[show u5 (p,((S.1.length+1:Nat):Int),(n:Int),S.2++dS p n ms s w)=_ from if_pos k1]
     simp only[iv,bq,tH]
     rw[show aL (J (nE (p,((S.1.length+1:Nat):Int),(n:Int),S.2++dS p n ms s w)).2.1)=((uF p n (S.1.length+1) (S.2++dS p n ms s w):Nat):Int) from rfl]
     have aly:lg.length<=64:=by
      have:=Nat.le_add_left ((q0.drop (j+1)++lg).length+1) ((n - S.1.length)*ms.length)
      rw[List.length_append] at this iG
      omega
     by_cases ha:xd p n ms s S w=true
     ·have hk:=of_decide_eq_true ha
      obtain⟨Ha,MK⟩:=BI.Tz H hB ha
      rw[Tt ha] at bo
      rw[aS (Dr (by omega))]
      rw[show ae 0 1 (J [w])=some () from rfl]
      simp only[iv,G4]
      rw[lK (by simp only[aE,J,List.length_singleton];omega)]
      simp only[iv]
      rw[show ae 0 (aE (J S.2) (J (dS p n ms s w))) (J (cm S.2 (dS p n ms s w)))=some () from qU (by simp[cm,aE,J])]
      simp only[iv]
      have MT:=XW MK iG
      rw[List.append_assoc] at Ha bo
      rw[dP (r:=Sum.inl (((j:Int),(q0.length:Int)),(p,(n:Int),s,ms,b),((0:Int),(0:Int)),(((S.1.length+1:Nat):Int),(n:Int)),([]:List Int),S.2++dS p n ms s w,S.1++[w],lg++j4 ms.length w,q0)) (fun x=>((w,(q0.length:Int),(j:Int),(ms.length:Int),(x:Int)),(p,(n:Int),s,ms,b),((0:Int),(0:Int)),(((S.1.length+1:Nat):Int),(n:Int)),([]:List Int),S.2++dS p n ms s w,S.1++[w],lg++j4 x w,q0)) ms.length ?c1 ?c2 ?c3 (cG (by omega))]
      case c1=>
       intro x hx
       dsimp only
       rw[aT (gC (by omega))]
       rw[show mh w=some w from if_pos (by omega)]
       simp only[iv,bq]
       rw[show bg [(x:Int)] 0 1=some [(x:Int)] from rfl]
       simp only[iv]
       rw[lK (by simp only[aE,J,List.length_singleton];omega)]
       simp only[iv]
       rw[show ci (cm w [(x:Int)]) (aE (J w) (J [(x:Int)]))=some (w++[(x:Int)]) from ZZ (by simp[cm,aE,J])]
       simp only[iv]
       rw[show ae 0 1 (J [w++[(x:Int)]])=some () from rfl]
       simp only[iv,G4,tH]
       rw[lK (by simp only[aE,J,List.length_singleton,List.length_append,HV];omega)]
       simp only[iv]
       rw[jS (by omega) (by omega)]
       rw[show cm (lg++j4 x w) [w++[(x:Int)]]=lg++j4 (x+1) w by unfold cm;rw[List.append_assoc,Xj]]
       rfl
      case c2=>
       dsimp only
       rw[aS (fh (by omega))]
       try simp only[iv,bq,tH]
      case c3=>simp[cm,j4,aL,J]
      simp only[bK,Option.bind,bq,tH,iv]
      rw[jS (by omega) (by omega)]
      refine⟨_,rfl,(S.1++[w],S.2++dS p n ms s w),lg++j4 ms.length w,?_,Ha,?_,bo⟩
      ·dsimp only
       rw[List.length_append,List.length_singleton]
       rfl
      ·dsimp only
       rw[List.length_append,List.length_singleton,<-List.append_assoc,List.length_append (bs:=j4 ms.length w),HV]
       exact MT
     ·have hk:¬(uF p n (S.1.length+1) (S.2++dS p n ms s w)=S.1.length+1):=fun h=>ha (decide_eq_true h)
      rw[Ts ha] at bo
      rw[aT (uv (by omega))]
      simp only[bK,Option.bind,bq,tH,iv]
      rw[jS (by omega) (by omega)]
      exact⟨_,rfl,S,lg,rfl,hB.no,by omega,bo⟩
    ·rintro x ⟨S,lg,rfl,hB,iG,bo⟩
     dsimp only
     rw[List.drop_length,List.nil_append] at hB iG bo
     rw[aS (fh (by omega))]
     try simp only[bq,tH,iv]
     exact⟨_,rfl,S,lg,rfl,hB,iG,bo⟩
   simp only[bK,Option.bind]
   exact⟨m - q0.length,_,by omega,rfl,S,lg,rfl,hB,iG,by omega,bo⟩
end
theorem ac3 (x:dj) (z:List (List Int)×Int×Int×List Int) (h:za x=some z):ET aA x=some z:=by
 have ho:gG x=true:=by
  unfold za wu at h
  split at h
  ·assumption
  ·cases h
 obtain⟨p,n,s,ms,b,rfl,H⟩:=tu ho
 rw[adj H]
 exact h
end Go.Am
end
section
namespace Go.Am
def fE (k:Nat) (R T:bL):bL:=fun j i=>if i<k then R i j else T (i - k) j
def ii (p:Int) (n k t:Nat) (R T:bL):bL:=fun i q=>(nE (p,(n:Int),((k+t:Nat):Int),ai n (k+t) (fE k R T))).1 q (k+i)
def Bq (x:Int×c7×c7):Prop:=di x.1/\(0<=x.2.1.1/\x.2.1.1<=x.2.1.2.1/\x.2.1.2.1<=12)/\(0<=x.2.2.1/\x.2.2.1<=12)/\x.2.2.2.1=x.2.1.2.1/\(x.2.1.2.2.length=x.2.1.1.toNat*x.2.1.2.1.toNat/\x.2.2.2.2.length=x.2.2.1.toNat*x.2.1.2.1.toNat)/\fw x.1 x.2.1.2.2/\fw x.1 x.2.2.2.2
instance (x:Int×c7×c7):Decidable (Bq x):=by unfold Bq;infer_instance
def sY (x:Int×c7×c7):Option c7:=if Bq x then some (x.2.2.1,x.2.1.1,ai x.2.2.1.toNat x.2.1.1.toNat (ii x.1 x.2.1.2.1.toNat x.2.1.1.toNat x.2.2.1.toNat (bu x.2.1.2.1.toNat x.2.1.2.2) (bu x.2.1.2.1.toNat x.2.2.2.2))) else none
def wU:Int×c7×c7->Option c7:=sY
def wZ:Int×c7×c7->Option c7:=sY
def Fm:ao:=[(.one,[.int .i64]),(.agg,[.int .i64,.int .i64,.list [.int .i64]]),(.agg,[.int .i64,.int .i64,.list [.int .i64]])]
def Qn:ao:=[(.agg,[.int .i64,.int .i64,.list [.int .i64]])]
def agI:aW:=[]
def JO (NN:Nat):(Int×((Int×(Int×(List Int)))×(Int×(Int×(List Int)))))->(Option (Int×(Int×(List Int)))):=
 (fun((i0,(i1,i2,l3),i4,i5,l6):(Int×((Int×(Int×(List Int)))×(Int×(Int×(List Int))))))=>
 (rI (i2,aM .i64 i1 i4)).U (fun(i7,i8,l9)=>
 bK ((ae 0 0 (J (([]:List Int)))).U (fun _=>
 (ae 0 (J l9) (J l9)).U (fun _=>
 bf NN (fun(((bS,bZ),(cq,cO,c8),(fV,ed,bB),(dX,cX),(eG,eQ),cV,dD):((Int×Int)×((Int×(Int×(List Int)))×((Int×(Int×(List Int)))×((Int×Int)×((Int×Int)×((List Int)×(List Int))))))))=>
 aw (bc bZ cO)
 (bK (bK ((ae 0 (J cV) (J cV)).U (fun _=>
 (ae 0 (J dD) (J dD)).U (fun _=>
 bf NN (fun(((eH,jC,jD),(fe,fK,dR),(hH,eU,eg),(jE,hJ),(gM,gm),dt,dN):((Int×(Int×Int))×((Int×(Int×(List Int)))×((Int×(Int×(List Int)))×((Int×Int)×((Int×Int)×((List Int)×(List Int))))))))=>
 aw (bc jD fe)
 ((jq ((fe,fK,dR),jD,jC)).U (fun kv=>
 (ae 0 (J dN) (J dN)).U (fun _=>
 (m6 ((gM,gm,dN),jC,jD,kv)).U (fun fg=>
 (ae 0 (J dt) (J dt)).U (fun _=>
 (ae 0 (J dN) (J fg)).U (fun _=>
 some (Sum.inl ((eH,jC,aM .i64 jD 1),(fe,fK,dR),(hH,eU,eg),(jE,hJ),(gM,gm),dt,fg))))))))
 (((ae 0 (J dt) (J dt)).U (fun _=>
 (ae 0 (J dN) (J dN)).U (fun _=>
 some (Sum.inl ((eH,jC),(fe,fK,dR),(hH,eU,eg),(jE,hJ),(gM,gm),dt,dN))))).U (fun la=>
 some (Sum.inr la))))
 ((bS,bZ,(0:Int)),(cq,cO,c8),(fV,ed,bB),(dX,cX),(eG,eQ),cV,dD))))
 (fun((kw,fq),(fY,hY,f8),(j3,kx,eW),(kU,jF),(kV,ky),ek,dO)=>
 (ae 0 (J ek) (J ek)).U (fun _=>
 (ae 0 (J dO) (J dO)).U (fun _=>
 bf NN (fun(((ug,jh,iK),(o9,lS,lY),(jG,kz,jl),(sD,qe),(lT,nr),mM,iO):((Int×(Int×Int))×((Int×(Int×(List Int)))×((Int×(Int×(List Int)))×((Int×Int)×((Int×Int)×((List Int)×(List Int))))))))=>
 aw (bc iK jG)
 ((jq ((jG,kz,jl),iK,jh)).U (fun rl=>
 (ae 0 (J iO) (J iO)).U (fun _=>
 (m6 ((lT,nr,iO),jh,aM .i64 o9 iK,rl)).U (fun oh=>
 (ae 0 (J mM) (J mM)).U (fun _=>
 (ae 0 (J iO) (J oh)).U (fun _=>
 some (Sum.inl ((ug,jh,aM .i64 iK 1),(o9,lS,lY),(jG,kz,jl),(sD,qe),(lT,nr),mM,oh))))))))
 (((ae 0 (J mM) (J mM)).U (fun _=>
 (ae 0 (J iO) (J iO)).U (fun _=>
 some (Sum.inl ((jh,ug),(o9,lS,lY),(jG,kz,jl),(sD,qe),(lT,nr),mM,iO))))).U (fun nA=>
 some (Sum.inr nA))))
 ((kw,fq,(0:Int)),(fY,hY,f8),(j3,kx,eW),(kU,jF),(kV,ky),ek,dO)))))
 (fun((ui,sE),(jH,jI,N6),(hZ,ji,iQ),(pd,Aj),(nt,nu),nB,Dq)=>
 (ae 0 (J nB) (J nB)).U (fun _=>
 (ae 0 (J Dq) (J Dq)).U (fun _=>
 some (Sum.inl ((sE,aM .i64 ui 1),(jH,jI,N6),(hZ,ji,iQ),(pd,Aj),(nt,nu),nB,Dq))))))
 (((ae 0 (J cV) (J cV)).U (fun _=>
 (ae 0 (J dD) (J dD)).U (fun _=>
 some (Sum.inl (bS,(cq,cO,c8),(fV,ed,bB),(dX,cX),(eG,eQ),cV,dD))))).U (fun j8=>
 some (Sum.inr j8))))
 ((i0,(0:Int)),(i1,i2,l3),(i4,i5,l6),((0:Int),(0:Int)),(i7,i8),([]:List Int),l9))))
 (fun(C9,(x6,Da,mN),(pf,uj,l95),(rn,Db),(uk,rp),qi,Ar)=>
 (bg Ar 0 (J Ar)).U (fun Dj=>
 (uW (C9,uk,rp,Dj)).U (fun((lQ,rk,kZ),jL)=>
 (rI (pf,x6)).U (fun(WE,Nk,yf)=>
 bK ((ae 0 (J qi) (J qi)).U (fun _=>
 (ae 0 (J kZ) (J kZ)).U (fun _=>
 (ae 0 (J yf) (J yf)).U (fun _=>
 bf NN (fun((qc,(sB,xW,As),(HE,C6,uq),(xX,Af),(aex,HG),(C7,HH),vZ,NX,Au):(Int×((Int×(Int×(List Int)))×((Int×(Int×(List Int)))×((Int×Int)×((Int×Int)×((Int×Int)×((List Int)×((List Int)×(List Int))))))))))=>
 aw (bc qc HE)
 (bK ((ae 0 (J vZ) (J vZ)).U (fun _=>
 (ae 0 (J NX) (J NX)).U (fun _=>
 (ae 0 (J Au) (J Au)).U (fun _=>
 bf NN (fun(((vO,ue),(Ag,WH,ur),(WI,xY,HY),(vP,C8),(Nm,Ah),(Ai,Nn),Aw,v5,yi):((Int×Int)×((Int×(Int×(List Int)))×((Int×(Int×(List Int)))×((Int×Int)×((Int×Int)×((Int×Int)×((List Int)×((List Int)×(List Int))))))))))=>
 aw (bc ue Ag)
 ((bg v5 0 (J v5)).U (fun af6=>
 (jq ((Nm,Ah,af6),ue,aM .i64 Ag vO)).U (fun HJ=>
 (ae 0 (J yi) (J yi)).U (fun _=>
 (m6 ((Ai,Nn,yi),vO,ue,HJ)).U (fun Xo=>
 (ae 0 (J Aw) (J Aw)).U (fun _=>
 (ae 0 (J v5) (J v5)).U (fun _=>
 (ae 0 (J yi) (J Xo)).U (fun _=>
 some (Sum.inl ((vO,aM .i64 ue 1),(Ag,WH,ur),(WI,xY,HY),(vP,C8),(Nm,Ah),(Ai,Nn),Aw,v5,Xo))))))))))
 (((ae 0 (J Aw) (J Aw)).U (fun _=>
 (ae 0 (J v5) (J v5)).U (fun _=>
 (ae 0 (J yi) (J yi)).U (fun _=>
 some (Sum.inl (vO,(Ag,WH,ur),(WI,xY,HY),(vP,C8),(Nm,Ah),(Ai,Nn),Aw,v5,yi)))))).U (fun af7=>
 some (Sum.inr af7))))
 ((qc,(0:Int)),(sB,xW,As),(HE,C6,uq),(xX,Af),(aex,HG),(C7,HH),vZ,NX,Au)))))
 (fun(HK,(aez,aeA,sL),(aeB,aeC,af8),(aeD,WQ),(aeE,Nq),(Nr,Ns),Dm,NY,NZ)=>
 (ae 0 (J Dm) (J Dm)).U (fun _=>
 (ae 0 (J NY) (J NY)).U (fun _=>
 (ae 0 (J NZ) (J NZ)).U (fun _=>
 some (Sum.inl (aM .i64 HK 1,(aez,aeA,sL),(aeB,aeC,af8),(aeD,WQ),(aeE,Nq),(Nr,Ns),Dm,NY,NZ)))))))
 (((ae 0 (J vZ) (J vZ)).U (fun _=>
 (ae 0 (J Au) (J Au)).U (fun _=>
 some (Sum.inl ((xX,Af),(C7,HH),vZ,Au))))).U (fun N0=>
 some (Sum.inr N0))))
 ((0:Int),(x6,Da,mN),(pf,uj,l95),(rn,Db),(lQ,rk),(WE,Nk),qi,kZ,yf)))))
 (fun((WR,WS),(Nt,Nu),alJ,Xp)=>
 (ci Xp (J Xp)).U (fun aga=>
 some (Nt,Nu,aga)))))))))
theorem Zq {x:Int×c7×c7} (h:Bq x):∃(p:Int) (k n t:Nat) (R T:bL),x=(p,((k:Int),(n:Int),ai k n R),((t:Int),(n:Int),ai t n T))/\di p/\k<=n/\n<=12/\t<=12/\cY p k n R/\cY p t n T/\
  sY x=some ((t:Int),(k:Int),ai t k (ii p n k t R T)):=by
 have hx:=h
 obtain⟨p,⟨k,n,Rd⟩,t,n',Td⟩:=x
 obtain⟨h1,⟨h2,h3,h4⟩,⟨h5,h6⟩,h7,⟨h8,h9⟩,VJ,VK⟩:=h
 dsimp only at h1 h2 h3 h4 h5 h6 h7 h8 h9 VJ VK
 subst h7
 obtain⟨k,rfl⟩:=jn h2
 obtain⟨n,rfl⟩:=jn (show 0<=n' by omega)
 obtain⟨t,rfl⟩:=jn h5
 simp only[Int.toNat_natCast] at h8 h9
 refine⟨p,k,n,t,bu n Rd,bu n Td,by rw[pT h8,pT h9],h1,by omega,by omega,by omega,rv h8 VJ,rv h9 VK,?_⟩
 unfold sY
 rw[if_pos hx]
 simp only[Int.toNat_natCast]
theorem Tv {p:Int} {k n t:Nat} {R T:bL} (hR:cY p k n R) (hT:cY p t n T):cY p n (k+t) (fE k R T):=by
 intro j hj i hi
 unfold fE
 split
 ·rename_i h;exact hR i h j hj
 ·exact hT (i - k) (by omega) j hj
theorem Il {r c:Nat} {W:bL} {i j:Nat} {x:Int} (h:W i j=x):ai r c (kf (eB W i j) i j x)=ai r c (eB W i (j+1)):=by rw[<-h];exact Px W i j
theorem YI {p:Int} {n c:Nat} {W:bL} (hp:di p) (hn:n<=12) (hc:c<=24) (hW:cY p n c W):yz (p,(n:Int),(c:Int),ai n c W):=by
 have h1:n*c<=12*24:=Nat.mul_le_mul hn hc
 refine⟨hp,⟨⟨by dsimp only;omega,by dsimp only;omega⟩,⟨by dsimp only;omega,by dsimp only;omega⟩,by dsimp only;rw[jz];push_cast;rfl,by dsimp only;rw[jz];omega⟩,jU.2 hW⟩
theorem aN {α β:Type} (x:α) (f:α->Option β):(some x).U f=f x:=by
 have h:∀o:Option α,o=some x->o.U f=f x:=by intro o h;subst h;rfl
 exact h _ rfl
theorem acu (x:Int×c7×c7) (z:c7) (h:wU x=some z):JO aA x=some z:=by
 have ho:Bq x:=by
  unfold wU sY at h
  split at h
  ·assumption
  ·cases h
 obtain⟨p,k,n,t,R,T,rfl,hp,kR,hn,ht,hR,hT,hs⟩:=Zq ho
 rw[show wU (p,((k:Int),(n:Int),ai k n R),((t:Int),(n:Int),ai t n T))=sY _ from rfl,hs] at h
 rw[<-h]
 have b1:k*n<=12*12:=Nat.mul_le_mul (by omega) hn
 have b2:t*n<=12*12:=Nat.mul_le_mul ht hn
 have b3:n*(k+t)<=12*24:=Nat.mul_le_mul hn (by omega)
 have b4:t*k<=12*12:=Nat.mul_le_mul ht (by omega)
 simp only[JO]
 rw[zg (by omega),Dy (by omega) (by omega) (by omega)]
 simp only[aN,bq]
 try rw[show ae 0 0 (J ([]:List Int))=some () from rfl]
 try simp only[aN]
 rw[dP (r:=Sum.inl (p,((k:Int),(n:Int),ai k n R),((t:Int),(n:Int),ai t n T),((0:Int),(0:Int)),((n:Int),((k+t:Nat):Int)),([]:List Int),ai n (k+t) (fE k R T)))
  (fun j=>((p,(j:Int)),((k:Int),(n:Int),ai k n R),((t:Int),(n:Int),ai t n T),((0:Int),(0:Int)),((n:Int),((k+t:Nat):Int)),([]:List Int),ai n (k+t) (eB (fE k R T) j 0))) n ?a1 ?a2 ?a3 (cG (by omega))]
 case a2=>
  dsimp only
  rw[aS (eA (Nat.le_refl n)),AM]
  try simp only[bq,aN]
 case a3=>simp only[AL];rfl
 case a1=>
  intro j hj
  dsimp only
  rw[aT (dY hj)]
  try simp only[bq,aN]
  rw[dP (r:=Sum.inl ((p,(j:Int)),((k:Int),(n:Int),ai k n R),((t:Int),(n:Int),ai t n T),((0:Int),(0:Int)),((n:Int),((k+t:Nat):Int)),([]:List Int),ai n (k+t) (eB (fE k R T) j k)))
   (fun i=>((p,(j:Int),(i:Int)),((k:Int),(n:Int),ai k n R),((t:Int),(n:Int),ai t n T),((0:Int),(0:Int)),((n:Int),((k+t:Nat):Int)),([]:List Int),ai n (k+t) (eB (fE k R T) j i))) k ?b1 ?b2 ?b3 (cG (by omega))]
  case b2=>
   dsimp only
   rw[aS (eA (Nat.le_refl k))]
   try simp only[bq,aN]
  case b3=>rfl
  case b1=>
   intro i hi
   dsimp only
   rw[aT (dY hi),mq (by omega) (by omega) (by omega) hi hj]
   try simp only[bq,aN]
   rw[sW (by omega) (by omega) (by omega) hj (show i<k+t by omega)]
   simp only[jW,aN,dI (show i<=1048577 by omega)]
   rw[Il (show fE k R T j i=R i j by unfold fE;rw[if_pos hi])]
  rw[cK]
  dsimp only
  try simp only[bq,aN]
  rw[dP (r:=Sum.inl (((j:Int),p),((k:Int),(n:Int),ai k n R),((t:Int),(n:Int),ai t n T),((0:Int),(0:Int)),((n:Int),((k+t:Nat):Int)),([]:List Int),ai n (k+t) (eB (fE k R T) j (k+t))))
   (fun i=>((p,(j:Int),(i:Int)),((k:Int),(n:Int),ai k n R),((t:Int),(n:Int),ai t n T),((0:Int),(0:Int)),((n:Int),((k+t:Nat):Int)),([]:List Int),ai n (k+t) (eB (fE k R T) j (k+i)))) t ?c1 ?c2 ?c3 (cG (by omega))]
  case c2=>
   dsimp only
   rw[aS (eA (Nat.le_refl t))]
   try simp only[bq,aN]
  case c3=>rfl
  case c1=>
   intro i hi
   dsimp only
   rw[aT (dY hi),mq (by omega) (by omega) (by omega) hi hj]
   try simp only[bq,aN]
   rw[zg (by omega),sW (by omega) (by omega) (by omega) hj (show k+i<k+t by omega)]
   simp only[jW,aN,dI (show i<=1048577 by omega)]
   rw[Il (show fE k R T j (k+i)=T i j by unfold fE;rw[if_neg (by omega),Nat.add_sub_cancel_left])]
   rfl
  rw[cK]
  dsimp only
  try simp only[bq,aN]
  rw[dI (show j<=1048577 by omega),AO]
 rw[cK]
 dsimp only
 simp only[ik,aN]
 rw[show uW (p,(n:Int),((k+t:Nat):Int),ai n (k+t) (fE k R T))=_ from if_pos (YI hp hn (by omega) (Tv hR hT))]
 simp only[aN,Int.toNat_natCast]
 rw[Dy (by omega) (by omega) (by omega)]
 simp only[aN,bq]
 try rw[show ae 0 0 (J ([]:List Int))=some () from rfl]
 try simp only[aN]
 obtain⟨Q,hQ⟩:∃Q,(nE (p,(n:Int),((k+t:Nat):Int),ai n (k+t) (fE k R T))).1=Q:=⟨_,rfl⟩
 have hX:∀i q,ii p n k t R T i q=Q q (k+i):=fun i q=>by unfold ii;rw[hQ]
 rw[hQ]
 rw[dP (r:=Sum.inl (((0:Int),(0:Int)),((t:Int),(k:Int)),([]:List Int),ai t k (ii p n k t R T)))
  (fun i=>((i:Int),((k:Int),(n:Int),ai k n R),((t:Int),(n:Int),ai t n T),((0:Int),(0:Int)),((n:Int),((k+t:Nat):Int)),((t:Int),(k:Int)),([]:List Int),ai n (k+t) Q,ai t k (eB (ii p n k t R T) i 0))) t ?d1 ?d2 ?d3 (cG (by omega))]
 case d2=>
  dsimp only
  rw[aS (eA (Nat.le_refl t)),AM]
  try simp only[bq,aN]
  try rfl
 case d3=>simp only[AL];rfl
 case d1=>
  intro i hi
  dsimp only
  rw[aT (dY hi)]
  try simp only[bq,aN]
  try rw[show ae 0 0 (J ([]:List Int))=some () from rfl]
  try simp only[aN]
  rw[dP (r:=Sum.inl ((i:Int),((k:Int),(n:Int),ai k n R),((t:Int),(n:Int),ai t n T),((0:Int),(0:Int)),((n:Int),((k+t:Nat):Int)),((t:Int),(k:Int)),([]:List Int),ai n (k+t) Q,ai t k (eB (ii p n k t R T) i k)))
   (fun q=>(((i:Int),(q:Int)),((k:Int),(n:Int),ai k n R),((t:Int),(n:Int),ai t n T),((0:Int),(0:Int)),((n:Int),((k+t:Nat):Int)),((t:Int),(k:Int)),([]:List Int),ai n (k+t) Q,ai t k (eB (ii p n k t R T) i q))) k ?e1 ?e2 ?e3 (cG (by omega))]
  case e2=>
   dsimp only
   rw[aS (eA (Nat.le_refl k))]
   try simp only[bq,aN]
   try rfl
  case e3=>rfl
  case e1=>
   intro q hq
   dsimp only
   rw[aT (dY hq)]
   try simp only[aN]
   rw[zg (by omega),mq (by omega) (by omega) (by omega) (show q<n by omega) (show k+i<k+t by omega)]
   try simp only[bq,aN]
   rw[sW (by omega) (by omega) (by omega) hi hq]
   simp only[jW,aN,dI (show q<=1048577 by omega)]
   rw[Il (hX i q)]
   try rfl
  rw[cK]
  dsimp only
  try simp only[bq,aN]
  rw[dI (show i<=1048577 by omega),AO]
  try rfl
 rw[cK]
 dsimp only
 rw[show ci (ai t k (ii p n k t R T)) (J (ai t k (ii p n k t R T)))=some (ai t k (ii p n k t R T)) by unfold ci J;rw[if_pos (Nat.le_refl _),List.take_length]]
 rfl
end Go.Am
end
section
namespace Go.Am
def F7:ao:=[(.one,[.int .i64]),(.agg,[.int .i64,.int .i64,.list [.int .i64]]),(.agg,[.int .i64,.int .i64,.list [.int .i64]])]
def Q3:ao:=[(.agg,[.int .i64,.int .i64,.list [.int .i64]])]
def ahj:aW:=[]
def Kh (NN:Nat):(Int×((Int×(Int×(List Int)))×(Int×(Int×(List Int)))))->(Option (Int×(Int×(List Int)))):=
 (fun((i0,(i1,i2,l3),i4,i5,l6):(Int×((Int×(Int×(List Int)))×(Int×(Int×(List Int))))))=>
 (rP (i2,aM .i64 i1 i4)).U (fun(i7,i8,l9)=>
 bK ((ae 0 0 (J (([]:List Int)))).U (fun _=>
 (ae 0 (J l9) (J l9)).U (fun _=>
 bf NN (fun(((bS,bZ),(cq,cO,c8),(fV,ed,bB),(dX,cX),(eG,eQ),cV,dD):((Int×Int)×((Int×(Int×(List Int)))×((Int×(Int×(List Int)))×((Int×Int)×((Int×Int)×((List Int)×(List Int))))))))=>
 aw (bc bZ cO)
 (bK (bK ((ae 0 (J cV) (J cV)).U (fun _=>
 (ae 0 (J dD) (J dD)).U (fun _=>
 bf NN (fun(((eH,jC,jD),(fe,fK,dR),(hH,eU,eg),(jE,hJ),(gM,gm),dt,dN):((Int×(Int×Int))×((Int×(Int×(List Int)))×((Int×(Int×(List Int)))×((Int×Int)×((Int×Int)×((List Int)×(List Int))))))))=>
 aw (bc jD fe)
 ((dz dR (aM .i64 (cz .i64 jD fK) jC)).U (fun kv=>
 (dT (aM .i64 (cz .i64 jC gm) jD) (J dN)).U (fun NM=>
 (dg dN (aE 0 NM)).U (fun kT=>
 (ae 0 (J dt) (J dt)).U (fun _=>
 (ae 0 (J dN) (J (bI dN (aE 0 NM) kv))).U (fun _=>
 some (Sum.inl ((eH,jC,aM .i64 jD 1),(fe,fK,dR),(hH,eU,eg),(jE,hJ),(gM,gm),dt,bI dN (aE 0 NM) kv))))))))
 (((ae 0 (J dt) (J dt)).U (fun _=>
 (ae 0 (J dN) (J dN)).U (fun _=>
 some (Sum.inl ((eH,jC),(fe,fK,dR),(hH,eU,eg),(jE,hJ),(gM,gm),dt,dN))))).U (fun pi=>
 some (Sum.inr pi))))
 ((bS,bZ,(0:Int)),(cq,cO,c8),(fV,ed,bB),(dX,cX),(eG,eQ),cV,dD))))
 (fun((fq,fY),(hY,qd,ic),(kx,sC,iB),(jF,kV),(ky,uf),dO,j7)=>
 (ae 0 (J dO) (J dO)).U (fun _=>
 (ae 0 (J j7) (J j7)).U (fun _=>
 bf NN (fun(((jh,iK,o9),(lS,mH,pk),(kz,i64,lZ),(qe,lT),(nr,qf),iO,ma):((Int×(Int×Int))×((Int×(Int×(List Int)))×((Int×(Int×(List Int)))×((Int×Int)×((Int×Int)×((List Int)×(List Int))))))))=>
 aw (bc o9 kz)
 ((dz lZ (aM .i64 (cz .i64 o9 i64) iK)).U (fun rm=>
 (dT (aM .i64 (aM .i64 (cz .i64 iK qf) lS) o9) (J ma)).U (fun NP=>
 (dg ma (aE 0 NP)).U (fun ui=>
 (ae 0 (J iO) (J iO)).U (fun _=>
 (ae 0 (J ma) (J (bI ma (aE 0 NP) rm))).U (fun _=>
 some (Sum.inl ((jh,iK,aM .i64 o9 1),(lS,mH,pk),(kz,i64,lZ),(qe,lT),(nr,qf),iO,bI ma (aE 0 NP) rm))))))))
 (((ae 0 (J iO) (J iO)).U (fun _=>
 (ae 0 (J ma) (J ma)).U (fun _=>
 some (Sum.inl ((iK,jh),(lS,mH,pk),(kz,i64,lZ),(qe,lT),(nr,qf),iO,ma))))).U (fun iP=>
 some (Sum.inr iP))))
 ((fq,fY,(0:Int)),(hY,qd,ic),(kx,sC,iB),(jF,kV),(ky,uf),dO,j7)))))
 (fun((jH,jI),(jJ,hZ,Az),(sF,pd,gO),(nt,nu),(vQ,lU),j8,gA)=>
 (ae 0 (J j8) (J j8)).U (fun _=>
 (ae 0 (J gA) (J gA)).U (fun _=>
 some (Sum.inl ((jI,aM .i64 jH 1),(jJ,hZ,Az),(sF,pd,gO),(nt,nu),(vQ,lU),j8,gA))))))
 (((ae 0 (J cV) (J cV)).U (fun _=>
 (ae 0 (J dD) (J dD)).U (fun _=>
 some (Sum.inl (bS,(cq,cO,c8),(fV,ed,bB),(dX,cX),(eG,eQ),cV,dD))))).U (fun gP=>
 some (Sum.inr gP))))
 ((i0,(0:Int)),(i1,i2,l3),(i4,i5,l6),((0:Int),(0:Int)),(i7,i8),([]:List Int),l9))))
 (fun(Da,(vS,pf,sN),(nv,rn,po),(uk,rp),(Ac,ud),Dj,Dk)=>
 (bg Dk 0 (J Dk)).U (fun HW=>
 (u5 (Da,Ac,ud,HW)).U (fun((C5,aev,iM),ph,Ad)=>
 (rP (nv,vS)).U (fun(qc,sB,Dl)=>
 bK ((ae 0 (J Dj) (J Dj)).U (fun _=>
 (ae 0 (J Dk) (J Dk)).U (fun _=>
 (ae 0 (J iM) (J iM)).U (fun _=>
 (ae 0 (J Dl) (J Dl)).U (fun _=>
 bf NN (fun((Ae,(HE,C6,uq),(xX,Af,yh),(HG,C7),(HH,aey),(Nl,WG),(vO,ue),Av,HX,ur,uu):(Int×((Int×(Int×(List Int)))×((Int×(Int×(List Int)))×((Int×Int)×((Int×Int)×((Int×Int)×((Int×Int)×((List Int)×((List Int)×((List Int)×(List Int))))))))))))=>
 aw (bc Ae xX)
 (bK ((ae 0 (J Av) (J Av)).U (fun _=>
 (ae 0 (J HX) (J HX)).U (fun _=>
 (ae 0 (J ur) (J ur)).U (fun _=>
 (ae 0 (J uu) (J uu)).U (fun _=>
 bf NN (fun(((xY,HI),(vP,C8,Xm),(Ah,Ai,Xn),(WJ,WK),(WL,Np),(HJ,WM),(WN,HK),Ax,Ay,sL,v7):((Int×Int)×((Int×(Int×(List Int)))×((Int×(Int×(List Int)))×((Int×Int)×((Int×Int)×((Int×Int)×((Int×Int)×((List Int)×((List Int)×((List Int)×(List Int))))))))))))=>
 aw (bc HI vP)
 ((dT (aM .i64 (aM .i64 (cz .i64 HI Np) vP) xY) (J sL)).U (fun ae0=>
 (dg sL (aE 0 ae0)).U (fun WO=>
 (dT (aM .i64 (cz .i64 xY vP) HI) (J v7)).U (fun NJ=>
 (dg v7 (aE 0 NJ)).U (fun WQ=>
 (ae 0 (J Ax) (J Ax)).U (fun _=>
 (ae 0 (J Ay) (J Ay)).U (fun _=>
 (ae 0 (J sL) (J sL)).U (fun _=>
 (ae 0 (J v7) (J (bI v7 (aE 0 NJ) WO))).U (fun _=>
 some (Sum.inl ((xY,aM .i64 HI 1),(vP,C8,Xm),(Ah,Ai,Xn),(WJ,WK),(WL,Np),(HJ,WM),(WN,HK),Ax,Ay,sL,bI v7 (aE 0 NJ) WO)))))))))))
 (((ae 0 (J Ax) (J Ax)).U (fun _=>
 (ae 0 (J Ay) (J Ay)).U (fun _=>
 (ae 0 (J sL) (J sL)).U (fun _=>
 (ae 0 (J v7) (J v7)).U (fun _=>
 some (Sum.inl (xY,(vP,C8,Xm),(Ah,Ai,Xn),(WJ,WK),(WL,Np),(HJ,WM),(WN,HK),Ax,Ay,sL,v7))))))).U (fun af9=>
 some (Sum.inr af9))))
 ((Ae,(0:Int)),(HE,C6,uq),(xX,Af,yh),(HG,C7),(HH,aey),(Nl,WG),(vO,ue),Av,HX,ur,uu))))))
 (fun(Nq,(Nr,Ns,Dm),(aeF,aeG,N0),(WR,WS),(Nt,Nu),(aeH,aeI),(aeJ,aeK),N1,N2,N3,N4)=>
 (ae 0 (J N1) (J N1)).U (fun _=>
 (ae 0 (J N2) (J N2)).U (fun _=>
 (ae 0 (J N3) (J N3)).U (fun _=>
 (ae 0 (J N4) (J N4)).U (fun _=>
 some (Sum.inl (aM .i64 Nq 1,(Nr,Ns,Dm),(aeF,aeG,N0),(WR,WS),(Nt,Nu),(aeH,aeI),(aeJ,aeK),N1,N2,N3,N4))))))))
 (((ae 0 (J Av) (J Av)).U (fun _=>
 (ae 0 (J uu) (J uu)).U (fun _=>
 some (Sum.inl ((HG,C7),(vO,ue),Av,uu))))).U (fun agb=>
 some (Sum.inr agb))))
 ((0:Int),(vS,pf,sN),(nv,rn,po),(uk,rp),(Ac,ud),(C5,aev),(qc,sB),Dj,Dk,iM,Dl))))))
 (fun((alG,alH),(aeL,aeM),alK,Xq)=>
 (ci Xq (J Xq)).U (fun agc=>
 some (aeL,aeM,agc)))))))))
theorem Ak {a b c:Nat} (ha:a<=100) (hb:b<=100) (hc:c<=100):aM .i64 (cz .i64 (a:Int) (b:Int)) (c:Int)=((a*b+c:Nat):Int):=by
 have h:a*b<=100*100:=Nat.mul_le_mul ha hb
 have e:(a:Int)*(b:Int)=((a*b:Nat):Int):=by push_cast;rfl
 rw[qp (by omega) (by omega),e,jS (by omega) (by omega)]
 push_cast;rfl
theorem Sn {r c i j:Nat} {W:bL} (hj:j<c) {x:Int} (h:W i j=x):bI (ai r c (eB W i j)) (i*c+j) x=ai r c (eB W i (j+1)):=by
 unfold bI
 rw[VG _ hj]
 exact Il h
theorem ac9 (x:Int×c7×c7) (z:c7) (h:wZ x=some z):Kh aA x=some z:=by
 have ho:Bq x:=by
  unfold wZ sY at h
  split at h
  ·assumption
  ·cases h
 obtain⟨p,k,n,t,R,T,rfl,hp,kR,hn,ht,hR,hT,hs⟩:=Zq ho
 rw[show wZ (p,((k:Int),(n:Int),ai k n R),((t:Int),(n:Int),ai t n T))=sY _ from rfl,hs] at h
 rw[<-h]
 have b1:k*n<=12*12:=Nat.mul_le_mul (by omega) hn
 have b2:t*n<=12*12:=Nat.mul_le_mul ht hn
 have b3:n*(k+t)<=12*24:=Nat.mul_le_mul hn (by omega)
 have b4:t*k<=12*12:=Nat.mul_le_mul ht (by omega)
 simp only[Kh]
 rw[zg (by omega),Dz (by omega) (by omega) (by omega)]
 simp only[aN,bq]
 rw[show ae 0 0 (J ([]:List Int))=some () from rfl]
 simp only[aN]
 rw[dP (r:=Sum.inl (p,((k:Int),(n:Int),ai k n R),((t:Int),(n:Int),ai t n T),((0:Int),(0:Int)),((n:Int),((k+t:Nat):Int)),([]:List Int),ai n (k+t) (fE k R T)))
  (fun j=>((p,(j:Int)),((k:Int),(n:Int),ai k n R),((t:Int),(n:Int),ai t n T),((0:Int),(0:Int)),((n:Int),((k+t:Nat):Int)),([]:List Int),ai n (k+t) (eB (fE k R T) j 0))) n ?a1 ?a2 ?a3 (cG (by omega))]
 case a2=>
  dsimp only
  rw[aS (eA (Nat.le_refl n)),AM]
  try simp only[bq,aN]
 case a3=>simp only[AL];rfl
 case a1=>
  intro j hj
  dsimp only
  rw[aT (dY hj)]
  try simp only[bq,aN]
  rw[dP (r:=Sum.inl ((p,(j:Int)),((k:Int),(n:Int),ai k n R),((t:Int),(n:Int),ai t n T),((0:Int),(0:Int)),((n:Int),((k+t:Nat):Int)),([]:List Int),ai n (k+t) (eB (fE k R T) j k)))
   (fun i=>((p,(j:Int),(i:Int)),((k:Int),(n:Int),ai k n R),((t:Int),(n:Int),ai t n T),((0:Int),(0:Int)),((n:Int),((k+t:Nat):Int)),([]:List Int),ai n (k+t) (eB (fE k R T) j i))) k ?b1 ?b2 ?b3 (cG (by omega))]
  case b2=>
   dsimp only
   rw[aS (eA (Nat.le_refl k))]
   try simp only[bq,aN]
  case b3=>rfl
  case b1=>
   intro i hi
   dsimp only
   rw[aT (dY hi),Ak (by omega) (by omega) (by omega),Ak (by omega) (by omega) (by omega),xA R hi hj]
   try simp only[aN]
   rw[nR _ hj (show i<k+t by omega)]
   simp only[aN,jT]
   rw[nY _ hj (show i<k+t by omega)]
   simp only[aN]
   rw[Sn (show i<k+t by omega) (show fE k R T j i=R i j by unfold fE;rw[if_pos hi])]
   try simp only[bq,aN]
   rw[jW]
   simp only[aN,dI (show i<=1048577 by omega)]
  rw[cK]
  dsimp only
  try simp only[bq,aN]
  rw[dP (r:=Sum.inl (((j:Int),p),((k:Int),(n:Int),ai k n R),((t:Int),(n:Int),ai t n T),((0:Int),(0:Int)),((n:Int),((k+t:Nat):Int)),([]:List Int),ai n (k+t) (eB (fE k R T) j (k+t))))
   (fun i=>((p,(j:Int),(i:Int)),((k:Int),(n:Int),ai k n R),((t:Int),(n:Int),ai t n T),((0:Int),(0:Int)),((n:Int),((k+t:Nat):Int)),([]:List Int),ai n (k+t) (eB (fE k R T) j (k+i)))) t ?c1 ?c2 ?c3 (cG (by omega))]
  case c2=>
   dsimp only
   rw[aS (eA (Nat.le_refl t))]
   try simp only[bq,aN]
  case c3=>rfl
  case c1=>
   intro i hi
   dsimp only
   have eI:aM .i64 (aM .i64 (cz .i64 (j:Int) ((k+t:Nat):Int)) (k:Int)) (i:Int)=((j*(k+t)+(k+i):Nat):Int):=by
    rw[Ak (by omega) (by omega) (by omega)]
    have hjj:j*(k+t)<=12*24:=Nat.mul_le_mul (by omega) (by omega)
    rw[zg (by omega),Nat.add_assoc]
   rw[aT (dY hi),eI,Ak (by omega) (by omega) (by omega),xA T hi hj]
   try simp only[aN]
   rw[nR _ hj (show k+i<k+t by omega)]
   simp only[aN,jT]
   rw[nY _ hj (show k+i<k+t by omega)]
   simp only[aN]
   rw[Sn (show k+i<k+t by omega) (show fE k R T j (k+i)=T i j by unfold fE;rw[if_neg (by omega),Nat.add_sub_cancel_left])]
   try simp only[bq,aN]
   rw[jW]
   simp only[aN,dI (show i<=1048577 by omega)]
   try rfl
  rw[cK]
  dsimp only
  try simp only[bq,aN]
  rw[dI (show j<=1048577 by omega),AO]
 rw[cK]
 dsimp only
 simp only[ik,aN]
 rw[show u5 (p,(n:Int),((k+t:Nat):Int),ai n (k+t) (fE k R T))=_ from if_pos (YI hp hn (by omega) (Tv hR hT))]
 simp only[aN,Int.toNat_natCast]
 rw[Dz (by omega) (by omega) (by omega)]
 simp only[aN,bq]
 try rw[show ae 0 0 (J ([]:List Int))=some () from rfl]
 try simp only[aN]
 obtain⟨Q,hQ⟩:∃Q,(nE (p,(n:Int),((k+t:Nat):Int),ai n (k+t) (fE k R T))).1=Q:=⟨_,rfl⟩
 have hX:∀i q,ii p n k t R T i q=Q q (k+i):=fun i q=>by unfold ii;rw[hQ]
 rw[hQ]
 rw[dP (r:=Sum.inl (((0:Int),(0:Int)),((t:Int),(k:Int)),([]:List Int),ai t k (ii p n k t R T)))
  (fun i=>((i:Int),((k:Int),(n:Int),ai k n R),((t:Int),(n:Int),ai t n T),((0:Int),(0:Int)),((n:Int),((k+t:Nat):Int)),((n:Int),((k+t:Nat):Int)),((t:Int),(k:Int)),([]:List Int),ai n (k+t) (fE k R T),ai n (k+t) Q,ai t k (eB (ii p n k t R T) i 0))) t ?d1 ?d2 ?d3 (cG (by omega))]
 case d2=>
  dsimp only
  rw[aS (eA (Nat.le_refl t)),AM]
  try simp only[bq,aN]
  try rfl
 case d3=>simp only[AL];rfl
 case d1=>
  intro i hi
  dsimp only
  rw[aT (dY hi)]
  try simp only[bq,aN]
  try rw[show ae 0 0 (J ([]:List Int))=some () from rfl]
  try simp only[aN]
  rw[dP (r:=Sum.inl ((i:Int),((k:Int),(n:Int),ai k n R),((t:Int),(n:Int),ai t n T),((0:Int),(0:Int)),((n:Int),((k+t:Nat):Int)),((n:Int),((k+t:Nat):Int)),((t:Int),(k:Int)),([]:List Int),ai n (k+t) (fE k R T),ai n (k+t) Q,ai t k (eB (ii p n k t R T) i k)))
   (fun q=>(((i:Int),(q:Int)),((k:Int),(n:Int),ai k n R),((t:Int),(n:Int),ai t n T),((0:Int),(0:Int)),((n:Int),((k+t:Nat):Int)),((n:Int),((k+t:Nat):Int)),((t:Int),(k:Int)),([]:List Int),ai n (k+t) (fE k R T),ai n (k+t) Q,ai t k (eB (ii p n k t R T) i q))) k ?e1 ?e2 ?e3 (cG (by omega))]
  case e2=>
   dsimp only
   rw[aS (eA (Nat.le_refl k))]
   try simp only[bq,aN]
   try rfl
  case e3=>rfl
  case e1=>
   intro q hq
   dsimp only
   have eI:aM .i64 (aM .i64 (cz .i64 (q:Int) ((k+t:Nat):Int)) (k:Int)) (i:Int)=((q*(k+t)+(k+i):Nat):Int):=by
    rw[Ak (by omega) (by omega) (by omega)]
    have hjj:q*(k+t)<=12*24:=Nat.mul_le_mul (by omega) (by omega)
    rw[zg (by omega),Nat.add_assoc]
   rw[aT (dY hq),eI,Ak (by omega) (by omega) (by omega),nR _ (show q<n by omega) (show k+i<k+t by omega)]
   simp only[aN,jT]
   rw[nY _ (show q<n by omega) (show k+i<k+t by omega)]
   simp only[aN]
   rw[nR _ hi hq]
   simp only[aN,jT]
   rw[nY _ hi hq]
   simp only[aN]
   rw[Sn hq (hX i q)]
   try simp only[bq,aN]
   rw[jW]
   simp only[aN,dI (show q<=1048577 by omega)]
   try rfl
  rw[cK]
  dsimp only
  try simp only[bq,aN]
  rw[dI (show i<=1048577 by omega),AO]
  try rfl
 rw[cK]
 dsimp only
 rw[show ci (ai t k (ii p n k t R T)) (J (ai t k (ii p n k t R T)))=some (ai t k (ii p n k t R T)) by unfold ci J;rw[if_pos (Nat.le_refl _),List.take_length]]
 rfl
end Go.Am
end
section
namespace Go.Am
def lp (m:c7):c7:=(m.2.1,m.1,ai m.2.1.toNat m.1.toNat (qH (bu m.2.1.toNat m.2.2)))
def kb (x:dj):dj:=(x.1,x.2.1,x.2.2.2.2,x.2.2.2.1.map lp,x.2.2.1)
def IF (x:dj):Option dj:=if gG x=true then some (kb x) else none
def tc:dj->Option dj:=IF
def ti:dj->Option dj:=IF
def Fo:ao:=[(.agg,[.int .i64,.int .i64,.list [.int .i64],.list [.int .i64,.int .i64,.list [.int .i64]],.list [.int .i64]])]
def Qo:ao:=[(.agg,[.int .i64,.int .i64,.list [.int .i64],.list [.int .i64,.int .i64,.list [.int .i64]],.list [.int .i64]])]
def agJ:aW:=[]
def F5:ao:=[(.agg,[.int .i64,.int .i64,.list [.int .i64],.list [.int .i64,.int .i64,.list [.int .i64]],.list [.int .i64]])]
def Q1:ao:=[(.agg,[.int .i64,.int .i64,.list [.int .i64],.list [.int .i64,.int .i64,.list [.int .i64]],.list [.int .i64]])]
def ahh:aW:=[]
def JP (NN:Nat):(Int×(Int×((List Int)×((List (Int×(Int×(List Int))))×(List Int)))))->(Option (Int×(Int×((List Int)×((List (Int×(Int×(List Int))))×(List Int)))))):=
 (fun((i0,i1,l2,l3,l4):(Int×(Int×((List Int)×((List (Int×(Int×(List Int))))×(List Int))))))=>
 (mg l4).U (fun l5=>
 (mg l2).U (fun l6=>
 bK ((ae 0 0 (J (([]:List Int)))).U (fun _=>
 (ae 0 0 (J (([]:List (Int×(Int×(List Int))))))).U (fun _=>
 (ae 0 0 (J (([]:List Int)))).U (fun _=>
 (ae 0 (J l5) (J l5)).U (fun _=>
 (ae 0 0 (J (([]:List (Int×(Int×(List Int))))))).U (fun _=>
 (ae 0 (J l6) (J l6)).U (fun _=>
 bf NN (fun(((l7,i8,i9),(bS,bZ),(cq,cO),c8,bJ,cg,bB,c9,eR):(((List (Int×(Int×(List Int))))×(Int×Int))×((Int×Int)×((Int×Int)×((List Int)×((List (Int×(Int×(List Int))))×((List Int)×((List Int)×((List (Int×(Int×(List Int))))×(List Int))))))))))=>
 aw (bc i9 i8)
 ((dz l7 i9).U (fun(eG,eQ,cV)=>
 (yV (eG,eQ,cV)).U (fun(ef,eH,cL)=>
 (ci cL (J cL)).U (fun cb=>
 (ae 0 (J c9) (J c9)).U (fun _=>
 (ae 0 1 (J (((ef,eH,cb)::([]:List (Int×(Int×(List Int)))))))).U (fun _=>
 (jV (aE (J c9) (J (((ef,eH,cb)::([]:List (Int×(Int×(List Int)))))))) 40).U (fun _=>
 (ae 0 (J c8) (J c8)).U (fun _=>
 (ae 0 (J bJ) (J bJ)).U (fun _=>
 (ae 0 (J cg) (J cg)).U (fun _=>
 (ae 0 (J bB) (J bB)).U (fun _=>
 (ae 0 (aE (J c9) (J (((ef,eH,cb)::([]:List (Int×(Int×(List Int)))))))) (J (cm c9 (((ef,eH,cb)::([]:List (Int×(Int×(List Int))))))))).U (fun _=>
 (ae 0 (J eR) (J eR)).U (fun _=>
 some (Sum.inl ((l7,i8,aM .i64 i9 1),(bS,bZ),(cq,cO),c8,bJ,cg,bB,cm c9 (((ef,eH,cb)::([]:List (Int×(Int×(List Int)))))),eR)))))))))))))))
 (((ae 0 (J c8) (J c8)).U (fun _=>
 (ae 0 (J bJ) (J bJ)).U (fun _=>
 (ae 0 (J cg) (J cg)).U (fun _=>
 (ae 0 (J bB) (J bB)).U (fun _=>
 (ae 0 (J c9) (J c9)).U (fun _=>
 (ae 0 (J eR) (J eR)).U (fun _=>
 some (Sum.inl ((bS,bZ),(cq,cO),c8,bJ,cg,bB,c9,eR))))))))).U (fun j5=>
 some (Sum.inr j5))))
 ((l3,aL (J l3),(0:Int)),((0:Int),(0:Int)),(i0,i1),([]:List Int),([]:List (Int×(Int×(List Int)))),([]:List Int),l5,([]:List (Int×(Int×(List Int)))),l6))))))))
 (fun((fK,xZ),(hH,eU),eg,fN,f7,k8,jk,dt)=>
 (ci k8 (J k8)).U (fun dN=>
 (ci jk (J jk)).U (fun ft=>
 (ci dt (J dt)).U (fun fg=>
 some (hH,eU,dN,ft,fg))))))))
def Kf (NN:Nat):(Int×(Int×((List Int)×((List (Int×(Int×(List Int))))×(List Int)))))->(Option (Int×(Int×((List Int)×((List (Int×(Int×(List Int))))×(List Int)))))):=
 (fun((i0,i1,l2,l3,l4):(Int×(Int×((List Int)×((List (Int×(Int×(List Int))))×(List Int))))))=>
 (mh l4).U (fun l5=>
 (mh l2).U (fun l6=>
 bK ((ae 0 0 (J (([]:List Int)))).U (fun _=>
 (ae 0 0 (J (([]:List (Int×(Int×(List Int))))))).U (fun _=>
 (ae 0 0 (J (([]:List Int)))).U (fun _=>
 (ae 0 (J l5) (J l5)).U (fun _=>
 (ae 0 0 (J (([]:List (Int×(Int×(List Int))))))).U (fun _=>
 (ae 0 (J l6) (J l6)).U (fun _=>
 bf NN (fun(((l7,i8,i9),(bS,bZ),(cq,cO),c8,bJ,cg,bB,c9,eR):(((List (Int×(Int×(List Int))))×(Int×Int))×((Int×Int)×((Int×Int)×((List Int)×((List (Int×(Int×(List Int))))×((List Int)×((List Int)×((List (Int×(Int×(List Int))))×(List Int))))))))))=>
 aw (bc i9 i8)
 ((dz l7 i9).U (fun(eG,eQ,cV)=>
 (qK (eG,eQ,cV)).U (fun(ef,eH,cL)=>
 (ci cL (J cL)).U (fun cb=>
 (ae 0 (J c9) (J c9)).U (fun _=>
 (ae 0 1 (J (((ef,eH,cb)::([]:List (Int×(Int×(List Int)))))))).U (fun _=>
 (jV (aE (J c9) (J (((ef,eH,cb)::([]:List (Int×(Int×(List Int)))))))) 40).U (fun _=>
 (ae 0 (J c8) (J c8)).U (fun _=>
 (ae 0 (J bJ) (J bJ)).U (fun _=>
 (ae 0 (J cg) (J cg)).U (fun _=>
 (ae 0 (J bB) (J bB)).U (fun _=>
 (ae 0 (aE (J c9) (J (((ef,eH,cb)::([]:List (Int×(Int×(List Int)))))))) (J (cm c9 (((ef,eH,cb)::([]:List (Int×(Int×(List Int))))))))).U (fun _=>
 (ae 0 (J eR) (J eR)).U (fun _=>
 some (Sum.inl ((l7,i8,aM .i64 i9 1),(bS,bZ),(cq,cO),c8,bJ,cg,bB,cm c9 (((ef,eH,cb)::([]:List (Int×(Int×(List Int)))))),eR)))))))))))))))
 (((ae 0 (J c8) (J c8)).U (fun _=>
 (ae 0 (J bJ) (J bJ)).U (fun _=>
 (ae 0 (J cg) (J cg)).U (fun _=>
 (ae 0 (J bB) (J bB)).U (fun _=>
 (ae 0 (J c9) (J c9)).U (fun _=>
 (ae 0 (J eR) (J eR)).U (fun _=>
 some (Sum.inl ((bS,bZ),(cq,cO),c8,bJ,cg,bB,c9,eR))))))))).U (fun j5=>
 some (Sum.inr j5))))
 ((l3,aL (J l3),(0:Int)),((0:Int),(0:Int)),(i0,i1),([]:List Int),([]:List (Int×(Int×(List Int)))),([]:List Int),l5,([]:List (Int×(Int×(List Int)))),l6))))))))
 (fun((fK,xZ),(hH,eU),eg,fN,f7,k8,jk,dt)=>
 (ci k8 (J k8)).U (fun dN=>
 (ci jk (J jk)).U (fun ft=>
 (ci dt (J dt)).U (fun fg=>
 some (hH,eU,dN,ft,fg))))))))
theorem Jq {α β:Type} {f:α->β} {l:List α} {i:Nat} {x:α} (h:l[i]? =some x):cm ((l.take i).map f) [f x]=(l.take (i+1)).map f:=by
 unfold cm
 rw[List.take_add_one,h,List.map_append]
 rfl
theorem Tg {n:Nat} (M:bL):lp ((n:Int),(n:Int),ai n n M)=((n:Int),(n:Int),ai n n (qH M)):=by
 unfold lp
 simp only[Int.toNat_natCast]
 rw[show ai n n (qH (bu n (ai n n M)))=ai n n (qH M) from gZ fun i hi j hj=>kD M hj hi]
theorem acv (x:dj) (z:dj) (h:tc x=some z):JP aA x=some z:=by
 have ho:gG x=true:=by
  unfold tc IF at h
  split at h
  ·assumption
  ·cases h
 obtain⟨p,n,s,ms,b,rfl,H⟩:=tu ho
 rw[show tc (p,(n:Int),s,ms,b)=some (kb (p,(n:Int),s,ms,b)) from if_pos ho] at h
 rw[<-h]
 have hn:=H.hn
 have h4:=H.l4
 have hal:=H.al
 have CD:=H.bl
 have tU:eZ=140737488355328:=rfl
 simp only[JP]
 rw[show mg b=some b from if_pos (by omega),show mg s=some s from if_pos (by omega)]
 simp only[aN,bq]
 rw[show ae 0 0 (J ([]:List Int))=some () from rfl,show ae 0 0 (J ([]:List (Int×(Int×(List Int)))))=some () from rfl]
 simp only[aN]
 rw[dP (r:=Sum.inl (((0:Int),(0:Int)),(p,(n:Int)),([]:List Int),([]:List (Int×(Int×(List Int)))),([]:List Int),b,ms.map lp,s))
  (fun i=>((ms,(ms.length:Int),(i:Int)),((0:Int),(0:Int)),(p,(n:Int)),([]:List Int),([]:List (Int×(Int×(List Int)))),([]:List Int),b,(ms.take i).map lp,s)) ms.length ?a1 ?a2 ?a3 (cG (by omega))]
 case a2=>
  dsimp only
  rw[aS (eA (Nat.le_refl _)),List.take_length]
  try simp only[bq,aN]
  try rfl
 case a3=>rfl
 case a1=>
  intro i hi
  dsimp only
  obtain⟨m,hm⟩:∃m,ms[i]? =some m:=⟨_,List.getElem?_eq_getElem hi⟩
  obtain⟨M,hM,Cy⟩:=H.hm m (List.mem_of_getElem? hm)
  rw[aT (dY hi),fF,hm,hM]
  simp only[aN]
  have b1:n*n<=12*12:=Nat.mul_le_mul hn hn
  rw[show yV ((n:Int),(n:Int),ai n n M)=_ from Jr (by omega) (by omega) (by omega)]
  simp only[aN,gu]
  rw[<-Tg,<-hM]
  try simp only[bq,aN]
  rw[show ae 0 1 (J [lp m])=some () from rfl]
  simp only[aN]
  rw[lK (by simp only[aE,J,List.length_map,List.length_take,List.length_singleton];omega)]
  simp only[aN]
  rw[Jq hm,dI (show i<=1048577 by omega)]
  rw[show ae 0 (aE (J ((ms.take i).map lp)) (J [lp m])) (J ((ms.take (i+1)).map lp))=some () from qU (by simp only[aE,J,List.length_map,List.length_take,List.length_singleton];omega)]
  simp only[aN]
  try rw[show ae 0 0 (J ([]:List Int))=some () from rfl]
  try rw[show ae 0 0 (J ([]:List (Int×(Int×(List Int)))))=some () from rfl]
  try simp only[bq,aN]
 rw[cK]
 dsimp only
 simp only[gu,aN]
 rfl
theorem ac7 (x:dj) (z:dj) (h:ti x=some z):Kf aA x=some z:=by
 have ho:gG x=true:=by
  unfold ti IF at h
  split at h
  ·assumption
  ·cases h
 obtain⟨p,n,s,ms,b,rfl,H⟩:=tu ho
 rw[show ti (p,(n:Int),s,ms,b)=some (kb (p,(n:Int),s,ms,b)) from if_pos ho] at h
 rw[<-h]
 have hn:=H.hn
 have h4:=H.l4
 have hal:=H.al
 have CD:=H.bl
 have tU:eZ=140737488355328:=rfl
 simp only[Kf]
 rw[show mh b=some b from if_pos (by omega),show mh s=some s from if_pos (by omega)]
 simp only[aN,bq]
 rw[show ae 0 0 (J ([]:List Int))=some () from rfl,show ae 0 0 (J ([]:List (Int×(Int×(List Int)))))=some () from rfl]
 simp only[aN]
 rw[dP (r:=Sum.inl (((0:Int),(0:Int)),(p,(n:Int)),([]:List Int),([]:List (Int×(Int×(List Int)))),([]:List Int),b,ms.map lp,s))
  (fun i=>((ms,(ms.length:Int),(i:Int)),((0:Int),(0:Int)),(p,(n:Int)),([]:List Int),([]:List (Int×(Int×(List Int)))),([]:List Int),b,(ms.take i).map lp,s)) ms.length ?a1 ?a2 ?a3 (cG (by omega))]
 case a2=>
  dsimp only
  rw[aS (eA (Nat.le_refl _)),List.take_length]
  try simp only[bq,aN]
  try rfl
 case a3=>rfl
 case a1=>
  intro i hi
  dsimp only
  obtain⟨m,hm⟩:∃m,ms[i]? =some m:=⟨_,List.getElem?_eq_getElem hi⟩
  obtain⟨M,hM,Cy⟩:=H.hm m (List.mem_of_getElem? hm)
  rw[aT (dY hi),fF,hm,hM]
  simp only[aN]
  have b1:n*n<=12*12:=Nat.mul_le_mul hn hn
  rw[show qK ((n:Int),(n:Int),ai n n M)=_ from Jr (by omega) (by omega) (by omega)]
  simp only[aN,gu]
  rw[<-Tg,<-hM]
  try simp only[bq,aN]
  rw[show ae 0 1 (J [lp m])=some () from rfl]
  simp only[aN]
  rw[lK (by simp only[aE,J,List.length_map,List.length_take,List.length_singleton];omega)]
  simp only[aN]
  rw[Jq hm,dI (show i<=1048577 by omega)]
  rw[show ae 0 (aE (J ((ms.take i).map lp)) (J [lp m])) (J ((ms.take (i+1)).map lp))=some () from qU (by simp only[aE,J,List.length_map,List.length_take,List.length_singleton];omega)]
  simp only[aN]
  try rw[show ae 0 0 (J ([]:List Int))=some () from rfl]
  try rw[show ae 0 0 (J ([]:List (Int×(Int×(List Int)))))=some () from rfl]
  try simp only[bq,aN]
 rw[cK]
 dsimp only
 simp only[gu,aN]
 rfl
end Go.Am
end
section
namespace Go.Am
def Kr (p:Int) (M:bL) (i j:Nat):Prop:=(M i j+M j i)%p=0/\(i=j->M i j=0)
instance (p:Int) (M:bL) (i j:Nat):Decidable (Kr p M i j):=by unfold Kr;infer_instance
def TV (p:Int) (M:bL) (i:Nat):Prop:=∀j,j<i+1->Kr p M i j
instance (p:Int) (M:bL) (i:Nat):Decidable (TV p M i):=by unfold TV;infer_instance
end Go.Am
end
section
namespace Go.Am
def lJ (p a b:Int):Prop:=∃q,a=b+p*q
theorem lJ.refl (p a:Int):lJ p a a:=⟨0,by simp⟩
theorem lJ.trans {p a b c:Int} (h:lJ p a b) (h':lJ p b c):lJ p a c:=by
 obtain⟨q,rfl⟩:=h;obtain⟨q',rfl⟩:=h';exact⟨q'+q,by rw[Int.mul_add];omega⟩
theorem lJ.symm {p a b:Int} (h:lJ p a b):lJ p b a:=by
 obtain⟨q,rfl⟩:=h;exact⟨-q,by rw[Int.mul_neg];omega⟩
theorem lJ.add {p a b c d:Int} (h:lJ p a b) (h':lJ p c d):lJ p (a+c) (b+d):=by
 obtain⟨q,rfl⟩:=h;obtain⟨q',rfl⟩:=h';exact⟨q+q',by grind⟩
theorem lJ.mul {p a b c d:Int} (h:lJ p a b) (h':lJ p c d):lJ p (a*c) (b*d):=by
 obtain⟨q,rfl⟩:=h;obtain⟨q',rfl⟩:=h';exact⟨q*d+b*q'+p*q*q',by grind⟩
section
variable {p inv:Int} {n k:Nat} {A:bL}
end
end Go.Am
end
section
namespace Go.Am
theorem Xh {X Y:Type} {b:Bool} {u v:Option (X⊕Y)} {f:X->Option Y} {s:X} (h1:b=true->u=some (.inl s)) (h2:b=false->v=some (.inl s)):bK (aw b u v) f=f s:=by
 cases b
 ·rw[xl,h2 rfl,cK]
 ·rw[Gu,h1 rfl,cK]
section
variable {p:Int} {n:Nat} {M:bL}
end
section
variable {p:Int} {n:Nat} {M:bL}
end
end Go.Am
end
