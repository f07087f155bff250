/- M1, Mx, M4, M31, M6, M7, M8, M9, Fm, M14, M15, M16, M17, M19, M33, M36, M18, M32, M34, M38: parts of the proof. No condition. -/
import Derived.Test.YtifmggmhdcdgbaaMT
set_option linter.unusedVariables false
set_option linter.unusedSimpArgs false
section
namespace Go.Am
def kU:Int×Int×Int->Option Bool:=fun((a,b,c):Int×Int×Int)=>some (decide (b<=a/\a<=c))
def G4:au:=[(.one,[.int .i64]),(.one,[.int .i64]),(.one,[.int .i64])]
def SI:au:=[(.one,[.bool])]
def akv:be:=[]
def LO (NN:Nat):(Int×(Int×Int))->(Option Bool):=
 (fun((i0,i1,i2):(Int×(Int×Int)))=>
 aJ (n4 i1 i0)
 (some (n4 i0 i2))
 (some false))
theorem aeZ (x:Int×Int×Int) (y:Bool) (h:kU x=some y):LO aB x=some y:=by
 obtain⟨a,b,c⟩:=x
 rw[<-h]
 simp only[kU,LO,n4]
 by_cases hc:b<=a<;>simp[hc,aJ]
end Go.Am
end
section
namespace Go.Am
def ao (r c:Nat) (M:Nat->Nat->Int):List Int:=(List.range (r*c)).map fun n=>M (n/c) (n%c)
def cE (c:Nat) (l:List Int):Nat->Nat->Int:=fun i j=>l.getD (i*c+j) 0
def jB (M:Nat->Nat->Int) (i j:Nat) (x:Int):Nat->Nat->Int:=fun a b=>if a=i/\b=j then x else M a b
theorem Pk {r c i j:Nat} (hi:i<r) (hj:j<c):i*c+j<r*c:=by
 have:(i+1)*c<=r*c:=Nat.mul_le_mul_right _ hi
 rw[Nat.add_mul] at this
 omega
theorem Y5 {c i j:Nat} (hj:j<c):(i*c+j)/c=i:=by
 rw[Nat.mul_comm,Nat.mul_add_div (by omega),Nat.div_eq_of_lt hj,Nat.add_zero]
theorem Y6 {c i j:Nat} (hj:j<c):(i*c+j)%c=j:=by
 rw[Nat.mul_comm,Nat.mul_add_mod,Nat.mod_eq_of_lt hj]
theorem jY (r c:Nat) (M:Nat->Nat->Int):(ao r c M).length=r*c:=by simp[ao]
theorem Iq {r c i j:Nat} (M:Nat->Nat->Int) (hi:i<r) (hj:j<c):(ao r c M)[i*c+j]? =some (M i j):=by
 unfold ao
 rw[List.getElem?_map,List.getElem?_range (Pk hi hj)]
 simp[Y5 hj,Y6 hj]
theorem ib {r c:Nat} {M M':Nat->Nat->Int} (h:∀i,i<r->∀j,j<c->M i j=M' i j):ao r c M=ao r c M':=by
 unfold ao
 refine List.map_congr_left fun n hn=>?_
 have hn:=List.mem_range.1 hn
 have hc:0<c:=by
  rcases Nat.eq_zero_or_pos c with h|h
  ·subst h;simp at hn
  ·exact h
 exact h _ ((Nat.div_lt_iff_lt_mul hc).2 hn) _ (Nat.mod_lt _ hc)
theorem afK {r c i j:Nat} (M:Nat->Nat->Int) (hj:j<c) (x:Int):(ao r c M).set (i*c+j) x=ao r c (jB M i j x):=by
 apply List.ext_getElem?
 intro n
 rw[List.getElem?_set,jY]
 unfold ao
 simp only[List.getElem?_map]
 by_cases hn:n<r*c
 ·rw[List.getElem?_range hn]
  have hc:0<c:=by omega
  by_cases he:i*c+j=n
  ·rw[if_pos he,if_pos (by omega)]
   subst he
   simp[jB,Y5 hj,Y6 hj]
  ·rw[if_neg he]
   simp only[Option.map_some,jB]
   rw[if_neg]
   rintro⟨h1,h2⟩
   apply he
   rw[<-h1,<-h2]
   have:=Nat.div_add_mod n c
   rw[Nat.mul_comm] at this
   exact this
 ·rw[List.getElem?_eq_none (by simp;omega)]
  by_cases he:i*c+j=n
  ·rw[if_pos he,if_neg (by omega)];rfl
  ·rw[if_neg he];rfl
theorem pI {r c:Nat} {l:List Int} (h:l.length=r*c):ao r c (cE c l)=l:=by
 apply List.ext_getElem?
 intro n
 unfold ao
 simp only[List.getElem?_map]
 by_cases hn:n<r*c
 ·rw[List.getElem?_range hn,List.getElem?_eq_getElem (by omega)]
  simp only[Option.map_some,cE]
  have:=Nat.div_add_mod n c
  rw[Nat.mul_comm] at this
  rw[this,List.getD_eq_getElem?_getD,List.getElem?_eq_getElem (by omega)]
  rfl
 ·rw[List.getElem?_eq_none (by simp;omega),List.getElem?_eq_none (by omega)]
  rfl
theorem mA {r c i j:Nat} (M:Nat->Nat->Int) (hi:i<r) (hj:j<c):cE c (ao r c M) i j=M i j:=by
 unfold cE
 rw[List.getD_eq_getElem?_getD,Iq M hi hj]
 rfl
theorem afJ (r c:Nat) (x:Int):oh (r*c) x=ao r c (fun _ _=>x):=by
 unfold ao oh
 rw[List.map_const',List.length_range]
theorem lG {i c j:Nat} (hi:i<=1048576) (hc:c<=1048576) (hj:j<=1048576):aY .i64 (cv .i64 (i:Int) (c:Int)) (j:Int)=((i*c+j:Nat):Int):=by
 have h1:i*c<=1048576*1048576:=Nat.mul_le_mul hi hc
 have e:(i:Int)*(c:Int)=((i*c:Nat):Int):=by norm_cast
 rw[cv,zD (by omega) (by omega),jl (by omega) (by omega),e]
 omega
theorem akS {i c:Nat} (hi:i<=1048576) (hc:c<=1048576):cv .i64 (i:Int) (c:Int)=((i*c:Nat):Int):=by
 have h1:i*c<=1048576*1048576:=Nat.mul_le_mul hi hc
 have e:(i:Int)*(c:Int)=((i*c:Nat):Int):=by norm_cast
 rw[cv,zD (by omega) (by omega),e]
theorem Aw {r c i j:Nat} (M:Nat->Nat->Int) (hi:i<r) (hj:j<c):eJ (ao r c M) ((i*c+j:Nat):Int)=some (M i j):=by rw[fw,Iq M hi hj]
theorem qQ {r c i j:Nat} (M:Nat->Nat->Int) (hi:i<r) (hj:j<c):eB ((i*c+j:Nat):Int) (U (ao r c M))=some (i*c+j):=vT (by unfold U;rw[jY];exact Pk hi hj)
theorem q9 {r c i j:Nat} (M:Nat->Nat->Int) (hi:i<r) (hj:j<c):dJ (ao r c M) (i*c+j)=some (M i j):=Iq M hi hj
theorem zo {r c i j:Nat} (M:Nat->Nat->Int) (hj:j<c) (x:Int):dd (ao r c M) (i*c+j) x=ao r c (jB M i j x):=afK M hj x
theorem BP (r c:Nat) (M:Nat->Nat->Int):U (ao r c M)=r*c:=jY r c M
theorem lW (r c:Nat) (M M':Nat->Nat->Int):ae 0 (U (ao r c M)) (U (ao r c M'))=some ():=by rw[BP,BP];exact bQ _
theorem E8 (r c:Nat) (M M':Nat->Nat->Int):ve (U (ao r c M)) (U (ao r c M'))=some ():=by rw[BP,BP];exact anB rfl
theorem Kz {a p:Int} (ha:0<=a) (hp:0<p):fL a p=some (a%p):=by
 unfold fL
 rw[if_neg (by omega),Int.tmod_eq_emod_of_nonneg ha]
theorem fo {i n:Nat} (h:i<n):bC (i:Int) (n:Int)=true:=dZ (by omega)
theorem fK {i n:Nat} (h:n<=i):bC (i:Int) (n:Int)=false:=dX (by omega)
theorem eQ {i:Nat} (h:i<=1048577):aY .i64 (i:Int) 1=((i+1:Nat):Int):=by rw[jl (by omega) (by omega)];omega
def cP (p:Int):Prop:=2<=p/\p<=1000003
instance (p:Int):Decidable (cP p):=inferInstanceAs (Decidable (2<=p/\p<=1000003))
def fy (p x:Int):Prop:=0<=x/\x<p
instance (p x:Int):Decidable (fy p x):=inferInstanceAs (Decidable (0<=x/\x<p))
theorem sk {p:Int} (hp:cP p) (a:Int):fy p (a%p):=⟨Int.emod_nonneg _ (by have:=hp.1;omega),Int.emod_lt_of_pos _ (by have:=hp.1;omega)⟩
theorem fy.le {p x:Int} (h:fy p x):0<=x/\x<=p:=⟨h.1,Int.le_of_lt h.2⟩
theorem fy.s {p x:Int} (hp:cP p) (h:fy p x):0<=x/\x<=1000003000000:=⟨h.1,by have:=h.2;have:=hp.2;omega⟩
theorem RP {p a b:Int} (hp:cP p) (ha:0<=a/\a<=p) (hb:0<=b/\b<=p):0<=a*b/\a*b<=1000006000009:=by
 refine⟨Int.mul_nonneg ha.1 hb.1,?_⟩
 have h1:=hp.2
 have:=Int.mul_le_mul (show a<=1000003 by omega) (show b<=1000003 by omega) hb.1 (by omega)
 omega
theorem aal {p a b:Int} (hp:cP p) (ha:0<=a/\a<=p) (hb:0<=b/\b<=p):cv .i64 a b=a*b:=by
 have:=RP hp ha hb
 exact zD (by omega) (by omega)
theorem EI {p s a b:Int} (hp:cP p) (hs:0<=s/\s<=1000003000000) (ha:0<=a/\a<=p) (hb:0<=b/\b<=p):fL (aY .i64 s (cv .i64 a b)) p=some ((s+a*b)%p):=by
 have h:=RP hp ha hb
 rw[aal hp ha hb,jl (by omega) (by omega),Kz (by omega) (by have:=hp.1;omega)]
theorem y7 {p a b:Int} (hp:cP p) (ha:0<=a/\a<=p) (hb:0<=b/\b<=p):fL (cv .i64 a b) p=some (a*b%p):=by
 have h:=RP hp ha hb
 rw[aal hp ha hb,Kz h.1 (by have:=hp.1;omega)]
def jG (p:Int) (f g:Nat->Int):Nat->Int
 |0=>0
 |n+1=>(jG p f g n+f n*g n)%p
theorem HV {p:Int} (hp:cP p) (f g:Nat->Int):∀n,fy p (jG p f g n)
 |0=>⟨Int.le_refl _,by have:=hp.1;show(0:Int)<p;omega⟩
 |n+1=>sk hp _
def gu (p:Int) (k:Nat) (A B:Nat->Nat->Int):Nat->Nat->Int:=fun i j=>jG p (fun t=>A i t) (fun t=>B t j) k
def da (p:Int) (r c:Nat) (M:Nat->Nat->Int):Prop:=∀i,i<r->∀j,j<c->fy p (M i j)
def dG (p:Int) (l:List Int):Prop:=∀x∈l,fy p x
instance (p:Int) (l:List Int):Decidable (dG p l):=inferInstanceAs (Decidable (∀x∈l,fy p x))
theorem k9 {p:Int} {r c:Nat} {M:Nat->Nat->Int}:dG p (ao r c M)↔da p r c M:=by
 constructor
 ·intro h i hi j hj
  exact h _ (List.mem_of_getElem? (Iq M hi hj))
 ·intro h x hx
  unfold ao at hx
  obtain⟨n,hn,rfl⟩:=List.mem_map.1 hx
  have hn:=List.mem_range.1 hn
  have hc:0<c:=by
   rcases Nat.eq_zero_or_pos c with h|h
   ·subst h;simp at hn
   ·exact h
  exact h _ ((Nat.div_lt_iff_lt_mul hc).2 hn) _ (Nat.mod_lt _ hc)
def m9 (x:Int×Int×List Int):Prop:=(0<=x.1/\x.1<=4096)/\(0<=x.2.1/\x.2.1<=4096)/\(x.2.2.length:Int)=x.1*x.2.1/\x.2.2.length<=1048576
instance (x:Int×Int×List Int):Decidable (m9 x):=by unfold m9;infer_instance
theorem tv {x:Int×Int×List Int} (h:m9 x):∃(r c:Nat) (M:Nat->Nat->Int),x=((r:Int),(c:Int),ao r c M)/\r<=4096/\c<=4096/\r*c<=1048576:=by
 obtain⟨r,c,l⟩:=x
 obtain⟨h1,h2,h3,h4⟩:=h
 simp only at h1 h2 h3 h4
 obtain⟨r,rfl⟩:=f9 h1.1
 obtain⟨c,rfl⟩:=f9 h2.1
 have e:l.length=r*c:=by
  have:((r:Int)*(c:Int))=((r*c:Nat):Int):=by norm_cast
  rw[this] at h3;exact_mod_cast h3
 exact⟨r,c,cE c l,by rw[pI e],by omega,by omega,by omega⟩
theorem wY {r c:Nat} (M:Nat->Nat->Int) (hr:r<=4096) (hc:c<=4096) (h:r*c<=1048576):m9 ((r:Int),(c:Int),ao r c M):=by
 refine⟨⟨by omega,by show(r:Int)<=4096;omega⟩,⟨by show(0:Int)<=c;omega,by show(c:Int)<=4096;omega⟩,?_,?_⟩
 ·simp only[jY];norm_cast
 ·simp only[jY];exact h
end Go.Am
end
section
namespace Go.Am
def pB (n:Int) (i:Nat):Bool:=decide ((i:Int)*i<=n)&&decide (n%(i:Int)=0)
def du (n:Int):Bool:=decide (2<=n/\n<=1000003)&& !((List.range' 2 999).any (pB n))
def vC:Int->Option Bool:=fun(n:Int)=>some (du n)
def vw:Int->Option Bool:=fun(n:Int)=>some (du n)
def wL (m:Int) (v:Int):Bool:=decide (0<=v/\v<m)
def iN (m:Int) (l:List Int):Bool:=l.all (wL m)
def rW:Int×List Int->Option Bool:=fun((m,l):Int×List Int)=>if l.length<=1048576 then some (iN m l) else none
def vF:Int×List Int×Int->Option Bool:=fun((m,l,n):Int×List Int×Int)=>if(1<=m/\m<=1000003)/\l.length<=1048576 then some (iN m l&&decide ((l.length:Int)=n)) else none
def n5 (m:Int) (x:Int×Int×List Int):Bool:=du m&&(decide (0<=x.1/\x.1<=64)&&(decide (0<=x.2.1/\x.2.1<=64)&&(decide ((x.2.2.length:Int)=x.1*x.2.1)&&iN m x.2.2)))
def xG:Int×Int×Int×List Int->Option Bool:=fun((m,x):Int×Int×Int×List Int)=>if zy x<=1048576 then some (n5 m x) else none
def xD:Int×Int×Int×List Int->Option Bool:=fun((m,x):Int×Int×Int×List Int)=>if zy x<=1048576 then some (n5 m x) else none
def rH (m n:Int) (x:Int×Int×List Int):Bool:=n5 m x&&(decide (x.1=n)&&decide (x.2.1=n))
def iQ (x:Int×Int×List Int×List (Int×Int×List Int)×List Int):Bool:=match x with
 |(m,n,a,ms,b)=>du m&&(decide (0<=n/\n<=12)&&((iN m a&&decide ((a.length:Int)=n))&&((iN m b&&decide ((b.length:Int)=n))&&(decide (1<=ms.length/\ms.length<=4)&&ms.all (rH m n)))))
def vB:Int×Int×List Int×List (Int×Int×List Int)×List Int->Option Bool:=fun x=>if vn x<=1048576 then some (iQ x) else none
def rU:Int×Int×List Int×List (Int×Int×List Int)×List Int->Option Bool:=fun x=>if vn x<=1048576 then some (iQ x) else none
def GV:au:=[(.one,[.int .i64])]
def SA:au:=[(.one,[.bool])]
def akp:be:=[]
def Hp:au:=[(.one,[.int .i64]),(.one,[.list [.int .i64]]),(.one,[.int .i64])]
def S3:au:=[(.one,[.bool])]
def akL:be:=[]
def GY:au:=[(.one,[.int .i64]),(.agg,[.int .i64,.int .i64,.list [.int .i64]])]
def SF:au:=[(.one,[.bool])]
def aks:be:=[]
def GS:au:=[(.agg,[.int .i64,.int .i64,.list [.int .i64],.list [.int .i64,.int .i64,.list [.int .i64]],.list [.int .i64]])]
def Sy:au:=[(.one,[.bool])]
def akn:be:=[]
def Gx:au:=[(.one,[.int .i64])]
def Sc:au:=[(.one,[.bool])]
def aj6:be:=[]
def GJ:au:=[(.one,[.int .i64]),(.one,[.list [.int .i64]])]
def Sm:au:=[(.one,[.bool])]
def akd:be:=[]
def Gy:au:=[(.one,[.int .i64]),(.agg,[.int .i64,.int .i64,.list [.int .i64]])]
def Sd:au:=[(.one,[.bool])]
def aj7:be:=[]
def Gv:au:=[(.agg,[.int .i64,.int .i64,.list [.int .i64],.list [.int .i64,.int .i64,.list [.int .i64]],.list [.int .i64]])]
def Sa:au:=[(.one,[.bool])]
def aj4:be:=[]
def LM (NN:Nat):Int->(Option Bool):=
 (fun(i0:Int)=>
 bO (bg NN (fun((i1,i2):(Int×Int))=>
 aJ (n4 (cv .i64 i2 i2) i1)
 (aJ (n4 i1 (1000003:Int))
 ((fL i1 i2).aa (fun i3=>
 aJ (fE i3 (0:Int))
 (some (Sum.inr (Sum.inr false)))
 (some (Sum.inl (i1,aY .i64 i2 1)))))
 (some (Sum.inr (Sum.inl i1))))
 (some (Sum.inr (Sum.inl i1))))
 (i0,(2:Int)))
 (fun i4=>
 (kU (i4,(2:Int),(1000003:Int))).aa (fun b5=>
 some b5)))
def LU (NN:Nat):(Int×((List Int)×Int))->(Option Bool):=
 (fun((i0,l1,i2):(Int×((List Int)×Int)))=>
 bO (bg NN (fun((i3,l4,i5,l6,i7,i8):(Int×((List Int)×(Int×((List Int)×(Int×Int))))))=>
 aJ (bC i8 i7)
 ((eJ l6 i8).aa (fun i9=>
 (kU (i9,(0:Int),nh .i64 i3 1)).aa (fun lR=>
 aJ (fC lR)
 (some (Sum.inr (Sum.inr false)))
 (some (Sum.inl (i3,l4,i5,l6,i7,aY .i64 i8 1))))))
 (some (Sum.inr (Sum.inl (l4,i5)))))
 (i0,l1,i2,l1,aO (U l1),(0:Int)))
 (fun(eU,cO)=>
 some (fE (aO (U eU)) cO)))
def LN (NN:Nat):(Int×(Int×(Int×(List Int))))->(Option Bool):=
 (fun((i0,i1,i2,l3):(Int×(Int×(Int×(List Int)))))=>
 (vC i0).aa (fun b4=>
 aJ (fC b4)
 (some false)
 ((kU (i1,(0:Int),(64:Int))).aa (fun b5=>
 aJ (fC b5)
 (some false)
 ((kU (i2,(0:Int),(64:Int))).aa (fun b6=>
 aJ (fC b6)
 (some false)
 (aJ (eu (aO (U l3)) (cv .i64 i1 i2))
 (some false)
 (bO (bg NN (fun((i7,l8,i9,cd):(Int×((List Int)×(Int×Int))))=>
 aJ (bC cd i9)
 ((eJ l8 cd).aa (fun cm=>
 (kU (cm,(0:Int),nh .i64 i7 1)).aa (fun Hz=>
 aJ (fC Hz)
 (some (Sum.inr (Sum.inr false)))
 (some (Sum.inl (i7,l8,i9,aY .i64 cd 1))))))
 (some (Sum.inr (Sum.inl ()))))
 (i0,l3,aO (U l3),(0:Int)))
 (fun _=>
 some true)))))))))
def LK (NN:Nat):(Int×(Int×((List Int)×((List (Int×(Int×(List Int))))×(List Int)))))->(Option Bool):=
 (fun((i0,i1,l2,l3,l4):(Int×(Int×((List Int)×((List (Int×(Int×(List Int))))×(List Int))))))=>
 (vC i0).aa (fun b5=>
 aJ (fC b5)
 (some false)
 ((kU (i1,(0:Int),(12:Int))).aa (fun b6=>
 aJ (fC b6)
 (some false)
 ((vF (i0,l2,i1)).aa (fun b7=>
 aJ (fC b7)
 (some false)
 ((vF (i0,l4,i1)).aa (fun b8=>
 aJ (fC b8)
 (some false)
 ((kU (aO (U l3),(1:Int),(4:Int))).aa (fun b9=>
 aJ (fC b9)
 (some false)
 (bO (bg NN (fun(((gm,cm,cO),di,c9,bK,fa,ct):(((List (Int×(Int×(List Int))))×(Int×Int))×(Int×(Int×((List Int)×((List (Int×(Int×(List Int))))×(List Int)))))))=>
 aJ (bC cO cm)
 ((eJ gm cO).aa (fun(dR,dk,eo)=>
 (xG (di,dR,dk,eo)).aa (fun b21=>
 aJ (fC b21)
 (some (Sum.inr (Sum.inr false)))
 (aJ (eu dR c9)
 (some (Sum.inr (Sum.inr false)))
 (aJ (eu dk c9)
 (some (Sum.inr (Sum.inr false)))
 (some (Sum.inl ((gm,cm,aY .i64 cO 1),di,c9,bK,fa,ct))))))))
 (some (Sum.inr (Sum.inl ()))))
 ((l3,aO (U l3),(0:Int)),i0,i1,l2,l3,l4))
 (fun _=>
 some true))))))))))))
def LB (NN:Nat):Int->(Option Bool):=
 (fun(i0:Int)=>
 aJ (bC i0 (2:Int))
 (some false)
 (aJ (bC (1000003:Int) i0)
 (some false)
 (bO (bg NN (fun((i1,i2):(Int×Int))=>
 aJ (n4 (cv .i64 i2 i2) i1)
 ((fL i1 i2).aa (fun i3=>
 aJ (fE i3 (0:Int))
 (some (Sum.inr (Sum.inr false)))
 (some (Sum.inl (i1,aY .i64 i2 1)))))
 (some (Sum.inr (Sum.inl ()))))
 (i0,(2:Int)))
 (fun _=>
 some true))))
def LG (NN:Nat):(Int×(List Int))->(Option Bool):=
 (fun((i0,l1):(Int×(List Int)))=>
 bO (bg NN (fun((i2,l3,i4,i5):(Int×((List Int)×(Int×Int))))=>
 aJ (bC i5 i4)
 ((eJ l3 i5).aa (fun i6=>
 aJ (bC i6 (0:Int))
 (some (Sum.inr (Sum.inr false)))
 (aJ (n4 i2 i6)
 (some (Sum.inr (Sum.inr false)))
 (some (Sum.inl (i2,l3,i4,aY .i64 i5 1))))))
 (some (Sum.inr (Sum.inl ()))))
 (i0,l1,aO (U l1),(0:Int)))
 (fun _=>
 some true))
def LC (NN:Nat):(Int×(Int×(Int×(List Int))))->(Option Bool):=
 (fun((i0,i1,i2,l3):(Int×(Int×(Int×(List Int)))))=>
 (vw i0).aa (fun b4=>
 aJ (fC b4)
 (some false)
 (aJ (bC i1 (0:Int))
 (some false)
 (aJ (bC i2 (0:Int))
 (some false)
 (aJ (bC (64:Int) i1)
 (some false)
 (aJ (bC (64:Int) i2)
 (some false)
 (aJ (fE (aO (U l3)) (cv .i64 i1 i2))
 ((rW (i0,l3)).aa (fun b5=>
 some b5))
 (some false))))))))
def LA (NN:Nat):(Int×(Int×((List Int)×((List (Int×(Int×(List Int))))×(List Int)))))->(Option Bool):=
 (fun((i0,i1,l2,l3,l4):(Int×(Int×((List Int)×((List (Int×(Int×(List Int))))×(List Int))))))=>
 (vw i0).aa (fun b5=>
 aJ (fC b5)
 (some false)
 (aJ (bC i1 (0:Int))
 (some false)
 (aJ (bC (12:Int) i1)
 (some false)
 (aJ (eu (aO (U l2)) i1)
 (some false)
 (aJ (eu (aO (U l4)) i1)
 (some false)
 ((rW (i0,l2)).aa (fun b6=>
 aJ (fC b6)
 (some false)
 ((rW (i0,l4)).aa (fun b7=>
 aJ (fC b7)
 (some false)
 (aJ (bC (aO (U l3)) (1:Int))
 (some false)
 (aJ (bC (4:Int) (aO (U l3)))
 (some false)
 (bO (bg NN (fun(((l8,i9,cd),cm,cO,gn,fj,bK):(((List (Int×(Int×(List Int))))×(Int×Int))×(Int×(Int×((List Int)×((List (Int×(Int×(List Int))))×(List Int)))))))=>
 aJ (bC cd i9)
 ((eJ l8 cd).aa (fun(dj,fZ,gU)=>
 (xD (cm,dj,fZ,gU)).aa (fun b19=>
 aJ (fC b19)
 (some (Sum.inr (Sum.inr false)))
 (aJ (eu dj cO)
 (some (Sum.inr (Sum.inr false)))
 (aJ (eu fZ cO)
 (some (Sum.inr (Sum.inr false)))
 (some (Sum.inl ((l8,i9,aY .i64 cd 1),cm,cO,gn,fj,bK))))))))
 (some (Sum.inr (Sum.inl ()))))
 ((l3,aO (U l3),(0:Int)),i0,i1,l2,l3,l4))
 (fun _=>
 some true))))))))))))))
theorem u0 {a b:Int} (h1: -9223372036854775808<=a*b) (h2:a*b<=9223372036854775807):cv .i64 a b=a*b:=zD h1 h2
theorem E4 {n:Int} {i:Nat} (hn:0<=n) (hi:0<i):fL n (i:Int)=some (n%(i:Int)):=by
 unfold fL
 rw[if_neg (by omega),Int.tmod_eq_emod_of_nonneg hn]
theorem Uw {i j:Nat} (h:i<=j):(i:Int)*i<=(j:Int)*j:=by
 have:=Nat.mul_le_mul h h
 exact_mod_cast this
theorem Wz {X Y:Type} {f:X->Option (X⊕(Y⊕Bool))} (n:Int) (mk:Nat->X) (r:Y) (hn:n<=1000003)
  (h1:∀i:Nat,2<=i->i<=1001->(i:Int)*i<=n->n%(i:Int)=0->f (mk i)=some (.inr (.inr false)))
  (h2:∀i:Nat,2<=i->i<=1001->(i:Int)*i<=n->n%(i:Int)≠0->f (mk i)=some (.inl (mk (i+1))))
  (h3:∀i:Nat,2<=i->i<=1001->¬(i:Int)*i<=n->f (mk i)=some (.inr (.inl r))) {x0:X} (hx:x0=mk 2):
  bg aB f x0=some (if(List.range' 2 999).any (pB n)=true then .inr false else .inl r):=by
 subst hx
 have cr:∀(d i:Nat),2<=i->i+d=1001->∀N,d<N->bg N f (mk i)=some (if(List.range' i d).any (pB n)=true then .inr false else .inl r):=by
  intro d
  induction d with
  |zero=>
   intro i hi hd N hN
   obtain⟨N,rfl⟩:∃M,N=M+1:=⟨N - 1,by omega⟩
   have:i=1001:=by omega
   subst this
   rw[bg,h3 1001 (by omega) (by omega) (by omega)]
   rfl
  |succ d ih=>
   intro i hi hd N hN
   obtain⟨N,rfl⟩:∃M,N=M+1:=⟨N - 1,by omega⟩
   rw[List.range'_succ,List.any_cons]
   by_cases eS:(i:Int)*i<=n
   ·by_cases hm:n%(i:Int)=0
    ·rw[bg,h1 i hi (by omega) eS hm]
     simp[pB,eS,hm]
    ·rw[bg,h2 i hi (by omega) eS hm]
     simp only
     rw[ih (i+1) (by omega) (by omega) N (by omega),show pB n i=false by simp[pB,hm],Bool.false_or]
   ·rw[bg,h3 i hi (by omega) eS]
    have:(List.range' (i+1) d).any (pB n)=false:=by
     rw[List.any_eq_false]
     intro j hj
     have:=(List.mem_range'_1.1 hj).1
     have:=Uw (show i<=j by omega)
     simp only[pB,Bool.and_eq_true,decide_eq_true_eq,not_and]
     intro h;omega
    simp only
    rw[this]
    simp[pB,eS]
 exact cr 999 2 (by omega) (by omega) aB (cN (by omega))
theorem Cw {i:Nat} (h:i<=1001):0<=(i:Int)*i/\(i:Int)*i<=1002001:=by
 have h1:=Uw h
 have h0:=Uw (Nat.zero_le i)
 omega
theorem aeT (x:Int) (y:Bool) (h:vC x=some y):LM aB x=some y:=by
 rw[<-h]
 simp only[vC,LM]
 by_cases hx:x<=1000003
 ·rw[Wz x (fun i=>(x,(i:Int))) x hx ?_ ?_ ?_ ?_]
  ·by_cases hd:(List.range' 2 999).any (pB x)=true
   ·rw[if_pos hd,Bl,du,hd]
    simp
   ·rw[if_neg hd,db,du]
    simp only[kU,ak]
    simp[hd]
  all_goals try simp only
  ·intro i h2 hi eS hm
   have hs:=Cw hi
   rw[u0 (by omega) (by omega),aQ (tt eS),aQ (tt hx),E4 (by omega) (by omega),ak,aQ (yi hm)]
  ·intro i h2 hi eS hm
   have hs:=Cw hi
   rw[u0 (by omega) (by omega),aQ (tt eS),aQ (tt hx),E4 (by omega) (by omega),ak,aN (yh hm),jl (by omega) (by omega)]
   rfl
  ·intro i h2 hi eS
   have hs:=Cw hi
   rw[u0 (by omega) (by omega),aN (yZ (by omega))]
  ·rfl
 ·rw[fc (fun i=>(x,(i:Int)+2)) (r:=Sum.inl x) 0 (fun j hj=>by omega) ?_ ?_ (cN (by omega))]
  ·rw[db,du]
   simp only[kU,ak]
   have:¬(2<=x/\x<=1000003):=by omega
   simp[this]
  ·simp only
   rw[aQ (tt (by rw[u0 (by omega) (by omega)];omega)),aN (yZ (by omega))]
  ·rfl
theorem aex (x:Int) (y:Bool) (h:vw x=some y):LB aB x=some y:=by
 rw[<-h]
 simp only[vw,LB]
 by_cases h2:x<2
 ·rw[aQ (dZ h2),du,decide_eq_false (by omega)];rfl
 rw[aN (dX (by omega))]
 by_cases hx:1000003<x
 ·rw[aQ (dZ hx),du,decide_eq_false (by omega)];rfl
 rw[aN (dX (by omega))]
 rw[Wz x (fun i=>(x,(i:Int))) () (by omega) ?_ ?_ ?_ ?_]
 ·have hr:(2<=x/\x<=1000003):=by omega
  by_cases hd:(List.range' 2 999).any (pB x)=true
  ·rw[if_pos hd,Bl,du,hd]
   simp
  ·rw[if_neg hd,db,du]
   simp[hd,hr]
 all_goals try simp only
 ·intro i h2 hi eS hm
  have hs:=Cw hi
  rw[u0 (by omega) (by omega),aQ (tt eS),E4 (by omega) (by omega),ak,aQ (yi hm)]
 ·intro i h2 hi eS hm
  have hs:=Cw hi
  rw[u0 (by omega) (by omega),aQ (tt eS),E4 (by omega) (by omega),ak,aN (yh hm),jl (by omega) (by omega)]
  rfl
 ·intro i h2 hi eS
  have hs:=Cw hi
  rw[u0 (by omega) (by omega),aN (yZ (by omega))]
 ·rfl
theorem aeH (x:Int×List Int) (y:Bool) (h:rW x=some y):LG aB x=some y:=by
 obtain⟨m,l⟩:=x
 simp only[rW] at h
 split at h
 ·rename_i hl
  rw[<-h]
  simp only[LG]
  rw[BR (mk:=fun i=>(m,l,aO (U l),(i:Int))) l (wL m) (Sum.inr false) (Sum.inl ()) ?_ ?_ ?_ ?_ (cN (by omega))]
  ·unfold iN
   cases l.all (wL m)<;>rfl
  all_goals try simp only
  ·intro i a ha hp
   have hp:=of_decide_eq_true hp
   rw[aQ (kI ha),fw,ha,ak,aN (dX (by omega)),aN (yZ (by omega)),qt ha (by omega)]
  ·intro i a ha hp
   have hp:=of_decide_eq_false hp
   rw[aQ (kI ha),fw,ha,ak]
   by_cases h0:a<0
   ·rw[aQ (dZ h0)]
   ·rw[aN (dX (by omega)),aQ (tt (by omega))]
  ·rw[aN (rG l)]
  ·rfl
 ·cases h
theorem afg (x:Int×List Int×Int) (y:Bool) (h:vF x=some y):LU aB x=some y:=by
 obtain⟨m,l,n⟩:=x
 simp only[vF] at h
 split at h
 ·rename_i hl
  obtain⟨hm,hl⟩:=hl
  rw[<-h]
  simp only[LU]
  rw[BR (mk:=fun i=>(m,l,n,l,aO (U l),(i:Int))) l (wL m) (Sum.inr false) (Sum.inl (l,n)) ?_ ?_ ?_ ?_ (cN (by omega))]
  ·unfold iN
   cases l.all (wL m)
   ·rfl
   ·rw[if_pos rfl,db]
    simp only[Bool.true_and]
    rfl
  all_goals try simp only
  ·intro i a ha hp
   have hp:=of_decide_eq_true hp
   rw[aQ (kI ha),fw,ha,ak,ph (by omega) (by omega)]
   simp only[kU,ak]
   rw[aN (B2 (by omega)),qt ha (by omega)]
  ·intro i a ha hp
   have hp:=of_decide_eq_false hp
   rw[aQ (kI ha),fw,ha,ak,ph (by omega) (by omega)]
   simp only[kU,ak]
   rw[aQ (B1 (by omega))]
  ·rw[aN (rG l)]
  ·rfl
 ·cases h
theorem kD {m:Int} (h:du m=true):2<=m/\m<=1000003:=by
 simp only[du,Bool.and_eq_true,decide_eq_true_eq] at h
 exact h.1
theorem aey (x:Int×Int×Int×List Int) (y:Bool) (h:xD x=some y):LC aB x=some y:=by
 obtain⟨m,r,c,l⟩:=x
 simp only[xD] at h
 split at h
 ·rename_i hl
  rw[<-h]
  have hl:l.length<=1048576:=hl
  simp only[LC,vw,ak,n5]
  cases hp:du m with
  |false=>rfl
  |true=>
   rw[aN (by rfl),Bool.true_and]
   by_cases h1:r<0
   ·rw[aQ (dZ h1),decide_eq_false (by omega)];rfl
   rw[aN (dX (by omega))]
   by_cases h2:c<0
   ·rw[aQ (dZ h2),decide_eq_false (p:=0<=c/\c<=64) (by omega)];simp
   rw[aN (dX (by omega))]
   by_cases h3:64<r
   ·rw[aQ (dZ h3),decide_eq_false (by omega)];rfl
   rw[aN (dX (by omega))]
   by_cases h4:64<c
   ·rw[aQ (dZ h4),decide_eq_false (p:=0<=c/\c<=64) (by omega)];simp
   rw[aN (dX (by omega)),decide_eq_true (p:=0<=r/\r<=64) (by omega),decide_eq_true (p:=0<=c/\c<=64) (by omega),Bool.true_and,Bool.true_and]
   obtain⟨r,rfl⟩:=f9 (z:=r) (by omega)
   obtain⟨c,rfl⟩:=f9 (z:=c) (by omega)
   have dB:r*c<=64*64:=Nat.mul_le_mul (by omega) (by omega)
   have agt:(r:Int)*(c:Int)=((r*c:Nat):Int):=by norm_cast
   rw[u0 (by omega) (by omega),show rW (m,l)=some (iN m l) from if_pos hl]
   by_cases h5:(l.length:Int)=(r:Int)*c
   ·rw[aQ (show fE (aO (U l)) _=true from yi h5),decide_eq_true h5];rfl
   ·rw[aN (show fE (aO (U l)) _=false from yh h5),decide_eq_false h5];rfl
 ·cases h
theorem aeW (x:Int×Int×Int×List Int) (y:Bool) (h:xG x=some y):LN aB x=some y:=by
 obtain⟨m,r,c,l⟩:=x
 simp only[xG] at h
 split at h
 ·rename_i hl
  rw[<-h]
  have hl:l.length<=1048576:=hl
  simp only[LN,vC,kU,ak,n5]
  cases hp:du m with
  |false=>rfl
  |true=>
   obtain⟨iV,iv⟩:=kD hp
   rw[aN (by rfl),Bool.true_and]
   by_cases h1:0<=r/\r<=64
   rotate_left
   ·rw[aQ (B1 h1),decide_eq_false h1];rfl
   rw[aN (B2 h1),decide_eq_true h1,Bool.true_and]
   by_cases h2:0<=c/\c<=64
   rotate_left
   ·rw[aQ (B1 h2),decide_eq_false h2];rfl
   rw[aN (B2 h2),decide_eq_true h2,Bool.true_and]
   obtain⟨r,rfl⟩:=f9 (z:=r) (by omega)
   obtain⟨c,rfl⟩:=f9 (z:=c) (by omega)
   have dB:r*c<=64*64:=Nat.mul_le_mul (by omega) (by omega)
   have agt:(r:Int)*(c:Int)=((r*c:Nat):Int):=by norm_cast
   rw[u0 (by omega) (by omega)]
   by_cases h5:(l.length:Int)=(r:Int)*c
   rotate_left
   ·rw[aQ (show eu (aO (U l)) _=true from qq h5),decide_eq_false h5];rfl
   rw[aN (show eu (aO (U l)) _=false from n7 h5),decide_eq_true h5,Bool.true_and]
   rw[BR (mk:=fun i=>(m,l,aO (U l),(i:Int))) l (wL m) (Sum.inr false) (Sum.inl ()) ?_ ?_ ?_ ?_ (cN (by omega))]
   ·unfold iN
    cases l.all (wL m)<;>rfl
   all_goals try simp only
   ·intro i a ha hp
    have hp:=of_decide_eq_true hp
    rw[aQ (kI ha),fw,ha,ak,ph (by omega) (by omega),aN (B2 (by omega)),qt ha (by omega)]
   ·intro i a ha hp
    have hp:=of_decide_eq_false hp
    rw[aQ (kI ha),fw,ha,ak,ph (by omega) (by omega),aQ (B1 (by omega))]
   ·rw[aN (rG l)]
   ·rfl
 ·cases h
theorem acs {m n:Int} {a:List Int} {ms:List (Int×Int×List Int)} {b:List Int} (h:vn (m,n,a,ms,b)<=1048576):a.length<=1048576/\b.length<=1048576/\ms.length<=1048576/\∀e∈ms,zy e<=1048576:=by
 have h1:a.length+zz ms+b.length<=1048576:=h
 have h2:=aop (l:=ms) (by omega)
 exact⟨by omega,by omega,h2.1,h2.2⟩
theorem aeR (x:Int×Int×List Int×List (Int×Int×List Int)×List Int) (y:Bool) (h:vB x=some y):LK aB x=some y:=by
 obtain⟨m,n,a,ms,b⟩:=x
 simp only[vB] at h
 split at h
 ·rename_i hl
  rw[<-h]
  obtain⟨ha,hb,pN,cJ⟩:=acs hl
  simp only[LK,vC,kU,ak,iQ]
  cases hp:du m with
  |false=>rfl
  |true=>
   have hm:=kD hp
   rw[aN (by rfl),Bool.true_and]
   by_cases h1:0<=n/\n<=12
   rotate_left
   ·rw[aQ (B1 h1),decide_eq_false h1];rfl
   rw[aN (B2 h1),decide_eq_true h1,Bool.true_and]
   rw[show vF (m,a,n)=some (iN m a&&decide ((a.length:Int)=n)) from if_pos ⟨by omega,ha⟩,ak]
   rw[show vF (m,b,n)=some (iN m b&&decide ((b.length:Int)=n)) from if_pos ⟨by omega,hb⟩,ak]
   cases (iN m a&&decide ((a.length:Int)=n)) with
   |false=>rfl
   |true=>
   rw[aN (by rfl),Bool.true_and]
   cases (iN m b&&decide ((b.length:Int)=n)) with
   |false=>rfl
   |true=>
   rw[aN (by rfl),Bool.true_and]
   by_cases h2:1<=ms.length/\ms.length<=4
   rotate_left
   ·rw[aQ (B1 (by have:=nl ms;omega)),decide_eq_false h2];rfl
   rw[aN (B2 (by have:=nl ms;omega)),decide_eq_true h2,Bool.true_and]
   rw[BR (mk:=fun i=>((ms,aO (U ms),(i:Int)),m,n,a,ms,b)) ms (rH m n) (Sum.inr false) (Sum.inl ()) ?_ ?_ ?_ ?_ (cN (by omega))]
   ·cases ms.all (rH m n)<;>rfl
   all_goals try simp only
   ·rintro i ⟨r,c,l⟩ hi hp
    simp only[rH,Bool.and_eq_true,decide_eq_true_eq] at hp
    obtain⟨p1,p2,p3⟩:=hp
    rw[aQ (kI hi),fw,hi,ak]
    simp only
    rw[show xG (m,r,c,l)=some (n5 m (r,c,l)) from if_pos (cJ _ (List.mem_of_getElem? hi)),ak,p1,aN (by rfl),aN (n7 p2),aN (n7 p3),qt hi (by omega)]
   ·rintro i ⟨r,c,l⟩ hi hp
    rw[aQ (kI hi),fw,hi,ak]
    simp only
    rw[show xG (m,r,c,l)=some (n5 m (r,c,l)) from if_pos (cJ _ (List.mem_of_getElem? hi)),ak]
    cases p1:n5 m (r,c,l) with
    |false=>rw[aQ (by rfl)]
    |true=>
     rw[aN (by rfl)]
     by_cases p2:r=n
     ·rw[aN (n7 p2)]
      by_cases p3:c=n
      ·simp[rH,p1,p2,p3] at hp
       rw[p2,p3] at p1
       rw[p1] at hp
       cases hp
      ·rw[aQ (qq p3)]
     ·rw[aQ (qq p2)]
   ·rw[aN (rG ms)]
   ·rfl
 ·cases h
theorem aev (x:Int×Int×List Int×List (Int×Int×List Int)×List Int) (y:Bool) (h:rU x=some y):LA aB x=some y:=by
 obtain⟨m,n,a,ms,b⟩:=x
 simp only[rU] at h
 split at h
 ·rename_i hl
  rw[<-h]
  obtain⟨ha,hb,pN,cJ⟩:=acs hl
  simp only[LA,vw,ak,iQ]
  cases hp:du m with
  |false=>rfl
  |true=>
   have hm:=kD hp
   rw[aN (by rfl),Bool.true_and]
   by_cases h0:n<0
   ·rw[aQ (dZ h0),decide_eq_false (by omega)];rfl
   rw[aN (dX (by omega))]
   by_cases h1:12<n
   ·rw[aQ (dZ h1),decide_eq_false (by omega)];rfl
   rw[aN (dX (by omega)),decide_eq_true (p:=0<=n/\n<=12) (by omega),Bool.true_and]
   by_cases e1:(a.length:Int)=n
   rotate_left
   ·rw[aQ (show eu (aO (U a)) _=true from qq e1),decide_eq_false e1,Bool.and_false,Bool.false_and]
   rw[aN (show eu (aO (U a)) _=false from n7 e1),decide_eq_true e1,Bool.and_true]
   by_cases e2:(b.length:Int)=n
   rotate_left
   ·rw[aQ (show eu (aO (U b)) _=true from qq e2),decide_eq_false e2,Bool.and_false,Bool.false_and,Bool.and_false]
   rw[aN (show eu (aO (U b)) _=false from n7 e2),decide_eq_true e2,Bool.and_true]
   rw[show rW (m,a)=some (iN m a) from if_pos ha,ak]
   rw[show rW (m,b)=some (iN m b) from if_pos hb,ak]
   cases iN m a with
   |false=>rfl
   |true=>
   rw[aN (by rfl),Bool.true_and]
   cases iN m b with
   |false=>rfl
   |true=>
   rw[aN (by rfl),Bool.true_and]
   by_cases h2:ms.length<1
   ·rw[aQ (dZ (by have:=nl ms;omega)),decide_eq_false (by omega)];rfl
   rw[aN (dX (by have:=nl ms;omega))]
   by_cases h3:4<ms.length
   ·rw[aQ (dZ (by have:=nl ms;omega)),decide_eq_false (by omega)];rfl
   rw[aN (dX (by have:=nl ms;omega)),decide_eq_true (by omega),Bool.true_and]
   rw[BR (mk:=fun i=>((ms,aO (U ms),(i:Int)),m,n,a,ms,b)) ms (rH m n) (Sum.inr false) (Sum.inl ()) ?_ ?_ ?_ ?_ (cN (by omega))]
   ·cases ms.all (rH m n)<;>rfl
   all_goals try simp only
   ·rintro i ⟨r,c,l⟩ hi hp
    simp only[rH,Bool.and_eq_true,decide_eq_true_eq] at hp
    obtain⟨p1,p2,p3⟩:=hp
    rw[aQ (kI hi),fw,hi,ak]
    simp only
    rw[show xD (m,r,c,l)=some (n5 m (r,c,l)) from if_pos (cJ _ (List.mem_of_getElem? hi)),ak,p1,aN (by rfl),aN (n7 p2),aN (n7 p3),qt hi (by omega)]
   ·rintro i ⟨r,c,l⟩ hi hp
    rw[aQ (kI hi),fw,hi,ak]
    simp only
    rw[show xD (m,r,c,l)=some (n5 m (r,c,l)) from if_pos (cJ _ (List.mem_of_getElem? hi)),ak]
    cases p1:n5 m (r,c,l) with
    |false=>rw[aQ (by rfl)]
    |true=>
     rw[aN (by rfl)]
     by_cases p2:r=n
     ·rw[aN (n7 p2)]
      by_cases p3:c=n
      ·simp[rH,p1,p2,p3] at hp
       rw[p2,p3] at p1
       rw[p1] at hp
       cases hp
      ·rw[aQ (qq p3)]
     ·rw[aQ (qq p2)]
   ·rw[aN (rG ms)]
   ·rfl
 ·cases h
end Go.Am
end
section
namespace Go.Am
def xj:Int×Int×Int->Bool:=fun((k,p,n):Int×Int×Int)=>
 if k=1 then decide (p=0/\n=0) else if k=2 then du p&&decide (n=0) else if k=3\/k=4\/k=5 then decide ((1<=p/\p<=1000000)/\n=0)
 else if k=6 then decide (p=0/\1<=n/\n<=20) else if k=7 then du p&&decide (1<=n/\n<=6) else if k=8 then du p&&decide (p≠2/\n=0) else false
def rS:Int×Int×Int->Int:=fun((k,p,n):Int×Int×Int)=>if k=7 then n else if k=8 then 4 else 1
def eI (r:Int×Int×Int):Nat:=(rS r).toNat
def jA:Int×Int×Int->Int:=fun((k,p,n):Int×Int×Int)=>if k=1 then 1 else if k=3\/k=4\/k=5 then p else if k=6 then 2^n.toNat - 1 else p - 1
def Y7 (t v:Int):Bool:=decide (0<=v/\v<=t)
def qT (r:Int×Int×Int) (x:List Int):Bool:=decide (x.length=eI r)&&x.all (Y7 (jA r))
def B3:Int×Int×Int->List Int:=fun((k,p,n):Int×Int×Int)=>dd (oh (eI (k,p,n)) 0) 0 (if k=4 then 0 else if k=5\/k=6 then jA (k,p,n) else 1)
def sm:Nat->(Nat->Int)->Int
 |0,_=>0
 |n+1,f=>sm n f+f n
def kW (om:Bool) (x y:Nat->Int) (t i j:Nat):Int:=if i+j=t then x i*y j else if om=true/\i+j=t+4 then -(x i*y j) else 0
def jf (w:Nat) (f:Nat->Int):List Int:=(List.range w).map f
def bX (x:List Int):Nat->Int:=fun i=>x.getD i 0
def yc (p:Int) (om:Bool) (w:Nat) (x y:Nat->Int):List Int:=jf w fun t=>sm w (fun i=>sm w (fun j=>kW om x y t i j))%p
def oZ:Int×Int×Int->Int->Int->Int:=fun((k,p,n):Int×Int×Int) a b=>
 if k=1\/k=6 then((a.toNat&&&b.toNat:Nat):Int) else if k=2 then a*b%p else if k=3 then min (a*b) p else if k=4 then min (a+b) p else min a b
def w5 (r:Int×Int×Int) (x y:List Int):List Int:=if r.1=7\/r.1=8 then yc r.2.1 (decide (r.1=8)) (eI r) (bX x) (bX y) else[oZ r (bX x 0) (bX y 0)]
theorem KB {k p n:Int} (h:xj (k,p,n)=true):(k=1/\p=0/\n=0)\/(k=2/\du p=true/\n=0)\/(k=3/\(1<=p/\p<=1000000)/\n=0)\/(k=4/\(1<=p/\p<=1000000)/\n=0)\/(k=5/\(1<=p/\p<=1000000)/\n=0)\/
  (k=6/\p=0/\1<=n/\n<=20)\/(k=7/\du p=true/\1<=n/\n<=6)\/(k=8/\du p=true/\p≠2/\n=0):=by
 simp only[xj] at h
 by_cases h1:k=1
 ·rw[if_pos h1] at h;exact .inl ⟨h1,by simpa using h⟩
 rw[if_neg h1] at h
 by_cases h2:k=2
 ·rw[if_pos h2] at h;simp at h;exact .inr (.inl ⟨h2,h⟩)
 rw[if_neg h2] at h
 by_cases h3:k=3\/k=4\/k=5
 ·rw[if_pos h3] at h
  simp only[decide_eq_true_eq] at h
  rcases h3 with h3|h3|h3
  ·exact .inr (.inr (.inl ⟨h3,h⟩))
  ·exact .inr (.inr (.inr (.inl ⟨h3,h⟩)))
  ·exact .inr (.inr (.inr (.inr (.inl ⟨h3,h⟩))))
 rw[if_neg h3] at h
 by_cases h4:k=6
 ·rw[if_pos h4] at h;simp at h;exact .inr (.inr (.inr (.inr (.inr (.inl ⟨h4,h⟩)))))
 rw[if_neg h4] at h
 by_cases h5:k=7
 ·rw[if_pos h5] at h;simp at h;exact .inr (.inr (.inr (.inr (.inr (.inr (.inl ⟨h5,h⟩))))))
 rw[if_neg h5] at h
 by_cases h6:k=8
 ·rw[if_pos h6] at h;simp at h;exact .inr (.inr (.inr (.inr (.inr (.inr (.inr ⟨h6,h⟩))))))
 rw[if_neg h6] at h
 cases h
theorem aoM {r:Int×Int×Int} (h:xj r=true):rS r=(eI r:Int)/\1<=eI r/\eI r<=6:=by
 obtain⟨k,p,n⟩:=r
 rcases KB h with⟨rfl,rfl,rfl⟩|⟨rfl,hp,rfl⟩|⟨rfl,hp,rfl⟩|⟨rfl,hp,rfl⟩|⟨rfl,hp,rfl⟩|⟨rfl,rfl,hn⟩|⟨rfl,hp,hn⟩|⟨rfl,hp,pQ,rfl⟩
 ·simp[eI,rS]
 ·simp[eI,rS]
 ·simp[eI,rS]
 ·simp[eI,rS]
 ·simp[eI,rS]
 ·simp[eI,rS]
 ·simp[eI,rS];omega
 ·simp[eI,rS]
theorem ana {w:Nat} {p:Int} (h:w=1):dd (oh w (0:Int)) 0 p=[p]:=by subst h;rfl
theorem FE (w:Nat) (f:Nat->Int):(jf w f).length=w:=by simp[jf]
theorem FD {w j:Nat} (f:Nat->Int) (h:j<w):(jf w f)[j]? =some (f j):=by simp[jf,h]
theorem Ld {w:Nat} {f g:Nat->Int} (h:∀j,j<w->f j=g j):jf w f=jf w g:=List.map_congr_left fun j hj=>h j (List.mem_range.1 hj)
theorem aot {w:Nat} (f:Nat->Int) (j:Nat) (v:Int):(jf w f).set j v=jf w (fun i=>if i=j then v else f i):=by
 apply List.ext_getElem?
 intro i
 by_cases hi:i<w
 ·rw[FD _ hi]
  by_cases hj:j=i
  ·subst hj
   rw[List.getElem?_set_self (by rw[FE];exact hi),if_pos rfl]
  ·rw[List.getElem?_set_ne hj,FD _ hi,if_neg (fun e=>hj e.symm)]
 ·rw[List.getElem?_eq_none (by rw[List.length_set,FE];omega),List.getElem?_eq_none (by rw[FE];omega)]
theorem Xo {x:List Int} {j:Nat} (h:j<x.length):x[j]? =some (bX x j):=by
 rw[List.getElem?_eq_getElem h]
 simp[bX,List.getD_eq_getElem?_getD,List.getElem?_eq_getElem h]
theorem M9 {w j:Nat} (f:Nat->Int) (h:j<w):bX (jf w f) j=f j:=by simp[bX,List.getD_eq_getElem?_getD,FD f h]
theorem aor {x:List Int} {w:Nat} (h:x.length=w):jf w (bX x)=x:=by
 subst h
 apply List.ext_getElem?
 intro i
 by_cases hi:i<x.length
 ·rw[FD _ hi,Xo hi]
 ·rw[List.getElem?_eq_none (by rw[FE];omega),List.getElem?_eq_none (by omega)]
theorem aos (w:Nat) (c:Int):oh w c=jf w fun _=>c:=by
 apply List.ext_getElem?
 intro i
 by_cases hi:i<w
 ·rw[FD _ hi];simp[oh,hi]
 ·rw[List.getElem?_eq_none (by simp[oh];omega),List.getElem?_eq_none (by rw[FE];omega)]
theorem WD {r:Int×Int×Int} {x:List Int} (h:qT r x=true):x.length=eI r:=by
 simp only[qT,Bool.and_eq_true,decide_eq_true_eq] at h;exact h.1
theorem WC {r:Int×Int×Int} {x:List Int} (h:qT r x=true) {j:Nat} (hj:j<eI r):0<=bX x j/\bX x j<=jA r:=by
 simp only[qT,Bool.and_eq_true,decide_eq_true_eq] at h
 have:=List.all_eq_true.1 h.2 (bX x j) (List.mem_of_getElem? (Xo (by rw[h.1];exact hj)))
 simpa[Y7] using this
theorem Dh {r:Int×Int×Int} {x:List Int} (h:qT r x=true) (hw:eI r=1):x=[bX x 0]/\0<=bX x 0/\bX x 0<=jA r:=by
 have hl:=WD h
 rw[hw] at hl
 match x,hl with
 |[a],_=>exact⟨rfl,WC h (j:=0) (by omega)⟩
theorem aa7 {a p:Int} (ha:0<=a) (hp:0<p):fL a p=some (a%p):=by
 obtain⟨m,rfl⟩:=f9 (z:=p) (by omega)
 exact E4 ha (by omega)
theorem kO {f g:Nat->Int}:∀{n:Nat},(∀i,i<n->f i=g i)->sm n f=sm n g
 |0,_=>rfl
 |n+1,h=>by simp only[sm];rw[kO (n:=n) (fun i hi=>h i (by omega)),h n (by omega)]
structure Lw (k p:Int) (w:Nat):Prop where
 ck:k=7\/k=8
 cp:2<=p/\p<=1000003
 cw:1<=w/\w<=6
 w8:k=8->w=4
theorem VZ {k p n:Int} (h:xj (k,p,n)=true) (hk:k=7\/k=8):Lw k p (eI (k,p,n)):=by
 have hw:=aoM h
 refine⟨hk,?_,hw.2,fun e=>by subst e;rfl⟩
 rcases KB h with⟨rfl,rfl,rfl⟩|⟨rfl,hp,rfl⟩|⟨rfl,hp,rfl⟩|⟨rfl,hp,rfl⟩|⟨rfl,hp,rfl⟩|⟨rfl,rfl,hn⟩|⟨rfl,hp,hn⟩|⟨rfl,hp,pQ,rfl⟩
 all_goals first|exact kD hp|(exfalso;omega)
theorem EM {r:Int×Int×Int} {a b:Int} (h:¬(r.1=7\/r.1=8)):w5 r [a] [b]=[oZ r a b]:=by simp only[w5];rw[if_neg h];rfl
theorem WE {r:Int×Int×Int} {x y:List Int} (hx:qT r x=true) (hy:qT r y=true) (hw:eI r=1):∃a b,x=[a]/\y=[b]/\(0<=a/\a<=jA r)/\0<=b/\b<=jA r:=
 ⟨_,_,(Dh hx hw).1,(Dh hy hw).1,(Dh hx hw).2,(Dh hy hw).2⟩
theorem al1 (k p n:Int):B3 (k,p,n)=jf (eI (k,p,n)) fun j=>if j=0 then(if k=4 then 0 else if k=5\/k=6 then jA (k,p,n) else 1) else 0:=by
 simp only[B3]
 rw[aos]
 exact aot _ 0 _
end Go.Am
end
section
namespace Go.Am
def BX (x:Int×Int):Prop:=(0<=x.1/\x.1<=4096)/\(0<=x.2/\x.2<=4096)/\x.1*x.2<=1048576
instance (x:Int×Int):Decidable (BX x):=by unfold BX;infer_instance
def tT:Int×Int->Option (Int×Int×List Int):=fun(x:Int×Int)=>if BX x then some (x.1,x.2,ao x.1.toNat x.2.toNat fun _ _=>0) else none
def vz:Int×Int->Option (Int×Int×List Int):=fun(x:Int×Int)=>if BX x then some (x.1,x.2,ao x.1.toNat x.2.toNat fun _ _=>0) else none
def jW:(Int×Int×List Int)×Int×Int->Option Int:=fun(x:(Int×Int×List Int)×Int×Int)=>
 if m9 x.1/\(0<=x.2.1/\x.2.1<x.1.1)/\(0<=x.2.2/\x.2.2<x.1.2.1) then some (cE x.1.2.1.toNat x.1.2.2 x.2.1.toNat x.2.2.toNat) else none
def oz:(Int×Int×List Int)×Int×Int×Int->Option (List Int):=fun(x:(Int×Int×List Int)×Int×Int×Int)=>
 if m9 x.1/\(0<=x.2.1/\x.2.1<x.1.1)/\(0<=x.2.2.1/\x.2.2.1<x.1.2.1) then some (ao x.1.1.toNat x.1.2.1.toNat (jB (cE x.1.2.1.toNat x.1.2.2) x.2.1.toNat x.2.2.1.toNat x.2.2.2)) else none
def cq (M:Nat->Nat->Int) (a b:Nat):Nat->Nat->Int:=fun i j=>if i=a then M b j else if i=b then M a j else M i j
def rY:(Int×Int×List Int)×Int×Int->Option (List Int):=fun(x:(Int×Int×List Int)×Int×Int)=>
 if m9 x.1/\(0<=x.2.1/\x.2.1<x.1.1)/\(0<=x.2.2/\x.2.2<x.1.1) then some (ao x.1.1.toNat x.1.2.1.toNat (cq (cE x.1.2.1.toNat x.1.2.2) x.2.1.toNat x.2.2.toNat)) else none
def zH:(Int×Int×List Int)×Int×Int->Option (List Int):=rY
def oI (p:Int) (M:Nat->Nat->Int) (i k:Nat) (f:Int):Nat->Nat->Int:=fun a j=>if a=i then(M i j+f*M k j)%p else M a j
def xE:(Int×Int×List Int)×Int×Int×Int×Int->Option (List Int):=fun(x:(Int×Int×List Int)×Int×Int×Int×Int)=>
 if m9 x.1/\cP x.2.1/\(0<=x.2.2.1/\x.2.2.1<x.1.1)/\(0<=x.2.2.2.1/\x.2.2.2.1<x.1.1)/\(0<=x.2.2.2.2/\x.2.2.2.2<=x.2.1)/\dG x.2.1 x.1.2.2 then
  some (ao x.1.1.toNat x.1.2.1.toNat (oI x.2.1 (cE x.1.2.1.toNat x.1.2.2) x.2.2.1.toNat x.2.2.2.1.toNat x.2.2.2.2)) else none
def xI:Int×(Int×Int×List Int)×Int×Int×Int->Option (List Int):=fun(x:Int×(Int×Int×List Int)×Int×Int×Int)=>
 if m9 x.2.1/\cP x.1/\(0<=x.2.2.1/\x.2.2.1<x.2.1.1)/\(0<=x.2.2.2.1/\x.2.2.2.1<x.2.1.1)/\(0<=x.2.2.2.2/\x.2.2.2.2<=x.1)/\dG x.1 x.2.1.2.2 then
  some (ao x.2.1.1.toNat x.2.1.2.1.toNat (oI x.1 (cE x.2.1.2.1.toNat x.2.1.2.2) x.2.2.1.toNat x.2.2.2.1.toNat (x.1 - x.2.2.2.2))) else none
def ij (M:Nat->Nat->Int) (j:Nat):Nat->Nat->Option Nat
 |0,_=>none
 |d+1,k=>if M k j=0 then ij M j d (k+1) else some k
def u5 (o:Option Nat):Int:=match o with|some k=>(k:Int)|none=> -1
def xJ:(Int×Int×List Int)×Int×Int->Option Int:=fun(x:(Int×Int×List Int)×Int×Int)=>
 if m9 x.1/\(0<=x.2.1/\x.2.1<=x.1.1)/\(0<=x.2.2/\x.2.2<x.1.2.1) then some (u5 (ij (cE x.1.2.1.toNat x.1.2.2) x.2.2.toNat (x.1.1 - x.2.1).toNat x.2.1.toNat)) else none
def gT (p out x:Int) (n:Nat):Int:=if h:n=0 then out else gT p (if n%2=1 then out*x%p else out) (x*x%p) (n/2)
termination_by n
decreasing_by omega
def vE:Int×Int->Option Int:=fun(x:Int×Int)=>if cP x.1/\fy x.1 x.2 then some (gT x.1 1 x.2 (x.1 - 2).toNat) else none
def zJ:Int×Int->Option Int:=vE
def kq:List Int->Option (List Int):=fun(l:List Int)=>if l.length<=1099511627776 then some l else none
def ko:List Int->Option (List Int):=fun(l:List Int)=>if l.length<=1099511627776 then some l else none
def zI:Int×Int×List Int->Option (Int×Int×List Int):=fun(x:Int×Int×List Int)=>if x.2.2.length<=1099511627776 then some x else none
def EN (x:Int×(Int×Int×List Int)×(Int×Int×List Int)):Prop:=cP x.1/\m9 x.2.1/\m9 x.2.2/\x.2.1.2.1=x.2.2.1/\x.2.1.1*x.2.2.2.1<=1048576/\dG x.1 x.2.1.2.2/\dG x.1 x.2.2.2.2
instance (x:Int×(Int×Int×List Int)×(Int×Int×List Int)):Decidable (EN x):=by unfold EN;infer_instance
def pn:Int×(Int×Int×List Int)×(Int×Int×List Int)->Option (Int×Int×List Int):=fun(x:Int×(Int×Int×List Int)×(Int×Int×List Int))=>
 if EN x then some (x.2.1.1,x.2.2.2.1,ao x.2.1.1.toNat x.2.2.2.1.toNat (gu x.1 x.2.1.2.1.toNat (cE x.2.1.2.1.toNat x.2.1.2.2) (cE x.2.2.2.1.toNat x.2.2.2.2))) else none
def vA:Int×(Int×Int×List Int)×(Int×Int×List Int)->Option (Int×Int×List Int):=pn
def He:au:=[(.one,[.int .i64]),(.one,[.int .i64])]
def SR:au:=[(.agg,[.int .i64,.int .i64,.list [.int .i64]])]
def akD:be:=[]
def GI:au:=[(.one,[.int .i64]),(.one,[.int .i64])]
def Sl:au:=[(.agg,[.int .i64,.int .i64,.list [.int .i64]])]
def akc:be:=[]
def G8:au:=[(.one,[.list [.int .i64]])]
def SM:au:=[(.one,[.list [.int .i64]])]
def akz:be:=[]
def GG:au:=[(.one,[.list [.int .i64]])]
def Sj:au:=[(.one,[.list [.int .i64]])]
def aka:be:=[]
def GH:au:=[(.agg,[.int .i64,.int .i64,.list [.int .i64]])]
def Sk:au:=[(.agg,[.int .i64,.int .i64,.list [.int .i64]])]
def akb:be:=[]
def GA:au:=[(.agg,[.int .i64,.int .i64,.list [.int .i64]]),(.one,[.int .i64]),(.one,[.int .i64])]
def Sf:au:=[(.one,[.int .i64])]
def aj8:be:=[]
def GC:au:=[(.agg,[.int .i64,.int .i64,.list [.int .i64]]),(.one,[.int .i64]),(.one,[.int .i64]),(.one,[.int .i64])]
def Sg:au:=[(.one,[.list [.int .i64]])]
def Ke:be:=[[none,none,some .ab]]
def Hi:au:=[(.agg,[.int .i64,.int .i64,.list [.int .i64]]),(.one,[.int .i64]),(.one,[.int .i64])]
def SW:au:=[(.one,[.list [.int .i64]])]
def Kh:be:=[[none,none,some .ab]]
def GD:au:=[(.agg,[.int .i64,.int .i64,.list [.int .i64]]),(.one,[.int .i64]),(.one,[.int .i64])]
def Sh:au:=[(.one,[.list [.int .i64]])]
def Kf:be:=[[none,none,some .ab]]
def Gz:au:=[(.agg,[.int .i64,.int .i64,.list [.int .i64]]),(.one,[.int .i64]),(.one,[.int .i64]),(.one,[.int .i64]),(.one,[.int .i64])]
def Se:au:=[(.one,[.list [.int .i64]])]
def Kd:be:=[[none,none,some .ab]]
def G9:au:=[(.one,[.int .i64]),(.agg,[.int .i64,.int .i64,.list [.int .i64]]),(.one,[.int .i64]),(.one,[.int .i64]),(.one,[.int .i64])]
def SN:au:=[(.one,[.list [.int .i64]])]
def Kg:be:=[[],[none,none,some .ab]]
def Hf:au:=[(.agg,[.int .i64,.int .i64,.list [.int .i64]]),(.one,[.int .i64]),(.one,[.int .i64])]
def SS:au:=[(.one,[.int .i64])]
def akE:be:=[]
def Hc:au:=[(.one,[.int .i64]),(.one,[.int .i64])]
def SP:au:=[(.one,[.int .i64])]
def akB:be:=[]
def GL:au:=[(.one,[.int .i64]),(.one,[.int .i64])]
def So:au:=[(.one,[.int .i64])]
def akf:be:=[]
def Hd:au:=[(.one,[.int .i64]),(.agg,[.int .i64,.int .i64,.list [.int .i64]]),(.agg,[.int .i64,.int .i64,.list [.int .i64]])]
def SQ:au:=[(.agg,[.int .i64,.int .i64,.list [.int .i64]])]
def akC:be:=[]
def GM:au:=[(.one,[.int .i64]),(.agg,[.int .i64,.int .i64,.list [.int .i64]]),(.agg,[.int .i64,.int .i64,.list [.int .i64]])]
def Sq:au:=[(.agg,[.int .i64,.int .i64,.list [.int .i64]])]
def akg:be:=[]
def Ge (NN:Nat):(Int×Int)->(Option (Int×(Int×(List Int)))):=
 (fun((i0,i1):(Int×Int))=>
 (BU (cv .i64 i0 i1) (cv .i64 i0 i1) 8).aa (fun k2=>
 (dq (oh k2 (0:Int)) k2).aa (fun l3=>
 some (i0,i1,l3))))
def Vm (NN:Nat):(Int×Int)->(Option (Int×(Int×(List Int)))):=
 (fun((i0,i1):(Int×Int))=>
 (BU (cv .i64 i0 i1) (cv .i64 i0 i1) 8).aa (fun k2=>
 (dq (oh k2 (0:Int)) k2).aa (fun l3=>
 some (i0,i1,l3))))
def LP (NN:Nat):(List Int)->(Option (List Int)):=
 (fun(l0:(List Int))=>
 (ae 0 0 (U (([]:List Int)))).aa (fun _=>
 (ir (aL (U (([]:List Int))) (U l0)) 8).aa (fun _=>
 (dq (bU (([]:List Int)) l0) (aL (U (([]:List Int))) (U l0))).aa (fun l1=>
 some l1))))
def LD (NN:Nat):(List Int)->(Option (List Int)):=
 (fun(l0:(List Int))=>
 (ir (aL (U (([]:List Int))) (U l0)) 8).aa (fun _=>
 (dq (bU (([]:List Int)) l0) (aL (U (([]:List Int))) (U l0))).aa (fun l1=>
 some l1)))
def LF (NN:Nat):(Int×(Int×(List Int)))->(Option (Int×(Int×(List Int)))):=
 (fun((i0,i1,l2):(Int×(Int×(List Int))))=>
 (ko l2).aa (fun l3=>
 (dq l3 (U l3)).aa (fun l4=>
 some (i0,i1,l4))))
def FR (NN:Nat):((Int×(Int×(List Int)))×(Int×Int))->(Option Int):=
 (fun(((i0,i1,l2),i3,i4):((Int×(Int×(List Int)))×(Int×Int)))=>
 (eJ l2 (aY .i64 (cv .i64 i3 i1) i4)).aa (fun i5=>
 some i5))
def FT (NN:Nat):((Int×(Int×(List Int)))×(Int×(Int×Int)))->(Option (List Int)):=
 (fun(((i0,i1,l2),i3,i4,i5):((Int×(Int×(List Int)))×(Int×(Int×Int))))=>
 (eB (aY .i64 (cv .i64 i3 i1) i4) (U l2)).aa (fun k6=>
 (dJ l2 (aL 0 k6)).aa (fun i7=>
 (ve (U (dd l2 (aL 0 k6) i5)) (U l2)).aa (fun _=>
 some (dd l2 (aL 0 k6) i5)))))
def Gi (NN:Nat):((Int×(Int×(List Int)))×(Int×Int))->(Option (List Int)):=
 (fun(((i0,i1,l2),i3,i4):((Int×(Int×(List Int)))×(Int×Int)))=>
 (ae 0 (U l2) (U l2)).aa (fun _=>
 bg NN (fun(((i5,i6,i7),l8,i9,cd):((Int×(Int×Int))×((List Int)×(Int×Int))))=>
 aJ (bC i7 cd)
 ((eB (aY .i64 (cv .i64 i5 cd) i7) (U l8)).aa (fun Px=>
 (dJ l8 (aL 0 Px)).aa (fun cO=>
 (eB (aY .i64 (cv .i64 i6 cd) i7) (U l8)).aa (fun k13=>
 (dJ l8 (aL 0 k13)).aa (fun c9=>
 (eB (aY .i64 (cv .i64 i5 cd) i7) (U l8)).aa (fun Bm=>
 (dJ l8 (aL 0 Bm)).aa (fun dj=>
 (eB (aY .i64 (cv .i64 i6 cd) i7) (U l8)).aa (fun Eu=>
 (dJ (dd l8 (aL 0 Bm) c9) (aL 0 Eu)).aa (fun dR=>
 (ae 0 (U l8) (U (dd (dd l8 (aL 0 Bm) c9) (aL 0 Eu) cO))).aa (fun _=>
 some (Sum.inl ((i5,i6,aY .i64 i7 1),dd (dd l8 (aL 0 Bm) c9) (aL 0 Eu) cO,i9,cd))))))))))))
 (((ve (U l8) (U l2)).aa (fun _=>
 some l8)).aa (fun iG=>
 some (Sum.inr iG))))
 ((i3,i4,(0:Int)),l2,i0,i1)))
def FU (NN:Nat):((Int×(Int×(List Int)))×(Int×Int))->(Option (List Int)):=
 (fun(((i0,i1,l2),i3,i4):((Int×(Int×(List Int)))×(Int×Int)))=>
 (ae 0 (U l2) (U l2)).aa (fun _=>
 bg NN (fun(((i5,i6,i7),l8,i9,cd):((Int×(Int×Int))×((List Int)×(Int×Int))))=>
 aJ (bC i7 cd)
 ((dg l8 0 (U l8)).aa (fun eU=>
 (jW ((i9,cd,eU),i5,i7)).aa (fun cO=>
 (dg l8 0 (U l8)).aa (fun gn=>
 (jW ((i9,cd,gn),i6,i7)).aa (fun c9=>
 (ae 0 (U l8) (U l8)).aa (fun _=>
 (oz ((i9,cd,l8),i5,i7,c9)).aa (fun bK=>
 (ae 0 (U l8) (U bK)).aa (fun _=>
 (oz ((i9,cd,bK),i6,i7,cO)).aa (fun fa=>
 (ae 0 (U l8) (U fa)).aa (fun _=>
 some (Sum.inl ((i5,i6,aY .i64 i7 1),fa,i9,cd))))))))))))
 (((ve (U l8) (U l2)).aa (fun _=>
 some l8)).aa (fun ct=>
 some (Sum.inr ct))))
 ((i3,i4,(0:Int)),l2,i0,i1)))
def FQ (NN:Nat):((Int×(Int×(List Int)))×(Int×(Int×(Int×Int))))->(Option (List Int)):=
 (fun(((i0,i1,l2),i3,i4,i5,i6):((Int×(Int×(List Int)))×(Int×(Int×(Int×Int)))))=>
 (ae 0 (U l2) (U l2)).aa (fun _=>
 bg NN (fun(((i7,i8,i9,cd,cm),dW,di,c9):((Int×(Int×(Int×(Int×Int))))×((List Int)×(Int×Int))))=>
 aJ (bC cm c9)
 ((dg dW 0 (U dW)).aa (fun bK=>
 (jW ((di,c9,bK),i8,cm)).aa (fun dj=>
 (dg dW 0 (U dW)).aa (fun ct=>
 (jW ((di,c9,ct),i9,cm)).aa (fun dR=>
 (fL (aY .i64 dj (cv .i64 cd dR)) i7).aa (fun dk=>
 (ae 0 (U dW) (U dW)).aa (fun _=>
 (oz ((di,c9,dW),i8,cm,dk)).aa (fun eo=>
 (ae 0 (U dW) (U eo)).aa (fun _=>
 some (Sum.inl ((i7,i8,i9,cd,aY .i64 cm 1),eo,di,c9)))))))))))
 (((ve (U dW) (U l2)).aa (fun _=>
 some dW)).aa (fun fz=>
 some (Sum.inr fz))))
 ((i3,i4,i5,i6,(0:Int)),l2,i0,i1)))
def Gb (NN:Nat):(Int×((Int×(Int×(List Int)))×(Int×(Int×Int))))->(Option (List Int)):=
 (fun((i0,(i1,i2,l3),i4,i5,i6):(Int×((Int×(Int×(List Int)))×(Int×(Int×Int)))))=>
 (ae 0 (U l3) (U l3)).aa (fun _=>
 bg NN (fun(((i7,i8,i9,cd,cm),dW,di,c9):((Int×(Int×(Int×(Int×Int))))×((List Int)×(Int×Int))))=>
 aJ (bC cm c9)
 ((eB (aY .i64 (cv .i64 i8 c9) cm) (U dW)).aa (fun Bm=>
 (dJ dW (aL 0 Bm)).aa (fun dj=>
 (eB (aY .i64 (cv .i64 i9 c9) cm) (U dW)).aa (fun Eu=>
 (dJ dW (aL 0 Eu)).aa (fun dR=>
 (fL (aY .i64 dj (cv .i64 (nh .i64 i7 cd) dR)) i7).aa (fun dk=>
 (eB (aY .i64 (cv .i64 i8 c9) cm) (U dW)).aa (fun Pz=>
 (dJ dW (aL 0 Pz)).aa (fun iA=>
 (ae 0 (U dW) (U (dd dW (aL 0 Pz) dk))).aa (fun _=>
 some (Sum.inl ((i7,i8,i9,cd,aY .i64 cm 1),dd dW (aL 0 Pz) dk,di,c9)))))))))))
 (((ve (U dW) (U l3)).aa (fun _=>
 some dW)).aa (fun cQ=>
 some (Sum.inr cQ))))
 ((i0,i4,i5,i6,(0:Int)),l3,i1,i2)))
def Gf (NN:Nat):((Int×(Int×(List Int)))×(Int×Int))->(Option Int):=
 (fun(((i0,i1,l2),i3,i4):((Int×(Int×(List Int)))×(Int×Int)))=>
 bO (bg NN (fun(((i5,i6),i7,i8,l9):((Int×Int)×(Int×(Int×(List Int)))))=>
 aJ (bC i6 i7)
 ((eJ l9 (aY .i64 (cv .i64 i6 i8) i5)).aa (fun cd=>
 aJ (eu cd (0:Int))
 (some (Sum.inr (Sum.inr i6)))
 (some (Sum.inl ((i5,aY .i64 i6 1),i7,i8,l9)))))
 (some (Sum.inr (Sum.inl ()))))
 ((i4,i3),i0,i1,l2))
 (fun _=>
 some ((-1:Int))))
def LQ (NN:Nat):(Int×Int)->(Option Int):=
 (fun((i0,i1):(Int×Int))=>
 bO (bg NN (fun((i2,i3,i4,i5):(Int×(Int×(Int×Int))))=>
 aJ (bC (0:Int) i5)
 ((fL i5 (2:Int)).aa (fun i6=>
 bO (aJ (fE i6 (1:Int))
 ((fL (cv .i64 i4 i3) i2).aa (fun i7=>
 some (Sum.inl (i3,i5,i2,i7))))
 (some (Sum.inl (i3,i5,i2,i4))))
 (fun(i8,i9,cd,cm)=>
 (fL (cv .i64 i8 i8) cd).aa (fun cO=>
 (E3 .i64 i9 (2:Int)).aa (fun di=>
 some (Sum.inl (cd,cO,cm,di)))))))
 (some (Sum.inr (Sum.inl i4))))
 (i0,i1,(1:Int),nh .i64 i0 2))
 (fun c9=>
 some c9))
def LH (NN:Nat):(Int×Int)->(Option Int):=
 (fun((i0,i1):(Int×Int))=>
 bO (bg NN (fun((i2,i3,i4,i5):(Int×(Int×(Int×Int))))=>
 aJ (bC (0:Int) i5)
 (bO (aJ (fE (pq .i64 i5 (1:Int)) (1:Int))
 ((fL (cv .i64 i4 i3) i2).aa (fun i6=>
 some (Sum.inl (i3,i5,i2,i6))))
 (some (Sum.inl (i3,i5,i2,i4))))
 (fun(i7,i8,i9,cd)=>
 (fL (cv .i64 i7 i7) i9).aa (fun cm=>
 (tH .i64 i8 (1:Int)).aa (fun cO=>
 some (Sum.inl (i9,cm,cd,cO))))))
 (some (Sum.inr (Sum.inl i4))))
 (i0,i1,(1:Int),nh .i64 i0 2))
 (fun di=>
 some di))
def Gd (NN:Nat):(Int×((Int×(Int×(List Int)))×(Int×(Int×(List Int)))))->(Option (Int×(Int×(List Int)))):=
 (fun((i0,(i1,i2,l3),i4,i5,l6):(Int×((Int×(Int×(List Int)))×(Int×(Int×(List Int))))))=>
 (tT (i1,i5)).aa (fun(i7,i8,l9)=>
 bO ((ae 0 0 (U (([]:List Int)))).aa (fun _=>
 (ae 0 (U l9) (U l9)).aa (fun _=>
 bg NN (fun(((cd,cm),(cO,di,fj),(lA,dj,ct),(dR,dk),(gF,iA),cQ,fJ):((Int×Int)×((Int×(Int×(List Int)))×((Int×(Int×(List Int)))×((Int×Int)×((Int×Int)×((List Int)×(List Int))))))))=>
 aJ (bC cm cO)
 (bO ((ae 0 (U cQ) (U cQ)).aa (fun _=>
 (ae 0 (U fJ) (U fJ)).aa (fun _=>
 bg NN (fun(((gi,ig,fR),(gQ,f0,gV),(lB,j7,dn),(pW,ja),(jp,mR),eN,kE):((Int×(Int×Int))×((Int×(Int×(List Int)))×((Int×(Int×(List Int)))×((Int×Int)×((Int×Int)×((List Int)×(List Int))))))))=>
 aJ (bC fR j7)
 (bO (bO ((ae 0 (U eN) (U eN)).aa (fun _=>
 (ae 0 (U kE) (U kE)).aa (fun _=>
 bg NN (fun(((j8,mT,lC,ii,iB),(jO,iC,ju),(f6,iD,jd),(jq,kz),(jP,kA),eW,eG):((Int×(Int×(Int×(Int×Int))))×((Int×(Int×(List Int)))×((Int×(Int×(List Int)))×((Int×Int)×((Int×Int)×((List Int)×(List Int))))))))=>
 aJ (bC iB iC)
 ((eJ ju (aY .i64 (cv .i64 mT iC) iB)).aa (fun pZ=>
 (eJ jd (aY .i64 (cv .i64 iB iD) lC)).aa (fun me=>
 (fL (aY .i64 ii (cv .i64 pZ me)) j8).aa (fun nQ=>
 (ae 0 (U eW) (U eW)).aa (fun _=>
 (ae 0 (U eG) (U eG)).aa (fun _=>
 some (Sum.inl ((j8,mT,lC,nQ,aY .i64 iB 1),(jO,iC,ju),(f6,iD,jd),(jq,kz),(jP,kA),eW,eG))))))))
 (((ae 0 (U eW) (U eW)).aa (fun _=>
 (ae 0 (U eG) (U eG)).aa (fun _=>
 some (Sum.inl ((ii,lC,j8,mT),(jO,iC,ju),(f6,iD,jd),(jq,kz),(jP,kA),eW,eG))))).aa (fun jv=>
 some (Sum.inr jv))))
 ((gi,ig,fR,(0:Int),(0:Int)),(gQ,f0,gV),(lB,j7,dn),(pW,ja),(jp,mR),eN,kE))))
 (fun((p9,sL,Em,lE),(i64,sM,mq),(ry,uL,nZ),(uM,uN),(oS,jQ),lK,iI)=>
 (eB (aY .i64 (cv .i64 lE uL) sL) (U iI)).aa (fun PJ=>
 (dJ iI (aL 0 PJ)).aa (fun jr=>
 (ae 0 (U lK) (U lK)).aa (fun _=>
 (ae 0 (U iI) (U (dd iI (aL 0 PJ) p9))).aa (fun _=>
 some (Sum.inl ((sL,Em,lE),(i64,sM,mq),(ry,uL,nZ),(uM,uN),(oS,jQ),lK,dd iI (aL 0 PJ) p9))))))))
 (fun((jb,gj,gR),(sO,Bc,fm),(sP,yS,m6),(nR,sQ),(Be,uO),uW,uY)=>
 (ae 0 (U uW) (U uW)).aa (fun _=>
 (ae 0 (U uY) (U uY)).aa (fun _=>
 some (Sum.inl ((gj,gR,aY .i64 jb 1),(sO,Bc,fm),(sP,yS,m6),(nR,sQ),(Be,uO),uW,uY))))))
 (((ae 0 (U eN) (U eN)).aa (fun _=>
 (ae 0 (U kE) (U kE)).aa (fun _=>
 some (Sum.inl ((ig,gi),(gQ,f0,gV),(lB,j7,dn),(pW,ja),(jp,mR),eN,kE))))).aa (fun J8=>
 some (Sum.inr J8))))
 ((cd,cm,(0:Int)),(cO,di,fj),(lA,dj,ct),(dR,dk),(gF,iA),cQ,fJ))))
 (fun((sR,lF),(uQ,Bg,j9),(wJ,yP,rA),(wH,uK),(nO,A3),iF,jc)=>
 (ae 0 (U iF) (U iF)).aa (fun _=>
 (ae 0 (U jc) (U jc)).aa (fun _=>
 some (Sum.inl ((lF,aY .i64 sR 1),(uQ,Bg,j9),(wJ,yP,rA),(wH,uK),(nO,A3),iF,jc))))))
 (((ae 0 (U cQ) (U cQ)).aa (fun _=>
 (ae 0 (U fJ) (U fJ)).aa (fun _=>
 some (Sum.inl ((dR,dk),(gF,iA),cQ,fJ))))).aa (fun mV=>
 some (Sum.inr mV))))
 ((i0,(0:Int)),(i1,i2,l3),(i4,i5,l6),((0:Int),(0:Int)),(i7,i8),([]:List Int),l9))))
 (fun((A4,sJ),(rv,sK),PN,uU)=>
 (dq uU (U uU)).aa (fun wP=>
 some (rv,sK,wP)))))
def FX (NN:Nat):(Int×((Int×(Int×(List Int)))×(Int×(Int×(List Int)))))->(Option (Int×(Int×(List Int)))):=
 (fun((i0,(i1,i2,l3),i4,i5,l6):(Int×((Int×(Int×(List Int)))×(Int×(Int×(List Int))))))=>
 (vz (i1,i5)).aa (fun(i7,i8,l9)=>
 bO ((ae 0 0 (U (([]:List Int)))).aa (fun _=>
 (ae 0 (U l9) (U l9)).aa (fun _=>
 bg NN (fun(((cd,cm),(cO,di,fj),(lA,dj,ct),(dR,dk),(gF,iA),cQ,fJ):((Int×Int)×((Int×(Int×(List Int)))×((Int×(Int×(List Int)))×((Int×Int)×((Int×Int)×((List Int)×(List Int))))))))=>
 aJ (bC cm cO)
 (bO ((ae 0 (U cQ) (U cQ)).aa (fun _=>
 (ae 0 (U fJ) (U fJ)).aa (fun _=>
 bg NN (fun(((gi,ig,fR),(gQ,f0,gV),(lB,j7,dn),(pW,ja),(jp,mR),eN,kE):((Int×(Int×Int))×((Int×(Int×(List Int)))×((Int×(Int×(List Int)))×((Int×Int)×((Int×Int)×((List Int)×(List Int))))))))=>
 aJ (bC fR j7)
 (bO (bO ((ae 0 (U eN) (U eN)).aa (fun _=>
 (ae 0 (U kE) (U kE)).aa (fun _=>
 bg NN (fun(((j8,mT,lC,ii,iB),(jO,iC,ju),(f6,iD,jd),(jq,kz),(jP,kA),eW,eG):((Int×(Int×(Int×(Int×Int))))×((Int×(Int×(List Int)))×((Int×(Int×(List Int)))×((Int×Int)×((Int×Int)×((List Int)×(List Int))))))))=>
 aJ (bC iB iC)
 ((jW ((jO,iC,ju),mT,iB)).aa (fun pZ=>
 (jW ((f6,iD,jd),iB,lC)).aa (fun me=>
 (fL (aY .i64 ii (cv .i64 pZ me)) j8).aa (fun nQ=>
 (ae 0 (U eW) (U eW)).aa (fun _=>
 (ae 0 (U eG) (U eG)).aa (fun _=>
 some (Sum.inl ((j8,mT,lC,nQ,aY .i64 iB 1),(jO,iC,ju),(f6,iD,jd),(jq,kz),(jP,kA),eW,eG))))))))
 (((ae 0 (U eW) (U eW)).aa (fun _=>
 (ae 0 (U eG) (U eG)).aa (fun _=>
 some (Sum.inl ((ii,lC,j8,mT),(jO,iC,ju),(f6,iD,jd),(jq,kz),(jP,kA),eW,eG))))).aa (fun jv=>
 some (Sum.inr jv))))
 ((gi,ig,fR,(0:Int),(0:Int)),(gQ,f0,gV),(lB,j7,dn),(pW,ja),(jp,mR),eN,kE))))
 (fun((p9,sL,Em,lE),(i64,sM,mq),(ry,uL,nZ),(uM,uN),(oS,jQ),lK,iI)=>
 (ae 0 (U iI) (U iI)).aa (fun _=>
 (oz ((oS,jQ,iI),lE,sL,p9)).aa (fun BO=>
 (ae 0 (U lK) (U lK)).aa (fun _=>
 (ae 0 (U iI) (U BO)).aa (fun _=>
 some (Sum.inl ((sL,Em,lE),(i64,sM,mq),(ry,uL,nZ),(uM,uN),(oS,jQ),lK,BO))))))))
 (fun((jr,jb,gj),(gR,sO,eX),(JE,sP,mZ),(Bd,nR),(sQ,Be),m7,uW)=>
 (ae 0 (U m7) (U m7)).aa (fun _=>
 (ae 0 (U uW) (U uW)).aa (fun _=>
 some (Sum.inl ((jb,gj,aY .i64 jr 1),(gR,sO,eX),(JE,sP,mZ),(Bd,nR),(sQ,Be),m7,uW))))))
 (((ae 0 (U eN) (U eN)).aa (fun _=>
 (ae 0 (U kE) (U kE)).aa (fun _=>
 some (Sum.inl ((ig,gi),(gQ,f0,gV),(lB,j7,dn),(pW,ja),(jp,mR),eN,kE))))).aa (fun uY=>
 some (Sum.inr uY))))
 ((cd,cm,(0:Int)),(cO,di,fj),(lA,dj,ct),(dR,dk),(gF,iA),cQ,fJ))))
 (fun((qa,sR),(lF,uQ,mr),(Bh,wJ,qd),(A2,wH),(uK,nO),rB,iF)=>
 (ae 0 (U rB) (U rB)).aa (fun _=>
 (ae 0 (U iF) (U iF)).aa (fun _=>
 some (Sum.inl ((sR,aY .i64 qa 1),(lF,uQ,mr),(Bh,wJ,qd),(A2,wH),(uK,nO),rB,iF))))))
 (((ae 0 (U cQ) (U cQ)).aa (fun _=>
 (ae 0 (U fJ) (U fJ)).aa (fun _=>
 some (Sum.inl ((dR,dk),(gF,iA),cQ,fJ))))).aa (fun jc=>
 some (Sum.inr jc))))
 ((i0,(0:Int)),(i1,i2,l3),(i4,i5,l6),((0:Int),(0:Int)),(i7,i8),([]:List Int),l9))))
 (fun((YC,A4),(sJ,rv),apc,PN)=>
 (dq PN (U PN)).aa (fun uU=>
 some (sJ,rv,uU)))))
theorem alS {r c:Nat} (hr:r<=4096) (hc:c<=4096) (h:r*c<=1048576):BX ((r:Int),(c:Int)):=by
 refine⟨⟨by omega,by show(r:Int)<=4096;omega⟩,⟨by show(0:Int)<=c;omega,by show(c:Int)<=4096;omega⟩,?_⟩
 show(r:Int)*(c:Int)<=1048576
 have e:(r:Int)*(c:Int)=((r*c:Nat):Int):=by norm_cast
 omega
theorem alR {x:Int×Int} (h:BX x):∃r c:Nat,x=((r:Int),(c:Int))/\r<=4096/\c<=4096/\r*c<=1048576:=by
 obtain⟨r,c⟩:=x
 obtain⟨h1,h2,h3⟩:=h
 simp only at h1 h2 h3
 obtain⟨r,rfl⟩:=f9 h1.1
 obtain⟨c,rfl⟩:=f9 h2.1
 have e:(r:Int)*(c:Int)=((r*c:Nat):Int):=by norm_cast
 exact⟨r,c,rfl,by omega,by omega,by omega⟩
theorem Kk {r c:Nat} (hr:r<=4096) (hc:c<=4096) (h:r*c<=1048576):tT ((r:Int),(c:Int))=some ((r:Int),(c:Int),ao r c fun _ _=>0):=by
 simp only[tT,Int.toNat_natCast]
 rw[if_pos (alS hr hc h)]
theorem Rs {r c:Nat} (hr:r<=4096) (hc:c<=4096) (h:r*c<=1048576):vz ((r:Int),(c:Int))=some ((r:Int),(c:Int),ao r c fun _ _=>0):=Kk hr hc h
theorem afx {r c:Nat} (hr:r<=4096) (hc:c<=4096) (h:r*c<=1048576):Ge aB ((r:Int),(c:Int))=some ((r:Int),(c:Int),ao r c fun _ _=>0):=by
 simp only[Ge]
 rw[akS (by omega) (by omega)]
 have:=aj2 (n:=r*c) (by_:=8) (by unfold dK;omega)
 rw[show((r*c:Nat):Int)=aO (r*c) from rfl,this,ak,afJ]
 rw[show dq (ao r c fun _ _=>0) (r*c)=some (ao r c fun _ _=>0) by
  have:=kf (ao r c fun _ _=>(0:Int))
  rwa[BP] at this]
 rfl
theorem W6 (x:Int×Int) (y:Int×Int×List Int) (h:tT x=some y):Ge aB x=some y:=by
 simp only[tT] at h
 split at h
 ·rename_i hc
  obtain⟨r,c,rfl,h1,h2,h3⟩:=alR hc
  rw[<-h,afx h1 h2 h3];rfl
 ·cases h
theorem aeG (x:Int×Int) (y:Int×Int×List Int) (h:vz x=some y):Vm aB x=some y:=W6 x y h
theorem ae3 (x y:List Int) (h:kq x=some y):LP aB x=some y:=by
 simp only[kq] at h
 split at h
 ·rename_i hl
  rw[<-h]
  simp only[LP]
  rw[show ae 0 0 (U ([]:List Int))=some () from rfl,ak,jH (by simp only[aL,U,List.length_nil,dK];omega),ak]
  have:bU [] x=x:=rfl
  rw[this,show aL (U ([]:List Int)) (U x)=U x by simp[aL,U],kf]
  rfl
 ·cases h
theorem aeE (x y:List Int) (h:ko x=some y):LD aB x=some y:=by
 simp only[ko] at h
 split at h
 ·rename_i hl
  rw[<-h]
  simp only[LD]
  rw[jH (by simp only[aL,U,List.length_nil,dK];omega),ak]
  have:bU [] x=x:=rfl
  rw[this,show aL (U ([]:List Int)) (U x)=U x by simp[aL,U],kf]
  rfl
 ·cases h
theorem aeF (x y:Int×Int×List Int) (h:zI x=some y):LF aB x=some y:=by
 obtain⟨r,c,l⟩:=x
 simp only[zI] at h
 split at h
 ·rename_i hl
  rw[<-h]
  simp only[LF,ko,if_pos hl,ak,kf]
 ·cases h
theorem oY {a b:Int} (h:0<=a/\a<b):∃n:Nat,a=(n:Int)/\∀m:Nat,b=(m:Int)->n<m:=⟨a.toNat,by omega,fun m hm=>by omega⟩
theorem alM {a b:Int} (h:0<=a/\a<=b):∃n:Nat,a=(n:Int)/\∀m:Nat,b=(m:Int)->n<=m:=⟨a.toNat,by omega,fun m hm=>by omega⟩
theorem afq {r c i j:Nat} {M:Nat->Nat->Int} (hr:r<=4096) (hc:c<=4096) (hi:i<r) (hj:j<c):FR aB (((r:Int),(c:Int),ao r c M),(i:Int),(j:Int))=some (M i j):=by
 simp only[FR]
 rw[lG (by omega) (by omega) (by omega),Aw M hi hj];rfl
theorem nA {r c i j:Nat} {M:Nat->Nat->Int} (hr:r<=4096) (hc:c<=4096) (h:r*c<=1048576) (hi:i<r) (hj:j<c):jW (((r:Int),(c:Int),ao r c M),(i:Int),(j:Int))=some (M i j):=by
 simp only[jW,Int.toNat_natCast]
 rw[if_pos ⟨wY M hr hc h,by omega,by omega⟩]
 rw[mA M hi hj]
theorem aeA (x:(Int×Int×List Int)×Int×Int) (y:Int) (h:jW x=some y):FR aB x=some y:=by
 obtain⟨m,i,j⟩:=x
 simp only[jW] at h
 split at h
 ·rename_i hc
  obtain⟨h1,h2,h3⟩:=hc
  obtain⟨r,c,M,rfl,hr,hc,dB⟩:=tv h1
  obtain⟨i,rfl,hi⟩:=oY h2
  obtain⟨j,rfl,hj⟩:=oY h3
  have hi:=hi r rfl;have hj:=hj c rfl
  rw[<-h,afq hr hc hi hj]
  exact congrArg some (mA M hi hj).symm
 ·cases h
theorem afF {r c i j:Nat} {M:Nat->Nat->Int} {x:Int} (hr:r<=4096) (hc:c<=4096) (hi:i<r) (hj:j<c):FT aB (((r:Int),(c:Int),ao r c M),(i:Int),(j:Int),x)=some (ao r c (jB M i j x)):=by
 simp only[FT]
 rw[lG (by omega) (by omega) (by omega),qQ M hi hj,ak,mF,q9 M hi hj,ak,zo M hj,E8,ak]
theorem xn {r c i j:Nat} {M:Nat->Nat->Int} {x:Int} (hr:r<=4096) (hc:c<=4096) (h:r*c<=1048576) (hi:i<r) (hj:j<c):oz (((r:Int),(c:Int),ao r c M),(i:Int),(j:Int),x)=some (ao r c (jB M i j x)):=by
 simp only[oz,Int.toNat_natCast]
 rw[if_pos ⟨wY M hr hc h,by omega,by omega⟩]
 refine(congrArg some (ib fun a ha b hb=>?_))
 unfold jB
 rw[mA M ha hb]
theorem aeB (x:(Int×Int×List Int)×Int×Int×Int) (y:List Int) (h:oz x=some y):FT aB x=some y:=by
 obtain⟨m,i,j,v⟩:=x
 have h0:=h
 simp only[oz] at h
 split at h
 ·rename_i hc
  obtain⟨h1,h2,h3⟩:=hc
  obtain⟨r,c,M,rfl,hr,hc,dB⟩:=tv h1
  obtain⟨i,rfl,hi⟩:=oY h2
  obtain⟨j,rfl,hj⟩:=oY h3
  have hi:=hi r rfl;have hj:=hj c rfl
  rw[<-h0,afF hr hc hi hj,xn hr hc dB hi hj]
 ·cases h
def xw (M:Nat->Nat->Int) (a b k:Nat):Nat->Nat->Int:=fun i j=>if j<k then cq M a b i j else M i j
theorem aco (M:Nat->Nat->Int) (a b:Nat):xw M a b 0=M:=by funext i j;exact if_neg (by omega)
theorem acr {r c:Nat} (M:Nat->Nat->Int) (a b k:Nat):ao r c (jB (jB (xw M a b k) a k (M b k)) b k (M a k))=ao r c (xw M a b (k+1)):=by
 refine ib fun i _ j _=>?_
 unfold jB xw cq
 by_cases hj:j=k
 ·subst hj
  by_cases hb:i=b
  ·by_cases ha:i=a
   ·subst hb;subst ha;simp
   ·have:b≠a:=fun e=>ha (hb.trans e)
    simp[hb,this]
  ·by_cases ha:i=a
   ·have:a≠b:=fun e=>hb (ha.trans e)
    simp[ha,this]
   ·simp[ha,hb]
 ·have h1:¬(i=b/\j=k):=fun h=>hj h.2
  have h2:¬(i=a/\j=k):=fun h=>hj h.2
  rw[if_neg h1,if_neg h2]
  by_cases hk:j<k
  ·simp only[if_pos hk,if_pos (show j<k+1 by omega)]
  ·simp only[if_neg hk,if_neg (show¬j<k+1 by omega)]
theorem acp {r c:Nat} (M:Nat->Nat->Int) (a b:Nat):ao r c (xw M a b c)=ao r c (cq M a b):=ib fun i _ j hj=>if_pos hj
theorem acq (M:Nat->Nat->Int) (a b k i:Nat):xw M a b k i k=M i k:=if_neg (by omega)
theorem afI {r c a b:Nat} {M:Nat->Nat->Int} (hr:r<=4096) (hc:c<=4096) (ha:a<r) (hb:b<r):Gi aB (((r:Int),(c:Int),ao r c M),(a:Int),(b:Int))=some (ao r c (cq M a b)):=by
 simp only[Gi,bQ,ak]
 refine fc (fun k=>(((a:Int),(b:Int),(k:Int)),ao r c (xw M a b k),(r:Int),(c:Int))) c ?_ ?_ ?_ (cN (by omega))
 ·intro k hk
  simp only
  rw[aQ (fo hk),lG (by omega) (by omega) (by omega),lG (by omega) (by omega) (by omega)]
  simp only[qQ _ ha hk,qQ _ hb hk,ak,mF,q9 _ ha hk,q9 _ hb hk,zo _ hk,lW,acq,eQ (show k<=1048577 by omega),acr]
 ·simp only
  rw[aN (fK (Nat.le_refl c)),E8,ak,ak,acp]
 ·rw[aco];rfl
theorem Lc {r c a b:Nat} {M:Nat->Nat->Int} (hr:r<=4096) (hc:c<=4096) (h:r*c<=1048576) (ha:a<r) (hb:b<r):rY (((r:Int),(c:Int),ao r c M),(a:Int),(b:Int))=some (ao r c (cq M a b)):=by
 simp only[rY,Int.toNat_natCast]
 rw[if_pos ⟨wY M hr hc h,by omega,by omega⟩]
 refine(congrArg some (ib fun i hi j hj=>?_))
 unfold cq
 rw[mA M hb hj,mA M ha hj,mA M hi hj]
theorem afa (x:(Int×Int×List Int)×Int×Int) (y:List Int) (h:rY x=some y):Gi aB x=some y:=by
 obtain⟨m,i,j⟩:=x
 have h0:=h
 simp only[rY] at h
 split at h
 ·rename_i hc
  obtain⟨h1,h2,h3⟩:=hc
  obtain⟨r,c,M,rfl,hr,hc,dB⟩:=tv h1
  obtain⟨i,rfl,hi⟩:=oY h2
  obtain⟨j,rfl,hj⟩:=oY h3
  have hi:=hi r rfl;have hj:=hj r rfl
  rw[<-h0,afI hr hc hi hj,Lc hr hc dB hi hj]
 ·cases h
theorem afH {r c a b:Nat} {M:Nat->Nat->Int} (hr:r<=4096) (hc:c<=4096) (h:r*c<=1048576) (ha:a<r) (hb:b<r):FU aB (((r:Int),(c:Int),ao r c M),(a:Int),(b:Int))=some (ao r c (cq M a b)):=by
 simp only[FU,bQ,ak,il]
 refine fc (fun k=>(((a:Int),(b:Int),(k:Int)),ao r c (xw M a b k),(r:Int),(c:Int))) c ?_ ?_ ?_ (cN (by omega))
 ·intro k hk
  simp only
  rw[aQ (fo hk)]
  simp only[nA hr hc h ha hk,nA hr hc h hb hk,xn hr hc h ha hk,xn hr hc h hb hk,ak,lW,acq,eQ (show k<=1048577 by omega),acr]
 ·simp only
  rw[aN (fK (Nat.le_refl c)),E8,ak,ak,acp]
 ·rw[aco];rfl
theorem aeC (x:(Int×Int×List Int)×Int×Int) (y:List Int) (h:zH x=some y):FU aB x=some y:=by
 obtain⟨m,i,j⟩:=x
 have h0:rY (m,i,j)=some y:=h
 simp only[zH,rY] at h
 split at h
 ·rename_i hc
  obtain⟨h1,h2,h3⟩:=hc
  obtain⟨r,c,M,rfl,hr,hc,dB⟩:=tv h1
  obtain⟨i,rfl,hi⟩:=oY h2
  obtain⟨j,rfl,hj⟩:=oY h3
  have hi:=hi r rfl;have hj:=hj r rfl
  rw[<-h0,afH hr hc dB hi hj,Lc hr hc dB hi hj]
 ·cases h
def vV (p:Int) (M:Nat->Nat->Int) (i k:Nat) (f:Int) (n:Nat):Nat->Nat->Int:=fun a j=>if j<n then oI p M i k f a j else M a j
theorem V9 (p:Int) (M:Nat->Nat->Int) (i k:Nat) (f:Int):vV p M i k f 0=M:=by funext a j;exact if_neg (by omega)
theorem We {r c:Nat} (p:Int) (M:Nat->Nat->Int) (i k:Nat) (f:Int) (n:Nat):ao r c (jB (vV p M i k f n) i n ((M i n+f*M k n)%p))=ao r c (vV p M i k f (n+1)):=by
 refine ib fun a _ j _=>?_
 unfold jB vV oI
 by_cases hj:j=n
 ·subst hj
  by_cases ha:a=i
  ·subst ha;simp
  ·simp[ha]
 ·rw[if_neg (fun h=>hj h.2)]
  by_cases hk:j<n
  ·simp only[if_pos hk,if_pos (show j<n+1 by omega)]
  ·simp only[if_neg hk,if_neg (show¬j<n+1 by omega)]
theorem Wa {r c:Nat} (p:Int) (M:Nat->Nat->Int) (i k:Nat) (f:Int):ao r c (vV p M i k f c)=ao r c (oI p M i k f):=ib fun a _ j hj=>if_pos hj
theorem Wb (p:Int) (M:Nat->Nat->Int) (i k:Nat) (f:Int) (n a:Nat):vV p M i k f n a n=M a n:=if_neg (by omega)
theorem afp {p f:Int} {r c i k:Nat} {M:Nat->Nat->Int} (hp:cP p) (hr:r<=4096) (hc:c<=4096) (h:r*c<=1048576) (hi:i<r) (hk:k<r) (hf:0<=f/\f<=p) (hM:da p r c M):
  FQ aB (((r:Int),(c:Int),ao r c M),p,(i:Int),(k:Int),f)=some (ao r c (oI p M i k f)):=by
 simp only[FQ,bQ,ak,il]
 refine fc (fun n=>((p,(i:Int),(k:Int),f,(n:Int)),ao r c (vV p M i k f n),(r:Int),(c:Int))) c ?_ ?_ ?_ (cN (by omega))
 ·intro n hn
  simp only
  rw[aQ (fo hn)]
  have h1:=hM i hi n hn
  simp only[nA hr hc h hi hn,nA hr hc h hk hn,ak,Wb,EI hp (h1.s hp) hf (hM k hk n hn).le,xn hr hc h hi hn,lW,eQ (show n<=1048577 by omega),We]
 ·simp only
  rw[aN (fK (Nat.le_refl c)),E8,ak,ak,Wa]
 ·rw[V9];rfl
theorem VA {p f:Int} {r c i k:Nat} {M:Nat->Nat->Int} (hp:cP p) (hr:r<=4096) (hc:c<=4096) (h:r*c<=1048576) (hi:i<r) (hk:k<r) (hf:0<=f/\f<=p) (hM:da p r c M):
  xE (((r:Int),(c:Int),ao r c M),p,(i:Int),(k:Int),f)=some (ao r c (oI p M i k f)):=by
 simp only[xE,Int.toNat_natCast]
 rw[if_pos ⟨wY M hr hc h,hp,by omega,by omega,hf,k9.2 hM⟩]
 refine(congrArg some (ib fun a ha j hj=>?_))
 unfold oI
 rw[mA M hi hj,mA M hk hj,mA M ha hj]
theorem aez (x:(Int×Int×List Int)×Int×Int×Int×Int) (y:List Int) (h:xE x=some y):FQ aB x=some y:=by
 obtain⟨m,p,i,k,f⟩:=x
 have h0:=h
 simp only[xE] at h
 split at h
 ·rename_i hc
  obtain⟨h1,hp,h2,h3,hf,hM⟩:=hc
  obtain⟨r,c,M,rfl,hr,hc,dB⟩:=tv h1
  obtain⟨i,rfl,hi⟩:=oY h2
  obtain⟨k,rfl,hk⟩:=oY h3
  have hi:=hi r rfl;have hk:=hk r rfl
  have hM:=k9.1 hM
  rw[<-h0,afp hp hr hc dB hi hk hf hM,VA hp hr hc dB hi hk hf hM]
 ·cases h
theorem afs {p x:Int} {r c i k:Nat} {M:Nat->Nat->Int} (hp:cP p) (hr:r<=4096) (hc:c<=4096) (hi:i<r) (hk:k<r) (hf:0<=x/\x<=p) (hM:da p r c M):
  Gb aB (p,((r:Int),(c:Int),ao r c M),(i:Int),(k:Int),x)=some (ao r c (oI p M i k (p - x))):=by
 simp only[Gb,bQ,ak]
 have pQ:=hp.2
 refine fc (fun n=>((p,(i:Int),(k:Int),x,(n:Int)),ao r c (vV p M i k (p - x) n),(r:Int),(c:Int))) c ?_ ?_ ?_ (cN (by omega))
 ·intro n hn
  simp only
  rw[aQ (fo hn),lG (by omega) (by omega) (by omega),lG (by omega) (by omega) (by omega),ph (by omega) (by omega)]
  have h1:=hM i hi n hn
  simp only[qQ _ hi hn,qQ _ hk hn,ak,mF,q9 _ hi hn,q9 _ hk hn,Wb,EI hp (h1.s hp) (show 0<=p - x/\p - x<=p by omega) (hM k hk n hn).le,zo _ hn,lW,eQ (show n<=1048577 by omega),We]
 ·simp only
  rw[aN (fK (Nat.le_refl c)),E8,ak,ak,Wa]
 ·rw[V9];rfl
theorem Wc {p x:Int} {r c i k:Nat} {M:Nat->Nat->Int} (hp:cP p) (hr:r<=4096) (hc:c<=4096) (h:r*c<=1048576) (hi:i<r) (hk:k<r) (hf:0<=x/\x<=p) (hM:da p r c M):
  xI (p,((r:Int),(c:Int),ao r c M),(i:Int),(k:Int),x)=some (ao r c (oI p M i k (p - x))):=by
 simp only[xI,Int.toNat_natCast]
 rw[if_pos ⟨wY M hr hc h,hp,by omega,by omega,hf,k9.2 hM⟩]
 refine(congrArg some (ib fun a ha j hj=>?_))
 unfold oI
 rw[mA M hi hj,mA M hk hj,mA M ha hj]
theorem ae4 (x:Int×(Int×Int×List Int)×Int×Int×Int) (y:List Int) (h:xI x=some y):Gb aB x=some y:=by
 obtain⟨p,m,i,k,f⟩:=x
 have h0:=h
 simp only[xI] at h
 split at h
 ·rename_i hc
  obtain⟨h1,hp,h2,h3,hf,hM⟩:=hc
  obtain⟨r,c,M,rfl,hr,hc,dB⟩:=tv h1
  obtain⟨i,rfl,hi⟩:=oY h2
  obtain⟨k,rfl,hk⟩:=oY h3
  have hi:=hi r rfl;have hk:=hk r rfl
  have hM:=k9.1 hM
  rw[<-h0,afs hp hr hc hi hk hf hM,Wc hp hr hc dB hi hk hf hM]
 ·cases h
theorem amN {r c i j:Nat} {M:Nat->Nat->Int} {f:((Int×Int)×Int×Int×List Int)->Option (((Int×Int)×Int×Int×List Int)⊕(Unit⊕Int))}
  (h1:∀k,k<r->f (((j:Int),(k:Int)),(r:Int),(c:Int),ao r c M)=if M k j=0 then some (.inl (((j:Int),((k+1:Nat):Int)),(r:Int),(c:Int),ao r c M)) else some (.inr (.inr (k:Int))))
  (h2:f (((j:Int),(r:Int)),(r:Int),(c:Int),ao r c M)=some (.inr (.inl ()))):
  ∀(d k:Nat),k+d=r->∀N,d<N->bg N f (((j:Int),(k:Int)),(r:Int),(c:Int),ao r c M)=some (match ij M j d k with|some q=>.inr (q:Int)|none=>.inl ()):=by
 intro d
 induction d with
 |zero=>
  intro k hk N hN
  obtain⟨N,rfl⟩:∃m,N=m+1:=⟨N - 1,by omega⟩
  have:k=r:=by omega
  subst this
  simp only[bg,h2,ij]
 |succ d ih=>
  intro k hk N hN
  obtain⟨N,rfl⟩:∃m,N=m+1:=⟨N - 1,by omega⟩
  simp only[bg,h1 k (by omega),ij]
  by_cases h0:M k j=0
  ·rw[if_pos h0,if_pos h0]
   exact ih (k+1) (by omega) N (by omega)
  ·rw[if_neg h0,if_neg h0]
theorem aaK {M M':Nat->Nat->Int} {j:Nat}:∀(d k:Nat),(∀i,k<=i->i<k+d->M i j=M' i j)->ij M j d k=ij M' j d k
 |0,k,_=>rfl
 |d+1,k,h=>by
  simp only[ij]
  rw[h k (by omega) (by omega),aaK d (k+1) fun i h1 h2=>h i (by omega) (by omega)]
theorem B9 {M:Nat->Nat->Int} {j q:Nat}:∀{d k:Nat},ij M j d k=some q->k<=q/\q<k+d/\M q j≠0
 |0,k,h=>by cases h
 |d+1,k,h=>by
  simp only[ij] at h
  split at h
  ·have:=B9 h
   exact⟨by omega,by omega,this.2.2⟩
  ·rename_i h0
   injection h with h
   subst h
   exact⟨by omega,by omega,h0⟩
theorem afy {r c i j:Nat} {M:Nat->Nat->Int} (hr:r<=4096) (hc:c<=4096) (hi:i<=r) (hj:j<c):Gf aB (((r:Int),(c:Int),ao r c M),(i:Int),(j:Int))=some (u5 (ij M j (r - i) i)):=by
 simp only[Gf]
 rw[amN (M:=M) (r:=r) (c:=c) (i:=i) (j:=j) ?_ ?_ (r - i) i (by omega) aB (cN (by omega))]
 ·cases ij M j (r - i) i with
  |none=>rfl
  |some q=>rfl
 ·intro k hk
  simp only
  rw[aQ (fo hk),lG (by omega) (by omega) (by omega),Aw M hk hj,ak,eQ (by omega)]
  by_cases h0:M k j=0
  ·rw[if_pos h0,aN (n7 h0)]
  ·rw[if_neg h0,aQ (qq h0)]
 ·simp only
  rw[aN (fK (Nat.le_refl r))]
theorem aaL {r c i j:Nat} {M:Nat->Nat->Int} (hr:r<=4096) (hc:c<=4096) (h:r*c<=1048576) (hi:i<=r) (hj:j<c):xJ (((r:Int),(c:Int),ao r c M),(i:Int),(j:Int))=some (u5 (ij M j (r - i) i)):=by
 simp only[xJ,Int.toNat_natCast]
 rw[if_pos ⟨wY M hr hc h,by omega,by omega⟩]
 rw[show((r:Int) - (i:Int)).toNat=r - i by omega]
 rw[aaK (M':=M) (r - i) i fun a h1 h2=>mA M (by omega) hj]
theorem ae8 (x:(Int×Int×List Int)×Int×Int) (y:Int) (h:xJ x=some y):Gf aB x=some y:=by
 obtain⟨m,i,j⟩:=x
 have h0:=h
 simp only[xJ] at h
 split at h
 ·rename_i hc
  obtain⟨h1,h2,h3⟩:=hc
  obtain⟨r,c,M,rfl,hr,hc,dB⟩:=tv h1
  obtain⟨i,rfl,hi⟩:=alM h2
  obtain⟨j,rfl,hj⟩:=oY h3
  have hi:=hi r rfl;have hj:=hj c rfl
  rw[<-h0,afy hr hc hi hj,aaL hr hc dB hi hj]
 ·cases h
theorem JH (p out x:Int):gT p out x 0=out:=by rw[gT];rfl
theorem JI {n:Nat} (h:n≠0) (p out x:Int):gT p out x n=gT p (if n%2=1 then out*x%p else out) (x*x%p) (n/2):=by
 rw[gT,dif_neg h]
theorem Zd {p:Int} (hp:cP p):∀(n:Nat) (out x:Int),fy p out->fy p (gT p out x n):=by
 intro n
 induction n using Nat.strongRecOn with
 |ind n ih=>
  intro out x ho
  by_cases h:n=0
  ·subst h;rw[JH];exact ho
  ·rw[JI h]
   refine ih (n/2) (by omega) _ _ ?_
   split
   ·exact sk hp _
   ·exact ho
theorem Zg {p out x:Int} {n:Nat} {Y:Type} {o:Option (Int×Int×Int×Int⊕Y)} (k:Int×Int×Int×Int->Option Y) (b:Bool) (hb:b=decide (n%2=1)) (hp:cP p) (ho:fy p out) (hx:fy p x):
  bO (aJ b ((fL (cv .i64 out x) p).aa fun i=>some (Sum.inl (x,(n:Int),p,i))) (some (Sum.inl (x,(n:Int),p,out)))) k=k (x,(n:Int),p,if n%2=1 then out*x%p else out):=by
 subst hb
 by_cases h:n%2=1
 ·rw[aQ (decide_eq_true h),y7 hp ho.le hx.le,ak,db,if_pos h]
 ·rw[aN (decide_eq_false h),db,if_neg h]
theorem ae6 (x:Int×Int) (y:Int) (h:vE x=some y):LQ aB x=some y:=by
 obtain⟨p,x⟩:=x
 simp only[vE] at h
 split at h
 ·rename_i hc
  obtain⟨hp,hx⟩:=hc
  have oP:=hp.1;have pQ:=hp.2
  obtain⟨n,hn⟩:=f9 (show 0<=p - 2 by omega)
  rw[<-h]
  simp only[LQ]
  rw[ph (by omega) (by omega),hn,Int.toNat_natCast]
  rw[J9 (r:=Sum.inl (gT p 1 x n)) (fun m s=>∃out x':Int,s=(p,x',out,(m:Int))/\m<=n/\fy p out/\fy p x'/\gT p out x' m=gT p 1 x n) ?_ n _ ⟨1,x,rfl,by omega,⟨by omega,by omega⟩,hx,rfl⟩ aB (cN (by omega))]
  ·rw[db]
  ·rintro m s ⟨out,x',rfl,hm,ho,dU,he⟩
   simp only
   by_cases h0:m=0
   ·subst h0
    left
    rw[aN (dX (by omega)),<-he,JH]
   ·right
    refine⟨m/2,_,by omega,?_,if m%2=1 then out*x'%p else out,x'*x'%p,rfl,by omega,?_,sk hp _,by rw[<-he,JI h0]⟩
    ·rw[aQ (dZ (by omega)),Kz (by omega) (by omega),ak]
     have hb:fE ((m:Int)%2) 1=decide (m%2=1):=by
      by_cases h1:m%2=1
      ·rw[yi (by omega),decide_eq_true h1]
      ·rw[yh (by omega),decide_eq_false h1]
     rw[Zg (o:=none) _ _ hb hp ho dU]
     simp only
     rw[y7 hp dU.le dU.le,ak]
     have hq:E3 .i64 (m:Int) 2=some ((m/2:Nat):Int):=by
      unfold E3
      rw[if_neg (by omega),Int.tdiv_eq_ediv_of_nonneg (by omega),zD (by omega) (by omega)]
      congr 1
     rw[hq,ak]
    ·split
     ·exact sk hp _
     ·exact ho
 ·cases h
theorem aeJ (x:Int×Int) (y:Int) (h:zJ x=some y):LH aB x=some y:=by
 obtain⟨p,x⟩:=x
 simp only[zJ,vE] at h
 split at h
 ·rename_i hc
  obtain⟨hp,hx⟩:=hc
  have oP:=hp.1;have pQ:=hp.2
  obtain⟨n,hn⟩:=f9 (show 0<=p - 2 by omega)
  rw[<-h]
  simp only[LH]
  rw[ph (by omega) (by omega),hn,Int.toNat_natCast]
  rw[J9 (r:=Sum.inl (gT p 1 x n)) (fun m s=>∃out x':Int,s=(p,x',out,(m:Int))/\m<=n/\fy p out/\fy p x'/\gT p out x' m=gT p 1 x n) ?_ n _ ⟨1,x,rfl,by omega,⟨by omega,by omega⟩,hx,rfl⟩ aB (cN (by omega))]
  ·rw[db]
  ·rintro m s ⟨out,x',rfl,hm,ho,dU,he⟩
   simp only
   by_cases h0:m=0
   ·subst h0
    left
    rw[aN (dX (by omega)),<-he,JH]
   ·right
    refine⟨m/2,_,by omega,?_,if m%2=1 then out*x'%p else out,x'*x'%p,rfl,by omega,?_,sk hp _,by rw[<-he,JI h0]⟩
    ·rw[aQ (dZ (by omega))]
     have hb:fE (pq .i64 (m:Int) 1) 1=decide (m%2=1):=by
      rw[show(1:Int)=((1:Nat):Int) from rfl,ac4 (by omega) (by omega),Nat.and_one_is_mod]
      by_cases h1:m%2=1
      ·rw[yi (by omega),decide_eq_true h1]
      ·rw[yh (by omega),decide_eq_false h1]
     rw[Zg (o:=none) _ _ hb hp ho dU]
     simp only
     rw[y7 hp dU.le dU.le,ak]
     have hq:tH .i64 (m:Int) 1=some ((m/2:Nat):Int):=by
      rw[show(1:Int)=((1:Nat):Int) from rfl,anS (by omega),Nat.shiftRight_eq_div_pow]
     rw[hq,ak]
    ·split
     ·exact sk hp _
     ·exact ho
 ·cases h
def kJ (W:Nat->Nat->Int) (i j:Nat):Nat->Nat->Int:=fun a b=>if a<i\/a=i/\b<j then W a b else 0
theorem aar {r c:Nat} (W:Nat->Nat->Int) (i j:Nat):ao r c (jB (kJ W i j) i j (W i j))=ao r c (kJ W i (j+1)):=by
 refine ib fun a _ b _=>?_
 unfold jB kJ
 by_cases h:a=i/\b=j
 ·obtain⟨rfl,rfl⟩:=h
  simp
 ·rw[if_neg h]
  by_cases h1:a<i\/a=i/\b<j
  ·simp only[if_pos h1,if_pos (show a<i\/a=i/\b<j+1 by omega)]
  ·simp only[if_neg h1,if_neg (show¬(a<i\/a=i/\b<j+1) by omega)]
theorem aap {r c:Nat} (W:Nat->Nat->Int) (i:Nat):ao r c (kJ W i c)=ao r c (kJ W (i+1) 0):=by
 refine ib fun a _ b hb=>?_
 unfold kJ
 by_cases h1:a<i\/a=i/\b<c
 ·simp only[if_pos h1,if_pos (show a<i+1\/a=i+1/\b<0 by omega)]
 ·simp only[if_neg h1,if_neg (show¬(a<i+1\/a=i+1/\b<0) by omega)]
theorem aao {r c:Nat} (W:Nat->Nat->Int):ao r c (kJ W r 0)=ao r c W:=ib fun a ha b hb=>if_pos (.inl ha)
theorem aan {r c:Nat} (W:Nat->Nat->Int):ao r c (kJ W 0 0)=ao r c fun _ _=>0:=ib fun a ha b hb=>if_neg (by omega)
theorem akQ {p:Int} {k:Nat} {A A' B B':Nat->Nat->Int} {i j:Nat} (hA:∀t,t<k->A i t=A' i t) (hB:∀t,t<k->B t j=B' t j):gu p k A B i j=gu p k A' B' i j:=by
 unfold gu
 have:∀n,n<=k->jG p (fun t=>A i t) (fun t=>B t j) n=jG p (fun t=>A' i t) (fun t=>B' t j) n:=by
  intro n
  induction n with
  |zero=>intro _;rfl
  |succ n ih=>
   intro hn
   simp only[jG]
   rw[ih (by omega),hA n (by omega),hB n (by omega)]
 exact this k (Nat.le_refl k)
theorem akR {p:Int} (hp:cP p) (r c k:Nat) (A B:Nat->Nat->Int):da p r c (gu p k A B):=fun i _ j _=>HV hp _ _ k
theorem aam {x:Int×(Int×Int×List Int)×(Int×Int×List Int)} (h:EN x):∃(p:Int) (r k c:Nat) (A B:Nat->Nat->Int),x=(p,((r:Int),(k:Int),ao r k A),((k:Int),(c:Int),ao k c B))/\cP p/\
  r<=4096/\k<=4096/\c<=4096/\r*k<=1048576/\k*c<=1048576/\r*c<=1048576/\da p r k A/\da p k c B:=by
 obtain⟨p,a,b⟩:=x
 obtain⟨hp,ha,hb,hk,dB,h1,h2⟩:=h
 obtain⟨r,k,A,rfl,q1,q2,q3⟩:=tv ha
 obtain⟨k',c,B,rfl,q4,q5,q6⟩:=tv hb
 simp only at hk dB h1 h2
 have:k'=k:=by omega
 subst this
 have e:(r:Int)*(c:Int)=((r*c:Nat):Int):=by norm_cast
 exact⟨p,r,k',c,A,B,rfl,hp,q1,q2,q5,q3,q6,by omega,k9.1 h1,k9.1 h2⟩
theorem akT {p:Int} {r k c:Nat} {A B:Nat->Nat->Int} (hp:cP p) (hr:r<=4096) (hk:k<=4096) (hc:c<=4096) (h1:r*k<=1048576) (h2:k*c<=1048576) (h3:r*c<=1048576) (hA:da p r k A) (hB:da p k c B):
  EN (p,((r:Int),(k:Int),ao r k A),((k:Int),(c:Int),ao k c B)):=by
 refine⟨hp,wY A hr hk h1,wY B hk hc h2,rfl,?_,k9.2 hA,k9.2 hB⟩
 show(r:Int)*(c:Int)<=1048576
 have e:(r:Int)*(c:Int)=((r*c:Nat):Int):=by norm_cast
 omega
theorem Ki {p:Int} {r k c:Nat} {A B:Nat->Nat->Int} (hp:cP p) (hr:r<=4096) (hk:k<=4096) (hc:c<=4096) (h1:r*k<=1048576) (h2:k*c<=1048576) (h3:r*c<=1048576) (hA:da p r k A) (hB:da p k c B):
  pn (p,((r:Int),(k:Int),ao r k A),((k:Int),(c:Int),ao k c B))=some ((r:Int),(c:Int),ao r c (gu p k A B)):=by
 simp only[pn,Int.toNat_natCast]
 rw[if_pos (akT hp hr hk hc h1 h2 h3 hA hB)]
 exact congrArg (fun l=>some ((r:Int),(c:Int),l)) (ib fun i hi j hj=>akQ (fun t ht=>mA A hi ht) (fun t ht=>mA B ht hj))
theorem afw {p:Int} {r k c:Nat} {A B:Nat->Nat->Int} (hp:cP p) (hr:r<=4096) (hk:k<=4096) (hc:c<=4096) (h1:r*k<=1048576) (h2:k*c<=1048576) (h3:r*c<=1048576) (hA:da p r k A) (hB:da p k c B):
  Gd aB (p,((r:Int),(k:Int),ao r k A),((k:Int),(c:Int),ao k c B))=some ((r:Int),(c:Int),ao r c (gu p k A B)):=by
 simp only[Gd,Kk hr hc h3,ak,bQ]
 rw[show ae 0 0 (U ([]:List Int))=some () from rfl,ak]
 rw[fc (r:=Sum.inl (((0:Int),(0:Int)),((r:Int),(c:Int)),([]:List Int),ao r c (gu p k A B))) (fun i=>((p,(i:Int)),((r:Int),(k:Int),ao r k A),((k:Int),(c:Int),ao k c B),((0:Int),(0:Int)),((r:Int),(c:Int)),([]:List Int),ao r c (kJ (gu p k A B) i 0))) r ?_ ?_ ?_ (cN (by omega))]
 ·rw[db];simp only[kf,ak]
 ·intro i hi
  simp only
  rw[aQ (fo hi)]
  rw[fc (r:=Sum.inl (((i:Int),p),((r:Int),(k:Int),ao r k A),((k:Int),(c:Int),ao k c B),((0:Int),(0:Int)),((r:Int),(c:Int)),([]:List Int),ao r c (kJ (gu p k A B) (i+1) 0))) (fun j=>((p,(i:Int),(j:Int)),((r:Int),(k:Int),ao r k A),((k:Int),(c:Int),ao k c B),((0:Int),(0:Int)),((r:Int),(c:Int)),([]:List Int),ao r c (kJ (gu p k A B) i j))) c ?_ ?_ ?_ (cN (by omega))]
  ·rw[db];simp only[eQ (show i<=1048577 by omega)]
  ·intro j hj
   simp only
   rw[aQ (fo hj)]
   rw[fc (r:=Sum.inl ((gu p k A B i j,(j:Int),p,(i:Int)),((r:Int),(k:Int),ao r k A),((k:Int),(c:Int),ao k c B),((0:Int),(0:Int)),((r:Int),(c:Int)),([]:List Int),ao r c (kJ (gu p k A B) i j))) (fun t=>((p,(i:Int),(j:Int),jG p (fun t=>A i t) (fun t=>B t j) t,(t:Int)),((r:Int),(k:Int),ao r k A),((k:Int),(c:Int),ao k c B),((0:Int),(0:Int)),((r:Int),(c:Int)),([]:List Int),ao r c (kJ (gu p k A B) i j))) k ?_ ?_ ?_ (cN (by omega))]
   ·rw[db]
    simp only[lG (show i<=1048576 by omega) (show c<=1048576 by omega) (show j<=1048576 by omega),qQ _ hi hj,ak,mF,q9 _ hi hj,zo _ hj,lW,aar (r:=r) (c:=c)]
    rw[db]
    simp only[eQ (show j<=1048577 by omega)]
   ·intro t ht
    simp only
    rw[aQ (fo ht),lG (by omega) (by omega) (by omega),lG (by omega) (by omega) (by omega),Aw A hi ht,ak,Aw B ht hj,ak,EI hp ((HV hp _ _ t).s hp) (hA i hi t ht).le (hB t ht j hj).le,ak]
    simp only[eQ (show t<=1048577 by omega),jG]
   ·simp only
    rw[aN (fK (Nat.le_refl k))]
    rfl
   ·rfl
  ·simp only
   rw[aN (fK (Nat.le_refl c)),aap]
  ·rfl
 ·simp only
  rw[aN (fK (Nat.le_refl r)),aao]
 ·rw[aan];rfl
theorem ae7 (x:Int×(Int×Int×List Int)×(Int×Int×List Int)) (y:Int×Int×List Int) (h:pn x=some y):Gd aB x=some y:=by
 have h0:=h
 simp only[pn] at h
 split at h
 ·rename_i hc
  obtain⟨p,r,k,c,A,B,rfl,hp,hr,hk,hc,h1,h2,h3,hA,hB⟩:=aam hc
  rw[<-h0,afw hp hr hk hc h1 h2 h3 hA hB,Ki hp hr hk hc h1 h2 h3 hA hB]
 ·cases h
theorem afv {p:Int} {r k c:Nat} {A B:Nat->Nat->Int} (hp:cP p) (hr:r<=4096) (hk:k<=4096) (hc:c<=4096) (h1:r*k<=1048576) (h2:k*c<=1048576) (h3:r*c<=1048576) (hA:da p r k A) (hB:da p k c B):
  FX aB (p,((r:Int),(k:Int),ao r k A),((k:Int),(c:Int),ao k c B))=some ((r:Int),(c:Int),ao r c (gu p k A B)):=by
 simp only[FX,Rs hr hc h3,ak,bQ]
 rw[show ae 0 0 (U ([]:List Int))=some () from rfl,ak]
 rw[fc (r:=Sum.inl (((0:Int),(0:Int)),((r:Int),(c:Int)),([]:List Int),ao r c (gu p k A B))) (fun i=>((p,(i:Int)),((r:Int),(k:Int),ao r k A),((k:Int),(c:Int),ao k c B),((0:Int),(0:Int)),((r:Int),(c:Int)),([]:List Int),ao r c (kJ (gu p k A B) i 0))) r ?_ ?_ ?_ (cN (by omega))]
 ·rw[db];simp only[kf,ak]
 ·intro i hi
  simp only
  rw[aQ (fo hi)]
  rw[fc (r:=Sum.inl (((i:Int),p),((r:Int),(k:Int),ao r k A),((k:Int),(c:Int),ao k c B),((0:Int),(0:Int)),((r:Int),(c:Int)),([]:List Int),ao r c (kJ (gu p k A B) (i+1) 0))) (fun j=>((p,(i:Int),(j:Int)),((r:Int),(k:Int),ao r k A),((k:Int),(c:Int),ao k c B),((0:Int),(0:Int)),((r:Int),(c:Int)),([]:List Int),ao r c (kJ (gu p k A B) i j))) c ?_ ?_ ?_ (cN (by omega))]
  ·rw[db];simp only[eQ (show i<=1048577 by omega)]
  ·intro j hj
   simp only
   rw[aQ (fo hj)]
   rw[fc (r:=Sum.inl ((gu p k A B i j,(j:Int),p,(i:Int)),((r:Int),(k:Int),ao r k A),((k:Int),(c:Int),ao k c B),((0:Int),(0:Int)),((r:Int),(c:Int)),([]:List Int),ao r c (kJ (gu p k A B) i j))) (fun t=>((p,(i:Int),(j:Int),jG p (fun t=>A i t) (fun t=>B t j) t,(t:Int)),((r:Int),(k:Int),ao r k A),((k:Int),(c:Int),ao k c B),((0:Int),(0:Int)),((r:Int),(c:Int)),([]:List Int),ao r c (kJ (gu p k A B) i j))) k ?_ ?_ ?_ (cN (by omega))]
   ·rw[db]
    simp only[xn hr hc h3 hi hj,ak,lW,aar (r:=r) (c:=c)]
    rw[db]
    simp only[eQ (show j<=1048577 by omega)]
   ·intro t ht
    simp only
    rw[aQ (fo ht),nA hr hk h1 hi ht,ak,nA hk hc h2 ht hj,ak,EI hp ((HV hp _ _ t).s hp) (hA i hi t ht).le (hB t ht j hj).le,ak]
    simp only[eQ (show t<=1048577 by omega),jG]
   ·simp only
    rw[aN (fK (Nat.le_refl k))]
    rfl
   ·rfl
  ·simp only
   rw[aN (fK (Nat.le_refl c)),aap]
  ·rfl
 ·simp only
  rw[aN (fK (Nat.le_refl r)),aao]
 ·rw[aan];rfl
theorem aeK (x:Int×(Int×Int×List Int)×(Int×Int×List Int)) (y:Int×Int×List Int) (h:vA x=some y):FX aB x=some y:=by
 have h0:pn x=some y:=h
 simp only[vA,pn] at h
 split at h
 ·rename_i hc
  obtain⟨p,r,k,c,A,B,rfl,hp,hr,hk,hc,h1,h2,h3,hA,hB⟩:=aam hc
  rw[<-h0,afv hp hr hk hc h1 h2 h3 hA hB,Ki hp hr hk hc h1 h2 h3 hA hB]
 ·cases h
end Go.Am
end
section
namespace Go.Am
def abN (x:Int×Int×Int):Prop:=du x.1=true/\(1<=x.2.1/\x.2.1<=8)/\(1<=x.2.2/\x.2.2<=8)
instance (x:Int×Int×Int):Decidable (abN x):=by unfold abN;infer_instance
theorem ahV {p:Int} {r c:Nat} {l:List Int} (h:l.length=r*c) (hr:iN p l=true):da p r c (cE c l):=by
 apply k9.1
 rw[pI h]
 intro x hx
 have:=List.all_eq_true.1 hr x hx
 exact of_decide_eq_true this
theorem aj0 {m:Int} {x:Int×Int×List Int} (h:n5 m x=true):∃(r c:Nat) (M:Nat->Nat->Int),x=((r:Int),(c:Int),ao r c M)/\cP m/\r<=64/\c<=64/\r*c<=4096/\da m r c M:=by
 obtain⟨r,c,l⟩:=x
 simp only[n5,Bool.and_eq_true,decide_eq_true_eq] at h
 obtain⟨h1,h2,h3,h4,h5⟩:=h
 obtain⟨r,rfl⟩:=f9 (z:=r) (by omega)
 obtain⟨c,rfl⟩:=f9 (z:=c) (by omega)
 have hl:l.length=r*c:=by
  have e:(r:Int)*(c:Int)=((r*c:Nat):Int):=by norm_cast
  omega
 have dB:r*c<=64*64:=Nat.mul_le_mul (by omega) (by omega)
 exact⟨r,c,cE c l,by rw[pI hl],kD h1,by omega,by omega,by omega,ahV hl h5⟩
theorem zV {x y:Nat} (h:x+y<=1099511627776):aY .i64 (x:Int) (y:Int)=((x+y:Nat):Int):=by
 rw[jl (by omega) (by omega)]
 omega
end Go.Am
end
section
namespace Go.Am
abbrev bf:=Nat->Nat->Int
def vf (p inv:Int) (M:bf) (t n:Nat):bf:=fun a b=>if a=t/\b<n then M t b*inv%p else M a b
def rN (p inv:Int) (M:bf) (t:Nat):bf:=fun a b=>if a=t then M t b*inv%p else M a b
def ef (p:Int) (M:bf) (t j n:Nat):bf:=fun a b=>if a<n/\a≠t then(M a b+(p - M a j)*M t b)%p else M a b
def lL (p:Int) (M:bf) (t j k:Nat):bf:=rN p (gT p 1 (cq M t k t j) (p - 2).toNat) (cq M t k) t
def zi (p:Int) (M:bf) (t j k:Nat) (d:Int):Int:=(if k=t then d else(p - d)%p)*cq M t k t j%p
def iM (p:Int) (r:Nat) (s:bf×List Int×Int) (j:Nat):bf×List Int×Int:=
 if s.2.1.length<r then
  match ij s.1 j (r - s.2.1.length) s.2.1.length with
  |none=>s
  |some k=>(ef p (lL p s.1 s.2.1.length j k) s.2.1.length j r,s.2.1++[(j:Int)],zi p s.1 s.2.1.length j k s.2.2)
 else s
def c7 (p:Int) (r:Nat) (M:bf):Nat->bf×List Int×Int
 |0=>(M,[],1)
 |j+1=>iM p r (c7 p r M j) j
def Cb (x:Int×Int×Int×List Int):Prop:=cP x.1/\m9 x.2/\dG x.1 x.2.2.2
instance (x:Int×Int×Int×List Int):Decidable (Cb x):=by unfold Cb;infer_instance
def qx (x:Int×Int×Int×List Int):bf×List Int×Int:=c7 x.1 x.2.1.toNat (cE x.2.2.1.toNat x.2.2.2) x.2.2.1.toNat
def zR:Int×Int×Int×List Int->Option ((Int×Int×List Int)×List Int×Int):=fun(x:Int×Int×Int×List Int)=>
 if Cb x then some ((x.2.1,x.2.2.1,ao x.2.1.toNat x.2.2.1.toNat (qx x).1),(qx x).2) else none
def zL:Int×Int×Int×List Int->Option ((Int×Int×List Int)×List Int):=fun(x:Int×Int×Int×List Int)=>
 if Cb x then some ((x.2.1,x.2.2.1,ao x.2.1.toNat x.2.2.1.toNat (qx x).1),(qx x).2.1) else none
def Hh:au:=[(.one,[.int .i64]),(.agg,[.int .i64,.int .i64,.list [.int .i64]])]
def SU:au:=[(.agg,[.int .i64,.int .i64,.list [.int .i64]]),(.one,[.list [.int .i64]]),(.one,[.int .i64])]
def akF:be:=[]
def GO:au:=[(.one,[.int .i64]),(.agg,[.int .i64,.int .i64,.list [.int .i64]])]
def Ss:au:=[(.agg,[.int .i64,.int .i64,.list [.int .i64]]),(.one,[.list [.int .i64]])]
def aki:be:=[]
def Gg (NN:Nat):(Int×(Int×(Int×(List Int))))->(Option ((Int×(Int×(List Int)))×((List Int)×Int))):=
 (fun((i0,i1,i2,l3):(Int×(Int×(Int×(List Int)))))=>
 (kq l3).aa (fun l4=>
 bO ((ae 0 0 (U (([]:List Int)))).aa (fun _=>
 (ae 0 0 (U (([]:List Int)))).aa (fun _=>
 (ae 0 (U l4) (U l4)).aa (fun _=>
 bg NN (fun(((i5,i6,i7),(i8,i9,gm),(cm,cO),(di,c9),bK,fa,ct):((Int×(Int×Int))×((Int×(Int×(List Int)))×((Int×Int)×((Int×Int)×((List Int)×((List Int)×(List Int))))))))=>
 aJ (bC i7 i9)
 (aJ (bC (aO (U ct)) i8)
 (bO ((dg fa 0 (U fa)).aa (fun gU=>
 (xJ ((di,c9,gU),aO (U ct),i7)).aa (fun dk=>
 aJ (bC dk (0:Int))
 ((ae 0 (U ct) (U ct)).aa (fun _=>
 (ae 0 (U bK) (U bK)).aa (fun _=>
 (ae 0 (U fa) (U fa)).aa (fun _=>
 some (Sum.inl ((i7,i5,i6),(i8,i9,gm),(cm,cO),(di,c9),bK,fa,ct))))))
 (bO (aJ (eu dk (aO (U ct)))
 ((ae 0 (U fa) (U fa)).aa (fun _=>
 (rY ((di,c9,fa),aO (U ct),dk)).aa (fun eo=>
 (fL (nh .i64 i5 i6) i5).aa (fun iA=>
 (ae 0 (U ct) (U ct)).aa (fun _=>
 (ae 0 (U bK) (U bK)).aa (fun _=>
 (ae 0 (U fa) (U eo)).aa (fun _=>
 some (Sum.inl ((iA,aO (U ct),i7,i5),(i8,i9,gm),(cm,cO),(di,c9),bK,eo,ct)))))))))
 ((ae 0 (U ct) (U ct)).aa (fun _=>
 (ae 0 (U bK) (U bK)).aa (fun _=>
 (ae 0 (U fa) (U fa)).aa (fun _=>
 some (Sum.inl ((i6,aO (U ct),i7,i5),(i8,i9,gm),(cm,cO),(di,c9),bK,fa,ct)))))))
 (fun((jN,ie,gi,ig),(fR,gQ,mh),(nP,lB),(j7,Bb),dv,fb,lI)=>
 (eB (aY .i64 (cv .i64 ie gQ) gi) (U fb)).aa (fun k36=>
 (dJ fb (aL 0 k36)).aa (fun mS=>
 (fL (cv .i64 jN mS) ig).aa (fun ky=>
 (vE (ig,mS)).aa (fun j8=>
 bO ((ae 0 (U lI) (U lI)).aa (fun _=>
 (ae 0 (U dv) (U dv)).aa (fun _=>
 (ae 0 (U fb) (U fb)).aa (fun _=>
 bg NN (fun(((mT,lC,ii,iB,jO,iC),(mU,f6,nU),(lD,jq),(kz,jP),lJ,eW,eG):((Int×(Int×(Int×(Int×(Int×Int)))))×((Int×(Int×(List Int)))×((Int×Int)×((Int×Int)×((List Int)×((List Int)×(List Int))))))))=>
 aJ (bC iC f6)
 ((eB (aY .i64 (cv .i64 iB f6) iC) (U eW)).aa (fun k56=>
 (dJ eW (aL 0 k56)).aa (fun me=>
 (fL (cv .i64 me jO) mT).aa (fun nQ=>
 (eB (aY .i64 (cv .i64 iB f6) iC) (U eW)).aa (fun PH=>
 (dJ eW (aL 0 PH)).aa (fun p9=>
 (ae 0 (U eG) (U eG)).aa (fun _=>
 (ae 0 (U lJ) (U lJ)).aa (fun _=>
 (ae 0 (U eW) (U (dd eW (aL 0 PH) nQ))).aa (fun _=>
 some (Sum.inl ((mT,lC,ii,iB,jO,aY .i64 iC 1),(mU,f6,nU),(lD,jq),(kz,jP),lJ,dd eW (aL 0 PH) nQ,eG)))))))))))
 (((ae 0 (U eG) (U eG)).aa (fun _=>
 (ae 0 (U lJ) (U lJ)).aa (fun _=>
 (ae 0 (U eW) (U eW)).aa (fun _=>
 some (Sum.inl ((lC,mT,ii,iB),(mU,f6,nU),(lD,jq),(kz,jP),lJ,eW,eG)))))).aa (fun kG=>
 some (Sum.inr kG))))
 ((ig,ky,gi,ie,j8,(0:Int)),(fR,gQ,mh),(nP,lB),(j7,Bb),dv,fb,lI)))))
 (fun((Em,lE,i64,sM),(sN,ry,nY),(JD,uM),(uN,oS),BN,lK,iI)=>
 bO ((ae 0 (U iI) (U iI)).aa (fun _=>
 (ae 0 (U BN) (U BN)).aa (fun _=>
 (ae 0 (U lK) (U lK)).aa (fun _=>
 bg NN (fun(((kB,jr,jb,gj,gR),(sO,Bc,fm),(sP,yS),(Bd,nR),qm,kH,m7):((Int×(Int×(Int×(Int×Int))))×((Int×(Int×(List Int)))×((Int×Int)×((Int×Int)×((List Int)×((List Int)×(List Int))))))))=>
 aJ (bC gR sO)
 (aJ (eu gR gj)
 ((eB (aY .i64 (cv .i64 gR Bc) jb) (U kH)).aa (fun k91=>
 (dJ kH (aL 0 k91)).aa (fun uP=>
 (ae 0 (U kH) (U kH)).aa (fun _=>
 (xI (kB,(Bd,nR,kH),gR,gj,uP)).aa (fun J8=>
 (ae 0 (U m7) (U m7)).aa (fun _=>
 (ae 0 (U qm) (U qm)).aa (fun _=>
 (ae 0 (U kH) (U J8)).aa (fun _=>
 some (Sum.inl ((kB,jr,jb,gj,aY .i64 gR 1),(sO,Bc,fm),(sP,yS),(Bd,nR),qm,J8,m7))))))))))
 ((ae 0 (U m7) (U m7)).aa (fun _=>
 (ae 0 (U qm) (U qm)).aa (fun _=>
 (ae 0 (U kH) (U kH)).aa (fun _=>
 some (Sum.inl ((kB,jr,jb,gj,aY .i64 gR 1),(sO,Bc,fm),(sP,yS),(Bd,nR),qm,kH,m7)))))))
 (((ae 0 (U m7) (U m7)).aa (fun _=>
 (ae 0 (U qm) (U qm)).aa (fun _=>
 (ae 0 (U kH) (U kH)).aa (fun _=>
 some (Sum.inl ((jb,kB,jr),(sO,Bc,fm),(sP,yS),(Bd,nR),qm,kH,m7)))))).aa (fun EH=>
 some (Sum.inr EH))))
 ((lE,Em,i64,sM,(0:Int)),(sN,ry,nY),(JD,uM),(uN,oS),BN,lK,iI)))))
 (fun((lF,uQ,Bg),(Bh,wJ,qd),(A2,wH),(uK,nO),rB,iF,jc)=>
 (ae 0 (U jc) (U jc)).aa (fun _=>
 (dg ((lF::([]:List Int))) 0 1).aa (fun mV=>
 (ir (aL (U jc) (U mV)) 8).aa (fun _=>
 (ae 0 (aL (U jc) (U mV)) (U (bU jc mV))).aa (fun _=>
 (ae 0 (U rB) (U rB)).aa (fun _=>
 (ae 0 (U iF) (U iF)).aa (fun _=>
 some (Sum.inl ((lF,uQ,Bg),(Bh,wJ,qd),(A2,wH),(uK,nO),rB,iF,bU jc mV)))))))))))))))))))
 (fun((A4,sJ,rv),(sK,yQ,uU),(agJ,IY),(A5,O3),qe,qf,qg)=>
 (ae 0 (U qg) (U qg)).aa (fun _=>
 (ae 0 (U qe) (U qe)).aa (fun _=>
 (ae 0 (U qf) (U qf)).aa (fun _=>
 some (Sum.inl ((sJ,rv,aY .i64 A4 1),(sK,yQ,uU),(agJ,IY),(A5,O3),qe,qf,qg)))))))
 (((ae 0 (U ct) (U ct)).aa (fun _=>
 (ae 0 (U bK) (U bK)).aa (fun _=>
 (ae 0 (U fa) (U fa)).aa (fun _=>
 some (Sum.inl (i6,(cm,cO),(di,c9),bK,fa,ct)))))).aa (fun wR=>
 some (Sum.inr wR))))
 (((ae 0 (U ct) (U ct)).aa (fun _=>
 (ae 0 (U bK) (U bK)).aa (fun _=>
 (ae 0 (U fa) (U fa)).aa (fun _=>
 some (Sum.inl (i6,(cm,cO),(di,c9),bK,fa,ct)))))).aa (fun wS=>
 some (Sum.inr wS))))
 ((i0,(1:Int),(0:Int)),(i1,i2,l3),((0:Int),(0:Int)),(i1,i2),([]:List Int),l4,([]:List Int))))))
 (fun(O4,(A6,Ec),(wI,A7),PO,Zt,Bp)=>
 (dq Zt (U Zt)).aa (fun Ey=>
 (dq Bp (U Bp)).aa (fun Ez=>
 some ((wI,A7,Ey),Ez,O4))))))
def FZ (NN:Nat):(Int×(Int×(Int×(List Int))))->(Option ((Int×(Int×(List Int)))×(List Int))):=
 (fun((i0,i1,i2,l3):(Int×(Int×(Int×(List Int)))))=>
 (zI (i1,i2,l3)).aa (fun(i4,i5,l6)=>
 bO ((ae 0 0 (U (([]:List Int)))).aa (fun _=>
 (ae 0 0 (U (([]:List Int)))).aa (fun _=>
 (ae 0 (U l6) (U l6)).aa (fun _=>
 bg NN (fun(((i7,i8),(i9,cd),(cm,cO),gn,fj,bK):((Int×Int)×((Int×Int)×((Int×Int)×((List Int)×((List Int)×(List Int)))))))=>
 aJ (bC i8 cO)
 (bO (bO ((ae 0 (U bK) (U bK)).aa (fun _=>
 (ae 0 (U gn) (U gn)).aa (fun _=>
 (ae 0 (U fj) (U fj)).aa (fun _=>
 bg NN (fun(((dj,fZ,dR,dk),(gF,iA),(jN,ie),fS,dS,eV):((Int×(Int×(Int×Int)))×((Int×Int)×((Int×Int)×((List Int)×((List Int)×(List Int)))))))=>
 aJ (bC dk jN)
 ((dg dS 0 (U dS)).aa (fun uV=>
 (jW ((jN,ie,uV),dk,fZ)).aa (fun f0=>
 aJ (fE f0 (0:Int))
 ((ae 0 (U eV) (U eV)).aa (fun _=>
 (ae 0 (U fS) (U fS)).aa (fun _=>
 (ae 0 (U dS) (U dS)).aa (fun _=>
 some (Sum.inl ((dj,fZ,dR,aY .i64 dk 1),(gF,iA),(jN,ie),fS,dS,eV))))))
 (((ae 0 (U eV) (U eV)).aa (fun _=>
 (ae 0 (U fS) (U fS)).aa (fun _=>
 (ae 0 (U dS) (U dS)).aa (fun _=>
 some (Sum.inl ((dk,dR,fZ,dj),(gF,iA),(jN,ie),fS,dS,eV)))))).aa (fun gV=>
 some (Sum.inr gV))))))
 (((ae 0 (U eV) (U eV)).aa (fun _=>
 (ae 0 (U fS) (U fS)).aa (fun _=>
 (ae 0 (U dS) (U dS)).aa (fun _=>
 some (Sum.inl ((dk,dR,fZ,dj),(gF,iA),(jN,ie),fS,dS,eV)))))).aa (fun fA=>
 some (Sum.inr fA))))
 ((i7,i8,aO (U bK),aO (U bK)),(i9,cd),(cm,cO),gn,fj,bK)))))
 (fun((j7,Bb,pW,ja),(jp,mR),(mS,ky),iH,fk,kF)=>
 aJ (fE j7 mS)
 ((ae 0 (U kF) (U kF)).aa (fun _=>
 (ae 0 (U iH) (U iH)).aa (fun _=>
 (ae 0 (U fk) (U fk)).aa (fun _=>
 some (Sum.inl ((pW,ja),(jp,mR),(mS,ky),iH,fk,kF))))))
 ((ae 0 (U fk) (U fk)).aa (fun _=>
 (zH ((mS,ky,fk),Bb,j7)).aa (fun Ql=>
 (dg Ql 0 (U fk)).aa (fun nT=>
 (jW ((mS,ky,nT),Bb,pW)).aa (fun jO=>
 (zJ (ja,jO)).aa (fun iC=>
 bO ((ae 0 (U kF) (U kF)).aa (fun _=>
 (ae 0 (U iH) (U iH)).aa (fun _=>
 (ae 0 (U fk) (U Ql)).aa (fun _=>
 bg NN (fun(((mU,f6,iD,lD,jq),(kz,jP),(kA,pY),eG,nW,qi):((Int×(Int×(Int×(Int×Int))))×((Int×Int)×((Int×Int)×((List Int)×((List Int)×(List Int)))))))=>
 aJ (bC jq pY)
 ((dg nW 0 (U nW)).aa (fun qj=>
 (jW ((kA,pY,qj),iD,jq)).aa (fun yR=>
 (fL (cv .i64 yR lD) mU).aa (fun p9=>
 (ae 0 (U nW) (U nW)).aa (fun _=>
 (oz ((kA,pY,nW),iD,jq,p9)).aa (fun kG=>
 (ae 0 (U qi) (U qi)).aa (fun _=>
 (ae 0 (U eG) (U eG)).aa (fun _=>
 (ae 0 (U nW) (U kG)).aa (fun _=>
 some (Sum.inl ((mU,f6,iD,lD,aY .i64 jq 1),(kz,jP),(kA,pY),eG,kG,qi)))))))))))
 (((ae 0 (U qi) (U qi)).aa (fun _=>
 (ae 0 (U eG) (U eG)).aa (fun _=>
 (ae 0 (U nW) (U nW)).aa (fun _=>
 some (Sum.inl ((mU,f6,iD),(kz,jP),(kA,pY),eG,nW,qi)))))).aa (fun mn=>
 some (Sum.inr mn))))
 ((ja,pW,Bb,iC,(0:Int)),(jp,mR),(mS,ky),iH,Ql,kF)))))
 (fun((lE,i64,sM),(sN,ry),(uL,JD),qk,ql,J7)=>
 bO ((ae 0 (U J7) (U J7)).aa (fun _=>
 (ae 0 (U qk) (U qk)).aa (fun _=>
 (ae 0 (U ql) (U ql)).aa (fun _=>
 bg NN (fun(((jQ,rz,En,kB),(jr,jb),(gj,gR),gH,eX,fm):((Int×(Int×(Int×Int)))×((Int×Int)×((Int×Int)×((List Int)×((List Int)×(List Int)))))))=>
 aJ (bC kB gj)
 (aJ (eu kB En)
 ((dg eX 0 (U eX)).aa (fun n3=>
 (jW ((gj,gR,n3),kB,rz)).aa (fun yS=>
 aJ (eu yS (0:Int))
 ((dg eX 0 (U eX)).aa (fun m6=>
 (jW ((gj,gR,m6),kB,rz)).aa (fun nR=>
 (ae 0 (U eX) (U eX)).aa (fun _=>
 (xE ((gj,gR,eX),jQ,kB,En,nh .i64 jQ nR)).aa (fun qm=>
 (ae 0 (U fm) (U fm)).aa (fun _=>
 (ae 0 (U gH) (U gH)).aa (fun _=>
 (ae 0 (U eX) (U qm)).aa (fun _=>
 some (Sum.inl ((jQ,rz,En,aY .i64 kB 1),(jr,jb),(gj,gR),gH,qm,fm))))))))))
 ((ae 0 (U fm) (U fm)).aa (fun _=>
 (ae 0 (U gH) (U gH)).aa (fun _=>
 (ae 0 (U eX) (U eX)).aa (fun _=>
 some (Sum.inl ((jQ,rz,En,aY .i64 kB 1),(jr,jb),(gj,gR),gH,eX,fm)))))))))
 ((ae 0 (U fm) (U fm)).aa (fun _=>
 (ae 0 (U gH) (U gH)).aa (fun _=>
 (ae 0 (U eX) (U eX)).aa (fun _=>
 some (Sum.inl ((jQ,rz,En,aY .i64 kB 1),(jr,jb),(gj,gR),gH,eX,fm)))))))
 (((ae 0 (U fm) (U fm)).aa (fun _=>
 (ae 0 (U gH) (U gH)).aa (fun _=>
 (ae 0 (U eX) (U eX)).aa (fun _=>
 some (Sum.inl ((rz,jQ),(jr,jb),(gj,gR),gH,eX,fm)))))).aa (fun kH=>
 some (Sum.inr kH))))
 ((lE,i64,sM,(0:Int)),(sN,ry),(uL,JD),qk,ql,J7)))))
 (fun((uO,Bf),(uP,qa),(sR,lF),tr,mr,j9)=>
 (ae 0 (U j9) (U j9)).aa (fun _=>
 (dg ((uO::([]:List Int))) 0 1).aa (fun m8=>
 (ir (aL (U j9) (U m8)) 8).aa (fun _=>
 (ae 0 (aL (U j9) (U m8)) (U (bU j9 m8))).aa (fun _=>
 (ae 0 (U tr) (U tr)).aa (fun _=>
 (ae 0 (U mr) (U mr)).aa (fun _=>
 some (Sum.inl ((uO,Bf),(uP,qa),(sR,lF),tr,mr,bU j9 m8))))))))))))))))))
 (fun((yP,A2),(wH,uK),(nO,A3),iF,jc,mV)=>
 (ae 0 (U mV) (U mV)).aa (fun _=>
 (ae 0 (U iF) (U iF)).aa (fun _=>
 (ae 0 (U jc) (U jc)).aa (fun _=>
 some (Sum.inl ((A2,aY .i64 yP 1),(wH,uK),(nO,A3),iF,jc,mV)))))))
 (((ae 0 (U bK) (U bK)).aa (fun _=>
 (ae 0 (U gn) (U gn)).aa (fun _=>
 (ae 0 (U fj) (U fj)).aa (fun _=>
 some (Sum.inl ((i9,cd),(cm,cO),gn,fj,bK)))))).aa (fun Ew=>
 some (Sum.inr Ew))))
 ((i0,(0:Int)),((0:Int),(0:Int)),(i4,i5),([]:List Int),l6,([]:List Int))))))
 (fun((sJ,rv),(sK,yQ),uU,wP,JN)=>
 (dq wP (U wP)).aa (fun ai1=>
 (dq JN (U JN)).aa (fun wQ=>
 some ((sK,yQ,ai1),wQ))))))
theorem ab9 (P:Nat->Prop) [DecidablePred P]:∀c:Nat,∃n,n<=c/\(∀j,j<n->P j)/\(n=c\/¬P n)
 |0=>⟨0,Nat.le_refl 0,fun j hj=>absurd hj (Nat.not_lt_zero j),.inl rfl⟩
 |c+1=>by
  obtain⟨n,h1,h2,h3⟩:=ab9 P c
  by_cases h:P n
  ·rcases h3 with h3|h3
   ·subst h3
    refine⟨n+1,Nat.le_refl _,fun j hj=>?_,.inl rfl⟩
    by_cases iU:j=n
    ·subst iU;exact h
    ·exact h2 j (by omega)
   ·exact absurd h h3
  ·exact⟨n,by omega,h2,.inr h⟩
theorem FC {p:Int} {r c:Nat} {M:bf} (hM:da p r c M) {a b:Nat} (ha:a<r) (hb:b<r):da p r c (cq M a b):=by
 intro i hi j hj
 unfold cq
 split
 ·exact hM b hb j hj
 ·split
  ·exact hM a ha j hj
  ·exact hM i hi j hj
theorem aoo (M:bf) (a:Nat):cq M a a=M:=by
 funext i j
 unfold cq
 split
 ·rename_i h;rw[h]
 ·rfl
theorem abm {p inv:Int} {r c:Nat} {M:bf} (hp:cP p) (hM:da p r c M) (t:Nat):da p r c (rN p inv M t):=by
 intro i hi j hj
 unfold rN
 split
 ·exact sk hp _
 ·exact hM i hi j hj
theorem MA {p:Int} {r c:Nat} {M:bf} (hp:cP p) (hM:da p r c M) (t k n:Nat):da p r c (ef p M t k n):=by
 intro i hi j hj
 unfold ef
 split
 ·exact sk hp _
 ·exact hM i hi j hj
theorem RB {p:Int} (hp:cP p):fy p 1:=⟨by omega,by have:=hp.1;omega⟩
theorem RN {p:Int} {r c:Nat} {M:bf} (hp:cP p) (hM:da p r c M) {t k:Nat} (ht:t<r) (hk:k<r) (j:Nat):da p r c (lL p M t j k):=abm hp (FC hM ht hk) t
structure RI (p:Int) (r c:Nat) (s:bf×List Int×Int) (j:Nat):Prop where
 m:da p r c s.1
 l:s.2.1.length<=r
 lj:s.2.1.length<=j
 d:fy p s.2.2
 e:∀x∈s.2.1,0<=x/\x<(j:Int)
theorem RI.step {p:Int} {r c:Nat} {s:bf×List Int×Int} {j:Nat} (hp:cP p) (h:RI p r c s j):RI p r c (iM p r s j) (j+1):=by
 have eM:RI p r c s (j+1):=⟨h.m,h.l,by have:=h.lj;omega,h.d,fun x hx=>by have:=h.e x hx;omega⟩
 unfold iM
 split
 ·rename_i hl
  split
  ·exact eM
  ·rename_i k hk
   have hq:=B9 hk
   refine⟨MA hp (RN hp h.m hl (by omega) j) _ _ _,?_,?_,sk hp _,?_⟩
   ·simp only[List.length_append,List.length_cons,List.length_nil];omega
   ·have:=h.lj
    simp only[List.length_append,List.length_cons,List.length_nil];omega
   ·intro x hx
    simp only[List.mem_append,List.mem_singleton] at hx
    rcases hx with hx|rfl
    ·have:=h.e x hx;omega
    ·omega
 ·exact eM
theorem tD {p:Int} {r c:Nat} {M:bf} (hp:cP p) (hM:da p r c M):∀j,RI p r c (c7 p r M j) j
 |0=>⟨hM,Nat.zero_le _,Nat.le_refl 0,RB hp,fun x hx=>absurd hx (List.not_mem_nil)⟩
 |j+1=>(tD hp hM j).step hp
theorem aa2 {p:Int} {r:Nat} {M:bf} {n:Nat} (h:¬(c7 p r M n).2.1.length<r):∀d,c7 p r M (n+d)=c7 p r M n
 |0=>rfl
 |d+1=>by
  have ih:=aa2 h d
  show iM p r (c7 p r M (n+d)) (n+d)=_
  rw[ih,iM,if_neg h]
theorem abq {r c:Nat} {p inv:Int} (M:bf) (t n:Nat):ao r c (jB (vf p inv M t n) t n (M t n*inv%p))=ao r c (vf p inv M t (n+1)):=by
 refine ib fun a _ b _=>?_
 unfold jB vf
 by_cases h:a=t/\b=n
 ·obtain⟨rfl,rfl⟩:=h
  simp
 ·rw[if_neg h]
  by_cases h1:a=t/\b<n
  ·rw[if_pos h1,if_pos ⟨h1.1,by omega⟩]
  ·rw[if_neg h1,if_neg (by omega)]
theorem abn {p inv:Int} (M:bf) (t:Nat):vf p inv M t 0=M:=by funext a b;exact if_neg (by omega)
theorem abp {p inv:Int} (M:bf) (t n:Nat):vf p inv M t n t n=M t n:=if_neg (by omega)
theorem abo {r c:Nat} {p inv:Int} (M:bf) (t:Nat):ao r c (vf p inv M t c)=ao r c (rN p inv M t):=by
 refine ib fun a _ b hb=>?_
 unfold vf rN
 by_cases h:a=t
 ·rw[if_pos ⟨h,hb⟩,if_pos h]
 ·rw[if_neg (fun q=>h q.1),if_neg h]
theorem Mz {p:Int} (M:bf) (t j:Nat):ef p M t j 0=M:=by funext a b;exact if_neg (by omega)
theorem C8 {p:Int} (M:bf) (t j n b:Nat):ef p M t j n n b=M n b:=if_neg (by omega)
theorem Wg {p:Int} (M:bf) (t j n b:Nat):ef p M t j n t b=M t b:=if_neg (by omega)
theorem MB {p:Int} (M:bf) (t j:Nat):ef p M t j (t+1)=ef p M t j t:=by
 funext a b
 unfold ef
 by_cases h:a<t
 ·rw[if_pos (by omega),if_pos (by omega)]
 ·rw[if_neg (by omega),if_neg (by omega)]
theorem Wh {r c:Nat} {p:Int} (M:bf) (t j n:Nat) (hn:n≠t):ao r c (oI p (ef p M t j n) n t (p - M n j))=ao r c (ef p M t j (n+1)):=by
 refine ib fun a _ b _=>?_
 unfold oI
 by_cases h:a=n
 ·subst h
  rw[if_pos rfl,C8,Wg]
  exact(if_pos ⟨by omega,hn⟩).symm
 ·rw[if_neg h]
  unfold ef
  by_cases h1:a<n/\a≠t
  ·rw[if_pos h1,if_pos ⟨by omega,h1.2⟩]
  ·rw[if_neg h1,if_neg (by omega)]
theorem adD {r c:Nat} {p:Int} (M:bf) (t j n:Nat) (hM:da p r c M) (h0:M n j=0):ao r c (ef p M t j n)=ao r c (ef p M t j (n+1)):=by
 refine ib fun a ha b hb=>?_
 unfold ef
 by_cases h:a=n
 ·subst h
  rw[if_neg (by omega)]
  by_cases ht:a=t
  ·rw[if_neg (by omega)]
  ·rw[if_pos ⟨by omega,ht⟩,h0,Int.sub_zero,Int.add_mul_emod_self_left]
   exact(Int.emod_eq_of_lt (hM a ha b hb).1 (hM a ha b hb).2).symm
 ·by_cases h1:a<n/\a≠t
  ·rw[if_pos h1,if_pos ⟨by omega,h1.2⟩]
  ·rw[if_neg h1,if_neg (by omega)]
theorem Ks {M:bf} {j:Nat}:∀{d k:Nat},ij M j d k=none->∀i,k<=i->i<k+d->M i j=0
 |0,k,_,i,h1,h2=>by omega
 |d+1,k,h,i,h1,h2=>by
  simp only[ij] at h
  split at h
  ·rename_i h0
   by_cases hi:i=k
   ·rw[hi];exact h0
   ·exact Ks h i (by omega) (by omega)
  ·cases h
theorem RL {M:bf} {j q:Nat}:∀{d k:Nat},ij M j d k=some q->∀i,k<=i->i<q->M i j=0
 |0,k,h,i,h1,h2=>by cases h
 |d+1,k,h,i,h1,h2=>by
  simp only[ij] at h
  split at h
  ·rename_i h0
   by_cases hi:i=k
   ·rw[hi];exact h0
   ·exact RL h i (by omega) h2
  ·have:=Option.some.inj h;omega
theorem aok {p d:Int} (hp:cP p) (hd:fy p d):fL (nh .i64 p d) p=some ((p - d)%p):=by
 have h1:=hp.1;have h2:=hp.2;have h3:=hd.1;have h4:=hd.2
 rw[ph (by omega) (by omega),Kz (by omega) (by omega)]
theorem Kw {p:Int} {r:Nat} {s:bf×List Int×Int} {j:Nat} (hl:s.2.1.length<r) (h:ij s.1 j (r - s.2.1.length) s.2.1.length=none):iM p r s j=s:=by
 unfold iM
 rw[if_pos hl,h]
theorem Kx {p:Int} {r:Nat} {s:bf×List Int×Int} {j k:Nat} (hl:s.2.1.length<r) (h:ij s.1 j (r - s.2.1.length) s.2.1.length=some k):
  iM p r s j=(ef p (lL p s.1 s.2.1.length j k) s.2.1.length j r,s.2.1++[(j:Int)],zi p s.1 s.2.1.length j k s.2.2):=by
 unfold iM
 rw[if_pos hl,h]
theorem ah2 {p x:Int} (hp:cP p) (hx:fy p x):vE (p,x)=some (gT p 1 x (p - 2).toNat):=if_pos ⟨hp,hx⟩
theorem ah0 {p x:Int} (hp:cP p) (hx:fy p x):zJ (p,x)=some (gT p 1 x (p - 2).toNat):=if_pos ⟨hp,hx⟩
theorem Ve {r c:Nat} (M M':bf):dg (ao r c M) 0 (U (ao r c M'))=some (ao r c M):=CL (by rw[BP];exact(jY r c M))
theorem adE {α:Type} {b:Bool} {u v x:α} (h1:b=true->u=x) (h2:b=false->v=x):aJ b u v=x:=by
 cases b
 ·exact h2 rfl
 ·exact h1 rfl
section
variable {p:Int} {r c:Nat} {M0:bf}
abbrev UJ (p:Int) (r c:Nat) (L0:List Int) (s:bf×List Int×Int) (j:Nat):(Int×Int×Int)×(Int×Int×List Int)×(Int×Int)×(Int×Int)×List Int×List Int×List Int:=
 ((p,s.2.2,(j:Int)),((r:Int),(c:Int),L0),((0:Int),(0:Int)),((r:Int),(c:Int)),([]:List Int),ao r c s.1,s.2.1)
theorem afE (hp:cP p) (hr:r<=4096) (hc:c<=4096) (dB:r*c<=1048576) (hM:da p r c M0):
  Gg aB (p,(r:Int),(c:Int),ao r c M0)=some (((r:Int),(c:Int),ao r c (c7 p r M0 c).1),(c7 p r M0 c).2.1,(c7 p r M0 c).2.2):=by
 obtain⟨n,hn,bH,XS⟩:=ab9 (fun j=>(c7 p r M0 j).2.1.length<r) c
 have af1:c7 p r M0 c=c7 p r M0 n:=by
  rcases XS with e|e
  ·rw[e]
  ·obtain⟨d,rfl⟩:∃d,c=n+d:=⟨c - n,by omega⟩
   exact aa2 e d
 rw[af1]
 have hlen:(ao r c M0).length<=1099511627776:=by rw[jY];omega
 simp only[Gg,kq,if_pos hlen,ak,bQ]
 rw[fc (r:=Sum.inl ((c7 p r M0 n).2.2,((0:Int),(0:Int)),((r:Int),(c:Int)),([]:List Int),ao r c (c7 p r M0 n).1,(c7 p r M0 n).2.1)) (fun j=>UJ p r c (ao r c M0) (c7 p r M0 j) j) n ?_ ?_ ?_ (cN (by omega))]
 ·rw[show ae 0 0 (U ([]:List Int))=some () from rfl];simp only[ak];rw[db];simp only[kf,ak]
 ·intro j hj
  have hI:=tD hp hM (r:=r) (c:=c) j
  have hl:=bH j hj
  generalize hs:c7 p r M0 j=s at hI hl⊢
  have hS:c7 p r M0 (j+1)=iM p r s j:=by rw[<-hs];rfl
  obtain⟨M,L,d⟩:=s
  simp only at hl
  have uj:da p r c M:=hI.m
  have XD:fy p d:=hI.d
  simp only[UJ]
  rw[aQ (fo (show j<c by omega)),aQ (show bC (aO (U L)) (r:Int)=true from fo hl)]
  simp only[il,ak]
  rw[show aO (U L)=((L.length:Nat):Int) from rfl,aaL hr hc dB (show L.length<=r by omega) (show j<c by omega),ak]
  cases hk:ij M j (r - L.length) L.length with
  |none=>
   rw[hS,Kw (s:=(M,L,d)) hl hk,aQ (show bC (u5 none) 0=true from rfl),db]
   simp only[eQ (show j<=1048577 by omega)]
  |some k=>
   obtain⟨sE,jo,hq3⟩:=B9 hk
   have rj:k<r:=by omega
   rw[hS,Kx (s:=(M,L,d)) hl hk,aN (show bC (u5 (some k)) 0=false from dX (by show(0:Int)<=(k:Int);omega))]
   have yy:=FC uj hl rj
   have hx:=yy L.length hl j (by omega)
   have DQ:=Zd hp (p - 2).toNat 1 (cq M L.length k L.length j) (RB hp)
   have Oa:fy p (if k=L.length then d else(p - d)%p):=by split;exact XD;exact sk hp _
   rw[adE (b:=eu (u5 (some k)) ((L.length:Nat):Int)) (x:=some (Sum.inl (((if k=L.length then d else(p - d)%p),((L.length:Nat):Int),(j:Int),p),((r:Int),(c:Int),ao r c M0),((0:Int),(0:Int)),((r:Int),(c:Int)),([]:List Int),ao r c (cq M L.length k),L))) ?_ ?_]
   ·rw[db]
    simp only[lG (show L.length<=1048576 by omega) (show c<=1048576 by omega) (show j<=1048576 by omega),qQ _ hl (show j<c by omega),ak,mF,q9 _ hl (show j<c by omega)]
    rw[y7 hp Oa.le hx.le,ak,ah2 hp hx,ak]
    rw[fc (r:=Sum.inl ((zi p M L.length j k d,p,(j:Int),((L.length:Nat):Int)),((r:Int),(c:Int),ao r c M0),((0:Int),(0:Int)),((r:Int),(c:Int)),([]:List Int),ao r c (lL p M L.length j k),L)) (fun b=>((p,zi p M L.length j k d,(j:Int),((L.length:Nat):Int),gT p 1 (cq M L.length k L.length j) (p - 2).toNat,(b:Int)),((r:Int),(c:Int),ao r c M0),((0:Int),(0:Int)),((r:Int),(c:Int)),([]:List Int),ao r c (vf p (gT p 1 (cq M L.length k L.length j) (p - 2).toNat) (cq M L.length k) L.length b),L)) c ?_ ?_ ?_ (cN (by omega))]
    ·rw[db]
     simp only
     have hP:da p r c (lL p M L.length j k):=RN hp uj hl rj j
     generalize lL p M L.length j k=P at hP⊢
     generalize hD:zi p M L.length j k d=D
     rw[fc (r:=Sum.inl (((j:Int),p,D),((r:Int),(c:Int),ao r c M0),((0:Int),(0:Int)),((r:Int),(c:Int)),([]:List Int),ao r c (ef p P L.length j r),L)) (fun a=>((p,D,(j:Int),((L.length:Nat):Int),(a:Int)),((r:Int),(c:Int),ao r c M0),((0:Int),(0:Int)),((r:Int),(c:Int)),([]:List Int),ao r c (ef p P L.length j a),L)) r ?_ ?_ ?_ (cN (by omega))]
     ·rw[db]
      simp only
      rw[CL (xs:=[(j:Int)]) (n:=1) rfl,ak,jH (by simp only[aL,U,dK,List.length_cons,List.length_nil];omega),ak,ZT,bQ,ak,db]
      simp only[eQ (show j<=1048577 by omega),<-hD]
      rfl
     ·intro a ha
      simp only
      rw[aQ (fo ha)]
      by_cases bI:a=L.length
      ·rw[aN (n7 (by omega))]
       simp only[eQ (show a<=1048577 by omega)]
       rw[bI,MB]
      ·rw[aQ (qq (by omega))]
       simp only[lG (show a<=1048576 by omega) (show c<=1048576 by omega) (show j<=1048576 by omega),qQ _ ha (show j<c by omega),ak,mF,q9 _ ha (show j<c by omega),C8]
       rw[Wc hp hr hc dB ha hl (hP a ha j (by omega)).le (MA hp hP _ _ _)]
       simp only[ak,lW,eQ (show a<=1048577 by omega)]
       rw[Wh P L.length j a bI]
     ·simp only
      rw[aN (fK (Nat.le_refl r))]
     ·rw[Mz]
      rfl
    ·intro b hb
     simp only
     rw[aQ (fo hb)]
     simp only[lG (show L.length<=1048576 by omega) (show c<=1048576 by omega) (show b<=1048576 by omega),qQ _ hl hb,ak,mF,q9 _ hl hb,abp]
     rw[y7 hp (yy L.length hl b hb).le DQ.le]
     simp only[ak,zo _ hb,lW,abq,eQ (show b<=1048577 by omega)]
    ·simp only
     rw[aN (fK (Nat.le_refl c)),abo]
     rfl
    ·rw[abn]
     rfl
   ·intro ax
    have agh:k≠L.length:=by
     intro q;subst q;rw[show eu (u5 (some L.length)) ((L.length:Nat):Int)=false from n7 rfl] at ax;cases ax
    rw[if_neg agh,show u5 (some k)=(k:Int) from rfl,Lc hr hc dB hl rj,ak,aok hp XD]
    simp only[ak,lW]
   ·intro dm
    have XT:k=L.length:=by
     by_cases q:k=L.length
     ·exact q
     ·rw[show eu (u5 (some k)) ((L.length:Nat):Int)=true from qq (by show((k:Nat):Int)≠_;omega)] at dm;cases dm
    rw[if_pos XT,XT,aoo]
 ·simp only[UJ]
  by_cases pO:n=c
  ·subst pO
   rw[aN (fK (Nat.le_refl n))]
  ·have he:r<=(c7 p r M0 n).2.1.length:=by
    rcases XS with e|e
    ·exact absurd e pO
    ·exact Nat.le_of_not_lt e
   rw[aQ (fo (show n<c by omega)),aN (show bC (aO (U (c7 p r M0 n).2.1)) (r:Int)=false from fK he)]
 ·rfl
end
section
variable {p:Int} {r c:Nat} {M0:bf}
abbrev UI (p:Int) (r c:Nat) (s:bf×List Int×Int) (j:Nat):(Int×Int)×(Int×Int)×(Int×Int)×List Int×List Int×List Int:=
 ((p,(j:Int)),((0:Int),(0:Int)),((r:Int),(c:Int)),([]:List Int),ao r c s.1,s.2.1)
theorem afD (hp:cP p) (hr:r<=4096) (hc:c<=4096) (dB:r*c<=1048576) (hM:da p r c M0):
  FZ aB (p,(r:Int),(c:Int),ao r c M0)=some (((r:Int),(c:Int),ao r c (c7 p r M0 c).1),(c7 p r M0 c).2.1):=by
 have hlen:(ao r c M0).length<=1099511627776:=by rw[jY];omega
 simp only[FZ,zI,if_pos hlen,ak,bQ]
 rw[fc (r:=Sum.inl (((0:Int),(0:Int)),((r:Int),(c:Int)),([]:List Int),ao r c (c7 p r M0 c).1,(c7 p r M0 c).2.1)) (fun j=>UI p r c (c7 p r M0 j) j) c ?_ ?_ ?_ (cN (by omega))]
 ·rw[show ae 0 0 (U ([]:List Int))=some () from rfl];simp only[ak];rw[db];simp only[kf,ak]
 ·intro j hj
  have hI:=tD hp hM (r:=r) (c:=c) j
  generalize hs:c7 p r M0 j=s at hI⊢
  have hS:c7 p r M0 (j+1)=iM p r s j:=by rw[<-hs];rfl
  obtain⟨M,L,d⟩:=s
  have uj:da p r c M:=hI.m
  have kx:L.length<=r:=hI.l
  have hlj:L.length<=j:=hI.lj
  simp only[UI]
  rw[aQ (fo hj)]
  have anM:∃k:Nat,L.length<=k/\k<=r/\(∀i,L.length<=i->i<k->M i j=0)/\((k=r/\iM p r (M,L,d) j=(M,L,d))\/(k<r/\M k j≠0/\L.length<r/\iM p r (M,L,d) j=(ef p (lL p M L.length j k) L.length j r,L++[(j:Int)],zi p M L.length j k d))):=by
   by_cases hl:L.length<r
   ·cases hk:ij M j (r - L.length) L.length with
    |none=>exact⟨r,kx,Nat.le_refl r,fun i h1 h2=>Ks hk i h1 (by omega),.inl ⟨rfl,Kw (s:=(M,L,d)) hl hk⟩⟩
    |some k=>
     obtain⟨q1,q2,q3⟩:=B9 hk
     exact⟨k,q1,by omega,fun i h1 h2=>RL hk i h1 h2,.inr ⟨by omega,q3,hl,Kx (s:=(M,L,d)) hl hk⟩⟩
   ·refine⟨r,kx,Nat.le_refl r,fun i h1 h2=>by omega,.inl ⟨rfl,?_⟩⟩
    unfold iM
    exact if_neg hl
  obtain⟨k,IJ,X0,hk3,X3⟩:=anM
  rw[fc (r:=Sum.inl (((k:Int),((L.length:Nat):Int),(j:Int),p),((0:Int),(0:Int)),((r:Int),(c:Int)),([]:List Int),ao r c M,L)) (fun e=>((p,(j:Int),((L.length:Nat):Int),((L.length+e:Nat):Int)),((0:Int),(0:Int)),((r:Int),(c:Int)),([]:List Int),ao r c M,L)) (k - L.length) ?_ ?_ ?_ (cN (by omega))]
  ·rw[db]
   simp only
   rcases X3 with⟨rj,NW⟩|⟨rj,ax,hl,NW⟩
   ·rw[hS,NW,aQ (yi (by omega)),db]
    simp only[eQ (show j<=1048577 by omega)]
   ·rw[hS,NW,aN (yh (by omega))]
    have yy:=FC uj hl rj
    have hx:=yy L.length hl j hj
    have DQ:=Zd hp (p - 2).toNat 1 (cq M L.length k L.length j) (RB hp)
    rw[show zH (((r:Int),(c:Int),ao r c M),((L.length:Nat):Int),(k:Int))=some (ao r c (cq M L.length k)) from Lc hr hc dB hl rj,ak,Ve,ak,nA hr hc dB hl hj,ak,ah0 hp hx,ak]
    simp only[lW,ak]
    rw[fc (r:=Sum.inl ((p,(j:Int),((L.length:Nat):Int)),((0:Int),(0:Int)),((r:Int),(c:Int)),([]:List Int),ao r c (lL p M L.length j k),L)) (fun b=>((p,(j:Int),((L.length:Nat):Int),gT p 1 (cq M L.length k L.length j) (p - 2).toNat,(b:Int)),((0:Int),(0:Int)),((r:Int),(c:Int)),([]:List Int),ao r c (vf p (gT p 1 (cq M L.length k L.length j) (p - 2).toNat) (cq M L.length k) L.length b),L)) c ?_ ?_ ?_ (cN (by omega))]
    ·rw[db]
     simp only
     have hP:da p r c (lL p M L.length j k):=RN hp uj hl rj j
     generalize lL p M L.length j k=P at hP⊢
     rw[fc (r:=Sum.inl (((j:Int),p),((0:Int),(0:Int)),((r:Int),(c:Int)),([]:List Int),ao r c (ef p P L.length j r),L)) (fun a=>((p,(j:Int),((L.length:Nat):Int),(a:Int)),((0:Int),(0:Int)),((r:Int),(c:Int)),([]:List Int),ao r c (ef p P L.length j a),L)) r ?_ ?_ ?_ (cN (by omega))]
     ·rw[db]
      simp only
      rw[CL (xs:=[(j:Int)]) (n:=1) rfl,ak,jH (by simp only[aL,U,dK,List.length_cons,List.length_nil];omega),ak,ZT,bQ,ak,db]
      simp only[eQ (show j<=1048577 by omega)]
      rfl
     ·intro a ha
      simp only
      rw[aQ (fo ha)]
      by_cases bI:a=L.length
      ·rw[aN (n7 (by omega))]
       simp only[eQ (show a<=1048577 by omega)]
       rw[bI,MB]
      ·rw[aQ (qq (by omega)),Ve,ak,nA hr hc dB ha hj,ak,C8]
       have Iw:=hP a ha j hj
       by_cases h0:P a j=0
       ·rw[aN (n7 h0)]
        simp only[eQ (show a<=1048577 by omega)]
        rw[adD P L.length j a hP h0]
       ·rw[aQ (qq h0),ak,nA hr hc dB ha hj,ak,C8]
        have hs:nh .i64 p (P a j)=p - P a j:=by
         have h1:=hp.1;have h2:=hp.2;have h3:=Iw.1;have h4:=Iw.2
         exact ph (by omega) (by omega)
        rw[hs,VA hp hr hc dB ha hl (by have h3:=Iw.1;have h4:=Iw.2;omega) (MA hp hP _ _ _)]
        simp only[ak,lW,eQ (show a<=1048577 by omega)]
        rw[Wh P L.length j a bI]
     ·simp only
      rw[aN (fK (Nat.le_refl r))]
     ·rw[Mz]
      rfl
    ·intro b hb
     simp only
     rw[aQ (fo hb),Ve,ak,nA hr hc dB hl hb,ak,abp,y7 hp (yy L.length hl b hb).le DQ.le,ak,xn hr hc dB hl hb]
     simp only[ak,lW,abq,eQ (show b<=1048577 by omega)]
    ·simp only
     rw[aN (fK (Nat.le_refl c)),abo]
     rfl
    ·rw[abn]
     rfl
  ·intro e he
   simp only
   rw[aQ (fo (show L.length+e<r by omega)),il,ak,nA hr hc dB (show L.length+e<r by omega) hj,ak,aQ (yi (hk3 _ (by omega) (by omega)))]
   simp only[eQ (show L.length+e<=1048577 by omega)]
   rfl
  ·have e1:L.length+(k - L.length)=k:=by omega
   simp only[e1]
   by_cases rj:k<r
   ·have ax:M k j≠0:=by
     rcases X3 with⟨h1,_⟩|⟨_,h1,_⟩
     ·omega
     ·exact h1
    rw[aQ (fo rj),il,ak,nA hr hc dB rj hj,ak,aN (yh ax)]
   ·rw[aN (fK (by omega))]
  ·rfl
 ·simp only[UI]
  rw[aN (fK (Nat.le_refl c))]
 ·rfl
end
theorem aa3 {x:Int×Int×Int×List Int} (h:Cb x):∃(p:Int) (r c:Nat) (M:bf),x=(p,(r:Int),(c:Int),ao r c M)/\cP p/\r<=4096/\c<=4096/\r*c<=1048576/\da p r c M/\M=cE c (ao r c M):=by
 obtain⟨p,x⟩:=x
 obtain⟨hp,hm,ha⟩:=h
 obtain⟨r,c,M,rfl,h1,h2,h3⟩:=tv hm
 simp only at hp ha
 have e:ao r c (cE c (ao r c M))=ao r c M:=pI (jY r c M)
 exact⟨p,r,c,cE c (ao r c M),by rw[e],hp,h1,h2,h3,k9.1 (by rw[e];exact ha),by rw[e]⟩
theorem ae9 (x:Int×Int×Int×List Int) (y:(Int×Int×List Int)×List Int×Int) (h:zR x=some y):Gg aB x=some y:=by
 simp only[zR] at h
 split at h
 ·rename_i hc
  obtain⟨p,r,c,M,rfl,hp,h1,h2,h3,hM,e⟩:=aa3 hc
  rw[<-h,afE hp h1 h2 h3 hM]
  simp only[qx,Int.toNat_natCast,<-e]
 ·cases h
theorem aeM (x:Int×Int×Int×List Int) (y:(Int×Int×List Int)×List Int) (h:zL x=some y):FZ aB x=some y:=by
 simp only[zL] at h
 split at h
 ·rename_i hc
  obtain⟨p,r,c,M,rfl,hp,h1,h2,h3,hM,e⟩:=aa3 hc
  rw[<-h,afD hp h1 h2 h3 hM]
  simp only[qx,Int.toNat_natCast,<-e]
 ·cases h
end Go.Am
end
section
namespace Go.Am
section
variable {p:Int} {r c:Nat} {M R:bf} {L:List Int}
end
end Go.Am
end
section
namespace Go.Am
def ch:Nat->Nat->Nat
 |_,0=>1
 |0,_+1=>0
 |n+1,k+1=>ch n k+ch n (k+1)
theorem HD:∀{n k:Nat},n<k->ch n k=0
 |0,k+1,_=>by simp[ch]
 |n+1,k+1,h=>by simp[ch,HD (show n<k by omega),HD (show n<k+1 by omega)]
theorem C6 (n:Nat):ch n 0=1:=by cases n<;>rfl
theorem V0:∀n,ch n n=1
 |0=>rfl
 |n+1=>by simp[ch,V0 n,HD (Nat.lt_succ_self n)]
theorem HE:∀(n k:Nat),(k+1)*ch (n+1) (k+1)=(n+1)*ch n k
 |0,0=>by simp[ch]
 |0,k+1=>by simp[ch]
 |n+1,0=>by
  have h:=HE n 0
  simp only[C6] at h⊢
  have e:ch (n+1+1) (0+1)=ch (n+1) 0+ch (n+1) (0+1):=rfl
  rw[e,C6]
  omega
 |n+1,k+1=>by
  have h1:=HE n k
  have h2:=HE n (k+1)
  have e1:ch (n+1+1) (k+1+1)=ch (n+1) (k+1)+ch (n+1) (k+1+1):=rfl
  have e2:ch (n+1) (k+1)=ch n k+ch n (k+1):=rfl
  rw[e1]
  generalize ch (n+1) (k+1+1)=B at*
  generalize ch (n+1) (k+1)=A at*
  generalize ch n k=u at*
  generalize ch n (k+1)=v at*
  subst e2
  grind
def ni (f:Nat->Nat):Nat->Nat
 |0=>0
 |m+1=>ni f m+f m
theorem acn (n a:Nat):∀m,ni (fun k=>ch (n+1) k*a^k) (m+1)=ni (fun k=>ch n k*a^k) (m+1)+a*ni (fun k=>ch n k*a^k) m
 |0=>by simp[ni,C6]
 |m+1=>by
  have h:=acn n a m
  simp only[ni] at h⊢
  have e:ch (n+1) (m+1)=ch n m+ch n (m+1):=rfl
  rw[h,e,Nat.pow_succ]
  grind
theorem VT (a:Nat):∀n,(a+1)^n=ni (fun k=>ch n k*a^k) (n+1)
 |0=>by simp[ni,C6]
 |n+1=>by
  rw[acn]
  have e:ni (fun k=>ch n k*a^k) (n+1+1)=ni (fun k=>ch n k*a^k) (n+1):=by
   show ni _ (n+1)+ch n (n+1)*a^(n+1)=_
   rw[HD (Nat.lt_succ_self n)];simp
  rw[e,<-VT a n,Nat.pow_succ]
  grind
theorem acm {p:Nat} {f:Nat->Nat}:∀m,(∀k,0<k->k<=m->p∣f k)->ni f (m+1)%p=f 0%p
 |0,h=>by simp[ni]
 |m+1,h=>by
  have i:=acm m fun k h1 h2=>h k h1 (by omega)
  obtain⟨c,hc⟩:=h (m+1) (by omega) (Nat.le_refl _)
  show(ni f (m+1)+f (m+1))%p=_
  rw[hc,Nat.add_mul_mod_self_left,i]
def xT (p:Nat):Prop:=2<=p/\∀d,d∣p->d=1\/d=p
theorem xT.Wk {p a:Nat} (hp:xT p) (h:¬p∣a):Nat.Coprime p a:=by
 have:=hp.2 (Nat.gcd p a) (Nat.gcd_dvd_left p a)
 rcases this with h1|h1
 ·exact h1
 ·exact absurd (h1▸Nat.gcd_dvd_right p a) h
theorem xT.ch {p k:Nat} (hp:xT p) (h1:0<k) (h2:k<p):p∣ch p k:=by
 obtain⟨q,rfl⟩:∃q,p=q+1:=⟨p - 1,by omega⟩
 obtain⟨j,rfl⟩:∃j,k=j+1:=⟨k - 1,by omega⟩
 have hm:=HE q j
 have hd:(q+1)∣(j+1)*Go.Am.ch (q+1) (j+1):=⟨Go.Am.ch q j,hm⟩
 exact(hp.Wk fun h=>absurd (Nat.le_of_dvd (by omega) h) (by omega)).dvd_of_dvd_mul_left hd
theorem W7 {p:Nat} (hp:xT p):∀a,a^p%p=a%p
 |0=>by rw[Nat.zero_pow (by have:=hp.1;omega)]
 |a+1=>by
  rw[VT]
  show(ni _ p+Go.Am.ch p p*a^p)%p=_
  obtain⟨q,rfl⟩:∃q,p=q+1:=⟨p - 1,by have:=hp.1;omega⟩
  have h:=acm (p:=q+1) (f:=fun k=>Go.Am.ch (q+1) k*a^k) q fun k h1 h2=>Nat.dvd_trans (hp.ch h1 (by omega)) (Nat.dvd_mul_right _ _)
  rw[V0,Nat.one_mul,Nat.add_mod,h,W7 hp a]
  simp only[C6,Nat.pow_zero,Nat.mul_one]
  rw[<-Nat.add_mod,Nat.add_comm]
theorem afk {p a:Nat} (hp:xT p) (ha:¬p∣a):a*a^(p - 2)%p=1:=by
 have h2:=hp.1
 have h:=W7 hp a
 have e:a^p=a*(a*a^(p - 2)):=by
  obtain⟨q,rfl⟩:∃q,p=q+2:=⟨p - 2,by omega⟩
  rw[Nat.pow_succ,Nat.pow_succ,Nat.add_sub_cancel]
  rw[Nat.mul_comm a (a^q),Nat.mul_comm a (a^q*a)]
 rw[e] at h
 have Iy:0<a:=by
  rcases Nat.eq_zero_or_pos a with h|h
  ·subst h;exact absurd ⟨0,by simp⟩ ha
  ·exact h
 have hz:0<a*a^(p - 2):=Nat.mul_pos Iy (Nat.pow_pos Iy)
 generalize a*a^(p - 2)=z at h hz⊢
 obtain⟨y,rfl⟩:∃y,z=y+1:=⟨z - 1,by omega⟩
 have hd:p∣a*y:=by
  have e:a*(y+1)=a*y+a:=by rw[Nat.mul_add,Nat.mul_one]
  rw[e] at h
  have:(a*y+a - a)%p=0:=Nat.sub_mod_eq_zero_of_mod_eq h
  rw[Nat.add_sub_cancel] at this
  exact Nat.dvd_of_mod_eq_zero this
 obtain⟨c,rfl⟩:=(hp.Wk ha).dvd_of_dvd_mul_left hd
 rw[Nat.add_comm,Nat.add_mul_mod_self_left]
 exact Nat.mod_eq_of_lt (by omega)
end Go.Am
end
section
namespace Go.Am
theorem ah4 {p:Int} (h:du p=true):xT p.toNat:=by
 have hp:=kD h
 obtain⟨n,rfl⟩:=f9 (show 0<=p by omega)
 simp only[Int.toNat_natCast]
 refine⟨by omega,fun d hd=>?_⟩
 rcases Nat.lt_or_ge d 2 with h2|h2
 ·rcases Nat.eq_zero_or_pos d with h0|h0
  ·subst h0
   have:=Nat.eq_zero_of_zero_dvd hd
   omega
  ·exact .inl (by omega)
 ·obtain⟨e,he⟩:=hd
  simp only[du,Bool.and_eq_true,decide_eq_true_eq,Bool.not_eq_true',List.any_eq_false] at h
  have cr:∀a b:Nat,2<=a->2<=b->a<=b->n≠a*b:=by
   intro a b ha hb eK e
   have h1:a*a<=n:=by rw[e];exact Nat.mul_le_mul_left _ eK
   have h3:a<1001:=by
    rcases Nat.lt_or_ge a 1001 with h|h
    ·exact h
    ·have:=Nat.mul_le_mul h h;omega
   refine h.2 a (by simp;omega) ?_
   unfold pB
   have ea:((a:Int))*(a:Int)=((a*a:Nat):Int):=by norm_cast
   simp only[Bool.and_eq_true,decide_eq_true_eq]
   constructor
   ·rw[ea];omega
   ·rw[e];push_cast;exact Int.mul_emod_right _ _
  right
  rcases Nat.lt_or_ge e 2 with h3|h3
  ·have:e=1:=by
    rcases Nat.eq_zero_or_pos e with h0|h0
    ·subst h0;simp at he;omega
    ·omega
   subst this;omega
  ·exfalso
   rcases Nat.le_total d e with Ob|Ob
   ·exact cr d e h2 h3 Ob he
   ·exact cr e d h3 h2 Ob (by rw[he,Nat.mul_comm])
theorem aaM (x:Int) (b:Nat):∀m:Nat,(x*x)^m*x^b=x^(2*m+b)
 |0=>by simp
 |m+1=>by
  have ih:=aaM x b m
  rw[show 2*(m+1)+b=2*m+b+1+1 by omega,Int.pow_succ,Int.pow_succ (n:=2*m+b+1),Int.pow_succ (n:=2*m+b),<-ih]
  grind
theorem ahZ {p:Int} (hp:cP p):∀(n:Nat) (out x:Int),gT p out x n%p=out*x^n%p:=by
 intro n
 induction n using Nat.strongRecOn with
 |ind n ih=>
  intro out x
  by_cases h0:n=0
  ·subst h0;rw[JH];simp
  ·rw[JI h0,ih (n/2) (by omega)]
   have e:x^n=(x*x)^(n/2)*x^(n%2):=by
    rw[aaM,Nat.div_add_mod]
   rw[e]
   have h1:((x*x%p)^(n/2))%p=((x*x)^(n/2))%p:=by
    have:∀k:Nat,((x*x%p)^k)%p=((x*x)^k)%p:=by
     intro k
     induction k with
     |zero=>simp
     |succ k ih=>rw[Int.pow_succ,Int.pow_succ,Int.mul_emod,ih,Int.emod_emod,<-Int.mul_emod]
    exact this _
   by_cases hb:n%2=1
   ·rw[if_pos hb,hb,Int.mul_emod,h1,Int.emod_emod,<-Int.mul_emod]
    congr 1
    grind
   ·rw[if_neg hb,show n%2=0 by omega,Int.mul_emod,h1,<-Int.mul_emod]
    congr 1
    grind
theorem Zf {p x:Int} (ek:du p=true) (hx:fy p x) (h0:x≠0):x*gT p 1 x (p - 2).toNat%p=1:=by
 have hp:=kD ek
 have bd:cP p:=⟨hp.1,hp.2⟩
 obtain⟨n,rfl⟩:=f9 (show 0<=p by omega)
 obtain⟨a,rfl⟩:=f9 hx.1
 have hN:=ah4 ek
 simp only[Int.toNat_natCast] at hN
 have ha:¬n∣a:=fun h=>by
  have:=Nat.le_of_dvd (by omega) h
  have:=hx.2
  omega
 have hf:=afk hN ha
 have e:(((n:Int)) - 2).toNat=n - 2:=by omega
 rw[Int.mul_emod,ahZ bd,e,Int.one_mul,<-Int.mul_emod]
 exact_mod_cast hf
def fT (f g:Nat->Int):Nat->Int
 |0=>0
 |n+1=>fT f g n+f n*g n
theorem aci {p:Int} {f f' g:Nat->Int}:∀n,(∀k,k<n->∃q,f k=f' k+p*q)->∃q,fT f g n=fT f' g n+p*q
 |0,_=>⟨0,by simp[fT]⟩
 |n+1,h=>by
  obtain⟨q,hq⟩:=aci (g:=g) n fun k hk=>h k (by omega)
  obtain⟨q',dQ⟩:=h n (by omega)
  exact⟨q+q'*g n,by simp only[fT,hq,dQ];grind⟩
theorem UN (f f2 g:Nat->Int) (c:Int):∀n,fT (fun k=>f k+c*f2 k) g n=fT f g n+c*fT f2 g n
 |0=>by simp[fT]
 |n+1=>by simp only[fT,UN f f2 g c n];grind
theorem Lb (f g g2:Nat->Int) (c:Int):∀n,fT f (fun k=>g k - c*g2 k) n=fT f g n - c*fT f g2 n
 |0=>by simp[fT]
 |n+1=>by simp only[fT,Lb f g g2 c n];grind
theorem UO (f g:Nat->Int) (c:Int):∀n,fT (fun k=>f k*c) g n=fT f g n*c
 |0=>by simp[fT]
 |n+1=>by simp only[fT,UO f g c n];grind
theorem UP (f g:Nat->Int) (c:Int):∀n,fT f (fun k=>g k*c) n=fT f g n*c
 |0=>by simp[fT]
 |n+1=>by simp only[fT,UP f g c n];grind
def dl (a b:Nat):Int:=if a=b then 1 else 0
def kZ (p:Int) (n:Nat) (E X:bf):Prop:=∀a,a<n->∀b,b<n->∃q,fT (E a) (fun k=>X k b) n=dl a b+p*q
theorem kZ.congr {p:Int} {n:Nat} {E E' X:bf} (h:kZ p n E X) (he:∀a,a<n->∀k,k<n->∃q,E' a k=E a k+p*q):kZ p n E' X:=by
 intro a ha b hb
 obtain⟨q,hq⟩:=h a ha b hb
 obtain⟨q',dQ⟩:=aci (p:=p) (f:=E' a) (f':=E a) (g:=fun k=>X k b) n (he a ha)
 exact⟨q+q',by rw[dQ,hq];grind⟩
theorem kZ.swap {p:Int} {n:Nat} {E X:bf} (h:kZ p n E X) {s t:Nat} (hs:s<n) (ht:t<n):∃X',kZ p n (cq E s t) X':=by
 let sw:Nat->Nat:=fun i=>if i=s then t else if i=t then s else i
 have AR:∀i,i<n->sw i<n:=by
  intro i hi
  show(if i=s then t else if i=t then s else i)<n
  split
  ·exact ht
  ·split
   ·exact hs
   ·exact hi
 have wm:∀i j,sw i=sw j->i=j:=by
  intro i j
  show(if i=s then t else if i=t then s else i)=(if j=s then t else if j=t then s else j)->i=j
  intro h
  repeat' split at h
  all_goals omega
 refine⟨fun k b=>X k (sw b),fun a ha b hb=>?_⟩
 obtain⟨q,hq⟩:=h (sw a) (AR a ha) (sw b) (AR b hb)
 refine⟨q,?_⟩
 have e:cq E s t a=E (sw a):=by
  funext k
  show(if a=s then E t k else if a=t then E s k else E a k)=E (if a=s then t else if a=t then s else a) k
  split
  ·rfl
  ·split<;>rfl
 rw[e,hq]
 congr 1
 unfold dl
 by_cases eK:a=b
 ·subst eK;simp
 ·rw[if_neg eK,if_neg fun h=>eK (wm _ _ h)]
theorem kZ.anG {p inv u:Int} {n:Nat} {E X:bf} (h:kZ p n E X) {t:Nat} (ht:t<n) (hu:u*inv%p=1):∃X',kZ p n (rN p inv E t) X':=by
 have jM:∃z,u*inv=1+p*z:=⟨u*inv/p,by have:=Int.emod_add_mul_ediv (u*inv) p;omega⟩
 obtain⟨z,hz⟩:=jM
 refine⟨fun k b=>if b=t then X k t*u else X k b,kZ.congr (E:=fun a k=>if a=t then E t k*inv else E a k) (fun a ha b hb=>?_) (fun a ha k hk=>?_)⟩
 ·obtain⟨q,hq⟩:=h a ha b hb
  by_cases bI:a=t
  ·subst bI
   by_cases mJ:b=a
   ·subst mJ
    refine⟨z+q*inv*u,?_⟩
    simp only[if_true]
    rw[UO,UP,hq,dl,if_pos rfl]
    grind
   ·refine⟨q*inv,?_⟩
    simp only[if_true,if_neg mJ]
    rw[UO,hq,dl,if_neg (Ne.symm mJ)]
    grind
  ·by_cases mJ:b=t
   ·subst mJ
    refine⟨q*u,?_⟩
    simp only[if_neg bI,if_true]
    rw[UP]
    have:fT (fun k=>E a k) (fun k=>X k b) n=dl a b+p*q:=hq
    rw[this,dl,if_neg bI]
    grind
   ·refine⟨q,?_⟩
    simp only[if_neg bI,if_neg mJ]
    exact hq
 ·unfold rN
  by_cases bI:a=t
  ·simp only[bI,if_true]
   refine⟨-(E t k*inv/p),?_⟩
   have:=Int.emod_add_mul_ediv (E t k*inv) p
   have e:p* -(E t k*inv/p)= -(p*(E t k*inv/p)):=Int.mul_neg _ _
   omega
  ·simp only[bI,if_false]
   exact⟨0,by simp⟩
theorem kZ.add {p f:Int} {n:Nat} {E E' X:bf} (h:kZ p n E X) {m t:Nat} (hm:m<n) (ht:t<n) (AK:m≠t) (he:∀a,a<n->∀k,k<n->∃q,E' a k=(if a=m then E m k+f*E t k else E a k)+p*q):∃X',kZ p n E' X':=by
 refine⟨fun k b=>if b=t then X k t - f*X k m else X k b,kZ.congr (E:=fun a k=>if a=m then E m k+f*E t k else E a k) (fun a ha b hb=>?_) he⟩
 obtain⟨q1,h1⟩:=h a ha b hb
 obtain⟨q2,h2⟩:=h t ht b hb
 obtain⟨q3,h3⟩:=h a ha m hm
 obtain⟨q4,h4⟩:=h t ht m hm
 have iT:fT (fun k=>E a k) (fun k=>X k b) n=dl a b+p*q1:=h1
 have wc:fT (fun k=>E t k) (fun k=>X k b) n=dl t b+p*q2:=h2
 have wg:fT (fun k=>E a k) (fun k=>X k m) n=dl a m+p*q3:=h3
 have h4':fT (fun k=>E t k) (fun k=>X k m) n=dl t m+p*q4:=h4
 have d1:dl t m=0:=if_neg (Ne.symm AK)
 by_cases yw:a=m
 ·subst yw
  have d2:dl a a=1:=if_pos rfl
  by_cases mJ:b=t
  ·subst mJ
   have d3:dl a b=0:=if_neg AK
   have d4:dl b b=1:=if_pos rfl
   refine⟨q1+f*q2 - f*q3 - f*f*q4,?_⟩
   simp only[if_true]
   rw[UN,Lb,Lb,iT,wc,wg,h4',d1,d2,d3,d4]
   grind
  ·refine⟨q1+f*q2,?_⟩
   have d3:dl t b=0:=if_neg (Ne.symm mJ)
   simp only[if_true,if_neg mJ]
   rw[UN,iT,wc,d3]
   grind
 ·by_cases mJ:b=t
  ·subst mJ
   have d3:dl a m=0:=if_neg yw
   refine⟨q1 - f*q3,?_⟩
   simp only[if_neg yw,if_true]
   rw[Lb,iT,wg,d3]
   grind
  ·refine⟨q1,?_⟩
   simp only[if_neg yw,if_neg mJ]
   exact iT
def RK (p:Int) (n:Nat) (s:bf×List Int×Int) (j:Nat):Prop:=
 (∃X,kZ p n (fun a k=>s.1 a (n+k)) X)/\∀b,b<j->∀i,s.2.1.length<=i->i<n->s.1 i b=0
theorem RK.step {p:Int} {n:Nat} {s:bf×List Int×Int} {j:Nat} (ek:du p=true) (hj:j<2*n) (I:RI p n (2*n) s j) (h:RK p n s j):RK p n (iM p n s j) (j+1):=by
 have hp:cP p:=kD ek
 obtain⟨⟨X,hX⟩,hz⟩:=h
 obtain⟨M,L,d⟩:=s
 simp only at hX hz
 by_cases hl:L.length<n
 ·cases hk:ij M j (n - L.length) L.length with
  |none=>
   rw[Kw (s:=(M,L,d)) hl hk]
   refine⟨⟨X,hX⟩,fun b hb i h1 h2=>?_⟩
   by_cases yz:b=j
   ·subst yz;exact Ks hk i h1 (by simp only at h1;omega)
   ·exact hz b (by omega) i h1 h2
  |some k=>
   rw[Kx (s:=(M,L,d)) hl hk]
   simp only
   have hq:=B9 hk
   have kw:k<n:=by omega
   have hM:da p n (2*n) M:=I.m
   have hx:fy p (M k j):=hM k kw j hj
   have AR:cq M L.length k L.length j=M k j:=if_pos rfl
   have hi:=Zf ek hx hq.2.2
   generalize DQ:gT p 1 (M k j) (p - 2).toNat=inv at hi
   have ago:lL p M L.length j k=rN p inv (cq M L.length k) L.length:=by unfold lL;rw[AR,DQ]
   rw[ago]
   have hS:da p n (2*n) (cq M L.length k):=FC hM hl kw
   generalize Iv:rN p inv (cq M L.length k) L.length=M2
   have aoW:da p n (2*n) M2:=by rw[<-Iv];exact abm hp hS _
   constructor
   ·obtain⟨X1,hX1⟩:=hX.swap (s:=L.length) (t:=k) hl kw
    obtain⟨X2,hX2⟩:=hX1.anG (inv:=inv) (u:=M k j) hl hi
    have zZ:kZ p n (fun a b=>ef p M2 L.length j 0 a (n+b)) X2:=by
     rw[Mz,<-Iv];exact hX2
    have cr:∀m,m<=n->∃X',kZ p n (fun a b=>ef p M2 L.length j m a (n+b)) X':=by
     intro m
     induction m with
     |zero=>intro _;exact⟨X2,zZ⟩
     |succ m ih=>
      intro hm
      obtain⟨X',XI⟩:=ih (by omega)
      by_cases AK:m=L.length
      ·subst AK
       rw[MB];exact⟨X',XI⟩
      ·refine XI.add (f:=p - M2 m j) (m:=m) (t:=L.length) (by omega) hl AK fun a ha b hb=>?_
       show∃q,ef p M2 L.length j (m+1) a (n+b)=_
       by_cases yw:a=m
       ·subst yw
        rw[if_pos rfl]
        show∃q,ef p M2 L.length j (a+1) a (n+b)=(ef p M2 L.length j a a (n+b)+(p - M2 a j)*ef p M2 L.length j a L.length (n+b))+p*q
        rw[C8,Wg]
        unfold ef
        rw[if_pos ⟨by omega,AK⟩]
        refine⟨-((M2 a (n+b)+(p - M2 a j)*M2 L.length (n+b))/p),?_⟩
        have e1:=Int.emod_add_mul_ediv (M2 a (n+b)+(p - M2 a j)*M2 L.length (n+b)) p
        have e2:=Int.mul_neg p ((M2 a (n+b)+(p - M2 a j)*M2 L.length (n+b))/p)
        omega
       ·rw[if_neg yw]
        refine⟨0,?_⟩
        show ef p M2 L.length j (m+1) a (n+b)=ef p M2 L.length j m a (n+b)+p*0
        unfold ef
        by_cases hc:a<m/\a≠L.length
        ·rw[if_pos hc,if_pos ⟨by omega,hc.2⟩];simp
        ·rw[if_neg hc,if_neg (by omega)];simp
    exact cr n (Nat.le_refl _)
   ·intro b hb i h1 h2
    simp only[List.length_append,List.length_cons,List.length_nil] at h1
    show ef p M2 L.length j n i b=0
    unfold ef
    rw[if_pos ⟨h2,by omega⟩]
    have e2:∀c,M2 i c=cq M L.length k i c:=fun c=>by rw[<-Iv];exact if_neg (by omega)
    have e3:∀c,M2 L.length c=M k c*inv%p:=fun c=>by rw[<-Iv];show(if L.length=L.length then _ else _)=_;rw[if_pos rfl];congr 2;exact if_pos rfl
    by_cases yz:b=j
    ·subst yz
     rw[e3 b,hi]
     have:M2 i b+(p - M2 i b)*1=p:=by omega
     rw[this];exact Int.emod_self
    ·have N1:b<j:=by omega
     rw[e3 b,hz b N1 k hq.1 kw,e2 b]
     have:cq M L.length k i b=0:=by
      unfold cq
      rw[if_neg (by omega)]
      split
      ·exact hz b N1 L.length (Nat.le_refl _) hl
      ·exact hz b N1 i (by omega) h2
     rw[this];simp
 ·unfold iM
  rw[if_neg hl]
  exact⟨⟨X,hX⟩,fun b hb i h1 h2=>by simp only at h1;omega⟩
end Go.Am
end
section
namespace Go.Am
def aoN (n:Nat) (M:bf):bf:=fun a b=>if b<n then M a b else dl a (b - n)
def aoO (n:Nat) (M:bf):bf:=cE (2*n) (ao n (2*n) (aoN n M))
def Ze (p:Int) (n:Nat) (M:bf):bf×List Int×Int:=c7 p n (aoO n M) (2*n)
def ah1 (p:Int) (n:Nat) (M:bf):Prop:=∀i,i<n->(Ze p n M).2.1.getD i 0=(i:Int)
instance (p:Int) (n:Nat) (M:bf):Decidable (ah1 p n M):=inferInstanceAs (Decidable (∀i,i<n->(Ze p n M).2.1.getD i 0=(i:Int)))
theorem NS {L:List Int} {i:Nat} (h:i<L.length):dJ L i=some (L.getD i 0):=by
 show L[i]? =_
 rw[List.getElem?_eq_getElem h]
 simp[List.getD,h]
section
variable {p:Int} {n:Nat} {M R:bf} {L:List Int}
end
section
variable {p:Int} {n:Nat} {M R:bf} {L:List Int}
end
end Go.Am
end
section
namespace Go.Am
abbrev cT:=Int×Int×List Int
abbrev bV:=Int×Int×List Int×List (Int×Int×List Int)×List Int
def jT (k:Nat) (w:List Int):Prop:=∀c∈w,0<=c/\c<(k:Int)
instance (k:Nat) (w:List Int):Decidable (jT k w):=inferInstanceAs (Decidable (∀c∈w,0<=c/\c<(k:Int)))
def mC (p:Int) (n:Nat) (ms:List cT) (v:List Int) (c:Int):List Int:=ao 1 n (gu p n (cE n v) (cE n (ms.getD c.toNat (0,0,[])).2.2))
def cz (p:Int) (n:Nat) (ms:List cT) (v:List Int) (w:List Int):List Int:=w.foldl (mC p n ms) v
def nF (p:Int) (x y:List Int):Int:=jG p (fun t=>x.getD t 0) (fun t=>y.getD t 0) x.length
def xN:Int×List Int×Int×Int×List Int->Option (List Int):=fun(x:Int×List Int×Int×Int×List Int)=>
 match pn (x.1,(1,x.2.2.1,x.2.1),x.2.2) with
 |some y=>some y.2.2
 |none=>none
def t7 (x:bV):Bool:=match x with
 |(m,n,a,ms,b)=>du m&&(decide (0<=n/\n<=24)&&((iN m a&&decide ((a.length:Int)=n))&&((iN m b&&decide ((b.length:Int)=n))&&(decide (1<=ms.length/\ms.length<=4)&&ms.all fun y=>decide (y.1=n/\y.2.1=n/\y.2.2.length=n.toNat*n.toNat)&&iN m y.2.2))))
def Ku (x:bV×List Int):Prop:=t7 x.1=true/\jT x.1.2.2.2.1.length x.2/\x.2.length<=1048576
instance (x:bV×List Int):Decidable (Ku x):=by unfold Ku;infer_instance
def oC:bV×List Int->Option (List Int):=fun(x:bV×List Int)=>if Ku x then some (cz x.1.1 x.1.2.1.toNat x.1.2.2.2.1 x.1.2.2.1 x.2) else none
def tR:bV×List Int->Option (List Int):=oC
def xK:Int×List Int×List Int->Option Int:=fun(x:Int×List Int×List Int)=>if cP x.1/\x.2.1.length=x.2.2.length/\x.2.1.length<=1048576/\dG x.1 x.2.1/\dG x.1 x.2.2 then some (nF x.1 x.2.1 x.2.2) else none
def dw (x:bV×List Int):Int:=nF x.1.1 (cz x.1.1 x.1.2.1.toNat x.1.2.2.2.1 x.1.2.2.1 x.2) x.1.2.2.2.2
def tP:bV×List Int->Option Int:=fun(x:bV×List Int)=>if Ku x then some (dw x) else none
def Lz:bV×List Int->Option Int:=fun(x:bV×List Int)=>
 if vn x.1<=1048576/\x.2.length<=1048576 then some (if iQ x.1=true/\x.2.length<=24/\jT x.1.2.2.2.1.length x.2 then dw x else -1) else none
def rV:bV×List Int->Option Int:=Lz
def Hr:au:=[(.one,[.int .i64]),(.one,[.list [.int .i64]]),(.agg,[.int .i64,.int .i64,.list [.int .i64]])]
def S5:au:=[(.one,[.list [.int .i64]])]
def akN:be:=[]
def Ho:au:=[(.agg,[.int .i64,.int .i64,.list [.int .i64],.list [.int .i64,.int .i64,.list [.int .i64]],.list [.int .i64]]),(.one,[.list [.int .i64]])]
def S2:au:=[(.one,[.list [.int .i64]])]
def akK:be:=[]
def GR:au:=[(.agg,[.int .i64,.int .i64,.list [.int .i64],.list [.int .i64,.int .i64,.list [.int .i64]],.list [.int .i64]]),(.one,[.list [.int .i64]])]
def Sw:au:=[(.one,[.list [.int .i64]])]
def akl:be:=[]
def Hl:au:=[(.one,[.int .i64]),(.one,[.list [.int .i64]]),(.one,[.list [.int .i64]])]
def SZ:au:=[(.one,[.int .i64])]
def akI:be:=[]
def GP:au:=[(.agg,[.int .i64,.int .i64,.list [.int .i64],.list [.int .i64,.int .i64,.list [.int .i64]],.list [.int .i64]]),(.one,[.list [.int .i64]])]
def Su:au:=[(.one,[.int .i64])]
def akj:be:=[]
def GF:au:=[(.agg,[.int .i64,.int .i64,.list [.int .i64],.list [.int .i64,.int .i64,.list [.int .i64]],.list [.int .i64]]),(.one,[.list [.int .i64]])]
def Si:au:=[(.one,[.int .i64])]
def aj9:be:=[]
def LV (NN:Nat):(Int×((List Int)×(Int×(Int×(List Int)))))->(Option (List Int)):=
 (fun((i0,l1,i2,i3,l4):(Int×((List Int)×(Int×(Int×(List Int))))))=>
 (pn (i0,((1:Int),i2,l1),i2,i3,l4)).aa (fun(i5,i6,l7)=>
 (dq l7 (U l7)).aa (fun l8=>
 some l8)))
def Gl (NN:Nat):((Int×(Int×((List Int)×((List (Int×(Int×(List Int))))×(List Int)))))×(List Int))->(Option (List Int)):=
 (fun(((i0,i1,l2,l3,l4),l5):((Int×(Int×((List Int)×((List (Int×(Int×(List Int))))×(List Int)))))×(List Int)))=>
 (kq l2).aa (fun l6=>
 bO ((ae 0 (U l6) (U l6)).aa (fun _=>
 bg NN (fun(((l7,i8,i9),(cd,cm,dW,gn,fj),bK):(((List Int)×(Int×Int))×((Int×(Int×((List Int)×((List (Int×(Int×(List Int))))×(List Int)))))×(List Int))))=>
 aJ (bC i9 i8)
 ((eJ l7 i9).aa (fun dj=>
 (eJ gn dj).aa (fun(fZ,dR,iG)=>
 (dg bK 0 (U bK)).aa (fun eo=>
 (xN (cd,eo,fZ,dR,iG)).aa (fun fz=>
 (ae 0 (U fz) (U fz)).aa (fun _=>
 some (Sum.inl ((l7,i8,aY .i64 i9 1),(cd,cm,dW,gn,fj),fz))))))))
 (((ae 0 (U bK) (U bK)).aa (fun _=>
 some (Sum.inl bK))).aa (fun cQ=>
 some (Sum.inr cQ))))
 ((l5,aO (U l5),(0:Int)),(i0,i1,l2,l3,l4),l6)))
 (fun fJ=>
 (dq fJ (U fJ)).aa (fun fS=>
 some fS))))
def F0 (NN:Nat):((Int×(Int×((List Int)×((List (Int×(Int×(List Int))))×(List Int)))))×(List Int))->(Option (List Int)):=
 (fun(((i0,i1,l2,l3,l4),l5):((Int×(Int×((List Int)×((List (Int×(Int×(List Int))))×(List Int)))))×(List Int)))=>
 (ko l2).aa (fun l6=>
 bO ((ae 0 (U l6) (U l6)).aa (fun _=>
 bg NN (fun(((l7,i8,i9),(cd,cm,dW,gn,fj),(lA,dj),ct):(((List Int)×(Int×Int))×((Int×(Int×((List Int)×((List (Int×(Int×(List Int))))×(List Int)))))×((Int×Int)×(List Int)))))=>
 aJ (bC i9 i8)
 ((eJ l7 i9).aa (fun dR=>
 (eJ gn dR).aa (fun(dk,gF,fz)=>
 (dg ct 0 (U ct)).aa (fun cQ=>
 (vA (cd,(lA,dj,cQ),dk,gF,fz)).aa (fun(ie,gi,dS)=>
 (ae 0 (U dS) (U dS)).aa (fun _=>
 some (Sum.inl ((l7,i8,aY .i64 i9 1),(cd,cm,dW,gn,fj),(ie,gi),dS))))))))
 (((ae 0 (U ct) (U ct)).aa (fun _=>
 some (Sum.inl ((lA,dj),ct)))).aa (fun eV=>
 some (Sum.inr eV))))
 ((l5,aO (U l5),(0:Int)),(i0,i1,l2,l3,l4),((1:Int),aO (U l6)),l6)))
 (fun((gQ,f0),gV)=>
 (dq gV (U gV)).aa (fun fA=>
 some fA))))
def LS (NN:Nat):(Int×((List Int)×(List Int)))->(Option Int):=
 (fun((i0,l1,l2):(Int×((List Int)×(List Int))))=>
 bO (bg NN (fun((i3,l4,i5,l6,i7,i8):(Int×((List Int)×(Int×((List Int)×(Int×Int))))))=>
 aJ (bC i8 i7)
 ((eJ l6 i8).aa (fun i9=>
 (eJ l4 i8).aa (fun cd=>
 (fL (aY .i64 i5 (cv .i64 i9 cd)) i3).aa (fun cm=>
 some (Sum.inl (i3,l4,cm,l6,i7,aY .i64 i8 1))))))
 (some (Sum.inr (Sum.inl i5))))
 (i0,l2,(0:Int),l1,aO (U l1),(0:Int)))
 (fun cO=>
 some cO))
def LI (NN:Nat):((Int×(Int×((List Int)×((List (Int×(Int×(List Int))))×(List Int)))))×(List Int))->(Option Int):=
 (fun(((i0,i1,l2,l3,l4),l5):((Int×(Int×((List Int)×((List (Int×(Int×(List Int))))×(List Int)))))×(List Int)))=>
 (tR ((i0,i1,l2,l3,l4),l5)).aa (fun l6=>
 (dg l6 0 (U l6)).aa (fun l7=>
 (vA (i0,((1:Int),aO (U l6),l7),aO (U l4),(1:Int),l4)).aa (fun(i8,i9,gm)=>
 (eB (0:Int) (U gm)).aa (fun Px=>
 (dJ gm (aL 0 Px)).aa (fun cO=>
 some cO))))))
def FV (NN:Nat):((Int×(Int×((List Int)×((List (Int×(Int×(List Int))))×(List Int)))))×(List Int))->(Option Int):=
 (fun(((i0,i1,l2,l3,l4),l5):((Int×(Int×((List Int)×((List (Int×(Int×(List Int))))×(List Int)))))×(List Int)))=>
 (rU (i0,i1,l2,l3,l4)).aa (fun b6=>
 aJ (fC b6)
 (some ((-1:Int)))
 (aJ (bC (24:Int) (aO (U l5)))
 (some ((-1:Int)))
 (bO (bg NN (fun(((l7,l8,i9,cd),cm,cO,gn,fj,bK):(((List Int)×((List Int)×(Int×Int)))×(Int×(Int×((List Int)×((List (Int×(Int×(List Int))))×(List Int)))))))=>
 aJ (bC cd i9)
 ((eJ l8 cd).aa (fun dj=>
 aJ (bC dj (0:Int))
 (some (Sum.inr (Sum.inr ((-1:Int)))))
 (aJ (n4 (aO (U fj)) dj)
 (some (Sum.inr (Sum.inr ((-1:Int)))))
 (some (Sum.inl ((l7,l8,i9,aY .i64 cd 1),cm,cO,gn,fj,bK))))))
 (some (Sum.inr (Sum.inl (l7,cm,cO,gn,fj,bK)))))
 ((l5,l5,aO (U l5),(0:Int)),i0,i1,l2,l3,l4))
 (fun(ct,dR,dk,eo,fz,cQ)=>
 (tP ((dR,dk,eo,fz,cQ),ct)).aa (fun ie=>
 some ie))))))
theorem rM {m:Int} {l:List Int}:iN m l=true↔dG m l:=by
 simp only[iN,dG,List.all_eq_true,wL,decide_eq_true_eq,fy]
structure CN (N:Nat) (p:Int) (n:Nat) (a:List Int) (ms:List cT) (b:List Int):Prop where
 pr:du p=true
 hn:n<=N
 al:a.length=n
 ap:dG p a
 bl:b.length=n
 bp:dG p b
 l1:1<=ms.length
 l4:ms.length<=4
 hm:∀x∈ms,∃M:bf,x=((n:Int),(n:Int),ao n n M)/\da p n n M
abbrev e8:=CN 12
abbrev jE:=CN 24
theorem CN.p {N:Nat} {p:Int} {n:Nat} {a b:List Int} {ms:List cT} (h:CN N p n a ms b):cP p:=kD h.pr
theorem CN.b {p:Int} {n:Nat} {a b:List Int} {ms:List cT} (h:e8 p n a ms b):jE p n a ms b:=⟨h.pr,Nat.le_trans h.hn (by omega),h.al,h.ap,h.bl,h.bp,h.l1,h.l4,h.hm⟩
theorem Hy {x:bV} (h:iQ x=true):∃(p:Int) (n:Nat) (a:List Int) (ms:List cT) (b:List Int),x=(p,(n:Int),a,ms,b)/\e8 p n a ms b:=by
 obtain⟨p,n,a,ms,b⟩:=x
 simp only[iQ,Bool.and_eq_true,decide_eq_true_eq] at h
 obtain⟨h1,h2,⟨h3,h4⟩,⟨h5,h6⟩,h7,h8⟩:=h
 obtain⟨n,rfl⟩:=f9 h2.1
 refine⟨p,n,a,ms,b,rfl,h1,by omega,by omega,rM.1 h3,by omega,rM.1 h5,by omega,by omega,fun x hx=>?_⟩
 have hm:=List.all_eq_true.1 h8 x hx
 simp only[rH,Bool.and_eq_true,decide_eq_true_eq] at hm
 obtain⟨hm,hr,hc⟩:=hm
 obtain⟨r,c,M,rfl,hp,hr',cj,dB,hM⟩:=aj0 hm
 simp only at hr hc
 have er:r=n:=by omega
 have ec:c=n:=by omega
 subst er ec
 exact⟨M,rfl,hM⟩
theorem tB {p:Int} {r c:Nat} {l:List Int} (hl:l.length=r*c) (h:dG p l):da p r c (cE c l):=k9.1 (by rw[pI hl];exact h)
theorem C2 {x:bV} (h:t7 x=true):∃(p:Int) (n:Nat) (a:List Int) (ms:List cT) (b:List Int),x=(p,(n:Int),a,ms,b)/\jE p n a ms b:=by
 obtain⟨p,n,a,ms,b⟩:=x
 simp only[t7,Bool.and_eq_true,decide_eq_true_eq] at h
 obtain⟨h1,h2,⟨h3,h4⟩,⟨h5,h6⟩,h7,h8⟩:=h
 obtain⟨n,rfl⟩:=f9 h2.1
 refine⟨p,n,a,ms,b,rfl,h1,by omega,by omega,rM.1 h3,by omega,rM.1 h5,by omega,by omega,fun x hx=>?_⟩
 have hm:=List.all_eq_true.1 h8 x hx
 simp only[Bool.and_eq_true,decide_eq_true_eq,Int.toNat_natCast] at hm
 obtain⟨⟨hr,hc,hl⟩,hp⟩:=hm
 obtain⟨r,c,d⟩:=x
 simp only at hr hc hl hp
 subst hr hc
 exact⟨cE n d,by rw[pI hl],tB hl (rM.1 hp)⟩
theorem t8 {p:Int} {n:Nat} {a b:List Int} {ms:List cT} (H:jE p n a ms b):t7 (p,(n:Int),a,ms,b)=true:=by
 have hn:=H.hn
 have h1:=H.l1
 have h4:=H.l4
 have ha:=H.al
 have hb:=H.bl
 simp only[t7,Bool.and_eq_true,decide_eq_true_eq]
 refine⟨H.pr,⟨by omega,by omega⟩,⟨rM.2 H.ap,by omega⟩,⟨rM.2 H.bp,by omega⟩,⟨by omega,by omega⟩,List.all_eq_true.2 fun x hx=>?_⟩
 obtain⟨M,rfl,hM⟩:=H.hm x hx
 simp only[Bool.and_eq_true,decide_eq_true_eq,Int.toNat_natCast]
 exact⟨⟨trivial,trivial,jY _ _ _⟩,rM.2 (k9.2 hM)⟩
theorem adh {x:bV} (h:iQ x=true):t7 x=true:=by
 obtain⟨p,n,a,ms,b,rfl,H⟩:=Hy h
 exact t8 H.b
section
variable {p:Int} {n:Nat} {a b:List Int} {ms:List cT}
theorem Fy {s:List Int} {c:Int}:(mC p n ms s c).length=n:=by unfold mC;rw[jY];omega
theorem UM (hp:cP p) {s:List Int} {c:Int}:dG p (mC p n ms s c):=k9.2 (akR hp 1 n n _ _)
theorem aaq (H:jE p n a ms b) {s:List Int} (hl:s.length=n) (hs:dG p s) {x:cT} (hx:x∈ms):
  pn (p,(1,(n:Int),s),x)=some (1,(n:Int),ao 1 n (gu p n (cE n s) (cE n x.2.2))):=by
 obtain⟨M,rfl,hM⟩:=H.hm x hx
 have hn:=H.hn
 have Yb:n*n<=24*24:=Nat.mul_le_mul hn hn
 have e1:ao 1 n (cE n s)=s:=pI (by omega)
 have e2:ao n n (cE n (ao n n M))=ao n n M:=pI (jY _ _ _)
 have h:=Ki (r:=1) (k:=n) (c:=n) (A:=cE n s) (B:=cE n (ao n n M)) H.p (by omega) (by omega) (by omega) (by omega) (by omega) (by omega) (tB (by omega) hs) (tB (jY _ _ _) (k9.2 hM))
 rw[e1,e2] at h
 exact h
theorem ab8 {w:List Int} (hw:jT ms.length w) {i:Nat} {c:Int} (hc:w[i]? =some c):∃x,x∈ms/\eJ ms c=some x/\ms.getD c.toNat (0,0,[])=x:=by
 have h:=hw c (List.mem_of_getElem? hc)
 obtain⟨k,rfl⟩:=f9 h.1
 have hk:k<ms.length:=by omega
 refine⟨ms[k],List.getElem_mem hk,by rw[fw,List.getElem?_eq_getElem hk],?_⟩
 simp[List.getD,hk]
theorem NL {S α:Type} (f:S->α->S):∀(l:List α) (i:Nat) (s:S),yq (fun _ s a=>f s a) i s l=l.foldl f s
 |[],i,s=>rfl
 |x::l,i,s=>NL f l (i+1) (f s x)
theorem u7 (hp:cP p):∀(w:List Int) (s:List Int),s.length=n->dG p s->(cz p n ms s w).length=n/\dG p (cz p n ms s w)
 |[],s,h1,h2=>⟨h1,h2⟩
 |c::w,s,h1,h2=>u7 hp w (mC p n ms s c) Fy (UM hp)
theorem afi (x:Int×List Int×Int×Int×List Int) (y:List Int) (h:xN x=some y):LV aB x=some y:=by
 obtain⟨p,l,r,c,d⟩:=x
 simp only[xN] at h
 split at h
 ·rename_i z e
  injection h with h
  subst h
  obtain⟨z0,z1,z2⟩:=z
  simp only[LV,e,ak,kf]
 ·cases h
theorem aoz (H:jE p n a ms b) {s:List Int} (hl:s.length=n) (hs:dG p s) {x:cT} (hx:x∈ms):
  xN (p,s,x)=some (ao 1 n (gu p n (cE n s) (cE n x.2.2))):=by
 have h:=aaq H hl hs hx
 obtain⟨M,rfl,hM⟩:=H.hm x hx
 simp only[xN]
 rw[h]
theorem afC (H:jE p n a ms b) {w:List Int} (hw:jT ms.length w) (hl:w.length<=1048576):Gl aB ((p,(n:Int),a,ms,b),w)=some (cz p n ms a w):=by
 simp only[Gl]
 rw[show kq a=some a from if_pos (by have:=H.al;have:=H.hn;omega),ak]
 simp only[bQ,ak]
 rw[Z4 w (fun s i=>((w,aO (U w),(i:Int)),(p,(n:Int),a,ms,b),s)) (fun _ s=>s.length=n/\dG p s) (fun _ s c=>mC p n ms s c) (fun s=>Sum.inl s) ?h1 ?h3 (s:=a) ⟨H.al,H.ap⟩ ?h0 (cN (by omega))]
 case h0=>rfl
 case h1=>
  intro i s c hc hI
  refine⟨?_,Fy,UM H.p⟩
  obtain⟨x,hx,hg,hd⟩:=ab8 hw hc
  have ht:=aoz H hI.1 hI.2 hx
  simp only
  rw[aQ (kI hc),fw,hc,ak,hg,ak]
  obtain⟨x0,x1,x2⟩:=x
  simp only[il,ak,ht,bQ]
  rw[qt hc (by omega)]
  unfold mC
  rw[hd]
 case h3=>
  intro s hI
  simp only
  rw[aN (rG w)]
  try simp only[bQ,ak]
 rw[db]
 simp only[kf,ak]
 rw[NL]
 rfl
theorem afB (H:jE p n a ms b) {w:List Int} (hw:jT ms.length w) (hl:w.length<=1048576):F0 aB ((p,(n:Int),a,ms,b),w)=some (cz p n ms a w):=by
 simp only[F0]
 rw[show ko a=some a from if_pos (by have:=H.al;have:=H.hn;omega),ak]
 simp only[bQ,ak]
 have ea:aO (U a)=(n:Int):=by rw[nl,H.al]
 rw[ea]
 rw[Z4 w (fun s i=>((w,aO (U w),(i:Int)),(p,(n:Int),a,ms,b),((1:Int),(n:Int)),s)) (fun _ s=>s.length=n/\dG p s) (fun _ s c=>mC p n ms s c) (fun s=>Sum.inl (((1:Int),(n:Int)),s)) ?h1 ?h3 (s:=a) ⟨H.al,H.ap⟩ ?h0 (cN (by omega))]
 case h0=>rfl
 case h1=>
  intro i s c hc hI
  refine⟨?_,Fy,UM H.p⟩
  obtain⟨x,hx,hg,hd⟩:=ab8 hw hc
  have ht:vA (p,(1,(n:Int),s),x)=_:=aaq H hI.1 hI.2 hx
  simp only
  rw[aQ (kI hc),fw,hc,ak,hg,ak]
  obtain⟨x0,x1,x2⟩:=x
  simp only[il,ak,ht,bQ]
  rw[qt hc (by omega)]
  unfold mC
  rw[hd]
 case h3=>
  intro s hI
  simp only
  rw[aN (rG w)]
  try simp only[bQ,ak]
 rw[db]
 simp only[kf,ak]
 rw[NL]
 rfl
end
theorem aff (x:bV×List Int) (y:List Int) (h:oC x=some y):Gl aB x=some y:=by
 obtain⟨x,w⟩:=x
 simp only[oC] at h
 split at h
 ·rename_i hc
  obtain⟨p,n,a,ms,b,rfl,H⟩:=C2 hc.1
  rw[<-h]
  exact afC H hc.2.1 hc.2.2
 ·cases h
theorem aeP (x:bV×List Int) (y:List Int) (h:tR x=some y):F0 aB x=some y:=by
 obtain⟨x,w⟩:=x
 simp only[tR,oC] at h
 split at h
 ·rename_i hc
  obtain⟨p,n,a,ms,b,rfl,H⟩:=C2 hc.1
  rw[<-h]
  exact afB H hc.2.1 hc.2.2
 ·cases h
theorem afd (x:Int×List Int×List Int) (y:Int) (h:xK x=some y):LS aB x=some y:=by
 obtain⟨p,l,m⟩:=x
 simp only[xK] at h
 split at h
 ·rename_i hc
  obtain⟨hp,hlm,hl,hL,hM⟩:=hc
  rw[<-h]
  simp only[LS]
  rw[fc (fun i=>(p,m,jG p (fun t=>l.getD t 0) (fun t=>m.getD t 0) i,l,aO (U l),(i:Int))) l.length ?h1 ?h2 ?h0 (cN (by omega))]
  case h0=>rfl
  case h2=>simp only;rw[aN (rG l)]
  case h1=>
   intro i hi
   have g1:l[i]? =some (l.getD i 0):=NS hi
   have g2:m[i]? =some (m.getD i 0):=NS (by omega)
   have i1:=hL _ (List.mem_of_getElem? g1)
   have i2:=hM _ (List.mem_of_getElem? g2)
   simp only
   rw[aQ (kI g1),fw,g1,ak,fw,g2,ak,EI hp ((HV hp _ _ i).s hp) i1.le i2.le,ak,qt g1 (by omega)]
   rfl
  rw[db]
  rfl
 ·cases h
theorem aoL {p:Int} {n:Nat} {s b:List Int} (hp:cP p) (hn:n<=24) (hl:s.length=n) (hs:dG p s) (hb:b.length=n) (hB:dG p b):
  vA (p,(1,(n:Int),s),((n:Int),1,b))=some (1,1,[nF p s b]):=by
 have e1:ao 1 n (cE n s)=s:=pI (by omega)
 have e2:ao n 1 (cE 1 b)=b:=pI (by omega)
 have h:=Ki (r:=1) (k:=n) (c:=1) (A:=cE n s) (B:=cE 1 b) hp (by omega) (by omega) (by omega) (by omega) (by omega) (by omega) (tB (by omega) hs) (tB (by omega) hB)
 rw[e1,e2] at h
 have e3:ao 1 1 (gu p n (cE n s) (cE 1 b))=[nF p s b]:=by
  show[jG p (fun t=>cE n s 0 t) (fun t=>cE 1 b t 0) n]=[nF p s b]
  unfold nF
  rw[hl]
  have:∀k,k<=n->jG p (fun t=>cE n s 0 t) (fun t=>cE 1 b t 0) k=jG p (fun t=>s.getD t 0) (fun t=>b.getD t 0) k:=by
   intro k
   induction k with
   |zero=>intro _;rfl
   |succ k ih=>
    intro hk
    show(jG _ _ _ k+_)%p=(jG _ _ _ k+_)%p
    rw[ih (by omega)]
    have a1:cE n s 0 k=s.getD k 0:=by unfold cE;rw[Nat.zero_mul,Nat.zero_add]
    have a2:cE 1 b k 0=b.getD k 0:=by unfold cE;rw[Nat.mul_one,Nat.add_zero]
    simp only[a1,a2]
  rw[this n (Nat.le_refl n)]
 rw[e3] at h
 exact h
theorem aeN (x:bV×List Int) (y:Int) (h:tP x=some y):LI aB x=some y:=by
 obtain⟨x,w⟩:=x
 simp only[tP] at h
 split at h
 ·rename_i hc
  have hr:tR (x,w)=some _:=if_pos hc
  obtain⟨p,n,a,ms,b,rfl,H⟩:=C2 hc.1
  rw[<-h]
  simp only[Int.toNat_natCast] at hr
  obtain⟨h1,h2⟩:=u7 (ms:=ms) H.p w a H.al H.ap
  simp only[LI,hr,ak,il]
  rw[show aO (U (cz p n ms a w))=(n:Int) by rw[nl,h1],show aO (U b)=(n:Int) by rw[nl,H.bl],aoL H.p H.hn h1 h2 H.bl H.bp,ak]
  simp only
  rw[show eB 0 (U [nF p (cz p n ms a w) b])=some 0 from rfl]
  simp only[ak,dw,Int.toNat_natCast]
  rfl
 ·cases h
theorem Va {k:Nat} {w:List Int}:w.all (fun c=>decide (0<=c/\c<(k:Int)))=true↔jT k w:=by
 simp only[List.all_eq_true,decide_eq_true_eq]
 rfl
theorem aeD (x:bV×List Int) (y:Int) (h:rV x=some y):FV aB x=some y:=by
 obtain⟨x,w⟩:=x
 simp only[rV,Lz] at h
 split at h
 ·rename_i hl
  rw[<-h]
  have hA:rU x=some (iQ x):=if_pos hl.1
  cases hx:iQ x with
  |false=>
   rw[if_neg (by simp)]
   obtain⟨p,n,a,ms,b⟩:=x
   simp only[FV,hA,ak,hx]
   rfl
  |true=>
   have dU:=hx
   rw[hx] at hA
   obtain⟨p,n,a,ms,b,rfl,H⟩:=Hy hx
   simp only[FV,hA,ak]
   rw[aN (by rfl),nl]
   by_cases XA:w.length<=24
   ·rw[aN (dX (by omega))]
    rw[BR w (fun i=>((w,w,(w.length:Int),(i:Int)),p,(n:Int),a,ms,b)) (fun c=>decide (0<=c/\c<(ms.length:Int))) (Sum.inr (-1)) (Sum.inl (w,p,(n:Int),a,ms,b)) ?h1 ?h2 ?h3 ?h0 (cN (by omega))]
    case h0=>rfl
    case h1=>
     intro i c hc hp
     have hp:=of_decide_eq_true hp
     simp only
     rw[aQ (dZ (by have:=Z7 hc;omega)),fw,hc,ak,aN (dX (by omega)),nl,aN (yZ (by omega)),qt hc (by omega)]
    case h2=>
     intro i c hc hp
     have hp:=of_decide_eq_false hp
     simp only
     rw[aQ (dZ (by have:=Z7 hc;omega)),fw,hc,ak]
     by_cases h0:c<0
     ·rw[aQ (dZ h0)]
     ·rw[aN (dX (by omega)),nl,aQ (tt (by omega))]
    case h3=>
     simp only
     rw[aN (dX (by omega))]
    by_cases hw:w.all (fun c=>decide (0<=c/\c<(ms.length:Int)))=true
    ·rw[if_pos hw,db,if_pos (show _/\_/\_ from⟨by first|trivial|rfl,XA,Va.1 hw⟩)]
     simp only
     rw[show tP ((p,(n:Int),a,ms,b),w)=some _ from if_pos ⟨adh dU,Va.1 hw,by show w.length<=_;omega⟩,ak]
    ·rw[if_neg hw,Bl,if_neg (fun h=>hw (Va.2 h.2.2))]
   ·rw[aQ (dZ (by omega)),if_neg (fun h=>XA h.2.1)]
 ·cases h
end Go.Am
end
section
namespace Go.Am
def po (x y:bV):Bool:=iQ x&&(iQ y&&(decide (x.1=y.1)&&decide (x.2.2.2.1.length=y.2.2.2.1.length)))
def oB:bV×bV->Option Bool:=fun(x:bV×bV)=>if vn x.1<=1048576/\vn x.2<=1048576 then some (po x.1 x.2) else none
def tQ:bV×bV->Option Bool:=oB
def stM (n:Nat) (ms:List cT) (k:Nat):bf:=cE n (ms.getD k (0,0,[])).2.2
def nj (n:Nat) (A B:bf):bf:=fun i j=>if i<n/\j<n then A i j else if n<=i/\n<=j then B (i - n) (j - n) else 0
def cR (n m:Nat) (ms ms2:List cT) (k:Nat):List cT:=(List.range k).map fun t=>(((n+m:Nat):Int),((n+m:Nat):Int),ao (n+m) (n+m) (nj n (stM n ms t) (stM m ms2 t)))
def zw (x y:bV) (sg:Int):bV:=(x.1,((x.2.1.toNat+y.2.1.toNat:Nat):Int),x.2.2.1++y.2.2.1,cR x.2.1.toNat y.2.1.toNat x.2.2.2.1 y.2.2.2.1 x.2.2.2.1.length,x.2.2.2.2++y.2.2.2.2.map fun v=>v*sg%x.1)
def xM:bV×bV×Int->Option bV:=fun(x:bV×bV×Int)=>if po x.1 x.2.1=true/\(0<=x.2.2/\x.2.2<=x.1.1) then some (zw x.1 x.2.1 x.2.2) else none
def xF:bV×bV->Option bV:=fun(x:bV×bV)=>if po x.1 x.2=true then some (zw x.1 x.2 1) else none
def Hj:au:=[(.agg,[.int .i64,.int .i64,.list [.int .i64],.list [.int .i64,.int .i64,.list [.int .i64]],.list [.int .i64]]),(.agg,[.int .i64,.int .i64,.list [.int .i64],.list [.int .i64,.int .i64,.list [.int .i64]],.list [.int .i64]])]
def SX:au:=[(.one,[.bool])]
def akG:be:=[]
def GQ:au:=[(.agg,[.int .i64,.int .i64,.list [.int .i64],.list [.int .i64,.int .i64,.list [.int .i64]],.list [.int .i64]]),(.agg,[.int .i64,.int .i64,.list [.int .i64],.list [.int .i64,.int .i64,.list [.int .i64]],.list [.int .i64]])]
def Sv:au:=[(.one,[.bool])]
def akk:be:=[]
def Hq:au:=[(.agg,[.int .i64,.int .i64,.list [.int .i64],.list [.int .i64,.int .i64,.list [.int .i64]],.list [.int .i64]]),(.agg,[.int .i64,.int .i64,.list [.int .i64],.list [.int .i64,.int .i64,.list [.int .i64]],.list [.int .i64]]),(.one,[.int .i64])]
def S4:au:=[(.agg,[.int .i64,.int .i64,.list [.int .i64],.list [.int .i64,.int .i64,.list [.int .i64]],.list [.int .i64]])]
def akM:be:=[]
def GK:au:=[(.agg,[.int .i64,.int .i64,.list [.int .i64],.list [.int .i64,.int .i64,.list [.int .i64]],.list [.int .i64]]),(.agg,[.int .i64,.int .i64,.list [.int .i64],.list [.int .i64,.int .i64,.list [.int .i64]],.list [.int .i64]])]
def Sn:au:=[(.agg,[.int .i64,.int .i64,.list [.int .i64],.list [.int .i64,.int .i64,.list [.int .i64]],.list [.int .i64]])]
def ake:be:=[]
def LR (NN:Nat):((Int×(Int×((List Int)×((List (Int×(Int×(List Int))))×(List Int)))))×(Int×(Int×((List Int)×((List (Int×(Int×(List Int))))×(List Int))))))->(Option Bool):=
 (fun(((i0,i1,l2,l3,l4),i5,i6,l7,l8,l9):((Int×(Int×((List Int)×((List (Int×(Int×(List Int))))×(List Int)))))×(Int×(Int×((List Int)×((List (Int×(Int×(List Int))))×(List Int)))))))=>
 (vB (i0,i1,l2,l3,l4)).aa (fun lR=>
 aJ (lR)
 ((vB (i5,i6,l7,l8,l9)).aa (fun Mb=>
 aJ (Mb)
 (aJ (fE i0 i5)
 (some (fE (aO (U l3)) (aO (U l8))))
 (some false))
 (some false)))
 (some false)))
def LJ (NN:Nat):((Int×(Int×((List Int)×((List (Int×(Int×(List Int))))×(List Int)))))×(Int×(Int×((List Int)×((List (Int×(Int×(List Int))))×(List Int))))))->(Option Bool):=
 (fun(((i0,i1,l2,l3,l4),i5,i6,l7,l8,l9):((Int×(Int×((List Int)×((List (Int×(Int×(List Int))))×(List Int)))))×(Int×(Int×((List Int)×((List (Int×(Int×(List Int))))×(List Int)))))))=>
 (rU (i0,i1,l2,l3,l4)).aa (fun lR=>
 aJ (lR)
 ((rU (i5,i6,l7,l8,l9)).aa (fun Mb=>
 aJ (Mb)
 (aJ (fE i0 i5)
 (some (fE (aO (U l3)) (aO (U l8))))
 (some false))
 (some false)))
 (some false)))
def Gm (NN:Nat):((Int×(Int×((List Int)×((List (Int×(Int×(List Int))))×(List Int)))))×((Int×(Int×((List Int)×((List (Int×(Int×(List Int))))×(List Int)))))×Int))->(Option (Int×(Int×((List Int)×((List (Int×(Int×(List Int))))×(List Int)))))):=
 (fun(((i0,i1,l2,l3,l4),(i5,i6,l7,l8,l9),cd):((Int×(Int×((List Int)×((List (Int×(Int×(List Int))))×(List Int)))))×((Int×(Int×((List Int)×((List (Int×(Int×(List Int))))×(List Int)))))×Int)))=>
 (kq l2).aa (fun eU=>
 (ae 0 (U eU) (U eU)).aa (fun _=>
 (ir (aL (U eU) (U l7)) 8).aa (fun _=>
 (kq l4).aa (fun dW=>
 bO ((ae 0 0 (U (([]:List Int)))).aa (fun _=>
 (ae 0 0 (U (([]:List (Int×(Int×(List Int))))))).aa (fun _=>
 (ae 0 0 (U (([]:List Int)))).aa (fun _=>
 (ae 0 (aL (U eU) (U l7)) (U (bU eU l7))).aa (fun _=>
 (ae 0 0 (U (([]:List (Int×(Int×(List Int))))))).aa (fun _=>
 (ae 0 (U dW) (U dW)).aa (fun _=>
 bg NN (fun(((di,c9,bK,dj,fZ),(dR,dk,eo,fz,cQ),(ie,gi,dS,eV,uV),(f0,nP),(lB,j7),dn,dv,fb,lI,f8,eN):((Int×(Int×((List Int)×(Int×Int))))×((Int×(Int×((List Int)×((List (Int×(Int×(List Int))))×(List Int)))))×((Int×(Int×((List Int)×((List (Int×(Int×(List Int))))×(List Int)))))×((Int×Int)×((Int×Int)×((List Int)×((List (Int×(Int×(List Int))))×((List Int)×((List Int)×((List (Int×(Int×(List Int))))×(List Int))))))))))))=>
 aJ (bC fZ dj)
 ((eJ bK fZ).aa (fun ky=>
 (fL (cv .i64 ky di) dR).aa (fun j8=>
 (ae 0 (U eN) (U eN)).aa (fun _=>
 (dg ((j8::([]:List Int))) 0 1).aa (fun fk=>
 (ir (aL (U eN) (U fk)) 8).aa (fun _=>
 (ae 0 (U dn) (U dn)).aa (fun _=>
 (ae 0 (U dv) (U dv)).aa (fun _=>
 (ae 0 (U fb) (U fb)).aa (fun _=>
 (ae 0 (U lI) (U lI)).aa (fun _=>
 (ae 0 (U f8) (U f8)).aa (fun _=>
 (ae 0 (aL (U eN) (U fk)) (U (bU eN fk))).aa (fun _=>
 some (Sum.inl ((di,c9,bK,dj,aY .i64 fZ 1),(dR,dk,eo,fz,cQ),(ie,gi,dS,eV,uV),(f0,nP),(lB,j7),dn,dv,fb,lI,f8,bU eN fk))))))))))))))
 (((ae 0 (U dn) (U dn)).aa (fun _=>
 (ae 0 (U dv) (U dv)).aa (fun _=>
 (ae 0 (U fb) (U fb)).aa (fun _=>
 (ae 0 (U lI) (U lI)).aa (fun _=>
 (ae 0 (U f8) (U f8)).aa (fun _=>
 (ae 0 (U eN) (U eN)).aa (fun _=>
 some (Sum.inl (c9,(dR,dk,eo,fz,cQ),(ie,gi,dS,eV,uV),(f0,nP),(lB,j7),dn,dv,fb,lI,f8,eN))))))))).aa (fun kF=>
 some (Sum.inr kF))))
 ((cd,aY .i64 i1 i6,l9,aO (U l9),(0:Int)),(i0,i1,l2,l3,l4),(i5,i6,l7,l8,l9),((0:Int),(0:Int)),(i0,aY .i64 i1 i6),([]:List Int),([]:List (Int×(Int×(List Int)))),([]:List Int),bU eU l7,([]:List (Int×(Int×(List Int)))),dW))))))))
 (fun(ii,(iB,jO,BL,ju,rE),(iD,lD,nV,qh,rF),(kA,pY),(El,pZ),qi,qj,jv,BM,kG,mn)=>
 bO ((ae 0 (U qi) (U qi)).aa (fun _=>
 (ae 0 (U qj) (U qj)).aa (fun _=>
 (ae 0 (U jv) (U jv)).aa (fun _=>
 (ae 0 (U BM) (U BM)).aa (fun _=>
 (ae 0 (U kG) (U kG)).aa (fun _=>
 (ae 0 (U mn) (U mn)).aa (fun _=>
 bg NN (fun(((lE,nX,sM,sN),(ry,uL,nZ,qk,ql),(oS,jQ,lK,iI,BO),(jr,jb),(gj,gR),gH,eX,fm,n3,mZ,m6):((Int×((List (Int×(Int×(List Int))))×(Int×Int)))×((Int×(Int×((List Int)×((List (Int×(Int×(List Int))))×(List Int)))))×((Int×(Int×((List Int)×((List (Int×(Int×(List Int))))×(List Int)))))×((Int×Int)×((Int×Int)×((List Int)×((List (Int×(Int×(List Int))))×((List Int)×((List Int)×((List (Int×(Int×(List Int))))×(List Int))))))))))))=>
 aJ (bC sN sM)
 (bO ((eJ nX sN).aa (fun(nR,sQ,kH)=>
 (tT (lE,lE)).aa (fun(uO,Bf,uY)=>
 bO ((ae 0 (U gH) (U gH)).aa (fun _=>
 (ae 0 (U eX) (U eX)).aa (fun _=>
 (ae 0 (U fm) (U fm)).aa (fun _=>
 (ae 0 (U n3) (U n3)).aa (fun _=>
 (ae 0 (U mZ) (U mZ)).aa (fun _=>
 (ae 0 (U m6) (U m6)).aa (fun _=>
 (ae 0 (U uY) (U uY)).aa (fun _=>
 bg NN (fun(((qa,sR,lF,tr,Bg,Bh),(wJ,yP,rA,uT,sW),(nO,A3,iF,jc,mV),(A4,sJ),(rv,sK),(yQ,agI,wP),(IY,A5),wQ,qe,qf,qg,wR,wS,Bo):((Int×(Int×(Int×((List (Int×(Int×(List Int))))×(Int×Int)))))×((Int×(Int×((List Int)×((List (Int×(Int×(List Int))))×(List Int)))))×((Int×(Int×((List Int)×((List (Int×(Int×(List Int))))×(List Int)))))×((Int×Int)×((Int×Int)×((Int×(Int×(List Int)))×((Int×Int)×((List Int)×((List (Int×(Int×(List Int))))×((List Int)×((List Int)×((List (Int×(Int×(List Int))))×((List Int)×(List Int)))))))))))))))=>
 aJ (bC lF yP)
 (bO ((ae 0 (U wQ) (U wQ)).aa (fun _=>
 (ae 0 (U qe) (U qe)).aa (fun _=>
 (ae 0 (U qf) (U qf)).aa (fun _=>
 (ae 0 (U qg) (U qg)).aa (fun _=>
 (ae 0 (U wR) (U wR)).aa (fun _=>
 (ae 0 (U wS) (U wS)).aa (fun _=>
 (ae 0 (U Bo) (U Bo)).aa (fun _=>
 bg NN (fun(((A6,Ec,wI,A7,PO,I0,YD),(YE,I1,Bq,Br,Bt),(YF,YG,Zu,JO,Zv),(I2,I3),(I4,YH),(YI,YJ,PQ),(I5,YK),wT,wU,Bu,Bv,Bw,Bx,wV):((Int×(Int×(Int×(Int×((List (Int×(Int×(List Int))))×(Int×Int))))))×((Int×(Int×((List Int)×((List (Int×(Int×(List Int))))×(List Int)))))×((Int×(Int×((List Int)×((List (Int×(Int×(List Int))))×(List Int)))))×((Int×Int)×((Int×Int)×((Int×(Int×(List Int)))×((Int×Int)×((List Int)×((List (Int×(Int×(List Int))))×((List Int)×((List Int)×((List (Int×(Int×(List Int))))×((List Int)×(List Int)))))))))))))))=>
 aJ (bC A7 I1)
 ((eJ PQ (aY .i64 (cv .i64 wI I1) A7)).aa (fun I6=>
 (eB (aY .i64 (cv .i64 wI A6) A7) (U wV)).aa (fun Py=>
 (dJ wV (aL 0 Py)).aa (fun ao7=>
 (ae 0 (U wT) (U wT)).aa (fun _=>
 (ae 0 (U wU) (U wU)).aa (fun _=>
 (ae 0 (U Bu) (U Bu)).aa (fun _=>
 (ae 0 (U Bv) (U Bv)).aa (fun _=>
 (ae 0 (U Bw) (U Bw)).aa (fun _=>
 (ae 0 (U Bx) (U Bx)).aa (fun _=>
 (ae 0 (U wV) (U (dd wV (aL 0 Py) I6))).aa (fun _=>
 some (Sum.inl ((A6,Ec,wI,aY .i64 A7 1,PO,I0,YD),(YE,I1,Bq,Br,Bt),(YF,YG,Zu,JO,Zv),(I2,I3),(I4,YH),(YI,YJ,PQ),(I5,YK),wT,wU,Bu,Bv,Bw,Bx,dd wV (aL 0 Py) I6)))))))))))))
 (((ae 0 (U wT) (U wT)).aa (fun _=>
 (ae 0 (U wU) (U wU)).aa (fun _=>
 (ae 0 (U Bu) (U Bu)).aa (fun _=>
 (ae 0 (U Bv) (U Bv)).aa (fun _=>
 (ae 0 (U Bw) (U Bw)).aa (fun _=>
 (ae 0 (U Bx) (U Bx)).aa (fun _=>
 (ae 0 (U wV) (U wV)).aa (fun _=>
 some (Sum.inl ((wI,A6,Ec,PO,I0,YD),(YE,I1,Bq,Br,Bt),(YF,YG,Zu,JO,Zv),(I2,I3),(I4,YH),(YI,YJ,PQ),(I5,YK),wT,wU,Bu,Bv,Bw,Bx,wV)))))))))).aa (fun EA=>
 some (Sum.inr EA))))
 ((qa,sR,lF,(0:Int),tr,Bg,Bh),(wJ,yP,rA,uT,sW),(nO,A3,iF,jc,mV),(A4,sJ),(rv,sK),(yQ,agI,wP),(IY,A5),wQ,qe,qf,qg,wR,wS,Bo)))))))))
 (fun((agV,agW,agX,EB,O5,I7),(agY,I8,ai8,ai9,aja),(agZ,ag0,JP,ajb,ajc),(ag1,ag2),(ag3,I9),(Ja,Jb,ajd),(Jc,Jd),sY,sZ,s0,s6,s7,s8,s9)=>
 (ae 0 (U sY) (U sY)).aa (fun _=>
 (ae 0 (U sZ) (U sZ)).aa (fun _=>
 (ae 0 (U s0) (U s0)).aa (fun _=>
 (ae 0 (U s6) (U s6)).aa (fun _=>
 (ae 0 (U s7) (U s7)).aa (fun _=>
 (ae 0 (U s8) (U s8)).aa (fun _=>
 (ae 0 (U s9) (U s9)).aa (fun _=>
 some (Sum.inl ((agW,agX,aY .i64 agV 1,EB,O5,I7),(agY,I8,ai8,ai9,aja),(agZ,ag0,JP,ajb,ajc),(ag1,ag2),(ag3,I9),(Ja,Jb,ajd),(Jc,Jd),sY,sZ,s0,s6,s7,s8,s9)))))))))))
 (((ae 0 (U wQ) (U wQ)).aa (fun _=>
 (ae 0 (U qe) (U qe)).aa (fun _=>
 (ae 0 (U qf) (U qf)).aa (fun _=>
 (ae 0 (U qg) (U qg)).aa (fun _=>
 (ae 0 (U wR) (U wR)).aa (fun _=>
 (ae 0 (U wS) (U wS)).aa (fun _=>
 (ae 0 (U Bo) (U Bo)).aa (fun _=>
 some (Sum.inl ((Bg,tr,qa,Bh,sR),(wJ,yP,rA,uT,sW),(nO,A3,iF,jc,mV),(A4,sJ),(rv,sK),(IY,A5),wQ,qe,qf,qg,wR,wS,Bo)))))))))).aa (fun aje=>
 some (Sum.inr aje))))
 ((lE,sN,(0:Int),nX,sM,sN),(ry,uL,nZ,qk,ql),(oS,jQ,lK,iI,BO),(jr,jb),(gj,gR),(nR,sQ,kH),(uO,Bf),gH,eX,fm,n3,mZ,m6,uY)))))))))
 (fun((A8,ajf,ag4,Jf,Jg),(Jh,A9,JQ,JR,JS),(Ji,Ed,JT,EC,JU),(Jj,Jk),(Jl,Jm),(Ee,Ef),ta,tc,td,te,tf,tg,rC)=>
 bO ((ae 0 (U ta) (U ta)).aa (fun _=>
 (ae 0 (U tc) (U tc)).aa (fun _=>
 (ae 0 (U td) (U td)).aa (fun _=>
 (ae 0 (U te) (U te)).aa (fun _=>
 (ae 0 (U tf) (U tf)).aa (fun _=>
 (ae 0 (U tg) (U tg)).aa (fun _=>
 (ae 0 (U rC) (U rC)).aa (fun _=>
 bg NN (fun(((Jn,O8,YR,ZE,YS,YT),(Jo,Jp,JV,ZG,ZH),(Jq,Eg,JW,JX,JY),(Jr,Js),(YU,YV),(YW,Jt),Bz,BA,BB,BC,BD,th,ti):((Int×(Int×(Int×((List (Int×(Int×(List Int))))×(Int×Int)))))×((Int×(Int×((List Int)×((List (Int×(Int×(List Int))))×(List Int)))))×((Int×(Int×((List Int)×((List (Int×(Int×(List Int))))×(List Int)))))×((Int×Int)×((Int×Int)×((Int×Int)×((List Int)×((List (Int×(Int×(List Int))))×((List Int)×((List Int)×((List (Int×(Int×(List Int))))×((List Int)×(List Int))))))))))))))=>
 aJ (bC YR Eg)
 (bO ((ae 0 (U Bz) (U Bz)).aa (fun _=>
 (ae 0 (U BA) (U BA)).aa (fun _=>
 (ae 0 (U BB) (U BB)).aa (fun _=>
 (ae 0 (U BC) (U BC)).aa (fun _=>
 (ae 0 (U BD) (U BD)).aa (fun _=>
 (ae 0 (U th) (U th)).aa (fun _=>
 (ae 0 (U ti) (U ti)).aa (fun _=>
 bg NN (fun(((O9,Pa,Ju,Jv,BE,YX,Jw),(YY,Ba,ZI,ZJ,JZ),(YZ,Jx,ZK,P0,J0),(Y0,Y1),(Jy,Jz),(JA,JB),BF,BG,tj,tm,tn,tp,mW):((Int×(Int×(Int×(Int×((List (Int×(Int×(List Int))))×(Int×Int))))))×((Int×(Int×((List Int)×((List (Int×(Int×(List Int))))×(List Int)))))×((Int×(Int×((List Int)×((List (Int×(Int×(List Int))))×(List Int)))))×((Int×Int)×((Int×Int)×((Int×Int)×((List Int)×((List (Int×(Int×(List Int))))×((List Int)×((List Int)×((List (Int×(Int×(List Int))))×((List Int)×(List Int))))))))))))))=>
 aJ (bC Jv Jx)
 ((eJ P0 Pa).aa (fun(ao8,ao9,yY)=>
 (eJ yY (aY .i64 (cv .i64 Ju Jx) Jv)).aa (fun JC=>
 (eB (aY .i64 (aY .i64 (cv .i64 (aY .i64 Ba Ju) O9) Ba) Jv) (U mW)).aa (fun PE=>
 (dJ mW (aL 0 PE)).aa (fun Y2=>
 (ae 0 (U BF) (U BF)).aa (fun _=>
 (ae 0 (U BG) (U BG)).aa (fun _=>
 (ae 0 (U tj) (U tj)).aa (fun _=>
 (ae 0 (U tm) (U tm)).aa (fun _=>
 (ae 0 (U tn) (U tn)).aa (fun _=>
 (ae 0 (U tp) (U tp)).aa (fun _=>
 (ae 0 (U mW) (U (dd mW (aL 0 PE) JC))).aa (fun _=>
 some (Sum.inl ((O9,Pa,Ju,aY .i64 Jv 1,BE,YX,Jw),(YY,Ba,ZI,ZJ,JZ),(YZ,Jx,ZK,P0,J0),(Y0,Y1),(Jy,Jz),(JA,JB),BF,BG,tj,tm,tn,tp,dd mW (aL 0 PE) JC))))))))))))))
 (((ae 0 (U BF) (U BF)).aa (fun _=>
 (ae 0 (U BG) (U BG)).aa (fun _=>
 (ae 0 (U tj) (U tj)).aa (fun _=>
 (ae 0 (U tm) (U tm)).aa (fun _=>
 (ae 0 (U tn) (U tn)).aa (fun _=>
 (ae 0 (U tp) (U tp)).aa (fun _=>
 (ae 0 (U mW) (U mW)).aa (fun _=>
 some (Sum.inl ((Ju,O9,Pa,BE,YX,Jw),(YY,Ba,ZI,ZJ,JZ),(YZ,Jx,ZK,P0,J0),(Y0,Y1),(Jy,Jz),(JA,JB),BF,BG,tj,tm,tn,tp,mW)))))))))).aa (fun ajs=>
 some (Sum.inr ajs))))
 ((Jn,O8,YR,(0:Int),ZE,YS,YT),(Jo,Jp,JV,ZG,ZH),(Jq,Eg,JW,JX,JY),(Jr,Js),(YU,YV),(YW,Jt),Bz,BA,BB,BC,BD,th,ti)))))))))
 (fun((Pb,ahi,ahj,P2,Pc,Pf),(ahk,ahl,P3,ajx,ajy),(Pg,Ph,ED,EE,EF),(aho,ahp),(ahq,ahr),(Y3,Y4),P7,P8,J3,J4,J5,BH,BJ)=>
 (ae 0 (U P7) (U P7)).aa (fun _=>
 (ae 0 (U P8) (U P8)).aa (fun _=>
 (ae 0 (U J3) (U J3)).aa (fun _=>
 (ae 0 (U J4) (U J4)).aa (fun _=>
 (ae 0 (U J5) (U J5)).aa (fun _=>
 (ae 0 (U BH) (U BH)).aa (fun _=>
 (ae 0 (U BJ) (U BJ)).aa (fun _=>
 some (Sum.inl ((ahi,ahj,aY .i64 Pb 1,P2,Pc,Pf),(ahk,ahl,P3,ajx,ajy),(Pg,Ph,ED,EE,EF),(aho,ahp),(ahq,ahr),(Y3,Y4),P7,P8,J3,J4,J5,BH,BJ)))))))))))
 (((ae 0 (U Bz) (U Bz)).aa (fun _=>
 (ae 0 (U BA) (U BA)).aa (fun _=>
 (ae 0 (U BB) (U BB)).aa (fun _=>
 (ae 0 (U BC) (U BC)).aa (fun _=>
 (ae 0 (U BD) (U BD)).aa (fun _=>
 (ae 0 (U th) (U th)).aa (fun _=>
 (ae 0 (U ti) (U ti)).aa (fun _=>
 some (Sum.inl ((YT,Jn,ZE,YS),(Jo,Jp,JV,ZG,ZH),(Jq,Eg,JW,JX,JY),(Jr,Js),(YU,YV),(YW,Jt),Bz,BA,BB,BC,BD,th,ti)))))))))).aa (fun J6=>
 some (Sum.inr J6))))
 ((ag4,Jg,(0:Int),ajf,A8,Jf),(Jh,A9,JQ,JR,JS),(Ji,Ed,JT,EC,JU),(Jj,Jk),(Jl,Jm),(Ee,Ef),ta,tc,td,te,tf,tg,rC)))))))))
 (fun((ahu,ahv,P9,ahw),(ahx,ahy,ajC,ajD,ajE),(ahz,ahA,ajF,ajG,ajH),(ahB,ahC),(ahD,ahE),(Ej,Ek),Qa,Qb,Qc,Qd,BK,Qe,ZM)=>
 (dq ZM (U ZM)).aa (fun EG=>
 (ae 0 (U BK) (U BK)).aa (fun _=>
 (ae 0 1 (U (((Ej,Ek,EG)::([]:List (Int×(Int×(List Int)))))))).aa (fun _=>
 (ir (aL (U BK) (U (((Ej,Ek,EG)::([]:List (Int×(Int×(List Int)))))))) 40).aa (fun _=>
 (ae 0 (U Qa) (U Qa)).aa (fun _=>
 (ae 0 (U Qb) (U Qb)).aa (fun _=>
 (ae 0 (U Qc) (U Qc)).aa (fun _=>
 (ae 0 (U Qd) (U Qd)).aa (fun _=>
 (ae 0 (aL (U BK) (U (((Ej,Ek,EG)::([]:List (Int×(Int×(List Int)))))))) (U (bU BK (((Ej,Ek,EG)::([]:List (Int×(Int×(List Int))))))))).aa (fun _=>
 (ae 0 (U Qe) (U Qe)).aa (fun _=>
 some (Sum.inl ((ahu,ahv,P9,ahw),(ahx,ahy,ajC,ajD,ajE),(ahz,ahA,ajF,ajG,ajH),(ahB,ahC),(ahD,ahE),Qa,Qb,Qc,Qd,bU BK (((Ej,Ek,EG)::([]:List (Int×(Int×(List Int)))))),Qe)))))))))))))))))
 (fun((ahF,ahG,ajI,ahH),(ahI,ahJ,ajJ,ajK,ajL),(ahK,ahL,ajM,ajN,ajO),(ahM,ahN),(ahO,ahP),Qf,Qg,Qh,Qi,Qj,Qk)=>
 (ae 0 (U Qf) (U Qf)).aa (fun _=>
 (ae 0 (U Qg) (U Qg)).aa (fun _=>
 (ae 0 (U Qh) (U Qh)).aa (fun _=>
 (ae 0 (U Qi) (U Qi)).aa (fun _=>
 (ae 0 (U Qj) (U Qj)).aa (fun _=>
 (ae 0 (U Qk) (U Qk)).aa (fun _=>
 some (Sum.inl ((ahG,ajI,ahH,aY .i64 ahF 1),(ahI,ahJ,ajJ,ajK,ajL),(ahK,ahL,ajM,ajN,ajO),(ahM,ahN),(ahO,ahP),Qf,Qg,Qh,Qi,Qj,Qk))))))))))
 (((ae 0 (U gH) (U gH)).aa (fun _=>
 (ae 0 (U eX) (U eX)).aa (fun _=>
 (ae 0 (U fm) (U fm)).aa (fun _=>
 (ae 0 (U n3) (U n3)).aa (fun _=>
 (ae 0 (U mZ) (U mZ)).aa (fun _=>
 (ae 0 (U m6) (U m6)).aa (fun _=>
 some (Sum.inl ((jr,jb),(gj,gR),gH,eX,fm,n3,mZ,m6))))))))).aa (fun ajP=>
 some (Sum.inr ajP))))
 ((ii,ju,aO (U ju),(0:Int)),(iB,jO,BL,ju,rE),(iD,lD,nV,qh,rF),(kA,pY),(El,pZ),qi,qj,jv,BM,kG,mn))))))))
 (fun((apa,apb),(ahQ,ahR),apd,ape,apf,ZN,ZO,ZP)=>
 (dq ZN (U ZN)).aa (fun ajQ=>
 (dq ZO (U ZO)).aa (fun ajR=>
 (dq ZP (U ZP)).aa (fun ajS=>
 some (ahQ,ahR,ajQ,ajR,ajS)))))))))))
def FW (NN:Nat):((Int×(Int×((List Int)×((List (Int×(Int×(List Int))))×(List Int)))))×(Int×(Int×((List Int)×((List (Int×(Int×(List Int))))×(List Int))))))->(Option (Int×(Int×((List Int)×((List (Int×(Int×(List Int))))×(List Int)))))):=
 (fun(((i0,i1,l2,l3,l4),i5,i6,l7,l8,l9):((Int×(Int×((List Int)×((List (Int×(Int×(List Int))))×(List Int)))))×(Int×(Int×((List Int)×((List (Int×(Int×(List Int))))×(List Int)))))))=>
 (ko l2).aa (fun gm=>
 (ae 0 (U gm) (U gm)).aa (fun _=>
 (ir (aL (U gm) (U l7)) 8).aa (fun _=>
 (ko l4).aa (fun eU=>
 (ae 0 (U eU) (U eU)).aa (fun _=>
 (ir (aL (U eU) (U l9)) 8).aa (fun _=>
 bO ((ae 0 0 (U (([]:List Int)))).aa (fun _=>
 (ae 0 0 (U (([]:List (Int×(Int×(List Int))))))).aa (fun _=>
 (ae 0 0 (U (([]:List Int)))).aa (fun _=>
 (ae 0 (aL (U gm) (U l7)) (U (bU gm l7))).aa (fun _=>
 (ae 0 0 (U (([]:List (Int×(Int×(List Int))))))).aa (fun _=>
 (ae 0 (aL (U eU) (U l9)) (U (bU eU l9))).aa (fun _=>
 bg NN (fun(((dW,di,c9),(lA,dj,ct,gU,iG),(gF,iA,cQ,fJ,fS),(ig,fR),(gQ,f0),gV,fA,gW,dn,dv,fb):(((List (Int×(Int×(List Int))))×(Int×Int))×((Int×(Int×((List Int)×((List (Int×(Int×(List Int))))×(List Int)))))×((Int×(Int×((List Int)×((List (Int×(Int×(List Int))))×(List Int)))))×((Int×Int)×((Int×Int)×((List Int)×((List (Int×(Int×(List Int))))×((List Int)×((List Int)×((List (Int×(Int×(List Int))))×(List Int))))))))))))=>
 aJ (bC c9 di)
 (bO ((eJ dW c9).aa (fun(jp,mR,eN)=>
 (vz (f0,f0)).aa (fun(ky,j8,fk)=>
 bO ((ae 0 (U gV) (U gV)).aa (fun _=>
 (ae 0 (U fA) (U fA)).aa (fun _=>
 (ae 0 (U gW) (U gW)).aa (fun _=>
 (ae 0 (U dn) (U dn)).aa (fun _=>
 (ae 0 (U dv) (U dv)).aa (fun _=>
 (ae 0 (U fb) (U fb)).aa (fun _=>
 (ae 0 (U fk) (U fk)).aa (fun _=>
 bg NN (fun(((lC,ii,nT,jO,iC),(mU,f6,nU,jd,nV),(kz,jP,lJ,eW,eG),(pZ,me),(nQ,yR),(p9,sL,mn),(lE,i64),mY,mq,tq,nY,nZ,qk,ql):((Int×(Int×((List (Int×(Int×(List Int))))×(Int×Int))))×((Int×(Int×((List Int)×((List (Int×(Int×(List Int))))×(List Int)))))×((Int×(Int×((List Int)×((List (Int×(Int×(List Int))))×(List Int)))))×((Int×Int)×((Int×Int)×((Int×(Int×(List Int)))×((Int×Int)×((List Int)×((List (Int×(Int×(List Int))))×((List Int)×((List Int)×((List (Int×(Int×(List Int))))×((List Int)×(List Int)))))))))))))))=>
 aJ (bC ii f6)
 (bO ((ae 0 (U mY) (U mY)).aa (fun _=>
 (ae 0 (U mq) (U mq)).aa (fun _=>
 (ae 0 (U tq) (U tq)).aa (fun _=>
 (ae 0 (U nY) (U nY)).aa (fun _=>
 (ae 0 (U nZ) (U nZ)).aa (fun _=>
 (ae 0 (U qk) (U qk)).aa (fun _=>
 (ae 0 (U ql) (U ql)).aa (fun _=>
 bg NN (fun(((oS,jQ,rz,iI,kB,jr),(jb,gj,ZQ,gH,eX),(JE,sP,mZ,m6,ZR),(sQ,Be),(uO,Bf),(uP,qa,EH),(lF,uQ),mr,j9,m8,qd,rA,uT,sW):((Int×(Int×(Int×((List (Int×(Int×(List Int))))×(Int×Int)))))×((Int×(Int×((List Int)×((List (Int×(Int×(List Int))))×(List Int)))))×((Int×(Int×((List Int)×((List (Int×(Int×(List Int))))×(List Int)))))×((Int×Int)×((Int×Int)×((Int×(Int×(List Int)))×((Int×Int)×((List Int)×((List (Int×(Int×(List Int))))×((List Int)×((List Int)×((List (Int×(Int×(List Int))))×((List Int)×(List Int)))))))))))))))=>
 aJ (bC rz gj)
 ((jW ((uP,qa,EH),jQ,rz)).aa (fun nO=>
 (ae 0 (U sW) (U sW)).aa (fun _=>
 (oz ((lF,uQ,sW),jQ,rz,nO)).aa (fun rB=>
 (ae 0 (U mr) (U mr)).aa (fun _=>
 (ae 0 (U j9) (U j9)).aa (fun _=>
 (ae 0 (U m8) (U m8)).aa (fun _=>
 (ae 0 (U qd) (U qd)).aa (fun _=>
 (ae 0 (U rA) (U rA)).aa (fun _=>
 (ae 0 (U uT) (U uT)).aa (fun _=>
 (ae 0 (U sW) (U rB)).aa (fun _=>
 some (Sum.inl ((oS,jQ,aY .i64 rz 1,iI,kB,jr),(jb,gj,ZQ,gH,eX),(JE,sP,mZ,m6,ZR),(sQ,Be),(uO,Bf),(uP,qa,EH),(lF,uQ),mr,j9,m8,qd,rA,uT,rB)))))))))))))
 (((ae 0 (U mr) (U mr)).aa (fun _=>
 (ae 0 (U j9) (U j9)).aa (fun _=>
 (ae 0 (U m8) (U m8)).aa (fun _=>
 (ae 0 (U qd) (U qd)).aa (fun _=>
 (ae 0 (U rA) (U rA)).aa (fun _=>
 (ae 0 (U uT) (U uT)).aa (fun _=>
 (ae 0 (U sW) (U sW)).aa (fun _=>
 some (Sum.inl ((jQ,oS,iI,kB,jr),(jb,gj,ZQ,gH,eX),(JE,sP,mZ,m6,ZR),(sQ,Be),(uO,Bf),(uP,qa,EH),(lF,uQ),mr,j9,m8,qd,rA,uT,sW)))))))))).aa (fun iF=>
 some (Sum.inr iF))))
 ((lC,ii,(0:Int),nT,jO,iC),(mU,f6,nU,jd,nV),(kz,jP,lJ,eW,eG),(pZ,me),(nQ,yR),(p9,sL,mn),(lE,i64),mY,mq,tq,nY,nZ,qk,ql)))))))))
 (fun((agH,YC,Ew,sJ,rv),(sK,yQ,uU,wP,JN),(A5,O3,qe,qf,qg),(agK,agL),(O4,A6),(Ec,wI,ai2),(agM,I0),Bp,Ey,Ez,Bq,Br,Bt,PP)=>
 (ae 0 (U Bp) (U Bp)).aa (fun _=>
 (ae 0 (U Ey) (U Ey)).aa (fun _=>
 (ae 0 (U Ez) (U Ez)).aa (fun _=>
 (ae 0 (U Bq) (U Bq)).aa (fun _=>
 (ae 0 (U Br) (U Br)).aa (fun _=>
 (ae 0 (U Bt) (U Bt)).aa (fun _=>
 (ae 0 (U PP) (U PP)).aa (fun _=>
 some (Sum.inl ((YC,aY .i64 agH 1,Ew,sJ,rv),(sK,yQ,uU,wP,JN),(A5,O3,qe,qf,qg),(agK,agL),(O4,A6),(Ec,wI,ai2),(agM,I0),Bp,Ey,Ez,Bq,Br,Bt,PP)))))))))))
 (((ae 0 (U mY) (U mY)).aa (fun _=>
 (ae 0 (U mq) (U mq)).aa (fun _=>
 (ae 0 (U tq) (U tq)).aa (fun _=>
 (ae 0 (U nY) (U nY)).aa (fun _=>
 (ae 0 (U nZ) (U nZ)).aa (fun _=>
 (ae 0 (U qk) (U qk)).aa (fun _=>
 (ae 0 (U ql) (U ql)).aa (fun _=>
 some (Sum.inl ((jO,nT,iC,lC),(mU,f6,nU,jd,nV),(kz,jP,lJ,eW,eG),(pZ,me),(nQ,yR),(lE,i64),mY,mq,tq,nY,nZ,qk,ql)))))))))).aa (fun ai3=>
 some (Sum.inr ai3))))
 ((c9,(0:Int),dW,di,c9),(lA,dj,ct,gU,iG),(gF,iA,cQ,fJ,fS),(ig,fR),(gQ,f0),(jp,mR,eN),(ky,j8),gV,fA,gW,dn,dv,fb,fk)))))))))
 (fun((agN,JO,agO,I2),(I3,I4,ai4,ai5,ai6),(agP,I5,ai7,wT,wU),(agQ,agR),(agS,agT),(agU,I6),PR,PS,EA,PT,PU,PV,EB)=>
 bO ((ae 0 (U PR) (U PR)).aa (fun _=>
 (ae 0 (U PS) (U PS)).aa (fun _=>
 (ae 0 (U EA) (U EA)).aa (fun _=>
 (ae 0 (U PT) (U PT)).aa (fun _=>
 (ae 0 (U PU) (U PU)).aa (fun _=>
 (ae 0 (U PV) (U PV)).aa (fun _=>
 (ae 0 (U EB) (U EB)).aa (fun _=>
 bg NN (fun(((O5,I7,Zw,I8,YL),(YM,YN,Zx,Zy,JP),(YO,O6,Zz,ZA,ZB),(I9,Ja),(Jb,YP),(Jc,Jd),sY,sZ,s0,s6,s7,s8,s9):((Int×(Int×((List (Int×(Int×(List Int))))×(Int×Int))))×((Int×(Int×((List Int)×((List (Int×(Int×(List Int))))×(List Int)))))×((Int×(Int×((List Int)×((List (Int×(Int×(List Int))))×(List Int)))))×((Int×Int)×((Int×Int)×((Int×Int)×((List Int)×((List (Int×(Int×(List Int))))×((List Int)×((List Int)×((List (Int×(Int×(List Int))))×((List Int)×(List Int))))))))))))))=>
 aJ (bC I7 O6)
 (bO ((ae 0 (U sY) (U sY)).aa (fun _=>
 (ae 0 (U sZ) (U sZ)).aa (fun _=>
 (ae 0 (U s0) (U s0)).aa (fun _=>
 (ae 0 (U s6) (U s6)).aa (fun _=>
 (ae 0 (U s7) (U s7)).aa (fun _=>
 (ae 0 (U s8) (U s8)).aa (fun _=>
 (ae 0 (U s9) (U s9)).aa (fun _=>
 bg NN (fun(((O7,A8,Je,ZC,Jf,Jg),(Jh,A9,JQ,JR,JS),(Ji,Ed,JT,EC,JU),(Jj,Jk),(Jl,Jm),(Ee,Ef),ta,tc,td,te,tf,tg,rC):((Int×(Int×(Int×((List (Int×(Int×(List Int))))×(Int×Int)))))×((Int×(Int×((List Int)×((List (Int×(Int×(List Int))))×(List Int)))))×((Int×(Int×((List Int)×((List (Int×(Int×(List Int))))×(List Int)))))×((Int×Int)×((Int×Int)×((Int×Int)×((List Int)×((List (Int×(Int×(List Int))))×((List Int)×((List Int)×((List (Int×(Int×(List Int))))×((List Int)×(List Int))))))))))))))=>
 aJ (bC Je Ed)
 ((eJ EC O7).aa (fun(Jn,O8,ajg)=>
 (jW ((Jn,O8,ajg),A8,Je)).aa (fun ag5=>
 (ae 0 (U rC) (U rC)).aa (fun _=>
 (oz ((Ee,Ef,rC),aY .i64 A9 A8,aY .i64 A9 Je,ag5)).aa (fun ZF=>
 (ae 0 (U ta) (U ta)).aa (fun _=>
 (ae 0 (U tc) (U tc)).aa (fun _=>
 (ae 0 (U td) (U td)).aa (fun _=>
 (ae 0 (U te) (U te)).aa (fun _=>
 (ae 0 (U tf) (U tf)).aa (fun _=>
 (ae 0 (U tg) (U tg)).aa (fun _=>
 (ae 0 (U rC) (U ZF)).aa (fun _=>
 some (Sum.inl ((O7,A8,aY .i64 Je 1,ZC,Jf,Jg),(Jh,A9,JQ,JR,JS),(Ji,Ed,JT,EC,JU),(Jj,Jk),(Jl,Jm),(Ee,Ef),ta,tc,td,te,tf,tg,ZF))))))))))))))
 (((ae 0 (U ta) (U ta)).aa (fun _=>
 (ae 0 (U tc) (U tc)).aa (fun _=>
 (ae 0 (U td) (U td)).aa (fun _=>
 (ae 0 (U te) (U te)).aa (fun _=>
 (ae 0 (U tf) (U tf)).aa (fun _=>
 (ae 0 (U tg) (U tg)).aa (fun _=>
 (ae 0 (U rC) (U rC)).aa (fun _=>
 some (Sum.inl ((A8,O7,ZC,Jf,Jg),(Jh,A9,JQ,JR,JS),(Ji,Ed,JT,EC,JU),(Jj,Jk),(Jl,Jm),(Ee,Ef),ta,tc,td,te,tf,tg,rC)))))))))).aa (fun ajh=>
 some (Sum.inr ajh))))
 ((O5,I7,(0:Int),Zw,I8,YL),(YM,YN,Zx,Zy,JP),(YO,O6,Zz,ZA,ZB),(I9,Ja),(Jb,YP),(Jc,Jd),sY,sZ,s0,s6,s7,s8,s9)))))))))
 (fun((Jo,Jp,JV,ag6,ag7),(Jq,Eg,JW,JX,JY),(Jr,Js,aji,ajj,ajk),(Jt,ag8),(ag9,aha),(ahb,ahc),th,ti,PW,PX,PY,PZ,BE)=>
 (ae 0 (U th) (U th)).aa (fun _=>
 (ae 0 (U ti) (U ti)).aa (fun _=>
 (ae 0 (U PW) (U PW)).aa (fun _=>
 (ae 0 (U PX) (U PX)).aa (fun _=>
 (ae 0 (U PY) (U PY)).aa (fun _=>
 (ae 0 (U PZ) (U PZ)).aa (fun _=>
 (ae 0 (U BE) (U BE)).aa (fun _=>
 some (Sum.inl ((Jp,aY .i64 Jo 1,JV,ag6,ag7),(Jq,Eg,JW,JX,JY),(Jr,Js,aji,ajj,ajk),(Jt,ag8),(ag9,aha),(ahb,ahc),th,ti,PW,PX,PY,PZ,BE)))))))))))
 (((ae 0 (U sY) (U sY)).aa (fun _=>
 (ae 0 (U sZ) (U sZ)).aa (fun _=>
 (ae 0 (U s0) (U s0)).aa (fun _=>
 (ae 0 (U s6) (U s6)).aa (fun _=>
 (ae 0 (U s7) (U s7)).aa (fun _=>
 (ae 0 (U s8) (U s8)).aa (fun _=>
 (ae 0 (U s9) (U s9)).aa (fun _=>
 some (Sum.inl ((YL,Zw,I8),(YM,YN,Zx,Zy,JP),(YO,O6,Zz,ZA,ZB),(I9,Ja),(Jb,YP),(Jc,Jd),sY,sZ,s0,s6,s7,s8,s9)))))))))).aa (fun ajl=>
 some (Sum.inr ajl))))
 ((I2,(0:Int),JO,agN,agO),(I3,I4,ai4,ai5,ai6),(agP,I5,ai7,wT,wU),(agQ,agR),(agS,agT),(agU,I6),PR,PS,EA,PT,PU,PV,EB)))))))))
 (fun((Jw,ajm,Ba),(ahd,ahe,JZ,ajn,ajo),(ahf,ahg,J0,ajp,ajq),(Jy,Jz),(JA,JB),(Eh,Ei),tj,tm,tn,tp,mW,P1,ZL)=>
 (dq ZL (U ZL)).aa (fun yY=>
 (ae 0 (U mW) (U mW)).aa (fun _=>
 (ae 0 1 (U (((Eh,Ei,yY)::([]:List (Int×(Int×(List Int)))))))).aa (fun _=>
 (ir (aL (U mW) (U (((Eh,Ei,yY)::([]:List (Int×(Int×(List Int)))))))) 40).aa (fun _=>
 (ae 0 (U tj) (U tj)).aa (fun _=>
 (ae 0 (U tm) (U tm)).aa (fun _=>
 (ae 0 (U tn) (U tn)).aa (fun _=>
 (ae 0 (U tp) (U tp)).aa (fun _=>
 (ae 0 (aL (U mW) (U (((Eh,Ei,yY)::([]:List (Int×(Int×(List Int)))))))) (U (bU mW (((Eh,Ei,yY)::([]:List (Int×(Int×(List Int))))))))).aa (fun _=>
 (ae 0 (U P1) (U P1)).aa (fun _=>
 some (Sum.inl ((Jw,ajm,Ba),(ahd,ahe,JZ,ajn,ajo),(ahf,ahg,J0,ajp,ajq),(Jy,Jz),(JA,JB),tj,tm,tn,tp,bU mW (((Eh,Ei,yY)::([]:List (Int×(Int×(List Int)))))),P1)))))))))))))))))
 (fun((JC,ajr,Y2),(ahh,Pb,ajt,aju,P2),(Pc,Pf,ajv,ajw,P3),(ahm,ahn),(Pg,Ph),ED,EE,EF,P4,P5,P6)=>
 (ae 0 (U ED) (U ED)).aa (fun _=>
 (ae 0 (U EE) (U EE)).aa (fun _=>
 (ae 0 (U EF) (U EF)).aa (fun _=>
 (ae 0 (U P4) (U P4)).aa (fun _=>
 (ae 0 (U P5) (U P5)).aa (fun _=>
 (ae 0 (U P6) (U P6)).aa (fun _=>
 some (Sum.inl ((ajr,Y2,aY .i64 JC 1),(ahh,Pb,ajt,aju,P2),(Pc,Pf,ajv,ajw,P3),(ahm,ahn),(Pg,Ph),ED,EE,EF,P4,P5,P6))))))))))
 (((ae 0 (U gV) (U gV)).aa (fun _=>
 (ae 0 (U fA) (U fA)).aa (fun _=>
 (ae 0 (U gW) (U gW)).aa (fun _=>
 (ae 0 (U dn) (U dn)).aa (fun _=>
 (ae 0 (U dv) (U dv)).aa (fun _=>
 (ae 0 (U fb) (U fb)).aa (fun _=>
 some (Sum.inl ((ig,fR),(gQ,f0),gV,fA,gW,dn,dv,fb))))))))).aa (fun ajz=>
 some (Sum.inr ajz))))
 ((l3,aO (U l3),(0:Int)),(i0,i1,l2,l3,l4),(i5,i6,l7,l8,l9),((0:Int),(0:Int)),(i0,aY .i64 i1 i6),([]:List Int),([]:List (Int×(Int×(List Int)))),([]:List Int),bU gm l7,([]:List (Int×(Int×(List Int)))),bU eU l9))))))))
 (fun((Y3,Y4),(ahs,aht),J3,J4,J5,BH,BJ,J6)=>
 (dq BH (U BH)).aa (fun ajA=>
 (dq BJ (U BJ)).aa (fun ajB=>
 (dq J6 (U J6)).aa (fun P9=>
 some (ahs,aht,ajA,ajB,P9))))))))))))
def pi (n:Nat) (A:bf) (i j:Nat):bf:=fun a b=>if a<i/\b<n\/a=i/\b<j then A a b else 0
def ov (n:Nat) (A B:bf) (i j:Nat):bf:=fun a b=>if a<n/\b<n then A a b else if n<=a/\n<=b/\(a<n+i\/a=n+i/\b<n+j) then B (a - n) (b - n) else 0
theorem acb {r c:Nat} (n:Nat) (A:bf):ao r c (pi n A 0 0)=ao r c fun _ _=>0:=ib fun a _ b _=>if_neg (by omega)
theorem ace {r c:Nat} (n:Nat) (A:bf) (i j:Nat):ao r c (jB (pi n A i j) i j (A i j))=ao r c (pi n A i (j+1)):=by
 refine ib fun a ha b hb=>?_
 unfold jB pi
 by_cases h:a=i/\b=j
 ·obtain⟨rfl,rfl⟩:=h
  rw[if_pos ⟨rfl,rfl⟩,if_pos (by omega)]
 ·rw[if_neg h]
  by_cases h1:a<i/\b<n\/a=i/\b<j
  ·rw[if_pos h1,if_pos (by omega)]
  ·rw[if_neg h1,if_neg (by omega)]
theorem acd {r c:Nat} (n:Nat) (A:bf) (i:Nat):ao r c (pi n A i n)=ao r c (pi n A (i+1) 0):=by
 refine ib fun a ha b hb=>?_
 unfold pi
 by_cases h1:a<i/\b<n\/a=i/\b<n
 ·rw[if_pos h1,if_pos (by omega)]
 ·rw[if_neg h1,if_neg (by omega)]
theorem aca {r c:Nat} (n:Nat) (A B:bf):ao r c (pi n A n 0)=ao r c (ov n A B 0 0):=by
 refine ib fun a ha b hb=>?_
 unfold pi ov
 by_cases h1:a<n/\b<n
 ·rw[if_pos (by omega),if_pos h1]
 ·rw[if_neg (by omega),if_neg h1,if_neg (by omega)]
theorem ach {r c:Nat} (n:Nat) (A B:bf) (i j:Nat):ao r c (jB (ov n A B i j) (n+i) (n+j) (B i j))=ao r c (ov n A B i (j+1)):=by
 refine ib fun a ha b hb=>?_
 unfold jB ov
 by_cases h:a=n+i/\b=n+j
 ·obtain⟨rfl,rfl⟩:=h
  rw[if_pos ⟨rfl,rfl⟩,if_neg (by omega),if_pos (by omega),Nat.add_sub_cancel_left,Nat.add_sub_cancel_left]
 ·rw[if_neg h]
  by_cases h0:a<n/\b<n
  ·rw[if_pos h0,if_pos h0]
  ·rw[if_neg h0,if_neg h0]
   by_cases h1:n<=a/\n<=b/\(a<n+i\/a=n+i/\b<n+j)
   ·rw[if_pos h1,if_pos (by omega)]
   ·rw[if_neg h1,if_neg (by omega)]
theorem acg {r m:Nat} (n:Nat) (A B:bf) (i:Nat):ao r (n+m) (ov n A B i m)=ao r (n+m) (ov n A B (i+1) 0):=by
 refine ib fun a ha b hb=>?_
 unfold ov
 by_cases h0:a<n/\b<n
 ·rw[if_pos h0,if_pos h0]
 ·rw[if_neg h0,if_neg h0]
  by_cases h1:n<=a/\n<=b/\(a<n+i\/a=n+i/\b<n+m)
  ·rw[if_pos h1,if_pos (by omega)]
  ·rw[if_neg h1,if_neg (by omega)]
theorem acf {m c:Nat} (n:Nat) (A B:bf):ao (n+m) c (ov n A B m 0)=ao (n+m) c (nj n A B):=by
 refine ib fun a ha b hb=>?_
 unfold ov nj
 by_cases h0:a<n/\b<n
 ·rw[if_pos h0,if_pos h0]
 ·rw[if_neg h0,if_neg h0]
  by_cases h1:n<=a/\n<=b
  ·rw[if_pos h1,if_pos (by omega)]
  ·rw[if_neg h1,if_neg (by omega)]
theorem acj (n m:Nat) (ms ms2:List cT) (k:Nat):cR n m ms ms2 k++[(((n+m:Nat):Int),((n+m:Nat):Int),ao (n+m) (n+m) (nj n (stM n ms k) (stM m ms2 k)))]=cR n m ms ms2 (k+1):=by
 unfold cR
 rw[List.range_succ,List.map_append]
 rfl
theorem xu (n m:Nat) (ms ms2:List cT) (k:Nat):(cR n m ms ms2 k).length=k:=by simp[cR]
theorem C0 {α:Type} (l r:List α):ae 0 (aL (U l) (U r)) (U (l++r))=some ():=Av (by simp[aL,U])
theorem iu {α:Type}:ae 0 0 (U ([]:List α))=some ():=rfl
theorem CZ {α:Type} (l r:List α):bU l r=l++r:=rfl
section
variable {p:Int} {n m:Nat} {a b a2 b2:List Int} {ms ms2:List cT}
theorem Cy (H:e8 p n a ms b) {k:Nat} (hk:k<ms.length):ms[k]? =some ((n:Int),(n:Int),ao n n (stM n ms k))/\da p n n (stM n ms k):=by
 obtain⟨M,hM,hi⟩:=H.hm ms[k] (List.getElem_mem hk)
 have e:ms.getD k (0,0,[])=ms[k]:=by simp[List.getD,hk]
 have e2:ao n n (stM n ms k)=ao n n M:=by unfold stM;rw[e,hM];exact pI (jY _ _ _)
 refine⟨by rw[List.getElem?_eq_getElem hk,e2,hM],?_⟩
 unfold stM
 rw[e,hM]
 exact tB (jY _ _ _) (k9.2 hi)
theorem afz (H:e8 p n a ms b) (H2:e8 p m a2 ms2 b2) (pN:ms.length=ms2.length):
  FW aB ((p,(n:Int),a,ms,b),p,(m:Int),a2,ms2,b2)=some (p,((n+m:Nat):Int),a++a2,cR n m ms ms2 ms.length,b++b2):=by
 have hn:=H.hn
 have hm:=H2.hn
 have h4:=H.l4
 have h3:=H.al
 have h5:=H.bl
 have h6:=H2.al
 have h7:=H2.bl
 have hNN:(n+m)*(n+m)<=24*24:=Nat.mul_le_mul (by omega) (by omega)
 have Yb:n*n<=24*24:=Nat.mul_le_mul (by omega) (by omega)
 have cJ:m*m<=24*24:=Nat.mul_le_mul (by omega) (by omega)
 simp only[FW]
 rw[show ko a=some a from if_pos (by omega),ak]
 try simp only[bQ,iu,ak]
 rw[jH (show(aL (U a) (U a2))*8<=dK by simp only[aL,U,dK];omega),ak,show ko b=some b from if_pos (by omega),ak]
 try simp only[bQ,iu,ak]
 rw[jH (show(aL (U b) (U b2))*8<=dK by simp only[aL,U,dK];omega),ak]
 simp only[bQ,iu,ak,CZ,C0,zV (show n+m<=1099511627776 by omega),nl]
 rw[fc (fun k=>((ms,(ms.length:Int),(k:Int)),(p,(n:Int),a,ms,b),(p,(m:Int),a2,ms2,b2),((0:Int),(0:Int)),(p,((n+m:Nat):Int)),([]:List Int),([]:List (Int×Int×List Int)),([]:List Int),(a++a2),cR n m ms ms2 k,(b++b2))) ms.length ?a1 ?a2 ?a3 (cN (by omega))]
 case a3=>rfl
 case a2=>simp only;rw[aN (fK (Nat.le_refl _))];try (simp only[bQ,iu,ak])
 case a1=>
  intro k hk
  obtain⟨g1,g2⟩:=Cy H hk
  obtain⟨g3,g4⟩:=Cy H2 (show k<ms2.length by omega)
  simp only
  rw[aQ (fo hk),fw,g1,ak]
  simp only
  rw[Rs (by omega) (by omega) (by omega),ak]
  try simp only[bQ,iu,ak]
  rw[fc (fun i=>(((k:Int),(i:Int),ms,(ms.length:Int),(k:Int)),(p,(n:Int),a,ms,b),(p,(m:Int),a2,ms2,b2),((0:Int),(0:Int)),(p,((n+m:Nat):Int)),((n:Int),(n:Int),ao n n (stM n ms k)),(((n+m:Nat):Int),((n+m:Nat):Int)),([]:List Int),([]:List (Int×Int×List Int)),([]:List Int),(a++a2),cR n m ms ms2 k,(b++b2),ao (n+m) (n+m) (pi n (stM n ms k) i 0))) n ?b1 ?b2 ?b3 (cN (by omega))]
  case b3=>simp only[acb];try rfl
  case b2=>simp only;rw[aN (fK (Nat.le_refl _))];try (simp only[bQ,iu,ak])
  case b1=>
   intro i hi
   simp only
   rw[aQ (fo hi)]
   rw[fc (fun j=>(((k:Int),(i:Int),(j:Int),ms,(ms.length:Int),(k:Int)),(p,(n:Int),a,ms,b),(p,(m:Int),a2,ms2,b2),((0:Int),(0:Int)),(p,((n+m:Nat):Int)),((n:Int),(n:Int),ao n n (stM n ms k)),(((n+m:Nat):Int),((n+m:Nat):Int)),([]:List Int),([]:List (Int×Int×List Int)),([]:List Int),(a++a2),cR n m ms ms2 k,(b++b2),ao (n+m) (n+m) (pi n (stM n ms k) i j))) n ?c1 ?c2 ?c3 (cN (by omega))]
   case c3=>rfl
   case c2=>simp only;rw[aN (fK (Nat.le_refl _))];try (simp only[bQ,iu,ak])
   case c1=>
    intro j hj
    simp only
    rw[aQ (fo hj),nA (by omega) (by omega) (by omega) hi hj,ak,xn (by omega) (by omega) (by omega) (show i<n+m by omega) (show j<n+m by omega)]
    simp only[ak,lW,eQ (show j<=1048577 by omega)]
    rw[ace]
   rw[db]
   simp only[eQ (show i<=1048577 by omega)]
   rw[acd]
  rw[db]
  simp only
  rw[fc (fun i=>(((k:Int),(i:Int),ms,(ms.length:Int),(k:Int)),(p,(n:Int),a,ms,b),(p,(m:Int),a2,ms2,b2),((0:Int),(0:Int)),(p,((n+m:Nat):Int)),(((n+m:Nat):Int),((n+m:Nat):Int)),([]:List Int),([]:List (Int×Int×List Int)),([]:List Int),(a++a2),cR n m ms ms2 k,(b++b2),ao (n+m) (n+m) (ov n (stM n ms k) (stM m ms2 k) i 0))) m ?d1 ?d2 ?d3 (cN (by omega))]
  case d3=>simp only[aca n (stM n ms k) (stM m ms2 k)];try rfl
  case d2=>simp only;rw[aN (fK (Nat.le_refl _))];try (simp only[bQ,iu,ak])
  case d1=>
   intro i hi
   simp only
   rw[aQ (fo hi)]
   rw[fc (fun j=>(((k:Int),(i:Int),(j:Int),ms,(ms.length:Int),(k:Int)),(p,(n:Int),a,ms,b),(p,(m:Int),a2,ms2,b2),((0:Int),(0:Int)),(p,((n+m:Nat):Int)),(((n+m:Nat):Int),((n+m:Nat):Int)),([]:List Int),([]:List (Int×Int×List Int)),([]:List Int),(a++a2),cR n m ms ms2 k,(b++b2),ao (n+m) (n+m) (ov n (stM n ms k) (stM m ms2 k) i j))) m ?e1 ?e2 ?e3 (cN (by omega))]
   case e3=>rfl
   case e2=>simp only;rw[aN (fK (Nat.le_refl _))];try (simp only[bQ,iu,ak])
   case e1=>
    intro j hj
    simp only
    rw[aQ (fo hj),fw,g3,ak]
    simp only
    rw[nA (by omega) (by omega) (by omega) hi hj,ak,zV (show n+i<=1099511627776 by omega),zV (show n+j<=1099511627776 by omega),xn (by omega) (by omega) (by omega) (show n+i<n+m by omega) (show n+j<n+m by omega)]
    simp only[ak,lW,eQ (show j<=1048577 by omega)]
    rw[ach]
   rw[db]
   simp only[eQ (show i<=1048577 by omega)]
   rw[acg]
  rw[db]
  simp only[kf,ak]
  rw[acf]
  simp only[show ae 0 1 (U [(((n+m:Nat):Int),((n+m:Nat):Int),ao (n+m) (n+m) (nj n (stM n ms k) (stM m ms2 k)))])=some () from rfl,ak]
  rw[jH (show(aL (U (cR n m ms ms2 k)) (U [(((n+m:Nat):Int),((n+m:Nat):Int),ao (n+m) (n+m) (nj n (stM n ms k) (stM m ms2 k)))]))*40<=dK by simp only[aL,U,dK,xu,List.length_cons,List.length_nil];omega),ak]
  try simp only[bQ,iu,ak,CZ,C0]
  rw[acj,db]
  try simp only[eQ (show k<=1048577 by omega)]
 rw[db]
 simp only[kf,ak]
end
section
variable {p sg:Int} {n m:Nat} {a b a2 b2:List Int} {ms ms2:List cT}
theorem aoA {f:Int->Int} {l xs:List Int} {t:Nat} {x:Int} (h:xs[t]? =some x):(l++(xs.take t).map f)++[f x]=l++(xs.take (t+1)).map f:=by
 rw[List.take_add_one,h,List.map_append,<-List.append_assoc]
 rfl
theorem ahS {n m i j:Nat} (hn:n<=12) (hm:m<=12) (hi:i<m) (hj:j<m):aY .i64 (aY .i64 (cv .i64 (aY .i64 (n:Int) (i:Int)) ((n+m:Nat):Int)) (n:Int)) (j:Int)=(((n+i)*(n+m)+(n+j):Nat):Int):=by
 have h:(n+i)*(n+m)<=24*24:=Nat.mul_le_mul (by omega) (by omega)
 rw[zV (by omega),lG (by omega) (by omega) (by omega),zV (by omega),Nat.add_assoc]
theorem afG (H:e8 p n a ms b) (H2:e8 p m a2 ms2 b2) (pN:ms.length=ms2.length) (hsg:0<=sg/\sg<=p):
  Gm aB ((p,(n:Int),a,ms,b),(p,(m:Int),a2,ms2,b2),sg)=some (p,((n+m:Nat):Int),a++a2,cR n m ms ms2 ms.length,b++b2.map fun x=>x*sg%p):=by
 have hn:=H.hn
 have hm:=H2.hn
 have h4:=H.l4
 have h3:=H.al
 have h5:=H.bl
 have h6:=H2.al
 have h7:=H2.bl
 have hp:=H.p
 have hNN:(n+m)*(n+m)<=24*24:=Nat.mul_le_mul (by omega) (by omega)
 have Yb:n*n<=24*24:=Nat.mul_le_mul (by omega) (by omega)
 have cJ:m*m<=24*24:=Nat.mul_le_mul (by omega) (by omega)
 simp only[Gm]
 rw[show kq a=some a from if_pos (by omega),ak]
 simp only[bQ,iu,ak]
 rw[jH (show(aL (U a) (U a2))*8<=dK by simp only[aL,U,dK];omega),ak,show kq b=some b from if_pos (by omega),ak]
 simp only[bQ,iu,ak,CZ,C0,zV (show n+m<=1099511627776 by omega),nl]
 rw[fc (fun t=>((sg,((n+m:Nat):Int),b2,(b2.length:Int),(t:Int)),(p,(n:Int),a,ms,b),(p,(m:Int),a2,ms2,b2),((0:Int),(0:Int)),(p,((n+m:Nat):Int)),([]:List Int),([]:List (Int×Int×List Int)),([]:List Int),(a++a2),([]:List (Int×Int×List Int)),(b++(b2.take t).map fun x=>x*sg%p))) b2.length ?z1 ?z2 ?z3 (cN (by omega))]
 case z3=>simp only[List.take_zero,List.map_nil,List.append_nil];try rfl
 case z2=>simp only;rw[aN (fK (Nat.le_refl _))];try (simp only[bQ,iu,ak])
 case z1=>
  intro t ht
  have g1:b2[t]? =some (b2.getD t 0):=NS ht
  have i1:=H2.bp _ (List.mem_of_getElem? g1)
  simp only
  rw[aQ (fo ht),fw,g1,ak,y7 hp i1.le hsg,ak]
  simp only[bQ,iu,ak,show∀y:Int,dg [y] 0 1=some [y] from fun y=>rfl]
  rw[jH (show(aL (U (b++(b2.take t).map fun x=>x*sg%p)) (U [b2.getD t 0*sg%p]))*8<=dK by simp only[aL,U,dK,List.length_append,List.length_map,List.length_take,List.length_cons,List.length_nil];omega),ak]
  try simp only[bQ,iu,ak,CZ,C0]
  rw[aoA (f:=fun x=>x*sg%p) g1]
  try simp only[eQ (show t<=1048577 by omega)]
 rw[db]
 simp only[List.take_length]
 try simp only[bQ,iu,ak]
 rw[fc (fun k=>((((n+m:Nat):Int),ms,(ms.length:Int),(k:Int)),(p,(n:Int),a,ms,b),(p,(m:Int),a2,ms2,b2),((0:Int),(0:Int)),(p,((n+m:Nat):Int)),([]:List Int),([]:List (Int×Int×List Int)),([]:List Int),(a++a2),cR n m ms ms2 k,(b++b2.map fun x=>x*sg%p))) ms.length ?a1 ?a2 ?a3 (cN (by omega))]
 case a3=>rfl
 case a2=>simp only;rw[aN (fK (Nat.le_refl _))];try (simp only[bQ,iu,ak])
 case a1=>
  intro k hk
  obtain⟨g1,g2⟩:=Cy H hk
  obtain⟨g3,g4⟩:=Cy H2 (show k<ms2.length by omega)
  simp only
  rw[aQ (fo hk),fw,g1,ak]
  simp only
  rw[Kk (by omega) (by omega) (by omega),ak]
  try simp only[bQ,iu,ak]
  rw[fc (fun i=>((((n+m:Nat):Int),(k:Int),(i:Int),ms,(ms.length:Int),(k:Int)),(p,(n:Int),a,ms,b),(p,(m:Int),a2,ms2,b2),((0:Int),(0:Int)),(p,((n+m:Nat):Int)),((n:Int),(n:Int),ao n n (stM n ms k)),(((n+m:Nat):Int),((n+m:Nat):Int)),([]:List Int),([]:List (Int×Int×List Int)),([]:List Int),(a++a2),cR n m ms ms2 k,(b++b2.map fun x=>x*sg%p),ao (n+m) (n+m) (pi n (stM n ms k) i 0))) n ?b1 ?b2 ?b3 (cN (by omega))]
  case b3=>simp only[acb];try rfl
  case b2=>simp only;rw[aN (fK (Nat.le_refl _))];try (simp only[bQ,iu,ak])
  case b1=>
   intro i hi
   simp only
   rw[aQ (fo hi)]
   rw[fc (fun j=>((((n+m:Nat):Int),(k:Int),(i:Int),(j:Int),ms,(ms.length:Int),(k:Int)),(p,(n:Int),a,ms,b),(p,(m:Int),a2,ms2,b2),((0:Int),(0:Int)),(p,((n+m:Nat):Int)),((n:Int),(n:Int),ao n n (stM n ms k)),(((n+m:Nat):Int),((n+m:Nat):Int)),([]:List Int),([]:List (Int×Int×List Int)),([]:List Int),(a++a2),cR n m ms ms2 k,(b++b2.map fun x=>x*sg%p),ao (n+m) (n+m) (pi n (stM n ms k) i j))) n ?c1 ?c2 ?c3 (cN (by omega))]
   case c3=>rfl
   case c2=>simp only;rw[aN (fK (Nat.le_refl _))];try (simp only[bQ,iu,ak])
   case c1=>
    intro j hj
    have i2:i<n+m:=by omega
    have j2:j<n+m:=by omega
    simp only
    rw[aQ (fo hj),lG (by omega) (by omega) (by omega),Aw _ hi hj,ak]
    simp only[lG (show i<=1048576 by omega) (show n+m<=1048576 by omega) (show j<=1048576 by omega),qQ _ i2 j2,ak,mF,q9 _ i2 j2,zo _ j2,lW,bQ,eQ (show j<=1048577 by omega)]
    rw[ace]
   rw[db]
   simp only[eQ (show i<=1048577 by omega)]
   rw[acd]
  rw[db]
  simp only
  rw[fc (fun i=>((((n+m:Nat):Int),(k:Int),(i:Int),ms,(ms.length:Int),(k:Int)),(p,(n:Int),a,ms,b),(p,(m:Int),a2,ms2,b2),((0:Int),(0:Int)),(p,((n+m:Nat):Int)),(((n+m:Nat):Int),((n+m:Nat):Int)),([]:List Int),([]:List (Int×Int×List Int)),([]:List Int),(a++a2),cR n m ms ms2 k,(b++b2.map fun x=>x*sg%p),ao (n+m) (n+m) (ov n (stM n ms k) (stM m ms2 k) i 0))) m ?d1 ?d2 ?d3 (cN (by omega))]
  case d3=>simp only[aca n (stM n ms k) (stM m ms2 k)];try rfl
  case d2=>simp only;rw[aN (fK (Nat.le_refl _))];try (simp only[bQ,iu,ak])
  case d1=>
   intro i hi
   simp only
   rw[aQ (fo hi)]
   rw[fc (fun j=>((((n+m:Nat):Int),(k:Int),(i:Int),(j:Int),ms,(ms.length:Int),(k:Int)),(p,(n:Int),a,ms,b),(p,(m:Int),a2,ms2,b2),((0:Int),(0:Int)),(p,((n+m:Nat):Int)),(((n+m:Nat):Int),((n+m:Nat):Int)),([]:List Int),([]:List (Int×Int×List Int)),([]:List Int),(a++a2),cR n m ms ms2 k,(b++b2.map fun x=>x*sg%p),ao (n+m) (n+m) (ov n (stM n ms k) (stM m ms2 k) i j))) m ?e1 ?e2 ?e3 (cN (by omega))]
   case e3=>rfl
   case e2=>simp only;rw[aN (fK (Nat.le_refl _))];try (simp only[bQ,iu,ak])
   case e1=>
    intro j hj
    have i2:n+i<n+m:=by omega
    have j2:n+j<n+m:=by omega
    simp only
    rw[aQ (fo hj),fw,g3,ak]
    simp only
    rw[lG (by omega) (by omega) (by omega),Aw _ hi hj,ak]
    simp only[ahS hn hm hi hj,qQ _ i2 j2,ak,mF,q9 _ i2 j2,zo _ j2,lW,bQ,eQ (show j<=1048577 by omega)]
    rw[ach]
   rw[db]
   simp only[eQ (show i<=1048577 by omega)]
   rw[acg]
  rw[db]
  simp only[kf,ak]
  rw[acf]
  simp only[show ae 0 1 (U [(((n+m:Nat):Int),((n+m:Nat):Int),ao (n+m) (n+m) (nj n (stM n ms k) (stM m ms2 k)))])=some () from rfl,ak]
  rw[jH (show(aL (U (cR n m ms ms2 k)) (U [(((n+m:Nat):Int),((n+m:Nat):Int),ao (n+m) (n+m) (nj n (stM n ms k) (stM m ms2 k)))]))*40<=dK by simp only[aL,U,dK,xu,List.length_cons,List.length_nil];omega),ak]
  try simp only[bQ,iu,ak,CZ,C0]
  rw[acj,db]
  try simp only[eQ (show k<=1048577 by omega)]
 rw[db]
 simp only[kf,ak]
end
theorem Ht {x y:bV} (h:po x y=true):∃(p:Int) (n m:Nat) (a b a2 b2:List Int) (ms ms2:List cT),x=(p,(n:Int),a,ms,b)/\y=(p,(m:Int),a2,ms2,b2)/\e8 p n a ms b/\e8 p m a2 ms2 b2/\ms.length=ms2.length:=by
 simp only[po,Bool.and_eq_true,decide_eq_true_eq] at h
 obtain⟨h1,h2,h3,h4⟩:=h
 obtain⟨p,n,a,ms,b,rfl,H⟩:=Hy h1
 obtain⟨q,m,a2,ms2,b2,rfl,H2⟩:=Hy h2
 simp only at h3 h4
 subst h3
 exact⟨p,n,m,a,b,a2,b2,ms,ms2,rfl,rfl,H,H2,h4⟩
theorem afb (x:bV×bV) (y:Bool) (h:oB x=some y):LR aB x=some y:=by
 obtain⟨x,z⟩:=x
 simp only[oB] at h
 split at h
 ·rename_i hl
  rw[<-h]
  have e1:vB x=some (iQ x):=if_pos hl.1
  have e2:vB z=some (iQ z):=if_pos hl.2
  obtain⟨x0,x1,x2,x3,x4⟩:=x
  obtain⟨z0,z1,z2,z3,z4⟩:=z
  simp only[LR,e1,e2,ak,po]
  cases iQ (x0,x1,x2,x3,x4) with
  |false=>rfl
  |true=>
   cases iQ (z0,z1,z2,z3,z4) with
   |false=>rfl
   |true=>
    simp only[Ag,Bool.true_and]
    by_cases e:x0=z0
    ·rw[aQ (by simp[fE,e]),decide_eq_true e,Bool.true_and]
     congr 1
     rw[nl,nl,fE]
     rw[Bool.eq_iff_iff]
     simp
     constructor<;>(intro h;omega)
    ·rw[aN (by simp[fE,e]),decide_eq_false e,Bool.false_and]
 ·cases h
theorem aeO (x:bV×bV) (y:Bool) (h:tQ x=some y):LJ aB x=some y:=by
 obtain⟨x,z⟩:=x
 simp only[tQ,oB] at h
 split at h
 ·rename_i hl
  rw[<-h]
  have e1:rU x=some (iQ x):=if_pos hl.1
  have e2:rU z=some (iQ z):=if_pos hl.2
  obtain⟨x0,x1,x2,x3,x4⟩:=x
  obtain⟨z0,z1,z2,z3,z4⟩:=z
  simp only[LJ,e1,e2,ak,po]
  cases iQ (x0,x1,x2,x3,x4) with
  |false=>rfl
  |true=>
   cases iQ (z0,z1,z2,z3,z4) with
   |false=>rfl
   |true=>
    simp only[Ag,Bool.true_and]
    by_cases e:x0=z0
    ·rw[aQ (by simp[fE,e]),decide_eq_true e,Bool.true_and]
     congr 1
     rw[nl,nl,fE]
     rw[Bool.eq_iff_iff]
     simp
     constructor<;>(intro h;omega)
    ·rw[aN (by simp[fE,e]),decide_eq_false e,Bool.false_and]
 ·cases h
theorem akP {p:Int} {l:List Int} (h:dG p l):(l.map fun v=>v*1%p)=l:=by
 have:∀v∈l,v*1%p=v:=fun v hv=>by rw[Int.mul_one];exact Int.emod_eq_of_lt (h v hv).1 (h v hv).2
 rw[List.map_congr_left this,List.map_id']
theorem afh (x:bV×bV×Int) (y:bV) (h:xM x=some y):Gm aB x=some y:=by
 obtain⟨x,z,sg⟩:=x
 simp only[xM] at h
 split at h
 ·rename_i hc
  obtain⟨p,n,m,a,b,a2,b2,ms,ms2,rfl,rfl,H,H2,hl⟩:=Ht hc.1
  rw[<-h]
  exact afG H H2 hl hc.2
 ·cases h
theorem aeI (x:bV×bV) (y:bV) (h:xF x=some y):FW aB x=some y:=by
 obtain⟨x,z⟩:=x
 simp only[xF] at h
 split at h
 ·rename_i hc
  obtain⟨p,n,m,a,b,a2,b2,ms,ms2,rfl,rfl,H,H2,hl⟩:=Ht hc
  rw[<-h,afz H H2 hl]
  simp only[zw,Int.toNat_natCast,akP H2.bp]
 ·cases h
end Go.Am
end
section
namespace Go.Am
section
variable {n:Int} {d:List (Int×Int)} {a b:Int}
end
end Go.Am
end
section
namespace Go.Am
def pb (b a:Int) (l:List Int):List Int:=l.map fun x=>if x=b then a else x
def vN (l:List Int) (i:Int):Int:=l.getD i.toNat 0
def wN (n:Nat):List Int:=(List.range n).map fun i=>((i:Nat):Int)
def B7 (s:Nat) (i:Nat) (st:Int×List Int) (e:Int×Int):Int×List Int:=
 if s.testBit i=true/\vN st.2 e.1≠vN st.2 e.2 then(st.1 - 1,pb (vN st.2 e.2) (vN st.2 e.1) st.2) else st
def parts (n:Int) (es:List (Int×Int)) (s:Int):Int×List Int:=yq (B7 s.toNat) 0 (n,wN n.toNat) es
def Qm (s:Nat) (i:Nat) (l:List Int) (e:Int×Int):List Int:=
 if s.testBit i=true then pb (max (vN l e.1) (vN l e.2)) (min (vN l e.1) (vN l e.2)) l else l
def M3 (l:List Int):Int:=((List.range l.length).countP fun i=>l.getD i 0==(i:Int):Nat)
theorem Pu (n:Nat):(wN n).length=n:=by simp[wN]
theorem R1 (b a:Int) (l:List Int):(pb b a l).length=l.length:=by simp[pb]
theorem aah (a b:Int):tw a b=min a b:=by unfold tw;split<;>omega
theorem Wm (p:Nat->Bool) (j:Nat):(List.range (j+1)).countP p=(List.range j).countP p+(if p j=true then 1 else 0):=by
 rw[List.range_succ,List.countP_append,List.countP_singleton]
theorem Wl (p q:Nat->Bool) (k:Nat):∀n,k<n->(∀i,i<n->i≠k->p i=q i)->p k=true->q k=false->(List.range n).countP p=(List.range n).countP q+1
 |0,h,_,_,_=>by omega
 |n+1,h,OM,h1,h2=>by
  rw[Wm,Wm]
  by_cases hk:k=n
  ·subst hk
   rw[h1,h2]
   have:(List.range k).countP p=(List.range k).countP q:=List.countP_congr fun i hi=>by
    have:=List.mem_range.1 hi
    rw[OM i (by omega) (by omega)]
   rw[this]
   simp
  ·rw[Wl p q k n (by omega) (fun i hi=>OM i (by omega)) h1 h2,OM n (by omega) (by omega)]
   omega
structure CV (m:Nat) (l:List Int) (c:Int) (q:List Int):Prop where
 ll:l.length=m
 lq:q.length=m
 fM:∀i j:Nat,i<m->j<m->(l.getD i 0=l.getD j 0↔q.getD i 0=q.getD j 0)
 low:∀i:Nat,i<m->0<=l.getD i 0/\l.getD i 0<=(i:Int)/\l.getD (l.getD i 0).toNat 0=l.getD i 0
 nD:M3 l=c
theorem aa6 {b a:Int} {l:List Int} {i:Nat} (h:i<l.length):(pb b a l).getD i 0=if l.getD i 0=b then a else l.getD i 0:=by
 simp[pb,List.getD,List.getElem?_map,List.getElem?_eq_getElem h]
theorem am8 (b:Int) (l:List Int):pb b b l=l:=by
 unfold pb
 conv=>rhs;rw[<-List.map_id l]
 refine List.map_congr_left fun x _=>?_
 split
 ·rename_i h;exact h.symm
 ·rfl
theorem aag {b a x y:Int}:((if x=b then a else x)=(if y=b then a else y))↔(x=y\/((x=b\/x=a)/\(y=b\/y=a))):=by
 constructor
 ·intro h;split at h<;>split at h<;>omega
 ·intro h;split<;>split<;>omega
theorem CV.step {m:Nat} {l:List Int} {c:Int} {q:List Int} (h:CV m l c q) {u v:Nat} (hu:u<m) (hv:v<m) {s i:Nat}:
  CV m (Qm s i l ((u:Int),(v:Int))) (B7 s i (c,q) ((u:Int),(v:Int))).1 (B7 s i (c,q) ((u:Int),(v:Int))).2:=by
 cases hb:s.testBit i with
 |false=>
  have e1:Qm s i l ((u:Int),(v:Int))=l:=if_neg (by rw[hb];decide)
  have e2:B7 s i (c,q) ((u:Int),(v:Int))=(c,q):=if_neg (fun hh=>by rw[hb] at hh;exact absurd hh.1 (by decide))
  rw[e1,e2]
  exact h
 |true=>
  have ep:q.getD u 0=q.getD v 0->B7 s i (c,q) ((u:Int),(v:Int))=(c,q):=fun h=>if_neg (fun hh=>hh.2 h)
  have en:q.getD u 0≠q.getD v 0->B7 s i (c,q) ((u:Int),(v:Int))=(c - 1,pb (q.getD v 0) (q.getD u 0) q):=fun h=>if_pos ⟨hb,h⟩
  have el:Qm s i l ((u:Int),(v:Int))=pb (max (l.getD u 0) (l.getD v 0)) (min (l.getD u 0) (l.getD v 0)) l:=if_pos hb
  obtain⟨ll,lq,fM,low,nD⟩:=h
  by_cases hq:q.getD u 0=q.getD v 0
  ·have hl:=(fM u v hu hv).2 hq
   rw[ep hq,el,hl,Int.max_self,Int.min_self,am8]
   exact⟨ll,lq,fM,low,nD⟩
  ·have hl:l.getD u 0≠l.getD v 0:=fun e=>hq ((fM u v hu hv).1 e)
   rw[en hq,el]
   obtain⟨lu0,lu1,Qu⟩:=low u hu
   obtain⟨lv0,lv1,Qv⟩:=low v hv
   obtain⟨lo,hi,e1,e2,bH,AP,agd,wv,uz,XX⟩:∃lo hi:Nat,min (l.getD u 0) (l.getD v 0)=(lo:Int)/\max (l.getD u 0) (l.getD v 0)=(hi:Int)/\lo<hi/\
     (∀x:Int,(x=(hi:Int)\/x=(lo:Int))↔(x=l.getD v 0\/x=l.getD u 0))/\lo<m/\l.getD lo 0=(lo:Int)/\l.getD hi 0=(hi:Int)/\hi<m:=by
    obtain⟨a,ha⟩:=f9 lu0
    obtain⟨b,hb⟩:=f9 lv0
    rw[ha,Int.toNat_natCast] at Qu
    rw[hb,Int.toNat_natCast] at Qv
    rw[ha] at lu1 hl
    rw[hb] at lv1 hl
    rw[ha,hb]
    rcases Nat.lt_or_ge a b with eK|eK
    ·exact⟨a,b,by omega,by omega,eK,fun x=>by omega,by omega,Qu,Qv,by omega⟩
    ·exact⟨b,a,by omega,by omega,by omega,fun x=>by omega,by omega,Qv,Qu,by omega⟩
   rw[e1,e2]
   have gl:∀j,j<m->(pb (hi:Int) (lo:Int) l).getD j 0=if l.getD j 0=(hi:Int) then(lo:Int) else l.getD j 0:=fun j hj=>aa6 (by omega)
   have gq:∀j,j<m->(pb (q.getD v 0) (q.getD u 0) q).getD j 0=if q.getD j 0=q.getD v 0 then q.getD u 0 else q.getD j 0:=fun j hj=>aa6 (by omega)
   refine⟨by rw[R1];exact ll,by rw[R1];exact lq,?_,?_,?_⟩
   ·intro x y hx hy
    rw[gl x hx,gl y hy,gq x hx,gq y hy,aag,aag,AP,AP,fM x y hx hy,fM x u hx hu,fM x v hx hv,fM y u hy hu,fM y v hy hv]
   ·intro x hx
    obtain⟨h0,h1,h2⟩:=low x hx
    rw[gl x hx]
    by_cases O0:l.getD x 0=(hi:Int)
    ·rw[if_pos O0]
     refine⟨by omega,by omega,?_⟩
     rw[Int.toNat_natCast,gl lo agd,wv,if_neg (by omega)]
    ·rw[if_neg O0]
     refine⟨h0,h1,?_⟩
     rw[gl _ (by omega),h2,if_neg O0]
   ·have hc:=Wl (fun j=>l.getD j 0==(j:Int)) (fun j=>(pb (hi:Int) (lo:Int) l).getD j 0==(j:Int)) hi m XX ?_ (by rw[uz];simp) (by rw[gl hi XX,if_pos uz];simp;omega)
    ·unfold M3 at nD⊢
     rw[R1,ll]
     rw[ll,hc] at nD
     omega
    ·intro j hj ax
     rw[gl j hj]
     by_cases Ou:l.getD j 0=(hi:Int)
     ·rw[if_pos Ou,Ou,Bool.eq_iff_iff]
      simp only[beq_iff_eq]
      constructor
      ·intro h;omega
      ·intro h
       have:lo=j:=by omega
       subst this
       omega
     ·rw[if_neg Ou]
theorem Pt {m i:Nat} (h:i<m):(wN m).getD i 0=(i:Int):=by
 simp[wN,List.getD,List.getElem?_map,List.getElem?_range h]
theorem CV.init (m:Nat):CV m (wN m) (m:Int) (wN m):=by
 refine⟨Pu m,Pu m,fun _ _ _ _=>Iff.rfl,fun i hi=>?_,?_⟩
 ·rw[Pt hi,Int.toNat_natCast,Pt hi]
  omega
 ·unfold M3
  rw[Pu]
  have:(List.range m).countP (fun i=>(wN m).getD i 0==(i:Int))=(List.range m).length:=by
   rw[List.countP_eq_length]
   intro i hi
   rw[Pt (List.mem_range.1 hi)]
   simp
  rw[this,List.length_range]
end Go.Am
end
section
namespace Go.Am
theorem BS {X Y:Type} {f:X->Option (X⊕Y)} (n:Nat) (I:Nat->X->Prop) (Q:Y->Prop)
  (h1:∀i x,i<n->I i x->∃x',f x=some (.inl x')/\I (i+1) x') (h2:∀x,I n x->∃r,f x=some (.inr r)/\Q r) {x0:X} (h0:I 0 x0) {N:Nat} (hN:n<N):∃r,bg N f x0=some r/\Q r:=by
 have cr:∀(k i:Nat) (x:X),i+k=n->I i x->∀N,k<N->∃r,bg N f x=some r/\Q r:=by
  intro k
  induction k with
  |zero=>
   intro i x hi hx N hN
   obtain⟨N,rfl⟩:∃M,N=M+1:=⟨N - 1,by omega⟩
   have:i=n:=by omega
   subst this
   obtain⟨r,e,q⟩:=h2 x hx
   exact⟨r,by simp only[bg,e],q⟩
  |succ k ih=>
   intro i x hi hx N hN
   obtain⟨N,rfl⟩:∃M,N=M+1:=⟨N - 1,by omega⟩
   obtain⟨x',e,dU⟩:=h1 i x (by omega) hx
   obtain⟨r,e',q⟩:=ih (i+1) x' (by omega) dU N (by omega)
   exact⟨r,by simp only[bg,e];exact e',q⟩
 exact cr n 0 x0 (by omega) h0 N hN
abbrev Cu:Type:=List Int×Int×Int
def jV (c:Cu):Prop:=0<=c.2.1/\c.1.length<=1048576
theorem VF (a:Int):0<=pq .i64 a 255/\pq .i64 a 255<=255:=by
 have e:pq .i64 a 255=IntKind.wrap .i64 (((BitVec.ofInt 64 a&&&BitVec.ofInt 64 255).toNat:Nat):Int):=rfl
 have h:(BitVec.ofInt 64 a&&&BitVec.ofInt 64 255).toNat<=255:=by
  rw[BitVec.toNat_and]
  exact Nat.le_trans Nat.and_le_right (by decide)
 rw[e]
 generalize (BitVec.ofInt 64 a&&&BitVec.ofInt 64 255).toNat=m at h
 rw[acP _ (by omega) (by omega)]
 omega
theorem wa {α:Type}:ae 0 0 (U ([]:List α))=some ():=rfl
theorem Au {α:Type} (l:List α) (x:α):ae 0 (aL (U l) (U [x])) (U (bU l [x]))=some ():=by
 rw[show U (bU l [x])=aL (U l) (U [x]) by simp[aL,U,bU]];exact bQ _
def G5:au:=[(.one,[.list [.int .u8]])]
def SJ:au:=[(.ptr,[.list [.int .u8],.int .i64,.int .i64])]
def akw:be:=[[some .aA]]
def F8 (NN:Nat):(List Int)->(Option ((List Int)×(Int×Int))):=
 (fun(l0:(List Int))=>
 bO (bg NN (fun((l1,i2,i3):((List Int)×(Int×Int)))=>
 aJ (bC i3 (aO (U l1)))
 (aJ (bC i3 (4000:Int))
 ((eJ l1 i3).aa (fun i4=>
 some (Sum.inl (l1,pq .i64 (aY .i64 (aY .i64 (cv .i64 i2 131) (ME .i64 i4)) (7:Int)) (1073741823:Int),aY .i64 i3 1))))
 (some (Sum.inr (Sum.inl (l1,i2)))))
 (some (Sum.inr (Sum.inl (l1,i2)))))
 (l0,aY .i64 (55127:Int) (aO (U l0)),(0:Int)))
 (fun(l5,i6)=>
 some (l5,(0:Int),i6)))
def zP:(List Int)->(Option ((List Int)×(Int×Int))):=F8 aB
theorem ae0 (x:(List Int)) (z:((List Int)×(Int×Int))) (h:zP x=some z):F8 aB x=some z:=h
def Hs:au:=[(.one,[.list [.int .u8]]),(.one,[.int .i64])]
def S6:au:=[(.ptr,[.list [.int .u8],.int .i64,.int .i64])]
def akO:be:=[[some .aA]]
def Gn (NN:Nat):((List Int)×Int)->(Option ((List Int)×(Int×Int))):=
 (fun((l0,i1):((List Int)×Int))=>
 (zP l0).aa (fun(l2,i3,i4)=>
 some (l2,tw i1 (aO (U l0)),pq .i64 (aY .i64 (aY .i64 (cv .i64 i4 31) (cv .i64 i1 7919)) (1:Int)) (1073741823:Int))))
def xO:((List Int)×Int)->(Option ((List Int)×(Int×Int))):=Gn aB
theorem afj (x:((List Int)×Int)) (z:((List Int)×(Int×Int))) (h:xO x=some z):Gn aB x=some z:=h
def G0:au:=[(.ptr,[.list [.int .u8],.int .i64,.int .i64])]
def SH:au:=[(.one,[.int .i64]),(.ptr,[.list [.int .u8],.int .i64,.int .i64])]
def aku:be:=[[some .aA]]
def F7 (NN:Nat):((List Int)×(Int×Int))->(Option (Int×((List Int)×(Int×Int)))):=
 (fun((l0,i1,i2):((List Int)×(Int×Int)))=>
 (tH .i64 (aY .i64 (cv .i64 i2 6364136223846793005) (1442695040888963407:Int)) (33:Int)).aa (fun i3=>
 (tH .i64 (aY .i64 (cv .i64 i2 6364136223846793005) (1442695040888963407:Int)) (45:Int)).aa (fun i4=>
 bO (aJ (bC i1 (aO (U l0)))
 ((eJ l0 i1).aa (fun i5=>
 some (Sum.inl (pq .i64 (aY .i64 (pq .i64 (Vg .i64 i3 i4) (255:Int)) (ME .i64 i5)) (255:Int),l0,aY .i64 i1 1,aY .i64 (cv .i64 i2 6364136223846793005) (1442695040888963407:Int)))))
 (some (Sum.inl (pq .i64 (Vg .i64 i3 i4) (255:Int),l0,i1,aY .i64 (cv .i64 i2 6364136223846793005) (1442695040888963407:Int)))))
 (fun(i6,l7,i8,i9)=>
 some (i6,l7,i8,i9)))))
def zO:((List Int)×(Int×Int))->(Option (Int×((List Int)×(Int×Int)))):=F7 aB
theorem aeY (x:((List Int)×(Int×Int))) (z:(Int×((List Int)×(Int×Int)))) (h:zO x=some z):F7 aB x=some z:=h
def GZ:au:=[(.ptr,[.list [.int .u8],.int .i64,.int .i64]),(.one,[.int .i64])]
def SG:au:=[(.one,[.int .i64]),(.ptr,[.list [.int .u8],.int .i64,.int .i64])]
def akt:be:=[[some .aA]]
def F6 (NN:Nat):(((List Int)×(Int×Int))×Int)->(Option (Int×((List Int)×(Int×Int)))):=
 (fun(((l0,i1,i2),i3):(((List Int)×(Int×Int))×Int))=>
 aJ (n4 i3 (0:Int))
 (some ((0:Int),l0,i1,i2))
 ((zO (l0,i1,i2)).aa (fun(i4,l5,i6,i7)=>
 (fL i4 i3).aa (fun i8=>
 some (i8,l5,i6,i7)))))
def oA:(((List Int)×(Int×Int))×Int)->(Option (Int×((List Int)×(Int×Int)))):=F6 aB
theorem aeX (x:(((List Int)×(Int×Int))×Int)) (z:(Int×((List Int)×(Int×Int)))) (h:oA x=some z):F6 aB x=some z:=h
def G6:au:=[(.ptr,[.list [.int .u8],.int .i64,.int .i64]),(.one,[.int .i64])]
def SK:au:=[(.one,[.bool]),(.ptr,[.list [.int .u8],.int .i64,.int .i64])]
def akx:be:=[[some .aA]]
def F9 (NN:Nat):(((List Int)×(Int×Int))×Int)->(Option (Bool×((List Int)×(Int×Int)))):=
 (fun(((l0,i1,i2),i3):(((List Int)×(Int×Int))×Int))=>
 (oA ((l0,i1,i2),i3)).aa (fun(i4,l5,i6,i7)=>
 some (fE i4 (0:Int),l5,i6,i7)))
def xH:(((List Int)×(Int×Int))×Int)->(Option (Bool×((List Int)×(Int×Int)))):=F9 aB
theorem ae1 (x:(((List Int)×(Int×Int))×Int)) (z:(Bool×((List Int)×(Int×Int)))) (h:xH x=some z):F9 aB x=some z:=h
def G7:au:=[(.ptr,[.list [.int .u8],.int .i64,.int .i64]),(.one,[.list [.int .i64]])]
def SL:au:=[(.one,[.int .i64]),(.ptr,[.list [.int .u8],.int .i64,.int .i64])]
def aky:be:=[[some .aA]]
def Ga (NN:Nat):(((List Int)×(Int×Int))×(List Int))->(Option (Int×((List Int)×(Int×Int)))):=
 (fun(((l0,i1,i2),l3):(((List Int)×(Int×Int))×(List Int)))=>
 (oA ((l0,i1,i2),aO (U l3))).aa (fun(i4,l5,i6,i7)=>
 (eJ l3 i4).aa (fun i8=>
 some (i8,l5,i6,i7))))
def zQ:(((List Int)×(Int×Int))×(List Int))->(Option (Int×((List Int)×(Int×Int)))):=Ga aB
theorem ae2 (x:(((List Int)×(Int×Int))×(List Int))) (z:(Int×((List Int)×(Int×Int)))) (h:zQ x=some z):Ga aB x=some z:=h
theorem adq (c:Cu) (h:jV c):∃x c',zO c=some (x,c')/\(0<=x/\x<=255)/\jV c':=by
 obtain⟨l,i,k⟩:=c
 obtain⟨h0,h1⟩:=h
 dsimp only at h0 h1
 obtain⟨i,rfl⟩:=f9 h0
 obtain⟨s1,e1⟩:∃s,tH .i64 (aY .i64 (cv .i64 k (6364136223846793005:Int)) (1442695040888963407:Int)) (33:Int)=some s:=⟨_,if_neg (by decide)⟩
 obtain⟨s2,e2⟩:∃s,tH .i64 (aY .i64 (cv .i64 k (6364136223846793005:Int)) (1442695040888963407:Int)) (45:Int)=some s:=⟨_,if_neg (by decide)⟩
 simp only[zO,F7]
 rw[e1,e2]
 simp only[Option.aa,Option.bind]
 by_cases hc:i<l.length
 ·rw[aQ (dZ (by unfold aO U;omega))]
  rw[fw,List.getElem?_eq_getElem hc]
  simp only[bO,Option.bind]
  refine⟨_,_,rfl,VF _,?_,h1⟩
  dsimp only
  rw[jl (by omega) (by omega)]
  omega
 ·rw[aN (dX (by unfold aO U;omega))]
  simp only[bO,Option.bind]
  exact⟨_,_,rfl,VF _,h0,h1⟩
theorem vP (c:Cu) (n:Int) (h:jV c) (hn:1<=n):∃x c',oA (c,n)=some (x,c')/\(0<=x/\x<n)/\x<=255/\jV c':=by
 obtain⟨l,i,k⟩:=c
 obtain⟨x,⟨l',i',k'⟩,e,hx,hc⟩:=adq _ h
 simp only[oA,F6]
 rw[aN (yZ (by omega)),e]
 simp only[Option.aa,Option.bind]
 rw[aa7 hx.1 (by omega)]
 refine⟨_,_,rfl,⟨Int.emod_nonneg _ (by omega),Int.emod_lt_of_pos _ (by omega)⟩,?_,hc⟩
 have:=Int.emod_lt_of_pos x (show 0<n by omega)
 by_cases hl:x<n
 ·rw[Int.emod_eq_of_lt hx.1 hl];omega
 ·omega
theorem aaz (c:Cu) (n:Int) (h:jV c) (hn:1<=n):∃b c',xH (c,n)=some (b,c')/\jV c':=by
 obtain⟨l,i,k⟩:=c
 obtain⟨x,⟨l',i',k'⟩,e,_,_,hc⟩:=vP _ n h hn
 simp only[xH,F9]
 rw[e]
 exact⟨_,_,rfl,hc⟩
theorem amM (c:Cu) (l:List Int) (h:jV c) (h1:l≠[]) (h2:l.length<=100):∃x c',zQ (c,l)=some (x,c')/\x∈l/\jV c':=by
 obtain⟨cl,i,k⟩:=c
 have hl:1<=l.length:=by rcases l with _|⟨a,l⟩<;>simp_all
 obtain⟨x,⟨l',i',k'⟩,e,hx,_,hc⟩:=vP (cl,i,k) (aO (U l)) h (by unfold aO U;omega)
 simp only[zQ,Ga]
 rw[e]
 simp only[Option.aa,Option.bind]
 obtain⟨j,rfl⟩:=f9 hx.1
 have hj:j<l.length:=by unfold aO U at hx;omega
 rw[fw,List.getElem?_eq_getElem hj]
 exact⟨_,_,rfl,List.getElem_mem hj,hc⟩
theorem alT (l:List Int) (h:l.length<=1048576):∃c,zP l=some c/\jV c:=by
 simp only[zP,F8]
 generalize hL:bg aB _ _=o
 obtain⟨r,rfl,z,rfl⟩:∃r,o=some r/\∃z,r=Sum.inl (l,z):=by
  rw[<-hL]
  refine BS (min l.length 4000) (fun i (x:List Int×Int×Int)=>x.1=l/\x.2.2=(i:Int)) _ ?_ ?_ ⟨rfl,rfl⟩ (cN (by omega))
  ·intro i x hi hx
   obtain⟨l1,i2,i3⟩:=x
   dsimp only at hx⊢
   obtain⟨rfl,rfl⟩:=hx
   rw[aQ (dZ (by unfold aO U;omega)),aQ (dZ (by omega)),fw,List.getElem?_eq_getElem (by omega)]
   exact⟨_,rfl,rfl,jl (by omega) (by omega)⟩
  ·intro x hx
   obtain⟨l1,i2,i3⟩:=x
   dsimp only at hx⊢
   obtain⟨rfl,rfl⟩:=hx
   by_cases hc:l1.length<=4000
   ·rw[aN (dX (by unfold aO U;omega))]
    exact⟨_,rfl,_,rfl⟩
   ·rw[aQ (dZ (by unfold aO U;omega)),aN (dX (by omega))]
    exact⟨_,rfl,_,rfl⟩
 exact⟨_,rfl,Int.le_refl _,h⟩
theorem VM (l:List Int) (n:Int) (h:l.length<=1048576) (hn:0<=n):∃c,xO (l,n)=some c/\jV c:=by
 obtain⟨⟨l',i',k'⟩,e,hc⟩:=alT l h
 simp only[xO,Gn]
 rw[e]
 refine⟨_,rfl,?_,hc.2⟩
 dsimp only
 rw[aah]
 unfold aO U
 omega
end Go.Am
end
section
namespace Go.Am
def Zr (x:Int×cT×cT):Prop:=cP x.1/\m9 x.2.1/\m9 x.2.2/\(x.2.1.1*x.2.2.1<=4096/\x.2.1.2.1*x.2.2.2.1<=4096)/\(x.2.1.1*x.2.2.1)*(x.2.1.2.1*x.2.2.2.1)<=1048576/\dG x.1 x.2.1.2.2/\dG x.1 x.2.2.2.2
instance (x:Int×cT×cT):Decidable (Zr x):=by unfold Zr;infer_instance
section
variable {p:Int} {r c s d:Nat} {A B:bf}
end
section
variable {p:Int} {n m:Nat} {a b a2 b2:List Int} {ms ms2:List cT}
end
end Go.Am
end
section
namespace Go.Am
end Go.Am
end
section
namespace Go.Am
def cS (om:Bool) (w:Nat) (x y:Nat->Int) (t:Nat):Int:=sm w (fun i=>sm w (fun j=>kW om x y t i j))
def pc (x y:Nat->Int) (t:Nat):Int:=sm (t+1) (fun i=>x i*y (t - i))
theorem vk:∀(n:Nat) {f:Nat->Int},(∀i,i<n->f i=0)->sm n f=0
 |0,_,_=>rfl
 |n+1,f,h=>by simp only[sm];rw[vk n (fun i hi=>h i (by omega)),h n (by omega)];rfl
theorem Cp {a:Nat} {f:Nat->Int}:∀(n:Nat),a<n->(∀i,i<n->i≠a->f i=0)->sm n f=f a
 |0,h,_=>by omega
 |n+1,h,hf=>by
  simp only[sm]
  by_cases e:a=n
  ·subst e
   rw[vk a (fun i hi=>hf i (by omega) (by omega))];omega
  ·rw[Cp n (by omega) (fun i hi ax=>hf i (by omega) ax),hf n (by omega) (by omega)];omega
theorem abI {m:Nat} {f:Nat->Int}:∀(n:Nat),m<=n->(∀i,i<n->m<=i->f i=0)->sm n f=sm m f
 |0,h,_=>by rw[show m=0 by omega]
 |n+1,h,hf=>by
  by_cases e:m=n+1
  ·rw[e]
  ·simp only[sm]
   rw[abI n (by omega) (fun i hi hm=>hf i (by omega) hm),hf n (by omega) (by omega)];omega
theorem vj {p:Int} {f g:Nat->Int}:∀{n:Nat},(∀i,i<n->f i%p=g i%p)->sm n f%p=sm n g%p
 |0,_=>rfl
 |n+1,h=>by simp only[sm];rw[Int.add_emod,vj (n:=n) (fun i hi=>h i (by omega)),h n (by omega),<-Int.add_emod]
theorem C4 {w t:Nat} (x y:Nat->Int) (h:t<w):cS false w x y t=pc x y t:=by
 have fh:∀i,i<w->sm w (fun j=>kW false x y t i j)=if i<=t then x i*y (t - i) else 0:=by
  intro i hi
  split
  ·rename_i wq
   rw[Cp (a:=t - i) w (by omega) (fun j hj ax=>by unfold kW;rw[if_neg (by omega),if_neg (by simp)])]
   unfold kW
   rw[if_pos (by omega)]
  ·exact vk w fun j hj=>by unfold kW;rw[if_neg (by omega),if_neg (by simp)]
 unfold cS pc
 rw[kO fh,abI (m:=t+1) w (by omega) (fun i hi hm=>if_neg (by omega))]
 exact kO fun i hi=>if_pos (by omega)
theorem alP {p a b:Int} (eK:a%p=b%p):(-a)%p=(-b)%p:=by
 have:(0 - a)%p=(0 - b)%p:=by rw[Int.sub_emod,eK,<-Int.sub_emod]
 simpa using this
theorem VX {om:Bool} {w t:Nat} {p:Int} {x x' y y':Nat->Int} (hx:∀i,i<w->x i%p=x' i%p) (hy:∀i,i<w->y i%p=y' i%p):cS om w x y t%p=cS om w x' y' t%p:=by
 refine vj fun i hi=>vj fun j hj=>?_
 have hm:(x i*y j)%p=(x' i*y' j)%p:=by rw[Int.mul_emod,hx i hi,hy j hj,<-Int.mul_emod]
 unfold kW
 split
 ·exact hm
 ·split
  ·exact alP hm
  ·rfl
theorem Mj {om:Bool} {w t:Nat} {x x' y y':Nat->Int} (hx:∀i,i<w->x i=x' i) (hy:∀i,i<w->y i=y' i):cS om w x y t=cS om w x' y' t:=
 kO fun i hi=>kO fun j hj=>by unfold kW;rw[hx i hi,hy j hj]
theorem amL (x y z:Nat->Int) {t:Nat} (h:t<6):pc (pc x y) z t=pc x (pc y z) t:=by
 match t,h with
 |0,_=>simp only[pc,sm,Nat.reduceSub,Nat.reduceAdd,Nat.zero_add];try grind
 |1,_=>simp only[pc,sm,Nat.reduceSub,Nat.reduceAdd,Nat.zero_add];try grind
 |2,_=>simp only[pc,sm,Nat.reduceSub,Nat.reduceAdd,Nat.zero_add];try grind
 |3,_=>simp only[pc,sm,Nat.reduceSub,Nat.reduceAdd,Nat.zero_add];try grind
 |4,_=>simp only[pc,sm,Nat.reduceSub,Nat.reduceAdd,Nat.zero_add];try grind
 |5,_=>simp only[pc,sm,Nat.reduceSub,Nat.reduceAdd,Nat.zero_add];try grind
theorem x6 (x y:Nat->Int):cS true 4 x y 0=x 0*y 0 - x 1*y 3 - x 2*y 2 - x 3*y 1:=by simp[cS,sm,kW];grind
theorem x7 (x y:Nat->Int):cS true 4 x y 1=x 0*y 1+x 1*y 0 - x 2*y 3 - x 3*y 2:=by simp[cS,sm,kW];grind
theorem x8 (x y:Nat->Int):cS true 4 x y 2=x 0*y 2+x 1*y 1+x 2*y 0 - x 3*y 3:=by simp[cS,sm,kW];grind
theorem x9 (x y:Nat->Int):cS true 4 x y 3=x 0*y 3+x 1*y 2+x 2*y 1+x 3*y 0:=by simp[cS,sm,kW]
theorem adF (x y z:Nat->Int) {t:Nat} (h:t<4):cS true 4 (cS true 4 x y) z t=cS true 4 x (cS true 4 y z) t:=by
 match t,h with
 |0,_=>rw[x6,x6];simp only[x6,x7,x8,x9];grind
 |1,_=>rw[x7,x7];simp only[x6,x7,x8,x9];grind
 |2,_=>rw[x8,x8];simp only[x6,x7,x8,x9];grind
 |3,_=>rw[x9,x9];simp only[x6,x7,x8,x9];grind
theorem adt {k p:Int} {w:Nat} (c:Lw k p w) (x y z:Nat->Int) {t:Nat} (h:t<w):cS (decide (k=8)) w (cS (decide (k=8)) w x y) z t=cS (decide (k=8)) w x (cS (decide (k=8)) w y z) t:=by
 by_cases h8:k=8
 ·obtain rfl:=c.w8 h8
  rw[decide_eq_true h8]
  exact adF x y z h
 ·rw[decide_eq_false h8]
  have h6:=c.cw
  rw[Mj (x':=pc x y) (y':=z) (fun i hi=>C4 x y hi) (fun _ _=>rfl),C4 _ _ h,Mj (x':=x) (y':=pc y z) (fun _ _=>rfl) (fun i hi=>C4 y z hi),C4 _ _ h]
  exact amL x y z (by omega)
theorem MH (p:Int) (om:Bool) (w:Nat) (x y:Nat->Int):yc p om w x y=jf w fun t=>cS om w x y t%p:=rfl
theorem Dd {r:Int×Int×Int} (h:r.1=7\/r.1=8) (x y:List Int):w5 r x y=yc r.2.1 (decide (r.1=8)) (eI r) (bX x) (bX y):=if_pos h
theorem aai {a b c p:Int} (hp:0<=p) (ha:0<=a) (hb:0<=b) (hc:0<=c):min (min (a*b) p*c) p=min (a*b*c) p:=by
 generalize hm:a*b=m
 by_cases h:m<=p
 ·rw[show min m p=m by omega]
 ·rw[show min m p=p by omega]
  by_cases h0:c=0
  ·subst h0;simp
  ·have h1:p*1<=p*c:=Int.mul_le_mul_of_nonneg_left (by omega) hp
   have h2:p*c<=m*c:=Int.mul_le_mul_of_nonneg_right (by omega) hc
   omega
theorem acM {r:Int×Int×Int} (hk:¬(r.1=7\/r.1=8)):eI r=1:=by
 obtain⟨k,p,n⟩:=r
 simp only at hk
 simp only[eI,rS]
 rw[if_neg (by omega),if_neg (by omega)]
 rfl
theorem al3 {r:Int×Int×Int} (hr:xj r=true) (hk:¬(r.1=7\/r.1=8)) {a b c:Int} (ha:0<=a/\a<=jA r) (hb:0<=b/\b<=jA r) (hc:0<=c/\c<=jA r):oZ r (oZ r a b) c=oZ r a (oZ r b c):=by
 obtain⟨k,p,n⟩:=r
 simp only at hk
 rcases KB hr with⟨rfl,rfl,rfl⟩|⟨rfl,hp,rfl⟩|⟨rfl,hp,rfl⟩|⟨rfl,hp,rfl⟩|⟨rfl,hp,rfl⟩|⟨rfl,rfl,hn⟩|⟨rfl,hp,hn⟩|⟨rfl,hp,pQ,rfl⟩
 ·have o:∀u v,oZ (1,0,0) u v=((u.toNat&&&v.toNat:Nat):Int):=fun _ _=>rfl
  rw[o,o,o,o,Int.toNat_natCast,Int.toNat_natCast,Nat.and_assoc]
 ·have o:∀u v,oZ (2,p,0) u v=u*v%p:=fun _ _=>rfl
  rw[o,o,o,o,Int.mul_emod,Int.emod_emod,<-Int.mul_emod,Int.mul_emod a,Int.emod_emod,<-Int.mul_emod,Int.mul_assoc]
 ·have o:∀u v,oZ (3,p,0) u v=min (u*v) p:=fun _ _=>rfl
  rw[o,o,o,o,aai (by omega) ha.1 hb.1 hc.1,Int.mul_comm a (min _ _),aai (by omega) hb.1 hc.1 ha.1,Int.mul_assoc a b c,Int.mul_comm a]
 ·have o:∀u v,oZ (4,p,0) u v=min (u+v) p:=fun _ _=>rfl
  rw[o,o,o,o];omega
 ·have o:∀u v,oZ (5,p,0) u v=min u v:=fun _ _=>rfl
  rw[o,o,o,o];omega
 ·have o:∀u v,oZ (6,0,n) u v=((u.toNat&&&v.toNat:Nat):Int):=fun _ _=>rfl
  rw[o,o,o,o,Int.toNat_natCast,Int.toNat_natCast,Nat.and_assoc]
 ·omega
 ·omega
theorem mul_assoc {r:Int×Int×Int} {x y z:List Int} (hr:xj r=true) (hx:qT r x=true) (hy:qT r y=true) (hz:qT r z=true):w5 r (w5 r x y) z=w5 r x (w5 r y z):=by
 by_cases hk:r.1=7\/r.1=8
 ·obtain⟨k,p,n⟩:=r
  have c:=VZ hr hk
  rw[Dd hk,Dd hk,Dd hk,Dd hk]
  simp only
  refine Ld fun t ht=>?_
  show cS (decide (k=8)) (eI (k,p,n)) (bX (yc p (decide (k=8)) (eI (k,p,n)) (bX x) (bX y))) (bX z) t%p=cS (decide (k=8)) (eI (k,p,n)) (bX x) (bX (yc p (decide (k=8)) (eI (k,p,n)) (bX y) (bX z))) t%p
  have e1:cS (decide (k=8)) (eI (k,p,n)) (bX (yc p (decide (k=8)) (eI (k,p,n)) (bX x) (bX y))) (bX z) t%p=cS (decide (k=8)) (eI (k,p,n)) (cS (decide (k=8)) (eI (k,p,n)) (bX x) (bX y)) (bX z) t%p:=
   VX (fun i hi=>by rw[MH,M9 _ hi,Int.emod_emod]) (fun _ _=>rfl)
  have e2:cS (decide (k=8)) (eI (k,p,n)) (bX x) (bX (yc p (decide (k=8)) (eI (k,p,n)) (bX y) (bX z))) t%p=cS (decide (k=8)) (eI (k,p,n)) (bX x) (cS (decide (k=8)) (eI (k,p,n)) (bX y) (bX z)) t%p:=
   VX (fun _ _=>rfl) (fun i hi=>by rw[MH,M9 _ hi,Int.emod_emod])
  rw[e1,e2,adt c _ _ _ ht]
 ·have hw:=acM hk
  obtain⟨a,b,rfl,rfl,ha,hb⟩:=WE hx hy hw
  obtain⟨_,c,e,rfl,_,hc⟩:=WE hx hz hw
  rw[EM hk,EM hk,EM hk,EM hk,al3 hr hk ha hb hc]
theorem afm {k p n:Int} (hk:k=7\/k=8) {j:Nat} (hj:j<eI (k,p,n)):bX (B3 (k,p,n)) j=if j=0 then 1 else 0:=by
 rw[al1,M9 _ hj,if_neg (show¬k=4 by omega),if_neg (show¬(k=5\/k=6) by omega)]
theorem ads {k p:Int} {w:Nat} (c:Lw k p w) (u:Nat->Int) (v:Int) {t:Nat} (h:t<w):cS (decide (k=8)) w u (fun j=>if j=0 then v else 0) t=u t*v:=by
 by_cases h8:k=8
 ·obtain rfl:=c.w8 h8
  rw[decide_eq_true h8]
  match t,h with
  |0,_=>rw[x6];simp
  |1,_=>rw[x7];simp
  |2,_=>rw[x8];simp
  |3,_=>rw[x9];simp
 ·rw[decide_eq_false h8,C4 _ _ h]
  unfold pc
  rw[Cp (a:=t) (t+1) (by omega) (fun i hi ax=>by simp only;rw[if_neg (by omega),Int.mul_zero])]
  simp only
  rw[if_pos (by omega)]
theorem al4 {k p n:Int} (hr:xj (k,p,n)=true) (hk:¬(k=7\/k=8)) {a:Int} (ha:0<=a/\a<=jA (k,p,n)):oZ (k,p,n) a (if k=4 then 0 else if k=5\/k=6 then jA (k,p,n) else 1)=a:=by
 rcases KB hr with⟨rfl,rfl,rfl⟩|⟨rfl,hp,rfl⟩|⟨rfl,hp,rfl⟩|⟨rfl,hp,rfl⟩|⟨rfl,hp,rfl⟩|⟨rfl,rfl,hn⟩|⟨rfl,hp,hn⟩|⟨rfl,hp,pQ,rfl⟩
 ·have e:jA (1,0,0)=1:=rfl
  have h1:a=0\/a=1:=by omega
  rcases h1 with rfl|rfl<;>decide
 ·have e:jA (2,p,0)=p - 1:=rfl
  have:=kD hp
  show a*1%p=a
  rw[Int.mul_one,Int.emod_eq_of_lt (by omega) (by omega)]
 ·have e:jA (3,p,0)=p:=rfl
  show min (a*1) p=a
  omega
 ·have e:jA (4,p,0)=p:=rfl
  show min (a+0) p=a
  omega
 ·have e:jA (5,p,0)=p:=rfl
  show min a p=a
  omega
 ·have e:jA (6,0,n)=2^n.toNat - 1:=rfl
  have e2:(((2:Nat)^n.toNat:Nat):Int)=(2:Int)^n.toNat:=by push_cast;rfl
  show((a.toNat&&&(2^n.toNat - 1:Int).toNat:Nat):Int)=a
  rw[show(2^n.toNat - 1:Int).toNat=2^n.toNat - 1 by omega,Nat.and_two_pow_sub_one_eq_mod,Nat.mod_eq_of_lt (by omega)]
  omega
 ·omega
 ·omega
theorem mul_one {r:Int×Int×Int} {x:List Int} (hr:xj r=true) (hx:qT r x=true):w5 r x (B3 r)=x:=by
 obtain⟨k,p,n⟩:=r
 by_cases hk:k=7\/k=8
 ·have c:=VZ hr hk
  rw[Dd hk,MH]
  simp only
  have hT:jA (k,p,n)=p - 1:=by
   simp only[jA]
   rw[if_neg (by omega),if_neg (by omega),if_neg (by omega)]
  refine(Ld fun t ht=>?_).trans (aor (WD hx))
  rw[Mj (x':=bX x) (y':=fun j=>if j=0 then 1 else 0) (fun _ _=>rfl) (fun i hi=>afm hk hi),ads c _ _ ht,Int.mul_one]
  have:=WC hx ht
  rw[hT] at this
  exact Int.emod_eq_of_lt this.1 (by omega)
 ·have hw:=acM (r:=(k,p,n)) hk
  obtain⟨e,ha⟩:=Dh hx hw
  have e1:B3 (k,p,n)=[if k=4 then 0 else if k=5\/k=6 then jA (k,p,n) else 1]:=by simp only[B3];exact ana hw
  rw[e,e1,EM hk,al4 hr hk ha]
end Go.Am
end
section
namespace Go.Am
theorem MQ (p:Int) (f g:Nat->Int):∀n,jG p f g n=sm n (fun t=>f t*g t)%p
 |0=>by simp[jG,sm]
 |n+1=>by simp only[jG,sm];rw[MQ p f g n,Int.emod_add_emod]
theorem KT (n:Nat) (f:Nat->Int):∀m,sm (n+m) f=sm n f+sm m (fun t=>f (n+t))
 |0=>by simp[sm]
 |m+1=>by rw[<-Nat.add_assoc];simp only[sm];rw[KT n f m];omega
theorem Fm (c:Int) (f:Nat->Int):∀n,sm n (fun t=>c*f t)=c*sm n f
 |0=>by simp[sm]
 |n+1=>by simp only[sm];rw[Fm c f n,Int.mul_add]
theorem Ul (c:Int) (f:Nat->Int) (n:Nat):sm n (fun t=>f t*c)=sm n f*c:=by
 rw[Int.mul_comm,<-Fm]
 exact kO fun i _=>Int.mul_comm _ _
theorem Uk (f g:Nat->Int):∀n,sm n (fun t=>f t+g t)=sm n f+sm n g
 |0=>by simp[sm]
 |n+1=>by simp only[sm];rw[Uk f g n];omega
theorem Um (f:Nat->Nat->Int) (m:Nat):∀n,sm n (fun i=>sm m (fun j=>f i j))=sm m (fun j=>sm n (fun i=>f i j))
 |0=>by simp only[sm];exact(vk m fun _ _=>rfl).symm
 |n+1=>by simp only[sm];rw[Um f m n,<-Uk]
theorem La (p:Int) (n:Nat) (ms:List cT) (v:List Int) (c:Int):mC p n ms v c=jf n (fun j=>sm n (fun t=>bX v t*stM n ms c.toNat t j)%p):=by
 unfold mC ao jf
 rw[Nat.one_mul]
 refine List.map_congr_left fun j hj=>?_
 have hj:=List.mem_range.1 hj
 rw[Nat.div_eq_of_lt hj,Nat.mod_eq_of_lt hj]
 unfold gu
 rw[MQ]
 congr 1
 refine kO fun t _=>?_
 unfold cE bX stM cE
 rw[Nat.zero_mul,Nat.zero_add]
theorem aoq (n m:Nat) (f:Nat->Int):jf (n+m) f=jf n f++jf m (fun j=>f (n+j)):=by
 unfold jf
 rw[List.range_add,List.map_append,List.map_map]
 rfl
theorem M7 {x y:List Int} {t:Nat} (h:t<x.length):bX (x++y) t=bX x t:=by
 unfold bX
 rw[List.getD_eq_getElem?_getD,List.getD_eq_getElem?_getD,List.getElem?_append_left h]
theorem M8 {x y:List Int} {n t:Nat} (h:x.length=n):bX (x++y) (n+t)=bX y t:=by
 unfold bX
 rw[List.getD_eq_getElem?_getD,List.getD_eq_getElem?_getD,List.getElem?_append_right (by omega)]
 congr 2
 omega
theorem afn {n j:Nat} (f:Nat->Int) (h:j<n):bX (jf n f) j=f j:=by
 unfold bX jf
 rw[List.getD_eq_getElem?_getD,List.getElem?_map,List.getElem?_range h]
 rfl
theorem K8 {n m k:Nat} {ms ms2:List cT} {c i j:Nat} (hc:c<k) (hi:i<n+m) (hj:j<n+m):stM (n+m) (cR n m ms ms2 k) c i j=nj n (stM n ms c) (stM m ms2 c) i j:=by
 have e:stM (n+m) (cR n m ms ms2 k) c=cE (n+m) (ao (n+m) (n+m) (nj n (stM n ms c) (stM m ms2 c))):=by
  conv=>lhs;unfold stM
  congr 1
  unfold cR
  rw[List.getD_eq_getElem?_getD,List.getElem?_map,List.getElem?_range hc]
  rfl
 rw[e,mA _ hi hj]
theorem aog {p:Int} {n m k:Nat} {ms ms2:List cT} {s t:List Int} {c:Int} (hs:s.length=n) (ht:t.length=m) (hc:c.toNat<k):
  mC p (n+m) (cR n m ms ms2 k) (s++t) c=mC p n ms s c++mC p m ms2 t c:=by
 rw[La,La,La,aoq]
 congr 1
 ·refine Ld fun j hj=>?_
  congr 1
  rw[KT]
  rw[vk m (f:=fun u=>bX (s++t) (n+u)*stM (n+m) (cR n m ms ms2 k) c.toNat (n+u) j) (fun u hu=>by
   rw[K8 hc (by omega) (by omega)]
   unfold nj
   rw[if_neg (by omega),if_neg (by omega),Int.mul_zero]),Int.add_zero]
  refine kO fun u hu=>?_
  rw[K8 hc (by omega) (by omega),M7 (by omega)]
  unfold nj
  rw[if_pos (by omega)]
 ·refine Ld fun j hj=>?_
  congr 1
  rw[KT]
  rw[vk n (f:=fun u=>bX (s++t) u*stM (n+m) (cR n m ms ms2 k) c.toNat u (n+j)) (fun u hu=>by
   rw[K8 hc (by omega) (by omega)]
   unfold nj
   rw[if_neg (by omega),if_neg (by omega),Int.mul_zero]),Int.zero_add]
  refine kO fun u hu=>?_
  rw[K8 hc (by omega) (by omega),M8 hs]
  unfold nj
  rw[if_neg (by omega),if_pos (by omega),Nat.add_sub_cancel_left,Nat.add_sub_cancel_left]
theorem aaZ {p:Int} {n m k:Nat} {ms ms2:List cT}:∀(w s t:List Int),s.length=n->t.length=m->(∀c∈w,c.toNat<k)->
  cz p (n+m) (cR n m ms ms2 k) (s++t) w=cz p n ms s w++cz p m ms2 t w
 |[],_,_,_,_,_=>rfl
 |c::w,s,t,hs,ht,hw=>by
  unfold cz
  simp only[List.foldl_cons]
  rw[aog hs ht (hw c (by simp))]
  exact aaZ w _ _ Fy Fy fun c hc=>hw c (by simp[hc])
theorem yf (p:Int) (x y:List Int):nF p x y=sm x.length (fun t=>bX x t*bX y t)%p:=by
 unfold nF
 rw[MQ]
 rfl
theorem adT {p:Int} {x y b c:List Int} (h:x.length=b.length):nF p (x++y) (b++c)=(nF p x b+nF p y c)%p:=by
 rw[yf,yf,yf,List.length_append,KT,<-Int.add_emod]
 congr 2
 ·exact kO fun t ht=>by rw[M7 ht,M7 (by omega)]
 ·exact kO fun t ht=>by rw[M8 rfl,M8 h.symm]
theorem Ma {p:Int} {n:Nat} {a b:List Int} {ms:List cT} (H:e8 p n a ms b):iQ (p,(n:Int),a,ms,b)=true:=by
 have hp:=H.p
 have hn:=H.hn
 simp only[iQ,Bool.and_eq_true,decide_eq_true_eq]
 refine⟨H.pr,⟨by omega,by omega⟩,⟨rM.2 H.ap,by rw[H.al]⟩,⟨rM.2 H.bp,by rw[H.bl]⟩,⟨H.l1,H.l4⟩,List.all_eq_true.2 fun x hx=>?_⟩
 obtain⟨M,rfl,hM⟩:=H.hm x hx
 simp only[rH,n5,Bool.and_eq_true,decide_eq_true_eq]
 exact⟨⟨H.pr,⟨by omega,by omega⟩,⟨by omega,by omega⟩,by rw[jY];push_cast;rfl,rM.2 (k9.2 hM)⟩,trivial,trivial⟩
theorem ack {α:Type} (f:α->Nat) (B:Nat):∀(l:List α),(∀x∈l,f x<=B)->(l.map f).sum<=B*l.length
 |[],_=>by simp
 |x::l,h=>by
  rw[List.map_cons,List.sum_cons,List.length_cons,Nat.mul_succ]
  have:=h x (by simp)
  have:=ack f B l fun y hy=>h y (by simp[hy])
  omega
theorem xY {p:Int} {n:Nat} {a b:List Int} {ms:List cT} (H:e8 p n a ms b):vn (p,(n:Int),a,ms,b)<=1000:=by
 have h1:zz ms<=4+144*4:=by
  unfold zz
  have:=ack zy 144 ms fun x hx=>by
   obtain⟨M,rfl,_⟩:=H.hm x hx
   show(ao n n M).length<=144
   rw[jY]
   exact Nat.mul_le_mul H.hn H.hn
  have:=H.l4
  have:144*ms.length<=144*4:=Nat.mul_le_mul_left _ H.l4
  omega
 show a.length+zz ms+b.length<=1000
 have:=H.al
 have:=H.bl
 have:=H.hn
 omega
theorem L7 {p:Int} {n m:Nat} {a b a2 b2:List Int} {ms ms2:List cT} (H:e8 p n a ms b) (H2:e8 p m a2 ms2 b2) (hl:ms.length=ms2.length):po (p,(n:Int),a,ms,b) (p,(m:Int),a2,ms2,b2)=true:=by
 simp only[po,Bool.and_eq_true,decide_eq_true_eq]
 exact⟨Ma H,Ma H2,trivial,hl⟩
theorem CK {p:Int} {n:Nat} {a b:List Int} {ms:List cT} (H:e8 p n a ms b) {w:List Int} (hl:w.length<=24) (hw:jT ms.length w):rV ((p,(n:Int),a,ms,b),w)=some (dw ((p,(n:Int),a,ms,b),w)):=by
 have h:=xY H
 simp only[rV,Lz]
 rw[if_pos ⟨by omega,by omega⟩,if_pos ⟨Ma H,hl,hw⟩]
theorem acL {p:Int} {n:Nat} {a b:List Int} {ms:List cT} (hp:cP p) {w:List Int}:0<=dw ((p,(n:Int),a,ms,b),w)/\dw ((p,(n:Int),a,ms,b),w)<p:=by
 unfold dw
 rw[yf]
 dsimp only
 exact⟨Int.emod_nonneg _ (by have:=hp.1;omega),Int.emod_lt_of_pos _ (by have:=hp.1;omega)⟩
end Go.Am
end
