/- M1, Mx, M4, M31, M6, M7, M8, M9, Fm, M14, M15, M16, M17, M19, M33, M36, M18, M32, M34, M38, M48, M49, M50, M51, M52, M12, M20, M21, M53: parts of the proof. No condition. -/
import Derived.Test.YtifmggmhdcdgbaaMT
set_option linter.unusedVariables false
set_option linter.unusedSimpArgs false
section
namespace Go.Am
def kG:Int×Int×Int->Option Bool:=fun((a,b,c):Int×Int×Int)=>some (decide (b<=a/\a<=c))
def Gu:ao:=[(.one,[.int .i64]),(.one,[.int .i64]),(.one,[.int .i64])]
def Sb:ao:=[(.one,[.bool])]
def akg:aY:=[]
def Lk (NN:Nat):(Int×(Int×Int))->(Option Bool):=
 (fun((i0,i1,i2):(Int×(Int×Int)))=>
 aw (pR i1 i0)
 (some (pR i0 i2))
 (some false))
theorem aeA (x:Int×Int×Int) (y:Bool) (h:kG x=some y):Lk aD x=some y:=by
 obtain⟨a,b,c⟩:=x
 rw[<-h]
 simp only[kG,Lk,pR]
 by_cases hc:b<=a<;>simp[hc,aw]
end Go.Am
end
section
namespace Go.Am
def aq (r c:Nat) (M:Nat->Nat->Int):List Int:=(List.range (r*c)).map fun n=>M (n/c) (n%c)
def c8 (c:Nat) (l:List Int):Nat->Nat->Int:=fun i j=>l.getD (i*c+j) 0
def iZ (M:Nat->Nat->Int) (i j:Nat) (x:Int):Nat->Nat->Int:=fun a b=>if a=i/\b=j then x else M a b
theorem Yr {r c i j:Nat} (hi:i<r) (hj:j<c):i*c+j<r*c:=by
 have:(i+1)*c<=r*c:=Nat.mul_le_mul_right _ hi
 rw[Nat.add_mul] at this
 omega
theorem Yq {c i j:Nat} (hj:j<c):(i*c+j)/c=i:=by
 rw[Nat.mul_comm,Nat.mul_add_div (by omega),Nat.div_eq_of_lt hj,Nat.add_zero]
theorem Ys {c i j:Nat} (hj:j<c):(i*c+j)%c=j:=by
 rw[Nat.mul_comm,Nat.mul_add_mod,Nat.mod_eq_of_lt hj]
theorem kS (r c:Nat) (M:Nat->Nat->Int):(aq r c M).length=r*c:=by simp[aq]
theorem HN {r c i j:Nat} (M:Nat->Nat->Int) (hi:i<r) (hj:j<c):(aq r c M)[i*c+j]? =some (M i j):=by
 unfold aq
 rw[List.getElem?_map,List.getElem?_range (Yr hi hj)]
 simp[Yq hj,Ys hj]
theorem gP {r c:Nat} {M M':Nat->Nat->Int} (h:∀i,i<r->∀j,j<c->M i j=M' i j):aq r c M=aq r c M':=by
 unfold aq
 refine List.map_congr_left fun n hn=>?_
 have hn:=List.mem_range.1 hn
 have hc:0<c:=by
  rcases Nat.eq_zero_or_pos c with h|h
  ·subst h;simp at hn
  ·exact h
 exact h _ ((Nat.div_lt_iff_lt_mul hc).2 hn) _ (Nat.mod_lt _ hc)
theorem aff {r c i j:Nat} (M:Nat->Nat->Int) (hj:j<c) (x:Int):(aq r c M).set (i*c+j) x=aq r c (iZ M i j x):=by
 apply List.ext_getElem?
 intro n
 rw[List.getElem?_set,kS]
 unfold aq
 simp only[List.getElem?_map]
 by_cases hn:n<r*c
 ·rw[List.getElem?_range hn]
  have hc:0<c:=by omega
  by_cases he:i*c+j=n
  ·rw[if_pos he,if_pos (by omega)]
   subst he
   simp[iZ,Yq hj,Ys hj]
  ·rw[if_neg he]
   simp only[Option.map_some,iZ]
   rw[if_neg]
   rintro⟨h1,h2⟩
   apply he
   rw[<-h1,<-h2]
   have:=Nat.div_add_mod n c
   rw[Nat.mul_comm] at this
   exact this
 ·rw[List.getElem?_eq_none (by simp;omega)]
  by_cases he:i*c+j=n
  ·rw[if_pos he,if_neg (by omega)];rfl
  ·rw[if_neg he];rfl
theorem qF {r c:Nat} {l:List Int} (h:l.length=r*c):aq r c (c8 c l)=l:=by
 apply List.ext_getElem?
 intro n
 unfold aq
 simp only[List.getElem?_map]
 by_cases hn:n<r*c
 ·rw[List.getElem?_range hn,List.getElem?_eq_getElem (by omega)]
  simp only[Option.map_some,c8]
  have:=Nat.div_add_mod n c
  rw[Nat.mul_comm] at this
  rw[this,List.getD_eq_getElem?_getD,List.getElem?_eq_getElem (by omega)]
  rfl
 ·rw[List.getElem?_eq_none (by simp;omega),List.getElem?_eq_none (by omega)]
  rfl
theorem mU {r c i j:Nat} (M:Nat->Nat->Int) (hi:i<r) (hj:j<c):c8 c (aq r c M) i j=M i j:=by
 unfold c8
 rw[List.getD_eq_getElem?_getD,HN M hi hj]
 rfl
theorem afe (r c:Nat) (x:Int):iD (r*c) x=aq r c (fun _ _=>x):=by
 unfold aq iD
 rw[List.map_const',List.length_range]
theorem k8 {i c j:Nat} (hi:i<=1048576) (hc:c<=1048576) (hj:j<=1048576):aW .i64 (cK .i64 (i:Int) (c:Int)) (j:Int)=((i*c+j:Nat):Int):=by
 have h1:i*c<=1048576*1048576:=Nat.mul_le_mul hi hc
 have e:(i:Int)*(c:Int)=((i*c:Nat):Int):=by norm_cast
 rw[cK,ze (by omega) (by omega),j3 (by omega) (by omega),e]
 omega
theorem aky {i c:Nat} (hi:i<=1048576) (hc:c<=1048576):cK .i64 (i:Int) (c:Int)=((i*c:Nat):Int):=by
 have h1:i*c<=1048576*1048576:=Nat.mul_le_mul hi hc
 have e:(i:Int)*(c:Int)=((i*c:Nat):Int):=by norm_cast
 rw[cK,ze (by omega) (by omega),e]
theorem zZ {r c i j:Nat} (M:Nat->Nat->Int) (hi:i<r) (hj:j<c):dk (aq r c M) ((i*c+j:Nat):Int)=some (M i j):=by rw[eD,HN M hi hj]
theorem qw {r c i j:Nat} (M:Nat->Nat->Int) (hi:i<r) (hj:j<c):dU ((i*c+j:Nat):Int) (J (aq r c M))=some (i*c+j):=Cx (by unfold J;rw[kS];exact Yr hi hj)
theorem qG {r c i j:Nat} (M:Nat->Nat->Int) (hi:i<r) (hj:j<c):db (aq r c M) (i*c+j)=some (M i j):=HN M hi hj
theorem yU {r c i j:Nat} (M:Nat->Nat->Int) (hj:j<c) (x:Int):cb (aq r c M) (i*c+j) x=aq r c (iZ M i j x):=aff M hj x
theorem Bd (r c:Nat) (M:Nat->Nat->Int):J (aq r c M)=r*c:=kS r c M
theorem lE (r c:Nat) (M M':Nat->Nat->Int):ab 0 (J (aq r c M)) (J (aq r c M'))=some ():=by rw[Bd,Bd];exact bK _
theorem EC (r c:Nat) (M M':Nat->Nat->Int):nR (J (aq r c M)) (J (aq r c M'))=some ():=by rw[Bd,Bd];exact BH rfl
theorem JY {a p:Int} (ha:0<=a) (hp:0<p):fD a p=some (a%p):=by
 unfold fD
 rw[if_neg (by omega),Int.tmod_eq_emod_of_nonneg ha]
theorem eW {i n:Nat} (h:i<n):bi (i:Int) (n:Int)=true:=f0 (by omega)
theorem fo {i n:Nat} (h:n<=i):bi (i:Int) (n:Int)=false:=eN (by omega)
theorem eA {i:Nat} (h:i<=1048577):aW .i64 (i:Int) 1=((i+1:Nat):Int):=by rw[j3 (by omega) (by omega)];omega
def cV (p:Int):Prop:=2<=p/\p<=1000003
instance (p:Int):Decidable (cV p):=inferInstanceAs (Decidable (2<=p/\p<=1000003))
def fx (p x:Int):Prop:=0<=x/\x<p
instance (p x:Int):Decidable (fx p x):=inferInstanceAs (Decidable (0<=x/\x<p))
theorem rO {p:Int} (hp:cV p) (a:Int):fx p (a%p):=⟨Int.emod_nonneg _ (by have:=hp.1;omega),Int.emod_lt_of_pos _ (by have:=hp.1;omega)⟩
theorem fx.le {p x:Int} (h:fx p x):0<=x/\x<=p:=⟨h.1,Int.le_of_lt h.2⟩
theorem fx.s {p x:Int} (hp:cV p) (h:fx p x):0<=x/\x<=1000003000000:=⟨h.1,by have:=h.2;have:=hp.2;omega⟩
theorem Q8 {p a b:Int} (hp:cV p) (ha:0<=a/\a<=p) (hb:0<=b/\b<=p):0<=a*b/\a*b<=1000006000009:=by
 refine⟨Int.mul_nonneg ha.1 hb.1,?_⟩
 have h1:=hp.2
 have:=Int.mul_le_mul (show a<=1000003 by omega) (show b<=1000003 by omega) hb.1 (by omega)
 omega
theorem ZE {p a b:Int} (hp:cV p) (ha:0<=a/\a<=p) (hb:0<=b/\b<=p):cK .i64 a b=a*b:=by
 have:=Q8 hp ha hb
 exact ze (by omega) (by omega)
theorem Ec {p s a b:Int} (hp:cV p) (hs:0<=s/\s<=1000003000000) (ha:0<=a/\a<=p) (hb:0<=b/\b<=p):fD (aW .i64 s (cK .i64 a b)) p=some ((s+a*b)%p):=by
 have h:=Q8 hp ha hb
 rw[ZE hp ha hb,j3 (by omega) (by omega),JY (by omega) (by have:=hp.1;omega)]
theorem yG {p a b:Int} (hp:cV p) (ha:0<=a/\a<=p) (hb:0<=b/\b<=p):fD (cK .i64 a b) p=some (a*b%p):=by
 have h:=Q8 hp ha hb
 rw[ZE hp ha hb,JY h.1 (by have:=hp.1;omega)]
def kP (p:Int) (f g:Nat->Int):Nat->Int
 |0=>0
 |n+1=>(kP p f g n+f n*g n)%p
theorem Hm {p:Int} (hp:cV p) (f g:Nat->Int):∀n,fx p (kP p f g n)
 |0=>⟨Int.le_refl _,by have:=hp.1;show(0:Int)<p;omega⟩
 |n+1=>rO hp _
def gm (p:Int) (k:Nat) (A B:Nat->Nat->Int):Nat->Nat->Int:=fun i j=>kP p (fun t=>A i t) (fun t=>B t j) k
def dz (p:Int) (r c:Nat) (M:Nat->Nat->Int):Prop:=∀i,i<r->∀j,j<c->fx p (M i j)
def eB (p:Int) (l:List Int):Prop:=∀x∈l,fx p x
instance (p:Int) (l:List Int):Decidable (eB p l):=inferInstanceAs (Decidable (∀x∈l,fx p x))
theorem ly {p:Int} {r c:Nat} {M:Nat->Nat->Int}:eB p (aq r c M)↔dz p r c M:=by
 constructor
 ·intro h i hi j hj
  exact h _ (List.mem_of_getElem? (HN M hi hj))
 ·intro h x hx
  unfold aq at hx
  obtain⟨n,hn,rfl⟩:=List.mem_map.1 hx
  have hn:=List.mem_range.1 hn
  have hc:0<c:=by
   rcases Nat.eq_zero_or_pos c with h|h
   ·subst h;simp at hn
   ·exact h
  exact h _ ((Nat.div_lt_iff_lt_mul hc).2 hn) _ (Nat.mod_lt _ hc)
def mS (x:Int×Int×List Int):Prop:=(0<=x.1/\x.1<=4096)/\(0<=x.2.1/\x.2.1<=4096)/\(x.2.2.length:Int)=x.1*x.2.1/\x.2.2.length<=1048576
instance (x:Int×Int×List Int):Decidable (mS x):=by unfold mS;infer_instance
theorem sQ {x:Int×Int×List Int} (h:mS x):∃(r c:Nat) (M:Nat->Nat->Int),x=((r:Int),(c:Int),aq r c M)/\r<=4096/\c<=4096/\r*c<=1048576:=by
 obtain⟨r,c,l⟩:=x
 obtain⟨h1,h2,h3,h4⟩:=h
 simp only at h1 h2 h3 h4
 obtain⟨r,rfl⟩:=iV h1.1
 obtain⟨c,rfl⟩:=iV h2.1
 have e:l.length=r*c:=by
  have:((r:Int)*(c:Int))=((r*c:Nat):Int):=by norm_cast
  rw[this] at h3;exact_mod_cast h3
 exact⟨r,c,c8 c l,by rw[qF e],by omega,by omega,by omega⟩
theorem wu {r c:Nat} (M:Nat->Nat->Int) (hr:r<=4096) (hc:c<=4096) (h:r*c<=1048576):mS ((r:Int),(c:Int),aq r c M):=by
 refine⟨⟨by omega,by show(r:Int)<=4096;omega⟩,⟨by show(0:Int)<=c;omega,by show(c:Int)<=4096;omega⟩,?_,?_⟩
 ·simp only[kS];norm_cast
 ·simp only[kS];exact h
end Go.Am
end
section
namespace Go.Am
def pi (n:Int) (i:Nat):Bool:=decide ((i:Int)*i<=n)&&decide (n%(i:Int)=0)
def fm (n:Int):Bool:=decide (2<=n/\n<=1000003)&& !((List.range' 2 999).any (pi n))
def uY:Int->Option Bool:=fun(n:Int)=>some (fm n)
def uR:Int->Option Bool:=fun(n:Int)=>some (fm n)
def vY (m:Int) (v:Int):Bool:=decide (0<=v/\v<m)
def ic (m:Int) (l:List Int):Bool:=l.all (vY m)
def rz:Int×List Int->Option Bool:=fun((m,l):Int×List Int)=>if l.length<=1048576 then some (ic m l) else none
def u4:Int×List Int×Int->Option Bool:=fun((m,l,n):Int×List Int×Int)=>if(1<=m/\m<=1000003)/\l.length<=1048576 then some (ic m l&&decide ((l.length:Int)=n)) else none
def nJ (m:Int) (x:Int×Int×List Int):Bool:=fm m&&(decide (0<=x.1/\x.1<=64)&&(decide (0<=x.2.1/\x.2.1<=64)&&(decide ((x.2.2.length:Int)=x.1*x.2.1)&&ic m x.2.2)))
def xc:Int×Int×Int×List Int->Option Bool:=fun((m,x):Int×Int×Int×List Int)=>if jt x<=1048576 then some (nJ m x) else none
def w7:Int×Int×Int×List Int->Option Bool:=fun((m,x):Int×Int×Int×List Int)=>if jt x<=1048576 then some (nJ m x) else none
def re (m n:Int) (x:Int×Int×List Int):Bool:=nJ m x&&(decide (x.1=n)&&decide (x.2.1=n))
def j4 (x:Int×Int×List Int×List (Int×Int×List Int)×List Int):Bool:=match x with
 |(m,n,a,ms,b)=>fm m&&(decide (0<=n/\n<=12)&&((ic m a&&decide ((a.length:Int)=n))&&((ic m b&&decide ((b.length:Int)=n))&&(decide (1<=ms.length/\ms.length<=4)&&ms.all (re m n)))))
def uW:Int×Int×List Int×List (Int×Int×List Int)×List Int->Option Bool:=fun x=>if ff x<=1048576 then some (j4 x) else none
def uQ:Int×Int×List Int×List (Int×Int×List Int)×List Int->Option Bool:=fun x=>if ff x<=1048576 then some (j4 x) else none
def Gs:ao:=[(.one,[.int .i64])]
def R9:ao:=[(.one,[.bool])]
def ake:aY:=[]
def GJ:ao:=[(.one,[.int .i64]),(.one,[.list [.int .i64]]),(.one,[.int .i64])]
def So:ao:=[(.one,[.bool])]
def akr:aY:=[]
def Gt:ao:=[(.one,[.int .i64]),(.agg,[.int .i64,.int .i64,.list [.int .i64]])]
def Sa:ao:=[(.one,[.bool])]
def akf:aY:=[]
def Gq:ao:=[(.agg,[.int .i64,.int .i64,.list [.int .i64],.list [.int .i64,.int .i64,.list [.int .i64]],.list [.int .i64]])]
def R7:ao:=[(.one,[.bool])]
def akc:aY:=[]
def FM:ao:=[(.one,[.int .i64])]
def Rr:ao:=[(.one,[.bool])]
def ajJ:aY:=[]
def FX:ao:=[(.one,[.int .i64]),(.one,[.list [.int .i64]])]
def RD:ao:=[(.one,[.bool])]
def ajP:aY:=[]
def FN:ao:=[(.one,[.int .i64]),(.agg,[.int .i64,.int .i64,.list [.int .i64]])]
def Rs:ao:=[(.one,[.bool])]
def ajK:aY:=[]
def FK:ao:=[(.agg,[.int .i64,.int .i64,.list [.int .i64],.list [.int .i64,.int .i64,.list [.int .i64]],.list [.int .i64]])]
def Rp:ao:=[(.one,[.bool])]
def ajH:aY:=[]
def Li (NN:Nat):Int->(Option Bool):=
 (fun(i0:Int)=>
 bL (bd NN (fun((i1,i2):(Int×Int))=>
 aw (pR (cK .i64 i2 i2) i1)
 (aw (pR i1 (1000003:Int))
 ((fD i1 i2).U (fun i3=>
 aw (fS i3 (0:Int))
 (some (Sum.inr (Sum.inr false)))
 (some (Sum.inl (i1,aW .i64 i2 1)))))
 (some (Sum.inr (Sum.inl i1))))
 (some (Sum.inr (Sum.inl i1))))
 (i0,(2:Int)))
 (fun i4=>
 (kG (i4,(2:Int),(1000003:Int))).U (fun b5=>
 some b5)))
def Lp (NN:Nat):(Int×((List Int)×Int))->(Option Bool):=
 (fun((i0,l1,i2):(Int×((List Int)×Int)))=>
 bL (bd NN (fun((i3,l4,i5,l6,i7,i8):(Int×((List Int)×(Int×((List Int)×(Int×Int))))))=>
 aw (bi i8 i7)
 ((dk l6 i8).U (fun i9=>
 (kG (i9,(0:Int),jR .i64 i3 1)).U (fun j5=>
 aw (dY j5)
 (some (Sum.inr (Sum.inr false)))
 (some (Sum.inl (i3,l4,i5,l6,i7,aW .i64 i8 1))))))
 (some (Sum.inr (Sum.inl (l4,i5)))))
 (i0,l1,i2,l1,aM (J l1),(0:Int)))
 (fun(gC,cU)=>
 some (fS (aM (J gC)) cU)))
def Lj (NN:Nat):(Int×(Int×(Int×(List Int))))->(Option Bool):=
 (fun((i0,i1,i2,l3):(Int×(Int×(Int×(List Int)))))=>
 (uY i0).U (fun b4=>
 aw (dY b4)
 (some false)
 ((kG (i1,(0:Int),(64:Int))).U (fun b5=>
 aw (dY b5)
 (some false)
 ((kG (i2,(0:Int),(64:Int))).U (fun b6=>
 aw (dY b6)
 (some false)
 (aw (dd (aM (J l3)) (cK .i64 i1 i2))
 (some false)
 (bL (bd NN (fun((i7,l8,i9,cf):(Int×((List Int)×(Int×Int))))=>
 aw (bi cf i9)
 ((dk l8 cf).U (fun cF=>
 (kG (cF,(0:Int),jR .i64 i7 1)).U (fun LA=>
 aw (dY LA)
 (some (Sum.inr (Sum.inr false)))
 (some (Sum.inl (i7,l8,i9,aW .i64 cf 1))))))
 (some (Sum.inr (Sum.inl ()))))
 (i0,l3,aM (J l3),(0:Int)))
 (fun _=>
 some true)))))))))
def Lh (NN:Nat):(Int×(Int×((List Int)×((List (Int×(Int×(List Int))))×(List Int)))))->(Option Bool):=
 (fun((i0,i1,l2,l3,l4):(Int×(Int×((List Int)×((List (Int×(Int×(List Int))))×(List Int))))))=>
 (uY i0).U (fun b5=>
 aw (dY b5)
 (some false)
 ((kG (i1,(0:Int),(12:Int))).U (fun b6=>
 aw (dY b6)
 (some false)
 ((u4 (i0,l2,i1)).U (fun b7=>
 aw (dY b7)
 (some false)
 ((u4 (i0,l4,i1)).U (fun b8=>
 aw (dY b8)
 (some false)
 ((kG (aM (J l3),(1:Int),(4:Int))).U (fun b9=>
 aw (dY b9)
 (some false)
 (bL (bd NN (fun(((e9,cF,cU),dB,c7,cg,dL,ci):(((List (Int×(Int×(List Int))))×(Int×Int))×(Int×(Int×((List Int)×((List (Int×(Int×(List Int))))×(List Int)))))))=>
 aw (bi cU cF)
 ((dk e9 cU).U (fun(fj,eU,fy)=>
 (xc (dB,fj,eU,fy)).U (fun b21=>
 aw (dY b21)
 (some (Sum.inr (Sum.inr false)))
 (aw (dd fj c7)
 (some (Sum.inr (Sum.inr false)))
 (aw (dd eU c7)
 (some (Sum.inr (Sum.inr false)))
 (some (Sum.inl ((e9,cF,aW .i64 cU 1),dB,c7,cg,dL,ci))))))))
 (some (Sum.inr (Sum.inl ()))))
 ((l3,aM (J l3),(0:Int)),i0,i1,l2,l3,l4))
 (fun _=>
 some true))))))))))))
def KS (NN:Nat):Int->(Option Bool):=
 (fun(i0:Int)=>
 aw (bi i0 (2:Int))
 (some false)
 (aw (bi (1000003:Int) i0)
 (some false)
 (bL (bd NN (fun((i1,i2):(Int×Int))=>
 aw (pR (cK .i64 i2 i2) i1)
 ((fD i1 i2).U (fun i3=>
 aw (fS i3 (0:Int))
 (some (Sum.inr (Sum.inr false)))
 (some (Sum.inl (i1,aW .i64 i2 1)))))
 (some (Sum.inr (Sum.inl ()))))
 (i0,(2:Int)))
 (fun _=>
 some true))))
def KW (NN:Nat):(Int×(List Int))->(Option Bool):=
 (fun((i0,l1):(Int×(List Int)))=>
 bL (bd NN (fun((i2,l3,i4,i5):(Int×((List Int)×(Int×Int))))=>
 aw (bi i5 i4)
 ((dk l3 i5).U (fun i6=>
 aw (bi i6 (0:Int))
 (some (Sum.inr (Sum.inr false)))
 (aw (pR i2 i6)
 (some (Sum.inr (Sum.inr false)))
 (some (Sum.inl (i2,l3,i4,aW .i64 i5 1))))))
 (some (Sum.inr (Sum.inl ()))))
 (i0,l1,aM (J l1),(0:Int)))
 (fun _=>
 some true))
def KT (NN:Nat):(Int×(Int×(Int×(List Int))))->(Option Bool):=
 (fun((i0,i1,i2,l3):(Int×(Int×(Int×(List Int)))))=>
 (uR i0).U (fun b4=>
 aw (dY b4)
 (some false)
 (aw (bi i1 (0:Int))
 (some false)
 (aw (bi i2 (0:Int))
 (some false)
 (aw (bi (64:Int) i1)
 (some false)
 (aw (bi (64:Int) i2)
 (some false)
 (aw (fS (aM (J l3)) (cK .i64 i1 i2))
 ((rz (i0,l3)).U (fun b5=>
 some b5))
 (some false))))))))
def KR (NN:Nat):(Int×(Int×((List Int)×((List (Int×(Int×(List Int))))×(List Int)))))->(Option Bool):=
 (fun((i0,i1,l2,l3,l4):(Int×(Int×((List Int)×((List (Int×(Int×(List Int))))×(List Int))))))=>
 (uR i0).U (fun b5=>
 aw (dY b5)
 (some false)
 (aw (bi i1 (0:Int))
 (some false)
 (aw (bi (12:Int) i1)
 (some false)
 (aw (dd (aM (J l2)) i1)
 (some false)
 (aw (dd (aM (J l4)) i1)
 (some false)
 ((rz (i0,l2)).U (fun b6=>
 aw (dY b6)
 (some false)
 ((rz (i0,l4)).U (fun b7=>
 aw (dY b7)
 (some false)
 (aw (bi (aM (J l3)) (1:Int))
 (some false)
 (aw (bi (4:Int) (aM (J l3)))
 (some false)
 (bL (bd NN (fun(((l8,i9,cf),cF,cU,hY,fW,cg):(((List (Int×(Int×(List Int))))×(Int×Int))×(Int×(Int×((List Int)×((List (Int×(Int×(List Int))))×(List Int)))))))=>
 aw (bi cf i9)
 ((dk l8 cf).U (fun(eM,jk,gD)=>
 (w7 (cF,eM,jk,gD)).U (fun b19=>
 aw (dY b19)
 (some (Sum.inr (Sum.inr false)))
 (aw (dd eM cU)
 (some (Sum.inr (Sum.inr false)))
 (aw (dd jk cU)
 (some (Sum.inr (Sum.inr false)))
 (some (Sum.inl ((l8,i9,aW .i64 cf 1),cF,cU,hY,fW,cg))))))))
 (some (Sum.inr (Sum.inl ()))))
 ((l3,aM (J l3),(0:Int)),i0,i1,l2,l3,l4))
 (fun _=>
 some true))))))))))))))
theorem ul {a b:Int} (h1: -9223372036854775808<=a*b) (h2:a*b<=9223372036854775807):cK .i64 a b=a*b:=ze h1 h2
theorem Ey {n:Int} {i:Nat} (hn:0<=n) (hi:0<i):fD n (i:Int)=some (n%(i:Int)):=by
 unfold fD
 rw[if_neg (by omega),Int.tmod_eq_emod_of_nonneg hn]
theorem TY {i j:Nat} (h:i<=j):(i:Int)*i<=(j:Int)*j:=by
 have:=Nat.mul_le_mul h h
 exact_mod_cast this
theorem VX {X Y:Type} {f:X->Option (X⊕(Y⊕Bool))} (n:Int) (mk:Nat->X) (r:Y) (hn:n<=1000003)
  (h1:∀i:Nat,2<=i->i<=1001->(i:Int)*i<=n->n%(i:Int)=0->f (mk i)=some (.inr (.inr false)))
  (h2:∀i:Nat,2<=i->i<=1001->(i:Int)*i<=n->n%(i:Int)≠0->f (mk i)=some (.inl (mk (i+1))))
  (h3:∀i:Nat,2<=i->i<=1001->¬(i:Int)*i<=n->f (mk i)=some (.inr (.inl r))) {x0:X} (hx:x0=mk 2):
  bd aD f x0=some (if(List.range' 2 999).any (pi n)=true then .inr false else .inl r):=by
 subst hx
 have cq:∀(d i:Nat),2<=i->i+d=1001->∀N,d<N->bd N f (mk i)=some (if(List.range' i d).any (pi n)=true then .inr false else .inl r):=by
  intro d
  induction d with
  |zero=>
   intro i hi hd N hN
   obtain⟨N,rfl⟩:∃M,N=M+1:=⟨N - 1,by omega⟩
   have:i=1001:=by omega
   subst this
   rw[bd,h3 1001 (by omega) (by omega) (by omega)]
   rfl
  |succ d ih=>
   intro i hi hd N hN
   obtain⟨N,rfl⟩:∃M,N=M+1:=⟨N - 1,by omega⟩
   rw[List.range'_succ,List.any_cons]
   by_cases fI:(i:Int)*i<=n
   ·by_cases hm:n%(i:Int)=0
    ·rw[bd,h1 i hi (by omega) fI hm]
     simp[pi,fI,hm]
    ·rw[bd,h2 i hi (by omega) fI hm]
     simp only
     rw[ih (i+1) (by omega) (by omega) N (by omega),show pi n i=false by simp[pi,hm],Bool.false_or]
   ·rw[bd,h3 i hi (by omega) fI]
    have:(List.range' (i+1) d).any (pi n)=false:=by
     rw[List.any_eq_false]
     intro j hj
     have:=(List.mem_range'_1.1 hj).1
     have:=TY (show i<=j by omega)
     simp only[pi,Bool.and_eq_true,decide_eq_true_eq,not_and]
     intro h;omega
    simp only
    rw[this]
    simp[pi,fI]
 exact cq 999 2 (by omega) (by omega) aD (cG (by omega))
theorem BV {i:Nat} (h:i<=1001):0<=(i:Int)*i/\(i:Int)*i<=1002001:=by
 have h1:=TY h
 have h0:=TY (Nat.zero_le i)
 omega
theorem aey (x:Int) (y:Bool) (h:uY x=some y):Li aD x=some y:=by
 rw[<-h]
 simp only[uY,Li]
 by_cases hx:x<=1000003
 ·rw[VX x (fun i=>(x,(i:Int))) x hx ?_ ?_ ?_ ?_]
  ·by_cases hd:(List.range' 2 999).any (pi x)=true
   ·rw[if_pos hd,DS,fm,hd]
    simp
   ·rw[if_neg hd,cO,fm]
    simp only[kG,aj]
    simp[hd]
  all_goals try simp only
  ·intro i h2 hi fI hm
   have hs:=BV hi
   rw[ul (by omega) (by omega),aT (uk fI),aT (uk hx),Ey (by omega) (by omega),aj,aT (xG hm)]
  ·intro i h2 hi fI hm
   have hs:=BV hi
   rw[ul (by omega) (by omega),aT (uk fI),aT (uk hx),Ey (by omega) (by omega),aj,aS (xF hm),j3 (by omega) (by omega)]
   rfl
  ·intro i h2 hi fI
   have hs:=BV hi
   rw[ul (by omega) (by omega),aS (D9 (by omega))]
  ·rfl
 ·rw[ew (fun i=>(x,(i:Int)+2)) (r:=Sum.inl x) 0 (fun j hj=>by omega) ?_ ?_ (cG (by omega))]
  ·rw[cO,fm]
   simp only[kG,aj]
   have:¬(2<=x/\x<=1000003):=by omega
   simp[this]
  ·simp only
   rw[aT (uk (by rw[ul (by omega) (by omega)];omega)),aS (D9 (by omega))]
  ·rfl
theorem adX (x:Int) (y:Bool) (h:uR x=some y):KS aD x=some y:=by
 rw[<-h]
 simp only[uR,KS]
 by_cases h2:x<2
 ·rw[aT (f0 h2),fm,decide_eq_false (by omega)];rfl
 rw[aS (eN (by omega))]
 by_cases hx:1000003<x
 ·rw[aT (f0 hx),fm,decide_eq_false (by omega)];rfl
 rw[aS (eN (by omega))]
 rw[VX x (fun i=>(x,(i:Int))) () (by omega) ?_ ?_ ?_ ?_]
 ·have hr:(2<=x/\x<=1000003):=by omega
  by_cases hd:(List.range' 2 999).any (pi x)=true
  ·rw[if_pos hd,DS,fm,hd]
   simp
  ·rw[if_neg hd,cO,fm]
   simp[hd,hr]
 all_goals try simp only
 ·intro i h2 hi fI hm
  have hs:=BV hi
  rw[ul (by omega) (by omega),aT (uk fI),Ey (by omega) (by omega),aj,aT (xG hm)]
 ·intro i h2 hi fI hm
  have hs:=BV hi
  rw[ul (by omega) (by omega),aT (uk fI),Ey (by omega) (by omega),aj,aS (xF hm),j3 (by omega) (by omega)]
  rfl
 ·intro i h2 hi fI
  have hs:=BV hi
  rw[ul (by omega) (by omega),aS (D9 (by omega))]
 ·rfl
theorem ad6 (x:Int×List Int) (y:Bool) (h:rz x=some y):KW aD x=some y:=by
 obtain⟨m,l⟩:=x
 simp only[rz] at h
 split at h
 ·rename_i hl
  rw[<-h]
  simp only[KW]
  rw[Bf (mk:=fun i=>(m,l,aM (J l),(i:Int))) l (vY m) (Sum.inr false) (Sum.inl ()) ?_ ?_ ?_ ?_ (cG (by omega))]
  ·unfold ic
   cases l.all (vY m)<;>rfl
  all_goals try simp only
  ·intro i a ha hp
   have hp:=of_decide_eq_true hp
   rw[aT (gk ha),eD,ha,aj,aS (eN (by omega)),aS (D9 (by omega)),lk ha (by omega)]
  ·intro i a ha hp
   have hp:=of_decide_eq_false hp
   rw[aT (gk ha),eD,ha,aj]
   by_cases h0:a<0
   ·rw[aT (f0 h0)]
   ·rw[aS (eN (by omega)),aT (uk (by omega))]
  ·rw[aS (mR l)]
  ·rfl
 ·cases h
theorem aeM (x:Int×List Int×Int) (y:Bool) (h:u4 x=some y):Lp aD x=some y:=by
 obtain⟨m,l,n⟩:=x
 simp only[u4] at h
 split at h
 ·rename_i hl
  obtain⟨hm,hl⟩:=hl
  rw[<-h]
  simp only[Lp]
  rw[Bf (mk:=fun i=>(m,l,n,l,aM (J l),(i:Int))) l (vY m) (Sum.inr false) (Sum.inl (l,n)) ?_ ?_ ?_ ?_ (cG (by omega))]
  ·unfold ic
   cases l.all (vY m)
   ·rfl
   ·rw[if_pos rfl,cO]
    simp only[Bool.true_and]
    rfl
  all_goals try simp only
  ·intro i a ha hp
   have hp:=of_decide_eq_true hp
   rw[aT (gk ha),eD,ha,aj,oY (by omega) (by omega)]
   simp only[kG,aj]
   rw[aS (Bn (by omega)),lk ha (by omega)]
  ·intro i a ha hp
   have hp:=of_decide_eq_false hp
   rw[aT (gk ha),eD,ha,aj,oY (by omega) (by omega)]
   simp only[kG,aj]
   rw[aT (Bm (by omega))]
  ·rw[aS (mR l)]
  ·rfl
 ·cases h
theorem sk {m:Int} (h:fm m=true):2<=m/\m<=1000003:=by
 simp only[fm,Bool.and_eq_true,decide_eq_true_eq] at h
 exact h.1
theorem adY (x:Int×Int×Int×List Int) (y:Bool) (h:w7 x=some y):KT aD x=some y:=by
 obtain⟨m,r,c,l⟩:=x
 simp only[w7] at h
 split at h
 ·rename_i hl
  rw[<-h]
  have hl:l.length<=1048576:=hl
  simp only[KT,uR,aj,nJ]
  cases hp:fm m with
  |false=>rfl
  |true=>
   rw[aS (by rfl),Bool.true_and]
   by_cases h1:r<0
   ·rw[aT (f0 h1),decide_eq_false (by omega)];rfl
   rw[aS (eN (by omega))]
   by_cases h2:c<0
   ·rw[aT (f0 h2),decide_eq_false (p:=0<=c/\c<=64) (by omega)];simp
   rw[aS (eN (by omega))]
   by_cases h3:64<r
   ·rw[aT (f0 h3),decide_eq_false (by omega)];rfl
   rw[aS (eN (by omega))]
   by_cases h4:64<c
   ·rw[aT (f0 h4),decide_eq_false (p:=0<=c/\c<=64) (by omega)];simp
   rw[aS (eN (by omega)),decide_eq_true (p:=0<=r/\r<=64) (by omega),decide_eq_true (p:=0<=c/\c<=64) (by omega),Bool.true_and,Bool.true_and]
   obtain⟨r,rfl⟩:=iV (z:=r) (by omega)
   obtain⟨c,rfl⟩:=iV (z:=c) (by omega)
   have di:r*c<=64*64:=Nat.mul_le_mul (by omega) (by omega)
   have af0:(r:Int)*(c:Int)=((r*c:Nat):Int):=by norm_cast
   rw[ul (by omega) (by omega),show rz (m,l)=some (ic m l) from if_pos hl]
   by_cases h5:(l.length:Int)=(r:Int)*c
   ·rw[aT (show fS (aM (J l)) _=true from xG h5),decide_eq_true h5];rfl
   ·rw[aS (show fS (aM (J l)) _=false from xF h5),decide_eq_false h5];rfl
 ·cases h
theorem aez (x:Int×Int×Int×List Int) (y:Bool) (h:xc x=some y):Lj aD x=some y:=by
 obtain⟨m,r,c,l⟩:=x
 simp only[xc] at h
 split at h
 ·rename_i hl
  rw[<-h]
  have hl:l.length<=1048576:=hl
  simp only[Lj,uY,kG,aj,nJ]
  cases hp:fm m with
  |false=>rfl
  |true=>
   obtain⟨ir,gY⟩:=sk hp
   rw[aS (by rfl),Bool.true_and]
   by_cases h1:0<=r/\r<=64
   rotate_left
   ·rw[aT (Bm h1),decide_eq_false h1];rfl
   rw[aS (Bn h1),decide_eq_true h1,Bool.true_and]
   by_cases h2:0<=c/\c<=64
   rotate_left
   ·rw[aT (Bm h2),decide_eq_false h2];rfl
   rw[aS (Bn h2),decide_eq_true h2,Bool.true_and]
   obtain⟨r,rfl⟩:=iV (z:=r) (by omega)
   obtain⟨c,rfl⟩:=iV (z:=c) (by omega)
   have di:r*c<=64*64:=Nat.mul_le_mul (by omega) (by omega)
   have af0:(r:Int)*(c:Int)=((r*c:Nat):Int):=by norm_cast
   rw[ul (by omega) (by omega)]
   by_cases h5:(l.length:Int)=(r:Int)*c
   rotate_left
   ·rw[aT (show dd (aM (J l)) _=true from nL h5),decide_eq_false h5];rfl
   rw[aS (show dd (aM (J l)) _=false from lf h5),decide_eq_true h5,Bool.true_and]
   rw[Bf (mk:=fun i=>(m,l,aM (J l),(i:Int))) l (vY m) (Sum.inr false) (Sum.inl ()) ?_ ?_ ?_ ?_ (cG (by omega))]
   ·unfold ic
    cases l.all (vY m)<;>rfl
   all_goals try simp only
   ·intro i a ha hp
    have hp:=of_decide_eq_true hp
    rw[aT (gk ha),eD,ha,aj,oY (by omega) (by omega),aS (Bn (by omega)),lk ha (by omega)]
   ·intro i a ha hp
    have hp:=of_decide_eq_false hp
    rw[aT (gk ha),eD,ha,aj,oY (by omega) (by omega),aT (Bm (by omega))]
   ·rw[aS (mR l)]
   ·rfl
 ·cases h
theorem abH {m n:Int} {a:List Int} {ms:List (Int×Int×List Int)} {b:List Int} (h:ff (m,n,a,ms,b)<=1048576):a.length<=1048576/\b.length<=1048576/\ms.length<=1048576/\∀e∈ms,jt e<=1048576:=by
 have h1:a.length+ie ms+b.length<=1048576:=h
 have h2:=Um (l:=ms) (by omega)
 exact⟨by omega,by omega,h2.1,h2.2⟩
theorem aew (x:Int×Int×List Int×List (Int×Int×List Int)×List Int) (y:Bool) (h:uW x=some y):Lh aD x=some y:=by
 obtain⟨m,n,a,ms,b⟩:=x
 simp only[uW] at h
 split at h
 ·rename_i hl
  rw[<-h]
  obtain⟨ha,hb,NZ,cA⟩:=abH hl
  simp only[Lh,uY,kG,aj,j4]
  cases hp:fm m with
  |false=>rfl
  |true=>
   have hm:=sk hp
   rw[aS (by rfl),Bool.true_and]
   by_cases h1:0<=n/\n<=12
   rotate_left
   ·rw[aT (Bm h1),decide_eq_false h1];rfl
   rw[aS (Bn h1),decide_eq_true h1,Bool.true_and]
   rw[show u4 (m,a,n)=some (ic m a&&decide ((a.length:Int)=n)) from if_pos ⟨by omega,ha⟩,aj]
   rw[show u4 (m,b,n)=some (ic m b&&decide ((b.length:Int)=n)) from if_pos ⟨by omega,hb⟩,aj]
   cases (ic m a&&decide ((a.length:Int)=n)) with
   |false=>rfl
   |true=>
   rw[aS (by rfl),Bool.true_and]
   cases (ic m b&&decide ((b.length:Int)=n)) with
   |false=>rfl
   |true=>
   rw[aS (by rfl),Bool.true_and]
   by_cases h2:1<=ms.length/\ms.length<=4
   rotate_left
   ·rw[aT (Bm (by have:=nl ms;omega)),decide_eq_false h2];rfl
   rw[aS (Bn (by have:=nl ms;omega)),decide_eq_true h2,Bool.true_and]
   rw[Bf (mk:=fun i=>((ms,aM (J ms),(i:Int)),m,n,a,ms,b)) ms (re m n) (Sum.inr false) (Sum.inl ()) ?_ ?_ ?_ ?_ (cG (by omega))]
   ·cases ms.all (re m n)<;>rfl
   all_goals try simp only
   ·rintro i ⟨r,c,l⟩ hi hp
    simp only[re,Bool.and_eq_true,decide_eq_true_eq] at hp
    obtain⟨p1,p2,p3⟩:=hp
    rw[aT (gk hi),eD,hi,aj]
    simp only
    rw[show xc (m,r,c,l)=some (nJ m (r,c,l)) from if_pos (cA _ (List.mem_of_getElem? hi)),aj,p1,aS (by rfl),aS (lf p2),aS (lf p3),lk hi (by omega)]
   ·rintro i ⟨r,c,l⟩ hi hp
    rw[aT (gk hi),eD,hi,aj]
    simp only
    rw[show xc (m,r,c,l)=some (nJ m (r,c,l)) from if_pos (cA _ (List.mem_of_getElem? hi)),aj]
    cases p1:nJ m (r,c,l) with
    |false=>rw[aT (by rfl)]
    |true=>
     rw[aS (by rfl)]
     by_cases p2:r=n
     ·rw[aS (lf p2)]
      by_cases p3:c=n
      ·simp[re,p1,p2,p3] at hp
       rw[p2,p3] at p1
       rw[p1] at hp
       cases hp
      ·rw[aT (nL p3)]
     ·rw[aT (nL p2)]
   ·rw[aS (mR ms)]
   ·rfl
 ·cases h
theorem adV (x:Int×Int×List Int×List (Int×Int×List Int)×List Int) (y:Bool) (h:uQ x=some y):KR aD x=some y:=by
 obtain⟨m,n,a,ms,b⟩:=x
 simp only[uQ] at h
 split at h
 ·rename_i hl
  rw[<-h]
  obtain⟨ha,hb,NZ,cA⟩:=abH hl
  simp only[KR,uR,aj,j4]
  cases hp:fm m with
  |false=>rfl
  |true=>
   have hm:=sk hp
   rw[aS (by rfl),Bool.true_and]
   by_cases h0:n<0
   ·rw[aT (f0 h0),decide_eq_false (by omega)];rfl
   rw[aS (eN (by omega))]
   by_cases h1:12<n
   ·rw[aT (f0 h1),decide_eq_false (by omega)];rfl
   rw[aS (eN (by omega)),decide_eq_true (p:=0<=n/\n<=12) (by omega),Bool.true_and]
   by_cases e1:(a.length:Int)=n
   rotate_left
   ·rw[aT (show dd (aM (J a)) _=true from nL e1),decide_eq_false e1,Bool.and_false,Bool.false_and]
   rw[aS (show dd (aM (J a)) _=false from lf e1),decide_eq_true e1,Bool.and_true]
   by_cases e2:(b.length:Int)=n
   rotate_left
   ·rw[aT (show dd (aM (J b)) _=true from nL e2),decide_eq_false e2,Bool.and_false,Bool.false_and,Bool.and_false]
   rw[aS (show dd (aM (J b)) _=false from lf e2),decide_eq_true e2,Bool.and_true]
   rw[show rz (m,a)=some (ic m a) from if_pos ha,aj]
   rw[show rz (m,b)=some (ic m b) from if_pos hb,aj]
   cases ic m a with
   |false=>rfl
   |true=>
   rw[aS (by rfl),Bool.true_and]
   cases ic m b with
   |false=>rfl
   |true=>
   rw[aS (by rfl),Bool.true_and]
   by_cases h2:ms.length<1
   ·rw[aT (f0 (by have:=nl ms;omega)),decide_eq_false (by omega)];rfl
   rw[aS (eN (by have:=nl ms;omega))]
   by_cases h3:4<ms.length
   ·rw[aT (f0 (by have:=nl ms;omega)),decide_eq_false (by omega)];rfl
   rw[aS (eN (by have:=nl ms;omega)),decide_eq_true (by omega),Bool.true_and]
   rw[Bf (mk:=fun i=>((ms,aM (J ms),(i:Int)),m,n,a,ms,b)) ms (re m n) (Sum.inr false) (Sum.inl ()) ?_ ?_ ?_ ?_ (cG (by omega))]
   ·cases ms.all (re m n)<;>rfl
   all_goals try simp only
   ·rintro i ⟨r,c,l⟩ hi hp
    simp only[re,Bool.and_eq_true,decide_eq_true_eq] at hp
    obtain⟨p1,p2,p3⟩:=hp
    rw[aT (gk hi),eD,hi,aj]
    simp only
    rw[show w7 (m,r,c,l)=some (nJ m (r,c,l)) from if_pos (cA _ (List.mem_of_getElem? hi)),aj,p1,aS (by rfl),aS (lf p2),aS (lf p3),lk hi (by omega)]
   ·rintro i ⟨r,c,l⟩ hi hp
    rw[aT (gk hi),eD,hi,aj]
    simp only
    rw[show w7 (m,r,c,l)=some (nJ m (r,c,l)) from if_pos (cA _ (List.mem_of_getElem? hi)),aj]
    cases p1:nJ m (r,c,l) with
    |false=>rw[aT (by rfl)]
    |true=>
     rw[aS (by rfl)]
     by_cases p2:r=n
     ·rw[aS (lf p2)]
      by_cases p3:c=n
      ·simp[re,p1,p2,p3] at hp
       rw[p2,p3] at p1
       rw[p1] at hp
       cases hp
      ·rw[aT (nL p3)]
     ·rw[aT (nL p2)]
   ·rw[aS (mR ms)]
   ·rfl
 ·cases h
end Go.Am
end
section
namespace Go.Am
def BF:Int×Int×Int->Bool:=fun((k,p,n):Int×Int×Int)=>
 if k=1 then decide (p=0/\n=0) else if k=2 then fm p&&decide (n=0) else if k=3\/k=4\/k=5 then decide ((1<=p/\p<=1000000)/\n=0)
 else if k=6 then decide (p=0/\1<=n/\n<=20) else if k=7 then fm p&&decide (1<=n/\n<=6) else if k=8 then fm p&&decide (p≠2/\n=0) else false
def rv:Int×Int×Int->Int:=fun((k,p,n):Int×Int×Int)=>if k=7 then n else if k=8 then 4 else 1
def ig (r:Int×Int×Int):Nat:=(rv r).toNat
def mb:Int×Int×Int->Int:=fun((k,p,n):Int×Int×Int)=>if k=1 then 1 else if k=3\/k=4\/k=5 then p else if k=6 then 2^n.toNat - 1 else p - 1
def Yt (t v:Int):Bool:=decide (0<=v/\v<=t)
def zR (r:Int×Int×Int) (x:List Int):Bool:=decide (x.length=ig r)&&x.all (Yt (mb r))
def Bo:Int×Int×Int->List Int:=fun((k,p,n):Int×Int×Int)=>cb (iD (ig (k,p,n)) 0) 0 (if k=4 then 0 else if k=5\/k=6 then mb (k,p,n) else 1)
def sm:Nat->(Nat->Int)->Int
 |0,_=>0
 |n+1,f=>sm n f+f n
def kW (om:Bool) (x y:Nat->Int) (t i j:Nat):Int:=if i+j=t then x i*y j else if om=true/\i+j=t+4 then -(x i*y j) else 0
def nT (w:Nat) (f:Nat->Int):List Int:=(List.range w).map f
def jz (x:List Int):Nat->Int:=fun i=>x.getD i 0
def Ma (p:Int) (om:Bool) (w:Nat) (x y:Nat->Int):List Int:=nT w fun t=>sm w (fun i=>sm w (fun j=>kW om x y t i j))%p
def Q0:Int×Int×Int->Int->Int->Int:=fun((k,p,n):Int×Int×Int) a b=>
 if k=1\/k=6 then((a.toNat&&&b.toNat:Nat):Int) else if k=2 then a*b%p else if k=3 then min (a*b) p else if k=4 then min (a+b) p else min a b
def JK (r:Int×Int×Int) (x y:List Int):List Int:=if r.1=7\/r.1=8 then Ma r.2.1 (decide (r.1=8)) (ig r) (jz x) (jz y) else[Q0 r (jz x 0) (jz y 0)]
theorem Rl {k p n:Int} (h:BF (k,p,n)=true):(k=1/\p=0/\n=0)\/(k=2/\fm p=true/\n=0)\/(k=3/\(1<=p/\p<=1000000)/\n=0)\/(k=4/\(1<=p/\p<=1000000)/\n=0)\/(k=5/\(1<=p/\p<=1000000)/\n=0)\/
  (k=6/\p=0/\1<=n/\n<=20)\/(k=7/\fm p=true/\1<=n/\n<=6)\/(k=8/\fm p=true/\p≠2/\n=0):=by
 simp only[BF] at h
 by_cases h1:k=1
 ·rw[if_pos h1] at h;exact .inl ⟨h1,by simpa using h⟩
 rw[if_neg h1] at h
 by_cases h2:k=2
 ·rw[if_pos h2] at h;simp at h;exact .inr (.inl ⟨h2,h⟩)
 rw[if_neg h2] at h
 by_cases h3:k=3\/k=4\/k=5
 ·rw[if_pos h3] at h
  simp only[decide_eq_true_eq] at h
  rcases h3 with h3|h3|h3
  ·exact .inr (.inr (.inl ⟨h3,h⟩))
  ·exact .inr (.inr (.inr (.inl ⟨h3,h⟩)))
  ·exact .inr (.inr (.inr (.inr (.inl ⟨h3,h⟩))))
 rw[if_neg h3] at h
 by_cases h4:k=6
 ·rw[if_pos h4] at h;simp at h;exact .inr (.inr (.inr (.inr (.inr (.inl ⟨h4,h⟩)))))
 rw[if_neg h4] at h
 by_cases h5:k=7
 ·rw[if_pos h5] at h;simp at h;exact .inr (.inr (.inr (.inr (.inr (.inr (.inl ⟨h5,h⟩))))))
 rw[if_neg h5] at h
 by_cases h6:k=8
 ·rw[if_pos h6] at h;simp at h;exact .inr (.inr (.inr (.inr (.inr (.inr (.inr ⟨h6,h⟩))))))
 rw[if_neg h6] at h
 cases h
theorem aot {r:Int×Int×Int} (h:BF r=true):rv r=(ig r:Int)/\1<=ig r/\ig r<=6:=by
 obtain⟨k,p,n⟩:=r
 rcases Rl h with⟨rfl,rfl,rfl⟩|⟨rfl,hp,rfl⟩|⟨rfl,hp,rfl⟩|⟨rfl,hp,rfl⟩|⟨rfl,hp,rfl⟩|⟨rfl,rfl,hn⟩|⟨rfl,hp,hn⟩|⟨rfl,hp,qQ,rfl⟩
 ·simp[ig,rv]
 ·simp[ig,rv]
 ·simp[ig,rv]
 ·simp[ig,rv]
 ·simp[ig,rv]
 ·simp[ig,rv]
 ·simp[ig,rv];omega
 ·simp[ig,rv]
theorem amS {w:Nat} {p:Int} (h:w=1):cb (iD w (0:Int)) 0 p=[p]:=by subst h;rfl
theorem E8 (w:Nat) (f:Nat->Int):(nT w f).length=w:=by simp[nT]
theorem E7 {w j:Nat} (f:Nat->Int) (h:j<w):(nT w f)[j]? =some (f j):=by simp[nT,h]
theorem an4 {w:Nat} {f g:Nat->Int} (h:∀j,j<w->f j=g j):nT w f=nT w g:=List.map_congr_left fun j hj=>h j (List.mem_range.1 hj)
theorem an7 {w:Nat} (f:Nat->Int) (j:Nat) (v:Int):(nT w f).set j v=nT w (fun i=>if i=j then v else f i):=by
 apply List.ext_getElem?
 intro i
 by_cases hi:i<w
 ·rw[E7 _ hi]
  by_cases hj:j=i
  ·subst hj
   rw[List.getElem?_set_self (by rw[E8];exact hi),if_pos rfl]
  ·rw[List.getElem?_set_ne hj,E7 _ hi,if_neg (fun e=>hj e.symm)]
 ·rw[List.getElem?_eq_none (by rw[List.length_set,E8];omega),List.getElem?_eq_none (by rw[E8];omega)]
theorem WL {x:List Int} {j:Nat} (h:j<x.length):x[j]? =some (jz x j):=by
 rw[List.getElem?_eq_getElem h]
 simp[jz,List.getD_eq_getElem?_getD,List.getElem?_eq_getElem h]
theorem aeS {w j:Nat} (f:Nat->Int) (h:j<w):jz (nT w f) j=f j:=by simp[jz,List.getD_eq_getElem?_getD,E7 f h]
theorem an5 {x:List Int} {w:Nat} (h:x.length=w):nT w (jz x)=x:=by
 subst h
 apply List.ext_getElem?
 intro i
 by_cases hi:i<x.length
 ·rw[E7 _ hi,WL hi]
 ·rw[List.getElem?_eq_none (by rw[E8];omega),List.getElem?_eq_none (by omega)]
theorem an6 (w:Nat) (c:Int):iD w c=nT w fun _=>c:=by
 apply List.ext_getElem?
 intro i
 by_cases hi:i<w
 ·rw[E7 _ hi];simp[iD,hi]
 ·rw[List.getElem?_eq_none (by simp[iD];omega),List.getElem?_eq_none (by rw[E8];omega)]
theorem V1 {r:Int×Int×Int} {x:List Int} (h:zR r x=true):x.length=ig r:=by
 simp only[zR,Bool.and_eq_true,decide_eq_true_eq] at h;exact h.1
theorem V0 {r:Int×Int×Int} {x:List Int} (h:zR r x=true) {j:Nat} (hj:j<ig r):0<=jz x j/\jz x j<=mb r:=by
 simp only[zR,Bool.and_eq_true,decide_eq_true_eq] at h
 have:=List.all_eq_true.1 h.2 (jz x j) (List.mem_of_getElem? (WL (by rw[h.1];exact hj)))
 simpa[Yt] using this
theorem adh {r:Int×Int×Int} {x:List Int} (h:zR r x=true) (hw:ig r=1):x=[jz x 0]/\0<=jz x 0/\jz x 0<=mb r:=by
 have hl:=V1 h
 rw[hw] at hl
 match x,hl with
 |[a],_=>exact⟨rfl,V0 h (j:=0) (by omega)⟩
theorem amQ {a p:Int} (ha:0<=a) (hp:0<p):fD a p=some (a%p):=by
 obtain⟨m,rfl⟩:=iV (z:=p) (by omega)
 exact Ey ha (by omega)
theorem EP {f g:Nat->Int}:∀{n:Nat},(∀i,i<n->f i=g i)->sm n f=sm n g
 |0,_=>rfl
 |n+1,h=>by simp only[sm];rw[EP (n:=n) (fun i hi=>h i (by omega)),h n (by omega)]
structure UM (k p:Int) (w:Nat):Prop where
 ck:k=7\/k=8
 cp:2<=p/\p<=1000003
 cw:1<=w/\w<=6
 w8:k=8->w=4
theorem acK {k p n:Int} (h:BF (k,p,n)=true) (hk:k=7\/k=8):UM k p (ig (k,p,n)):=by
 have hw:=aot h
 refine⟨hk,?_,hw.2,fun e=>by subst e;rfl⟩
 rcases Rl h with⟨rfl,rfl,rfl⟩|⟨rfl,hp,rfl⟩|⟨rfl,hp,rfl⟩|⟨rfl,hp,rfl⟩|⟨rfl,hp,rfl⟩|⟨rfl,rfl,hn⟩|⟨rfl,hp,hn⟩|⟨rfl,hp,qQ,rfl⟩
 all_goals first|exact sk hp|(exfalso;omega)
theorem akv {r:Int×Int×Int} {a b:Int} (h:¬(r.1=7\/r.1=8)):JK r [a] [b]=[Q0 r a b]:=by simp only[JK];rw[if_neg h];rfl
theorem alN (k p n:Int):Bo (k,p,n)=nT (ig (k,p,n)) fun j=>if j=0 then(if k=4 then 0 else if k=5\/k=6 then mb (k,p,n) else 1) else 0:=by
 simp only[Bo]
 rw[an6]
 exact an7 _ 0 _
end Go.Am
end
section
namespace Go.Am
def Bj (x:Int×Int):Prop:=(0<=x.1/\x.1<=4096)/\(0<=x.2/\x.2<=4096)/\x.1*x.2<=1048576
instance (x:Int×Int):Decidable (Bj x):=by unfold Bj;infer_instance
def u0:Int×Int->Option (Int×Int×List Int):=fun(x:Int×Int)=>if Bj x then some (x.1,x.2,aq x.1.toNat x.2.toNat fun _ _=>0) else none
def uS:Int×Int->Option (Int×Int×List Int):=fun(x:Int×Int)=>if Bj x then some (x.1,x.2,aq x.1.toNat x.2.toNat fun _ _=>0) else none
def jv:(Int×Int×List Int)×Int×Int->Option Int:=fun(x:(Int×Int×List Int)×Int×Int)=>
 if mS x.1/\(0<=x.2.1/\x.2.1<x.1.1)/\(0<=x.2.2/\x.2.2<x.1.2.1) then some (c8 x.1.2.1.toNat x.1.2.2 x.2.1.toNat x.2.2.toNat) else none
def nW:(Int×Int×List Int)×Int×Int×Int->Option (List Int):=fun(x:(Int×Int×List Int)×Int×Int×Int)=>
 if mS x.1/\(0<=x.2.1/\x.2.1<x.1.1)/\(0<=x.2.2.1/\x.2.2.1<x.1.2.1) then some (aq x.1.1.toNat x.1.2.1.toNat (iZ (c8 x.1.2.1.toNat x.1.2.2) x.2.1.toNat x.2.2.1.toNat x.2.2.2)) else none
def eH (M:Nat->Nat->Int) (a b:Nat):Nat->Nat->Int:=fun i j=>if i=a then M b j else if i=b then M a j else M i j
def rD:(Int×Int×List Int)×Int×Int->Option (List Int):=fun(x:(Int×Int×List Int)×Int×Int)=>
 if mS x.1/\(0<=x.2.1/\x.2.1<x.1.1)/\(0<=x.2.2/\x.2.2<x.1.1) then some (aq x.1.1.toNat x.1.2.1.toNat (eH (c8 x.1.2.1.toNat x.1.2.2) x.2.1.toNat x.2.2.toNat)) else none
def zh:(Int×Int×List Int)×Int×Int->Option (List Int):=rD
def n9 (p:Int) (M:Nat->Nat->Int) (i k:Nat) (f:Int):Nat->Nat->Int:=fun a j=>if a=i then(M i j+f*M k j)%p else M a j
def w9:(Int×Int×List Int)×Int×Int×Int×Int->Option (List Int):=fun(x:(Int×Int×List Int)×Int×Int×Int×Int)=>
 if mS x.1/\cV x.2.1/\(0<=x.2.2.1/\x.2.2.1<x.1.1)/\(0<=x.2.2.2.1/\x.2.2.2.1<x.1.1)/\(0<=x.2.2.2.2/\x.2.2.2.2<=x.2.1)/\eB x.2.1 x.1.2.2 then
  some (aq x.1.1.toNat x.1.2.1.toNat (n9 x.2.1 (c8 x.1.2.1.toNat x.1.2.2) x.2.2.1.toNat x.2.2.2.1.toNat x.2.2.2.2)) else none
def xd:Int×(Int×Int×List Int)×Int×Int×Int->Option (List Int):=fun(x:Int×(Int×Int×List Int)×Int×Int×Int)=>
 if mS x.2.1/\cV x.1/\(0<=x.2.2.1/\x.2.2.1<x.2.1.1)/\(0<=x.2.2.2.1/\x.2.2.2.1<x.2.1.1)/\(0<=x.2.2.2.2/\x.2.2.2.2<=x.1)/\eB x.1 x.2.1.2.2 then
  some (aq x.2.1.1.toNat x.2.1.2.1.toNat (n9 x.1 (c8 x.2.1.2.1.toNat x.2.1.2.2) x.2.2.1.toNat x.2.2.2.1.toNat (x.1 - x.2.2.2.2))) else none
def ib (M:Nat->Nat->Int) (j:Nat):Nat->Nat->Option Nat
 |0,_=>none
 |d+1,k=>if M k j=0 then ib M j d (k+1) else some k
def uq (o:Option Nat):Int:=match o with|some k=>(k:Int)|none=> -1
def xf:(Int×Int×List Int)×Int×Int->Option Int:=fun(x:(Int×Int×List Int)×Int×Int)=>
 if mS x.1/\(0<=x.2.1/\x.2.1<=x.1.1)/\(0<=x.2.2/\x.2.2<x.1.2.1) then some (uq (ib (c8 x.1.2.1.toNat x.1.2.2) x.2.2.toNat (x.1.1 - x.2.1).toNat x.2.1.toNat)) else none
def gS (p out x:Int) (n:Nat):Int:=if h:n=0 then out else gS p (if n%2=1 then out*x%p else out) (x*x%p) (n/2)
termination_by n
decreasing_by omega
def uZ:Int×Int->Option Int:=fun(x:Int×Int)=>if cV x.1/\fx x.1 x.2 then some (gS x.1 1 x.2 (x.1 - 2).toNat) else none
def zj:Int×Int->Option Int:=uZ
def jZ:List Int->Option (List Int):=fun(l:List Int)=>if l.length<=1099511627776 then some l else none
def jY:List Int->Option (List Int):=fun(l:List Int)=>if l.length<=1099511627776 then some l else none
def zi:Int×Int×List Int->Option (Int×Int×List Int):=fun(x:Int×Int×List Int)=>if x.2.2.length<=1099511627776 then some x else none
def Ef (x:Int×(Int×Int×List Int)×(Int×Int×List Int)):Prop:=cV x.1/\mS x.2.1/\mS x.2.2/\x.2.1.2.1=x.2.2.1/\x.2.1.1*x.2.2.2.1<=1048576/\eB x.1 x.2.1.2.2/\eB x.1 x.2.2.2.2
instance (x:Int×(Int×Int×List Int)×(Int×Int×List Int)):Decidable (Ef x):=by unfold Ef;infer_instance
def pb:Int×(Int×Int×List Int)×(Int×Int×List Int)->Option (Int×Int×List Int):=fun(x:Int×(Int×Int×List Int)×(Int×Int×List Int))=>
 if Ef x then some (x.2.1.1,x.2.2.2.1,aq x.2.1.1.toNat x.2.2.2.1.toNat (gm x.1 x.2.1.2.1.toNat (c8 x.2.1.2.1.toNat x.2.1.2.2) (c8 x.2.2.2.1.toNat x.2.2.2.2))) else none
def uT:Int×(Int×Int×List Int)×(Int×Int×List Int)->Option (Int×Int×List Int):=pb
def Gz:ao:=[(.one,[.int .i64]),(.one,[.int .i64])]
def Sg:ao:=[(.agg,[.int .i64,.int .i64,.list [.int .i64]])]
def akk:aY:=[]
def FW:ao:=[(.one,[.int .i64]),(.one,[.int .i64])]
def RB:ao:=[(.agg,[.int .i64,.int .i64,.list [.int .i64]])]
def ajO:aY:=[]
def Gv:ao:=[(.one,[.list [.int .i64]])]
def Sc:ao:=[(.one,[.list [.int .i64]])]
def akh:aY:=[]
def FU:ao:=[(.one,[.list [.int .i64]])]
def Rx:ao:=[(.one,[.list [.int .i64]])]
def ajM:aY:=[]
def FV:ao:=[(.agg,[.int .i64,.int .i64,.list [.int .i64]])]
def Rz:ao:=[(.agg,[.int .i64,.int .i64,.list [.int .i64]])]
def ajN:aY:=[]
def FQ:ao:=[(.agg,[.int .i64,.int .i64,.list [.int .i64]]),(.one,[.int .i64]),(.one,[.int .i64])]
def Ru:ao:=[(.one,[.int .i64])]
def ajL:aY:=[]
def FR:ao:=[(.agg,[.int .i64,.int .i64,.list [.int .i64]]),(.one,[.int .i64]),(.one,[.int .i64]),(.one,[.int .i64])]
def Rv:ao:=[(.one,[.list [.int .i64]])]
def JD:aY:=[[none,none,some .aa]]
def GD:ao:=[(.agg,[.int .i64,.int .i64,.list [.int .i64]]),(.one,[.int .i64]),(.one,[.int .i64])]
def Sj:ao:=[(.one,[.list [.int .i64]])]
def JJ:aY:=[[none,none,some .aa]]
def FT:ao:=[(.agg,[.int .i64,.int .i64,.list [.int .i64]]),(.one,[.int .i64]),(.one,[.int .i64])]
def Rw:ao:=[(.one,[.list [.int .i64]])]
def JE:aY:=[[none,none,some .aa]]
def FO:ao:=[(.agg,[.int .i64,.int .i64,.list [.int .i64]]),(.one,[.int .i64]),(.one,[.int .i64]),(.one,[.int .i64]),(.one,[.int .i64])]
def Rt:ao:=[(.one,[.list [.int .i64]])]
def JC:aY:=[[none,none,some .aa]]
def Gw:ao:=[(.one,[.int .i64]),(.agg,[.int .i64,.int .i64,.list [.int .i64]]),(.one,[.int .i64]),(.one,[.int .i64]),(.one,[.int .i64])]
def Sd:ao:=[(.one,[.list [.int .i64]])]
def JI:aY:=[[],[none,none,some .aa]]
def GA:ao:=[(.agg,[.int .i64,.int .i64,.list [.int .i64]]),(.one,[.int .i64]),(.one,[.int .i64])]
def Sh:ao:=[(.one,[.int .i64])]
def akl:aY:=[]
def Gx:ao:=[(.one,[.int .i64]),(.one,[.int .i64])]
def Se:ao:=[(.one,[.int .i64])]
def aki:aY:=[]
def FZ:ao:=[(.one,[.int .i64]),(.one,[.int .i64])]
def RF:ao:=[(.one,[.int .i64])]
def ajR:aY:=[]
def Gy:ao:=[(.one,[.int .i64]),(.agg,[.int .i64,.int .i64,.list [.int .i64]]),(.agg,[.int .i64,.int .i64,.list [.int .i64]])]
def Sf:ao:=[(.agg,[.int .i64,.int .i64,.list [.int .i64]])]
def akj:aY:=[]
def F0:ao:=[(.one,[.int .i64]),(.agg,[.int .i64,.int .i64,.list [.int .i64]]),(.agg,[.int .i64,.int .i64,.list [.int .i64]])]
def RG:ao:=[(.agg,[.int .i64,.int .i64,.list [.int .i64]])]
def ajS:aY:=[]
def Fy (NN:Nat):(Int×Int)->(Option (Int×(Int×(List Int)))):=
 (fun((i0,i1):(Int×Int))=>
 (wz (cK .i64 i0 i1) (cK .i64 i0 i1) 8).U (fun k2=>
 (cP (iD k2 (0:Int)) k2).U (fun l3=>
 some (i0,i1,l3))))
def UQ (NN:Nat):(Int×Int)->(Option (Int×(Int×(List Int)))):=
 (fun((i0,i1):(Int×Int))=>
 (wz (cK .i64 i0 i1) (cK .i64 i0 i1) 8).U (fun k2=>
 (cP (iD k2 (0:Int)) k2).U (fun l3=>
 some (i0,i1,l3))))
def Ll (NN:Nat):(List Int)->(Option (List Int)):=
 (fun(l0:(List Int))=>
 (ab 0 0 (J (([]:List Int)))).U (fun _=>
 (iL (aH (J (([]:List Int))) (J l0)) 8).U (fun _=>
 (cP (bY (([]:List Int)) l0) (aH (J (([]:List Int))) (J l0))).U (fun l1=>
 some l1))))
def KU (NN:Nat):(List Int)->(Option (List Int)):=
 (fun(l0:(List Int))=>
 (iL (aH (J (([]:List Int))) (J l0)) 8).U (fun _=>
 (cP (bY (([]:List Int)) l0) (aH (J (([]:List Int))) (J l0))).U (fun l1=>
 some l1)))
def KV (NN:Nat):(Int×(Int×(List Int)))->(Option (Int×(Int×(List Int)))):=
 (fun((i0,i1,l2):(Int×(Int×(List Int))))=>
 (jY l2).U (fun l3=>
 (cP l3 (J l3)).U (fun l4=>
 some (i0,i1,l4))))
def Fm (NN:Nat):((Int×(Int×(List Int)))×(Int×Int))->(Option Int):=
 (fun(((i0,i1,l2),i3,i4):((Int×(Int×(List Int)))×(Int×Int)))=>
 (dk l2 (aW .i64 (cK .i64 i3 i1) i4)).U (fun i5=>
 some i5))
def Fo (NN:Nat):((Int×(Int×(List Int)))×(Int×(Int×Int)))->(Option (List Int)):=
 (fun(((i0,i1,l2),i3,i4,i5):((Int×(Int×(List Int)))×(Int×(Int×Int))))=>
 (dU (aW .i64 (cK .i64 i3 i1) i4) (J l2)).U (fun k6=>
 (db l2 (aH 0 k6)).U (fun i7=>
 (nR (J (cb l2 (aH 0 k6) i5)) (J l2)).U (fun _=>
 some (cb l2 (aH 0 k6) i5)))))
def FB (NN:Nat):((Int×(Int×(List Int)))×(Int×Int))->(Option (List Int)):=
 (fun(((i0,i1,l2),i3,i4):((Int×(Int×(List Int)))×(Int×Int)))=>
 (ab 0 (J l2) (J l2)).U (fun _=>
 bd NN (fun(((i5,i6,i7),l8,i9,cf):((Int×(Int×Int))×((List Int)×(Int×Int))))=>
 aw (bi i7 cf)
 ((dU (aW .i64 (cK .i64 i5 cf) i7) (J l8)).U (fun yx=>
 (db l8 (aH 0 yx)).U (fun cU=>
 (dU (aW .i64 (cK .i64 i6 cf) i7) (J l8)).U (fun yy=>
 (db l8 (aH 0 yy)).U (fun c7=>
 (dU (aW .i64 (cK .i64 i5 cf) i7) (J l8)).U (fun AM=>
 (db l8 (aH 0 AM)).U (fun eM=>
 (dU (aW .i64 (cK .i64 i6 cf) i7) (J l8)).U (fun DT=>
 (db (cb l8 (aH 0 AM) c7) (aH 0 DT)).U (fun fj=>
 (ab 0 (J l8) (J (cb (cb l8 (aH 0 AM) c7) (aH 0 DT) cU))).U (fun _=>
 some (Sum.inl ((i5,i6,aW .i64 i7 1),cb (cb l8 (aH 0 AM) c7) (aH 0 DT) cU,i9,cf))))))))))))
 (((nR (J l8) (J l2)).U (fun _=>
 some l8)).U (fun fM=>
 some (Sum.inr fM))))
 ((i3,i4,(0:Int)),l2,i0,i1)))
def Fp (NN:Nat):((Int×(Int×(List Int)))×(Int×Int))->(Option (List Int)):=
 (fun(((i0,i1,l2),i3,i4):((Int×(Int×(List Int)))×(Int×Int)))=>
 (ab 0 (J l2) (J l2)).U (fun _=>
 bd NN (fun(((i5,i6,i7),l8,i9,cf):((Int×(Int×Int))×((List Int)×(Int×Int))))=>
 aw (bi i7 cf)
 ((bG l8 0 (J l8)).U (fun gC=>
 (jv ((i9,cf,gC),i5,i7)).U (fun cU=>
 (bG l8 0 (J l8)).U (fun hY=>
 (jv ((i9,cf,hY),i6,i7)).U (fun c7=>
 (ab 0 (J l8) (J l8)).U (fun _=>
 (nW ((i9,cf,l8),i5,i7,c7)).U (fun cg=>
 (ab 0 (J l8) (J cg)).U (fun _=>
 (nW ((i9,cf,cg),i6,i7,cU)).U (fun dL=>
 (ab 0 (J l8) (J dL)).U (fun _=>
 some (Sum.inl ((i5,i6,aW .i64 i7 1),dL,i9,cf))))))))))))
 (((nR (J l8) (J l2)).U (fun _=>
 some l8)).U (fun ci=>
 some (Sum.inr ci))))
 ((i3,i4,(0:Int)),l2,i0,i1)))
def Fl (NN:Nat):((Int×(Int×(List Int)))×(Int×(Int×(Int×Int))))->(Option (List Int)):=
 (fun(((i0,i1,l2),i3,i4,i5,i6):((Int×(Int×(List Int)))×(Int×(Int×(Int×Int)))))=>
 (ab 0 (J l2) (J l2)).U (fun _=>
 bd NN (fun(((i7,i8,i9,cf,cF),dn,dB,c7):((Int×(Int×(Int×(Int×Int))))×((List Int)×(Int×Int))))=>
 aw (bi cF c7)
 ((bG dn 0 (J dn)).U (fun cg=>
 (jv ((dB,c7,cg),i8,cF)).U (fun eM=>
 (bG dn 0 (J dn)).U (fun ci=>
 (jv ((dB,c7,ci),i9,cF)).U (fun fj=>
 (fD (aW .i64 eM (cK .i64 cf fj)) i7).U (fun eU=>
 (ab 0 (J dn) (J dn)).U (fun _=>
 (nW ((dB,c7,dn),i8,cF,eU)).U (fun fy=>
 (ab 0 (J dn) (J fy)).U (fun _=>
 some (Sum.inl ((i7,i8,i9,cf,aW .i64 cF 1),fy,dB,c7)))))))))))
 (((nR (J dn) (J l2)).U (fun _=>
 some dn)).U (fun km=>
 some (Sum.inr km))))
 ((i3,i4,i5,i6,(0:Int)),l2,i0,i1)))
def Fw (NN:Nat):(Int×((Int×(Int×(List Int)))×(Int×(Int×Int))))->(Option (List Int)):=
 (fun((i0,(i1,i2,l3),i4,i5,i6):(Int×((Int×(Int×(List Int)))×(Int×(Int×Int)))))=>
 (ab 0 (J l3) (J l3)).U (fun _=>
 bd NN (fun(((i7,i8,i9,cf,cF),dn,dB,c7):((Int×(Int×(Int×(Int×Int))))×((List Int)×(Int×Int))))=>
 aw (bi cF c7)
 ((dU (aW .i64 (cK .i64 i8 c7) cF) (J dn)).U (fun AM=>
 (db dn (aH 0 AM)).U (fun eM=>
 (dU (aW .i64 (cK .i64 i9 c7) cF) (J dn)).U (fun DT=>
 (db dn (aH 0 DT)).U (fun fj=>
 (fD (aW .i64 eM (cK .i64 (jR .i64 i7 cf) fj)) i7).U (fun eU=>
 (dU (aW .i64 (cK .i64 i8 c7) cF) (J dn)).U (fun OT=>
 (db dn (aH 0 OT)).U (fun iP=>
 (ab 0 (J dn) (J (cb dn (aH 0 OT) eU))).U (fun _=>
 some (Sum.inl ((i7,i8,i9,cf,aW .i64 cF 1),cb dn (aH 0 OT) eU,dB,c7)))))))))))
 (((nR (J dn) (J l3)).U (fun _=>
 some dn)).U (fun eo=>
 some (Sum.inr eo))))
 ((i0,i4,i5,i6,(0:Int)),l3,i1,i2)))
def Fz (NN:Nat):((Int×(Int×(List Int)))×(Int×Int))->(Option Int):=
 (fun(((i0,i1,l2),i3,i4):((Int×(Int×(List Int)))×(Int×Int)))=>
 bL (bd NN (fun(((i5,i6),i7,i8,l9):((Int×Int)×(Int×(Int×(List Int)))))=>
 aw (bi i6 i7)
 ((dk l9 (aW .i64 (cK .i64 i6 i8) i5)).U (fun cf=>
 aw (dd cf (0:Int))
 (some (Sum.inr (Sum.inr i6)))
 (some (Sum.inl ((i5,aW .i64 i6 1),i7,i8,l9)))))
 (some (Sum.inr (Sum.inl ()))))
 ((i4,i3),i0,i1,l2))
 (fun _=>
 some ((-1:Int))))
def Lm (NN:Nat):(Int×Int)->(Option Int):=
 (fun((i0,i1):(Int×Int))=>
 bL (bd NN (fun((i2,i3,i4,i5):(Int×(Int×(Int×Int))))=>
 aw (bi (0:Int) i5)
 ((fD i5 (2:Int)).U (fun i6=>
 bL (aw (fS i6 (1:Int))
 ((fD (cK .i64 i4 i3) i2).U (fun i7=>
 some (Sum.inl (i3,i5,i2,i7))))
 (some (Sum.inl (i3,i5,i2,i4))))
 (fun(i8,i9,cf,cF)=>
 (fD (cK .i64 i8 i8) cf).U (fun cU=>
 (Ew .i64 i9 (2:Int)).U (fun dB=>
 some (Sum.inl (cf,cU,cF,dB)))))))
 (some (Sum.inr (Sum.inl i4))))
 (i0,i1,(1:Int),jR .i64 i0 2))
 (fun c7=>
 some c7))
def KX (NN:Nat):(Int×Int)->(Option Int):=
 (fun((i0,i1):(Int×Int))=>
 bL (bd NN (fun((i2,i3,i4,i5):(Int×(Int×(Int×Int))))=>
 aw (bi (0:Int) i5)
 (bL (aw (fS (GN .i64 i5 (1:Int)) (1:Int))
 ((fD (cK .i64 i4 i3) i2).U (fun i6=>
 some (Sum.inl (i3,i5,i2,i6))))
 (some (Sum.inl (i3,i5,i2,i4))))
 (fun(i7,i8,i9,cf)=>
 (fD (cK .i64 i7 i7) i9).U (fun cF=>
 (BO .i64 i8 (1:Int)).U (fun cU=>
 some (Sum.inl (i9,cF,cf,cU))))))
 (some (Sum.inr (Sum.inl i4))))
 (i0,i1,(1:Int),jR .i64 i0 2))
 (fun dB=>
 some dB))
def Fx (NN:Nat):(Int×((Int×(Int×(List Int)))×(Int×(Int×(List Int)))))->(Option (Int×(Int×(List Int)))):=
 (fun((i0,(i1,i2,l3),i4,i5,l6):(Int×((Int×(Int×(List Int)))×(Int×(Int×(List Int))))))=>
 (u0 (i1,i5)).U (fun(i7,i8,l9)=>
 bL ((ab 0 0 (J (([]:List Int)))).U (fun _=>
 (ab 0 (J l9) (J l9)).U (fun _=>
 bd NN (fun(((cf,cF),(cU,dB,fW),(mJ,eM,ci),(fj,eU),(iO,iP),eo,fN):((Int×Int)×((Int×(Int×(List Int)))×((Int×(Int×(List Int)))×((Int×Int)×((Int×Int)×((List Int)×(List Int))))))))=>
 aw (bi cF cU)
 (bL ((ab 0 (J eo) (J eo)).U (fun _=>
 (ab 0 (J fN) (J fN)).U (fun _=>
 bd NN (fun(((lK,kc,kf),(jH,gR,iz),(mK,iQ,dc),(pF,nw),(k7,kg),dC,gj):((Int×(Int×Int))×((Int×(Int×(List Int)))×((Int×(Int×(List Int)))×((Int×Int)×((Int×Int)×((List Int)×(List Int))))))))=>
 aw (bi kf iQ)
 (bL (bL ((ab 0 (J dC) (J dC)).U (fun _=>
 (ab 0 (J gj) (J gj)).U (fun _=>
 bd NN (fun(((oB,qY,oC,ki,iR),(jI,ix,fO),(g9,jm,iA),(lL,jn),(jJ,mL),eu,dP):((Int×(Int×(Int×(Int×Int))))×((Int×(Int×(List Int)))×((Int×(Int×(List Int)))×((Int×Int)×((Int×Int)×((List Int)×(List Int))))))))=>
 aw (bi iR ix)
 ((dk fO (aW .i64 (cK .i64 qY ix) iR)).U (fun t9=>
 (dk iA (aW .i64 (cK .i64 iR jm) oC)).U (fun oF=>
 (fD (aW .i64 ki (cK .i64 t9 oF)) oB).U (fun nz=>
 (ab 0 (J eu) (J eu)).U (fun _=>
 (ab 0 (J dP) (J dP)).U (fun _=>
 some (Sum.inl ((oB,qY,oC,nz,aW .i64 iR 1),(jI,ix,fO),(g9,jm,iA),(lL,jn),(jJ,mL),eu,dP))))))))
 (((ab 0 (J eu) (J eu)).U (fun _=>
 (ab 0 (J dP) (J dP)).U (fun _=>
 some (Sum.inl ((ki,oC,oB,qY),(jI,ix,fO),(g9,jm,iA),(lL,jn),(jJ,mL),eu,dP))))).U (fun pO=>
 some (Sum.inr pO))))
 ((lK,kc,kf,(0:Int),(0:Int)),(jH,gR,iz),(mK,iQ,dc),(pF,nw),(k7,kg),dC,gj))))
 (fun((pG,yl,DM,kj),(i64,sb,jN),(ua,vS,lU),(ym,yn),(oG,jo),mN,iU)=>
 (dU (aW .i64 (cK .i64 kj vS) yl) (J iU)).U (fun OX=>
 (db iU (aH 0 OX)).U (fun jK=>
 (ab 0 (J mN) (J mN)).U (fun _=>
 (ab 0 (J iU) (J (cb iU (aH 0 OX) pG))).U (fun _=>
 some (Sum.inl ((yl,DM,kj),(i64,sb,jN),(ua,vS,lU),(ym,yn),(oG,jo),mN,cb iU (aH 0 OX) pG))))))))
 (fun((iS,fL,hH),(vT,AF,fb),(sd,yp,mP),(nA,se),(ud,q8),uj,pQ)=>
 (ab 0 (J uj) (J uj)).U (fun _=>
 (ab 0 (J pQ) (J pQ)).U (fun _=>
 some (Sum.inl ((fL,hH,aW .i64 iS 1),(vT,AF,fb),(sd,yp,mP),(nA,se),(ud,q8),uj,pQ))))))
 (((ab 0 (J dC) (J dC)).U (fun _=>
 (ab 0 (J gj) (J gj)).U (fun _=>
 some (Sum.inl ((kc,lK),(jH,gR,iz),(mK,iQ,dc),(pF,nw),(k7,kg),dC,gj))))).U (fun yD=>
 some (Sum.inr yD))))
 ((cf,cF,(0:Int)),(cU,dB,fW),(mJ,eM,ci),(fj,eU),(iO,iP),eo,fN))))
 (fun((sf,jL),(q9,AG,iB),(vV,yi,oI),(vP,t7),(nv,Aw),gi,iy)=>
 (ab 0 (J gi) (J gi)).U (fun _=>
 (ab 0 (J iy) (J iy)).U (fun _=>
 some (Sum.inl ((jL,aW .i64 sf 1),(q9,AG,iB),(vV,yi,oI),(vP,t7),(nv,Aw),gi,iy))))))
 (((ab 0 (J eo) (J eo)).U (fun _=>
 (ab 0 (J fN) (J fN)).U (fun _=>
 some (Sum.inl ((fj,eU),(iO,iP),eo,fN))))).U (fun lb=>
 some (Sum.inr lb))))
 ((i0,(0:Int)),(i1,i2,l3),(i4,i5,l6),((0:Int),(0:Int)),(i7,i8),([]:List Int),l9))))
 (fun((Ax,r9),(qW,oz),O0,uh)=>
 (cP uh (J uh)).U (fun v8=>
 some (qW,oz,v8)))))
def Fs (NN:Nat):(Int×((Int×(Int×(List Int)))×(Int×(Int×(List Int)))))->(Option (Int×(Int×(List Int)))):=
 (fun((i0,(i1,i2,l3),i4,i5,l6):(Int×((Int×(Int×(List Int)))×(Int×(Int×(List Int))))))=>
 (uS (i1,i5)).U (fun(i7,i8,l9)=>
 bL ((ab 0 0 (J (([]:List Int)))).U (fun _=>
 (ab 0 (J l9) (J l9)).U (fun _=>
 bd NN (fun(((cf,cF),(cU,dB,fW),(mJ,eM,ci),(fj,eU),(iO,iP),eo,fN):((Int×Int)×((Int×(Int×(List Int)))×((Int×(Int×(List Int)))×((Int×Int)×((Int×Int)×((List Int)×(List Int))))))))=>
 aw (bi cF cU)
 (bL ((ab 0 (J eo) (J eo)).U (fun _=>
 (ab 0 (J fN) (J fN)).U (fun _=>
 bd NN (fun(((lK,kc,kf),(jH,gR,iz),(mK,iQ,dc),(pF,nw),(k7,kg),dC,gj):((Int×(Int×Int))×((Int×(Int×(List Int)))×((Int×(Int×(List Int)))×((Int×Int)×((Int×Int)×((List Int)×(List Int))))))))=>
 aw (bi kf iQ)
 (bL (bL ((ab 0 (J dC) (J dC)).U (fun _=>
 (ab 0 (J gj) (J gj)).U (fun _=>
 bd NN (fun(((oB,qY,oC,ki,iR),(jI,ix,fO),(g9,jm,iA),(lL,jn),(jJ,mL),eu,dP):((Int×(Int×(Int×(Int×Int))))×((Int×(Int×(List Int)))×((Int×(Int×(List Int)))×((Int×Int)×((Int×Int)×((List Int)×(List Int))))))))=>
 aw (bi iR ix)
 ((jv ((jI,ix,fO),qY,iR)).U (fun t9=>
 (jv ((g9,jm,iA),iR,oC)).U (fun oF=>
 (fD (aW .i64 ki (cK .i64 t9 oF)) oB).U (fun nz=>
 (ab 0 (J eu) (J eu)).U (fun _=>
 (ab 0 (J dP) (J dP)).U (fun _=>
 some (Sum.inl ((oB,qY,oC,nz,aW .i64 iR 1),(jI,ix,fO),(g9,jm,iA),(lL,jn),(jJ,mL),eu,dP))))))))
 (((ab 0 (J eu) (J eu)).U (fun _=>
 (ab 0 (J dP) (J dP)).U (fun _=>
 some (Sum.inl ((ki,oC,oB,qY),(jI,ix,fO),(g9,jm,iA),(lL,jn),(jJ,mL),eu,dP))))).U (fun pO=>
 some (Sum.inr pO))))
 ((lK,kc,kf,(0:Int),(0:Int)),(jH,gR,iz),(mK,iQ,dc),(pF,nw),(k7,kg),dC,gj))))
 (fun((pG,yl,DM,kj),(i64,sb,jN),(ua,vS,lU),(ym,yn),(oG,jo),mN,iU)=>
 (ab 0 (J iU) (J iU)).U (fun _=>
 (nW ((oG,jo,iU),kj,yl,pG)).U (fun yC=>
 (ab 0 (J mN) (J mN)).U (fun _=>
 (ab 0 (J iU) (J yC)).U (fun _=>
 some (Sum.inl ((yl,DM,kj),(i64,sb,jN),(ua,vS,lU),(ym,yn),(oG,jo),mN,yC))))))))
 (fun((jK,iS,fL),(hH,vT,eF),(I7,sd,mO),(ub,nA),(se,ud),mQ,uj)=>
 (ab 0 (J mQ) (J mQ)).U (fun _=>
 (ab 0 (J uj) (J uj)).U (fun _=>
 some (Sum.inl ((iS,fL,aW .i64 jK 1),(hH,vT,eF),(I7,sd,mO),(ub,nA),(se,ud),mQ,uj))))))
 (((ab 0 (J dC) (J dC)).U (fun _=>
 (ab 0 (J gj) (J gj)).U (fun _=>
 some (Sum.inl ((kc,lK),(jH,gR,iz),(mK,iQ,dc),(pF,nw),(k7,kg),dC,gj))))).U (fun pQ=>
 some (Sum.inr pQ))))
 ((cf,cF,(0:Int)),(cU,dB,fW),(mJ,eM,ci),(fj,eU),(iO,iP),eo,fN))))
 (fun((pH,sf),(jL,q9,jO),(AH,vV,nC),(Av,vP),(t7,nv),oJ,gi)=>
 (ab 0 (J oJ) (J oJ)).U (fun _=>
 (ab 0 (J gi) (J gi)).U (fun _=>
 some (Sum.inl ((sf,aW .i64 pH 1),(jL,q9,jO),(AH,vV,nC),(Av,vP),(t7,nv),oJ,gi))))))
 (((ab 0 (J eo) (J eo)).U (fun _=>
 (ab 0 (J fN) (J fN)).U (fun _=>
 some (Sum.inl ((fj,eU),(iO,iP),eo,fN))))).U (fun iy=>
 some (Sum.inr iy))))
 ((i0,(0:Int)),(i1,i2,l3),(i4,i5,l6),((0:Int),(0:Int)),(i7,i8),([]:List Int),l9))))
 (fun((XU,Ax),(r9,qW),aoW,O0)=>
 (cP O0 (J O0)).U (fun uh=>
 some (r9,qW,uh)))))
theorem alE {r c:Nat} (hr:r<=4096) (hc:c<=4096) (h:r*c<=1048576):Bj ((r:Int),(c:Int)):=by
 refine⟨⟨by omega,by show(r:Int)<=4096;omega⟩,⟨by show(0:Int)<=c;omega,by show(c:Int)<=4096;omega⟩,?_⟩
 show(r:Int)*(c:Int)<=1048576
 have e:(r:Int)*(c:Int)=((r*c:Nat):Int):=by norm_cast
 omega
theorem alD {x:Int×Int} (h:Bj x):∃r c:Nat,x=((r:Int),(c:Int))/\r<=4096/\c<=4096/\r*c<=1048576:=by
 obtain⟨r,c⟩:=x
 obtain⟨h1,h2,h3⟩:=h
 simp only at h1 h2 h3
 obtain⟨r,rfl⟩:=iV h1.1
 obtain⟨c,rfl⟩:=iV h2.1
 have e:(r:Int)*(c:Int)=((r*c:Nat):Int):=by norm_cast
 exact⟨r,c,rfl,by omega,by omega,by omega⟩
theorem QU {r c:Nat} (hr:r<=4096) (hc:c<=4096) (h:r*c<=1048576):u0 ((r:Int),(c:Int))=some ((r:Int),(c:Int),aq r c fun _ _=>0):=by
 simp only[u0,Int.toNat_natCast]
 rw[if_pos (alE hr hc h)]
theorem QT {r c:Nat} (hr:r<=4096) (hc:c<=4096) (h:r*c<=1048576):uS ((r:Int),(c:Int))=some ((r:Int),(c:Int),aq r c fun _ _=>0):=QU hr hc h
theorem ae2 {r c:Nat} (hr:r<=4096) (hc:c<=4096) (h:r*c<=1048576):Fy aD ((r:Int),(c:Int))=some ((r:Int),(c:Int),aq r c fun _ _=>0):=by
 simp only[Fy]
 rw[aky (by omega) (by omega)]
 have:=PV (n:=r*c) (by_:=8) (by unfold dA;omega)
 rw[show((r*c:Nat):Int)=aM (r*c) from rfl,this,aj,afe]
 rw[show cP (aq r c fun _ _=>0) (r*c)=some (aq r c fun _ _=>0) by
  have:=gV (aq r c fun _ _=>(0:Int))
  rwa[Bd] at this]
 rfl
theorem Wt (x:Int×Int) (y:Int×Int×List Int) (h:u0 x=some y):Fy aD x=some y:=by
 simp only[u0] at h
 split at h
 ·rename_i hc
  obtain⟨r,c,rfl,h1,h2,h3⟩:=alD hc
  rw[<-h,ae2 h1 h2 h3];rfl
 ·cases h
theorem ad5 (x:Int×Int) (y:Int×Int×List Int) (h:uS x=some y):UQ aD x=some y:=Wt x y h
theorem aeB (x y:List Int) (h:jZ x=some y):Ll aD x=some y:=by
 simp only[jZ] at h
 split at h
 ·rename_i hl
  rw[<-h]
  simp only[Ll]
  rw[show ab 0 0 (J ([]:List Int))=some () from rfl,aj,j8 (by simp only[aH,J,List.length_nil,dA];omega),aj]
  have:bY [] x=x:=rfl
  rw[this,show aH (J ([]:List Int)) (J x)=J x by simp[aH,J],gV]
  rfl
 ·cases h
theorem ad3 (x y:List Int) (h:jY x=some y):KU aD x=some y:=by
 simp only[jY] at h
 split at h
 ·rename_i hl
  rw[<-h]
  simp only[KU]
  rw[j8 (by simp only[aH,J,List.length_nil,dA];omega),aj]
  have:bY [] x=x:=rfl
  rw[this,show aH (J ([]:List Int)) (J x)=J x by simp[aH,J],gV]
  rfl
 ·cases h
theorem ad4 (x y:Int×Int×List Int) (h:zi x=some y):KV aD x=some y:=by
 obtain⟨r,c,l⟩:=x
 simp only[zi] at h
 split at h
 ·rename_i hl
  rw[<-h]
  simp only[KV,jY,if_pos hl,aj,gV]
 ·cases h
theorem oP {a b:Int} (h:0<=a/\a<b):∃n:Nat,a=(n:Int)/\∀m:Nat,b=(m:Int)->n<m:=⟨a.toNat,by omega,fun m hm=>by omega⟩
theorem alx {a b:Int} (h:0<=a/\a<=b):∃n:Nat,a=(n:Int)/\∀m:Nat,b=(m:Int)->n<=m:=⟨a.toNat,by omega,fun m hm=>by omega⟩
theorem aeV {r c i j:Nat} {M:Nat->Nat->Int} (hr:r<=4096) (hc:c<=4096) (hi:i<r) (hj:j<c):Fm aD (((r:Int),(c:Int),aq r c M),(i:Int),(j:Int))=some (M i j):=by
 simp only[Fm]
 rw[k8 (by omega) (by omega) (by omega),zZ M hi hj];rfl
theorem nf {r c i j:Nat} {M:Nat->Nat->Int} (hr:r<=4096) (hc:c<=4096) (h:r*c<=1048576) (hi:i<r) (hj:j<c):jv (((r:Int),(c:Int),aq r c M),(i:Int),(j:Int))=some (M i j):=by
 simp only[jv,Int.toNat_natCast]
 rw[if_pos ⟨wu M hr hc h,by omega,by omega⟩]
 rw[mU M hi hj]
theorem ad0 (x:(Int×Int×List Int)×Int×Int) (y:Int) (h:jv x=some y):Fm aD x=some y:=by
 obtain⟨m,i,j⟩:=x
 simp only[jv] at h
 split at h
 ·rename_i hc
  obtain⟨h1,h2,h3⟩:=hc
  obtain⟨r,c,M,rfl,hr,hc,di⟩:=sQ h1
  obtain⟨i,rfl,hi⟩:=oP h2
  obtain⟨j,rfl,hj⟩:=oP h3
  have hi:=hi r rfl;have hj:=hj c rfl
  rw[<-h,aeV hr hc hi hj]
  exact congrArg some (mU M hi hj).symm
 ·cases h
theorem afa {r c i j:Nat} {M:Nat->Nat->Int} {x:Int} (hr:r<=4096) (hc:c<=4096) (hi:i<r) (hj:j<c):Fo aD (((r:Int),(c:Int),aq r c M),(i:Int),(j:Int),x)=some (aq r c (iZ M i j x)):=by
 simp only[Fo]
 rw[k8 (by omega) (by omega) (by omega),qw M hi hj,aj,lx,qG M hi hj,aj,yU M hj,EC,aj]
theorem wO {r c i j:Nat} {M:Nat->Nat->Int} {x:Int} (hr:r<=4096) (hc:c<=4096) (h:r*c<=1048576) (hi:i<r) (hj:j<c):nW (((r:Int),(c:Int),aq r c M),(i:Int),(j:Int),x)=some (aq r c (iZ M i j x)):=by
 simp only[nW,Int.toNat_natCast]
 rw[if_pos ⟨wu M hr hc h,by omega,by omega⟩]
 refine(congrArg some (gP fun a ha b hb=>?_))
 unfold iZ
 rw[mU M ha hb]
theorem ad1 (x:(Int×Int×List Int)×Int×Int×Int) (y:List Int) (h:nW x=some y):Fo aD x=some y:=by
 obtain⟨m,i,j,v⟩:=x
 have h0:=h
 simp only[nW] at h
 split at h
 ·rename_i hc
  obtain⟨h1,h2,h3⟩:=hc
  obtain⟨r,c,M,rfl,hr,hc,di⟩:=sQ h1
  obtain⟨i,rfl,hi⟩:=oP h2
  obtain⟨j,rfl,hj⟩:=oP h3
  have hi:=hi r rfl;have hj:=hj c rfl
  rw[<-h0,afa hr hc hi hj,wO hr hc di hi hj]
 ·cases h
def wV (M:Nat->Nat->Int) (a b k:Nat):Nat->Nat->Int:=fun i j=>if j<k then eH M a b i j else M i j
theorem abC (M:Nat->Nat->Int) (a b:Nat):wV M a b 0=M:=by funext i j;exact if_neg (by omega)
theorem abF {r c:Nat} (M:Nat->Nat->Int) (a b k:Nat):aq r c (iZ (iZ (wV M a b k) a k (M b k)) b k (M a k))=aq r c (wV M a b (k+1)):=by
 refine gP fun i _ j _=>?_
 unfold iZ wV eH
 by_cases hj:j=k
 ·subst hj
  by_cases hb:i=b
  ·by_cases ha:i=a
   ·subst hb;subst ha;simp
   ·have:b≠a:=fun e=>ha (hb.trans e)
    simp[hb,this]
  ·by_cases ha:i=a
   ·have:a≠b:=fun e=>hb (ha.trans e)
    simp[ha,this]
   ·simp[ha,hb]
 ·have h1:¬(i=b/\j=k):=fun h=>hj h.2
  have h2:¬(i=a/\j=k):=fun h=>hj h.2
  rw[if_neg h1,if_neg h2]
  by_cases hk:j<k
  ·simp only[if_pos hk,if_pos (show j<k+1 by omega)]
  ·simp only[if_neg hk,if_neg (show¬j<k+1 by omega)]
theorem abD {r c:Nat} (M:Nat->Nat->Int) (a b:Nat):aq r c (wV M a b c)=aq r c (eH M a b):=gP fun i _ j hj=>if_pos hj
theorem abE (M:Nat->Nat->Int) (a b k i:Nat):wV M a b k i k=M i k:=if_neg (by omega)
theorem afd {r c a b:Nat} {M:Nat->Nat->Int} (hr:r<=4096) (hc:c<=4096) (ha:a<r) (hb:b<r):FB aD (((r:Int),(c:Int),aq r c M),(a:Int),(b:Int))=some (aq r c (eH M a b)):=by
 simp only[FB,bK,aj]
 refine ew (fun k=>(((a:Int),(b:Int),(k:Int)),aq r c (wV M a b k),(r:Int),(c:Int))) c ?_ ?_ ?_ (cG (by omega))
 ·intro k hk
  simp only
  rw[aT (eW hk),k8 (by omega) (by omega) (by omega),k8 (by omega) (by omega) (by omega)]
  simp only[qw _ ha hk,qw _ hb hk,aj,lx,qG _ ha hk,qG _ hb hk,yU _ hk,lE,abE,eA (show k<=1048577 by omega),abF]
 ·simp only
  rw[aS (fo (Nat.le_refl c)),EC,aj,aj,abD]
 ·rw[abC];rfl
theorem Kx {r c a b:Nat} {M:Nat->Nat->Int} (hr:r<=4096) (hc:c<=4096) (h:r*c<=1048576) (ha:a<r) (hb:b<r):rD (((r:Int),(c:Int),aq r c M),(a:Int),(b:Int))=some (aq r c (eH M a b)):=by
 simp only[rD,Int.toNat_natCast]
 rw[if_pos ⟨wu M hr hc h,by omega,by omega⟩]
 refine(congrArg some (gP fun i hi j hj=>?_))
 unfold eH
 rw[mU M hb hj,mU M ha hj,mU M hi hj]
theorem aeH (x:(Int×Int×List Int)×Int×Int) (y:List Int) (h:rD x=some y):FB aD x=some y:=by
 obtain⟨m,i,j⟩:=x
 have h0:=h
 simp only[rD] at h
 split at h
 ·rename_i hc
  obtain⟨h1,h2,h3⟩:=hc
  obtain⟨r,c,M,rfl,hr,hc,di⟩:=sQ h1
  obtain⟨i,rfl,hi⟩:=oP h2
  obtain⟨j,rfl,hj⟩:=oP h3
  have hi:=hi r rfl;have hj:=hj r rfl
  rw[<-h0,afd hr hc hi hj,Kx hr hc di hi hj]
 ·cases h
theorem afc {r c a b:Nat} {M:Nat->Nat->Int} (hr:r<=4096) (hc:c<=4096) (h:r*c<=1048576) (ha:a<r) (hb:b<r):Fp aD (((r:Int),(c:Int),aq r c M),(a:Int),(b:Int))=some (aq r c (eH M a b)):=by
 simp only[Fp,bK,aj,kE]
 refine ew (fun k=>(((a:Int),(b:Int),(k:Int)),aq r c (wV M a b k),(r:Int),(c:Int))) c ?_ ?_ ?_ (cG (by omega))
 ·intro k hk
  simp only
  rw[aT (eW hk)]
  simp only[nf hr hc h ha hk,nf hr hc h hb hk,wO hr hc h ha hk,wO hr hc h hb hk,aj,lE,abE,eA (show k<=1048577 by omega),abF]
 ·simp only
  rw[aS (fo (Nat.le_refl c)),EC,aj,aj,abD]
 ·rw[abC];rfl
theorem ad2 (x:(Int×Int×List Int)×Int×Int) (y:List Int) (h:zh x=some y):Fp aD x=some y:=by
 obtain⟨m,i,j⟩:=x
 have h0:rD (m,i,j)=some y:=h
 simp only[zh,rD] at h
 split at h
 ·rename_i hc
  obtain⟨h1,h2,h3⟩:=hc
  obtain⟨r,c,M,rfl,hr,hc,di⟩:=sQ h1
  obtain⟨i,rfl,hi⟩:=oP h2
  obtain⟨j,rfl,hj⟩:=oP h3
  have hi:=hi r rfl;have hj:=hj r rfl
  rw[<-h0,afc hr hc di hi hj,Kx hr hc di hi hj]
 ·cases h
def vl (p:Int) (M:Nat->Nat->Int) (i k:Nat) (f:Int) (n:Nat):Nat->Nat->Int:=fun a j=>if j<n then n9 p M i k f a j else M a j
theorem VA (p:Int) (M:Nat->Nat->Int) (i k:Nat) (f:Int):vl p M i k f 0=M:=by funext a j;exact if_neg (by omega)
theorem VE {r c:Nat} (p:Int) (M:Nat->Nat->Int) (i k:Nat) (f:Int) (n:Nat):aq r c (iZ (vl p M i k f n) i n ((M i n+f*M k n)%p))=aq r c (vl p M i k f (n+1)):=by
 refine gP fun a _ j _=>?_
 unfold iZ vl n9
 by_cases hj:j=n
 ·subst hj
  by_cases ha:a=i
  ·subst ha;simp
  ·simp[ha]
 ·rw[if_neg (fun h=>hj h.2)]
  by_cases hk:j<n
  ·simp only[if_pos hk,if_pos (show j<n+1 by omega)]
  ·simp only[if_neg hk,if_neg (show¬j<n+1 by omega)]
theorem VB {r c:Nat} (p:Int) (M:Nat->Nat->Int) (i k:Nat) (f:Int):aq r c (vl p M i k f c)=aq r c (n9 p M i k f):=gP fun a _ j hj=>if_pos hj
theorem VC (p:Int) (M:Nat->Nat->Int) (i k:Nat) (f:Int) (n a:Nat):vl p M i k f n a n=M a n:=if_neg (by omega)
theorem aeU {p f:Int} {r c i k:Nat} {M:Nat->Nat->Int} (hp:cV p) (hr:r<=4096) (hc:c<=4096) (h:r*c<=1048576) (hi:i<r) (hk:k<r) (hf:0<=f/\f<=p) (hM:dz p r c M):
  Fl aD (((r:Int),(c:Int),aq r c M),p,(i:Int),(k:Int),f)=some (aq r c (n9 p M i k f)):=by
 simp only[Fl,bK,aj,kE]
 refine ew (fun n=>((p,(i:Int),(k:Int),f,(n:Int)),aq r c (vl p M i k f n),(r:Int),(c:Int))) c ?_ ?_ ?_ (cG (by omega))
 ·intro n hn
  simp only
  rw[aT (eW hn)]
  have h1:=hM i hi n hn
  simp only[nf hr hc h hi hn,nf hr hc h hk hn,aj,VC,Ec hp (h1.s hp) hf (hM k hk n hn).le,wO hr hc h hi hn,lE,eA (show n<=1048577 by omega),VE]
 ·simp only
  rw[aS (fo (Nat.le_refl c)),EC,aj,aj,VB]
 ·rw[VA];rfl
theorem U1 {p f:Int} {r c i k:Nat} {M:Nat->Nat->Int} (hp:cV p) (hr:r<=4096) (hc:c<=4096) (h:r*c<=1048576) (hi:i<r) (hk:k<r) (hf:0<=f/\f<=p) (hM:dz p r c M):
  w9 (((r:Int),(c:Int),aq r c M),p,(i:Int),(k:Int),f)=some (aq r c (n9 p M i k f)):=by
 simp only[w9,Int.toNat_natCast]
 rw[if_pos ⟨wu M hr hc h,hp,by omega,by omega,hf,ly.2 hM⟩]
 refine(congrArg some (gP fun a ha j hj=>?_))
 unfold n9
 rw[mU M hi hj,mU M hk hj,mU M ha hj]
theorem adZ (x:(Int×Int×List Int)×Int×Int×Int×Int) (y:List Int) (h:w9 x=some y):Fl aD x=some y:=by
 obtain⟨m,p,i,k,f⟩:=x
 have h0:=h
 simp only[w9] at h
 split at h
 ·rename_i hc
  obtain⟨h1,hp,h2,h3,hf,hM⟩:=hc
  obtain⟨r,c,M,rfl,hr,hc,di⟩:=sQ h1
  obtain⟨i,rfl,hi⟩:=oP h2
  obtain⟨k,rfl,hk⟩:=oP h3
  have hi:=hi r rfl;have hk:=hk r rfl
  have hM:=ly.1 hM
  rw[<-h0,aeU hp hr hc di hi hk hf hM,U1 hp hr hc di hi hk hf hM]
 ·cases h
theorem aeX {p x:Int} {r c i k:Nat} {M:Nat->Nat->Int} (hp:cV p) (hr:r<=4096) (hc:c<=4096) (hi:i<r) (hk:k<r) (hf:0<=x/\x<=p) (hM:dz p r c M):
  Fw aD (p,((r:Int),(c:Int),aq r c M),(i:Int),(k:Int),x)=some (aq r c (n9 p M i k (p - x))):=by
 simp only[Fw,bK,aj]
 have qQ:=hp.2
 refine ew (fun n=>((p,(i:Int),(k:Int),x,(n:Int)),aq r c (vl p M i k (p - x) n),(r:Int),(c:Int))) c ?_ ?_ ?_ (cG (by omega))
 ·intro n hn
  simp only
  rw[aT (eW hn),k8 (by omega) (by omega) (by omega),k8 (by omega) (by omega) (by omega),oY (by omega) (by omega)]
  have h1:=hM i hi n hn
  simp only[qw _ hi hn,qw _ hk hn,aj,lx,qG _ hi hn,qG _ hk hn,VC,Ec hp (h1.s hp) (show 0<=p - x/\p - x<=p by omega) (hM k hk n hn).le,yU _ hn,lE,eA (show n<=1048577 by omega),VE]
 ·simp only
  rw[aS (fo (Nat.le_refl c)),EC,aj,aj,VB]
 ·rw[VA];rfl
theorem VD {p x:Int} {r c i k:Nat} {M:Nat->Nat->Int} (hp:cV p) (hr:r<=4096) (hc:c<=4096) (h:r*c<=1048576) (hi:i<r) (hk:k<r) (hf:0<=x/\x<=p) (hM:dz p r c M):
  xd (p,((r:Int),(c:Int),aq r c M),(i:Int),(k:Int),x)=some (aq r c (n9 p M i k (p - x))):=by
 simp only[xd,Int.toNat_natCast]
 rw[if_pos ⟨wu M hr hc h,hp,by omega,by omega,hf,ly.2 hM⟩]
 refine(congrArg some (gP fun a ha j hj=>?_))
 unfold n9
 rw[mU M hi hj,mU M hk hj,mU M ha hj]
theorem aeC (x:Int×(Int×Int×List Int)×Int×Int×Int) (y:List Int) (h:xd x=some y):Fw aD x=some y:=by
 obtain⟨p,m,i,k,f⟩:=x
 have h0:=h
 simp only[xd] at h
 split at h
 ·rename_i hc
  obtain⟨h1,hp,h2,h3,hf,hM⟩:=hc
  obtain⟨r,c,M,rfl,hr,hc,di⟩:=sQ h1
  obtain⟨i,rfl,hi⟩:=oP h2
  obtain⟨k,rfl,hk⟩:=oP h3
  have hi:=hi r rfl;have hk:=hk r rfl
  have hM:=ly.1 hM
  rw[<-h0,aeX hp hr hc hi hk hf hM,VD hp hr hc di hi hk hf hM]
 ·cases h
theorem amB {r c i j:Nat} {M:Nat->Nat->Int} {f:((Int×Int)×Int×Int×List Int)->Option (((Int×Int)×Int×Int×List Int)⊕(Unit⊕Int))}
  (h1:∀k,k<r->f (((j:Int),(k:Int)),(r:Int),(c:Int),aq r c M)=if M k j=0 then some (.inl (((j:Int),((k+1:Nat):Int)),(r:Int),(c:Int),aq r c M)) else some (.inr (.inr (k:Int))))
  (h2:f (((j:Int),(r:Int)),(r:Int),(c:Int),aq r c M)=some (.inr (.inl ()))):
  ∀(d k:Nat),k+d=r->∀N,d<N->bd N f (((j:Int),(k:Int)),(r:Int),(c:Int),aq r c M)=some (match ib M j d k with|some q=>.inr (q:Int)|none=>.inl ()):=by
 intro d
 induction d with
 |zero=>
  intro k hk N hN
  obtain⟨N,rfl⟩:∃m,N=m+1:=⟨N - 1,by omega⟩
  have:k=r:=by omega
  subst this
  simp only[bd,h2,ib]
 |succ d ih=>
  intro k hk N hN
  obtain⟨N,rfl⟩:∃m,N=m+1:=⟨N - 1,by omega⟩
  simp only[bd,h1 k (by omega),ib]
  by_cases h0:M k j=0
  ·rw[if_pos h0,if_pos h0]
   exact ih (k+1) (by omega) N (by omega)
  ·rw[if_neg h0,if_neg h0]
theorem Z5 {M M':Nat->Nat->Int} {j:Nat}:∀(d k:Nat),(∀i,k<=i->i<k+d->M i j=M' i j)->ib M j d k=ib M' j d k
 |0,k,_=>rfl
 |d+1,k,h=>by
  simp only[ib]
  rw[h k (by omega) (by omega),Z5 d (k+1) fun i h1 h2=>h i (by omega) (by omega)]
theorem Eu {M:Nat->Nat->Int} {j q:Nat}:∀{d k:Nat},ib M j d k=some q->k<=q/\q<k+d/\M q j≠0
 |0,k,h=>by cases h
 |d+1,k,h=>by
  simp only[ib] at h
  split at h
  ·have:=Eu h
   exact⟨by omega,by omega,this.2.2⟩
  ·rename_i h0
   injection h with h
   subst h
   exact⟨by omega,by omega,h0⟩
theorem ae3 {r c i j:Nat} {M:Nat->Nat->Int} (hr:r<=4096) (hc:c<=4096) (hi:i<=r) (hj:j<c):Fz aD (((r:Int),(c:Int),aq r c M),(i:Int),(j:Int))=some (uq (ib M j (r - i) i)):=by
 simp only[Fz]
 rw[amB (M:=M) (r:=r) (c:=c) (i:=i) (j:=j) ?_ ?_ (r - i) i (by omega) aD (cG (by omega))]
 ·cases ib M j (r - i) i with
  |none=>rfl
  |some q=>rfl
 ·intro k hk
  simp only
  rw[aT (eW hk),k8 (by omega) (by omega) (by omega),zZ M hk hj,aj,eA (by omega)]
  by_cases h0:M k j=0
  ·rw[if_pos h0,aS (lf h0)]
  ·rw[if_neg h0,aT (nL h0)]
 ·simp only
  rw[aS (fo (Nat.le_refl r))]
theorem Z6 {r c i j:Nat} {M:Nat->Nat->Int} (hr:r<=4096) (hc:c<=4096) (h:r*c<=1048576) (hi:i<=r) (hj:j<c):xf (((r:Int),(c:Int),aq r c M),(i:Int),(j:Int))=some (uq (ib M j (r - i) i)):=by
 simp only[xf,Int.toNat_natCast]
 rw[if_pos ⟨wu M hr hc h,by omega,by omega⟩]
 rw[show((r:Int) - (i:Int)).toNat=r - i by omega]
 rw[Z5 (M':=M) (r - i) i fun a h1 h2=>mU M (by omega) hj]
theorem aeF (x:(Int×Int×List Int)×Int×Int) (y:Int) (h:xf x=some y):Fz aD x=some y:=by
 obtain⟨m,i,j⟩:=x
 have h0:=h
 simp only[xf] at h
 split at h
 ·rename_i hc
  obtain⟨h1,h2,h3⟩:=hc
  obtain⟨r,c,M,rfl,hr,hc,di⟩:=sQ h1
  obtain⟨i,rfl,hi⟩:=alx h2
  obtain⟨j,rfl,hj⟩:=oP h3
  have hi:=hi r rfl;have hj:=hj c rfl
  rw[<-h0,ae3 hr hc hi hj,Z6 hr hc di hi hj]
 ·cases h
theorem Ja (p out x:Int):gS p out x 0=out:=by rw[gS];rfl
theorem Jb {n:Nat} (h:n≠0) (p out x:Int):gS p out x n=gS p (if n%2=1 then out*x%p else out) (x*x%p) (n/2):=by
 rw[gS,dif_neg h]
theorem Yz {p:Int} (hp:cV p):∀(n:Nat) (out x:Int),fx p out->fx p (gS p out x n):=by
 intro n
 induction n using Nat.strongRecOn with
 |ind n ih=>
  intro out x ho
  by_cases h:n=0
  ·subst h;rw[Ja];exact ho
  ·rw[Jb h]
   refine ih (n/2) (by omega) _ _ ?_
   split
   ·exact rO hp _
   ·exact ho
theorem YB {p out x:Int} {n:Nat} {Y:Type} {o:Option (Int×Int×Int×Int⊕Y)} (k:Int×Int×Int×Int->Option Y) (b:Bool) (hb:b=decide (n%2=1)) (hp:cV p) (ho:fx p out) (hx:fx p x):
  bL (aw b ((fD (cK .i64 out x) p).U fun i=>some (Sum.inl (x,(n:Int),p,i))) (some (Sum.inl (x,(n:Int),p,out)))) k=k (x,(n:Int),p,if n%2=1 then out*x%p else out):=by
 subst hb
 by_cases h:n%2=1
 ·rw[aT (decide_eq_true h),yG hp ho.le hx.le,aj,cO,if_pos h]
 ·rw[aS (decide_eq_false h),cO,if_neg h]
theorem aeD (x:Int×Int) (y:Int) (h:uZ x=some y):Lm aD x=some y:=by
 obtain⟨p,x⟩:=x
 simp only[uZ] at h
 split at h
 ·rename_i hc
  obtain⟨hp,hx⟩:=hc
  have tQ:=hp.1;have qQ:=hp.2
  obtain⟨n,hn⟩:=iV (show 0<=p - 2 by omega)
  rw[<-h]
  simp only[Lm]
  rw[oY (by omega) (by omega),hn,Int.toNat_natCast]
  rw[Jz (r:=Sum.inl (gS p 1 x n)) (fun m s=>∃out x':Int,s=(p,x',out,(m:Int))/\m<=n/\fx p out/\fx p x'/\gS p out x' m=gS p 1 x n) ?_ n _ ⟨1,x,rfl,by omega,⟨by omega,by omega⟩,hx,rfl⟩ aD (cG (by omega))]
  ·rw[cO]
  ·rintro m s ⟨out,x',rfl,hm,ho,eg,he⟩
   simp only
   by_cases h0:m=0
   ·subst h0
    left
    rw[aS (eN (by omega)),<-he,Ja]
   ·right
    refine⟨m/2,_,by omega,?_,if m%2=1 then out*x'%p else out,x'*x'%p,rfl,by omega,?_,rO hp _,by rw[<-he,Jb h0]⟩
    ·rw[aT (f0 (by omega)),JY (by omega) (by omega),aj]
     have hb:fS ((m:Int)%2) 1=decide (m%2=1):=by
      by_cases h1:m%2=1
      ·rw[xG (by omega),decide_eq_true h1]
      ·rw[xF (by omega),decide_eq_false h1]
     rw[YB (o:=none) _ _ hb hp ho eg]
     simp only
     rw[yG hp eg.le eg.le,aj]
     have hq:Ew .i64 (m:Int) 2=some ((m/2:Nat):Int):=by
      unfold Ew
      rw[if_neg (by omega),Int.tdiv_eq_ediv_of_nonneg (by omega),ze (by omega) (by omega)]
      congr 1
     rw[hq,aj]
    ·split
     ·exact rO hp _
     ·exact ho
 ·cases h
theorem ad8 (x:Int×Int) (y:Int) (h:zj x=some y):KX aD x=some y:=by
 obtain⟨p,x⟩:=x
 simp only[zj,uZ] at h
 split at h
 ·rename_i hc
  obtain⟨hp,hx⟩:=hc
  have tQ:=hp.1;have qQ:=hp.2
  obtain⟨n,hn⟩:=iV (show 0<=p - 2 by omega)
  rw[<-h]
  simp only[KX]
  rw[oY (by omega) (by omega),hn,Int.toNat_natCast]
  rw[Jz (r:=Sum.inl (gS p 1 x n)) (fun m s=>∃out x':Int,s=(p,x',out,(m:Int))/\m<=n/\fx p out/\fx p x'/\gS p out x' m=gS p 1 x n) ?_ n _ ⟨1,x,rfl,by omega,⟨by omega,by omega⟩,hx,rfl⟩ aD (cG (by omega))]
  ·rw[cO]
  ·rintro m s ⟨out,x',rfl,hm,ho,eg,he⟩
   simp only
   by_cases h0:m=0
   ·subst h0
    left
    rw[aS (eN (by omega)),<-he,Ja]
   ·right
    refine⟨m/2,_,by omega,?_,if m%2=1 then out*x'%p else out,x'*x'%p,rfl,by omega,?_,rO hp _,by rw[<-he,Jb h0]⟩
    ·rw[aT (f0 (by omega))]
     have hb:fS (GN .i64 (m:Int) 1) 1=decide (m%2=1):=by
      rw[show(1:Int)=((1:Nat):Int) from rfl,acf (by omega) (by omega),Nat.and_one_is_mod]
      by_cases h1:m%2=1
      ·rw[xG (by omega),decide_eq_true h1]
      ·rw[xF (by omega),decide_eq_false h1]
     rw[YB (o:=none) _ _ hb hp ho eg]
     simp only
     rw[yG hp eg.le eg.le,aj]
     have hq:BO .i64 (m:Int) 1=some ((m/2:Nat):Int):=by
      rw[show(1:Int)=((1:Nat):Int) from rfl,anA (by omega),Nat.shiftRight_eq_div_pow]
     rw[hq,aj]
    ·split
     ·exact rO hp _
     ·exact ho
 ·cases h
def kw (W:Nat->Nat->Int) (i j:Nat):Nat->Nat->Int:=fun a b=>if a<i\/a=i/\b<j then W a b else 0
theorem ZK {r c:Nat} (W:Nat->Nat->Int) (i j:Nat):aq r c (iZ (kw W i j) i j (W i j))=aq r c (kw W i (j+1)):=by
 refine gP fun a _ b _=>?_
 unfold iZ kw
 by_cases h:a=i/\b=j
 ·obtain⟨rfl,rfl⟩:=h
  simp
 ·rw[if_neg h]
  by_cases h1:a<i\/a=i/\b<j
  ·simp only[if_pos h1,if_pos (show a<i\/a=i/\b<j+1 by omega)]
  ·simp only[if_neg h1,if_neg (show¬(a<i\/a=i/\b<j+1) by omega)]
theorem ZI {r c:Nat} (W:Nat->Nat->Int) (i:Nat):aq r c (kw W i c)=aq r c (kw W (i+1) 0):=by
 refine gP fun a _ b hb=>?_
 unfold kw
 by_cases h1:a<i\/a=i/\b<c
 ·simp only[if_pos h1,if_pos (show a<i+1\/a=i+1/\b<0 by omega)]
 ·simp only[if_neg h1,if_neg (show¬(a<i+1\/a=i+1/\b<0) by omega)]
theorem ZH {r c:Nat} (W:Nat->Nat->Int):aq r c (kw W r 0)=aq r c W:=gP fun a ha b hb=>if_pos (.inl ha)
theorem ZG {r c:Nat} (W:Nat->Nat->Int):aq r c (kw W 0 0)=aq r c fun _ _=>0:=gP fun a ha b hb=>if_neg (by omega)
theorem akw {p:Int} {k:Nat} {A A' B B':Nat->Nat->Int} {i j:Nat} (hA:∀t,t<k->A i t=A' i t) (hB:∀t,t<k->B t j=B' t j):gm p k A B i j=gm p k A' B' i j:=by
 unfold gm
 have:∀n,n<=k->kP p (fun t=>A i t) (fun t=>B t j) n=kP p (fun t=>A' i t) (fun t=>B' t j) n:=by
  intro n
  induction n with
  |zero=>intro _;rfl
  |succ n ih=>
   intro hn
   simp only[kP]
   rw[ih (by omega),hA n (by omega),hB n (by omega)]
 exact this k (Nat.le_refl k)
theorem akx {p:Int} (hp:cV p) (r c k:Nat) (A B:Nat->Nat->Int):dz p r c (gm p k A B):=fun i _ j _=>Hm hp _ _ k
theorem ZF {x:Int×(Int×Int×List Int)×(Int×Int×List Int)} (h:Ef x):∃(p:Int) (r k c:Nat) (A B:Nat->Nat->Int),x=(p,((r:Int),(k:Int),aq r k A),((k:Int),(c:Int),aq k c B))/\cV p/\
  r<=4096/\k<=4096/\c<=4096/\r*k<=1048576/\k*c<=1048576/\r*c<=1048576/\dz p r k A/\dz p k c B:=by
 obtain⟨p,a,b⟩:=x
 obtain⟨hp,ha,hb,hk,di,h1,h2⟩:=h
 obtain⟨r,k,A,rfl,q1,q2,q3⟩:=sQ ha
 obtain⟨k',c,B,rfl,q4,q5,q6⟩:=sQ hb
 simp only at hk di h1 h2
 have:k'=k:=by omega
 subst this
 have e:(r:Int)*(c:Int)=((r*c:Nat):Int):=by norm_cast
 exact⟨p,r,k',c,A,B,rfl,hp,q1,q2,q5,q3,q6,by omega,ly.1 h1,ly.1 h2⟩
theorem akz {p:Int} {r k c:Nat} {A B:Nat->Nat->Int} (hp:cV p) (hr:r<=4096) (hk:k<=4096) (hc:c<=4096) (h1:r*k<=1048576) (h2:k*c<=1048576) (h3:r*c<=1048576) (hA:dz p r k A) (hB:dz p k c B):
  Ef (p,((r:Int),(k:Int),aq r k A),((k:Int),(c:Int),aq k c B)):=by
 refine⟨hp,wu A hr hk h1,wu B hk hc h2,rfl,?_,ly.2 hA,ly.2 hB⟩
 show(r:Int)*(c:Int)<=1048576
 have e:(r:Int)*(c:Int)=((r*c:Nat):Int):=by norm_cast
 omega
theorem JL {p:Int} {r k c:Nat} {A B:Nat->Nat->Int} (hp:cV p) (hr:r<=4096) (hk:k<=4096) (hc:c<=4096) (h1:r*k<=1048576) (h2:k*c<=1048576) (h3:r*c<=1048576) (hA:dz p r k A) (hB:dz p k c B):
  pb (p,((r:Int),(k:Int),aq r k A),((k:Int),(c:Int),aq k c B))=some ((r:Int),(c:Int),aq r c (gm p k A B)):=by
 simp only[pb,Int.toNat_natCast]
 rw[if_pos (akz hp hr hk hc h1 h2 h3 hA hB)]
 exact congrArg (fun l=>some ((r:Int),(c:Int),l)) (gP fun i hi j hj=>akw (fun t ht=>mU A hi ht) (fun t ht=>mU B ht hj))
theorem ae1 {p:Int} {r k c:Nat} {A B:Nat->Nat->Int} (hp:cV p) (hr:r<=4096) (hk:k<=4096) (hc:c<=4096) (h1:r*k<=1048576) (h2:k*c<=1048576) (h3:r*c<=1048576) (hA:dz p r k A) (hB:dz p k c B):
  Fx aD (p,((r:Int),(k:Int),aq r k A),((k:Int),(c:Int),aq k c B))=some ((r:Int),(c:Int),aq r c (gm p k A B)):=by
 simp only[Fx,QU hr hc h3,aj,bK]
 rw[show ab 0 0 (J ([]:List Int))=some () from rfl,aj]
 rw[ew (r:=Sum.inl (((0:Int),(0:Int)),((r:Int),(c:Int)),([]:List Int),aq r c (gm p k A B))) (fun i=>((p,(i:Int)),((r:Int),(k:Int),aq r k A),((k:Int),(c:Int),aq k c B),((0:Int),(0:Int)),((r:Int),(c:Int)),([]:List Int),aq r c (kw (gm p k A B) i 0))) r ?_ ?_ ?_ (cG (by omega))]
 ·rw[cO];simp only[gV,aj]
 ·intro i hi
  simp only
  rw[aT (eW hi)]
  rw[ew (r:=Sum.inl (((i:Int),p),((r:Int),(k:Int),aq r k A),((k:Int),(c:Int),aq k c B),((0:Int),(0:Int)),((r:Int),(c:Int)),([]:List Int),aq r c (kw (gm p k A B) (i+1) 0))) (fun j=>((p,(i:Int),(j:Int)),((r:Int),(k:Int),aq r k A),((k:Int),(c:Int),aq k c B),((0:Int),(0:Int)),((r:Int),(c:Int)),([]:List Int),aq r c (kw (gm p k A B) i j))) c ?_ ?_ ?_ (cG (by omega))]
  ·rw[cO];simp only[eA (show i<=1048577 by omega)]
  ·intro j hj
   simp only
   rw[aT (eW hj)]
   rw[ew (r:=Sum.inl ((gm p k A B i j,(j:Int),p,(i:Int)),((r:Int),(k:Int),aq r k A),((k:Int),(c:Int),aq k c B),((0:Int),(0:Int)),((r:Int),(c:Int)),([]:List Int),aq r c (kw (gm p k A B) i j))) (fun t=>((p,(i:Int),(j:Int),kP p (fun t=>A i t) (fun t=>B t j) t,(t:Int)),((r:Int),(k:Int),aq r k A),((k:Int),(c:Int),aq k c B),((0:Int),(0:Int)),((r:Int),(c:Int)),([]:List Int),aq r c (kw (gm p k A B) i j))) k ?_ ?_ ?_ (cG (by omega))]
   ·rw[cO]
    simp only[k8 (show i<=1048576 by omega) (show c<=1048576 by omega) (show j<=1048576 by omega),qw _ hi hj,aj,lx,qG _ hi hj,yU _ hj,lE,ZK (r:=r) (c:=c)]
    rw[cO]
    simp only[eA (show j<=1048577 by omega)]
   ·intro t ht
    simp only
    rw[aT (eW ht),k8 (by omega) (by omega) (by omega),k8 (by omega) (by omega) (by omega),zZ A hi ht,aj,zZ B ht hj,aj,Ec hp ((Hm hp _ _ t).s hp) (hA i hi t ht).le (hB t ht j hj).le,aj]
    simp only[eA (show t<=1048577 by omega),kP]
   ·simp only
    rw[aS (fo (Nat.le_refl k))]
    rfl
   ·rfl
  ·simp only
   rw[aS (fo (Nat.le_refl c)),ZI]
  ·rfl
 ·simp only
  rw[aS (fo (Nat.le_refl r)),ZH]
 ·rw[ZG];rfl
theorem aeE (x:Int×(Int×Int×List Int)×(Int×Int×List Int)) (y:Int×Int×List Int) (h:pb x=some y):Fx aD x=some y:=by
 have h0:=h
 simp only[pb] at h
 split at h
 ·rename_i hc
  obtain⟨p,r,k,c,A,B,rfl,hp,hr,hk,hc,h1,h2,h3,hA,hB⟩:=ZF hc
  rw[<-h0,ae1 hp hr hk hc h1 h2 h3 hA hB,JL hp hr hk hc h1 h2 h3 hA hB]
 ·cases h
theorem ae0 {p:Int} {r k c:Nat} {A B:Nat->Nat->Int} (hp:cV p) (hr:r<=4096) (hk:k<=4096) (hc:c<=4096) (h1:r*k<=1048576) (h2:k*c<=1048576) (h3:r*c<=1048576) (hA:dz p r k A) (hB:dz p k c B):
  Fs aD (p,((r:Int),(k:Int),aq r k A),((k:Int),(c:Int),aq k c B))=some ((r:Int),(c:Int),aq r c (gm p k A B)):=by
 simp only[Fs,QT hr hc h3,aj,bK]
 rw[show ab 0 0 (J ([]:List Int))=some () from rfl,aj]
 rw[ew (r:=Sum.inl (((0:Int),(0:Int)),((r:Int),(c:Int)),([]:List Int),aq r c (gm p k A B))) (fun i=>((p,(i:Int)),((r:Int),(k:Int),aq r k A),((k:Int),(c:Int),aq k c B),((0:Int),(0:Int)),((r:Int),(c:Int)),([]:List Int),aq r c (kw (gm p k A B) i 0))) r ?_ ?_ ?_ (cG (by omega))]
 ·rw[cO];simp only[gV,aj]
 ·intro i hi
  simp only
  rw[aT (eW hi)]
  rw[ew (r:=Sum.inl (((i:Int),p),((r:Int),(k:Int),aq r k A),((k:Int),(c:Int),aq k c B),((0:Int),(0:Int)),((r:Int),(c:Int)),([]:List Int),aq r c (kw (gm p k A B) (i+1) 0))) (fun j=>((p,(i:Int),(j:Int)),((r:Int),(k:Int),aq r k A),((k:Int),(c:Int),aq k c B),((0:Int),(0:Int)),((r:Int),(c:Int)),([]:List Int),aq r c (kw (gm p k A B) i j))) c ?_ ?_ ?_ (cG (by omega))]
  ·rw[cO];simp only[eA (show i<=1048577 by omega)]
  ·intro j hj
   simp only
   rw[aT (eW hj)]
   rw[ew (r:=Sum.inl ((gm p k A B i j,(j:Int),p,(i:Int)),((r:Int),(k:Int),aq r k A),((k:Int),(c:Int),aq k c B),((0:Int),(0:Int)),((r:Int),(c:Int)),([]:List Int),aq r c (kw (gm p k A B) i j))) (fun t=>((p,(i:Int),(j:Int),kP p (fun t=>A i t) (fun t=>B t j) t,(t:Int)),((r:Int),(k:Int),aq r k A),((k:Int),(c:Int),aq k c B),((0:Int),(0:Int)),((r:Int),(c:Int)),([]:List Int),aq r c (kw (gm p k A B) i j))) k ?_ ?_ ?_ (cG (by omega))]
   ·rw[cO]
    simp only[wO hr hc h3 hi hj,aj,lE,ZK (r:=r) (c:=c)]
    rw[cO]
    simp only[eA (show j<=1048577 by omega)]
   ·intro t ht
    simp only
    rw[aT (eW ht),nf hr hk h1 hi ht,aj,nf hk hc h2 ht hj,aj,Ec hp ((Hm hp _ _ t).s hp) (hA i hi t ht).le (hB t ht j hj).le,aj]
    simp only[eA (show t<=1048577 by omega),kP]
   ·simp only
    rw[aS (fo (Nat.le_refl k))]
    rfl
   ·rfl
  ·simp only
   rw[aS (fo (Nat.le_refl c)),ZI]
  ·rfl
 ·simp only
  rw[aS (fo (Nat.le_refl r)),ZH]
 ·rw[ZG];rfl
theorem ad9 (x:Int×(Int×Int×List Int)×(Int×Int×List Int)) (y:Int×Int×List Int) (h:uT x=some y):Fs aD x=some y:=by
 have h0:pb x=some y:=h
 simp only[uT,pb] at h
 split at h
 ·rename_i hc
  obtain⟨p,r,k,c,A,B,rfl,hp,hr,hk,hc,h1,h2,h3,hA,hB⟩:=ZF hc
  rw[<-h0,ae0 hp hr hk hc h1 h2 h3 hA hB,JL hp hr hk hc h1 h2 h3 hA hB]
 ·cases h
end Go.Am
end
section
namespace Go.Am
def aa2 (x:Int×Int×Int):Prop:=fm x.1=true/\(1<=x.2.1/\x.2.1<=8)/\(1<=x.2.2/\x.2.2<=8)
instance (x:Int×Int×Int):Decidable (aa2 x):=by unfold aa2;infer_instance
theorem ahs {p:Int} {r c:Nat} {l:List Int} (h:l.length=r*c) (hr:ic p l=true):dz p r c (c8 c l):=by
 apply ly.1
 rw[qF h]
 intro x hx
 have:=List.all_eq_true.1 hr x hx
 exact of_decide_eq_true this
theorem ajD {m:Int} {x:Int×Int×List Int} (h:nJ m x=true):∃(r c:Nat) (M:Nat->Nat->Int),x=((r:Int),(c:Int),aq r c M)/\cV m/\r<=64/\c<=64/\r*c<=4096/\dz m r c M:=by
 obtain⟨r,c,l⟩:=x
 simp only[nJ,Bool.and_eq_true,decide_eq_true_eq] at h
 obtain⟨h1,h2,h3,h4,h5⟩:=h
 obtain⟨r,rfl⟩:=iV (z:=r) (by omega)
 obtain⟨c,rfl⟩:=iV (z:=c) (by omega)
 have hl:l.length=r*c:=by
  have e:(r:Int)*(c:Int)=((r*c:Nat):Int):=by norm_cast
  omega
 have di:r*c<=64*64:=Nat.mul_le_mul (by omega) (by omega)
 exact⟨r,c,c8 c l,by rw[qF hl],sk h1,by omega,by omega,by omega,ahs hl h5⟩
theorem zy {x y:Nat} (h:x+y<=1099511627776):aW .i64 (x:Int) (y:Int)=((x+y:Nat):Int):=by
 rw[j3 (by omega) (by omega)]
 omega
end Go.Am
end
section
namespace Go.Am
abbrev bC:=Nat->Nat->Int
def uC (p inv:Int) (M:bC) (t n:Nat):bC:=fun a b=>if a=t/\b<n then M t b*inv%p else M a b
def uB (p inv:Int) (M:bC) (t:Nat):bC:=fun a b=>if a=t then M t b*inv%p else M a b
def eJ (p:Int) (M:bC) (t j n:Nat):bC:=fun a b=>if a<n/\a≠t then(M a b+(p - M a j)*M t b)%p else M a b
def pW (p:Int) (M:bC) (t j k:Nat):bC:=uB p (gS p 1 (eH M t k t j) (p - 2).toNat) (eH M t k) t
def Bx (p:Int) (M:bC) (t j k:Nat) (d:Int):Int:=(if k=t then d else(p - d)%p)*eH M t k t j%p
def lY (p:Int) (r:Nat) (s:bC×List Int×Int) (j:Nat):bC×List Int×Int:=
 if s.2.1.length<r then
  match ib s.1 j (r - s.2.1.length) s.2.1.length with
  |none=>s
  |some k=>(eJ p (pW p s.1 s.2.1.length j k) s.2.1.length j r,s.2.1++[(j:Int)],Bx p s.1 s.2.1.length j k s.2.2)
 else s
def fC (p:Int) (r:Nat) (M:bC):Nat->bC×List Int×Int
 |0=>(M,[],1)
 |j+1=>lY p r (fC p r M j) j
def Bz (x:Int×Int×Int×List Int):Prop:=cV x.1/\mS x.2/\eB x.1 x.2.2.2
instance (x:Int×Int×Int×List Int):Decidable (Bz x):=by unfold Bz;infer_instance
def rk (x:Int×Int×Int×List Int):bC×List Int×Int:=fC x.1 x.2.1.toNat (c8 x.2.2.1.toNat x.2.2.2) x.2.2.1.toNat
def zu:Int×Int×Int×List Int->Option ((Int×Int×List Int)×List Int×Int):=fun(x:Int×Int×Int×List Int)=>
 if Bz x then some ((x.2.1,x.2.2.1,aq x.2.1.toNat x.2.2.1.toNat (rk x).1),(rk x).2) else none
def zl:Int×Int×Int×List Int->Option ((Int×Int×List Int)×List Int):=fun(x:Int×Int×Int×List Int)=>
 if Bz x then some ((x.2.1,x.2.2.1,aq x.2.1.toNat x.2.2.1.toNat (rk x).1),(rk x).2.1) else none
def GC:ao:=[(.one,[.int .i64]),(.agg,[.int .i64,.int .i64,.list [.int .i64]])]
def Si:ao:=[(.agg,[.int .i64,.int .i64,.list [.int .i64]]),(.one,[.list [.int .i64]]),(.one,[.int .i64])]
def akm:aY:=[]
def F4:ao:=[(.one,[.int .i64]),(.agg,[.int .i64,.int .i64,.list [.int .i64]])]
def RJ:ao:=[(.agg,[.int .i64,.int .i64,.list [.int .i64]]),(.one,[.list [.int .i64]])]
def ajU:aY:=[]
def FA (NN:Nat):(Int×(Int×(Int×(List Int))))->(Option ((Int×(Int×(List Int)))×((List Int)×Int))):=
 (fun((i0,i1,i2,l3):(Int×(Int×(Int×(List Int)))))=>
 (jZ l3).U (fun l4=>
 bL ((ab 0 0 (J (([]:List Int)))).U (fun _=>
 (ab 0 0 (J (([]:List Int)))).U (fun _=>
 (ab 0 (J l4) (J l4)).U (fun _=>
 bd NN (fun(((i5,i6,i7),(i8,i9,e9),(cF,cU),(dB,c7),cg,dL,ci):((Int×(Int×Int))×((Int×(Int×(List Int)))×((Int×Int)×((Int×Int)×((List Int)×((List Int)×(List Int))))))))=>
 aw (bi i7 i9)
 (aw (bi (aM (J ci)) i8)
 (bL ((bG dL 0 (J dL)).U (fun gD=>
 (xf ((dB,c7,gD),aM (J ci),i7)).U (fun eU=>
 aw (bi eU (0:Int))
 ((ab 0 (J ci) (J ci)).U (fun _=>
 (ab 0 (J cg) (J cg)).U (fun _=>
 (ab 0 (J dL) (J dL)).U (fun _=>
 some (Sum.inl ((i7,i5,i6),(i8,i9,e9),(cF,cU),(dB,c7),cg,dL,ci))))))
 (bL (aw (dd eU (aM (J ci)))
 ((ab 0 (J dL) (J dL)).U (fun _=>
 (rD ((dB,c7,dL),aM (J ci),eU)).U (fun fy=>
 (fD (jR .i64 i5 i6) i5).U (fun iP=>
 (ab 0 (J ci) (J ci)).U (fun _=>
 (ab 0 (J cg) (J cg)).U (fun _=>
 (ab 0 (J dL) (J fy)).U (fun _=>
 some (Sum.inl ((iP,aM (J ci),i7,i5),(i8,i9,e9),(cF,cU),(dB,c7),cg,fy,ci)))))))))
 ((ab 0 (J ci) (J ci)).U (fun _=>
 (ab 0 (J cg) (J cg)).U (fun _=>
 (ab 0 (J dL) (J dL)).U (fun _=>
 some (Sum.inl ((i6,aM (J ci),i7,i5),(i8,i9,e9),(cF,cU),(dB,c7),cg,dL,ci)))))))
 (fun((jl,jG,lK,kc),(kf,jH,ko),(sa,mK),(iQ,DI),dN,dO,lP)=>
 (dU (aW .i64 (cK .i64 jG jH) lK) (J dO)).U (fun k36=>
 (db dO (aH 0 k36)).U (fun qX=>
 (fD (cK .i64 jl qX) kc).U (fun oA=>
 (uZ (kc,qX)).U (fun oB=>
 bL ((ab 0 (J lP) (J lP)).U (fun _=>
 (ab 0 (J dN) (J dN)).U (fun _=>
 (ab 0 (J dO) (J dO)).U (fun _=>
 bd NN (fun(((qY,oC,ki,iR,jI,ix),(oD,g9,nD),(oE,lL),(jn,jJ),lc,eu,dP):((Int×(Int×(Int×(Int×(Int×Int)))))×((Int×(Int×(List Int)))×((Int×Int)×((Int×Int)×((List Int)×((List Int)×(List Int))))))))=>
 aw (bi ix g9)
 ((dU (aW .i64 (cK .i64 iR g9) ix) (J eu)).U (fun k56=>
 (db eu (aH 0 k56)).U (fun oF=>
 (fD (cK .i64 oF jI) qY).U (fun nz=>
 (dU (aW .i64 (cK .i64 iR g9) ix) (J eu)).U (fun OW=>
 (db eu (aH 0 OW)).U (fun pG=>
 (ab 0 (J dP) (J dP)).U (fun _=>
 (ab 0 (J lc) (J lc)).U (fun _=>
 (ab 0 (J eu) (J (cb eu (aH 0 OW) nz))).U (fun _=>
 some (Sum.inl ((qY,oC,ki,iR,jI,aW .i64 ix 1),(oD,g9,nD),(oE,lL),(jn,jJ),lc,cb eu (aH 0 OW) nz,dP)))))))))))
 (((ab 0 (J dP) (J dP)).U (fun _=>
 (ab 0 (J lc) (J lc)).U (fun _=>
 (ab 0 (J eu) (J eu)).U (fun _=>
 some (Sum.inl ((oC,qY,ki,iR),(oD,g9,nD),(oE,lL),(jn,jJ),lc,eu,dP)))))).U (fun jq=>
 some (Sum.inr jq))))
 ((kc,oA,lK,jG,oB,(0:Int)),(kf,jH,ko),(sa,mK),(iQ,DI),dN,dO,lP)))))
 (fun((DM,kj,i64,sb),(vR,ua,lT),(OD,ym),(yn,oG),D7,mN,iU)=>
 bL ((ab 0 (J iU) (J iU)).U (fun _=>
 (ab 0 (J D7) (J D7)).U (fun _=>
 (ab 0 (J mN) (J mN)).U (fun _=>
 bd NN (fun(((lM,jK,iS,fL,hH),(vT,AF,fb),(sd,yp),(ub,nA),nI,ku,mQ):((Int×(Int×(Int×(Int×Int))))×((Int×(Int×(List Int)))×((Int×Int)×((Int×Int)×((List Int)×((List Int)×(List Int))))))))=>
 aw (bi hH vT)
 (aw (dd hH fL)
 ((dU (aW .i64 (cK .i64 hH AF) iS) (J ku)).U (fun k91=>
 (db ku (aH 0 k91)).U (fun ue=>
 (ab 0 (J ku) (J ku)).U (fun _=>
 (xd (lM,(ub,nA,ku),hH,fL,ue)).U (fun yD=>
 (ab 0 (J mQ) (J mQ)).U (fun _=>
 (ab 0 (J nI) (J nI)).U (fun _=>
 (ab 0 (J ku) (J yD)).U (fun _=>
 some (Sum.inl ((lM,jK,iS,fL,aW .i64 hH 1),(vT,AF,fb),(sd,yp),(ub,nA),nI,yD,mQ))))))))))
 ((ab 0 (J mQ) (J mQ)).U (fun _=>
 (ab 0 (J nI) (J nI)).U (fun _=>
 (ab 0 (J ku) (J ku)).U (fun _=>
 some (Sum.inl ((lM,jK,iS,fL,aW .i64 hH 1),(vT,AF,fb),(sd,yp),(ub,nA),nI,ku,mQ)))))))
 (((ab 0 (J mQ) (J mQ)).U (fun _=>
 (ab 0 (J nI) (J nI)).U (fun _=>
 (ab 0 (J ku) (J ku)).U (fun _=>
 some (Sum.inl ((iS,lM,jK),(vT,AF,fb),(sd,yp),(ub,nA),nI,ku,mQ)))))).U (fun wm=>
 some (Sum.inr wm))))
 ((kj,DM,i64,sb,(0:Int)),(vR,ua,lT),(OD,ym),(yn,oG),D7,mN,iU)))))
 (fun((jL,q9,AG),(AH,vV,nC),(Av,vP),(t7,nv),oJ,gi,iy)=>
 (ab 0 (J iy) (J iy)).U (fun _=>
 (bG ((jL::([]:List Int))) 0 1).U (fun lb=>
 (iL (aH (J iy) (J lb)) 8).U (fun _=>
 (ab 0 (aH (J iy) (J lb)) (J (bY iy lb))).U (fun _=>
 (ab 0 (J oJ) (J oJ)).U (fun _=>
 (ab 0 (J gi) (J gi)).U (fun _=>
 some (Sum.inl ((jL,q9,AG),(AH,vV,nC),(Av,vP),(t7,nv),oJ,gi,bY iy lb)))))))))))))))))))
 (fun((Ax,r9,qW),(oz,yj,uh),(agf,Io),(Ay,On),pL,pM,pN)=>
 (ab 0 (J pN) (J pN)).U (fun _=>
 (ab 0 (J pL) (J pL)).U (fun _=>
 (ab 0 (J pM) (J pM)).U (fun _=>
 some (Sum.inl ((r9,qW,aW .i64 Ax 1),(oz,yj,uh),(agf,Io),(Ay,On),pL,pM,pN)))))))
 (((ab 0 (J ci) (J ci)).U (fun _=>
 (ab 0 (J cg) (J cg)).U (fun _=>
 (ab 0 (J dL) (J dL)).U (fun _=>
 some (Sum.inl (i6,(cF,cU),(dB,c7),cg,dL,ci)))))).U (fun wa=>
 some (Sum.inr wa))))
 (((ab 0 (J ci) (J ci)).U (fun _=>
 (ab 0 (J cg) (J cg)).U (fun _=>
 (ab 0 (J dL) (J dL)).U (fun _=>
 some (Sum.inl (i6,(cF,cU),(dB,c7),cg,dL,ci)))))).U (fun wb=>
 some (Sum.inr wb))))
 ((i0,(1:Int),(0:Int)),(i1,i2,l3),((0:Int),(0:Int)),(i1,i2),([]:List Int),l4,([]:List Int))))))
 (fun(Oo,(Az,DB),(vQ,AA),O1,YO,AQ)=>
 (cP YO (J YO)).U (fun DU=>
 (cP AQ (J AQ)).U (fun DV=>
 some ((vQ,AA,DU),DV,Oo))))))
def Fu (NN:Nat):(Int×(Int×(Int×(List Int))))->(Option ((Int×(Int×(List Int)))×(List Int))):=
 (fun((i0,i1,i2,l3):(Int×(Int×(Int×(List Int)))))=>
 (zi (i1,i2,l3)).U (fun(i4,i5,l6)=>
 bL ((ab 0 0 (J (([]:List Int)))).U (fun _=>
 (ab 0 0 (J (([]:List Int)))).U (fun _=>
 (ab 0 (J l6) (J l6)).U (fun _=>
 bd NN (fun(((i7,i8),(i9,cf),(cF,cU),hY,fW,cg):((Int×Int)×((Int×Int)×((Int×Int)×((List Int)×((List Int)×(List Int)))))))=>
 aw (bi i8 cU)
 (bL (bL ((ab 0 (J cg) (J cg)).U (fun _=>
 (ab 0 (J hY) (J hY)).U (fun _=>
 (ab 0 (J fW) (J fW)).U (fun _=>
 bd NN (fun(((eM,jk,fj,eU),(iO,iP),(jl,jG),fz,eE,dM):((Int×(Int×(Int×Int)))×((Int×Int)×((Int×Int)×((List Int)×((List Int)×(List Int)))))))=>
 aw (bi eU jl)
 ((bG eE 0 (J eE)).U (fun ui=>
 (jv ((jl,jG,ui),eU,jk)).U (fun gR=>
 aw (fS gR (0:Int))
 ((ab 0 (J dM) (J dM)).U (fun _=>
 (ab 0 (J fz) (J fz)).U (fun _=>
 (ab 0 (J eE) (J eE)).U (fun _=>
 some (Sum.inl ((eM,jk,fj,aW .i64 eU 1),(iO,iP),(jl,jG),fz,eE,dM))))))
 (((ab 0 (J dM) (J dM)).U (fun _=>
 (ab 0 (J fz) (J fz)).U (fun _=>
 (ab 0 (J eE) (J eE)).U (fun _=>
 some (Sum.inl ((eU,fj,jk,eM),(iO,iP),(jl,jG),fz,eE,dM)))))).U (fun iz=>
 some (Sum.inr iz))))))
 (((ab 0 (J dM) (J dM)).U (fun _=>
 (ab 0 (J fz) (J fz)).U (fun _=>
 (ab 0 (J eE) (J eE)).U (fun _=>
 some (Sum.inl ((eU,fj,jk,eM),(iO,iP),(jl,jG),fz,eE,dM)))))).U (fun gT=>
 some (Sum.inr gT))))
 ((i7,i8,aM (J cg),aM (J cg)),(i9,cf),(cF,cU),hY,fW,cg)))))
 (fun((iQ,DI,pF,nw),(k7,kg),(qX,oA),fa,eV,kt)=>
 aw (fS iQ qX)
 ((ab 0 (J kt) (J kt)).U (fun _=>
 (ab 0 (J fa) (J fa)).U (fun _=>
 (ab 0 (J eV) (J eV)).U (fun _=>
 some (Sum.inl ((pF,nw),(k7,kg),(qX,oA),fa,eV,kt))))))
 ((ab 0 (J eV) (J eV)).U (fun _=>
 (zh ((qX,oA,eV),DI,iQ)).U (fun D5=>
 (bG D5 0 (J eV)).U (fun Bc=>
 (jv ((qX,oA,Bc),DI,pF)).U (fun jI=>
 (zj (nw,jI)).U (fun ix=>
 bL ((ab 0 (J kt) (J kt)).U (fun _=>
 (ab 0 (J fa) (J fa)).U (fun _=>
 (ab 0 (J eV) (J D5)).U (fun _=>
 bd NN (fun(((oD,g9,jm,oE,lL),(jn,jJ),(mL,t8),dP,lQ,nE):((Int×(Int×(Int×(Int×Int))))×((Int×Int)×((Int×Int)×((List Int)×((List Int)×(List Int)))))))=>
 aw (bi lL t8)
 ((bG lQ 0 (J lQ)).U (fun yB=>
 (jv ((mL,t8,yB),jm,lL)).U (fun yk=>
 (fD (cK .i64 yk oE) oD).U (fun pG=>
 (ab 0 (J lQ) (J lQ)).U (fun _=>
 (nW ((mL,t8,lQ),jm,lL,pG)).U (fun jq=>
 (ab 0 (J nE) (J nE)).U (fun _=>
 (ab 0 (J dP) (J dP)).U (fun _=>
 (ab 0 (J lQ) (J jq)).U (fun _=>
 some (Sum.inl ((oD,g9,jm,oE,aW .i64 lL 1),(jn,jJ),(mL,t8),dP,jq,nE)))))))))))
 (((ab 0 (J nE) (J nE)).U (fun _=>
 (ab 0 (J dP) (J dP)).U (fun _=>
 (ab 0 (J lQ) (J lQ)).U (fun _=>
 some (Sum.inl ((oD,g9,jm),(jn,jJ),(mL,t8),dP,lQ,nE)))))).U (fun lR=>
 some (Sum.inr lR))))
 ((nw,pF,DI,ix,(0:Int)),(k7,kg),(qX,oA),fa,D5,kt)))))
 (fun((kj,i64,sb),(vR,ua),(vS,OD),nF,nG,D6)=>
 bL ((ab 0 (J D6) (J D6)).U (fun _=>
 (ab 0 (J nF) (J nF)).U (fun _=>
 (ab 0 (J nG) (J nG)).U (fun _=>
 bd NN (fun(((jo,qZ,yo,lM),(jK,iS),(fL,hH),fY,eF,fb):((Int×(Int×(Int×Int)))×((Int×Int)×((Int×Int)×((List Int)×((List Int)×(List Int)))))))=>
 aw (bi lM fL)
 (aw (dd lM yo)
 ((bG eF 0 (J eF)).U (fun nH=>
 (jv ((fL,hH,nH),lM,qZ)).U (fun yp=>
 aw (dd yp (0:Int))
 ((bG eF 0 (J eF)).U (fun mP=>
 (jv ((fL,hH,mP),lM,qZ)).U (fun nA=>
 (ab 0 (J eF) (J eF)).U (fun _=>
 (w9 ((fL,hH,eF),jo,lM,yo,jR .i64 jo nA)).U (fun nI=>
 (ab 0 (J fb) (J fb)).U (fun _=>
 (ab 0 (J fY) (J fY)).U (fun _=>
 (ab 0 (J eF) (J nI)).U (fun _=>
 some (Sum.inl ((jo,qZ,yo,aW .i64 lM 1),(jK,iS),(fL,hH),fY,nI,fb))))))))))
 ((ab 0 (J fb) (J fb)).U (fun _=>
 (ab 0 (J fY) (J fY)).U (fun _=>
 (ab 0 (J eF) (J eF)).U (fun _=>
 some (Sum.inl ((jo,qZ,yo,aW .i64 lM 1),(jK,iS),(fL,hH),fY,eF,fb)))))))))
 ((ab 0 (J fb) (J fb)).U (fun _=>
 (ab 0 (J fY) (J fY)).U (fun _=>
 (ab 0 (J eF) (J eF)).U (fun _=>
 some (Sum.inl ((jo,qZ,yo,aW .i64 lM 1),(jK,iS),(fL,hH),fY,eF,fb)))))))
 (((ab 0 (J fb) (J fb)).U (fun _=>
 (ab 0 (J fY) (J fY)).U (fun _=>
 (ab 0 (J eF) (J eF)).U (fun _=>
 some (Sum.inl ((qZ,jo),(jK,iS),(fL,hH),fY,eF,fb)))))).U (fun ku=>
 some (Sum.inr ku))))
 ((kj,i64,sb,(0:Int)),(vR,ua),(vS,OD),nF,nG,D6)))))
 (fun((q8,vU),(ue,pH),(sf,jL),sO,jO,iB)=>
 (ab 0 (J iB) (J iB)).U (fun _=>
 (bG ((q8::([]:List Int))) 0 1).U (fun kv=>
 (iL (aH (J iB) (J kv)) 8).U (fun _=>
 (ab 0 (aH (J iB) (J kv)) (J (bY iB kv))).U (fun _=>
 (ab 0 (J sO) (J sO)).U (fun _=>
 (ab 0 (J jO) (J jO)).U (fun _=>
 some (Sum.inl ((q8,vU),(ue,pH),(sf,jL),sO,jO,bY iB kv))))))))))))))))))
 (fun((yi,Av),(vP,t7),(nv,Aw),gi,iy,lb)=>
 (ab 0 (J lb) (J lb)).U (fun _=>
 (ab 0 (J gi) (J gi)).U (fun _=>
 (ab 0 (J iy) (J iy)).U (fun _=>
 some (Sum.inl ((Av,aW .i64 yi 1),(vP,t7),(nv,Aw),gi,iy,lb)))))))
 (((ab 0 (J cg) (J cg)).U (fun _=>
 (ab 0 (J hY) (J hY)).U (fun _=>
 (ab 0 (J fW) (J fW)).U (fun _=>
 some (Sum.inl ((i9,cf),(cF,cU),hY,fW,cg)))))).U (fun yz=>
 some (Sum.inr yz))))
 ((i0,(0:Int)),((0:Int),(0:Int)),(i4,i5),([]:List Int),l6,([]:List Int))))))
 (fun((r9,qW),(oz,yj),uh,v8,Jh)=>
 (cP v8 (J v8)).U (fun aiE=>
 (cP Jh (J Jh)).U (fun v9=>
 some ((oz,yj,aiE),v9))))))
theorem abn (P:Nat->Prop) [DecidablePred P]:∀c:Nat,∃n,n<=c/\(∀j,j<n->P j)/\(n=c\/¬P n)
 |0=>⟨0,Nat.le_refl 0,fun j hj=>absurd hj (Nat.not_lt_zero j),.inl rfl⟩
 |c+1=>by
  obtain⟨n,h1,h2,h3⟩:=abn P c
  by_cases h:P n
  ·rcases h3 with h3|h3
   ·subst h3
    refine⟨n+1,Nat.le_refl _,fun j hj=>?_,.inl rfl⟩
    by_cases jD:j=n
    ·subst jD;exact h
    ·exact h2 j (by omega)
   ·exact absurd h h3
  ·exact⟨n,by omega,h2,.inr h⟩
theorem Kw {p:Int} {r c:Nat} {M:bC} (hM:dz p r c M) {a b:Nat} (ha:a<r) (hb:b<r):dz p r c (eH M a b):=by
 intro i hi j hj
 unfold eH
 split
 ·exact hM b hb j hj
 ·split
  ·exact hM a ha j hj
  ·exact hM i hi j hj
theorem an2 (M:bC) (a:Nat):eH M a a=M:=by
 funext i j
 unfold eH
 split
 ·rename_i h;rw[h]
 ·rfl
theorem aaE {p inv:Int} {r c:Nat} {M:bC} (hp:cV p) (hM:dz p r c M) (t:Nat):dz p r c (uB p inv M t):=by
 intro i hi j hj
 unfold uB
 split
 ·exact rO hp _
 ·exact hM i hi j hj
theorem L6 {p:Int} {r c:Nat} {M:bC} (hp:cV p) (hM:dz p r c M) (t k n:Nat):dz p r c (eJ p M t k n):=by
 intro i hi j hj
 unfold eJ
 split
 ·exact rO hp _
 ·exact hM i hi j hj
theorem QZ {p:Int} (hp:cV p):fx p 1:=⟨by omega,by have:=hp.1;omega⟩
theorem Q7 {p:Int} {r c:Nat} {M:bC} (hp:cV p) (hM:dz p r c M) {t k:Nat} (ht:t<r) (hk:k<r) (j:Nat):dz p r c (pW p M t j k):=aaE hp (Kw hM ht hk) t
structure RI (p:Int) (r c:Nat) (s:bC×List Int×Int) (j:Nat):Prop where
 m:dz p r c s.1
 l:s.2.1.length<=r
 lj:s.2.1.length<=j
 d:fx p s.2.2
 e:∀x∈s.2.1,0<=x/\x<(j:Int)
theorem RI.step {p:Int} {r c:Nat} {s:bC×List Int×Int} {j:Nat} (hp:cV p) (h:RI p r c s j):RI p r c (lY p r s j) (j+1):=by
 have ek:RI p r c s (j+1):=⟨h.m,h.l,by have:=h.lj;omega,h.d,fun x hx=>by have:=h.e x hx;omega⟩
 unfold lY
 split
 ·rename_i hl
  split
  ·exact ek
  ·rename_i k hk
   have hq:=Eu hk
   refine⟨L6 hp (Q7 hp h.m hl (by omega) j) _ _ _,?_,?_,rO hp _,?_⟩
   ·simp only[List.length_append,List.length_cons,List.length_nil];omega
   ·have:=h.lj
    simp only[List.length_append,List.length_cons,List.length_nil];omega
   ·intro x hx
    simp only[List.mem_append,List.mem_singleton] at hx
    rcases hx with hx|rfl
    ·have:=h.e x hx;omega
    ·omega
 ·exact ek
theorem JW {p:Int} {r c:Nat} {M:bC} (hp:cV p) (hM:dz p r c M):∀j,RI p r c (fC p r M j) j
 |0=>⟨hM,Nat.zero_le _,Nat.le_refl 0,QZ hp,fun x hx=>absurd hx (List.not_mem_nil)⟩
 |j+1=>(JW hp hM j).step hp
theorem aal {p:Int} {r:Nat} {M:bC} {n:Nat} (h:¬(fC p r M n).2.1.length<r):∀d,fC p r M (n+d)=fC p r M n
 |0=>rfl
 |d+1=>by
  have ih:=aal h d
  show lY p r (fC p r M (n+d)) (n+d)=_
  rw[ih,lY,if_neg h]
theorem aaI {r c:Nat} {p inv:Int} (M:bC) (t n:Nat):aq r c (iZ (uC p inv M t n) t n (M t n*inv%p))=aq r c (uC p inv M t (n+1)):=by
 refine gP fun a _ b _=>?_
 unfold iZ uC
 by_cases h:a=t/\b=n
 ·obtain⟨rfl,rfl⟩:=h
  simp
 ·rw[if_neg h]
  by_cases h1:a=t/\b<n
  ·rw[if_pos h1,if_pos ⟨h1.1,by omega⟩]
  ·rw[if_neg h1,if_neg (by omega)]
theorem aaF {p inv:Int} (M:bC) (t:Nat):uC p inv M t 0=M:=by funext a b;exact if_neg (by omega)
theorem aaH {p inv:Int} (M:bC) (t n:Nat):uC p inv M t n t n=M t n:=if_neg (by omega)
theorem aaG {r c:Nat} {p inv:Int} (M:bC) (t:Nat):aq r c (uC p inv M t c)=aq r c (uB p inv M t):=by
 refine gP fun a _ b hb=>?_
 unfold uC uB
 by_cases h:a=t
 ·rw[if_pos ⟨h,hb⟩,if_pos h]
 ·rw[if_neg (fun q=>h q.1),if_neg h]
theorem L5 {p:Int} (M:bC) (t j:Nat):eJ p M t j 0=M:=by funext a b;exact if_neg (by omega)
theorem CA {p:Int} (M:bC) (t j n b:Nat):eJ p M t j n n b=M n b:=if_neg (by omega)
theorem VF {p:Int} (M:bC) (t j n b:Nat):eJ p M t j n t b=M t b:=if_neg (by omega)
theorem L7 {p:Int} (M:bC) (t j:Nat):eJ p M t j (t+1)=eJ p M t j t:=by
 funext a b
 unfold eJ
 by_cases h:a<t
 ·rw[if_pos (by omega),if_pos (by omega)]
 ·rw[if_neg (by omega),if_neg (by omega)]
theorem VG {r c:Nat} {p:Int} (M:bC) (t j n:Nat) (hn:n≠t):aq r c (n9 p (eJ p M t j n) n t (p - M n j))=aq r c (eJ p M t j (n+1)):=by
 refine gP fun a _ b _=>?_
 unfold n9
 by_cases h:a=n
 ·subst h
  rw[if_pos rfl,CA,VF]
  exact(if_pos ⟨by omega,hn⟩).symm
 ·rw[if_neg h]
  unfold eJ
  by_cases h1:a<n/\a≠t
  ·rw[if_pos h1,if_pos ⟨by omega,h1.2⟩]
  ·rw[if_neg h1,if_neg (by omega)]
theorem acQ {r c:Nat} {p:Int} (M:bC) (t j n:Nat) (hM:dz p r c M) (h0:M n j=0):aq r c (eJ p M t j n)=aq r c (eJ p M t j (n+1)):=by
 refine gP fun a ha b hb=>?_
 unfold eJ
 by_cases h:a=n
 ·subst h
  rw[if_neg (by omega)]
  by_cases ht:a=t
  ·rw[if_neg (by omega)]
  ·rw[if_pos ⟨by omega,ht⟩,h0,Int.sub_zero,Int.add_mul_emod_self_left]
   exact(Int.emod_eq_of_lt (hM a ha b hb).1 (hM a ha b hb).2).symm
 ·by_cases h1:a<n/\a≠t
  ·rw[if_pos h1,if_pos ⟨by omega,h1.2⟩]
  ·rw[if_neg h1,if_neg (by omega)]
theorem Q6 {M:bC} {j:Nat}:∀{d k:Nat},ib M j d k=none->∀i,k<=i->i<k+d->M i j=0
 |0,k,_,i,h1,h2=>by omega
 |d+1,k,h,i,h1,h2=>by
  simp only[ib] at h
  split at h
  ·rename_i h0
   by_cases hi:i=k
   ·rw[hi];exact h0
   ·exact Q6 h i (by omega) (by omega)
  ·cases h
theorem Z4 {M:bC} {j q:Nat}:∀{d k:Nat},ib M j d k=some q->∀i,k<=i->i<q->M i j=0
 |0,k,h,i,h1,h2=>by cases h
 |d+1,k,h,i,h1,h2=>by
  simp only[ib] at h
  split at h
  ·rename_i h0
   by_cases hi:i=k
   ·rw[hi];exact h0
   ·exact Z4 h i (by omega) h2
  ·have:=Option.some.inj h;omega
theorem anY {p d:Int} (hp:cV p) (hd:fx p d):fD (jR .i64 p d) p=some ((p - d)%p):=by
 have h1:=hp.1;have h2:=hp.2;have h3:=hd.1;have h4:=hd.2
 rw[oY (by omega) (by omega),JY (by omega) (by omega)]
theorem Rd {p:Int} {r:Nat} {s:bC×List Int×Int} {j:Nat} (hl:s.2.1.length<r) (h:ib s.1 j (r - s.2.1.length) s.2.1.length=none):lY p r s j=s:=by
 unfold lY
 rw[if_pos hl,h]
theorem Re {p:Int} {r:Nat} {s:bC×List Int×Int} {j k:Nat} (hl:s.2.1.length<r) (h:ib s.1 j (r - s.2.1.length) s.2.1.length=some k):
  lY p r s j=(eJ p (pW p s.1 s.2.1.length j k) s.2.1.length j r,s.2.1++[(j:Int)],Bx p s.1 s.2.1.length j k s.2.2):=by
 unfold lY
 rw[if_pos hl,h]
theorem ahz {p x:Int} (hp:cV p) (hx:fx p x):uZ (p,x)=some (gS p 1 x (p - 2).toNat):=if_pos ⟨hp,hx⟩
theorem ahx {p x:Int} (hp:cV p) (hx:fx p x):zj (p,x)=some (gS p 1 x (p - 2).toNat):=if_pos ⟨hp,hx⟩
theorem UH {r c:Nat} (M M':bC):bG (aq r c M) 0 (J (aq r c M'))=some (aq r c M):=Ca (by rw[Bd];exact(kS r c M))
theorem acS {α:Type} {b:Bool} {u v x:α} (h1:b=true->u=x) (h2:b=false->v=x):aw b u v=x:=by
 cases b
 ·exact h2 rfl
 ·exact h1 rfl
section
variable {p:Int} {r c:Nat} {M0:bC}
abbrev Ua (p:Int) (r c:Nat) (L0:List Int) (s:bC×List Int×Int) (j:Nat):(Int×Int×Int)×(Int×Int×List Int)×(Int×Int)×(Int×Int)×List Int×List Int×List Int:=
 ((p,s.2.2,(j:Int)),((r:Int),(c:Int),L0),((0:Int),(0:Int)),((r:Int),(c:Int)),([]:List Int),aq r c s.1,s.2.1)
theorem ae9 (hp:cV p) (hr:r<=4096) (hc:c<=4096) (di:r*c<=1048576) (hM:dz p r c M0):
  FA aD (p,(r:Int),(c:Int),aq r c M0)=some (((r:Int),(c:Int),aq r c (fC p r M0 c).1),(fC p r M0 c).2.1,(fC p r M0 c).2.2):=by
 obtain⟨n,hn,bN,Xd⟩:=abn (fun j=>(fC p r M0 j).2.1.length<r) c
 have afA:fC p r M0 c=fC p r M0 n:=by
  rcases Xd with e|e
  ·rw[e]
  ·obtain⟨d,rfl⟩:∃d,c=n+d:=⟨c - n,by omega⟩
   exact aal e d
 rw[afA]
 have hlen:(aq r c M0).length<=1099511627776:=by rw[kS];omega
 simp only[FA,jZ,if_pos hlen,aj,bK]
 rw[ew (r:=Sum.inl ((fC p r M0 n).2.2,((0:Int),(0:Int)),((r:Int),(c:Int)),([]:List Int),aq r c (fC p r M0 n).1,(fC p r M0 n).2.1)) (fun j=>Ua p r c (aq r c M0) (fC p r M0 j) j) n ?_ ?_ ?_ (cG (by omega))]
 ·rw[show ab 0 0 (J ([]:List Int))=some () from rfl];simp only[aj];rw[cO];simp only[gV,aj]
 ·intro j hj
  have hI:=JW hp hM (r:=r) (c:=c) j
  have hl:=bN j hj
  generalize hs:fC p r M0 j=s at hI hl⊢
  have hS:fC p r M0 (j+1)=lY p r s j:=by rw[<-hs];rfl
  obtain⟨M,L,d⟩:=s
  simp only at hl
  have tD:dz p r c M:=hI.m
  have W0:fx p d:=hI.d
  simp only[Ua]
  rw[aT (eW (show j<c by omega)),aT (show bi (aM (J L)) (r:Int)=true from eW hl)]
  simp only[kE,aj]
  rw[show aM (J L)=((L.length:Nat):Int) from rfl,Z6 hr hc di (show L.length<=r by omega) (show j<c by omega),aj]
  cases hk:ib M j (r - L.length) L.length with
  |none=>
   rw[hS,Rd (s:=(M,L,d)) hl hk,aT (show bi (uq none) 0=true from rfl),cO]
   simp only[eA (show j<=1048577 by omega)]
  |some k=>
   obtain⟨r5,iN,hq3⟩:=Eu hk
   have qM:k<r:=by omega
   rw[hS,Re (s:=(M,L,d)) hl hk,aS (show bi (uq (some k)) 0=false from eN (by show(0:Int)<=(k:Int);omega))]
   have xV:=Kw tD hl qM
   have hx:=xV L.length hl j (by omega)
   have Df:=Yz hp (p - 2).toNat 1 (eH M L.length k L.length j) (QZ hp)
   have hd':fx p (if k=L.length then d else(p - d)%p):=by split;exact W0;exact rO hp _
   rw[acS (b:=dd (uq (some k)) ((L.length:Nat):Int)) (x:=some (Sum.inl (((if k=L.length then d else(p - d)%p),((L.length:Nat):Int),(j:Int),p),((r:Int),(c:Int),aq r c M0),((0:Int),(0:Int)),((r:Int),(c:Int)),([]:List Int),aq r c (eH M L.length k),L))) ?_ ?_]
   ·rw[cO]
    simp only[k8 (show L.length<=1048576 by omega) (show c<=1048576 by omega) (show j<=1048576 by omega),qw _ hl (show j<c by omega),aj,lx,qG _ hl (show j<c by omega)]
    rw[yG hp hd'.le hx.le,aj,ahz hp hx,aj]
    rw[ew (r:=Sum.inl ((Bx p M L.length j k d,p,(j:Int),((L.length:Nat):Int)),((r:Int),(c:Int),aq r c M0),((0:Int),(0:Int)),((r:Int),(c:Int)),([]:List Int),aq r c (pW p M L.length j k),L)) (fun b=>((p,Bx p M L.length j k d,(j:Int),((L.length:Nat):Int),gS p 1 (eH M L.length k L.length j) (p - 2).toNat,(b:Int)),((r:Int),(c:Int),aq r c M0),((0:Int),(0:Int)),((r:Int),(c:Int)),([]:List Int),aq r c (uC p (gS p 1 (eH M L.length k L.length j) (p - 2).toNat) (eH M L.length k) L.length b),L)) c ?_ ?_ ?_ (cG (by omega))]
    ·rw[cO]
     simp only
     have hP:dz p r c (pW p M L.length j k):=Q7 hp tD hl qM j
     generalize pW p M L.length j k=P at hP⊢
     generalize hD:Bx p M L.length j k d=D
     rw[ew (r:=Sum.inl (((j:Int),p,D),((r:Int),(c:Int),aq r c M0),((0:Int),(0:Int)),((r:Int),(c:Int)),([]:List Int),aq r c (eJ p P L.length j r),L)) (fun a=>((p,D,(j:Int),((L.length:Nat):Int),(a:Int)),((r:Int),(c:Int),aq r c M0),((0:Int),(0:Int)),((r:Int),(c:Int)),([]:List Int),aq r c (eJ p P L.length j a),L)) r ?_ ?_ ?_ (cG (by omega))]
     ·rw[cO]
      simp only
      rw[Ca (xs:=[(j:Int)]) (n:=1) rfl,aj,j8 (by simp only[aH,J,dA,List.length_cons,List.length_nil];omega),aj,Zc,bK,aj,cO]
      simp only[eA (show j<=1048577 by omega),<-hD]
      rfl
     ·intro a ha
      simp only
      rw[aT (eW ha)]
      by_cases bZ:a=L.length
      ·rw[aS (lf (by omega))]
       simp only[eA (show a<=1048577 by omega)]
       rw[bZ,L7]
      ·rw[aT (nL (by omega))]
       simp only[k8 (show a<=1048576 by omega) (show c<=1048576 by omega) (show j<=1048576 by omega),qw _ ha (show j<c by omega),aj,lx,qG _ ha (show j<c by omega),CA]
       rw[VD hp hr hc di ha hl (hP a ha j (by omega)).le (L6 hp hP _ _ _)]
       simp only[aj,lE,eA (show a<=1048577 by omega)]
       rw[VG P L.length j a bZ]
     ·simp only
      rw[aS (fo (Nat.le_refl r))]
     ·rw[L5]
      rfl
    ·intro b hb
     simp only
     rw[aT (eW hb)]
     simp only[k8 (show L.length<=1048576 by omega) (show c<=1048576 by omega) (show b<=1048576 by omega),qw _ hl hb,aj,lx,qG _ hl hb,aaH]
     rw[yG hp (xV L.length hl b hb).le Df.le]
     simp only[aj,yU _ hb,lE,aaI,eA (show b<=1048577 by omega)]
    ·simp only
     rw[aS (fo (Nat.le_refl c)),aaG]
     rfl
    ·rw[aaF]
     rfl
   ·intro aA
    have afO:k≠L.length:=by
     intro q;subst q;rw[show dd (uq (some L.length)) ((L.length:Nat):Int)=false from lf rfl] at aA;cases aA
    rw[if_neg afO,show uq (some k)=(k:Int) from rfl,Kx hr hc di hl qM,aj,anY hp W0]
    simp only[aj,lE]
   ·intro dh
    have Xe:k=L.length:=by
     by_cases q:k=L.length
     ·exact q
     ·rw[show dd (uq (some k)) ((L.length:Nat):Int)=true from nL (by show((k:Nat):Int)≠_;omega)] at dh;cases dh
    rw[if_pos Xe,Xe,an2]
 ·simp only[Ua]
  by_cases pB:n=c
  ·subst pB
   rw[aS (fo (Nat.le_refl n))]
  ·have he:r<=(fC p r M0 n).2.1.length:=by
    rcases Xd with e|e
    ·exact absurd e pB
    ·exact Nat.le_of_not_lt e
   rw[aT (eW (show n<c by omega)),aS (show bi (aM (J (fC p r M0 n).2.1)) (r:Int)=false from fo he)]
 ·rfl
end
section
variable {p:Int} {r c:Nat} {M0:bC}
abbrev T9 (p:Int) (r c:Nat) (s:bC×List Int×Int) (j:Nat):(Int×Int)×(Int×Int)×(Int×Int)×List Int×List Int×List Int:=
 ((p,(j:Int)),((0:Int),(0:Int)),((r:Int),(c:Int)),([]:List Int),aq r c s.1,s.2.1)
theorem ae8 (hp:cV p) (hr:r<=4096) (hc:c<=4096) (di:r*c<=1048576) (hM:dz p r c M0):
  Fu aD (p,(r:Int),(c:Int),aq r c M0)=some (((r:Int),(c:Int),aq r c (fC p r M0 c).1),(fC p r M0 c).2.1):=by
 have hlen:(aq r c M0).length<=1099511627776:=by rw[kS];omega
 simp only[Fu,zi,if_pos hlen,aj,bK]
 rw[ew (r:=Sum.inl (((0:Int),(0:Int)),((r:Int),(c:Int)),([]:List Int),aq r c (fC p r M0 c).1,(fC p r M0 c).2.1)) (fun j=>T9 p r c (fC p r M0 j) j) c ?_ ?_ ?_ (cG (by omega))]
 ·rw[show ab 0 0 (J ([]:List Int))=some () from rfl];simp only[aj];rw[cO];simp only[gV,aj]
 ·intro j hj
  have hI:=JW hp hM (r:=r) (c:=c) j
  generalize hs:fC p r M0 j=s at hI⊢
  have hS:fC p r M0 (j+1)=lY p r s j:=by rw[<-hs];rfl
  obtain⟨M,L,d⟩:=s
  have tD:dz p r c M:=hI.m
  have kb:L.length<=r:=hI.l
  have hlj:L.length<=j:=hI.lj
  simp only[T9]
  rw[aT (eW hj)]
  have ans:∃k:Nat,L.length<=k/\k<=r/\(∀i,L.length<=i->i<k->M i j=0)/\((k=r/\lY p r (M,L,d) j=(M,L,d))\/(k<r/\M k j≠0/\L.length<r/\lY p r (M,L,d) j=(eJ p (pW p M L.length j k) L.length j r,L++[(j:Int)],Bx p M L.length j k d))):=by
   by_cases hl:L.length<r
   ·cases hk:ib M j (r - L.length) L.length with
    |none=>exact⟨r,kb,Nat.le_refl r,fun i h1 h2=>Q6 hk i h1 (by omega),.inl ⟨rfl,Rd (s:=(M,L,d)) hl hk⟩⟩
    |some k=>
     obtain⟨q1,q2,q3⟩:=Eu hk
     exact⟨k,q1,by omega,fun i h1 h2=>Z4 hk i h1 h2,.inr ⟨by omega,q3,hl,Re (s:=(M,L,d)) hl hk⟩⟩
   ·refine⟨r,kb,Nat.le_refl r,fun i h1 h2=>by omega,.inl ⟨rfl,?_⟩⟩
    unfold lY
    exact if_neg hl
  obtain⟨k,H8,Xm,hk3,Xn⟩:=ans
  rw[ew (r:=Sum.inl (((k:Int),((L.length:Nat):Int),(j:Int),p),((0:Int),(0:Int)),((r:Int),(c:Int)),([]:List Int),aq r c M,L)) (fun e=>((p,(j:Int),((L.length:Nat):Int),((L.length+e:Nat):Int)),((0:Int),(0:Int)),((r:Int),(c:Int)),([]:List Int),aq r c M,L)) (k - L.length) ?_ ?_ ?_ (cG (by omega))]
  ·rw[cO]
   simp only
   rcases Xn with⟨qM,Nm⟩|⟨qM,aA,hl,Nm⟩
   ·rw[hS,Nm,aT (xG (by omega)),cO]
    simp only[eA (show j<=1048577 by omega)]
   ·rw[hS,Nm,aS (xF (by omega))]
    have xV:=Kw tD hl qM
    have hx:=xV L.length hl j hj
    have Df:=Yz hp (p - 2).toNat 1 (eH M L.length k L.length j) (QZ hp)
    rw[show zh (((r:Int),(c:Int),aq r c M),((L.length:Nat):Int),(k:Int))=some (aq r c (eH M L.length k)) from Kx hr hc di hl qM,aj,UH,aj,nf hr hc di hl hj,aj,ahx hp hx,aj]
    simp only[lE,aj]
    rw[ew (r:=Sum.inl ((p,(j:Int),((L.length:Nat):Int)),((0:Int),(0:Int)),((r:Int),(c:Int)),([]:List Int),aq r c (pW p M L.length j k),L)) (fun b=>((p,(j:Int),((L.length:Nat):Int),gS p 1 (eH M L.length k L.length j) (p - 2).toNat,(b:Int)),((0:Int),(0:Int)),((r:Int),(c:Int)),([]:List Int),aq r c (uC p (gS p 1 (eH M L.length k L.length j) (p - 2).toNat) (eH M L.length k) L.length b),L)) c ?_ ?_ ?_ (cG (by omega))]
    ·rw[cO]
     simp only
     have hP:dz p r c (pW p M L.length j k):=Q7 hp tD hl qM j
     generalize pW p M L.length j k=P at hP⊢
     rw[ew (r:=Sum.inl (((j:Int),p),((0:Int),(0:Int)),((r:Int),(c:Int)),([]:List Int),aq r c (eJ p P L.length j r),L)) (fun a=>((p,(j:Int),((L.length:Nat):Int),(a:Int)),((0:Int),(0:Int)),((r:Int),(c:Int)),([]:List Int),aq r c (eJ p P L.length j a),L)) r ?_ ?_ ?_ (cG (by omega))]
     ·rw[cO]
      simp only
      rw[Ca (xs:=[(j:Int)]) (n:=1) rfl,aj,j8 (by simp only[aH,J,dA,List.length_cons,List.length_nil];omega),aj,Zc,bK,aj,cO]
      simp only[eA (show j<=1048577 by omega)]
      rfl
     ·intro a ha
      simp only
      rw[aT (eW ha)]
      by_cases bZ:a=L.length
      ·rw[aS (lf (by omega))]
       simp only[eA (show a<=1048577 by omega)]
       rw[bZ,L7]
      ·rw[aT (nL (by omega)),UH,aj,nf hr hc di ha hj,aj,CA]
       have HU:=hP a ha j hj
       by_cases h0:P a j=0
       ·rw[aS (lf h0)]
        simp only[eA (show a<=1048577 by omega)]
        rw[acQ P L.length j a hP h0]
       ·rw[aT (nL h0),aj,nf hr hc di ha hj,aj,CA]
        have hs:jR .i64 p (P a j)=p - P a j:=by
         have h1:=hp.1;have h2:=hp.2;have h3:=HU.1;have h4:=HU.2
         exact oY (by omega) (by omega)
        rw[hs,U1 hp hr hc di ha hl (by have h3:=HU.1;have h4:=HU.2;omega) (L6 hp hP _ _ _)]
        simp only[aj,lE,eA (show a<=1048577 by omega)]
        rw[VG P L.length j a bZ]
     ·simp only
      rw[aS (fo (Nat.le_refl r))]
     ·rw[L5]
      rfl
    ·intro b hb
     simp only
     rw[aT (eW hb),UH,aj,nf hr hc di hl hb,aj,aaH,yG hp (xV L.length hl b hb).le Df.le,aj,wO hr hc di hl hb]
     simp only[aj,lE,aaI,eA (show b<=1048577 by omega)]
    ·simp only
     rw[aS (fo (Nat.le_refl c)),aaG]
     rfl
    ·rw[aaF]
     rfl
  ·intro e he
   simp only
   rw[aT (eW (show L.length+e<r by omega)),kE,aj,nf hr hc di (show L.length+e<r by omega) hj,aj,aT (xG (hk3 _ (by omega) (by omega)))]
   simp only[eA (show L.length+e<=1048577 by omega)]
   rfl
  ·have e1:L.length+(k - L.length)=k:=by omega
   simp only[e1]
   by_cases qM:k<r
   ·have aA:M k j≠0:=by
     rcases Xn with⟨h1,_⟩|⟨_,h1,_⟩
     ·omega
     ·exact h1
    rw[aT (eW qM),kE,aj,nf hr hc di qM hj,aj,aS (xF aA)]
   ·rw[aS (fo (by omega))]
  ·rfl
 ·simp only[T9]
  rw[aS (fo (Nat.le_refl c))]
 ·rfl
end
theorem aam {x:Int×Int×Int×List Int} (h:Bz x):∃(p:Int) (r c:Nat) (M:bC),x=(p,(r:Int),(c:Int),aq r c M)/\cV p/\r<=4096/\c<=4096/\r*c<=1048576/\dz p r c M/\M=c8 c (aq r c M):=by
 obtain⟨p,x⟩:=x
 obtain⟨hp,hm,ha⟩:=h
 obtain⟨r,c,M,rfl,h1,h2,h3⟩:=sQ hm
 simp only at hp ha
 have e:aq r c (c8 c (aq r c M))=aq r c M:=qF (kS r c M)
 exact⟨p,r,c,c8 c (aq r c M),by rw[e],hp,h1,h2,h3,ly.1 (by rw[e];exact ha),by rw[e]⟩
theorem aeG (x:Int×Int×Int×List Int) (y:(Int×Int×List Int)×List Int×Int) (h:zu x=some y):FA aD x=some y:=by
 simp only[zu] at h
 split at h
 ·rename_i hc
  obtain⟨p,r,c,M,rfl,hp,h1,h2,h3,hM,e⟩:=aam hc
  rw[<-h,ae9 hp h1 h2 h3 hM]
  simp only[rk,Int.toNat_natCast,<-e]
 ·cases h
theorem aeb (x:Int×Int×Int×List Int) (y:(Int×Int×List Int)×List Int) (h:zl x=some y):Fu aD x=some y:=by
 simp only[zl] at h
 split at h
 ·rename_i hc
  obtain⟨p,r,c,M,rfl,hp,h1,h2,h3,hM,e⟩:=aam hc
  rw[<-h,ae8 hp h1 h2 h3 hM]
  simp only[rk,Int.toNat_natCast,<-e]
 ·cases h
end Go.Am
end
section
namespace Go.Am
section
variable {p:Int} {r c:Nat} {M R:bC} {L:List Int}
end
end Go.Am
end
section
namespace Go.Am
def ch:Nat->Nat->Nat
 |_,0=>1
 |0,_+1=>0
 |n+1,k+1=>ch n k+ch n (k+1)
theorem GW:∀{n k:Nat},n<k->ch n k=0
 |0,k+1,_=>by simp[ch]
 |n+1,k+1,h=>by simp[ch,GW (show n<k by omega),GW (show n<k+1 by omega)]
theorem Cw (n:Nat):ch n 0=1:=by cases n<;>rfl
theorem Vr:∀n,ch n n=1
 |0=>rfl
 |n+1=>by simp[ch,Vr n,GW (Nat.lt_succ_self n)]
theorem GX:∀(n k:Nat),(k+1)*ch (n+1) (k+1)=(n+1)*ch n k
 |0,0=>by simp[ch]
 |0,k+1=>by simp[ch]
 |n+1,0=>by
  have h:=GX n 0
  simp only[Cw] at h⊢
  have e:ch (n+1+1) (0+1)=ch (n+1) 0+ch (n+1) (0+1):=rfl
  rw[e,Cw]
  omega
 |n+1,k+1=>by
  have h1:=GX n k
  have h2:=GX n (k+1)
  have e1:ch (n+1+1) (k+1+1)=ch (n+1) (k+1)+ch (n+1) (k+1+1):=rfl
  have e2:ch (n+1) (k+1)=ch n k+ch n (k+1):=rfl
  rw[e1]
  generalize ch (n+1) (k+1+1)=B at*
  generalize ch (n+1) (k+1)=A at*
  generalize ch n k=u at*
  generalize ch n (k+1)=v at*
  subst e2
  grind
def mY (f:Nat->Nat):Nat->Nat
 |0=>0
 |m+1=>mY f m+f m
theorem abB (n a:Nat):∀m,mY (fun k=>ch (n+1) k*a^k) (m+1)=mY (fun k=>ch n k*a^k) (m+1)+a*mY (fun k=>ch n k*a^k) m
 |0=>by simp[mY,Cw]
 |m+1=>by
  have h:=abB n a m
  simp only[mY] at h⊢
  have e:ch (n+1) (m+1)=ch n m+ch n (m+1):=rfl
  rw[h,e,Nat.pow_succ]
  grind
theorem Vl (a:Nat):∀n,(a+1)^n=mY (fun k=>ch n k*a^k) (n+1)
 |0=>by simp[mY,Cw]
 |n+1=>by
  rw[abB]
  have e:mY (fun k=>ch n k*a^k) (n+1+1)=mY (fun k=>ch n k*a^k) (n+1):=by
   show mY _ (n+1)+ch n (n+1)*a^(n+1)=_
   rw[GW (Nat.lt_succ_self n)];simp
  rw[e,<-Vl a n,Nat.pow_succ]
  grind
theorem abA {p:Nat} {f:Nat->Nat}:∀m,(∀k,0<k->k<=m->p∣f k)->mY f (m+1)%p=f 0%p
 |0,h=>by simp[mY]
 |m+1,h=>by
  have i:=abA m fun k h1 h2=>h k h1 (by omega)
  obtain⟨c,hc⟩:=h (m+1) (by omega) (Nat.le_refl _)
  show(mY f (m+1)+f (m+1))%p=_
  rw[hc,Nat.add_mul_mod_self_left,i]
def xo (p:Nat):Prop:=2<=p/\∀d,d∣p->d=1\/d=p
theorem xo.VK {p a:Nat} (hp:xo p) (h:¬p∣a):Nat.Coprime p a:=by
 have:=hp.2 (Nat.gcd p a) (Nat.gcd_dvd_left p a)
 rcases this with h1|h1
 ·exact h1
 ·exact absurd (h1▸Nat.gcd_dvd_right p a) h
theorem xo.ch {p k:Nat} (hp:xo p) (h1:0<k) (h2:k<p):p∣ch p k:=by
 obtain⟨q,rfl⟩:∃q,p=q+1:=⟨p - 1,by omega⟩
 obtain⟨j,rfl⟩:∃j,k=j+1:=⟨k - 1,by omega⟩
 have hm:=GX q j
 have hd:(q+1)∣(j+1)*Go.Am.ch (q+1) (j+1):=⟨Go.Am.ch q j,hm⟩
 exact(hp.VK fun h=>absurd (Nat.le_of_dvd (by omega) h) (by omega)).dvd_of_dvd_mul_left hd
theorem Wu {p:Nat} (hp:xo p):∀a,a^p%p=a%p
 |0=>by rw[Nat.zero_pow (by have:=hp.1;omega)]
 |a+1=>by
  rw[Vl]
  show(mY _ p+Go.Am.ch p p*a^p)%p=_
  obtain⟨q,rfl⟩:∃q,p=q+1:=⟨p - 1,by have:=hp.1;omega⟩
  have h:=abA (p:=q+1) (f:=fun k=>Go.Am.ch (q+1) k*a^k) q fun k h1 h2=>Nat.dvd_trans (hp.ch h1 (by omega)) (Nat.dvd_mul_right _ _)
  rw[Vr,Nat.one_mul,Nat.add_mod,h,Wu hp a]
  simp only[Cw,Nat.pow_zero,Nat.mul_one]
  rw[<-Nat.add_mod,Nat.add_comm]
theorem aeP {p a:Nat} (hp:xo p) (ha:¬p∣a):a*a^(p - 2)%p=1:=by
 have h2:=hp.1
 have h:=Wu hp a
 have e:a^p=a*(a*a^(p - 2)):=by
  obtain⟨q,rfl⟩:∃q,p=q+2:=⟨p - 2,by omega⟩
  rw[Nat.pow_succ,Nat.pow_succ,Nat.add_sub_cancel]
  rw[Nat.mul_comm a (a^q),Nat.mul_comm a (a^q*a)]
 rw[e] at h
 have HV:0<a:=by
  rcases Nat.eq_zero_or_pos a with h|h
  ·subst h;exact absurd ⟨0,by simp⟩ ha
  ·exact h
 have hz:0<a*a^(p - 2):=Nat.mul_pos HV (Nat.pow_pos HV)
 generalize a*a^(p - 2)=z at h hz⊢
 obtain⟨y,rfl⟩:∃y,z=y+1:=⟨z - 1,by omega⟩
 have hd:p∣a*y:=by
  have e:a*(y+1)=a*y+a:=by rw[Nat.mul_add,Nat.mul_one]
  rw[e] at h
  have:(a*y+a - a)%p=0:=Nat.sub_mod_eq_zero_of_mod_eq h
  rw[Nat.add_sub_cancel] at this
  exact Nat.dvd_of_mod_eq_zero this
 obtain⟨c,rfl⟩:=(hp.VK ha).dvd_of_dvd_mul_left hd
 rw[Nat.add_comm,Nat.add_mul_mod_self_left]
 exact Nat.mod_eq_of_lt (by omega)
end Go.Am
end
section
namespace Go.Am
theorem ahC {p:Int} (h:fm p=true):xo p.toNat:=by
 have hp:=sk h
 obtain⟨n,rfl⟩:=iV (show 0<=p by omega)
 simp only[Int.toNat_natCast]
 refine⟨by omega,fun d hd=>?_⟩
 rcases Nat.lt_or_ge d 2 with h2|h2
 ·rcases Nat.eq_zero_or_pos d with h0|h0
  ·subst h0
   have:=Nat.eq_zero_of_zero_dvd hd
   omega
  ·exact .inl (by omega)
 ·obtain⟨e,he⟩:=hd
  simp only[fm,Bool.and_eq_true,decide_eq_true_eq,Bool.not_eq_true',List.any_eq_false] at h
  have cq:∀a b:Nat,2<=a->2<=b->a<=b->n≠a*b:=by
   intro a b ha hb eK e
   have h1:a*a<=n:=by rw[e];exact Nat.mul_le_mul_left _ eK
   have h3:a<1001:=by
    rcases Nat.lt_or_ge a 1001 with h|h
    ·exact h
    ·have:=Nat.mul_le_mul h h;omega
   refine h.2 a (by simp;omega) ?_
   unfold pi
   have ea:((a:Int))*(a:Int)=((a*a:Nat):Int):=by norm_cast
   simp only[Bool.and_eq_true,decide_eq_true_eq]
   constructor
   ·rw[ea];omega
   ·rw[e];push_cast;exact Int.mul_emod_right _ _
  right
  rcases Nat.lt_or_ge e 2 with h3|h3
  ·have:e=1:=by
    rcases Nat.eq_zero_or_pos e with h0|h0
    ·subst h0;simp at he;omega
    ·omega
   subst this;omega
  ·exfalso
   rcases Nat.le_total d e with NC|NC
   ·exact cq d e h2 h3 NC he
   ·exact cq e d h3 h2 NC (by rw[he,Nat.mul_comm])
theorem Z7 (x:Int) (b:Nat):∀m:Nat,(x*x)^m*x^b=x^(2*m+b)
 |0=>by simp
 |m+1=>by
  have ih:=Z7 x b m
  rw[show 2*(m+1)+b=2*m+b+1+1 by omega,Int.pow_succ,Int.pow_succ (n:=2*m+b+1),Int.pow_succ (n:=2*m+b),<-ih]
  grind
theorem ahw {p:Int} (hp:cV p):∀(n:Nat) (out x:Int),gS p out x n%p=out*x^n%p:=by
 intro n
 induction n using Nat.strongRecOn with
 |ind n ih=>
  intro out x
  by_cases h0:n=0
  ·subst h0;rw[Ja];simp
  ·rw[Jb h0,ih (n/2) (by omega)]
   have e:x^n=(x*x)^(n/2)*x^(n%2):=by
    rw[Z7,Nat.div_add_mod]
   rw[e]
   have h1:((x*x%p)^(n/2))%p=((x*x)^(n/2))%p:=by
    have:∀k:Nat,((x*x%p)^k)%p=((x*x)^k)%p:=by
     intro k
     induction k with
     |zero=>simp
     |succ k ih=>rw[Int.pow_succ,Int.pow_succ,Int.mul_emod,ih,Int.emod_emod,<-Int.mul_emod]
    exact this _
   by_cases hb:n%2=1
   ·rw[if_pos hb,hb,Int.mul_emod,h1,Int.emod_emod,<-Int.mul_emod]
    congr 1
    grind
   ·rw[if_neg hb,show n%2=0 by omega,Int.mul_emod,h1,<-Int.mul_emod]
    congr 1
    grind
theorem ahA {p x:Int} (Dr:fm p=true) (hx:fx p x) (h0:x≠0):x*gS p 1 x (p - 2).toNat%p=1:=by
 have hp:=sk Dr
 have bc:cV p:=⟨hp.1,hp.2⟩
 obtain⟨n,rfl⟩:=iV (show 0<=p by omega)
 obtain⟨a,rfl⟩:=iV hx.1
 have hN:=ahC Dr
 simp only[Int.toNat_natCast] at hN
 have ha:¬n∣a:=fun h=>by
  have:=Nat.le_of_dvd (by omega) h
  have:=hx.2
  omega
 have hf:=aeP hN ha
 have e:(((n:Int)) - 2).toNat=n - 2:=by omega
 rw[Int.mul_emod,ahw bc,e,Int.one_mul,<-Int.mul_emod]
 exact_mod_cast hf
def fE (f g:Nat->Int):Nat->Int
 |0=>0
 |n+1=>fE f g n+f n*g n
theorem abx {p:Int} {f f' g:Nat->Int}:∀n,(∀k,k<n->∃q,f k=f' k+p*q)->∃q,fE f g n=fE f' g n+p*q
 |0,_=>⟨0,by simp[fE]⟩
 |n+1,h=>by
  obtain⟨q,hq⟩:=abx (g:=g) n fun k hk=>h k (by omega)
  obtain⟨q',dH⟩:=h n (by omega)
  exact⟨q+q'*g n,by simp only[fE,hq,dH];grind⟩
theorem Uf (f f2 g:Nat->Int) (c:Int):∀n,fE (fun k=>f k+c*f2 k) g n=fE f g n+c*fE f2 g n
 |0=>by simp[fE]
 |n+1=>by simp only[fE,Uf f f2 g c n];grind
theorem Kv (f g g2:Nat->Int) (c:Int):∀n,fE f (fun k=>g k - c*g2 k) n=fE f g n - c*fE f g2 n
 |0=>by simp[fE]
 |n+1=>by simp only[fE,Kv f g g2 c n];grind
theorem Ug (f g:Nat->Int) (c:Int):∀n,fE (fun k=>f k*c) g n=fE f g n*c
 |0=>by simp[fE]
 |n+1=>by simp only[fE,Ug f g c n];grind
theorem Uh (f g:Nat->Int) (c:Int):∀n,fE f (fun k=>g k*c) n=fE f g n*c
 |0=>by simp[fE]
 |n+1=>by simp only[fE,Uh f g c n];grind
def dl (a b:Nat):Int:=if a=b then 1 else 0
def kJ (p:Int) (n:Nat) (E X:bC):Prop:=∀a,a<n->∀b,b<n->∃q,fE (E a) (fun k=>X k b) n=dl a b+p*q
theorem kJ.congr {p:Int} {n:Nat} {E E' X:bC} (h:kJ p n E X) (he:∀a,a<n->∀k,k<n->∃q,E' a k=E a k+p*q):kJ p n E' X:=by
 intro a ha b hb
 obtain⟨q,hq⟩:=h a ha b hb
 obtain⟨q',dH⟩:=abx (p:=p) (f:=E' a) (f':=E a) (g:=fun k=>X k b) n (he a ha)
 exact⟨q+q',by rw[dH,hq];grind⟩
theorem kJ.swap {p:Int} {n:Nat} {E X:bC} (h:kJ p n E X) {s t:Nat} (hs:s<n) (ht:t<n):∃X',kJ p n (eH E s t) X':=by
 let sw:Nat->Nat:=fun i=>if i=s then t else if i=t then s else i
 have Ih:∀i,i<n->sw i<n:=by
  intro i hi
  show(if i=s then t else if i=t then s else i)<n
  split
  ·exact ht
  ·split
   ·exact hs
   ·exact hi
 have vC:∀i j,sw i=sw j->i=j:=by
  intro i j
  show(if i=s then t else if i=t then s else i)=(if j=s then t else if j=t then s else j)->i=j
  intro h
  repeat' split at h
  all_goals omega
 refine⟨fun k b=>X k (sw b),fun a ha b hb=>?_⟩
 obtain⟨q,hq⟩:=h (sw a) (Ih a ha) (sw b) (Ih b hb)
 refine⟨q,?_⟩
 have e:eH E s t a=E (sw a):=by
  funext k
  show(if a=s then E t k else if a=t then E s k else E a k)=E (if a=s then t else if a=t then s else a) k
  split
  ·rfl
  ·split<;>rfl
 rw[e,hq]
 congr 1
 unfold dl
 by_cases eK:a=b
 ·subst eK;simp
 ·rw[if_neg eK,if_neg fun h=>eK (vC _ _ h)]
theorem kJ.anm {p inv u:Int} {n:Nat} {E X:bC} (h:kJ p n E X) {t:Nat} (ht:t<n) (hu:u*inv%p=1):∃X',kJ p n (uB p inv E t) X':=by
 have lI:∃z,u*inv=1+p*z:=⟨u*inv/p,by have:=Int.emod_add_mul_ediv (u*inv) p;omega⟩
 obtain⟨z,hz⟩:=lI
 refine⟨fun k b=>if b=t then X k t*u else X k b,kJ.congr (E:=fun a k=>if a=t then E t k*inv else E a k) (fun a ha b hb=>?_) (fun a ha k hk=>?_)⟩
 ·obtain⟨q,hq⟩:=h a ha b hb
  by_cases bZ:a=t
  ·subst bZ
   by_cases mB:b=a
   ·subst mB
    refine⟨z+q*inv*u,?_⟩
    simp only[if_true]
    rw[Ug,Uh,hq,dl,if_pos rfl]
    grind
   ·refine⟨q*inv,?_⟩
    simp only[if_true,if_neg mB]
    rw[Ug,hq,dl,if_neg (Ne.symm mB)]
    grind
  ·by_cases mB:b=t
   ·subst mB
    refine⟨q*u,?_⟩
    simp only[if_neg bZ,if_true]
    rw[Uh]
    have:fE (fun k=>E a k) (fun k=>X k b) n=dl a b+p*q:=hq
    rw[this,dl,if_neg bZ]
    grind
   ·refine⟨q,?_⟩
    simp only[if_neg bZ,if_neg mB]
    exact hq
 ·unfold uB
  by_cases bZ:a=t
  ·simp only[bZ,if_true]
   refine⟨-(E t k*inv/p),?_⟩
   have:=Int.emod_add_mul_ediv (E t k*inv) p
   have e:p* -(E t k*inv/p)= -(p*(E t k*inv/p)):=Int.mul_neg _ _
   omega
  ·simp only[bZ,if_false]
   exact⟨0,by simp⟩
theorem kJ.add {p f:Int} {n:Nat} {E E' X:bC} (h:kJ p n E X) {m t:Nat} (hm:m<n) (ht:t<n) (Ah:m≠t) (he:∀a,a<n->∀k,k<n->∃q,E' a k=(if a=m then E m k+f*E t k else E a k)+p*q):∃X',kJ p n E' X':=by
 refine⟨fun k b=>if b=t then X k t - f*X k m else X k b,kJ.congr (E:=fun a k=>if a=m then E m k+f*E t k else E a k) (fun a ha b hb=>?_) he⟩
 obtain⟨q1,h1⟩:=h a ha b hb
 obtain⟨q2,h2⟩:=h t ht b hb
 obtain⟨q3,h3⟩:=h a ha m hm
 obtain⟨q4,h4⟩:=h t ht m hm
 have je:fE (fun k=>E a k) (fun k=>X k b) n=dl a b+p*q1:=h1
 have z6:fE (fun k=>E t k) (fun k=>X k b) n=dl t b+p*q2:=h2
 have vu:fE (fun k=>E a k) (fun k=>X k m) n=dl a m+p*q3:=h3
 have h4':fE (fun k=>E t k) (fun k=>X k m) n=dl t m+p*q4:=h4
 have d1:dl t m=0:=if_neg (Ne.symm Ah)
 by_cases xT:a=m
 ·subst xT
  have d2:dl a a=1:=if_pos rfl
  by_cases mB:b=t
  ·subst mB
   have d3:dl a b=0:=if_neg Ah
   have d4:dl b b=1:=if_pos rfl
   refine⟨q1+f*q2 - f*q3 - f*f*q4,?_⟩
   simp only[if_true]
   rw[Uf,Kv,Kv,je,z6,vu,h4',d1,d2,d3,d4]
   grind
  ·refine⟨q1+f*q2,?_⟩
   have d3:dl t b=0:=if_neg (Ne.symm mB)
   simp only[if_true,if_neg mB]
   rw[Uf,je,z6,d3]
   grind
 ·by_cases mB:b=t
  ·subst mB
   have d3:dl a m=0:=if_neg xT
   refine⟨q1 - f*q3,?_⟩
   simp only[if_neg xT,if_true]
   rw[Kv,je,vu,d3]
   grind
  ·refine⟨q1,?_⟩
   simp only[if_neg xT,if_neg mB]
   exact je
def RK (p:Int) (n:Nat) (s:bC×List Int×Int) (j:Nat):Prop:=
 (∃X,kJ p n (fun a k=>s.1 a (n+k)) X)/\∀b,b<j->∀i,s.2.1.length<=i->i<n->s.1 i b=0
theorem RK.step {p:Int} {n:Nat} {s:bC×List Int×Int} {j:Nat} (Dr:fm p=true) (hj:j<2*n) (I:RI p n (2*n) s j) (h:RK p n s j):RK p n (lY p n s j) (j+1):=by
 have hp:cV p:=sk Dr
 obtain⟨⟨X,hX⟩,hz⟩:=h
 obtain⟨M,L,d⟩:=s
 simp only at hX hz
 by_cases hl:L.length<n
 ·cases hk:ib M j (n - L.length) L.length with
  |none=>
   rw[Rd (s:=(M,L,d)) hl hk]
   refine⟨⟨X,hX⟩,fun b hb i h1 h2=>?_⟩
   by_cases Ns:b=j
   ·subst Ns;exact Q6 hk i h1 (by simp only at h1;omega)
   ·exact hz b (by omega) i h1 h2
  |some k=>
   rw[Re (s:=(M,L,d)) hl hk]
   simp only
   have hq:=Eu hk
   have ov:k<n:=by omega
   have hM:dz p n (2*n) M:=I.m
   have hx:fx p (M k j):=hM k ov j hj
   have Ih:eH M L.length k L.length j=M k j:=if_pos rfl
   have hi:=ahA Dr hx hq.2.2
   generalize Df:gS p 1 (M k j) (p - 2).toNat=inv at hi
   have afV:pW p M L.length j k=uB p inv (eH M L.length k) L.length:=by unfold pW;rw[Ih,Df]
   rw[afV]
   have hS:dz p n (2*n) (eH M L.length k):=Kw hM hl ov
   generalize HT:uB p inv (eH M L.length k) L.length=M2
   have aoG:dz p n (2*n) M2:=by rw[<-HT];exact aaE hp hS _
   constructor
   ·obtain⟨X1,hX1⟩:=hX.swap (s:=L.length) (t:=k) hl ov
    obtain⟨X2,hX2⟩:=hX1.anm (inv:=inv) (u:=M k j) hl hi
    have zB:kJ p n (fun a b=>eJ p M2 L.length j 0 a (n+b)) X2:=by
     rw[L5,<-HT];exact hX2
    have cq:∀m,m<=n->∃X',kJ p n (fun a b=>eJ p M2 L.length j m a (n+b)) X':=by
     intro m
     induction m with
     |zero=>intro _;exact⟨X2,zB⟩
     |succ m ih=>
      intro hm
      obtain⟨X',W4⟩:=ih (by omega)
      by_cases Ah:m=L.length
      ·subst Ah
       rw[L7];exact⟨X',W4⟩
      ·refine W4.add (f:=p - M2 m j) (m:=m) (t:=L.length) (by omega) hl Ah fun a ha b hb=>?_
       show∃q,eJ p M2 L.length j (m+1) a (n+b)=_
       by_cases xT:a=m
       ·subst xT
        rw[if_pos rfl]
        show∃q,eJ p M2 L.length j (a+1) a (n+b)=(eJ p M2 L.length j a a (n+b)+(p - M2 a j)*eJ p M2 L.length j a L.length (n+b))+p*q
        rw[CA,VF]
        unfold eJ
        rw[if_pos ⟨by omega,Ah⟩]
        refine⟨-((M2 a (n+b)+(p - M2 a j)*M2 L.length (n+b))/p),?_⟩
        have e1:=Int.emod_add_mul_ediv (M2 a (n+b)+(p - M2 a j)*M2 L.length (n+b)) p
        have e2:=Int.mul_neg p ((M2 a (n+b)+(p - M2 a j)*M2 L.length (n+b))/p)
        omega
       ·rw[if_neg xT]
        refine⟨0,?_⟩
        show eJ p M2 L.length j (m+1) a (n+b)=eJ p M2 L.length j m a (n+b)+p*0
        unfold eJ
        by_cases hc:a<m/\a≠L.length
        ·rw[if_pos hc,if_pos ⟨by omega,hc.2⟩];simp
        ·rw[if_neg hc,if_neg (by omega)];simp
    exact cq n (Nat.le_refl _)
   ·intro b hb i h1 h2
    simp only[List.length_append,List.length_cons,List.length_nil] at h1
    show eJ p M2 L.length j n i b=0
    unfold eJ
    rw[if_pos ⟨h2,by omega⟩]
    have e2:∀c,M2 i c=eH M L.length k i c:=fun c=>by rw[<-HT];exact if_neg (by omega)
    have e3:∀c,M2 L.length c=M k c*inv%p:=fun c=>by rw[<-HT];show(if L.length=L.length then _ else _)=_;rw[if_pos rfl];congr 2;exact if_pos rfl
    by_cases Ns:b=j
    ·subst Ns
     rw[e3 b,hi]
     have:M2 i b+(p - M2 i b)*1=p:=by omega
     rw[this];exact Int.emod_self
    ·have Nt:b<j:=by omega
     rw[e3 b,hz b Nt k hq.1 ov,e2 b]
     have:eH M L.length k i b=0:=by
      unfold eH
      rw[if_neg (by omega)]
      split
      ·exact hz b Nt L.length (Nat.le_refl _) hl
      ·exact hz b Nt i (by omega) h2
     rw[this];simp
 ·unfold lY
  rw[if_neg hl]
  exact⟨⟨X,hX⟩,fun b hb i h1 h2=>by simp only at h1;omega⟩
end Go.Am
end
section
namespace Go.Am
def aou (n:Nat) (M:bC):bC:=fun a b=>if b<n then M a b else dl a (b - n)
def aov (n:Nat) (M:bC):bC:=c8 (2*n) (aq n (2*n) (aou n M))
def YA (p:Int) (n:Nat) (M:bC):bC×List Int×Int:=fC p n (aov n M) (2*n)
def ahy (p:Int) (n:Nat) (M:bC):Prop:=∀i,i<n->(YA p n M).2.1.getD i 0=(i:Int)
instance (p:Int) (n:Nat) (M:bC):Decidable (ahy p n M):=inferInstanceAs (Decidable (∀i,i<n->(YA p n M).2.1.getD i 0=(i:Int)))
theorem Ni {L:List Int} {i:Nat} (h:i<L.length):db L i=some (L.getD i 0):=by
 show L[i]? =_
 rw[List.getElem?_eq_getElem h]
 simp[List.getD,h]
section
variable {p:Int} {n:Nat} {M R:bC} {L:List Int}
end
section
variable {p:Int} {n:Nat} {M R:bC} {L:List Int}
end
end Go.Am
end
section
namespace Go.Am
abbrev dJ:=Int×Int×List Int
abbrev bX:=Int×Int×List Int×List (Int×Int×List Int)×List Int
def tc (k:Nat) (w:List Int):Prop:=∀c∈w,0<=c/\c<(k:Int)
instance (k:Nat) (w:List Int):Decidable (tc k w):=inferInstanceAs (Decidable (∀c∈w,0<=c/\c<(k:Int)))
def uI (p:Int) (n:Nat) (ms:List dJ) (v:List Int) (c:Int):List Int:=aq 1 n (gm p n (c8 n v) (c8 n (ms.getD c.toNat (0,0,[])).2.2))
def de (p:Int) (n:Nat) (ms:List dJ) (v:List Int) (w:List Int):List Int:=w.foldl (uI p n ms) v
def xD (p:Int) (x y:List Int):Int:=kP p (fun t=>x.getD t 0) (fun t=>y.getD t 0) x.length
def xj:Int×List Int×Int×Int×List Int->Option (List Int):=fun(x:Int×List Int×Int×Int×List Int)=>
 match pb (x.1,(1,x.2.2.1,x.2.1),x.2.2) with
 |some y=>some y.2.2
 |none=>none
def vf (x:bX):Bool:=match x with
 |(m,n,a,ms,b)=>fm m&&(decide (0<=n/\n<=24)&&((ic m a&&decide ((a.length:Int)=n))&&((ic m b&&decide ((b.length:Int)=n))&&(decide (1<=ms.length/\ms.length<=4)&&ms.all fun y=>decide (y.1=n/\y.2.1=n/\y.2.2.length=n.toNat*n.toNat)&&ic m y.2.2))))
def JV (x:bX×List Int):Prop:=vf x.1=true/\tc x.1.2.2.2.1.length x.2/\x.2.length<=1048576
instance (x:bX×List Int):Decidable (JV x):=by unfold JV;infer_instance
def nY:bX×List Int->Option (List Int):=fun(x:bX×List Int)=>if JV x then some (de x.1.1 x.1.2.1.toNat x.1.2.2.2.1 x.1.2.2.1 x.2) else none
def te:bX×List Int->Option (List Int):=nY
def xg:Int×List Int×List Int->Option Int:=fun(x:Int×List Int×List Int)=>if cV x.1/\x.2.1.length=x.2.2.length/\x.2.1.length<=1048576/\eB x.1 x.2.1/\eB x.1 x.2.2 then some (xD x.1 x.2.1 x.2.2) else none
def ql (x:bX×List Int):Int:=xD x.1.1 (de x.1.1 x.1.2.1.toNat x.1.2.2.2.1 x.1.2.2.1 x.2) x.1.2.2.2.2
def xb:bX×List Int->Option Int:=fun(x:bX×List Int)=>if JV x then some (ql x) else none
def GL:ao:=[(.one,[.int .i64]),(.one,[.list [.int .i64]]),(.agg,[.int .i64,.int .i64,.list [.int .i64]])]
def Sq:ao:=[(.one,[.list [.int .i64]])]
def akt:aY:=[]
def GI:ao:=[(.agg,[.int .i64,.int .i64,.list [.int .i64],.list [.int .i64,.int .i64,.list [.int .i64]],.list [.int .i64]]),(.one,[.list [.int .i64]])]
def Sn:ao:=[(.one,[.list [.int .i64]])]
def akq:aY:=[]
def F7:ao:=[(.agg,[.int .i64,.int .i64,.list [.int .i64],.list [.int .i64,.int .i64,.list [.int .i64]],.list [.int .i64]]),(.one,[.list [.int .i64]])]
def RN:ao:=[(.one,[.list [.int .i64]])]
def ajX:aY:=[]
def GH:ao:=[(.one,[.int .i64]),(.one,[.list [.int .i64]]),(.one,[.list [.int .i64]])]
def Sm:ao:=[(.one,[.int .i64])]
def akp:aY:=[]
def F5:ao:=[(.agg,[.int .i64,.int .i64,.list [.int .i64],.list [.int .i64,.int .i64,.list [.int .i64]],.list [.int .i64]]),(.one,[.list [.int .i64]])]
def RL:ao:=[(.one,[.int .i64])]
def ajV:aY:=[]
def Lq (NN:Nat):(Int×((List Int)×(Int×(Int×(List Int)))))->(Option (List Int)):=
 (fun((i0,l1,i2,i3,l4):(Int×((List Int)×(Int×(Int×(List Int))))))=>
 (pb (i0,((1:Int),i2,l1),i2,i3,l4)).U (fun(i5,i6,l7)=>
 (cP l7 (J l7)).U (fun l8=>
 some l8)))
def FD (NN:Nat):((Int×(Int×((List Int)×((List (Int×(Int×(List Int))))×(List Int)))))×(List Int))->(Option (List Int)):=
 (fun(((i0,i1,l2,l3,l4),l5):((Int×(Int×((List Int)×((List (Int×(Int×(List Int))))×(List Int)))))×(List Int)))=>
 (jZ l2).U (fun l6=>
 bL ((ab 0 (J l6) (J l6)).U (fun _=>
 bd NN (fun(((l7,i8,i9),(cf,cF,dn,hY,fW),cg):(((List Int)×(Int×Int))×((Int×(Int×((List Int)×((List (Int×(Int×(List Int))))×(List Int)))))×(List Int))))=>
 aw (bi i9 i8)
 ((dk l7 i9).U (fun eM=>
 (dk hY eM).U (fun(jk,fj,fM)=>
 (bG cg 0 (J cg)).U (fun fy=>
 (xj (cf,fy,jk,fj,fM)).U (fun km=>
 (ab 0 (J km) (J km)).U (fun _=>
 some (Sum.inl ((l7,i8,aW .i64 i9 1),(cf,cF,dn,hY,fW),km))))))))
 (((ab 0 (J cg) (J cg)).U (fun _=>
 some (Sum.inl cg))).U (fun eo=>
 some (Sum.inr eo))))
 ((l5,aM (J l5),(0:Int)),(i0,i1,l2,l3,l4),l6)))
 (fun fN=>
 (cP fN (J fN)).U (fun fz=>
 some fz))))
def Fv (NN:Nat):((Int×(Int×((List Int)×((List (Int×(Int×(List Int))))×(List Int)))))×(List Int))->(Option (List Int)):=
 (fun(((i0,i1,l2,l3,l4),l5):((Int×(Int×((List Int)×((List (Int×(Int×(List Int))))×(List Int)))))×(List Int)))=>
 (jY l2).U (fun l6=>
 bL ((ab 0 (J l6) (J l6)).U (fun _=>
 bd NN (fun(((l7,i8,i9),(cf,cF,dn,hY,fW),(mJ,eM),ci):(((List Int)×(Int×Int))×((Int×(Int×((List Int)×((List (Int×(Int×(List Int))))×(List Int)))))×((Int×Int)×(List Int)))))=>
 aw (bi i9 i8)
 ((dk l7 i9).U (fun fj=>
 (dk hY fj).U (fun(eU,iO,km)=>
 (bG ci 0 (J ci)).U (fun eo=>
 (uT (cf,(mJ,eM,eo),eU,iO,km)).U (fun(jG,lK,eE)=>
 (ab 0 (J eE) (J eE)).U (fun _=>
 some (Sum.inl ((l7,i8,aW .i64 i9 1),(cf,cF,dn,hY,fW),(jG,lK),eE))))))))
 (((ab 0 (J ci) (J ci)).U (fun _=>
 some (Sum.inl ((mJ,eM),ci)))).U (fun dM=>
 some (Sum.inr dM))))
 ((l5,aM (J l5),(0:Int)),(i0,i1,l2,l3,l4),((1:Int),aM (J l6)),l6)))
 (fun((jH,gR),iz)=>
 (cP iz (J iz)).U (fun gT=>
 some gT))))
def Lo (NN:Nat):(Int×((List Int)×(List Int)))->(Option Int):=
 (fun((i0,l1,l2):(Int×((List Int)×(List Int))))=>
 bL (bd NN (fun((i3,l4,i5,l6,i7,i8):(Int×((List Int)×(Int×((List Int)×(Int×Int))))))=>
 aw (bi i8 i7)
 ((dk l6 i8).U (fun i9=>
 (dk l4 i8).U (fun cf=>
 (fD (aW .i64 i5 (cK .i64 i9 cf)) i3).U (fun cF=>
 some (Sum.inl (i3,l4,cF,l6,i7,aW .i64 i8 1))))))
 (some (Sum.inr (Sum.inl i5))))
 (i0,l2,(0:Int),l1,aM (J l1),(0:Int)))
 (fun cU=>
 some cU))
def KY (NN:Nat):((Int×(Int×((List Int)×((List (Int×(Int×(List Int))))×(List Int)))))×(List Int))->(Option Int):=
 (fun(((i0,i1,l2,l3,l4),l5):((Int×(Int×((List Int)×((List (Int×(Int×(List Int))))×(List Int)))))×(List Int)))=>
 (te ((i0,i1,l2,l3,l4),l5)).U (fun l6=>
 (bG l6 0 (J l6)).U (fun l7=>
 (uT (i0,((1:Int),aM (J l6),l7),aM (J l4),(1:Int),l4)).U (fun(i8,i9,e9)=>
 (dU (0:Int) (J e9)).U (fun yx=>
 (db e9 (aH 0 yx)).U (fun cU=>
 some cU))))))
theorem rn {m:Int} {l:List Int}:ic m l=true↔eB m l:=by
 simp only[ic,eB,List.all_eq_true,vY,decide_eq_true_eq,fx]
structure Cc (N:Nat) (p:Int) (n:Nat) (a:List Int) (ms:List dJ) (b:List Int):Prop where
 pr:fm p=true
 hn:n<=N
 al:a.length=n
 ap:eB p a
 bl:b.length=n
 bp:eB p b
 l1:1<=ms.length
 l4:ms.length<=4
 hm:∀x∈ms,∃M:bC,x=((n:Int),(n:Int),aq n n M)/\dz p n n M
abbrev gn:=Cc 12
abbrev mg:=Cc 24
theorem Cc.p {N:Nat} {p:Int} {n:Nat} {a b:List Int} {ms:List dJ} (h:Cc N p n a ms b):cV p:=sk h.pr
theorem Cc.b {p:Int} {n:Nat} {a b:List Int} {ms:List dJ} (h:gn p n a ms b):mg p n a ms b:=⟨h.pr,Nat.le_trans h.hn (by omega),h.al,h.ap,h.bl,h.bp,h.l1,h.l4,h.hm⟩
theorem Vg {x:bX} (h:j4 x=true):∃(p:Int) (n:Nat) (a:List Int) (ms:List dJ) (b:List Int),x=(p,(n:Int),a,ms,b)/\gn p n a ms b:=by
 obtain⟨p,n,a,ms,b⟩:=x
 simp only[j4,Bool.and_eq_true,decide_eq_true_eq] at h
 obtain⟨h1,h2,⟨h3,h4⟩,⟨h5,h6⟩,h7,h8⟩:=h
 obtain⟨n,rfl⟩:=iV h2.1
 refine⟨p,n,a,ms,b,rfl,h1,by omega,by omega,rn.1 h3,by omega,rn.1 h5,by omega,by omega,fun x hx=>?_⟩
 have hm:=List.all_eq_true.1 h8 x hx
 simp only[re,Bool.and_eq_true,decide_eq_true_eq] at hm
 obtain⟨hm,hr,hc⟩:=hm
 obtain⟨r,c,M,rfl,hp,hr',cz,di,hM⟩:=ajD hm
 simp only at hr hc
 have er:r=n:=by omega
 have ec:c=n:=by omega
 subst er ec
 exact⟨M,rfl,hM⟩
theorem yL {p:Int} {r c:Nat} {l:List Int} (hl:l.length=r*c) (h:eB p l):dz p r c (c8 c l):=ly.1 (by rw[qF hl];exact h)
theorem Ct {x:bX} (h:vf x=true):∃(p:Int) (n:Nat) (a:List Int) (ms:List dJ) (b:List Int),x=(p,(n:Int),a,ms,b)/\mg p n a ms b:=by
 obtain⟨p,n,a,ms,b⟩:=x
 simp only[vf,Bool.and_eq_true,decide_eq_true_eq] at h
 obtain⟨h1,h2,⟨h3,h4⟩,⟨h5,h6⟩,h7,h8⟩:=h
 obtain⟨n,rfl⟩:=iV h2.1
 refine⟨p,n,a,ms,b,rfl,h1,by omega,by omega,rn.1 h3,by omega,rn.1 h5,by omega,by omega,fun x hx=>?_⟩
 have hm:=List.all_eq_true.1 h8 x hx
 simp only[Bool.and_eq_true,decide_eq_true_eq,Int.toNat_natCast] at hm
 obtain⟨⟨hr,hc,hl⟩,hp⟩:=hm
 obtain⟨r,c,d⟩:=x
 simp only at hr hc hl hp
 subst hr hc
 exact⟨c8 n d,by rw[qF hl],yL hl (rn.1 hp)⟩
theorem vg {p:Int} {n:Nat} {a b:List Int} {ms:List dJ} (H:mg p n a ms b):vf (p,(n:Int),a,ms,b)=true:=by
 have hn:=H.hn
 have h1:=H.l1
 have h4:=H.l4
 have ha:=H.al
 have hb:=H.bl
 simp only[vf,Bool.and_eq_true,decide_eq_true_eq]
 refine⟨H.pr,⟨by omega,by omega⟩,⟨rn.2 H.ap,by omega⟩,⟨rn.2 H.bp,by omega⟩,⟨by omega,by omega⟩,List.all_eq_true.2 fun x hx=>?_⟩
 obtain⟨M,rfl,hM⟩:=H.hm x hx
 simp only[Bool.and_eq_true,decide_eq_true_eq,Int.toNat_natCast]
 exact⟨⟨trivial,trivial,kS _ _ _⟩,rn.2 (ly.2 hM)⟩
section
variable {p:Int} {n:Nat} {a b:List Int} {ms:List dJ}
theorem Ue {s:List Int} {c:Int}:(uI p n ms s c).length=n:=by unfold uI;rw[kS];omega
theorem Ud (hp:cV p) {s:List Int} {c:Int}:eB p (uI p n ms s c):=ly.2 (akx hp 1 n n _ _)
theorem ZJ (H:mg p n a ms b) {s:List Int} (hl:s.length=n) (hs:eB p s) {x:dJ} (hx:x∈ms):
  pb (p,(1,(n:Int),s),x)=some (1,(n:Int),aq 1 n (gm p n (c8 n s) (c8 n x.2.2))):=by
 obtain⟨M,rfl,hM⟩:=H.hm x hx
 have hn:=H.hn
 have Xt:n*n<=24*24:=Nat.mul_le_mul hn hn
 have e1:aq 1 n (c8 n s)=s:=qF (by omega)
 have e2:aq n n (c8 n (aq n n M))=aq n n M:=qF (kS _ _ _)
 have h:=JL (r:=1) (k:=n) (c:=n) (A:=c8 n s) (B:=c8 n (aq n n M)) H.p (by omega) (by omega) (by omega) (by omega) (by omega) (by omega) (yL (by omega) hs) (yL (kS _ _ _) (ly.2 hM))
 rw[e1,e2] at h
 exact h
theorem abm {w:List Int} (hw:tc ms.length w) {i:Nat} {c:Int} (hc:w[i]? =some c):∃x,x∈ms/\dk ms c=some x/\ms.getD c.toNat (0,0,[])=x:=by
 have h:=hw c (List.mem_of_getElem? hc)
 obtain⟨k,rfl⟩:=iV h.1
 have hk:k<ms.length:=by omega
 refine⟨ms[k],List.getElem_mem hk,by rw[eD,List.getElem?_eq_getElem hk],?_⟩
 simp[List.getD,hk]
theorem Nb {S α:Type} (f:S->α->S):∀(l:List α) (i:Nat) (s:S),xP (fun _ s a=>f s a) i s l=l.foldl f s
 |[],i,s=>rfl
 |x::l,i,s=>Nb f l (i+1) (f s x)
theorem Bw (hp:cV p):∀(w:List Int) (s:List Int),s.length=n->eB p s->(de p n ms s w).length=n/\eB p (de p n ms s w)
 |[],s,h1,h2=>⟨h1,h2⟩
 |c::w,s,h1,h2=>Bw hp w (uI p n ms s c) Ue (Ud hp)
theorem aeO (x:Int×List Int×Int×Int×List Int) (y:List Int) (h:xj x=some y):Lq aD x=some y:=by
 obtain⟨p,l,r,c,d⟩:=x
 simp only[xj] at h
 split at h
 ·rename_i z e
  injection h with h
  subst h
  obtain⟨z0,z1,z2⟩:=z
  simp only[Lq,e,aj,gV]
 ·cases h
theorem aod (H:mg p n a ms b) {s:List Int} (hl:s.length=n) (hs:eB p s) {x:dJ} (hx:x∈ms):
  xj (p,s,x)=some (aq 1 n (gm p n (c8 n s) (c8 n x.2.2))):=by
 have h:=ZJ H hl hs hx
 obtain⟨M,rfl,hM⟩:=H.hm x hx
 simp only[xj]
 rw[h]
theorem ae7 (H:mg p n a ms b) {w:List Int} (hw:tc ms.length w) (hl:w.length<=1048576):FD aD ((p,(n:Int),a,ms,b),w)=some (de p n ms a w):=by
 simp only[FD]
 rw[show jZ a=some a from if_pos (by have:=H.al;have:=H.hn;omega),aj]
 simp only[bK,aj]
 rw[Zo w (fun s i=>((w,aM (J w),(i:Int)),(p,(n:Int),a,ms,b),s)) (fun _ s=>s.length=n/\eB p s) (fun _ s c=>uI p n ms s c) (fun s=>Sum.inl s) ?h1 ?h3 (s:=a) ⟨H.al,H.ap⟩ ?h0 (cG (by omega))]
 case h0=>rfl
 case h1=>
  intro i s c hc hI
  refine⟨?_,Ue,Ud H.p⟩
  obtain⟨x,hx,hg,hd⟩:=abm hw hc
  have ht:=aod H hI.1 hI.2 hx
  simp only
  rw[aT (gk hc),eD,hc,aj,hg,aj]
  obtain⟨x0,x1,x2⟩:=x
  simp only[kE,aj,ht,bK]
  rw[lk hc (by omega)]
  unfold uI
  rw[hd]
 case h3=>
  intro s hI
  simp only
  rw[aS (mR w)]
  try simp only[bK,aj]
 rw[cO]
 simp only[gV,aj]
 rw[Nb]
 rfl
theorem ae6 (H:mg p n a ms b) {w:List Int} (hw:tc ms.length w) (hl:w.length<=1048576):Fv aD ((p,(n:Int),a,ms,b),w)=some (de p n ms a w):=by
 simp only[Fv]
 rw[show jY a=some a from if_pos (by have:=H.al;have:=H.hn;omega),aj]
 simp only[bK,aj]
 have ea:aM (J a)=(n:Int):=by rw[nl,H.al]
 rw[ea]
 rw[Zo w (fun s i=>((w,aM (J w),(i:Int)),(p,(n:Int),a,ms,b),((1:Int),(n:Int)),s)) (fun _ s=>s.length=n/\eB p s) (fun _ s c=>uI p n ms s c) (fun s=>Sum.inl (((1:Int),(n:Int)),s)) ?h1 ?h3 (s:=a) ⟨H.al,H.ap⟩ ?h0 (cG (by omega))]
 case h0=>rfl
 case h1=>
  intro i s c hc hI
  refine⟨?_,Ue,Ud H.p⟩
  obtain⟨x,hx,hg,hd⟩:=abm hw hc
  have ht:uT (p,(1,(n:Int),s),x)=_:=ZJ H hI.1 hI.2 hx
  simp only
  rw[aT (gk hc),eD,hc,aj,hg,aj]
  obtain⟨x0,x1,x2⟩:=x
  simp only[kE,aj,ht,bK]
  rw[lk hc (by omega)]
  unfold uI
  rw[hd]
 case h3=>
  intro s hI
  simp only
  rw[aS (mR w)]
  try simp only[bK,aj]
 rw[cO]
 simp only[gV,aj]
 rw[Nb]
 rfl
end
theorem aeL (x:bX×List Int) (y:List Int) (h:nY x=some y):FD aD x=some y:=by
 obtain⟨x,w⟩:=x
 simp only[nY] at h
 split at h
 ·rename_i hc
  obtain⟨p,n,a,ms,b,rfl,H⟩:=Ct hc.1
  rw[<-h]
  exact ae7 H hc.2.1 hc.2.2
 ·cases h
theorem aee (x:bX×List Int) (y:List Int) (h:te x=some y):Fv aD x=some y:=by
 obtain⟨x,w⟩:=x
 simp only[te,nY] at h
 split at h
 ·rename_i hc
  obtain⟨p,n,a,ms,b,rfl,H⟩:=Ct hc.1
  rw[<-h]
  exact ae6 H hc.2.1 hc.2.2
 ·cases h
theorem aeK (x:Int×List Int×List Int) (y:Int) (h:xg x=some y):Lo aD x=some y:=by
 obtain⟨p,l,m⟩:=x
 simp only[xg] at h
 split at h
 ·rename_i hc
  obtain⟨hp,hlm,hl,hL,hM⟩:=hc
  rw[<-h]
  simp only[Lo]
  rw[ew (fun i=>(p,m,kP p (fun t=>l.getD t 0) (fun t=>m.getD t 0) i,l,aM (J l),(i:Int))) l.length ?h1 ?h2 ?h0 (cG (by omega))]
  case h0=>rfl
  case h2=>simp only;rw[aS (mR l)]
  case h1=>
   intro i hi
   have g1:l[i]? =some (l.getD i 0):=Ni hi
   have g2:m[i]? =some (m.getD i 0):=Ni (by omega)
   have i1:=hL _ (List.mem_of_getElem? g1)
   have i2:=hM _ (List.mem_of_getElem? g2)
   simp only
   rw[aT (gk g1),eD,g1,aj,eD,g2,aj,Ec hp ((Hm hp _ _ i).s hp) i1.le i2.le,aj,lk g1 (by omega)]
   rfl
  rw[cO]
  rfl
 ·cases h
theorem aop {p:Int} {n:Nat} {s b:List Int} (hp:cV p) (hn:n<=24) (hl:s.length=n) (hs:eB p s) (hb:b.length=n) (hB:eB p b):
  uT (p,(1,(n:Int),s),((n:Int),1,b))=some (1,1,[xD p s b]):=by
 have e1:aq 1 n (c8 n s)=s:=qF (by omega)
 have e2:aq n 1 (c8 1 b)=b:=qF (by omega)
 have h:=JL (r:=1) (k:=n) (c:=1) (A:=c8 n s) (B:=c8 1 b) hp (by omega) (by omega) (by omega) (by omega) (by omega) (by omega) (yL (by omega) hs) (yL (by omega) hB)
 rw[e1,e2] at h
 have e3:aq 1 1 (gm p n (c8 n s) (c8 1 b))=[xD p s b]:=by
  show[kP p (fun t=>c8 n s 0 t) (fun t=>c8 1 b t 0) n]=[xD p s b]
  unfold xD
  rw[hl]
  have:∀k,k<=n->kP p (fun t=>c8 n s 0 t) (fun t=>c8 1 b t 0) k=kP p (fun t=>s.getD t 0) (fun t=>b.getD t 0) k:=by
   intro k
   induction k with
   |zero=>intro _;rfl
   |succ k ih=>
    intro hk
    show(kP _ _ _ k+_)%p=(kP _ _ _ k+_)%p
    rw[ih (by omega)]
    have a1:c8 n s 0 k=s.getD k 0:=by unfold c8;rw[Nat.zero_mul,Nat.zero_add]
    have a2:c8 1 b k 0=b.getD k 0:=by unfold c8;rw[Nat.mul_one,Nat.add_zero]
    simp only[a1,a2]
  rw[this n (Nat.le_refl n)]
 rw[e3] at h
 exact h
theorem aec (x:bX×List Int) (y:Int) (h:xb x=some y):KY aD x=some y:=by
 obtain⟨x,w⟩:=x
 simp only[xb] at h
 split at h
 ·rename_i hc
  have hr:te (x,w)=some _:=if_pos hc
  obtain⟨p,n,a,ms,b,rfl,H⟩:=Ct hc.1
  rw[<-h]
  simp only[Int.toNat_natCast] at hr
  obtain⟨h1,h2⟩:=Bw (ms:=ms) H.p w a H.al H.ap
  simp only[KY,hr,aj,kE]
  rw[show aM (J (de p n ms a w))=(n:Int) by rw[nl,h1],show aM (J b)=(n:Int) by rw[nl,H.bl],aop H.p H.hn h1 h2 H.bl H.bp,aj]
  simp only
  rw[show dU 0 (J [xD p (de p n ms a w) b])=some 0 from rfl]
  simp only[aj,ql,Int.toNat_natCast]
  rfl
 ·cases h
end Go.Am
end
section
namespace Go.Am
def nd (x y:bX):Bool:=j4 x&&(j4 y&&(decide (x.1=y.1)&&decide (x.2.2.2.1.length=y.2.2.2.1.length)))
def nX:bX×bX->Option Bool:=fun(x:bX×bX)=>if ff x.1<=1048576/\ff x.2<=1048576 then some (nd x.1 x.2) else none
def td:bX×bX->Option Bool:=nX
def stM (n:Nat) (ms:List dJ) (k:Nat):bC:=c8 n (ms.getD k (0,0,[])).2.2
def uJ (n:Nat) (A B:bC):bC:=fun i j=>if i<n/\j<n then A i j else if n<=i/\n<=j then B (i - n) (j - n) else 0
def dt (n m:Nat) (ms ms2:List dJ) (k:Nat):List dJ:=(List.range k).map fun t=>(((n+m:Nat):Int),((n+m:Nat):Int),aq (n+m) (n+m) (uJ n (stM n ms t) (stM m ms2 t)))
def y7 (x y:bX) (sg:Int):bX:=(x.1,((x.2.1.toNat+y.2.1.toNat:Nat):Int),x.2.2.1++y.2.2.1,dt x.2.1.toNat y.2.1.toNat x.2.2.2.1 y.2.2.2.1 x.2.2.2.1.length,x.2.2.2.2++y.2.2.2.2.map fun v=>v*sg%x.1)
def xi:bX×bX×Int->Option bX:=fun(x:bX×bX×Int)=>if nd x.1 x.2.1=true/\(0<=x.2.2/\x.2.2<=x.1.1) then some (y7 x.1 x.2.1 x.2.2) else none
def xa:bX×bX->Option bX:=fun(x:bX×bX)=>if nd x.1 x.2=true then some (y7 x.1 x.2 1) else none
def GF:ao:=[(.agg,[.int .i64,.int .i64,.list [.int .i64],.list [.int .i64,.int .i64,.list [.int .i64]],.list [.int .i64]]),(.agg,[.int .i64,.int .i64,.list [.int .i64],.list [.int .i64,.int .i64,.list [.int .i64]],.list [.int .i64]])]
def Sk:ao:=[(.one,[.bool])]
def akn:aY:=[]
def F6:ao:=[(.agg,[.int .i64,.int .i64,.list [.int .i64],.list [.int .i64,.int .i64,.list [.int .i64]],.list [.int .i64]]),(.agg,[.int .i64,.int .i64,.list [.int .i64],.list [.int .i64,.int .i64,.list [.int .i64]],.list [.int .i64]])]
def RM:ao:=[(.one,[.bool])]
def ajW:aY:=[]
def GK:ao:=[(.agg,[.int .i64,.int .i64,.list [.int .i64],.list [.int .i64,.int .i64,.list [.int .i64]],.list [.int .i64]]),(.agg,[.int .i64,.int .i64,.list [.int .i64],.list [.int .i64,.int .i64,.list [.int .i64]],.list [.int .i64]]),(.one,[.int .i64])]
def Sp:ao:=[(.agg,[.int .i64,.int .i64,.list [.int .i64],.list [.int .i64,.int .i64,.list [.int .i64]],.list [.int .i64]])]
def aks:aY:=[]
def FY:ao:=[(.agg,[.int .i64,.int .i64,.list [.int .i64],.list [.int .i64,.int .i64,.list [.int .i64]],.list [.int .i64]]),(.agg,[.int .i64,.int .i64,.list [.int .i64],.list [.int .i64,.int .i64,.list [.int .i64]],.list [.int .i64]])]
def RE:ao:=[(.agg,[.int .i64,.int .i64,.list [.int .i64],.list [.int .i64,.int .i64,.list [.int .i64]],.list [.int .i64]])]
def ajQ:aY:=[]
def Ln (NN:Nat):((Int×(Int×((List Int)×((List (Int×(Int×(List Int))))×(List Int)))))×(Int×(Int×((List Int)×((List (Int×(Int×(List Int))))×(List Int))))))->(Option Bool):=
 (fun(((i0,i1,l2,l3,l4),i5,i6,l7,l8,l9):((Int×(Int×((List Int)×((List (Int×(Int×(List Int))))×(List Int)))))×(Int×(Int×((List Int)×((List (Int×(Int×(List Int))))×(List Int)))))))=>
 (uW (i0,i1,l2,l3,l4)).U (fun j5=>
 aw (j5)
 ((uW (i5,i6,l7,l8,l9)).U (fun xw=>
 aw (xw)
 (aw (fS i0 i5)
 (some (fS (aM (J l3)) (aM (J l8))))
 (some false))
 (some false)))
 (some false)))
def KZ (NN:Nat):((Int×(Int×((List Int)×((List (Int×(Int×(List Int))))×(List Int)))))×(Int×(Int×((List Int)×((List (Int×(Int×(List Int))))×(List Int))))))->(Option Bool):=
 (fun(((i0,i1,l2,l3,l4),i5,i6,l7,l8,l9):((Int×(Int×((List Int)×((List (Int×(Int×(List Int))))×(List Int)))))×(Int×(Int×((List Int)×((List (Int×(Int×(List Int))))×(List Int)))))))=>
 (uQ (i0,i1,l2,l3,l4)).U (fun j5=>
 aw (j5)
 ((uQ (i5,i6,l7,l8,l9)).U (fun xw=>
 aw (xw)
 (aw (fS i0 i5)
 (some (fS (aM (J l3)) (aM (J l8))))
 (some false))
 (some false)))
 (some false)))
def FE (NN:Nat):((Int×(Int×((List Int)×((List (Int×(Int×(List Int))))×(List Int)))))×((Int×(Int×((List Int)×((List (Int×(Int×(List Int))))×(List Int)))))×Int))->(Option (Int×(Int×((List Int)×((List (Int×(Int×(List Int))))×(List Int)))))):=
 (fun(((i0,i1,l2,l3,l4),(i5,i6,l7,l8,l9),cf):((Int×(Int×((List Int)×((List (Int×(Int×(List Int))))×(List Int)))))×((Int×(Int×((List Int)×((List (Int×(Int×(List Int))))×(List Int)))))×Int)))=>
 (jZ l2).U (fun gC=>
 (ab 0 (J gC) (J gC)).U (fun _=>
 (iL (aH (J gC) (J l7)) 8).U (fun _=>
 (jZ l4).U (fun dn=>
 bL ((ab 0 0 (J (([]:List Int)))).U (fun _=>
 (ab 0 0 (J (([]:List (Int×(Int×(List Int))))))).U (fun _=>
 (ab 0 0 (J (([]:List Int)))).U (fun _=>
 (ab 0 (aH (J gC) (J l7)) (J (bY gC l7))).U (fun _=>
 (ab 0 0 (J (([]:List (Int×(Int×(List Int))))))).U (fun _=>
 (ab 0 (J dn) (J dn)).U (fun _=>
 bd NN (fun(((dB,c7,cg,eM,jk),(fj,eU,fy,km,eo),(jG,lK,eE,dM,ui),(gR,sa),(mK,iQ),dc,dN,dO,lP,jM,dC):((Int×(Int×((List Int)×(Int×Int))))×((Int×(Int×((List Int)×((List (Int×(Int×(List Int))))×(List Int)))))×((Int×(Int×((List Int)×((List (Int×(Int×(List Int))))×(List Int)))))×((Int×Int)×((Int×Int)×((List Int)×((List (Int×(Int×(List Int))))×((List Int)×((List Int)×((List (Int×(Int×(List Int))))×(List Int))))))))))))=>
 aw (bi jk eM)
 ((dk cg jk).U (fun oA=>
 (fD (cK .i64 oA dB) fj).U (fun oB=>
 (ab 0 (J dC) (J dC)).U (fun _=>
 (bG ((oB::([]:List Int))) 0 1).U (fun eV=>
 (iL (aH (J dC) (J eV)) 8).U (fun _=>
 (ab 0 (J dc) (J dc)).U (fun _=>
 (ab 0 (J dN) (J dN)).U (fun _=>
 (ab 0 (J dO) (J dO)).U (fun _=>
 (ab 0 (J lP) (J lP)).U (fun _=>
 (ab 0 (J jM) (J jM)).U (fun _=>
 (ab 0 (aH (J dC) (J eV)) (J (bY dC eV))).U (fun _=>
 some (Sum.inl ((dB,c7,cg,eM,aW .i64 jk 1),(fj,eU,fy,km,eo),(jG,lK,eE,dM,ui),(gR,sa),(mK,iQ),dc,dN,dO,lP,jM,bY dC eV))))))))))))))
 (((ab 0 (J dc) (J dc)).U (fun _=>
 (ab 0 (J dN) (J dN)).U (fun _=>
 (ab 0 (J dO) (J dO)).U (fun _=>
 (ab 0 (J lP) (J lP)).U (fun _=>
 (ab 0 (J jM) (J jM)).U (fun _=>
 (ab 0 (J dC) (J dC)).U (fun _=>
 some (Sum.inl (c7,(fj,eU,fy,km,eo),(jG,lK,eE,dM,ui),(gR,sa),(mK,iQ),dc,dN,dO,lP,jM,dC))))))))).U (fun kt=>
 some (Sum.inr kt))))
 ((cf,aW .i64 i1 i6,l9,aM (J l9),(0:Int)),(i0,i1,l2,l3,l4),(i5,i6,l7,l8,l9),((0:Int),(0:Int)),(i0,aW .i64 i1 i6),([]:List Int),([]:List (Int×(Int×(List Int)))),([]:List Int),bY gC l7,([]:List (Int×(Int×(List Int)))),dn))))))))
 (fun(ki,(iR,jI,wi,fO,rc),(jm,oE,oK,wj,sN),(mL,t8),(Yp,t9),nE,yB,pO,wk,jq,lR)=>
 bL ((ab 0 (J nE) (J nE)).U (fun _=>
 (ab 0 (J yB) (J yB)).U (fun _=>
 (ab 0 (J pO) (J pO)).U (fun _=>
 (ab 0 (J wk) (J wk)).U (fun _=>
 (ab 0 (J jq) (J jq)).U (fun _=>
 (ab 0 (J lR) (J lR)).U (fun _=>
 bd NN (fun(((kj,pP,sb,vR),(ua,vS,lU,nF,nG),(oG,jo,mN,iU,yC),(jK,iS),(fL,hH),fY,eF,fb,nH,mO,mP):((Int×((List (Int×(Int×(List Int))))×(Int×Int)))×((Int×(Int×((List Int)×((List (Int×(Int×(List Int))))×(List Int)))))×((Int×(Int×((List Int)×((List (Int×(Int×(List Int))))×(List Int)))))×((Int×Int)×((Int×Int)×((List Int)×((List (Int×(Int×(List Int))))×((List Int)×((List Int)×((List (Int×(Int×(List Int))))×(List Int))))))))))))=>
 aw (bi vR sb)
 (bL ((dk pP vR).U (fun(nA,se,ku)=>
 (u0 (kj,kj)).U (fun(q8,vU,pQ)=>
 bL ((ab 0 (J fY) (J fY)).U (fun _=>
 (ab 0 (J eF) (J eF)).U (fun _=>
 (ab 0 (J fb) (J fb)).U (fun _=>
 (ab 0 (J nH) (J nH)).U (fun _=>
 (ab 0 (J mO) (J mO)).U (fun _=>
 (ab 0 (J mP) (J mP)).U (fun _=>
 (ab 0 (J pQ) (J pQ)).U (fun _=>
 bd NN (fun(((pH,sf,jL,sO,AG,AH),(vV,yi,oI,ra,pK),(nv,Aw,gi,iy,lb),(Ax,r9),(qW,oz),(yj,age,v8),(Io,Ay),v9,pL,pM,pN,wa,wb,AP):((Int×(Int×(Int×((List (Int×(Int×(List Int))))×(Int×Int)))))×((Int×(Int×((List Int)×((List (Int×(Int×(List Int))))×(List Int)))))×((Int×(Int×((List Int)×((List (Int×(Int×(List Int))))×(List Int)))))×((Int×Int)×((Int×Int)×((Int×(Int×(List Int)))×((Int×Int)×((List Int)×((List (Int×(Int×(List Int))))×((List Int)×((List Int)×((List (Int×(Int×(List Int))))×((List Int)×(List Int)))))))))))))))=>
 aw (bi jL yi)
 (bL ((ab 0 (J v9) (J v9)).U (fun _=>
 (ab 0 (J pL) (J pL)).U (fun _=>
 (ab 0 (J pM) (J pM)).U (fun _=>
 (ab 0 (J pN) (J pN)).U (fun _=>
 (ab 0 (J wa) (J wa)).U (fun _=>
 (ab 0 (J wb) (J wb)).U (fun _=>
 (ab 0 (J AP) (J AP)).U (fun _=>
 bd NN (fun(((Az,DB,vQ,AA,O1,Ip,XV),(XW,Iq,AR,AS,AU),(XX,XY,YP,Ji,YQ),(Ir,Is),(It,XZ),(X0,X3,O3),(Iu,X4),wc,wg,AV,AW,AX,AY,wh):((Int×(Int×(Int×(Int×((List (Int×(Int×(List Int))))×(Int×Int))))))×((Int×(Int×((List Int)×((List (Int×(Int×(List Int))))×(List Int)))))×((Int×(Int×((List Int)×((List (Int×(Int×(List Int))))×(List Int)))))×((Int×Int)×((Int×Int)×((Int×(Int×(List Int)))×((Int×Int)×((List Int)×((List (Int×(Int×(List Int))))×((List Int)×((List Int)×((List (Int×(Int×(List Int))))×((List Int)×(List Int)))))))))))))))=>
 aw (bi AA Iq)
 ((dk O3 (aW .i64 (cK .i64 vQ Iq) AA)).U (fun Iv=>
 (dU (aW .i64 (cK .i64 vQ Az) AA) (J wh)).U (fun OS=>
 (db wh (aH 0 OS)).U (fun aoR=>
 (ab 0 (J wc) (J wc)).U (fun _=>
 (ab 0 (J wg) (J wg)).U (fun _=>
 (ab 0 (J AV) (J AV)).U (fun _=>
 (ab 0 (J AW) (J AW)).U (fun _=>
 (ab 0 (J AX) (J AX)).U (fun _=>
 (ab 0 (J AY) (J AY)).U (fun _=>
 (ab 0 (J wh) (J (cb wh (aH 0 OS) Iv))).U (fun _=>
 some (Sum.inl ((Az,DB,vQ,aW .i64 AA 1,O1,Ip,XV),(XW,Iq,AR,AS,AU),(XX,XY,YP,Ji,YQ),(Ir,Is),(It,XZ),(X0,X3,O3),(Iu,X4),wc,wg,AV,AW,AX,AY,cb wh (aH 0 OS) Iv)))))))))))))
 (((ab 0 (J wc) (J wc)).U (fun _=>
 (ab 0 (J wg) (J wg)).U (fun _=>
 (ab 0 (J AV) (J AV)).U (fun _=>
 (ab 0 (J AW) (J AW)).U (fun _=>
 (ab 0 (J AX) (J AX)).U (fun _=>
 (ab 0 (J AY) (J AY)).U (fun _=>
 (ab 0 (J wh) (J wh)).U (fun _=>
 some (Sum.inl ((vQ,Az,DB,O1,Ip,XV),(XW,Iq,AR,AS,AU),(XX,XY,YP,Ji,YQ),(Ir,Is),(It,XZ),(X0,X3,O3),(Iu,X4),wc,wg,AV,AW,AX,AY,wh)))))))))).U (fun DW=>
 some (Sum.inr DW))))
 ((pH,sf,jL,(0:Int),sO,AG,AH),(vV,yi,oI,ra,pK),(nv,Aw,gi,iy,lb),(Ax,r9),(qW,oz),(yj,age,v8),(Io,Ay),v9,pL,pM,pN,wa,wb,AP)))))))))
 (fun((ags,agt,agu,DX,Oq,Iw),(agv,Ix,aiL,aiM,aiN),(agw,agx,Jj,aiO,aiP),(agy,agz),(agA,Iy),(Iz,IA,aiQ),(IB,IC),sq,sr,su,sv,sx,sy,sA)=>
 (ab 0 (J sq) (J sq)).U (fun _=>
 (ab 0 (J sr) (J sr)).U (fun _=>
 (ab 0 (J su) (J su)).U (fun _=>
 (ab 0 (J sv) (J sv)).U (fun _=>
 (ab 0 (J sx) (J sx)).U (fun _=>
 (ab 0 (J sy) (J sy)).U (fun _=>
 (ab 0 (J sA) (J sA)).U (fun _=>
 some (Sum.inl ((agt,agu,aW .i64 ags 1,DX,Oq,Iw),(agv,Ix,aiL,aiM,aiN),(agw,agx,Jj,aiO,aiP),(agy,agz),(agA,Iy),(Iz,IA,aiQ),(IB,IC),sq,sr,su,sv,sx,sy,sA)))))))))))
 (((ab 0 (J v9) (J v9)).U (fun _=>
 (ab 0 (J pL) (J pL)).U (fun _=>
 (ab 0 (J pM) (J pM)).U (fun _=>
 (ab 0 (J pN) (J pN)).U (fun _=>
 (ab 0 (J wa) (J wa)).U (fun _=>
 (ab 0 (J wb) (J wb)).U (fun _=>
 (ab 0 (J AP) (J AP)).U (fun _=>
 some (Sum.inl ((AG,sO,pH,AH,sf),(vV,yi,oI,ra,pK),(nv,Aw,gi,iy,lb),(Ax,r9),(qW,oz),(Io,Ay),v9,pL,pM,pN,wa,wb,AP)))))))))).U (fun aiR=>
 some (Sum.inr aiR))))
 ((kj,vR,(0:Int),pP,sb,vR),(ua,vS,lU,nF,nG),(oG,jo,mN,iU,yC),(jK,iS),(fL,hH),(nA,se,ku),(q8,vU),fY,eF,fb,nH,mO,mP,pQ)))))))))
 (fun((AB,aiS,agB,IE,IF),(IG,AD,Jk,Jl,Jm),(IH,DC,Jn,DY,Jo),(II,IJ),(IK,IL),(DD,DE),sB,sC,sD,sE,sF,sG,rb)=>
 bL ((ab 0 (J sB) (J sB)).U (fun _=>
 (ab 0 (J sC) (J sC)).U (fun _=>
 (ab 0 (J sD) (J sD)).U (fun _=>
 (ab 0 (J sE) (J sE)).U (fun _=>
 (ab 0 (J sF) (J sF)).U (fun _=>
 (ab 0 (J sG) (J sG)).U (fun _=>
 (ab 0 (J rb) (J rb)).U (fun _=>
 bd NN (fun(((IM,Ov,Yb,YZ,Yc,Yd),(IP,IQ,Jp,Y1,Y2),(IU,DF,Jq,Jr,Js),(IV,IW),(Ye,Yf),(Yg,IX),AZ,A2,A3,A4,A5,sH,sI):((Int×(Int×(Int×((List (Int×(Int×(List Int))))×(Int×Int)))))×((Int×(Int×((List Int)×((List (Int×(Int×(List Int))))×(List Int)))))×((Int×(Int×((List Int)×((List (Int×(Int×(List Int))))×(List Int)))))×((Int×Int)×((Int×Int)×((Int×Int)×((List Int)×((List (Int×(Int×(List Int))))×((List Int)×((List Int)×((List (Int×(Int×(List Int))))×((List Int)×(List Int))))))))))))))=>
 aw (bi Yb DF)
 (bL ((ab 0 (J AZ) (J AZ)).U (fun _=>
 (ab 0 (J A2) (J A2)).U (fun _=>
 (ab 0 (J A3) (J A3)).U (fun _=>
 (ab 0 (J A4) (J A4)).U (fun _=>
 (ab 0 (J A5) (J A5)).U (fun _=>
 (ab 0 (J sH) (J sH)).U (fun _=>
 (ab 0 (J sI) (J sI)).U (fun _=>
 bd NN (fun(((Ow,Ox,IY,IZ,A6,Yh,I0),(Yi,AE,Y3,Y4,Jt),(Yj,I1,Y5,Pf,Ju),(Yk,Yl),(I2,I3),(I4,I5),A7,A8,sJ,sK,sL,sM,mM):((Int×(Int×(Int×(Int×((List (Int×(Int×(List Int))))×(Int×Int))))))×((Int×(Int×((List Int)×((List (Int×(Int×(List Int))))×(List Int)))))×((Int×(Int×((List Int)×((List (Int×(Int×(List Int))))×(List Int)))))×((Int×Int)×((Int×Int)×((Int×Int)×((List Int)×((List (Int×(Int×(List Int))))×((List Int)×((List Int)×((List (Int×(Int×(List Int))))×((List Int)×(List Int))))))))))))))=>
 aw (bi IZ I1)
 ((dk Pf Ox).U (fun(aoS,aoT,yA)=>
 (dk yA (aW .i64 (cK .i64 IY I1) IZ)).U (fun I6=>
 (dU (aW .i64 (aW .i64 (cK .i64 (aW .i64 AE IY) Ow) AE) IZ) (J mM)).U (fun OU=>
 (db mM (aH 0 OU)).U (fun Ym=>
 (ab 0 (J A7) (J A7)).U (fun _=>
 (ab 0 (J A8) (J A8)).U (fun _=>
 (ab 0 (J sJ) (J sJ)).U (fun _=>
 (ab 0 (J sK) (J sK)).U (fun _=>
 (ab 0 (J sL) (J sL)).U (fun _=>
 (ab 0 (J sM) (J sM)).U (fun _=>
 (ab 0 (J mM) (J (cb mM (aH 0 OU) I6))).U (fun _=>
 some (Sum.inl ((Ow,Ox,IY,aW .i64 IZ 1,A6,Yh,I0),(Yi,AE,Y3,Y4,Jt),(Yj,I1,Y5,Pf,Ju),(Yk,Yl),(I2,I3),(I4,I5),A7,A8,sJ,sK,sL,sM,cb mM (aH 0 OU) I6))))))))))))))
 (((ab 0 (J A7) (J A7)).U (fun _=>
 (ab 0 (J A8) (J A8)).U (fun _=>
 (ab 0 (J sJ) (J sJ)).U (fun _=>
 (ab 0 (J sK) (J sK)).U (fun _=>
 (ab 0 (J sL) (J sL)).U (fun _=>
 (ab 0 (J sM) (J sM)).U (fun _=>
 (ab 0 (J mM) (J mM)).U (fun _=>
 some (Sum.inl ((IY,Ow,Ox,A6,Yh,I0),(Yi,AE,Y3,Y4,Jt),(Yj,I1,Y5,Pf,Ju),(Yk,Yl),(I2,I3),(I4,I5),A7,A8,sJ,sK,sL,sM,mM)))))))))).U (fun ai5=>
 some (Sum.inr ai5))))
 ((IM,Ov,Yb,(0:Int),YZ,Yc,Yd),(IP,IQ,Jp,Y1,Y2),(IU,DF,Jq,Jr,Js),(IV,IW),(Ye,Yf),(Yg,IX),AZ,A2,A3,A4,A5,sH,sI)))))))))
 (fun((Oy,agP,agQ,Ph,Oz,OA),(agR,agS,Pj,aja,ajb),(OB,OC,DZ,D2,D3),(agV,agW),(agX,agY),(Yn,Yo),Pn,Po,Jv,Jw,Jx,A9,Ba)=>
 (ab 0 (J Pn) (J Pn)).U (fun _=>
 (ab 0 (J Po) (J Po)).U (fun _=>
 (ab 0 (J Jv) (J Jv)).U (fun _=>
 (ab 0 (J Jw) (J Jw)).U (fun _=>
 (ab 0 (J Jx) (J Jx)).U (fun _=>
 (ab 0 (J A9) (J A9)).U (fun _=>
 (ab 0 (J Ba) (J Ba)).U (fun _=>
 some (Sum.inl ((agP,agQ,aW .i64 Oy 1,Ph,Oz,OA),(agR,agS,Pj,aja,ajb),(OB,OC,DZ,D2,D3),(agV,agW),(agX,agY),(Yn,Yo),Pn,Po,Jv,Jw,Jx,A9,Ba)))))))))))
 (((ab 0 (J AZ) (J AZ)).U (fun _=>
 (ab 0 (J A2) (J A2)).U (fun _=>
 (ab 0 (J A3) (J A3)).U (fun _=>
 (ab 0 (J A4) (J A4)).U (fun _=>
 (ab 0 (J A5) (J A5)).U (fun _=>
 (ab 0 (J sH) (J sH)).U (fun _=>
 (ab 0 (J sI) (J sI)).U (fun _=>
 some (Sum.inl ((Yd,IM,YZ,Yc),(IP,IQ,Jp,Y1,Y2),(IU,DF,Jq,Jr,Js),(IV,IW),(Ye,Yf),(Yg,IX),AZ,A2,A3,A4,A5,sH,sI)))))))))).U (fun Jy=>
 some (Sum.inr Jy))))
 ((agB,IF,(0:Int),aiS,AB,IE),(IG,AD,Jk,Jl,Jm),(IH,DC,Jn,DY,Jo),(II,IJ),(IK,IL),(DD,DE),sB,sC,sD,sE,sF,sG,rb)))))))))
 (fun((ag1,ag2,Pp,ag3),(ag4,ag5,ajf,ajg,ajh),(ag6,ag7,aji,ajj,ajk),(ag8,ag9),(aha,ahb),(DJ,DK),Pq,Pr,Ps,Pt,Bb,Pu,Y7)=>
 (cP Y7 (J Y7)).U (fun D4=>
 (ab 0 (J Bb) (J Bb)).U (fun _=>
 (ab 0 1 (J (((DJ,DK,D4)::([]:List (Int×(Int×(List Int)))))))).U (fun _=>
 (iL (aH (J Bb) (J (((DJ,DK,D4)::([]:List (Int×(Int×(List Int)))))))) 40).U (fun _=>
 (ab 0 (J Pq) (J Pq)).U (fun _=>
 (ab 0 (J Pr) (J Pr)).U (fun _=>
 (ab 0 (J Ps) (J Ps)).U (fun _=>
 (ab 0 (J Pt) (J Pt)).U (fun _=>
 (ab 0 (aH (J Bb) (J (((DJ,DK,D4)::([]:List (Int×(Int×(List Int)))))))) (J (bY Bb (((DJ,DK,D4)::([]:List (Int×(Int×(List Int))))))))).U (fun _=>
 (ab 0 (J Pu) (J Pu)).U (fun _=>
 some (Sum.inl ((ag1,ag2,Pp,ag3),(ag4,ag5,ajf,ajg,ajh),(ag6,ag7,aji,ajj,ajk),(ag8,ag9),(aha,ahb),Pq,Pr,Ps,Pt,bY Bb (((DJ,DK,D4)::([]:List (Int×(Int×(List Int)))))),Pu)))))))))))))))))
 (fun((ahc,ahd,ajl,ahe),(ahf,ahg,ajm,ajn,ajo),(ahh,ahi,ajp,ajq,ajr),(ahj,ahk),(ahl,ahm),Pv,Pw,Px,Py,Pz,PD)=>
 (ab 0 (J Pv) (J Pv)).U (fun _=>
 (ab 0 (J Pw) (J Pw)).U (fun _=>
 (ab 0 (J Px) (J Px)).U (fun _=>
 (ab 0 (J Py) (J Py)).U (fun _=>
 (ab 0 (J Pz) (J Pz)).U (fun _=>
 (ab 0 (J PD) (J PD)).U (fun _=>
 some (Sum.inl ((ahd,ajl,ahe,aW .i64 ahc 1),(ahf,ahg,ajm,ajn,ajo),(ahh,ahi,ajp,ajq,ajr),(ahj,ahk),(ahl,ahm),Pv,Pw,Px,Py,Pz,PD))))))))))
 (((ab 0 (J fY) (J fY)).U (fun _=>
 (ab 0 (J eF) (J eF)).U (fun _=>
 (ab 0 (J fb) (J fb)).U (fun _=>
 (ab 0 (J nH) (J nH)).U (fun _=>
 (ab 0 (J mO) (J mO)).U (fun _=>
 (ab 0 (J mP) (J mP)).U (fun _=>
 some (Sum.inl ((jK,iS),(fL,hH),fY,eF,fb,nH,mO,mP))))))))).U (fun ajs=>
 some (Sum.inr ajs))))
 ((ki,fO,aM (J fO),(0:Int)),(iR,jI,wi,fO,rc),(jm,oE,oK,wj,sN),(mL,t8),(Yp,t9),nE,yB,pO,wk,jq,lR))))))))
 (fun((aoU,aoV),(ahn,aho),aoX,aoY,aoZ,Y8,Y9,Za)=>
 (cP Y8 (J Y8)).U (fun ajt=>
 (cP Y9 (J Y9)).U (fun aju=>
 (cP Za (J Za)).U (fun ajv=>
 some (ahn,aho,ajt,aju,ajv)))))))))))
def Fq (NN:Nat):((Int×(Int×((List Int)×((List (Int×(Int×(List Int))))×(List Int)))))×(Int×(Int×((List Int)×((List (Int×(Int×(List Int))))×(List Int))))))->(Option (Int×(Int×((List Int)×((List (Int×(Int×(List Int))))×(List Int)))))):=
 (fun(((i0,i1,l2,l3,l4),i5,i6,l7,l8,l9):((Int×(Int×((List Int)×((List (Int×(Int×(List Int))))×(List Int)))))×(Int×(Int×((List Int)×((List (Int×(Int×(List Int))))×(List Int)))))))=>
 (jY l2).U (fun e9=>
 (ab 0 (J e9) (J e9)).U (fun _=>
 (iL (aH (J e9) (J l7)) 8).U (fun _=>
 (jY l4).U (fun gC=>
 (ab 0 (J gC) (J gC)).U (fun _=>
 (iL (aH (J gC) (J l9)) 8).U (fun _=>
 bL ((ab 0 0 (J (([]:List Int)))).U (fun _=>
 (ab 0 0 (J (([]:List (Int×(Int×(List Int))))))).U (fun _=>
 (ab 0 0 (J (([]:List Int)))).U (fun _=>
 (ab 0 (aH (J e9) (J l7)) (J (bY e9 l7))).U (fun _=>
 (ab 0 0 (J (([]:List (Int×(Int×(List Int))))))).U (fun _=>
 (ab 0 (aH (J gC) (J l9)) (J (bY gC l9))).U (fun _=>
 bd NN (fun(((dn,dB,c7),(mJ,eM,ci,gD,fM),(iO,iP,eo,fN,fz),(kc,kf),(jH,gR),iz,gT,kq,dc,dN,dO):(((List (Int×(Int×(List Int))))×(Int×Int))×((Int×(Int×((List Int)×((List (Int×(Int×(List Int))))×(List Int)))))×((Int×(Int×((List Int)×((List (Int×(Int×(List Int))))×(List Int)))))×((Int×Int)×((Int×Int)×((List Int)×((List (Int×(Int×(List Int))))×((List Int)×((List Int)×((List (Int×(Int×(List Int))))×(List Int))))))))))))=>
 aw (bi c7 dB)
 (bL ((dk dn c7).U (fun(k7,kg,dC)=>
 (uS (gR,gR)).U (fun(oA,oB,eV)=>
 bL ((ab 0 (J iz) (J iz)).U (fun _=>
 (ab 0 (J gT) (J gT)).U (fun _=>
 (ab 0 (J kq) (J kq)).U (fun _=>
 (ab 0 (J dc) (J dc)).U (fun _=>
 (ab 0 (J dN) (J dN)).U (fun _=>
 (ab 0 (J dO) (J dO)).U (fun _=>
 (ab 0 (J eV) (J eV)).U (fun _=>
 bd NN (fun(((oC,ki,Bc,jI,ix),(oD,g9,nD,iA,oK),(jn,jJ,lc,eu,dP),(t9,oF),(nz,yk),(pG,yl,lR),(kj,i64),lS,jN,oL,lT,lU,nF,nG):((Int×(Int×((List (Int×(Int×(List Int))))×(Int×Int))))×((Int×(Int×((List Int)×((List (Int×(Int×(List Int))))×(List Int)))))×((Int×(Int×((List Int)×((List (Int×(Int×(List Int))))×(List Int)))))×((Int×Int)×((Int×Int)×((Int×(Int×(List Int)))×((Int×Int)×((List Int)×((List (Int×(Int×(List Int))))×((List Int)×((List Int)×((List (Int×(Int×(List Int))))×((List Int)×(List Int)))))))))))))))=>
 aw (bi ki g9)
 (bL ((ab 0 (J lS) (J lS)).U (fun _=>
 (ab 0 (J jN) (J jN)).U (fun _=>
 (ab 0 (J oL) (J oL)).U (fun _=>
 (ab 0 (J lT) (J lT)).U (fun _=>
 (ab 0 (J lU) (J lU)).U (fun _=>
 (ab 0 (J nF) (J nF)).U (fun _=>
 (ab 0 (J nG) (J nG)).U (fun _=>
 bd NN (fun(((oG,jo,qZ,iU,lM,jK),(iS,fL,PF,fY,eF),(I7,sd,mO,mP,D8),(se,ud),(q8,vU),(ue,pH,wm),(jL,q9),jO,iB,kv,nC,oI,ra,pK):((Int×(Int×(Int×((List (Int×(Int×(List Int))))×(Int×Int)))))×((Int×(Int×((List Int)×((List (Int×(Int×(List Int))))×(List Int)))))×((Int×(Int×((List Int)×((List (Int×(Int×(List Int))))×(List Int)))))×((Int×Int)×((Int×Int)×((Int×(Int×(List Int)))×((Int×Int)×((List Int)×((List (Int×(Int×(List Int))))×((List Int)×((List Int)×((List (Int×(Int×(List Int))))×((List Int)×(List Int)))))))))))))))=>
 aw (bi qZ fL)
 ((jv ((ue,pH,wm),jo,qZ)).U (fun nv=>
 (ab 0 (J pK) (J pK)).U (fun _=>
 (nW ((jL,q9,pK),jo,qZ,nv)).U (fun oJ=>
 (ab 0 (J jO) (J jO)).U (fun _=>
 (ab 0 (J iB) (J iB)).U (fun _=>
 (ab 0 (J kv) (J kv)).U (fun _=>
 (ab 0 (J nC) (J nC)).U (fun _=>
 (ab 0 (J oI) (J oI)).U (fun _=>
 (ab 0 (J ra) (J ra)).U (fun _=>
 (ab 0 (J pK) (J oJ)).U (fun _=>
 some (Sum.inl ((oG,jo,aW .i64 qZ 1,iU,lM,jK),(iS,fL,PF,fY,eF),(I7,sd,mO,mP,D8),(se,ud),(q8,vU),(ue,pH,wm),(jL,q9),jO,iB,kv,nC,oI,ra,oJ)))))))))))))
 (((ab 0 (J jO) (J jO)).U (fun _=>
 (ab 0 (J iB) (J iB)).U (fun _=>
 (ab 0 (J kv) (J kv)).U (fun _=>
 (ab 0 (J nC) (J nC)).U (fun _=>
 (ab 0 (J oI) (J oI)).U (fun _=>
 (ab 0 (J ra) (J ra)).U (fun _=>
 (ab 0 (J pK) (J pK)).U (fun _=>
 some (Sum.inl ((jo,oG,iU,lM,jK),(iS,fL,PF,fY,eF),(I7,sd,mO,mP,D8),(se,ud),(q8,vU),(ue,pH,wm),(jL,q9),jO,iB,kv,nC,oI,ra,pK)))))))))).U (fun gi=>
 some (Sum.inr gi))))
 ((oC,ki,(0:Int),Bc,jI,ix),(oD,g9,nD,iA,oK),(jn,jJ,lc,eu,dP),(t9,oF),(nz,yk),(pG,yl,lR),(kj,i64),lS,jN,oL,lT,lU,nF,nG)))))))))
 (fun((agd,XU,yz,r9,qW),(oz,yj,uh,v8,Jh),(Ay,On,pL,pM,pN),(agh,agi),(Oo,Az),(DB,vQ,aiF),(agj,Ip),AQ,DU,DV,AR,AS,AU,O2)=>
 (ab 0 (J AQ) (J AQ)).U (fun _=>
 (ab 0 (J DU) (J DU)).U (fun _=>
 (ab 0 (J DV) (J DV)).U (fun _=>
 (ab 0 (J AR) (J AR)).U (fun _=>
 (ab 0 (J AS) (J AS)).U (fun _=>
 (ab 0 (J AU) (J AU)).U (fun _=>
 (ab 0 (J O2) (J O2)).U (fun _=>
 some (Sum.inl ((XU,aW .i64 agd 1,yz,r9,qW),(oz,yj,uh,v8,Jh),(Ay,On,pL,pM,pN),(agh,agi),(Oo,Az),(DB,vQ,aiF),(agj,Ip),AQ,DU,DV,AR,AS,AU,O2)))))))))))
 (((ab 0 (J lS) (J lS)).U (fun _=>
 (ab 0 (J jN) (J jN)).U (fun _=>
 (ab 0 (J oL) (J oL)).U (fun _=>
 (ab 0 (J lT) (J lT)).U (fun _=>
 (ab 0 (J lU) (J lU)).U (fun _=>
 (ab 0 (J nF) (J nF)).U (fun _=>
 (ab 0 (J nG) (J nG)).U (fun _=>
 some (Sum.inl ((jI,Bc,ix,oC),(oD,g9,nD,iA,oK),(jn,jJ,lc,eu,dP),(t9,oF),(nz,yk),(kj,i64),lS,jN,oL,lT,lU,nF,nG)))))))))).U (fun aiG=>
 some (Sum.inr aiG))))
 ((c7,(0:Int),dn,dB,c7),(mJ,eM,ci,gD,fM),(iO,iP,eo,fN,fz),(kc,kf),(jH,gR),(k7,kg,dC),(oA,oB),iz,gT,kq,dc,dN,dO,eV)))))))))
 (fun((agk,Ji,agl,Ir),(Is,It,aiH,aiI,aiJ),(agm,Iu,aiK,wc,wg),(agn,ago),(agp,agq),(agr,Iv),O4,O5,DW,O6,O7,O8,DX)=>
 bL ((ab 0 (J O4) (J O4)).U (fun _=>
 (ab 0 (J O5) (J O5)).U (fun _=>
 (ab 0 (J DW) (J DW)).U (fun _=>
 (ab 0 (J O6) (J O6)).U (fun _=>
 (ab 0 (J O7) (J O7)).U (fun _=>
 (ab 0 (J O8) (J O8)).U (fun _=>
 (ab 0 (J DX) (J DX)).U (fun _=>
 bd NN (fun(((Oq,Iw,YR,Ix,X5),(X6,X7,YS,YT,Jj),(X8,Ot,YU,YV,YW),(Iy,Iz),(IA,X9),(IB,IC),sq,sr,su,sv,sx,sy,sA):((Int×(Int×((List (Int×(Int×(List Int))))×(Int×Int))))×((Int×(Int×((List Int)×((List (Int×(Int×(List Int))))×(List Int)))))×((Int×(Int×((List Int)×((List (Int×(Int×(List Int))))×(List Int)))))×((Int×Int)×((Int×Int)×((Int×Int)×((List Int)×((List (Int×(Int×(List Int))))×((List Int)×((List Int)×((List (Int×(Int×(List Int))))×((List Int)×(List Int))))))))))))))=>
 aw (bi Iw Ot)
 (bL ((ab 0 (J sq) (J sq)).U (fun _=>
 (ab 0 (J sr) (J sr)).U (fun _=>
 (ab 0 (J su) (J su)).U (fun _=>
 (ab 0 (J sv) (J sv)).U (fun _=>
 (ab 0 (J sx) (J sx)).U (fun _=>
 (ab 0 (J sy) (J sy)).U (fun _=>
 (ab 0 (J sA) (J sA)).U (fun _=>
 bd NN (fun(((Ou,AB,ID,YX,IE,IF),(IG,AD,Jk,Jl,Jm),(IH,DC,Jn,DY,Jo),(II,IJ),(IK,IL),(DD,DE),sB,sC,sD,sE,sF,sG,rb):((Int×(Int×(Int×((List (Int×(Int×(List Int))))×(Int×Int)))))×((Int×(Int×((List Int)×((List (Int×(Int×(List Int))))×(List Int)))))×((Int×(Int×((List Int)×((List (Int×(Int×(List Int))))×(List Int)))))×((Int×Int)×((Int×Int)×((Int×Int)×((List Int)×((List (Int×(Int×(List Int))))×((List Int)×((List Int)×((List (Int×(Int×(List Int))))×((List Int)×(List Int))))))))))))))=>
 aw (bi ID DC)
 ((dk DY Ou).U (fun(IM,Ov,aiT)=>
 (jv ((IM,Ov,aiT),AB,ID)).U (fun agC=>
 (ab 0 (J rb) (J rb)).U (fun _=>
 (nW ((DD,DE,rb),aW .i64 AD AB,aW .i64 AD ID,agC)).U (fun Y0=>
 (ab 0 (J sB) (J sB)).U (fun _=>
 (ab 0 (J sC) (J sC)).U (fun _=>
 (ab 0 (J sD) (J sD)).U (fun _=>
 (ab 0 (J sE) (J sE)).U (fun _=>
 (ab 0 (J sF) (J sF)).U (fun _=>
 (ab 0 (J sG) (J sG)).U (fun _=>
 (ab 0 (J rb) (J Y0)).U (fun _=>
 some (Sum.inl ((Ou,AB,aW .i64 ID 1,YX,IE,IF),(IG,AD,Jk,Jl,Jm),(IH,DC,Jn,DY,Jo),(II,IJ),(IK,IL),(DD,DE),sB,sC,sD,sE,sF,sG,Y0))))))))))))))
 (((ab 0 (J sB) (J sB)).U (fun _=>
 (ab 0 (J sC) (J sC)).U (fun _=>
 (ab 0 (J sD) (J sD)).U (fun _=>
 (ab 0 (J sE) (J sE)).U (fun _=>
 (ab 0 (J sF) (J sF)).U (fun _=>
 (ab 0 (J sG) (J sG)).U (fun _=>
 (ab 0 (J rb) (J rb)).U (fun _=>
 some (Sum.inl ((AB,Ou,YX,IE,IF),(IG,AD,Jk,Jl,Jm),(IH,DC,Jn,DY,Jo),(II,IJ),(IK,IL),(DD,DE),sB,sC,sD,sE,sF,sG,rb)))))))))).U (fun aiU=>
 some (Sum.inr aiU))))
 ((Oq,Iw,(0:Int),YR,Ix,X5),(X6,X7,YS,YT,Jj),(X8,Ot,YU,YV,YW),(Iy,Iz),(IA,X9),(IB,IC),sq,sr,su,sv,sx,sy,sA)))))))))
 (fun((IP,IQ,Jp,agD,agE),(IU,DF,Jq,Jr,Js),(IV,IW,aiV,aiW,aiX),(IX,agF),(agG,agH),(agI,agJ),sH,sI,O9,Pa,Pb,Pc,A6)=>
 (ab 0 (J sH) (J sH)).U (fun _=>
 (ab 0 (J sI) (J sI)).U (fun _=>
 (ab 0 (J O9) (J O9)).U (fun _=>
 (ab 0 (J Pa) (J Pa)).U (fun _=>
 (ab 0 (J Pb) (J Pb)).U (fun _=>
 (ab 0 (J Pc) (J Pc)).U (fun _=>
 (ab 0 (J A6) (J A6)).U (fun _=>
 some (Sum.inl ((IQ,aW .i64 IP 1,Jp,agD,agE),(IU,DF,Jq,Jr,Js),(IV,IW,aiV,aiW,aiX),(IX,agF),(agG,agH),(agI,agJ),sH,sI,O9,Pa,Pb,Pc,A6)))))))))))
 (((ab 0 (J sq) (J sq)).U (fun _=>
 (ab 0 (J sr) (J sr)).U (fun _=>
 (ab 0 (J su) (J su)).U (fun _=>
 (ab 0 (J sv) (J sv)).U (fun _=>
 (ab 0 (J sx) (J sx)).U (fun _=>
 (ab 0 (J sy) (J sy)).U (fun _=>
 (ab 0 (J sA) (J sA)).U (fun _=>
 some (Sum.inl ((X5,YR,Ix),(X6,X7,YS,YT,Jj),(X8,Ot,YU,YV,YW),(Iy,Iz),(IA,X9),(IB,IC),sq,sr,su,sv,sx,sy,sA)))))))))).U (fun aiY=>
 some (Sum.inr aiY))))
 ((Ir,(0:Int),Ji,agk,agl),(Is,It,aiH,aiI,aiJ),(agm,Iu,aiK,wc,wg),(agn,ago),(agp,agq),(agr,Iv),O4,O5,DW,O6,O7,O8,DX)))))))))
 (fun((I0,aiZ,AE),(agK,agL,Jt,ai0,ai1),(agM,agN,Ju,ai2,ai3),(I2,I3),(I4,I5),(DG,DH),sJ,sK,sL,sM,mM,Pg,Y6)=>
 (cP Y6 (J Y6)).U (fun yA=>
 (ab 0 (J mM) (J mM)).U (fun _=>
 (ab 0 1 (J (((DG,DH,yA)::([]:List (Int×(Int×(List Int)))))))).U (fun _=>
 (iL (aH (J mM) (J (((DG,DH,yA)::([]:List (Int×(Int×(List Int)))))))) 40).U (fun _=>
 (ab 0 (J sJ) (J sJ)).U (fun _=>
 (ab 0 (J sK) (J sK)).U (fun _=>
 (ab 0 (J sL) (J sL)).U (fun _=>
 (ab 0 (J sM) (J sM)).U (fun _=>
 (ab 0 (aH (J mM) (J (((DG,DH,yA)::([]:List (Int×(Int×(List Int)))))))) (J (bY mM (((DG,DH,yA)::([]:List (Int×(Int×(List Int))))))))).U (fun _=>
 (ab 0 (J Pg) (J Pg)).U (fun _=>
 some (Sum.inl ((I0,aiZ,AE),(agK,agL,Jt,ai0,ai1),(agM,agN,Ju,ai2,ai3),(I2,I3),(I4,I5),sJ,sK,sL,sM,bY mM (((DG,DH,yA)::([]:List (Int×(Int×(List Int)))))),Pg)))))))))))))))))
 (fun((I6,ai4,Ym),(agO,Oy,ai6,ai7,Ph),(Oz,OA,ai8,ai9,Pj),(agT,agU),(OB,OC),DZ,D2,D3,Pk,Pl,Pm)=>
 (ab 0 (J DZ) (J DZ)).U (fun _=>
 (ab 0 (J D2) (J D2)).U (fun _=>
 (ab 0 (J D3) (J D3)).U (fun _=>
 (ab 0 (J Pk) (J Pk)).U (fun _=>
 (ab 0 (J Pl) (J Pl)).U (fun _=>
 (ab 0 (J Pm) (J Pm)).U (fun _=>
 some (Sum.inl ((ai4,Ym,aW .i64 I6 1),(agO,Oy,ai6,ai7,Ph),(Oz,OA,ai8,ai9,Pj),(agT,agU),(OB,OC),DZ,D2,D3,Pk,Pl,Pm))))))))))
 (((ab 0 (J iz) (J iz)).U (fun _=>
 (ab 0 (J gT) (J gT)).U (fun _=>
 (ab 0 (J kq) (J kq)).U (fun _=>
 (ab 0 (J dc) (J dc)).U (fun _=>
 (ab 0 (J dN) (J dN)).U (fun _=>
 (ab 0 (J dO) (J dO)).U (fun _=>
 some (Sum.inl ((kc,kf),(jH,gR),iz,gT,kq,dc,dN,dO))))))))).U (fun ajc=>
 some (Sum.inr ajc))))
 ((l3,aM (J l3),(0:Int)),(i0,i1,l2,l3,l4),(i5,i6,l7,l8,l9),((0:Int),(0:Int)),(i0,aW .i64 i1 i6),([]:List Int),([]:List (Int×(Int×(List Int)))),([]:List Int),bY e9 l7,([]:List (Int×(Int×(List Int)))),bY gC l9))))))))
 (fun((Yn,Yo),(agZ,ag0),Jv,Jw,Jx,A9,Ba,Jy)=>
 (cP A9 (J A9)).U (fun ajd=>
 (cP Ba (J Ba)).U (fun aje=>
 (cP Jy (J Jy)).U (fun Pp=>
 some (agZ,ag0,ajd,aje,Pp))))))))))))
def oZ (n:Nat) (A:bC) (i j:Nat):bC:=fun a b=>if a<i/\b<n\/a=i/\b<j then A a b else 0
def nS (n:Nat) (A B:bC) (i j:Nat):bC:=fun a b=>if a<n/\b<n then A a b else if n<=a/\n<=b/\(a<n+i\/a=n+i/\b<n+j) then B (a - n) (b - n) else 0
theorem abq {r c:Nat} (n:Nat) (A:bC):aq r c (oZ n A 0 0)=aq r c fun _ _=>0:=gP fun a _ b _=>if_neg (by omega)
theorem abt {r c:Nat} (n:Nat) (A:bC) (i j:Nat):aq r c (iZ (oZ n A i j) i j (A i j))=aq r c (oZ n A i (j+1)):=by
 refine gP fun a ha b hb=>?_
 unfold iZ oZ
 by_cases h:a=i/\b=j
 ·obtain⟨rfl,rfl⟩:=h
  rw[if_pos ⟨rfl,rfl⟩,if_pos (by omega)]
 ·rw[if_neg h]
  by_cases h1:a<i/\b<n\/a=i/\b<j
  ·rw[if_pos h1,if_pos (by omega)]
  ·rw[if_neg h1,if_neg (by omega)]
theorem abr {r c:Nat} (n:Nat) (A:bC) (i:Nat):aq r c (oZ n A i n)=aq r c (oZ n A (i+1) 0):=by
 refine gP fun a ha b hb=>?_
 unfold oZ
 by_cases h1:a<i/\b<n\/a=i/\b<n
 ·rw[if_pos h1,if_pos (by omega)]
 ·rw[if_neg h1,if_neg (by omega)]
theorem abp {r c:Nat} (n:Nat) (A B:bC):aq r c (oZ n A n 0)=aq r c (nS n A B 0 0):=by
 refine gP fun a ha b hb=>?_
 unfold oZ nS
 by_cases h1:a<n/\b<n
 ·rw[if_pos (by omega),if_pos h1]
 ·rw[if_neg (by omega),if_neg h1,if_neg (by omega)]
theorem abw {r c:Nat} (n:Nat) (A B:bC) (i j:Nat):aq r c (iZ (nS n A B i j) (n+i) (n+j) (B i j))=aq r c (nS n A B i (j+1)):=by
 refine gP fun a ha b hb=>?_
 unfold iZ nS
 by_cases h:a=n+i/\b=n+j
 ·obtain⟨rfl,rfl⟩:=h
  rw[if_pos ⟨rfl,rfl⟩,if_neg (by omega),if_pos (by omega),Nat.add_sub_cancel_left,Nat.add_sub_cancel_left]
 ·rw[if_neg h]
  by_cases h0:a<n/\b<n
  ·rw[if_pos h0,if_pos h0]
  ·rw[if_neg h0,if_neg h0]
   by_cases h1:n<=a/\n<=b/\(a<n+i\/a=n+i/\b<n+j)
   ·rw[if_pos h1,if_pos (by omega)]
   ·rw[if_neg h1,if_neg (by omega)]
theorem abv {r m:Nat} (n:Nat) (A B:bC) (i:Nat):aq r (n+m) (nS n A B i m)=aq r (n+m) (nS n A B (i+1) 0):=by
 refine gP fun a ha b hb=>?_
 unfold nS
 by_cases h0:a<n/\b<n
 ·rw[if_pos h0,if_pos h0]
 ·rw[if_neg h0,if_neg h0]
  by_cases h1:n<=a/\n<=b/\(a<n+i\/a=n+i/\b<n+m)
  ·rw[if_pos h1,if_pos (by omega)]
  ·rw[if_neg h1,if_neg (by omega)]
theorem abu {m c:Nat} (n:Nat) (A B:bC):aq (n+m) c (nS n A B m 0)=aq (n+m) c (uJ n A B):=by
 refine gP fun a ha b hb=>?_
 unfold nS uJ
 by_cases h0:a<n/\b<n
 ·rw[if_pos h0,if_pos h0]
 ·rw[if_neg h0,if_neg h0]
  by_cases h1:n<=a/\n<=b
  ·rw[if_pos h1,if_pos (by omega)]
  ·rw[if_neg h1,if_neg (by omega)]
theorem aby (n m:Nat) (ms ms2:List dJ) (k:Nat):dt n m ms ms2 k++[(((n+m:Nat):Int),((n+m:Nat):Int),aq (n+m) (n+m) (uJ n (stM n ms k) (stM m ms2 k)))]=dt n m ms ms2 (k+1):=by
 unfold dt
 rw[List.range_succ,List.map_append]
 rfl
theorem y6 (n m:Nat) (ms ms2:List dJ) (k:Nat):(dt n m ms ms2 k).length=k:=by simp[dt]
theorem Cr {α:Type} (l r:List α):ab 0 (aH (J l) (J r)) (J (l++r))=some ():=HL (by simp[aH,J])
theorem gX {α:Type}:ab 0 0 (J ([]:List α))=some ():=rfl
theorem Cq {α:Type} (l r:List α):bY l r=l++r:=rfl
section
variable {p:Int} {n m:Nat} {a b a2 b2:List Int} {ms ms2:List dJ}
theorem BX (H:gn p n a ms b) {k:Nat} (hk:k<ms.length):ms[k]? =some ((n:Int),(n:Int),aq n n (stM n ms k))/\dz p n n (stM n ms k):=by
 obtain⟨M,hM,hi⟩:=H.hm ms[k] (List.getElem_mem hk)
 have e:ms.getD k (0,0,[])=ms[k]:=by simp[List.getD,hk]
 have e2:aq n n (stM n ms k)=aq n n M:=by unfold stM;rw[e,hM];exact qF (kS _ _ _)
 refine⟨by rw[List.getElem?_eq_getElem hk,e2,hM],?_⟩
 unfold stM
 rw[e,hM]
 exact yL (kS _ _ _) (ly.2 hi)
theorem ae4 (H:gn p n a ms b) (H2:gn p m a2 ms2 b2) (NZ:ms.length=ms2.length):
  Fq aD ((p,(n:Int),a,ms,b),p,(m:Int),a2,ms2,b2)=some (p,((n+m:Nat):Int),a++a2,dt n m ms ms2 ms.length,b++b2):=by
 have hn:=H.hn
 have hm:=H2.hn
 have h4:=H.l4
 have h3:=H.al
 have h5:=H.bl
 have h6:=H2.al
 have h7:=H2.bl
 have hNN:(n+m)*(n+m)<=24*24:=Nat.mul_le_mul (by omega) (by omega)
 have Xt:n*n<=24*24:=Nat.mul_le_mul (by omega) (by omega)
 have cA:m*m<=24*24:=Nat.mul_le_mul (by omega) (by omega)
 simp only[Fq]
 rw[show jY a=some a from if_pos (by omega),aj]
 try simp only[bK,gX,aj]
 rw[j8 (show(aH (J a) (J a2))*8<=dA by simp only[aH,J,dA];omega),aj,show jY b=some b from if_pos (by omega),aj]
 try simp only[bK,gX,aj]
 rw[j8 (show(aH (J b) (J b2))*8<=dA by simp only[aH,J,dA];omega),aj]
 simp only[bK,gX,aj,Cq,Cr,zy (show n+m<=1099511627776 by omega),nl]
 rw[ew (fun k=>((ms,(ms.length:Int),(k:Int)),(p,(n:Int),a,ms,b),(p,(m:Int),a2,ms2,b2),((0:Int),(0:Int)),(p,((n+m:Nat):Int)),([]:List Int),([]:List (Int×Int×List Int)),([]:List Int),(a++a2),dt n m ms ms2 k,(b++b2))) ms.length ?a1 ?a2 ?a3 (cG (by omega))]
 case a3=>rfl
 case a2=>simp only;rw[aS (fo (Nat.le_refl _))];try (simp only[bK,gX,aj])
 case a1=>
  intro k hk
  obtain⟨g1,g2⟩:=BX H hk
  obtain⟨g3,g4⟩:=BX H2 (show k<ms2.length by omega)
  simp only
  rw[aT (eW hk),eD,g1,aj]
  simp only
  rw[QT (by omega) (by omega) (by omega),aj]
  try simp only[bK,gX,aj]
  rw[ew (fun i=>(((k:Int),(i:Int),ms,(ms.length:Int),(k:Int)),(p,(n:Int),a,ms,b),(p,(m:Int),a2,ms2,b2),((0:Int),(0:Int)),(p,((n+m:Nat):Int)),((n:Int),(n:Int),aq n n (stM n ms k)),(((n+m:Nat):Int),((n+m:Nat):Int)),([]:List Int),([]:List (Int×Int×List Int)),([]:List Int),(a++a2),dt n m ms ms2 k,(b++b2),aq (n+m) (n+m) (oZ n (stM n ms k) i 0))) n ?b1 ?b2 ?b3 (cG (by omega))]
  case b3=>simp only[abq];try rfl
  case b2=>simp only;rw[aS (fo (Nat.le_refl _))];try (simp only[bK,gX,aj])
  case b1=>
   intro i hi
   simp only
   rw[aT (eW hi)]
   rw[ew (fun j=>(((k:Int),(i:Int),(j:Int),ms,(ms.length:Int),(k:Int)),(p,(n:Int),a,ms,b),(p,(m:Int),a2,ms2,b2),((0:Int),(0:Int)),(p,((n+m:Nat):Int)),((n:Int),(n:Int),aq n n (stM n ms k)),(((n+m:Nat):Int),((n+m:Nat):Int)),([]:List Int),([]:List (Int×Int×List Int)),([]:List Int),(a++a2),dt n m ms ms2 k,(b++b2),aq (n+m) (n+m) (oZ n (stM n ms k) i j))) n ?c1 ?c2 ?c3 (cG (by omega))]
   case c3=>rfl
   case c2=>simp only;rw[aS (fo (Nat.le_refl _))];try (simp only[bK,gX,aj])
   case c1=>
    intro j hj
    simp only
    rw[aT (eW hj),nf (by omega) (by omega) (by omega) hi hj,aj,wO (by omega) (by omega) (by omega) (show i<n+m by omega) (show j<n+m by omega)]
    simp only[aj,lE,eA (show j<=1048577 by omega)]
    rw[abt]
   rw[cO]
   simp only[eA (show i<=1048577 by omega)]
   rw[abr]
  rw[cO]
  simp only
  rw[ew (fun i=>(((k:Int),(i:Int),ms,(ms.length:Int),(k:Int)),(p,(n:Int),a,ms,b),(p,(m:Int),a2,ms2,b2),((0:Int),(0:Int)),(p,((n+m:Nat):Int)),(((n+m:Nat):Int),((n+m:Nat):Int)),([]:List Int),([]:List (Int×Int×List Int)),([]:List Int),(a++a2),dt n m ms ms2 k,(b++b2),aq (n+m) (n+m) (nS n (stM n ms k) (stM m ms2 k) i 0))) m ?d1 ?d2 ?d3 (cG (by omega))]
  case d3=>simp only[abp n (stM n ms k) (stM m ms2 k)];try rfl
  case d2=>simp only;rw[aS (fo (Nat.le_refl _))];try (simp only[bK,gX,aj])
  case d1=>
   intro i hi
   simp only
   rw[aT (eW hi)]
   rw[ew (fun j=>(((k:Int),(i:Int),(j:Int),ms,(ms.length:Int),(k:Int)),(p,(n:Int),a,ms,b),(p,(m:Int),a2,ms2,b2),((0:Int),(0:Int)),(p,((n+m:Nat):Int)),(((n+m:Nat):Int),((n+m:Nat):Int)),([]:List Int),([]:List (Int×Int×List Int)),([]:List Int),(a++a2),dt n m ms ms2 k,(b++b2),aq (n+m) (n+m) (nS n (stM n ms k) (stM m ms2 k) i j))) m ?e1 ?e2 ?e3 (cG (by omega))]
   case e3=>rfl
   case e2=>simp only;rw[aS (fo (Nat.le_refl _))];try (simp only[bK,gX,aj])
   case e1=>
    intro j hj
    simp only
    rw[aT (eW hj),eD,g3,aj]
    simp only
    rw[nf (by omega) (by omega) (by omega) hi hj,aj,zy (show n+i<=1099511627776 by omega),zy (show n+j<=1099511627776 by omega),wO (by omega) (by omega) (by omega) (show n+i<n+m by omega) (show n+j<n+m by omega)]
    simp only[aj,lE,eA (show j<=1048577 by omega)]
    rw[abw]
   rw[cO]
   simp only[eA (show i<=1048577 by omega)]
   rw[abv]
  rw[cO]
  simp only[gV,aj]
  rw[abu]
  simp only[show ab 0 1 (J [(((n+m:Nat):Int),((n+m:Nat):Int),aq (n+m) (n+m) (uJ n (stM n ms k) (stM m ms2 k)))])=some () from rfl,aj]
  rw[j8 (show(aH (J (dt n m ms ms2 k)) (J [(((n+m:Nat):Int),((n+m:Nat):Int),aq (n+m) (n+m) (uJ n (stM n ms k) (stM m ms2 k)))]))*40<=dA by simp only[aH,J,dA,y6,List.length_cons,List.length_nil];omega),aj]
  try simp only[bK,gX,aj,Cq,Cr]
  rw[aby,cO]
  try simp only[eA (show k<=1048577 by omega)]
 rw[cO]
 simp only[gV,aj]
end
section
variable {p sg:Int} {n m:Nat} {a b a2 b2:List Int} {ms ms2:List dJ}
theorem aoe {f:Int->Int} {l xs:List Int} {t:Nat} {x:Int} (h:xs[t]? =some x):(l++(xs.take t).map f)++[f x]=l++(xs.take (t+1)).map f:=by
 rw[List.take_add_one,h,List.map_append,<-List.append_assoc]
 rfl
theorem ahp {n m i j:Nat} (hn:n<=12) (hm:m<=12) (hi:i<m) (hj:j<m):aW .i64 (aW .i64 (cK .i64 (aW .i64 (n:Int) (i:Int)) ((n+m:Nat):Int)) (n:Int)) (j:Int)=(((n+i)*(n+m)+(n+j):Nat):Int):=by
 have h:(n+i)*(n+m)<=24*24:=Nat.mul_le_mul (by omega) (by omega)
 rw[zy (by omega),k8 (by omega) (by omega) (by omega),zy (by omega),Nat.add_assoc]
theorem afb (H:gn p n a ms b) (H2:gn p m a2 ms2 b2) (NZ:ms.length=ms2.length) (hsg:0<=sg/\sg<=p):
  FE aD ((p,(n:Int),a,ms,b),(p,(m:Int),a2,ms2,b2),sg)=some (p,((n+m:Nat):Int),a++a2,dt n m ms ms2 ms.length,b++b2.map fun x=>x*sg%p):=by
 have hn:=H.hn
 have hm:=H2.hn
 have h4:=H.l4
 have h3:=H.al
 have h5:=H.bl
 have h6:=H2.al
 have h7:=H2.bl
 have hp:=H.p
 have hNN:(n+m)*(n+m)<=24*24:=Nat.mul_le_mul (by omega) (by omega)
 have Xt:n*n<=24*24:=Nat.mul_le_mul (by omega) (by omega)
 have cA:m*m<=24*24:=Nat.mul_le_mul (by omega) (by omega)
 simp only[FE]
 rw[show jZ a=some a from if_pos (by omega),aj]
 simp only[bK,gX,aj]
 rw[j8 (show(aH (J a) (J a2))*8<=dA by simp only[aH,J,dA];omega),aj,show jZ b=some b from if_pos (by omega),aj]
 simp only[bK,gX,aj,Cq,Cr,zy (show n+m<=1099511627776 by omega),nl]
 rw[ew (fun t=>((sg,((n+m:Nat):Int),b2,(b2.length:Int),(t:Int)),(p,(n:Int),a,ms,b),(p,(m:Int),a2,ms2,b2),((0:Int),(0:Int)),(p,((n+m:Nat):Int)),([]:List Int),([]:List (Int×Int×List Int)),([]:List Int),(a++a2),([]:List (Int×Int×List Int)),(b++(b2.take t).map fun x=>x*sg%p))) b2.length ?z1 ?z2 ?z3 (cG (by omega))]
 case z3=>simp only[List.take_zero,List.map_nil,List.append_nil];try rfl
 case z2=>simp only;rw[aS (fo (Nat.le_refl _))];try (simp only[bK,gX,aj])
 case z1=>
  intro t ht
  have g1:b2[t]? =some (b2.getD t 0):=Ni ht
  have i1:=H2.bp _ (List.mem_of_getElem? g1)
  simp only
  rw[aT (eW ht),eD,g1,aj,yG hp i1.le hsg,aj]
  simp only[bK,gX,aj,show∀y:Int,bG [y] 0 1=some [y] from fun y=>rfl]
  rw[j8 (show(aH (J (b++(b2.take t).map fun x=>x*sg%p)) (J [b2.getD t 0*sg%p]))*8<=dA by simp only[aH,J,dA,List.length_append,List.length_map,List.length_take,List.length_cons,List.length_nil];omega),aj]
  try simp only[bK,gX,aj,Cq,Cr]
  rw[aoe (f:=fun x=>x*sg%p) g1]
  try simp only[eA (show t<=1048577 by omega)]
 rw[cO]
 simp only[List.take_length]
 try simp only[bK,gX,aj]
 rw[ew (fun k=>((((n+m:Nat):Int),ms,(ms.length:Int),(k:Int)),(p,(n:Int),a,ms,b),(p,(m:Int),a2,ms2,b2),((0:Int),(0:Int)),(p,((n+m:Nat):Int)),([]:List Int),([]:List (Int×Int×List Int)),([]:List Int),(a++a2),dt n m ms ms2 k,(b++b2.map fun x=>x*sg%p))) ms.length ?a1 ?a2 ?a3 (cG (by omega))]
 case a3=>rfl
 case a2=>simp only;rw[aS (fo (Nat.le_refl _))];try (simp only[bK,gX,aj])
 case a1=>
  intro k hk
  obtain⟨g1,g2⟩:=BX H hk
  obtain⟨g3,g4⟩:=BX H2 (show k<ms2.length by omega)
  simp only
  rw[aT (eW hk),eD,g1,aj]
  simp only
  rw[QU (by omega) (by omega) (by omega),aj]
  try simp only[bK,gX,aj]
  rw[ew (fun i=>((((n+m:Nat):Int),(k:Int),(i:Int),ms,(ms.length:Int),(k:Int)),(p,(n:Int),a,ms,b),(p,(m:Int),a2,ms2,b2),((0:Int),(0:Int)),(p,((n+m:Nat):Int)),((n:Int),(n:Int),aq n n (stM n ms k)),(((n+m:Nat):Int),((n+m:Nat):Int)),([]:List Int),([]:List (Int×Int×List Int)),([]:List Int),(a++a2),dt n m ms ms2 k,(b++b2.map fun x=>x*sg%p),aq (n+m) (n+m) (oZ n (stM n ms k) i 0))) n ?b1 ?b2 ?b3 (cG (by omega))]
  case b3=>simp only[abq];try rfl
  case b2=>simp only;rw[aS (fo (Nat.le_refl _))];try (simp only[bK,gX,aj])
  case b1=>
   intro i hi
   simp only
   rw[aT (eW hi)]
   rw[ew (fun j=>((((n+m:Nat):Int),(k:Int),(i:Int),(j:Int),ms,(ms.length:Int),(k:Int)),(p,(n:Int),a,ms,b),(p,(m:Int),a2,ms2,b2),((0:Int),(0:Int)),(p,((n+m:Nat):Int)),((n:Int),(n:Int),aq n n (stM n ms k)),(((n+m:Nat):Int),((n+m:Nat):Int)),([]:List Int),([]:List (Int×Int×List Int)),([]:List Int),(a++a2),dt n m ms ms2 k,(b++b2.map fun x=>x*sg%p),aq (n+m) (n+m) (oZ n (stM n ms k) i j))) n ?c1 ?c2 ?c3 (cG (by omega))]
   case c3=>rfl
   case c2=>simp only;rw[aS (fo (Nat.le_refl _))];try (simp only[bK,gX,aj])
   case c1=>
    intro j hj
    have i2:i<n+m:=by omega
    have j2:j<n+m:=by omega
    simp only
    rw[aT (eW hj),k8 (by omega) (by omega) (by omega),zZ _ hi hj,aj]
    simp only[k8 (show i<=1048576 by omega) (show n+m<=1048576 by omega) (show j<=1048576 by omega),qw _ i2 j2,aj,lx,qG _ i2 j2,yU _ j2,lE,bK,eA (show j<=1048577 by omega)]
    rw[abt]
   rw[cO]
   simp only[eA (show i<=1048577 by omega)]
   rw[abr]
  rw[cO]
  simp only
  rw[ew (fun i=>((((n+m:Nat):Int),(k:Int),(i:Int),ms,(ms.length:Int),(k:Int)),(p,(n:Int),a,ms,b),(p,(m:Int),a2,ms2,b2),((0:Int),(0:Int)),(p,((n+m:Nat):Int)),(((n+m:Nat):Int),((n+m:Nat):Int)),([]:List Int),([]:List (Int×Int×List Int)),([]:List Int),(a++a2),dt n m ms ms2 k,(b++b2.map fun x=>x*sg%p),aq (n+m) (n+m) (nS n (stM n ms k) (stM m ms2 k) i 0))) m ?d1 ?d2 ?d3 (cG (by omega))]
  case d3=>simp only[abp n (stM n ms k) (stM m ms2 k)];try rfl
  case d2=>simp only;rw[aS (fo (Nat.le_refl _))];try (simp only[bK,gX,aj])
  case d1=>
   intro i hi
   simp only
   rw[aT (eW hi)]
   rw[ew (fun j=>((((n+m:Nat):Int),(k:Int),(i:Int),(j:Int),ms,(ms.length:Int),(k:Int)),(p,(n:Int),a,ms,b),(p,(m:Int),a2,ms2,b2),((0:Int),(0:Int)),(p,((n+m:Nat):Int)),(((n+m:Nat):Int),((n+m:Nat):Int)),([]:List Int),([]:List (Int×Int×List Int)),([]:List Int),(a++a2),dt n m ms ms2 k,(b++b2.map fun x=>x*sg%p),aq (n+m) (n+m) (nS n (stM n ms k) (stM m ms2 k) i j))) m ?e1 ?e2 ?e3 (cG (by omega))]
   case e3=>rfl
   case e2=>simp only;rw[aS (fo (Nat.le_refl _))];try (simp only[bK,gX,aj])
   case e1=>
    intro j hj
    have i2:n+i<n+m:=by omega
    have j2:n+j<n+m:=by omega
    simp only
    rw[aT (eW hj),eD,g3,aj]
    simp only
    rw[k8 (by omega) (by omega) (by omega),zZ _ hi hj,aj]
    simp only[ahp hn hm hi hj,qw _ i2 j2,aj,lx,qG _ i2 j2,yU _ j2,lE,bK,eA (show j<=1048577 by omega)]
    rw[abw]
   rw[cO]
   simp only[eA (show i<=1048577 by omega)]
   rw[abv]
  rw[cO]
  simp only[gV,aj]
  rw[abu]
  simp only[show ab 0 1 (J [(((n+m:Nat):Int),((n+m:Nat):Int),aq (n+m) (n+m) (uJ n (stM n ms k) (stM m ms2 k)))])=some () from rfl,aj]
  rw[j8 (show(aH (J (dt n m ms ms2 k)) (J [(((n+m:Nat):Int),((n+m:Nat):Int),aq (n+m) (n+m) (uJ n (stM n ms k) (stM m ms2 k)))]))*40<=dA by simp only[aH,J,dA,y6,List.length_cons,List.length_nil];omega),aj]
  try simp only[bK,gX,aj,Cq,Cr]
  rw[aby,cO]
  try simp only[eA (show k<=1048577 by omega)]
 rw[cO]
 simp only[gV,aj]
end
theorem Cp {x y:bX} (h:nd x y=true):∃(p:Int) (n m:Nat) (a b a2 b2:List Int) (ms ms2:List dJ),x=(p,(n:Int),a,ms,b)/\y=(p,(m:Int),a2,ms2,b2)/\gn p n a ms b/\gn p m a2 ms2 b2/\ms.length=ms2.length:=by
 simp only[nd,Bool.and_eq_true,decide_eq_true_eq] at h
 obtain⟨h1,h2,h3,h4⟩:=h
 obtain⟨p,n,a,ms,b,rfl,H⟩:=Vg h1
 obtain⟨q,m,a2,ms2,b2,rfl,H2⟩:=Vg h2
 simp only at h3 h4
 subst h3
 exact⟨p,n,m,a,b,a2,b2,ms,ms2,rfl,rfl,H,H2,h4⟩
theorem aeI (x:bX×bX) (y:Bool) (h:nX x=some y):Ln aD x=some y:=by
 obtain⟨x,z⟩:=x
 simp only[nX] at h
 split at h
 ·rename_i hl
  rw[<-h]
  have e1:uW x=some (j4 x):=if_pos hl.1
  have e2:uW z=some (j4 z):=if_pos hl.2
  obtain⟨x0,x1,x2,x3,x4⟩:=x
  obtain⟨z0,z1,z2,z3,z4⟩:=z
  simp only[Ln,e1,e2,aj,nd]
  cases j4 (x0,x1,x2,x3,x4) with
  |false=>rfl
  |true=>
   cases j4 (z0,z1,z2,z3,z4) with
   |false=>rfl
   |true=>
    simp only[CC,Bool.true_and]
    by_cases e:x0=z0
    ·rw[aT (by simp[fS,e]),decide_eq_true e,Bool.true_and]
     congr 1
     rw[nl,nl,fS]
     rw[Bool.eq_iff_iff]
     simp
     constructor<;>(intro h;omega)
    ·rw[aS (by simp[fS,e]),decide_eq_false e,Bool.false_and]
 ·cases h
theorem aed (x:bX×bX) (y:Bool) (h:td x=some y):KZ aD x=some y:=by
 obtain⟨x,z⟩:=x
 simp only[td,nX] at h
 split at h
 ·rename_i hl
  rw[<-h]
  have e1:uQ x=some (j4 x):=if_pos hl.1
  have e2:uQ z=some (j4 z):=if_pos hl.2
  obtain⟨x0,x1,x2,x3,x4⟩:=x
  obtain⟨z0,z1,z2,z3,z4⟩:=z
  simp only[KZ,e1,e2,aj,nd]
  cases j4 (x0,x1,x2,x3,x4) with
  |false=>rfl
  |true=>
   cases j4 (z0,z1,z2,z3,z4) with
   |false=>rfl
   |true=>
    simp only[CC,Bool.true_and]
    by_cases e:x0=z0
    ·rw[aT (by simp[fS,e]),decide_eq_true e,Bool.true_and]
     congr 1
     rw[nl,nl,fS]
     rw[Bool.eq_iff_iff]
     simp
     constructor<;>(intro h;omega)
    ·rw[aS (by simp[fS,e]),decide_eq_false e,Bool.false_and]
 ·cases h
theorem aku {p:Int} {l:List Int} (h:eB p l):(l.map fun v=>v*1%p)=l:=by
 have:∀v∈l,v*1%p=v:=fun v hv=>by rw[Int.mul_one];exact Int.emod_eq_of_lt (h v hv).1 (h v hv).2
 rw[List.map_congr_left this,List.map_id']
theorem aeN (x:bX×bX×Int) (y:bX) (h:xi x=some y):FE aD x=some y:=by
 obtain⟨x,z,sg⟩:=x
 simp only[xi] at h
 split at h
 ·rename_i hc
  obtain⟨p,n,m,a,b,a2,b2,ms,ms2,rfl,rfl,H,H2,hl⟩:=Cp hc.1
  rw[<-h]
  exact afb H H2 hl hc.2
 ·cases h
theorem ad7 (x:bX×bX) (y:bX) (h:xa x=some y):Fq aD x=some y:=by
 obtain⟨x,z⟩:=x
 simp only[xa] at h
 split at h
 ·rename_i hc
  obtain⟨p,n,m,a,b,a2,b2,ms,ms2,rfl,rfl,H,H2,hl⟩:=Cp hc
  rw[<-h,ae4 H H2 hl]
  simp only[y7,Int.toNat_natCast,aku H2.bp]
 ·cases h
end Go.Am
end
section
namespace Go.Am
section
variable {n:Int} {d:List (Int×Int)} {a b:Int}
end
end Go.Am
end
section
namespace Go.Am
def oT (b a:Int) (l:List Int):List Int:=l.map fun x=>if x=b then a else x
def vd (l:List Int) (i:Int):Int:=l.getD i.toNat 0
def v5 (n:Nat):List Int:=(List.range n).map fun i=>((i:Nat):Int)
def Bt (s:Nat) (i:Nat) (st:Int×List Int) (e:Int×Int):Int×List Int:=
 if s.testBit i=true/\vd st.2 e.1≠vd st.2 e.2 then(st.1 - 1,oT (vd st.2 e.2) (vd st.2 e.1) st.2) else st
def parts (n:Int) (es:List (Int×Int)) (s:Int):Int×List Int:=xP (Bt s.toNat) 0 (n,v5 n.toNat) es
def PG (s:Nat) (i:Nat) (l:List Int) (e:Int×Int):List Int:=
 if s.testBit i=true then oT (max (vd l e.1) (vd l e.2)) (min (vd l e.1) (vd l e.2)) l else l
def Mp (l:List Int):Int:=((List.range l.length).countP fun i=>l.getD i 0==(i:Int):Nat)
theorem OP (n:Nat):(v5 n).length=n:=by simp[v5]
theorem Rh (b a:Int) (l:List Int):(oT b a l).length=l.length:=by simp[oT]
theorem VM (p:Nat->Bool) (j:Nat):(List.range (j+1)).countP p=(List.range j).countP p+(if p j=true then 1 else 0):=by
 rw[List.range_succ,List.countP_append,List.countP_singleton]
theorem VL (p q:Nat->Bool) (k:Nat):∀n,k<n->(∀i,i<n->i≠k->p i=q i)->p k=true->q k=false->(List.range n).countP p=(List.range n).countP q+1
 |0,h,_,_,_=>by omega
 |n+1,h,N7,h1,h2=>by
  rw[VM,VM]
  by_cases hk:k=n
  ·subst hk
   rw[h1,h2]
   have:(List.range k).countP p=(List.range k).countP q:=List.countP_congr fun i hi=>by
    have:=List.mem_range.1 hi
    rw[N7 i (by omega) (by omega)]
   rw[this]
   simp
  ·rw[VL p q k n (by omega) (fun i hi=>N7 i (by omega)) h1 h2,N7 n (by omega) (by omega)]
   omega
structure Ck (m:Nat) (l:List Int) (c:Int) (q:List Int):Prop where
 ll:l.length=m
 lq:q.length=m
 fq:∀i j:Nat,i<m->j<m->(l.getD i 0=l.getD j 0↔q.getD i 0=q.getD j 0)
 low:∀i:Nat,i<m->0<=l.getD i 0/\l.getD i 0<=(i:Int)/\l.getD (l.getD i 0).toNat 0=l.getD i 0
 bB:Mp l=c
theorem aap {b a:Int} {l:List Int} {i:Nat} (h:i<l.length):(oT b a l).getD i 0=if l.getD i 0=b then a else l.getD i 0:=by
 simp[oT,List.getD,List.getElem?_map,List.getElem?_eq_getElem h]
theorem amP (b:Int) (l:List Int):oT b b l=l:=by
 unfold oT
 conv=>rhs;rw[<-List.map_id l]
 refine List.map_congr_left fun x _=>?_
 split
 ·rename_i h;exact h.symm
 ·rfl
theorem Zy {b a x y:Int}:((if x=b then a else x)=(if y=b then a else y))↔(x=y\/((x=b\/x=a)/\(y=b\/y=a))):=by
 constructor
 ·intro h;split at h<;>split at h<;>omega
 ·intro h;split<;>split<;>omega
theorem Ck.step {m:Nat} {l:List Int} {c:Int} {q:List Int} (h:Ck m l c q) {u v:Nat} (hu:u<m) (hv:v<m) {s i:Nat}:
  Ck m (PG s i l ((u:Int),(v:Int))) (Bt s i (c,q) ((u:Int),(v:Int))).1 (Bt s i (c,q) ((u:Int),(v:Int))).2:=by
 cases hb:s.testBit i with
 |false=>
  have e1:PG s i l ((u:Int),(v:Int))=l:=if_neg (by rw[hb];decide)
  have e2:Bt s i (c,q) ((u:Int),(v:Int))=(c,q):=if_neg (fun hh=>by rw[hb] at hh;exact absurd hh.1 (by decide))
  rw[e1,e2]
  exact h
 |true=>
  have ep:q.getD u 0=q.getD v 0->Bt s i (c,q) ((u:Int),(v:Int))=(c,q):=fun h=>if_neg (fun hh=>hh.2 h)
  have en:q.getD u 0≠q.getD v 0->Bt s i (c,q) ((u:Int),(v:Int))=(c - 1,oT (q.getD v 0) (q.getD u 0) q):=fun h=>if_pos ⟨hb,h⟩
  have el:PG s i l ((u:Int),(v:Int))=oT (max (l.getD u 0) (l.getD v 0)) (min (l.getD u 0) (l.getD v 0)) l:=if_pos hb
  obtain⟨ll,lq,fq,low,bB⟩:=h
  by_cases hq:q.getD u 0=q.getD v 0
  ·have hl:=(fq u v hu hv).2 hq
   rw[ep hq,el,hl,Int.max_self,Int.min_self,amP]
   exact⟨ll,lq,fq,low,bB⟩
  ·have hl:l.getD u 0≠l.getD v 0:=fun e=>hq ((fq u v hu hv).1 e)
   rw[en hq,el]
   obtain⟨lu0,lu1,PO⟩:=low u hu
   obtain⟨lv0,lv1,PP⟩:=low v hv
   obtain⟨lo,hi,e1,e2,bN,Ak,afL,vF,tM,Xi⟩:∃lo hi:Nat,min (l.getD u 0) (l.getD v 0)=(lo:Int)/\max (l.getD u 0) (l.getD v 0)=(hi:Int)/\lo<hi/\
     (∀x:Int,(x=(hi:Int)\/x=(lo:Int))↔(x=l.getD v 0\/x=l.getD u 0))/\lo<m/\l.getD lo 0=(lo:Int)/\l.getD hi 0=(hi:Int)/\hi<m:=by
    obtain⟨a,ha⟩:=iV lu0
    obtain⟨b,hb⟩:=iV lv0
    rw[ha,Int.toNat_natCast] at PO
    rw[hb,Int.toNat_natCast] at PP
    rw[ha] at lu1 hl
    rw[hb] at lv1 hl
    rw[ha,hb]
    rcases Nat.lt_or_ge a b with eK|eK
    ·exact⟨a,b,by omega,by omega,eK,fun x=>by omega,by omega,PO,PP,by omega⟩
    ·exact⟨b,a,by omega,by omega,by omega,fun x=>by omega,by omega,PP,PO,by omega⟩
   rw[e1,e2]
   have gl:∀j,j<m->(oT (hi:Int) (lo:Int) l).getD j 0=if l.getD j 0=(hi:Int) then(lo:Int) else l.getD j 0:=fun j hj=>aap (by omega)
   have gq:∀j,j<m->(oT (q.getD v 0) (q.getD u 0) q).getD j 0=if q.getD j 0=q.getD v 0 then q.getD u 0 else q.getD j 0:=fun j hj=>aap (by omega)
   refine⟨by rw[Rh];exact ll,by rw[Rh];exact lq,?_,?_,?_⟩
   ·intro x y hx hy
    rw[gl x hx,gl y hy,gq x hx,gq y hy,Zy,Zy,Ak,Ak,fq x y hx hy,fq x u hx hu,fq x v hx hv,fq y u hy hu,fq y v hy hv]
   ·intro x hx
    obtain⟨h0,h1,h2⟩:=low x hx
    rw[gl x hx]
    by_cases Ok:l.getD x 0=(hi:Int)
    ·rw[if_pos Ok]
     refine⟨by omega,by omega,?_⟩
     rw[Int.toNat_natCast,gl lo afL,vF,if_neg (by omega)]
    ·rw[if_neg Ok]
     refine⟨h0,h1,?_⟩
     rw[gl _ (by omega),h2,if_neg Ok]
   ·have hc:=VL (fun j=>l.getD j 0==(j:Int)) (fun j=>(oT (hi:Int) (lo:Int) l).getD j 0==(j:Int)) hi m Xi ?_ (by rw[tM];simp) (by rw[gl hi Xi,if_pos tM];simp;omega)
    ·unfold Mp at bB⊢
     rw[Rh,ll]
     rw[ll,hc] at bB
     omega
    ·intro j hj aA
     rw[gl j hj]
     by_cases NR:l.getD j 0=(hi:Int)
     ·rw[if_pos NR,NR,Bool.eq_iff_iff]
      simp only[beq_iff_eq]
      constructor
      ·intro h;omega
      ·intro h
       have:lo=j:=by omega
       subst this
       omega
     ·rw[if_neg NR]
theorem OO {m i:Nat} (h:i<m):(v5 m).getD i 0=(i:Int):=by
 simp[v5,List.getD,List.getElem?_map,List.getElem?_range h]
theorem Ck.init (m:Nat):Ck m (v5 m) (m:Int) (v5 m):=by
 refine⟨OP m,OP m,fun _ _ _ _=>Iff.rfl,fun i hi=>?_,?_⟩
 ·rw[OO hi,Int.toNat_natCast,OO hi]
  omega
 ·unfold Mp
  rw[OP]
  have:(List.range m).countP (fun i=>(v5 m).getD i 0==(i:Int))=(List.range m).length:=by
   rw[List.countP_eq_length]
   intro i hi
   rw[OO (List.mem_range.1 hi)]
   simp
  rw[this,List.length_range]
end Go.Am
end
section
namespace Go.Am
theorem ajA {X Y:Type} {f:X->Option (X⊕Y)} (n:Nat) (I:Nat->X->Prop) (Q:Y->Prop)
  (h1:∀i x,i<n->I i x->∃x',f x=some (.inl x')/\I (i+1) x') (h2:∀x,I n x->∃r,f x=some (.inr r)/\Q r) {x0:X} (h0:I 0 x0) {N:Nat} (hN:n<N):∃r,bd N f x0=some r/\Q r:=by
 have cq:∀(k i:Nat) (x:X),i+k=n->I i x->∀N,k<N->∃r,bd N f x=some r/\Q r:=by
  intro k
  induction k with
  |zero=>
   intro i x hi hx N hN
   obtain⟨N,rfl⟩:∃M,N=M+1:=⟨N - 1,by omega⟩
   have:i=n:=by omega
   subst this
   obtain⟨r,e,q⟩:=h2 x hx
   exact⟨r,by simp only[bd,e],q⟩
  |succ k ih=>
   intro i x hi hx N hN
   obtain⟨N,rfl⟩:∃M,N=M+1:=⟨N - 1,by omega⟩
   obtain⟨x',e,eg⟩:=h1 i x (by omega) hx
   obtain⟨r,e',q⟩:=ih (i+1) x' (by omega) eg N (by omega)
   exact⟨r,by simp only[bd,e];exact e',q⟩
 exact cq n 0 x0 (by omega) h0 N hN
theorem C1 {α:Type}:ab 0 0 (J ([]:List α))=some ():=rfl
theorem HK {α:Type} (l:List α) (x:α):ab 0 (aH (J l) (J [x])) (J (bY l [x]))=some ():=by
 rw[show J (bY l [x])=aH (J l) (J [x]) by simp[aH,J,bY]];exact bK _
end Go.Am
end
section
namespace Go.Am
def YM (x:Int×dJ×dJ):Prop:=cV x.1/\mS x.2.1/\mS x.2.2/\(x.2.1.1*x.2.2.1<=4096/\x.2.1.2.1*x.2.2.2.1<=4096)/\(x.2.1.1*x.2.2.1)*(x.2.1.2.1*x.2.2.2.1)<=1048576/\eB x.1 x.2.1.2.2/\eB x.1 x.2.2.2.2
instance (x:Int×dJ×dJ):Decidable (YM x):=by unfold YM;infer_instance
section
variable {p:Int} {r c s d:Nat} {A B:bC}
end
section
variable {p:Int} {n m:Nat} {a b a2 b2:List Int} {ms ms2:List dJ}
end
end Go.Am
end
section
namespace Go.Am
end Go.Am
end
section
namespace Go.Am
def cS (om:Bool) (w:Nat) (x y:Nat->Int) (t:Nat):Int:=sm w (fun i=>sm w (fun j=>kW om x y t i j))
def pc (x y:Nat->Int) (t:Nat):Int:=sm (t+1) (fun i=>x i*y (t - i))
theorem TP:∀(n:Nat) {f:Nat->Int},(∀i,i<n->f i=0)->sm n f=0
 |0,_,_=>rfl
 |n+1,f,h=>by simp only[sm];rw[TP n (fun i hi=>h i (by omega)),h n (by omega)];rfl
theorem TO {a:Nat} {f:Nat->Int}:∀(n:Nat),a<n->(∀i,i<n->i≠a->f i=0)->sm n f=f a
 |0,h,_=>by omega
 |n+1,h,hf=>by
  simp only[sm]
  by_cases e:a=n
  ·subst e
   rw[TP a (fun i hi=>hf i (by omega) (by omega))];omega
  ·rw[TO n (by omega) (fun i hi aA=>hf i (by omega) aA),hf n (by omega) (by omega)];omega
theorem aaX {m:Nat} {f:Nat->Int}:∀(n:Nat),m<=n->(∀i,i<n->m<=i->f i=0)->sm n f=sm m f
 |0,h,_=>by rw[show m=0 by omega]
 |n+1,h,hf=>by
  by_cases e:m=n+1
  ·rw[e]
  ·simp only[sm]
   rw[aaX n (by omega) (fun i hi hm=>hf i (by omega) hm),hf n (by omega) (by omega)];omega
theorem acF {w t:Nat} (x y:Nat->Int) (h:t<w):cS false w x y t=pc x y t:=by
 have fH:∀i,i<w->sm w (fun j=>kW false x y t i j)=if i<=t then x i*y (t - i) else 0:=by
  intro i hi
  split
  ·rename_i vD
   rw[TO (a:=t - i) w (by omega) (fun j hj aA=>by unfold kW;rw[if_neg (by omega),if_neg (by simp)])]
   unfold kW
   rw[if_pos (by omega)]
  ·exact TP w fun j hj=>by unfold kW;rw[if_neg (by omega),if_neg (by simp)]
 unfold cS pc
 rw[EP fH,aaX (m:=t+1) w (by omega) (fun i hi hm=>if_neg (by omega))]
 exact EP fun i hi=>if_pos (by omega)
theorem acE {om:Bool} {w t:Nat} {x x' y y':Nat->Int} (hx:∀i,i<w->x i=x' i) (hy:∀i,i<w->y i=y' i):cS om w x y t=cS om w x' y' t:=
 EP fun i hi=>EP fun j hj=>by unfold kW;rw[hx i hi,hy j hj]
theorem acV (x y:Nat->Int):cS true 4 x y 0=x 0*y 0 - x 1*y 3 - x 2*y 2 - x 3*y 1:=by simp[cS,sm,kW];grind
theorem acW (x y:Nat->Int):cS true 4 x y 1=x 0*y 1+x 1*y 0 - x 2*y 3 - x 3*y 2:=by simp[cS,sm,kW];grind
theorem acX (x y:Nat->Int):cS true 4 x y 2=x 0*y 2+x 1*y 1+x 2*y 0 - x 3*y 3:=by simp[cS,sm,kW];grind
theorem acY (x y:Nat->Int):cS true 4 x y 3=x 0*y 3+x 1*y 2+x 2*y 1+x 3*y 0:=by simp[cS,sm,kW]
theorem ac6 (p:Int) (om:Bool) (w:Nat) (x y:Nat->Int):Ma p om w x y=nT w fun t=>cS om w x y t%p:=rfl
theorem ac7 {r:Int×Int×Int} (h:r.1=7\/r.1=8) (x y:List Int):JK r x y=Ma r.2.1 (decide (r.1=8)) (ig r) (jz x) (jz y):=if_pos h
theorem aos {r:Int×Int×Int} (hk:¬(r.1=7\/r.1=8)):ig r=1:=by
 obtain⟨k,p,n⟩:=r
 simp only at hk
 simp only[ig,rv]
 rw[if_neg (by omega),if_neg (by omega)]
 rfl
theorem aeR {k p n:Int} (hk:k=7\/k=8) {j:Nat} (hj:j<ig (k,p,n)):jz (Bo (k,p,n)) j=if j=0 then 1 else 0:=by
 rw[alN,aeS _ hj,if_neg (show¬k=4 by omega),if_neg (show¬(k=5\/k=6) by omega)]
theorem acD {k p:Int} {w:Nat} (c:UM k p w) (u:Nat->Int) (v:Int) {t:Nat} (h:t<w):cS (decide (k=8)) w u (fun j=>if j=0 then v else 0) t=u t*v:=by
 by_cases h8:k=8
 ·obtain rfl:=c.w8 h8
  rw[decide_eq_true h8]
  match t,h with
  |0,_=>rw[acV];simp
  |1,_=>rw[acW];simp
  |2,_=>rw[acX];simp
  |3,_=>rw[acY];simp
 ·rw[decide_eq_false h8,acF _ _ h]
  unfold pc
  rw[TO (a:=t) (t+1) (by omega) (fun i hi aA=>by simp only;rw[if_neg (by omega),Int.mul_zero])]
  simp only
  rw[if_pos (by omega)]
theorem alP {k p n:Int} (hr:BF (k,p,n)=true) (hk:¬(k=7\/k=8)) {a:Int} (ha:0<=a/\a<=mb (k,p,n)):Q0 (k,p,n) a (if k=4 then 0 else if k=5\/k=6 then mb (k,p,n) else 1)=a:=by
 rcases Rl hr with⟨rfl,rfl,rfl⟩|⟨rfl,hp,rfl⟩|⟨rfl,hp,rfl⟩|⟨rfl,hp,rfl⟩|⟨rfl,hp,rfl⟩|⟨rfl,rfl,hn⟩|⟨rfl,hp,hn⟩|⟨rfl,hp,qQ,rfl⟩
 ·have e:mb (1,0,0)=1:=rfl
  have h1:a=0\/a=1:=by omega
  rcases h1 with rfl|rfl<;>decide
 ·have e:mb (2,p,0)=p - 1:=rfl
  have:=sk hp
  show a*1%p=a
  rw[Int.mul_one,Int.emod_eq_of_lt (by omega) (by omega)]
 ·have e:mb (3,p,0)=p:=rfl
  show min (a*1) p=a
  omega
 ·have e:mb (4,p,0)=p:=rfl
  show min (a+0) p=a
  omega
 ·have e:mb (5,p,0)=p:=rfl
  show min a p=a
  omega
 ·have e:mb (6,0,n)=2^n.toNat - 1:=rfl
  have e2:(((2:Nat)^n.toNat:Nat):Int)=(2:Int)^n.toNat:=by push_cast;rfl
  show((a.toNat&&&(2^n.toNat - 1:Int).toNat:Nat):Int)=a
  rw[show(2^n.toNat - 1:Int).toNat=2^n.toNat - 1 by omega,Nat.and_two_pow_sub_one_eq_mod,Nat.mod_eq_of_lt (by omega)]
  omega
 ·omega
 ·omega
theorem mul_one {r:Int×Int×Int} {x:List Int} (hr:BF r=true) (hx:zR r x=true):JK r x (Bo r)=x:=by
 obtain⟨k,p,n⟩:=r
 by_cases hk:k=7\/k=8
 ·have c:=acK hr hk
  rw[ac7 hk,ac6]
  simp only
  have hT:mb (k,p,n)=p - 1:=by
   simp only[mb]
   rw[if_neg (by omega),if_neg (by omega),if_neg (by omega)]
  refine(an4 fun t ht=>?_).trans (an5 (V1 hx))
  rw[acE (x':=jz x) (y':=fun j=>if j=0 then 1 else 0) (fun _ _=>rfl) (fun i hi=>aeR hk hi),acD c _ _ ht,Int.mul_one]
  have:=V0 hx ht
  rw[hT] at this
  exact Int.emod_eq_of_lt this.1 (by omega)
 ·have hw:=aos (r:=(k,p,n)) hk
  obtain⟨e,ha⟩:=adh hx hw
  have e1:Bo (k,p,n)=[if k=4 then 0 else if k=5\/k=6 then mb (k,p,n) else 1]:=by simp only[Bo];exact amS hw
  rw[e,e1,akv hk,alP hr hk ha]
end Go.Am
end
section
namespace Go.Am
theorem Vf {p:Int} {n:Nat} {a b:List Int} {ms:List dJ} (H:gn p n a ms b):j4 (p,(n:Int),a,ms,b)=true:=by
 have hp:=H.p
 have hn:=H.hn
 simp only[j4,Bool.and_eq_true,decide_eq_true_eq]
 refine⟨H.pr,⟨by omega,by omega⟩,⟨rn.2 H.ap,by rw[H.al]⟩,⟨rn.2 H.bp,by rw[H.bl]⟩,⟨H.l1,H.l4⟩,List.all_eq_true.2 fun x hx=>?_⟩
 obtain⟨M,rfl,hM⟩:=H.hm x hx
 simp only[re,nJ,Bool.and_eq_true,decide_eq_true_eq]
 exact⟨⟨H.pr,⟨by omega,by omega⟩,⟨by omega,by omega⟩,by rw[kS];push_cast;rfl,rn.2 (ly.2 hM)⟩,trivial,trivial⟩
theorem abz {α:Type} (f:α->Nat) (B:Nat):∀(l:List α),(∀x∈l,f x<=B)->(l.map f).sum<=B*l.length
 |[],_=>by simp
 |x::l,h=>by
  rw[List.map_cons,List.sum_cons,List.length_cons,Nat.mul_succ]
  have:=h x (by simp)
  have:=abz f B l fun y hy=>h y (by simp[hy])
  omega
theorem GR {p:Int} {n:Nat} {a b:List Int} {ms:List dJ} (H:gn p n a ms b):ff (p,(n:Int),a,ms,b)<=1000:=by
 have h1:ie ms<=4+144*4:=by
  unfold ie
  have:=abz jt 144 ms fun x hx=>by
   obtain⟨M,rfl,_⟩:=H.hm x hx
   show(aq n n M).length<=144
   rw[kS]
   exact Nat.mul_le_mul H.hn H.hn
  have:=H.l4
  have:144*ms.length<=144*4:=Nat.mul_le_mul_left _ H.l4
  omega
 show a.length+ie ms+b.length<=1000
 have:=H.al
 have:=H.bl
 have:=H.hn
 omega
theorem U4 {p:Int} {n m:Nat} {a b a2 b2:List Int} {ms ms2:List dJ} (H:gn p n a ms b) (H2:gn p m a2 ms2 b2) (hl:ms.length=ms2.length):nd (p,(n:Int),a,ms,b) (p,(m:Int),a2,ms2,b2)=true:=by
 simp only[nd,Bool.and_eq_true,decide_eq_true_eq]
 exact⟨Vf H,Vf H2,trivial,hl⟩
end Go.Am
end
section
namespace Go.Am
abbrev Wd:=List Int
def uw (p:Int) (n k:Nat) (D:List Int):Nat:=(rk (p,(k:Int),(n:Int),D)).2.1.length
def xt (p:Int) (n:Nat) (ms:List dJ) (s:List Int) (S:List Wd×List Int) (w:Wd):Bool:=decide (uw p n (S.1.length+1) (S.2++de p n ms s w)=S.1.length+1)
def jp (t:Nat) (w:Wd):List Wd:=(List.range t).map fun(x:Nat)=>w++[(x:Int)]
def me (p:Int) (n:Nat) (ms:List dJ) (s:List Int):Nat->List Wd×List Int->List Wd->List Wd×List Int
 |0,S,_=>S
 |_+1,S,[]=>S
 |f+1,S,w::q=>if xt p n ms s S w=true then me p n ms s f (S.1++[w],S.2++de p n ms s w) (q++jp ms.length w) else me p n ms s f S q
def nP (x:bX):List Wd×List Int:=me x.1 x.2.1.toNat x.2.2.2.1 x.2.2.1 128 ([],[]) [[]]
def wG (x:bX):Option (List (List Int)×Int×Int×List Int):=if vf x=true then some ((nP x).1,((nP x).1.length:Int),x.2.1,(nP x).2) else none
def zk:bX->Option (List (List Int)×Int×Int×List Int):=wG
def zv:bX->Option (List (List Int)×Int×Int×List Int):=wG
def F3:ao:=[(.agg,[.int .i64,.int .i64,.list [.int .i64],.list [.int .i64,.int .i64,.list [.int .i64]],.list [.int .i64]])]
def RH:ao:=[(.one,[.list [.list [.int .i64]]]),(.agg,[.int .i64,.int .i64,.list [.int .i64]])]
def ajT:aY:=[[some .aE]]
def Ft (NN:Nat):(Int×(Int×((List Int)×((List (Int×(Int×(List Int))))×(List Int)))))->(Option ((List (List Int))×(Int×(Int×(List Int))))):=
 (fun((i0,i1,l2,l3,l4):(Int×(Int×((List Int)×((List (Int×(Int×(List Int))))×(List Int))))))=>
 (uS ((0:Int),i1)).U (fun(i5,i6,l7)=>
 bL ((ab 0 0 (J (([]:List (List Int))))).U (fun _=>
 (ab 0 1 (J ((([]:List Int)::([]:List (List Int)))))).U (fun _=>
 (ab 0 0 (J (([]:List Int)))).U (fun _=>
 (ab 0 (J l7) (J l7)).U (fun _=>
 bd NN (fun(((i8,i9,e9,gC,dn),(dB,c7),(mJ,eM),ci,gD,fM,fy):((Int×(Int×((List Int)×((List (Int×(Int×(List Int))))×(List Int)))))×((Int×Int)×((Int×Int)×((List Int)×((List Int)×((List (List Int))×(List (List Int)))))))))=>
 aw (bi (0:Int) (aM (J fy)))
 ((dU (0:Int) (J fy)).U (fun k21=>
 (db fy (aH 0 k21)).U (fun eo=>
 (ab 0 (J fy) (J fy)).U (fun _=>
 (uF (1:Int) (aM (J fy)) (J fy)).U (fun(Jf,AO)=>
 (bG gD 0 (J gD)).U (fun eE=>
 (jY eE).U (fun dM=>
 (te ((i8,i9,e9,gC,dn),eo)).U (fun ui=>
 (ab 0 (J dM) (J dM)).U (fun _=>
 (bG ui 0 (J ui)).U (fun ko=>
 (iL (aH (J dM) (J ko)) 8).U (fun _=>
 (bG (bY dM ko) 0 (aH (J dM) (J ko))).U (fun iz=>
 (zl (i8,aW .i64 mJ 1,i9,iz)).U (fun((mK,iQ,dc),dN)=>
 aw (bi (aM (J dN)) (aW .i64 mJ 1))
 ((ab 0 (J fM) (J fM)).U (fun _=>
 (ab 0 AO (J (s0 fy Jf AO))).U (fun _=>
 (ab 0 (J ci) (J ci)).U (fun _=>
 (ab 0 (J gD) (J gD)).U (fun _=>
 some (Sum.inl ((i8,i9,e9,gC,dn),(dB,c7),(mJ,eM),ci,gD,fM,s0 fy Jf AO)))))))
 ((ab 0 (J fM) (J fM)).U (fun _=>
 (ab 0 1 (J ((eo::([]:List (List Int)))))).U (fun _=>
 (iL (aH (J fM) (J ((eo::([]:List (List Int)))))) 24).U (fun _=>
 (ab 0 (aH (J fM) (J ((eo::([]:List (List Int)))))) (J (bY fM ((eo::([]:List (List Int))))))).U (fun _=>
 (ab 0 AO (J (s0 fy Jf AO))).U (fun _=>
 (ab 0 (J ci) (J ci)).U (fun _=>
 (ab 0 (aH (J dM) (J ko)) (J (bY dM ko))).U (fun _=>
 bd NN (fun(((dO,k7,kg),(qX,oA,fa,eV,kt),(ki,iR),(jI,ix),fO,rc,nD,iA):(((List Int)×(Int×Int))×((Int×(Int×((List Int)×((List (Int×(Int×(List Int))))×(List Int)))))×((Int×Int)×((Int×Int)×((List Int)×((List Int)×((List (List Int))×(List (List Int))))))))))=>
 aw (bi kg k7)
 ((jY dO).U (fun oK=>
 (ab 0 (J oK) (J oK)).U (fun _=>
 (bG ((kg::([]:List Int))) 0 1).U (fun wj=>
 (iL (aH (J oK) (J wj)) 8).U (fun _=>
 (cP (bY oK wj) (aH (J oK) (J wj))).U (fun sN=>
 (ab 0 (J iA) (J iA)).U (fun _=>
 (ab 0 1 (J ((sN::([]:List (List Int)))))).U (fun _=>
 (iL (aH (J iA) (J ((sN::([]:List (List Int)))))) 24).U (fun _=>
 (ab 0 (J nD) (J nD)).U (fun _=>
 (ab 0 (aH (J iA) (J ((sN::([]:List (List Int)))))) (J (bY iA ((sN::([]:List (List Int))))))).U (fun _=>
 (ab 0 (J fO) (J fO)).U (fun _=>
 (ab 0 (J rc) (J rc)).U (fun _=>
 some (Sum.inl ((dO,k7,aW .i64 kg 1),(qX,oA,fa,eV,kt),(ki,iR),(jI,ix),fO,rc,nD,bY iA ((sN::([]:List (List Int)))))))))))))))))))
 (((ab 0 (J nD) (J nD)).U (fun _=>
 (ab 0 (J iA) (J iA)).U (fun _=>
 (ab 0 (J fO) (J fO)).U (fun _=>
 (ab 0 (J rc) (J rc)).U (fun _=>
 some (Sum.inl ((qX,oA,fa,eV,kt),(ki,iR),(jI,ix),fO,rc,nD,iA))))))).U (fun lc=>
 some (Sum.inr lc))))
 ((eo,aM (J gC),(0:Int)),(i8,i9,e9,gC,dn),(dB,c7),(aW .i64 mJ 1,i9),ci,bY dM ko,bY fM ((eo::([]:List (List Int)))),s0 fy Jf AO))))))))))))))))))))))
 (((ab 0 (J fM) (J fM)).U (fun _=>
 (ab 0 (J ci) (J ci)).U (fun _=>
 (ab 0 (J gD) (J gD)).U (fun _=>
 some (Sum.inl ((dB,c7),(mJ,eM),ci,gD,fM)))))).U (fun eu=>
 some (Sum.inr eu))))
 ((i0,i1,l2,l3,l4),((0:Int),(0:Int)),(i5,i6),([]:List Int),l7,([]:List (List Int)),(([]:List Int)::([]:List (List Int)))))))))
 (fun((Yp,t9),(oF,nz),pO,wk,jq)=>
 (bG jq 0 (J jq)).U (fun lR=>
 (bG wk 0 (J wk)).U (fun wl=>
 some (lR,oF,nz,wl))))))
structure BI (p:Int) (n t:Nat) (S:List Wd×List Int) (q:List Wd):Prop where
 dl:S.2.length=S.1.length*n
 dp:eB p S.2
 kn:S.1.length<=n
 qo:∀w∈q,tc t w/\w.length<=S.1.length
 wo:∀w∈S.1,tc t w/\w.length<=n
section
variable {p:Int} {n:Nat} {s b:List Int} {ms:List dJ}
theorem Jg (t:Nat) (w:Wd):(jp t w).length=t:=by simp[jp]
theorem ab1 (m:Nat) (S:List Wd×List Int):me p n ms s m S []=S:=by cases m<;>rfl
theorem UF {m:Nat} {S:List Wd×List Int} {w:Wd} {q:List Wd} (h:xt p n ms s S w=true):me p n ms s (m+1) S (w::q)=me p n ms s m (S.1++[w],S.2++de p n ms s w) (q++jp ms.length w):=if_pos h
theorem UE {m:Nat} {S:List Wd×List Int} {w:Wd} {q:List Wd} (h:¬xt p n ms s S w=true):me p n ms s (m+1) S (w::q)=me p n ms s m S q:=if_neg h
theorem PW (H:mg p n s ms b) {S:List Wd×List Int} {w:Wd} {q:List Wd} (h:BI p n ms.length S (w::q)):
  Bz (p,((S.1.length+1:Nat):Int),(n:Int),S.2++de p n ms s w)/\uw p n (S.1.length+1) (S.2++de p n ms s w)<=n/\(S.2++de p n ms s w).length=(S.1.length+1)*n/\eB p (S.2++de p n ms s w)/\uw p n (S.1.length+1) (S.2++de p n ms s w)<=S.1.length+1:=by
 have hn:=H.hn
 obtain⟨r1,r2⟩:=Bw (n:=n) (ms:=ms) H.p w s H.al H.ap
 have hl:(S.2++de p n ms s w).length=(S.1.length+1)*n:=by rw[List.length_append,r1,h.dl,Nat.add_mul,Nat.one_mul]
 have hp:eB p (S.2++de p n ms s w):=fun x hx=>by
  rcases List.mem_append.1 hx with h1|h1
  ·exact h.dp x h1
  ·exact r2 x h1
 have hk:=h.kn
 have hb:(S.1.length+1)*n<=25*24:=Nat.mul_le_mul (by omega) hn
 have I:=JW (r:=S.1.length+1) (c:=n) H.p (yL hl hp) n
 refine⟨⟨H.p,⟨⟨by dsimp only;omega,by dsimp only;omega⟩,⟨by dsimp only;omega,by dsimp only;omega⟩,by dsimp only;rw[hl];push_cast;rfl,by dsimp only;omega⟩,hp⟩,?_,hl,hp,?_⟩
 ·unfold uw rk
  simp only[Int.toNat_natCast]
  exact I.lj
 ·unfold uw rk
  simp only[Int.toNat_natCast]
  exact I.l
theorem BI.no {S:List Wd×List Int} {w:Wd} {q:List Wd} (h:BI p n ms.length S (w::q)):BI p n ms.length S q:=⟨h.dl,h.dp,h.kn,fun v hv=>h.qo v (by simp[hv]),h.wo⟩
theorem BI.UJ (H:mg p n s ms b) {S:List Wd×List Int} {w:Wd} {q:List Wd} (h:BI p n ms.length S (w::q)) (ha:xt p n ms s S w=true):
  BI p n ms.length (S.1++[w],S.2++de p n ms s w) (q++jp ms.length w)/\S.1.length+1<=n:=by
 obtain⟨m1,m2,m3,m4,_⟩:=PW H h
 have hk:=of_decide_eq_true ha
 have hw:=h.qo w (by simp)
 have ov:S.1.length+1<=n:=by omega
 refine⟨⟨by dsimp only;rw[m3,List.length_append];rfl,m4,by dsimp only;rw[List.length_append];exact ov,?_,?_⟩,ov⟩
 ·intro v hv
  dsimp only
  rw[List.length_append,List.length_singleton]
  rcases List.mem_append.1 hv with h1|h1
  ·have:=h.qo v (by simp[h1])
   exact⟨this.1,by omega⟩
  ·obtain⟨x,hx,rfl⟩:=List.mem_map.1 h1
   have hx:=List.mem_range.1 hx
   refine⟨fun c hc=>?_,by rw[List.length_append,List.length_singleton];omega⟩
   rcases List.mem_append.1 hc with h2|h2
   ·exact hw.1 c h2
   ·rw[List.mem_singleton] at h2;subst h2;exact⟨by omega,by omega⟩
 ·intro v hv
  rcases List.mem_append.1 hv with h1|h1
  ·exact h.wo v h1
  ·rw[List.mem_singleton] at h1;subst h1;exact⟨hw.1,by omega⟩
theorem ZD {k t m q:Nat} (hk:k+1<=n) (h:(n - k)*t+(q+1)<=m+1):(n - (k+1))*t+(q+t)<=m:=by
 have e:n - k=n - (k+1)+1:=by omega
 rw[e,Nat.add_mul,Nat.one_mul] at h
 omega
end
theorem abK {α:Type} {l:List α} {n:Nat} (h:n=l.length):cP l n=some l:=by subst h;unfold cP;rw[if_pos (Nat.le_refl _),List.take_length]
theorem YL (t:Nat) (w:Wd):jp t w++[w++[(t:Int)]]=jp (t+1) w:=by unfold jp;rw[List.range_succ,List.map_append];rfl
theorem anF {α:Type} (w:α) (q:List α):s0 (w::q) 1 q.length=q:=by unfold s0;rw[List.drop_succ_cons,List.drop_zero,List.take_length]
section
variable {p:Int} {n:Nat} {s b:List Int} {ms:List dJ}
theorem ae5 (H:mg p n s ms b):Ft aD (p,(n:Int),s,ms,b)=wG (p,(n:Int),s,ms,b):=by
 have hp:=H.p
 have hn:=H.hn
 have Od:=H.l4
 have Dl:dA=140737488355328:=rfl
 unfold wG
 rw[if_pos (vg H)]
 simp only[Ft]
 rw[show uS ((0:Int),(n:Int))=some ((0:Int),(n:Int),aq 0 n fun _ _=>0) from QT (r:=0) (by omega) (by omega) (by omega)]
 simp only[aj,C1,bK]
 rw[show aq 0 n (fun _ _=>0)=[] by unfold aq;rw[Nat.zero_mul];rfl,show ab 0 1 (J [([]:List Int)])=some () from rfl]
 simp only[aj]
 obtain⟨R,hR⟩:∃R,nP (p,(n:Int),s,ms,b)=R:=⟨_,rfl⟩
 have Nl:me p n ms s 128 ([],[]) [[]]=R:=by rw[<-hR];unfold nP;simp only[Int.toNat_natCast]
 rw[hR]
 rw[Jz (r:=Sum.inl ((0,0),((R.1.length:Int),(n:Int)),[],R.2,R.1))
  (fun m x=>∃(S:List Wd×List Int) (q:List Wd),x=((p,(n:Int),s,ms,b),((0:Int),(0:Int)),((S.1.length:Int),(n:Int)),([]:List Int),S.2,S.1,q)/\BI p n ms.length S q/\(n - S.1.length)*ms.length+q.length<=m/\m<=128/\me p n ms s m S q=R) ?a1 128 _ ?a0 aD (cG (by omega))]
 ·simp only[bL,Option.bind,kE,Option.U]
 case a0=>
  exact⟨([],[]),[[]],rfl,⟨by simp,fun x hx=>absurd hx (by simp),Nat.zero_le _,fun w hw=>by rw[List.mem_singleton] at hw;subst hw;exact⟨fun c hc=>absurd hc (by simp),Nat.zero_le _⟩,fun w hw=>absurd hw (by simp)⟩,by
   have:n*ms.length<=24*4:=Nat.mul_le_mul hn Od
   simp only[List.length_nil,List.length_singleton,Nat.sub_zero];omega,Nat.le_refl _,Nl⟩
 case a1=>
  rintro m x ⟨S,q,rfl,hB,gZ,hm,bm⟩
  dsimp only
  cases q with
  |nil=>
   left
   rw[ab1] at bm
   subst bm
   rw[aS (eN (by unfold aM J;simp))]
   try simp only[bK,C1,aj]
  |cons w q=>
   right
   obtain⟨m,rfl⟩:∃k,m=k+1:=⟨m - 1,by simp only[List.length_cons] at gZ;omega⟩
   simp only[List.length_cons] at gZ
   have hw:=hB.qo w (by simp)
   have ov:=hB.kn
   obtain⟨k1,k2,k3,k4,k5⟩:=PW H hB
   have hb:S.1.length*n<=24*24:=Nat.mul_le_mul (by omega) hn
   have Dt:=(Bw (n:=n) (ms:=ms) hp w s H.al H.ap).1
   rw[aT (f0 (by unfold aM J;simp only[List.length_cons];omega))]
   rw[show dU (0:Int) (J (w::q))=some 0 from Cx (i:=0) (by unfold J;simp)]
   simp only[aj,lx]
   rw[show db (w::q) 0=some w from rfl]
   simp only[aj,bK]
   rw[show uF (1:Int) (aM (J (w::q))) (J (w::q))=some (1,q.length) by
    unfold uF aM J
    rw[if_pos ⟨by decide,by simp only[List.length_cons];omega,Int.le_refl _⟩]
    congr 2
    simp only[List.length_cons];omega]
   simp only[aj,kE]
   rw[show jY S.2=some S.2 from if_pos (by rw[hB.dl];omega)]
   simp only[aj,bK]
   rw[show te ((p,(n:Int),s,ms,b),w)=some (de p n ms s w) by
    simp only[te,nY]
    rw[if_pos ⟨vg H,hw.1,show w.length<=1048576 by omega⟩]
    simp only[Int.toNat_natCast]]
   simp only[aj,kE]
   rw[j8 (by simp only[aH,J];rw[hB.dl,Dt];omega)]
   simp only[aj]
   rw[show bG (bY S.2 (de p n ms s w)) 0 (aH (J S.2) (J (de p n ms s w)))=some (S.2++de p n ms s w) from Ca (by simp[bY,aH,J])]
   simp only[aj]
   rw[j3 (by omega) (by omega),show(S.1.length:Int)+1=((S.1.length+1:Nat):Int) by push_cast;rfl]
   rw[show zl (p,((S.1.length+1:Nat):Int),(n:Int),S.2++de p n ms s w)=_ from if_pos k1]
   simp only[aj,anF,bK,C1]
   rw[show ab 0 q.length (J q)=some () from bK _]
   rw[show aM (J (rk (p,((S.1.length+1:Nat):Int),(n:Int),S.2++de p n ms s w)).2.1)=((uw p n (S.1.length+1) (S.2++de p n ms s w):Nat):Int) from rfl]
   by_cases ha:xt p n ms s S w=true
   ·have hk:=of_decide_eq_true ha
    obtain⟨HQ,NS⟩:=BI.UJ H hB ha
    rw[UF ha] at bm
    rw[aS (eN (by omega))]
    rw[show ab 0 1 (J [w])=some () from rfl]
    simp only[aj,HK]
    rw[j8 (by simp only[aH,J,List.length_singleton];omega)]
    simp only[aj]
    rw[show ab 0 (aH (J S.2) (J (de p n ms s w))) (J (bY S.2 (de p n ms s w)))=some () from HL (by simp[bY,aH,J])]
    simp only[aj]
    have N0:=ZD (q:=q.length) NS gZ
    refine⟨m,((p,(n:Int),s,ms,b),((0:Int),(0:Int)),(((S.1++[w]).length:Int),(n:Int)),([]:List Int),S.2++de p n ms s w,S.1++[w],q++jp ms.length w),by omega,?_,_,_,rfl,HQ,?_,by omega,bm⟩
    ·refine ew (fun x=>((w,(ms.length:Int),(x:Int)),(p,(n:Int),s,ms,b),((0:Int),(0:Int)),(((S.1.length+1:Nat):Int),(n:Int)),([]:List Int),S.2++de p n ms s w,S.1++[w],q++jp x w)) ms.length ?_ ?_ ?_ (cG (by omega))
     ·intro x hx
      dsimp only
      rw[aT (f0 (by omega))]
      rw[show jY w=some w from if_pos (by omega)]
      simp only[aj,bK]
      rw[show bG [(x:Int)] 0 1=some [(x:Int)] from rfl]
      simp only[aj]
      rw[j8 (by simp only[aH,J,List.length_singleton];omega)]
      simp only[aj]
      rw[show cP (bY w [(x:Int)]) (aH (J w) (J [(x:Int)]))=some (w++[(x:Int)]) from abK (by simp[bY,aH,J])]
      simp only[aj]
      rw[show ab 0 1 (J [w++[(x:Int)]])=some () from rfl]
      simp only[aj,HK,C1]
      have Ie:q.length<=128:=by
       have:=Nat.le_add_left (q.length+1) ((n - S.1.length)*ms.length)
       omega
      rw[j8 (by simp only[aH,J,List.length_singleton,List.length_append,Jg];omega)]
      simp only[aj]
      rw[j3 (by omega) (by omega)]
      rw[show bY (q++jp x w) [w++[(x:Int)]]=q++jp (x+1) w by unfold bY;rw[List.append_assoc,YL]]
      rfl
     ·dsimp only
      rw[aS (eN (by omega))]
      try simp only[aj,bK,C1]
      rw[List.length_append,List.length_singleton]
     ·simp[bY,jp,aM,J]
    ·dsimp only
     rw[List.length_append,List.length_append,List.length_singleton,Jg]
     exact N0
   ·have hk:¬(uw p n (S.1.length+1) (S.2++de p n ms s w)=S.1.length+1):=fun h=>ha (decide_eq_true h)
    rw[UE ha] at bm
    rw[aT (f0 (by omega))]
    simp only[aj]
    exact⟨m,_,by omega,rfl,S,q,rfl,hB.no,by omega,by omega,bm⟩
end
theorem aea (x:bX) (z:List (List Int)×Int×Int×List Int) (h:zk x=some z):Ft aD x=some z:=by
 have ho:vf x=true:=by
  unfold zk wG at h
  split at h
  ·assumption
  ·cases h
 obtain⟨p,n,s,ms,b,rfl,H⟩:=Ct ho
 rw[ae5 H]
 exact h
end Go.Am
end
section
namespace Go.Am
def GG:ao:=[(.agg,[.int .i64,.int .i64,.list [.int .i64],.list [.int .i64,.int .i64,.list [.int .i64]],.list [.int .i64]])]
def Sl:ao:=[(.one,[.list [.list [.int .i64]]]),(.agg,[.int .i64,.int .i64,.list [.int .i64]])]
def ako:aY:=[[some .aE]]
def FC (NN:Nat):(Int×(Int×((List Int)×((List (Int×(Int×(List Int))))×(List Int)))))->(Option ((List (List Int))×(Int×(Int×(List Int))))):=
 (fun((i0,i1,l2,l3,l4):(Int×(Int×((List Int)×((List (Int×(Int×(List Int))))×(List Int))))))=>
 (cP (([]:List Int)) 0).U (fun l5=>
 bL ((ab 0 0 (J (([]:List (List Int))))).U (fun _=>
 (ab 0 1 (J ((l5::([]:List (List Int)))))).U (fun _=>
 (ab 0 0 (J (([]:List Int)))).U (fun _=>
 (ab 0 0 (J (([]:List Int)))).U (fun _=>
 bd NN (fun(((i6,i7,l8,l9,e9),(cF,cU),(dB,c7),cg,dL,ci,gD):((Int×(Int×((List Int)×((List (Int×(Int×(List Int))))×(List Int)))))×((Int×Int)×((Int×Int)×((List Int)×((List Int)×((List (List Int))×(List (List Int)))))))))=>
 aw (bi (0:Int) (aM (J gD)))
 (bL ((ab 0 (J ci) (J ci)).U (fun _=>
 (ab 0 0 (J (([]:List (List Int))))).U (fun _=>
 (ab 0 (J gD) (J gD)).U (fun _=>
 (ab 0 (J cg) (J cg)).U (fun _=>
 (ab 0 (J dL) (J dL)).U (fun _=>
 bd NN (fun(((eU,iO),(iP,jl,fN,fz,eE),(kf,jH),(gR,sa),gT,kq,dc,dN,dO):((Int×Int)×((Int×(Int×((List Int)×((List (Int×(Int×(List Int))))×(List Int)))))×((Int×Int)×((Int×Int)×((List Int)×((List Int)×((List (List Int))×((List (List Int))×(List (List Int)))))))))))=>
 aw (bi iO eU)
 (bL ((dU iO (J dO)).U (fun k35=>
 (db dO (aH 0 k35)).U (fun jM=>
 (nY ((iP,jl,fN,fz,eE),jM)).U (fun dC=>
 (bG kq 0 (J kq)).U (fun gj=>
 (jZ gj).U (fun fa=>
 (ab 0 (J fa) (J fa)).U (fun _=>
 (bG dC 0 (J dC)).U (fun eV=>
 (iL (aH (J fa) (J eV)) 8).U (fun _=>
 (bG (bY fa eV) 0 (aH (J fa) (J eV))).U (fun kt=>
 (zu (iP,aW .i64 gR 1,jl,kt)).U (fun((ki,iR,PE),wi,oD)=>
 aw (pR (aM (J wi)) gR)
 ((ab 0 (J dc) (J dc)).U (fun _=>
 (ab 0 (J dN) (J dN)).U (fun _=>
 (ab 0 (J dO) (J dO)).U (fun _=>
 (ab 0 (J gT) (J gT)).U (fun _=>
 (ab 0 (J kq) (J kq)).U (fun _=>
 some (Sum.inl ((iO,eU),(iP,jl,fN,fz,eE),(kf,jH),(gR,sa),gT,kq,dc,dN,dO))))))))
 ((ab 0 (J dc) (J dc)).U (fun _=>
 (ab 0 1 (J ((jM::([]:List (List Int)))))).U (fun _=>
 (iL (aH (J dc) (J ((jM::([]:List (List Int)))))) 24).U (fun _=>
 (ab 0 (aH (J dc) (J ((jM::([]:List (List Int)))))) (J (bY dc ((jM::([]:List (List Int))))))).U (fun _=>
 (ab 0 (J dN) (J dN)).U (fun _=>
 (ab 0 (J dO) (J dO)).U (fun _=>
 (ab 0 (J gT) (J gT)).U (fun _=>
 (ab 0 (aH (J fa) (J eV)) (J (bY fa eV))).U (fun _=>
 bd NN (fun(((rc,jm,oE,lL,jn),(jJ,mL,eu,dP,lQ),(oF,nz),(yk,pG),jq,lR,wl,pP,lS):(((List Int)×(Int×(Int×(Int×Int))))×((Int×(Int×((List Int)×((List (Int×(Int×(List Int))))×(List Int)))))×((Int×Int)×((Int×Int)×((List Int)×((List Int)×((List (List Int))×((List (List Int))×(List (List Int)))))))))))=>
 aw (bi jn lL)
 ((jZ rc).U (fun jN=>
 (ab 0 (J jN) (J jN)).U (fun _=>
 (bG ((jn::([]:List Int))) 0 1).U (fun oL=>
 (iL (aH (J jN) (J oL)) 8).U (fun _=>
 (cP (bY jN oL) (aH (J jN) (J oL))).U (fun lT=>
 (ab 0 (J pP) (J pP)).U (fun _=>
 (ab 0 1 (J ((lT::([]:List (List Int)))))).U (fun _=>
 (iL (aH (J pP) (J ((lT::([]:List (List Int)))))) 24).U (fun _=>
 (ab 0 (J wl) (J wl)).U (fun _=>
 (ab 0 (aH (J pP) (J ((lT::([]:List (List Int)))))) (J (bY pP ((lT::([]:List (List Int))))))).U (fun _=>
 (ab 0 (J lS) (J lS)).U (fun _=>
 (ab 0 (J jq) (J jq)).U (fun _=>
 (ab 0 (J lR) (J lR)).U (fun _=>
 some (Sum.inl ((rc,jm,oE,lL,aW .i64 jn 1),(jJ,mL,eu,dP,lQ),(oF,nz),(yk,pG),jq,lR,wl,bY pP ((lT::([]:List (List Int)))),lS))))))))))))))))
 (((ab 0 (J wl) (J wl)).U (fun _=>
 (ab 0 (J pP) (J pP)).U (fun _=>
 (ab 0 (J lS) (J lS)).U (fun _=>
 (ab 0 (J jq) (J jq)).U (fun _=>
 (ab 0 (J lR) (J lR)).U (fun _=>
 some (Sum.inl ((oE,jm),(jJ,mL,eu,dP,lQ),(oF,nz),(yk,pG),jq,lR,wl,pP,lS)))))))).U (fun lU=>
 some (Sum.inr lU))))
 ((jM,eU,iO,aM (J fz),(0:Int)),(iP,jl,fN,fz,eE),(kf,jH),(aW .i64 gR 1,jl),gT,bY fa eV,bY dc ((jM::([]:List (List Int)))),dN,dO)))))))))))))))))))))
 (fun((ym,yn),(oG,jo,mN,iU,yC),(jK,iS),(fL,hH),fY,eF,fb,nH,mO)=>
 (ab 0 (J fb) (J fb)).U (fun _=>
 (ab 0 (J nH) (J nH)).U (fun _=>
 (ab 0 (J mO) (J mO)).U (fun _=>
 (ab 0 (J fY) (J fY)).U (fun _=>
 (ab 0 (J eF) (J eF)).U (fun _=>
 some (Sum.inl ((yn,aW .i64 ym 1),(oG,jo,mN,iU,yC),(jK,iS),(fL,hH),fY,eF,fb,nH,mO)))))))))
 (((ab 0 (J dN) (J dN)).U (fun _=>
 (ab 0 (J dc) (J dc)).U (fun _=>
 (ab 0 (J gT) (J gT)).U (fun _=>
 (ab 0 (J kq) (J kq)).U (fun _=>
 some (Sum.inl ((iP,jl,fN,fz,eE),(kf,jH),(gR,sa),gT,kq,dN,dc))))))).U (fun mP=>
 some (Sum.inr mP))))
 ((aM (J gD),(0:Int)),(i6,i7,l8,l9,e9),(cF,cU),(dB,c7),cg,dL,ci,([]:List (List Int)),gD)))))))
 (fun((nA,se,ku,mQ,uj),(ue,pH),(sf,jL),sO,jO,iB,kv)=>
 (ab 0 (J kv) (J kv)).U (fun _=>
 (ab 0 (J iB) (J iB)).U (fun _=>
 (ab 0 (J sO) (J sO)).U (fun _=>
 (ab 0 (J jO) (J jO)).U (fun _=>
 some (Sum.inl ((nA,se,ku,mQ,uj),(ue,pH),(sf,jL),sO,jO,kv,iB))))))))
 (((ab 0 (J ci) (J ci)).U (fun _=>
 (ab 0 (J cg) (J cg)).U (fun _=>
 (ab 0 (J dL) (J dL)).U (fun _=>
 some (Sum.inl ((cF,cU),(dB,c7),cg,dL,ci)))))).U (fun nC=>
 some (Sum.inr nC))))
 ((i0,i1,l2,l3,l4),((0:Int),(0:Int)),((0:Int),i1),([]:List Int),([]:List Int),([]:List (List Int)),(l5::([]:List (List Int)))))))))
 (fun((Av,vP),(t7,nv),oJ,gi,iy)=>
 (bG iy 0 (J iy)).U (fun lb=>
 (bG gi 0 (J gi)).U (fun yz=>
 some (lb,t7,nv,yz))))))
theorem gM {α β:Type} (x:α) (f:α->Option β):(some x).U f=f x:=by
 have h:∀o:Option α,o=some x->o.U f=f x:=by intro o h;subst h;rfl
 exact h _ rfl
theorem tC {α:Type}:ab 0 0 (J ([]:List α))=some ():=by
 have h:∀l:List α,l=[]->ab 0 0 (J l)=some ():=by intro l h;subst h;rfl
 exact h _ rfl
section
variable {p:Int} {n:Nat} {s b:List Int} {ms:List dJ}
theorem aeW (H:mg p n s ms b):FC aD (p,(n:Int),s,ms,b)=wG (p,(n:Int),s,ms,b):=by
 have hp:=H.p
 have hn:=H.hn
 have Od:=H.l4
 have Dl:dA=140737488355328:=rfl
 unfold wG
 rw[if_pos (vg H)]
 simp only[FC]
 rw[show cP ([]:List Int) 0=some [] from rfl]
 simp only[gM,tC]
 rw[show ab 0 1 (J [([]:List Int)])=some () from rfl]
 simp only[gM]
 obtain⟨R,hR⟩:∃R,nP (p,(n:Int),s,ms,b)=R:=⟨_,rfl⟩
 have Nl:me p n ms s 128 ([],[]) [[]]=R:=by rw[<-hR];unfold nP;simp only[Int.toNat_natCast]
 rw[hR]
 rw[Jz (r:=Sum.inl ((0,0),((R.1.length:Int),(n:Int)),[],R.2,R.1))
  (fun m x=>∃(S:List Wd×List Int) (q:List Wd),x=((p,(n:Int),s,ms,b),((0:Int),(0:Int)),((S.1.length:Int),(n:Int)),([]:List Int),S.2,S.1,q)/\BI p n ms.length S q/\(n - S.1.length)*ms.length+q.length<=m/\m<=128/\me p n ms s m S q=R) ?a1 128 _ ?a0 aD (cG (by omega))]
 ·simp only[bL,Option.bind,kE,Option.U]
 case a0=>
  exact⟨([],[]),[[]],rfl,⟨by simp,fun x hx=>absurd hx (by simp),Nat.zero_le _,fun w hw=>by rw[List.mem_singleton] at hw;subst hw;exact⟨fun c hc=>absurd hc (by simp),Nat.zero_le _⟩,fun w hw=>absurd hw (by simp)⟩,by
   have:n*ms.length<=24*4:=Nat.mul_le_mul hn Od
   simp only[List.length_nil,List.length_singleton,Nat.sub_zero];omega,Nat.le_refl _,Nl⟩
 case a1=>
  rintro m x ⟨S0,q0,rfl,hB0,afN,hm,Ob⟩
  dsimp only
  by_cases kV:q0.length=0
  ·left
   obtain rfl:q0=[]:=List.eq_nil_of_length_eq_zero kV
   rw[ab1] at Ob
   subst Ob
   rw[aS (eN (by unfold aM J;simp))]
   try simp only[bK,tC,gM]
  ·right
   rw[aT (f0 (by unfold aM J;omega))]
   simp only[bK,tC,gM]
   have aoL:q0.length<=m:=by
    have:=Nat.le_add_left q0.length ((n - S0.1.length)*ms.length)
    omega
   generalize hL:bd aD _ _=o
   obtain⟨z,rfl,S,lg,rfl,hB,gZ,bm⟩:∃z,o=some z/\∃(S:List Wd×List Int) (lg:List Wd),z=Sum.inl ((p,(n:Int),s,ms,b),((0:Int),(0:Int)),((S.1.length:Int),(n:Int)),([]:List Int),S.2,lg,S.1)/\BI p n ms.length S lg/\(n - S.1.length)*ms.length+lg.length<=m - q0.length/\me p n ms s (m - q0.length) S lg=R:=by
    rw[<-hL]
    refine ajA q0.length (fun j x=>∃(S:List Wd×List Int) (lg:List Wd),x=(((q0.length:Int),(j:Int)),(p,(n:Int),s,ms,b),((0:Int),(0:Int)),((S.1.length:Int),(n:Int)),([]:List Int),S.2,S.1,lg,q0)/\BI p n ms.length S (q0.drop j++lg)/\(n - S.1.length)*ms.length+(q0.drop j++lg).length<=m - j/\me p n ms s (m - j) S (q0.drop j++lg)=R) _ ?_ ?_
     ⟨S0,[],rfl,by rw[List.drop_zero,List.append_nil];exact hB0,by rw[List.drop_zero,List.append_nil];exact afN,by rw[List.drop_zero,List.append_nil];exact Ob⟩ (cG (by omega))
    ·rintro j x hj ⟨S,lg,rfl,hB,gZ,bm⟩
     dsimp only
     rw[aT (f0 (by omega))]
     obtain⟨w,XM⟩:∃w,q0[j]? =some w:=⟨_,List.getElem?_eq_getElem hj⟩
     rw[drop_cons XM] at hB gZ bm
     rw[List.cons_append] at hB gZ bm
     obtain⟨m',bz⟩:∃k,m - j=k+1:=⟨m - j - 1,by omega⟩
     have gY:m - (j+1)=m':=by omega
     rw[bz] at gZ bm
     rw[gY]
     simp only[List.length_cons] at gZ
     have hw:=hB.qo w (by simp)
     have ov:=hB.kn
     obtain⟨k1,k2,k3,k4,k5⟩:=PW H hB
     have hb:S.1.length*n<=24*24:=Nat.mul_le_mul (by omega) hn
     have Dt:=(Bw (n:=n) (ms:=ms) hp w s H.al H.ap).1
     rw[show dU (j:Int) (J q0)=some j from Cx (by unfold J;omega)]
     simp only[gM,lx]
     rw[show db q0 j=some w from XM]
     simp only[gM]
     rw[show nY ((p,(n:Int),s,ms,b),w)=some (de p n ms s w) by
      simp only[nY]
      rw[if_pos ⟨vg H,hw.1,show w.length<=1048576 by omega⟩]
      simp only[Int.toNat_natCast]]
     simp only[gM,kE]
     rw[show jZ S.2=some S.2 from if_pos (by rw[hB.dl];omega)]
     simp only[gM,bK,kE]
     rw[j8 (by simp only[aH,J];rw[hB.dl,Dt];omega)]
     simp only[gM]
     rw[show bG (bY S.2 (de p n ms s w)) 0 (aH (J S.2) (J (de p n ms s w)))=some (S.2++de p n ms s w) from Ca (by simp[bY,aH,J])]
     simp only[gM]
     rw[j3 (by omega) (by omega),show(S.1.length:Int)+1=((S.1.length+1:Nat):Int) by push_cast;rfl]
     rw[show zu (p,((S.1.length+1:Nat):Int),(n:Int),S.2++de p n ms s w)=_ from if_pos k1]
     simp only[gM,bK,tC]
     rw[show aM (J (rk (p,((S.1.length+1:Nat):Int),(n:Int),S.2++de p n ms s w)).2.1)=((uw p n (S.1.length+1) (S.2++de p n ms s w):Nat):Int) from rfl]
     have aoJ:lg.length<=128:=by
      have:=Nat.le_add_left ((q0.drop (j+1)++lg).length+1) ((n - S.1.length)*ms.length)
      rw[List.length_append] at this gZ
      omega
     by_cases ha:xt p n ms s S w=true
     ·have hk:=of_decide_eq_true ha
      obtain⟨HQ,NS⟩:=BI.UJ H hB ha
      rw[UF ha] at bm
      rw[aS (D9 (by omega))]
      rw[show ab 0 1 (J [w])=some () from rfl]
      simp only[gM,HK]
      rw[j8 (by simp only[aH,J,List.length_singleton];omega)]
      simp only[gM]
      rw[show ab 0 (aH (J S.2) (J (de p n ms s w))) (J (bY S.2 (de p n ms s w)))=some () from HL (by simp[bY,aH,J])]
      simp only[gM]
      have N0:=ZD NS gZ
      rw[List.append_assoc] at HQ bm
      rw[ew (r:=Sum.inl (((j:Int),(q0.length:Int)),(p,(n:Int),s,ms,b),((0:Int),(0:Int)),(((S.1.length+1:Nat):Int),(n:Int)),([]:List Int),S.2++de p n ms s w,S.1++[w],lg++jp ms.length w,q0)) (fun x=>((w,(q0.length:Int),(j:Int),(ms.length:Int),(x:Int)),(p,(n:Int),s,ms,b),((0:Int),(0:Int)),(((S.1.length+1:Nat):Int),(n:Int)),([]:List Int),S.2++de p n ms s w,S.1++[w],lg++jp x w,q0)) ms.length ?c1 ?c2 ?c3 (cG (by omega))]
      case c1=>
       intro x hx
       dsimp only
       rw[aT (f0 (by omega))]
       rw[show jZ w=some w from if_pos (by omega)]
       simp only[gM,bK]
       rw[show bG [(x:Int)] 0 1=some [(x:Int)] from rfl]
       simp only[gM]
       rw[j8 (by simp only[aH,J,List.length_singleton];omega)]
       simp only[gM]
       rw[show cP (bY w [(x:Int)]) (aH (J w) (J [(x:Int)]))=some (w++[(x:Int)]) from abK (by simp[bY,aH,J])]
       simp only[gM]
       rw[show ab 0 1 (J [w++[(x:Int)]])=some () from rfl]
       simp only[gM,HK,tC]
       rw[j8 (by simp only[aH,J,List.length_singleton,List.length_append,Jg];omega)]
       simp only[gM]
       rw[j3 (by omega) (by omega)]
       rw[show bY (lg++jp x w) [w++[(x:Int)]]=lg++jp (x+1) w by unfold bY;rw[List.append_assoc,YL]]
       rfl
      case c2=>
       dsimp only
       rw[aS (eN (by omega))]
       try simp only[gM,bK,tC]
      case c3=>simp[bY,jp,aM,J]
      simp only[bL,Option.bind,bK,tC,gM]
      rw[j3 (by omega) (by omega)]
      refine⟨_,rfl,(S.1++[w],S.2++de p n ms s w),lg++jp ms.length w,?_,HQ,?_,bm⟩
      ·dsimp only
       rw[List.length_append,List.length_singleton]
       rfl
      ·dsimp only
       rw[List.length_append,List.length_singleton,<-List.append_assoc,List.length_append (bs:=jp ms.length w),Jg]
       exact N0
     ·have hk:¬(uw p n (S.1.length+1) (S.2++de p n ms s w)=S.1.length+1):=fun h=>ha (decide_eq_true h)
      rw[UE ha] at bm
      rw[aT (uk (by omega))]
      simp only[bL,Option.bind,bK,tC,gM]
      rw[j3 (by omega) (by omega)]
      exact⟨_,rfl,S,lg,rfl,hB.no,by omega,bm⟩
    ·rintro x ⟨S,lg,rfl,hB,gZ,bm⟩
     dsimp only
     rw[List.drop_length,List.nil_append] at hB gZ bm
     rw[aS (eN (by omega))]
     try simp only[bK,tC,gM]
     exact⟨_,rfl,S,lg,rfl,hB,gZ,bm⟩
   simp only[bL,Option.bind]
   exact⟨m - q0.length,_,by omega,rfl,S,lg,rfl,hB,gZ,by omega,bm⟩
end
theorem aeJ (x:bX) (z:List (List Int)×Int×Int×List Int) (h:zv x=some z):FC aD x=some z:=by
 have ho:vf x=true:=by
  unfold zv wG at h
  split at h
  ·assumption
  ·cases h
 obtain⟨p,n,s,ms,b,rfl,H⟩:=Ct ho
 rw[aeW H]
 exact h
end Go.Am
end
section
namespace Go.Am
def aa1 (x:Int×dJ×dJ):Prop:=cV x.1/\(0<=x.2.1.1/\x.2.1.1<=x.2.1.2.1/\x.2.1.2.1<=12)/\(0<=x.2.2.1/\x.2.2.1<=12)/\x.2.2.2.1=x.2.1.2.1/\(x.2.1.2.2.length=x.2.1.1.toNat*x.2.1.2.1.toNat/\x.2.2.2.2.length=x.2.2.1.toNat*x.2.1.2.1.toNat)/\eB x.1 x.2.1.2.2/\eB x.1 x.2.2.2.2
instance (x:Int×dJ×dJ):Decidable (aa1 x):=by unfold aa1;infer_instance
end Go.Am
end
section
namespace Go.Am
end Go.Am
end
section
namespace Go.Am
end Go.Am
end
section
namespace Go.Am
def Lz (p:Int) (M:bC) (i j:Nat):Prop:=(M i j+M j i)%p=0/\(i=j->M i j=0)
instance (p:Int) (M:bC) (i j:Nat):Decidable (Lz p M i j):=by unfold Lz;infer_instance
def U6 (p:Int) (M:bC) (i:Nat):Prop:=∀j,j<i+1->Lz p M i j
instance (p:Int) (M:bC) (i:Nat):Decidable (U6 p M i):=by unfold U6;infer_instance
end Go.Am
end
section
namespace Go.Am
def kR (p a b:Int):Prop:=∃q,a=b+p*q
theorem kR.refl (p a:Int):kR p a a:=⟨0,by simp⟩
theorem kR.trans {p a b c:Int} (h:kR p a b) (h':kR p b c):kR p a c:=by
 obtain⟨q,rfl⟩:=h;obtain⟨q',rfl⟩:=h';exact⟨q'+q,by rw[Int.mul_add];omega⟩
theorem kR.symm {p a b:Int} (h:kR p a b):kR p b a:=by
 obtain⟨q,rfl⟩:=h;exact⟨-q,by rw[Int.mul_neg];omega⟩
theorem kR.add {p a b c d:Int} (h:kR p a b) (h':kR p c d):kR p (a+c) (b+d):=by
 obtain⟨q,rfl⟩:=h;obtain⟨q',rfl⟩:=h';exact⟨q+q',by grind⟩
theorem kR.mul {p a b c d:Int} (h:kR p a b) (h':kR p c d):kR p (a*c) (b*d):=by
 obtain⟨q,rfl⟩:=h;obtain⟨q',rfl⟩:=h';exact⟨q*d+b*q'+p*q*q',by grind⟩
section
variable {p inv:Int} {n k:Nat} {A:bC}
end
end Go.Am
end
section
namespace Go.Am
section
variable {p:Int} {n:Nat} {M:bC}
end
section
variable {p:Int} {n:Nat} {M:bC}
end
end Go.Am
end
section
namespace Go.Am
theorem UD {p:Int} {n:Nat} {s b:List Int} {ms:List dJ} (H:mg p n s ms b):∀(m:Nat) (S:List Wd×List Int) (q:List Wd),BI p n ms.length S q->BI p n ms.length (me p n ms s m S q) []
 |0,S,q,h=>⟨h.dl,h.dp,h.kn,fun w hw=>absurd hw (by simp),h.wo⟩
 |m+1,S,[],h=>h
 |m+1,S,w::q,h=>by
  by_cases ha:xt p n ms s S w=true
  ·rw[UF ha]
   exact UD H m _ _ (BI.UJ H h ha).1
  ·rw[UE ha]
   exact UD H m _ _ h.no
theorem Rc {p:Int} {n:Nat} {s b:List Int} {ms:List dJ} (H:mg p n s ms b):BI p n ms.length (nP (p,(n:Int),s,ms,b)) []:=by
 have e:nP (p,(n:Int),s,ms,b)=me p n ms s 128 ([],[]) [[]]:=by unfold nP;simp only[Int.toNat_natCast]
 rw[e]
 exact UD H 128 _ _ ⟨by simp,fun x hx=>absurd hx (by simp),Nat.zero_le _,fun w hw=>by rw[List.mem_singleton] at hw;subst hw;exact⟨fun c hc=>absurd hc (by simp),Nat.zero_le _⟩,fun w hw=>absurd hw (by simp)⟩
end Go.Am
end
