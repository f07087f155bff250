/- M1, Mx, M4, M31, M6, M7, M8, M9, Fm, M14, M15, M16, M17, M19, M33, M36, M18, M32, M34, M38, M48, M49, M50, M51, M52, M12, M20, M21, M53, M93: parts of the proof. No condition. -/
import Derived.Test.YthildlkhnnogiaaMT
set_option linter.unusedVariables false
set_option linter.unusedSimpArgs false
section
namespace Go.Am
def kQ:Int×Int×Int->Option Bool:=fun((a,b,c):Int×Int×Int)=>some (decide (b<=a/\a<=c))
def HG:aq:=[(.one,[.int .i64]),(.one,[.int .i64]),(.one,[.int .i64])]
def Sn:aq:=[(.one,[.bool])]
def aiA:aN:=[]
def LJ (NN:Nat):(Int×(Int×Int))->(Option Bool):=
 (fun((i0,i1,i2):(Int×(Int×Int)))=>
 aL (qZ i1 i0)
 (some (qZ i0 i2))
 (some false))
theorem aeM (x:Int×Int×Int) (y:Bool) (h:kQ x=some y):LJ aM x=some y:=by
 obtain⟨a,b,c⟩:=x
 rw[<-h]
 simp only[kQ,LJ,qZ]
 by_cases hc:b<=a<;>simp[hc,aL]
end Go.Am
end
section
namespace Go.Am
def aA (r c:Nat) (M:Nat->Nat->Int):List Int:=(List.range (r*c)).map fun n=>M (n/c) (n%c)
def fD (c:Nat) (l:List Int):Nat->Nat->Int:=fun i j=>l.getD (i*c+j) 0
def lP (M:Nat->Nat->Int) (i j:Nat) (x:Int):Nat->Nat->Int:=fun a b=>if a=i/\b=j then x else M a b
theorem Yn {r c i j:Nat} (hi:i<r) (hj:j<c):i*c+j<r*c:=by
 have:(i+1)*c<=r*c:=Nat.mul_le_mul_right _ hi
 rw[Nat.add_mul] at this
 omega
theorem Ym {c i j:Nat} (hj:j<c):(i*c+j)/c=i:=by
 rw[Nat.mul_comm,Nat.mul_add_div (by omega),Nat.div_eq_of_lt hj,Nat.add_zero]
theorem Yo {c i j:Nat} (hj:j<c):(i*c+j)%c=j:=by
 rw[Nat.mul_comm,Nat.mul_add_mod,Nat.mod_eq_of_lt hj]
theorem pi (r c:Nat) (M:Nat->Nat->Int):(aA r c M).length=r*c:=by simp[aA]
theorem IL {r c i j:Nat} (M:Nat->Nat->Int) (hi:i<r) (hj:j<c):(aA r c M)[i*c+j]? =some (M i j):=by
 unfold aA
 rw[List.getElem?_map,List.getElem?_range (Yn hi hj)]
 simp[Ym hj,Yo hj]
theorem lk {r c:Nat} {M M':Nat->Nat->Int} (h:∀i,i<r->∀j,j<c->M i j=M' i j):aA r c M=aA r c M':=by
 unfold aA
 refine List.map_congr_left fun n hn=>?_
 have hn:=List.mem_range.1 hn
 have hc:0<c:=by
  rcases Nat.eq_zero_or_pos c with h|h
  ·subst h;simp at hn
  ·exact h
 exact h _ ((Nat.div_lt_iff_lt_mul hc).2 hn) _ (Nat.mod_lt _ hc)
theorem afk {r c i j:Nat} (M:Nat->Nat->Int) (hj:j<c) (x:Int):(aA r c M).set (i*c+j) x=aA r c (lP M i j x):=by
 apply List.ext_getElem?
 intro n
 rw[List.getElem?_set,pi]
 unfold aA
 simp only[List.getElem?_map]
 by_cases hn:n<r*c
 ·rw[List.getElem?_range hn]
  have hc:0<c:=by omega
  by_cases he:i*c+j=n
  ·rw[if_pos he,if_pos (by omega)]
   subst he
   simp[lP,Ym hj,Yo hj]
  ·rw[if_neg he]
   simp only[Option.map_some,lP]
   rw[if_neg]
   rintro⟨h1,h2⟩
   apply he
   rw[<-h1,<-h2]
   have:=Nat.div_add_mod n c
   rw[Nat.mul_comm] at this
   exact this
 ·rw[List.getElem?_eq_none (by simp;omega)]
  by_cases he:i*c+j=n
  ·rw[if_pos he,if_neg (by omega)];rfl
  ·rw[if_neg he];rfl
theorem wY {r c:Nat} {l:List Int} (h:l.length=r*c):aA r c (fD c l)=l:=by
 apply List.ext_getElem?
 intro n
 unfold aA
 simp only[List.getElem?_map]
 by_cases hn:n<r*c
 ·rw[List.getElem?_range hn,List.getElem?_eq_getElem (by omega)]
  simp only[Option.map_some,fD]
  have:=Nat.div_add_mod n c
  rw[Nat.mul_comm] at this
  rw[this,List.getD_eq_getElem?_getD,List.getElem?_eq_getElem (by omega)]
  rfl
 ·rw[List.getElem?_eq_none (by simp;omega),List.getElem?_eq_none (by omega)]
  rfl
theorem nE {r c i j:Nat} (M:Nat->Nat->Int) (hi:i<r) (hj:j<c):fD c (aA r c M) i j=M i j:=by
 unfold fD
 rw[List.getD_eq_getElem?_getD,IL M hi hj]
 rfl
theorem afj (r c:Nat) (x:Int):jg (r*c) x=aA r c (fun _ _=>x):=by
 unfold aA jg
 rw[List.map_const',List.length_range]
theorem pI {i c j:Nat} (hi:i<=1048576) (hc:c<=1048576) (hj:j<=1048576):bB .i64 (dF .i64 (i:Int) (c:Int)) (j:Int)=((i*c+j:Nat):Int):=by
 have h1:i*c<=1048576*1048576:=Nat.mul_le_mul hi hc
 have e:(i:Int)*(c:Int)=((i*c:Nat):Int):=by norm_cast
 rw[dF,As (by omega) (by omega),lS (by omega) (by omega),e]
 omega
theorem aiO {i c:Nat} (hi:i<=1048576) (hc:c<=1048576):dF .i64 (i:Int) (c:Int)=((i*c:Nat):Int):=by
 have h1:i*c<=1048576*1048576:=Nat.mul_le_mul hi hc
 have e:(i:Int)*(c:Int)=((i*c:Nat):Int):=by norm_cast
 rw[dF,As (by omega) (by omega),e]
theorem IM {r c i j:Nat} (M:Nat->Nat->Int) (hi:i<r) (hj:j<c):eX (aA r c M) ((i*c+j:Nat):Int)=some (M i j):=by rw[ig,IL M hi hj]
theorem uH {r c i j:Nat} (M:Nat->Nat->Int) (hi:i<r) (hj:j<c):fw ((i*c+j:Nat):Int) (J (aA r c M))=some (i*c+j):=Ic (by unfold J;rw[pi];exact Yn hi hj)
theorem uY {r c i j:Nat} (M:Nat->Nat->Int) (hi:i<r) (hj:j<c):dj (aA r c M) (i*c+j)=some (M i j):=IL M hi hj
theorem FR {r c i j:Nat} (M:Nat->Nat->Int) (hj:j<c) (x:Int):cK (aA r c M) (i*c+j) x=aA r c (lP M i j x):=afk M hj x
theorem Cp (r c:Nat) (M:Nat->Nat->Int):J (aA r c M)=r*c:=pi r c M
theorem qC (r c:Nat) (M M':Nat->Nat->Int):ai 0 (J (aA r c M)) (J (aA r c M'))=some ():=by rw[Cp,Cp];exact df _
theorem FG (r c:Nat) (M M':Nat->Nat->Int):iS (J (aA r c M)) (J (aA r c M'))=some ():=by rw[Cp,Cp];exact z9 rfl
theorem Kc {a p:Int} (ha:0<=a) (hp:0<p):hH a p=some (a%p):=by
 unfold hH
 rw[if_neg (by omega),Int.tmod_eq_emod_of_nonneg ha]
theorem jz {i n:Nat} (h:i<n):bD (i:Int) (n:Int)=true:=gC (by omega)
theorem kc {i n:Nat} (h:n<=i):bD (i:Int) (n:Int)=false:=ff (by omega)
theorem iz {i:Nat} (h:i<=1048577):bB .i64 (i:Int) 1=((i+1:Nat):Int):=by rw[lS (by omega) (by omega)];omega
def dG (p:Int):Prop:=2<=p/\p<=1000003
instance (p:Int):Decidable (dG p):=inferInstanceAs (Decidable (2<=p/\p<=1000003))
def f0 (p x:Int):Prop:=0<=x/\x<p
instance (p x:Int):Decidable (f0 p x):=inferInstanceAs (Decidable (0<=x/\x<p))
theorem tg {p:Int} (hp:dG p) (a:Int):f0 p (a%p):=⟨Int.emod_nonneg _ (by have:=hp.1;omega),Int.emod_lt_of_pos _ (by have:=hp.1;omega)⟩
theorem f0.le {p x:Int} (h:f0 p x):0<=x/\x<=p:=⟨h.1,Int.le_of_lt h.2⟩
theorem f0.s {p x:Int} (hp:dG p) (h:f0 p x):0<=x/\x<=1000003000000:=⟨h.1,by have:=h.2;have:=hp.2;omega⟩
theorem Rg {p a b:Int} (hp:dG p) (ha:0<=a/\a<=p) (hb:0<=b/\b<=p):0<=a*b/\a*b<=1000006000009:=by
 refine⟨Int.mul_nonneg ha.1 hb.1,?_⟩
 have h1:=hp.2
 have:=Int.mul_le_mul (show a<=1000003 by omega) (show b<=1000003 by omega) hb.1 (by omega)
 omega
theorem Zi {p a b:Int} (hp:dG p) (ha:0<=a/\a<=p) (hb:0<=b/\b<=p):dF .i64 a b=a*b:=by
 have:=Rg hp ha hb
 exact As (by omega) (by omega)
theorem JE {p s a b:Int} (hp:dG p) (hs:0<=s/\s<=1000003000000) (ha:0<=a/\a<=p) (hb:0<=b/\b<=p):hH (bB .i64 s (dF .i64 a b)) p=some ((s+a*b)%p):=by
 have h:=Rg hp ha hb
 rw[Zi hp ha hb,lS (by omega) (by omega),Kc (by omega) (by have:=hp.1;omega)]
theorem Ct {p a b:Int} (hp:dG p) (ha:0<=a/\a<=p) (hb:0<=b/\b<=p):hH (dF .i64 a b) p=some (a*b%p):=by
 have h:=Rg hp ha hb
 rw[Zi hp ha hb,Kc h.1 (by have:=hp.1;omega)]
def te (p:Int) (f g:Nat->Int):Nat->Int
 |0=>0
 |n+1=>(te p f g n+f n*g n)%p
theorem MJ {p:Int} (hp:dG p) (f g:Nat->Int):∀n,f0 p (te p f g n)
 |0=>⟨Int.le_refl _,by have:=hp.1;show(0:Int)<p;omega⟩
 |n+1=>tg hp _
def g0 (p:Int) (k:Nat) (A B:Nat->Nat->Int):Nat->Nat->Int:=fun i j=>te p (fun t=>A i t) (fun t=>B t j) k
def d8 (p:Int) (r c:Nat) (M:Nat->Nat->Int):Prop:=∀i,i<r->∀j,j<c->f0 p (M i j)
def gG (p:Int) (l:List Int):Prop:=∀x∈l,f0 p x
instance (p:Int) (l:List Int):Decidable (gG p l):=inferInstanceAs (Decidable (∀x∈l,f0 p x))
theorem nV {p:Int} {r c:Nat} {M:Nat->Nat->Int}:gG p (aA r c M)↔d8 p r c M:=by
 constructor
 ·intro h i hi j hj
  exact h _ (List.mem_of_getElem? (IL M hi hj))
 ·intro h x hx
  unfold aA at hx
  obtain⟨n,hn,rfl⟩:=List.mem_map.1 hx
  have hn:=List.mem_range.1 hn
  have hc:0<c:=by
   rcases Nat.eq_zero_or_pos c with h|h
   ·subst h;simp at hn
   ·exact h
  exact h _ ((Nat.div_lt_iff_lt_mul hc).2 hn) _ (Nat.mod_lt _ hc)
def nC (x:Int×Int×List Int):Prop:=(0<=x.1/\x.1<=4096)/\(0<=x.2.1/\x.2.1<=4096)/\(x.2.2.length:Int)=x.1*x.2.1/\x.2.2.length<=1048576
instance (x:Int×Int×List Int):Decidable (nC x):=by unfold nC;infer_instance
theorem tU {x:Int×Int×List Int} (h:nC x):∃(r c:Nat) (M:Nat->Nat->Int),x=((r:Int),(c:Int),aA r c M)/\r<=4096/\c<=4096/\r*c<=1048576:=by
 obtain⟨r,c,l⟩:=x
 obtain⟨h1,h2,h3,h4⟩:=h
 simp only at h1 h2 h3 h4
 obtain⟨r,rfl⟩:=jP h1.1
 obtain⟨c,rfl⟩:=jP h2.1
 have e:l.length=r*c:=by
  have:((r:Int)*(c:Int))=((r*c:Nat):Int):=by norm_cast
  rw[this] at h3;exact_mod_cast h3
 exact⟨r,c,fD c l,by rw[wY e],by omega,by omega,by omega⟩
theorem xI {r c:Nat} (M:Nat->Nat->Int) (hr:r<=4096) (hc:c<=4096) (h:r*c<=1048576):nC ((r:Int),(c:Int),aA r c M):=by
 refine⟨⟨by omega,by show(r:Int)<=4096;omega⟩,⟨by show(0:Int)<=c;omega,by show(c:Int)<=4096;omega⟩,?_,?_⟩
 ·simp only[pi];norm_cast
 ·simp only[pi];exact h
end Go.Am
end
section
namespace Go.Am
def qq (n:Int) (i:Nat):Bool:=decide ((i:Int)*i<=n)&&decide (n%(i:Int)=0)
def fS (n:Int):Bool:=decide (2<=n/\n<=1000003)&& !((List.range' 2 999).any (qq n))
def wC:Int->Option Bool:=fun(n:Int)=>some (fS n)
def wA:Int->Option Bool:=fun(n:Int)=>some (fS n)
def xv (m:Int) (v:Int):Bool:=decide (0<=v/\v<m)
def iR (m:Int) (l:List Int):Bool:=l.all (xv m)
def sK:Int×List Int->Option Bool:=fun((m,l):Int×List Int)=>if l.length<=1048576 then some (iR m l) else none
def wE:Int×List Int×Int->Option Bool:=fun((m,l,n):Int×List Int×Int)=>if(1<=m/\m<=1000003)/\l.length<=1048576 then some (iR m l&&decide ((l.length:Int)=n)) else none
def pN (m:Int) (x:Int×Int×List Int):Bool:=fS m&&(decide (0<=x.1/\x.1<=64)&&(decide (0<=x.2.1/\x.2.1<=64)&&(decide ((x.2.2.length:Int)=x.1*x.2.1)&&iR m x.2.2)))
def yC:Int×Int×Int×List Int->Option Bool:=fun((m,x):Int×Int×Int×List Int)=>if ki x<=1048576 then some (pN m x) else none
def yx:Int×Int×Int×List Int->Option Bool:=fun((m,x):Int×Int×Int×List Int)=>if ki x<=1048576 then some (pN m x) else none
def tW (m n:Int) (x:Int×Int×List Int):Bool:=pN m x&&(decide (x.1=n)&&decide (x.2.1=n))
def nW (x:Int×Int×List Int×List (Int×Int×List Int)×List Int):Bool:=match x with
 |(m,n,a,ms,b)=>fS m&&(decide (0<=n/\n<=12)&&((iR m a&&decide ((a.length:Int)=n))&&((iR m b&&decide ((b.length:Int)=n))&&(decide (1<=ms.length/\ms.length<=4)&&ms.all (tW m n)))))
def AQ:Int×Int×List Int×List (Int×Int×List Int)×List Int->Option Bool:=fun x=>if jh x<=1048576 then some (nW x) else none
def Av:Int×Int×List Int×List (Int×Int×List Int)×List Int->Option Bool:=fun x=>if jh x<=1048576 then some (nW x) else none
def HC:aq:=[(.one,[.int .i64])]
def Sk:aq:=[(.one,[.bool])]
def aix:aN:=[]
def HS:aq:=[(.one,[.int .i64]),(.one,[.list [.int .i64]]),(.one,[.int .i64])]
def Sz:aq:=[(.one,[.bool])]
def aiJ:aN:=[]
def HD:aq:=[(.one,[.int .i64]),(.agg,[.int .i64,.int .i64,.list [.int .i64]])]
def Sl:aq:=[(.one,[.bool])]
def aiy:aN:=[]
def HB:aq:=[(.agg,[.int .i64,.int .i64,.list [.int .i64],.list [.int .i64,.int .i64,.list [.int .i64]],.list [.int .i64]])]
def Sj:aq:=[(.one,[.bool])]
def aiw:aN:=[]
def GW:aq:=[(.one,[.int .i64])]
def RF:aq:=[(.one,[.bool])]
def ah2:aN:=[]
def G9:aq:=[(.one,[.int .i64]),(.one,[.list [.int .i64]])]
def RR:aq:=[(.one,[.bool])]
def ah9:aN:=[]
def GX:aq:=[(.one,[.int .i64]),(.agg,[.int .i64,.int .i64,.list [.int .i64]])]
def RG:aq:=[(.one,[.bool])]
def ah3:aN:=[]
def GV:aq:=[(.agg,[.int .i64,.int .i64,.list [.int .i64],.list [.int .i64,.int .i64,.list [.int .i64]],.list [.int .i64]])]
def RE:aq:=[(.one,[.bool])]
def ah1:aN:=[]
def LG (NN:Nat):Int->(Option Bool):=
 (fun(i0:Int)=>
 cI (bC NN (fun((i1,i2):(Int×Int))=>
 aL (qZ (dF .i64 i2 i2) i1)
 (aL (qZ i1 (1000003:Int))
 ((hH i1 i2).U (fun i3=>
 aL (k8 i3 (0:Int))
 (some (Sum.inr (Sum.inr false)))
 (some (Sum.inl (i1,bB .i64 i2 1)))))
 (some (Sum.inr (Sum.inl i1))))
 (some (Sum.inr (Sum.inl i1))))
 (i0,(2:Int)))
 (fun i4=>
 (kQ (i4,(2:Int),(1000003:Int))).U (fun b5=>
 some b5)))
def LN (NN:Nat):(Int×((List Int)×Int))->(Option Bool):=
 (fun((i0,l1,i2):(Int×((List Int)×Int)))=>
 cI (bC NN (fun((i3,l4,i5,l6,i7,i8):(Int×((List Int)×(Int×((List Int)×(Int×Int))))))=>
 aL (bD i8 i7)
 ((eX l6 i8).U (fun i9=>
 (kQ (i9,(0:Int),lO .i64 i3 1)).U (fun oY=>
 aL (eK oY)
 (some (Sum.inr (Sum.inr false)))
 (some (Sum.inl (i3,l4,i5,l6,i7,bB .i64 i8 1))))))
 (some (Sum.inr (Sum.inl (l4,i5)))))
 (i0,l1,i2,l1,ba (J l1),(0:Int)))
 (fun(pJ,eD)=>
 some (k8 (ba (J pJ)) eD)))
def LH (NN:Nat):(Int×(Int×(Int×(List Int))))->(Option Bool):=
 (fun((i0,i1,i2,l3):(Int×(Int×(Int×(List Int)))))=>
 (wC i0).U (fun b4=>
 aL (eK b4)
 (some false)
 ((kQ (i1,(0:Int),(64:Int))).U (fun b5=>
 aL (eK b5)
 (some false)
 ((kQ (i2,(0:Int),(64:Int))).U (fun b6=>
 aL (eK b6)
 (some false)
 (aL (dU (ba (J l3)) (dF .i64 i1 i2))
 (some false)
 (cI (bC NN (fun((i7,l8,i9,cR):(Int×((List Int)×(Int×Int))))=>
 aL (bD cR i9)
 ((eX l8 cR).U (fun dA=>
 (kQ (dA,(0:Int),lO .i64 i7 1)).U (fun L4=>
 aL (eK L4)
 (some (Sum.inr (Sum.inr false)))
 (some (Sum.inl (i7,l8,i9,bB .i64 cR 1))))))
 (some (Sum.inr (Sum.inl ()))))
 (i0,l3,ba (J l3),(0:Int)))
 (fun _=>
 some true)))))))))
def LF (NN:Nat):(Int×(Int×((List Int)×((List (Int×(Int×(List Int))))×(List Int)))))->(Option Bool):=
 (fun((i0,i1,l2,l3,l4):(Int×(Int×((List Int)×((List (Int×(Int×(List Int))))×(List Int))))))=>
 (wC i0).U (fun b5=>
 aL (eK b5)
 (some false)
 ((kQ (i1,(0:Int),(12:Int))).U (fun b6=>
 aL (eK b6)
 (some false)
 ((wE (i0,l2,i1)).U (fun b7=>
 aL (eK b7)
 (some false)
 ((wE (i0,l4,i1)).U (fun b8=>
 aL (eK b8)
 (some false)
 ((kQ (ba (J l3),(1:Int),(4:Int))).U (fun b9=>
 aL (eK b9)
 (some false)
 (cI (bC NN (fun(((gA,dA,eD),fq,eB,dn,ft,cu):(((List (Int×(Int×(List Int))))×(Int×Int))×(Int×(Int×((List Int)×((List (Int×(Int×(List Int))))×(List Int)))))))=>
 aL (bD eD dA)
 ((eX gA eD).U (fun(ja,fZ,iu)=>
 (yC (fq,ja,fZ,iu)).U (fun b21=>
 aL (eK b21)
 (some (Sum.inr (Sum.inr false)))
 (aL (dU ja eB)
 (some (Sum.inr (Sum.inr false)))
 (aL (dU fZ eB)
 (some (Sum.inr (Sum.inr false)))
 (some (Sum.inl ((gA,dA,bB .i64 eD 1),fq,eB,dn,ft,cu))))))))
 (some (Sum.inr (Sum.inl ()))))
 ((l3,ba (J l3),(0:Int)),i0,i1,l2,l3,l4))
 (fun _=>
 some true))))))))))))
def Lh (NN:Nat):Int->(Option Bool):=
 (fun(i0:Int)=>
 aL (bD i0 (2:Int))
 (some false)
 (aL (bD (1000003:Int) i0)
 (some false)
 (cI (bC NN (fun((i1,i2):(Int×Int))=>
 aL (qZ (dF .i64 i2 i2) i1)
 ((hH i1 i2).U (fun i3=>
 aL (k8 i3 (0:Int))
 (some (Sum.inr (Sum.inr false)))
 (some (Sum.inl (i1,bB .i64 i2 1)))))
 (some (Sum.inr (Sum.inl ()))))
 (i0,(2:Int)))
 (fun _=>
 some true))))
def Lm (NN:Nat):(Int×(List Int))->(Option Bool):=
 (fun((i0,l1):(Int×(List Int)))=>
 cI (bC NN (fun((i2,l3,i4,i5):(Int×((List Int)×(Int×Int))))=>
 aL (bD i5 i4)
 ((eX l3 i5).U (fun i6=>
 aL (bD i6 (0:Int))
 (some (Sum.inr (Sum.inr false)))
 (aL (qZ i2 i6)
 (some (Sum.inr (Sum.inr false)))
 (some (Sum.inl (i2,l3,i4,bB .i64 i5 1))))))
 (some (Sum.inr (Sum.inl ()))))
 (i0,l1,ba (J l1),(0:Int)))
 (fun _=>
 some true))
def Li (NN:Nat):(Int×(Int×(Int×(List Int))))->(Option Bool):=
 (fun((i0,i1,i2,l3):(Int×(Int×(Int×(List Int)))))=>
 (wA i0).U (fun b4=>
 aL (eK b4)
 (some false)
 (aL (bD i1 (0:Int))
 (some false)
 (aL (bD i2 (0:Int))
 (some false)
 (aL (bD (64:Int) i1)
 (some false)
 (aL (bD (64:Int) i2)
 (some false)
 (aL (k8 (ba (J l3)) (dF .i64 i1 i2))
 ((sK (i0,l3)).U (fun b5=>
 some b5))
 (some false))))))))
def Lg (NN:Nat):(Int×(Int×((List Int)×((List (Int×(Int×(List Int))))×(List Int)))))->(Option Bool):=
 (fun((i0,i1,l2,l3,l4):(Int×(Int×((List Int)×((List (Int×(Int×(List Int))))×(List Int))))))=>
 (wA i0).U (fun b5=>
 aL (eK b5)
 (some false)
 (aL (bD i1 (0:Int))
 (some false)
 (aL (bD (12:Int) i1)
 (some false)
 (aL (dU (ba (J l2)) i1)
 (some false)
 (aL (dU (ba (J l4)) i1)
 (some false)
 ((sK (i0,l2)).U (fun b6=>
 aL (eK b6)
 (some false)
 ((sK (i0,l4)).U (fun b7=>
 aL (eK b7)
 (some false)
 (aL (bD (ba (J l3)) (1:Int))
 (some false)
 (aL (bD (4:Int) (ba (J l3)))
 (some false)
 (cI (bC NN (fun(((l8,i9,cR),dA,eD,kF,ju,dn):(((List (Int×(Int×(List Int))))×(Int×Int))×(Int×(Int×((List Int)×((List (Int×(Int×(List Int))))×(List Int)))))))=>
 aL (bD cR i9)
 ((eX l8 cR).U (fun(gz,tF,gj)=>
 (yx (dA,gz,tF,gj)).U (fun b19=>
 aL (eK b19)
 (some (Sum.inr (Sum.inr false)))
 (aL (dU gz eD)
 (some (Sum.inr (Sum.inr false)))
 (aL (dU tF eD)
 (some (Sum.inr (Sum.inr false)))
 (some (Sum.inl ((l8,i9,bB .i64 cR 1),dA,eD,kF,ju,dn))))))))
 (some (Sum.inr (Sum.inl ()))))
 ((l3,ba (J l3),(0:Int)),i0,i1,l2,l3,l4))
 (fun _=>
 some true))))))))))))))
theorem vQ {a b:Int} (h1: -9223372036854775808<=a*b) (h2:a*b<=9223372036854775807):dF .i64 a b=a*b:=As h1 h2
theorem Ka {n:Int} {i:Nat} (hn:0<=n) (hi:0<i):hH n (i:Int)=some (n%(i:Int)):=by
 unfold hH
 rw[if_neg (by omega),Int.tmod_eq_emod_of_nonneg hn]
theorem T6 {i j:Nat} (h:i<=j):(i:Int)*i<=(j:Int)*j:=by
 have:=Nat.mul_le_mul h h
 exact_mod_cast this
theorem V9 {X Y:Type} {f:X->Option (X⊕(Y⊕Bool))} (n:Int) (mk:Nat->X) (r:Y) (hn:n<=1000003)
  (h1:∀i:Nat,2<=i->i<=1001->(i:Int)*i<=n->n%(i:Int)=0->f (mk i)=some (.inr (.inr false)))
  (h2:∀i:Nat,2<=i->i<=1001->(i:Int)*i<=n->n%(i:Int)≠0->f (mk i)=some (.inl (mk (i+1))))
  (h3:∀i:Nat,2<=i->i<=1001->¬(i:Int)*i<=n->f (mk i)=some (.inr (.inl r))) {x0:X} (hx:x0=mk 2):
  bC aM f x0=some (if(List.range' 2 999).any (qq n)=true then .inr false else .inl r):=by
 subst hx
 have bW:∀(d i:Nat),2<=i->i+d=1001->∀N,d<N->bC N f (mk i)=some (if(List.range' i d).any (qq n)=true then .inr false else .inl r):=by
  intro d
  induction d with
  |zero=>
   intro i hi hd N hN
   obtain⟨N,rfl⟩:∃M,N=M+1:=⟨N - 1,by omega⟩
   have:i=1001:=by omega
   subst this
   rw[bC,h3 1001 (by omega) (by omega) (by omega)]
   rfl
  |succ d ih=>
   intro i hi hd N hN
   obtain⟨N,rfl⟩:∃M,N=M+1:=⟨N - 1,by omega⟩
   rw[List.range'_succ,List.any_cons]
   by_cases fb:(i:Int)*i<=n
   ·by_cases hm:n%(i:Int)=0
    ·rw[bC,h1 i hi (by omega) fb hm]
     simp[qq,fb,hm]
    ·rw[bC,h2 i hi (by omega) fb hm]
     simp only
     rw[ih (i+1) (by omega) (by omega) N (by omega),show qq n i=false by simp[qq,hm],Bool.false_or]
   ·rw[bC,h3 i hi (by omega) fb]
    have:(List.range' (i+1) d).any (qq n)=false:=by
     rw[List.any_eq_false]
     intro j hj
     have:=(List.mem_range'_1.1 hj).1
     have:=T6 (show i<=j by omega)
     simp only[qq,Bool.and_eq_true,decide_eq_true_eq,not_and]
     intro h;omega
    simp only
    rw[this]
    simp[qq,fb]
 exact bW 999 2 (by omega) (by omega) aM (ew (by omega))
theorem C6 {i:Nat} (h:i<=1001):0<=(i:Int)*i/\(i:Int)*i<=1002001:=by
 have h1:=T6 h
 have h0:=T6 (Nat.zero_le i)
 omega
theorem aeJ (x:Int) (y:Bool) (h:wC x=some y):LG aM x=some y:=by
 rw[<-h]
 simp only[wC,LG]
 by_cases hx:x<=1000003
 ·rw[V9 x (fun i=>(x,(i:Int))) x hx ?_ ?_ ?_ ?_]
  ·by_cases hd:(List.range' 2 999).any (qq x)=true
   ·rw[if_pos hd,Ju,fS,hd]
    simp
   ·rw[if_neg hd,eI,fS]
    simp only[kQ,az]
    simp[hd]
  all_goals try simp only
  ·intro i h2 hi fb hm
   have hs:=C6 hi
   rw[vQ (by omega) (by omega),bt (vO fb),bt (vO hx),Ka (by omega) (by omega),az,bt (y3 hm)]
  ·intro i h2 hi fb hm
   have hs:=C6 hi
   rw[vQ (by omega) (by omega),bt (vO fb),bt (vO hx),Ka (by omega) (by omega),az,br (yZ hm),lS (by omega) (by omega)]
   rfl
  ·intro i h2 hi fb
   have hs:=C6 hi
   rw[vQ (by omega) (by omega),br (Fm (by omega))]
  ·rfl
 ·rw[je (fun i=>(x,(i:Int)+2)) (r:=Sum.inl x) 0 (fun j hj=>by omega) ?_ ?_ (ew (by omega))]
  ·rw[eI,fS]
   simp only[kQ,az]
   have:¬(2<=x/\x<=1000003):=by omega
   simp[this]
  ·simp only
   rw[bt (vO (by rw[vQ (by omega) (by omega)];omega)),br (Fm (by omega))]
  ·rfl
theorem ad8 (x:Int) (y:Bool) (h:wA x=some y):Lh aM x=some y:=by
 rw[<-h]
 simp only[wA,Lh]
 by_cases h2:x<2
 ·rw[bt (gC h2),fS,decide_eq_false (by omega)];rfl
 rw[br (ff (by omega))]
 by_cases hx:1000003<x
 ·rw[bt (gC hx),fS,decide_eq_false (by omega)];rfl
 rw[br (ff (by omega))]
 rw[V9 x (fun i=>(x,(i:Int))) () (by omega) ?_ ?_ ?_ ?_]
 ·have hr:(2<=x/\x<=1000003):=by omega
  by_cases hd:(List.range' 2 999).any (qq x)=true
  ·rw[if_pos hd,Ju,fS,hd]
   simp
  ·rw[if_neg hd,eI,fS]
   simp[hd,hr]
 all_goals try simp only
 ·intro i h2 hi fb hm
  have hs:=C6 hi
  rw[vQ (by omega) (by omega),bt (vO fb),Ka (by omega) (by omega),az,bt (y3 hm)]
 ·intro i h2 hi fb hm
  have hs:=C6 hi
  rw[vQ (by omega) (by omega),bt (vO fb),Ka (by omega) (by omega),az,br (yZ hm),lS (by omega) (by omega)]
  rfl
 ·intro i h2 hi fb
  have hs:=C6 hi
  rw[vQ (by omega) (by omega),br (Fm (by omega))]
 ·rfl
theorem aei (x:Int×List Int) (y:Bool) (h:sK x=some y):Lm aM x=some y:=by
 obtain⟨m,l⟩:=x
 simp only[sK] at h
 split at h
 ·rename_i hl
  rw[<-h]
  simp only[Lm]
  rw[Cr (mk:=fun i=>(m,l,ba (J l),(i:Int))) l (xv m) (Sum.inr false) (Sum.inl ()) ?_ ?_ ?_ ?_ (ew (by omega))]
  ·unfold iR
   cases l.all (xv m)<;>rfl
  all_goals try simp only
  ·intro i a ha hp
   have hp:=of_decide_eq_true hp
   rw[bt (iL ha),ig,ha,az,br (ff (by omega)),br (Fm (by omega)),mK ha (by omega)]
  ·intro i a ha hp
   have hp:=of_decide_eq_false hp
   rw[bt (iL ha),ig,ha,az]
   by_cases h0:a<0
   ·rw[bt (gC h0)]
   ·rw[br (ff (by omega)),bt (vO (by omega))]
  ·rw[br (pL l)]
  ·rfl
 ·cases h
theorem aeW (x:Int×List Int×Int) (y:Bool) (h:wE x=some y):LN aM x=some y:=by
 obtain⟨m,l,n⟩:=x
 simp only[wE] at h
 split at h
 ·rename_i hl
  obtain⟨hm,hl⟩:=hl
  rw[<-h]
  simp only[LN]
  rw[Cr (mk:=fun i=>(m,l,n,l,ba (J l),(i:Int))) l (xv m) (Sum.inr false) (Sum.inl (l,n)) ?_ ?_ ?_ ?_ (ew (by omega))]
  ·unfold iR
   cases l.all (xv m)
   ·rfl
   ·rw[if_pos rfl,eI]
    simp only[Bool.true_and]
    rfl
  all_goals try simp only
  ·intro i a ha hp
   have hp:=of_decide_eq_true hp
   rw[bt (iL ha),ig,ha,az,sD (by omega) (by omega)]
   simp only[kQ,az]
   rw[br (CA (by omega)),mK ha (by omega)]
  ·intro i a ha hp
   have hp:=of_decide_eq_false hp
   rw[bt (iL ha),ig,ha,az,sD (by omega) (by omega)]
   simp only[kQ,az]
   rw[bt (Cy (by omega))]
  ·rw[br (pL l)]
  ·rfl
 ·cases h
theorem tN {m:Int} (h:fS m=true):2<=m/\m<=1000003:=by
 simp only[fS,Bool.and_eq_true,decide_eq_true_eq] at h
 exact h.1
theorem ad9 (x:Int×Int×Int×List Int) (y:Bool) (h:yx x=some y):Li aM x=some y:=by
 obtain⟨m,r,c,l⟩:=x
 simp only[yx] at h
 split at h
 ·rename_i hl
  rw[<-h]
  have hl:l.length<=1048576:=hl
  simp only[Li,wA,az,pN]
  cases hp:fS m with
  |false=>rfl
  |true=>
   rw[br (by rfl),Bool.true_and]
   by_cases h1:r<0
   ·rw[bt (gC h1),decide_eq_false (by omega)];rfl
   rw[br (ff (by omega))]
   by_cases h2:c<0
   ·rw[bt (gC h2),decide_eq_false (p:=0<=c/\c<=64) (by omega)];simp
   rw[br (ff (by omega))]
   by_cases h3:64<r
   ·rw[bt (gC h3),decide_eq_false (by omega)];rfl
   rw[br (ff (by omega))]
   by_cases h4:64<c
   ·rw[bt (gC h4),decide_eq_false (p:=0<=c/\c<=64) (by omega)];simp
   rw[br (ff (by omega)),decide_eq_true (p:=0<=r/\r<=64) (by omega),decide_eq_true (p:=0<=c/\c<=64) (by omega),Bool.true_and,Bool.true_and]
   obtain⟨r,rfl⟩:=jP (z:=r) (by omega)
   obtain⟨c,rfl⟩:=jP (z:=c) (by omega)
   have dc:r*c<=64*64:=Nat.mul_le_mul (by omega) (by omega)
   have agb:(r:Int)*(c:Int)=((r*c:Nat):Int):=by norm_cast
   rw[vQ (by omega) (by omega),show sK (m,l)=some (iR m l) from if_pos hl]
   by_cases h5:(l.length:Int)=(r:Int)*c
   ·rw[bt (show k8 (ba (J l)) _=true from y3 h5),decide_eq_true h5];rfl
   ·rw[br (show k8 (ba (J l)) _=false from yZ h5),decide_eq_false h5];rfl
 ·cases h
theorem aeK (x:Int×Int×Int×List Int) (y:Bool) (h:yC x=some y):LH aM x=some y:=by
 obtain⟨m,r,c,l⟩:=x
 simp only[yC] at h
 split at h
 ·rename_i hl
  rw[<-h]
  have hl:l.length<=1048576:=hl
  simp only[LH,wC,kQ,az,pN]
  cases hp:fS m with
  |false=>rfl
  |true=>
   obtain⟨eR,fo⟩:=tN hp
   rw[br (by rfl),Bool.true_and]
   by_cases h1:0<=r/\r<=64
   rotate_left
   ·rw[bt (Cy h1),decide_eq_false h1];rfl
   rw[br (CA h1),decide_eq_true h1,Bool.true_and]
   by_cases h2:0<=c/\c<=64
   rotate_left
   ·rw[bt (Cy h2),decide_eq_false h2];rfl
   rw[br (CA h2),decide_eq_true h2,Bool.true_and]
   obtain⟨r,rfl⟩:=jP (z:=r) (by omega)
   obtain⟨c,rfl⟩:=jP (z:=c) (by omega)
   have dc:r*c<=64*64:=Nat.mul_le_mul (by omega) (by omega)
   have agb:(r:Int)*(c:Int)=((r*c:Nat):Int):=by norm_cast
   rw[vQ (by omega) (by omega)]
   by_cases h5:(l.length:Int)=(r:Int)*c
   rotate_left
   ·rw[bt (show dU (ba (J l)) _=true from oF h5),decide_eq_false h5];rfl
   rw[br (show dU (ba (J l)) _=false from lM h5),decide_eq_true h5,Bool.true_and]
   rw[Cr (mk:=fun i=>(m,l,ba (J l),(i:Int))) l (xv m) (Sum.inr false) (Sum.inl ()) ?_ ?_ ?_ ?_ (ew (by omega))]
   ·unfold iR
    cases l.all (xv m)<;>rfl
   all_goals try simp only
   ·intro i a ha hp
    have hp:=of_decide_eq_true hp
    rw[bt (iL ha),ig,ha,az,sD (by omega) (by omega),br (CA (by omega)),mK ha (by omega)]
   ·intro i a ha hp
    have hp:=of_decide_eq_false hp
    rw[bt (iL ha),ig,ha,az,sD (by omega) (by omega),bt (Cy (by omega))]
   ·rw[br (pL l)]
   ·rfl
 ·cases h
theorem abu {m n:Int} {a:List Int} {ms:List (Int×Int×List Int)} {b:List Int} (h:jh (m,n,a,ms,b)<=1048576):a.length<=1048576/\b.length<=1048576/\ms.length<=1048576/\∀e∈ms,ki e<=1048576:=by
 have h1:a.length+jT ms+b.length<=1048576:=h
 have h2:=Uu (l:=ms) (by omega)
 exact⟨by omega,by omega,h2.1,h2.2⟩
theorem aeI (x:Int×Int×List Int×List (Int×Int×List Int)×List Int) (y:Bool) (h:AQ x=some y):LF aM x=some y:=by
 obtain⟨m,n,a,ms,b⟩:=x
 simp only[AQ] at h
 split at h
 ·rename_i hl
  rw[<-h]
  obtain⟨ha,hb,hms,cv⟩:=abu hl
  simp only[LF,wC,kQ,az,nW]
  cases hp:fS m with
  |false=>rfl
  |true=>
   have hm:=tN hp
   rw[br (by rfl),Bool.true_and]
   by_cases h1:0<=n/\n<=12
   rotate_left
   ·rw[bt (Cy h1),decide_eq_false h1];rfl
   rw[br (CA h1),decide_eq_true h1,Bool.true_and]
   rw[show wE (m,a,n)=some (iR m a&&decide ((a.length:Int)=n)) from if_pos ⟨by omega,ha⟩,az]
   rw[show wE (m,b,n)=some (iR m b&&decide ((b.length:Int)=n)) from if_pos ⟨by omega,hb⟩,az]
   cases (iR m a&&decide ((a.length:Int)=n)) with
   |false=>rfl
   |true=>
   rw[br (by rfl),Bool.true_and]
   cases (iR m b&&decide ((b.length:Int)=n)) with
   |false=>rfl
   |true=>
   rw[br (by rfl),Bool.true_and]
   by_cases h2:1<=ms.length/\ms.length<=4
   rotate_left
   ·rw[bt (Cy (by have:=nl ms;omega)),decide_eq_false h2];rfl
   rw[br (CA (by have:=nl ms;omega)),decide_eq_true h2,Bool.true_and]
   rw[Cr (mk:=fun i=>((ms,ba (J ms),(i:Int)),m,n,a,ms,b)) ms (tW m n) (Sum.inr false) (Sum.inl ()) ?_ ?_ ?_ ?_ (ew (by omega))]
   ·cases ms.all (tW m n)<;>rfl
   all_goals try simp only
   ·rintro i ⟨r,c,l⟩ hi hp
    simp only[tW,Bool.and_eq_true,decide_eq_true_eq] at hp
    obtain⟨p1,p2,p3⟩:=hp
    rw[bt (iL hi),ig,hi,az]
    simp only
    rw[show yC (m,r,c,l)=some (pN m (r,c,l)) from if_pos (cv _ (List.mem_of_getElem? hi)),az,p1,br (by rfl),br (lM p2),br (lM p3),mK hi (by omega)]
   ·rintro i ⟨r,c,l⟩ hi hp
    rw[bt (iL hi),ig,hi,az]
    simp only
    rw[show yC (m,r,c,l)=some (pN m (r,c,l)) from if_pos (cv _ (List.mem_of_getElem? hi)),az]
    cases p1:pN m (r,c,l) with
    |false=>rw[bt (by rfl)]
    |true=>
     rw[br (by rfl)]
     by_cases p2:r=n
     ·rw[br (lM p2)]
      by_cases p3:c=n
      ·simp[tW,p1,p2,p3] at hp
       rw[p2,p3] at p1
       rw[p1] at hp
       cases hp
      ·rw[bt (oF p3)]
     ·rw[bt (oF p2)]
   ·rw[br (pL ms)]
   ·rfl
 ·cases h
theorem ad7 (x:Int×Int×List Int×List (Int×Int×List Int)×List Int) (y:Bool) (h:Av x=some y):Lg aM x=some y:=by
 obtain⟨m,n,a,ms,b⟩:=x
 simp only[Av] at h
 split at h
 ·rename_i hl
  rw[<-h]
  obtain⟨ha,hb,hms,cv⟩:=abu hl
  simp only[Lg,wA,az,nW]
  cases hp:fS m with
  |false=>rfl
  |true=>
   have hm:=tN hp
   rw[br (by rfl),Bool.true_and]
   by_cases h0:n<0
   ·rw[bt (gC h0),decide_eq_false (by omega)];rfl
   rw[br (ff (by omega))]
   by_cases h1:12<n
   ·rw[bt (gC h1),decide_eq_false (by omega)];rfl
   rw[br (ff (by omega)),decide_eq_true (p:=0<=n/\n<=12) (by omega),Bool.true_and]
   by_cases e1:(a.length:Int)=n
   rotate_left
   ·rw[bt (show dU (ba (J a)) _=true from oF e1),decide_eq_false e1,Bool.and_false,Bool.false_and]
   rw[br (show dU (ba (J a)) _=false from lM e1),decide_eq_true e1,Bool.and_true]
   by_cases e2:(b.length:Int)=n
   rotate_left
   ·rw[bt (show dU (ba (J b)) _=true from oF e2),decide_eq_false e2,Bool.and_false,Bool.false_and,Bool.and_false]
   rw[br (show dU (ba (J b)) _=false from lM e2),decide_eq_true e2,Bool.and_true]
   rw[show sK (m,a)=some (iR m a) from if_pos ha,az]
   rw[show sK (m,b)=some (iR m b) from if_pos hb,az]
   cases iR m a with
   |false=>rfl
   |true=>
   rw[br (by rfl),Bool.true_and]
   cases iR m b with
   |false=>rfl
   |true=>
   rw[br (by rfl),Bool.true_and]
   by_cases h2:ms.length<1
   ·rw[bt (gC (by have:=nl ms;omega)),decide_eq_false (by omega)];rfl
   rw[br (ff (by have:=nl ms;omega))]
   by_cases h3:4<ms.length
   ·rw[bt (gC (by have:=nl ms;omega)),decide_eq_false (by omega)];rfl
   rw[br (ff (by have:=nl ms;omega)),decide_eq_true (by omega),Bool.true_and]
   rw[Cr (mk:=fun i=>((ms,ba (J ms),(i:Int)),m,n,a,ms,b)) ms (tW m n) (Sum.inr false) (Sum.inl ()) ?_ ?_ ?_ ?_ (ew (by omega))]
   ·cases ms.all (tW m n)<;>rfl
   all_goals try simp only
   ·rintro i ⟨r,c,l⟩ hi hp
    simp only[tW,Bool.and_eq_true,decide_eq_true_eq] at hp
    obtain⟨p1,p2,p3⟩:=hp
    rw[bt (iL hi),ig,hi,az]
    simp only
    rw[show yx (m,r,c,l)=some (pN m (r,c,l)) from if_pos (cv _ (List.mem_of_getElem? hi)),az,p1,br (by rfl),br (lM p2),br (lM p3),mK hi (by omega)]
   ·rintro i ⟨r,c,l⟩ hi hp
    rw[bt (iL hi),ig,hi,az]
    simp only
    rw[show yx (m,r,c,l)=some (pN m (r,c,l)) from if_pos (cv _ (List.mem_of_getElem? hi)),az]
    cases p1:pN m (r,c,l) with
    |false=>rw[bt (by rfl)]
    |true=>
     rw[br (by rfl)]
     by_cases p2:r=n
     ·rw[br (lM p2)]
      by_cases p3:c=n
      ·simp[tW,p1,p2,p3] at hp
       rw[p2,p3] at p1
       rw[p1] at hp
       cases hp
      ·rw[bt (oF p3)]
     ·rw[bt (oF p2)]
   ·rw[br (pL ms)]
   ·rfl
 ·cases h
end Go.Am
end
section
namespace Go.Am
def CQ:Int×Int×Int->Bool:=fun((k,p,n):Int×Int×Int)=>
 if k=1 then decide (p=0/\n=0) else if k=2 then fS p&&decide (n=0) else if k=3\/k=4\/k=5 then decide ((1<=p/\p<=1000000)/\n=0)
 else if k=6 then decide (p=0/\1<=n/\n<=20) else if k=7 then fS p&&decide (1<=n/\n<=6) else if k=8 then fS p&&decide (p≠2/\n=0) else false
def sI:Int×Int×Int->Int:=fun((k,p,n):Int×Int×Int)=>if k=7 then n else if k=8 then 4 else 1
def iV (r:Int×Int×Int):Nat:=(sI r).toNat
def mR:Int×Int×Int->Int:=fun((k,p,n):Int×Int×Int)=>if k=1 then 1 else if k=3\/k=4\/k=5 then p else if k=6 then 2^n.toNat - 1 else p - 1
def Ys (t v:Int):Bool:=decide (0<=v/\v<=t)
def Bu (r:Int×Int×Int) (x:List Int):Bool:=decide (x.length=iV r)&&x.all (Ys (mR r))
def CB:Int×Int×Int->List Int:=fun((k,p,n):Int×Int×Int)=>cK (jg (iV (k,p,n)) 0) 0 (if k=4 then 0 else if k=5\/k=6 then mR (k,p,n) else 1)
def sm:Nat->(Nat->Int)->Int
 |0,_=>0
 |n+1,f=>sm n f+f n
def kW (om:Bool) (x y:Nat->Int) (t i j:Nat):Int:=if i+j=t then x i*y j else if om=true/\i+j=t+4 then -(x i*y j) else 0
def oM (w:Nat) (f:Nat->Int):List Int:=(List.range w).map f
def jZ (x:List Int):Nat->Int:=fun i=>x.getD i 0
def ME (p:Int) (om:Bool) (w:Nat) (x y:Nat->Int):List Int:=oM w fun t=>sm w (fun i=>sm w (fun j=>kW om x y t i j))%p
def Q6:Int×Int×Int->Int->Int->Int:=fun((k,p,n):Int×Int×Int) a b=>
 if k=1\/k=6 then((a.toNat&&&b.toNat:Nat):Int) else if k=2 then a*b%p else if k=3 then min (a*b) p else if k=4 then min (a+b) p else min a b
def JS (r:Int×Int×Int) (x y:List Int):List Int:=if r.1=7\/r.1=8 then ME r.2.1 (decide (r.1=8)) (iV r) (jZ x) (jZ y) else[Q6 r (jZ x 0) (jZ y 0)]
theorem Rx {k p n:Int} (h:CQ (k,p,n)=true):(k=1/\p=0/\n=0)\/(k=2/\fS p=true/\n=0)\/(k=3/\(1<=p/\p<=1000000)/\n=0)\/(k=4/\(1<=p/\p<=1000000)/\n=0)\/(k=5/\(1<=p/\p<=1000000)/\n=0)\/
  (k=6/\p=0/\1<=n/\n<=20)\/(k=7/\fS p=true/\1<=n/\n<=6)\/(k=8/\fS p=true/\p≠2/\n=0):=by
 simp only[CQ] at h
 by_cases h1:k=1
 ·rw[if_pos h1] at h;exact .inl ⟨h1,by simpa using h⟩
 rw[if_neg h1] at h
 by_cases h2:k=2
 ·rw[if_pos h2] at h;simp at h;exact .inr (.inl ⟨h2,h⟩)
 rw[if_neg h2] at h
 by_cases h3:k=3\/k=4\/k=5
 ·rw[if_pos h3] at h
  simp only[decide_eq_true_eq] at h
  rcases h3 with h3|h3|h3
  ·exact .inr (.inr (.inl ⟨h3,h⟩))
  ·exact .inr (.inr (.inr (.inl ⟨h3,h⟩)))
  ·exact .inr (.inr (.inr (.inr (.inl ⟨h3,h⟩))))
 rw[if_neg h3] at h
 by_cases h4:k=6
 ·rw[if_pos h4] at h;simp at h;exact .inr (.inr (.inr (.inr (.inr (.inl ⟨h4,h⟩)))))
 rw[if_neg h4] at h
 by_cases h5:k=7
 ·rw[if_pos h5] at h;simp at h;exact .inr (.inr (.inr (.inr (.inr (.inr (.inl ⟨h5,h⟩))))))
 rw[if_neg h5] at h
 by_cases h6:k=8
 ·rw[if_pos h6] at h;simp at h;exact .inr (.inr (.inr (.inr (.inr (.inr (.inr ⟨h6,h⟩))))))
 rw[if_neg h6] at h
 cases h
theorem amR {r:Int×Int×Int} (h:CQ r=true):sI r=(iV r:Int)/\1<=iV r/\iV r<=6:=by
 obtain⟨k,p,n⟩:=r
 rcases Rx h with⟨rfl,rfl,rfl⟩|⟨rfl,hp,rfl⟩|⟨rfl,hp,rfl⟩|⟨rfl,hp,rfl⟩|⟨rfl,hp,rfl⟩|⟨rfl,rfl,hn⟩|⟨rfl,hp,hn⟩|⟨rfl,hp,rZ,rfl⟩
 ·simp[iV,sI]
 ·simp[iV,sI]
 ·simp[iV,sI]
 ·simp[iV,sI]
 ·simp[iV,sI]
 ·simp[iV,sI]
 ·simp[iV,sI];omega
 ·simp[iV,sI]
theorem ak8 {w:Nat} {p:Int} (h:w=1):cK (jg w (0:Int)) 0 p=[p]:=by subst h;rfl
theorem Gk (w:Nat) (f:Nat->Int):(oM w f).length=w:=by simp[oM]
theorem Gj {w j:Nat} (f:Nat->Int) (h:j<w):(oM w f)[j]? =some (f j):=by simp[oM,h]
theorem amq {w:Nat} {f g:Nat->Int} (h:∀j,j<w->f j=g j):oM w f=oM w g:=List.map_congr_left fun j hj=>h j (List.mem_range.1 hj)
theorem amt {w:Nat} (f:Nat->Int) (j:Nat) (v:Int):(oM w f).set j v=oM w (fun i=>if i=j then v else f i):=by
 apply List.ext_getElem?
 intro i
 by_cases hi:i<w
 ·rw[Gj _ hi]
  by_cases hj:j=i
  ·subst hj
   rw[List.getElem?_set_self (by rw[Gk];exact hi),if_pos rfl]
  ·rw[List.getElem?_set_ne hj,Gj _ hi,if_neg (fun e=>hj e.symm)]
 ·rw[List.getElem?_eq_none (by rw[List.length_set,Gk];omega),List.getElem?_eq_none (by rw[Gk];omega)]
theorem W4 {x:List Int} {j:Nat} (h:j<x.length):x[j]? =some (jZ x j):=by
 rw[List.getElem?_eq_getElem h]
 simp[jZ,List.getD_eq_getElem?_getD,List.getElem?_eq_getElem h]
theorem ae1 {w j:Nat} (f:Nat->Int) (h:j<w):jZ (oM w f) j=f j:=by simp[jZ,List.getD_eq_getElem?_getD,Gj f h]
theorem amr {x:List Int} {w:Nat} (h:x.length=w):oM w (jZ x)=x:=by
 subst h
 apply List.ext_getElem?
 intro i
 by_cases hi:i<x.length
 ·rw[Gj _ hi,W4 hi]
 ·rw[List.getElem?_eq_none (by rw[Gk];omega),List.getElem?_eq_none (by omega)]
theorem ams (w:Nat) (c:Int):jg w c=oM w fun _=>c:=by
 apply List.ext_getElem?
 intro i
 by_cases hi:i<w
 ·rw[Gj _ hi];simp[jg,hi]
 ·rw[List.getElem?_eq_none (by simp[jg];omega),List.getElem?_eq_none (by rw[Gk];omega)]
theorem Wg {r:Int×Int×Int} {x:List Int} (h:Bu r x=true):x.length=iV r:=by
 simp only[Bu,Bool.and_eq_true,decide_eq_true_eq] at h;exact h.1
theorem We {r:Int×Int×Int} {x:List Int} (h:Bu r x=true) {j:Nat} (hj:j<iV r):0<=jZ x j/\jZ x j<=mR r:=by
 simp only[Bu,Bool.and_eq_true,decide_eq_true_eq] at h
 have:=List.all_eq_true.1 h.2 (jZ x j) (List.mem_of_getElem? (W4 (by rw[h.1];exact hj)))
 simpa[Ys] using this
theorem ac6 {r:Int×Int×Int} {x:List Int} (h:Bu r x=true) (hw:iV r=1):x=[jZ x 0]/\0<=jZ x 0/\jZ x 0<=mR r:=by
 have hl:=Wg h
 rw[hw] at hl
 match x,hl with
 |[a],_=>exact⟨rfl,We h (j:=0) (by omega)⟩
theorem F3 {f g:Nat->Int}:∀{n:Nat},(∀i,i<n->f i=g i)->sm n f=sm n g
 |0,_=>rfl
 |n+1,h=>by simp only[sm];rw[F3 (n:=n) (fun i hi=>h i (by omega)),h n (by omega)]
structure UY (k p:Int) (w:Nat):Prop where
 ck:k=7\/k=8
 cp:2<=p/\p<=1000003
 cw:1<=w/\w<=6
 w8:k=8->w=4
theorem acA {k p n:Int} (h:CQ (k,p,n)=true) (hk:k=7\/k=8):UY k p (iV (k,p,n)):=by
 have hw:=amR h
 refine⟨hk,?_,hw.2,fun e=>by subst e;rfl⟩
 rcases Rx h with⟨rfl,rfl,rfl⟩|⟨rfl,hp,rfl⟩|⟨rfl,hp,rfl⟩|⟨rfl,hp,rfl⟩|⟨rfl,hp,rfl⟩|⟨rfl,rfl,hn⟩|⟨rfl,hp,hn⟩|⟨rfl,hp,rZ,rfl⟩
 all_goals first|exact tN hp|(exfalso;omega)
theorem aiL {r:Int×Int×Int} {a b:Int} (h:¬(r.1=7\/r.1=8)):JS r [a] [b]=[Q6 r a b]:=by simp only[JS];rw[if_neg h];rfl
theorem aj0 (k p n:Int):CB (k,p,n)=oM (iV (k,p,n)) fun j=>if j=0 then(if k=4 then 0 else if k=5\/k=6 then mR (k,p,n) else 1) else 0:=by
 simp only[CB]
 rw[ams]
 exact amt _ 0 _
end Go.Am
end
section
namespace Go.Am
def Cu (x:Int×Int):Prop:=(0<=x.1/\x.1<=4096)/\(0<=x.2/\x.2<=4096)/\x.1*x.2<=1048576
instance (x:Int×Int):Decidable (Cu x):=by unfold Cu;infer_instance
def yE:Int×Int->Option (Int×Int×List Int):=fun(x:Int×Int)=>if Cu x then some (x.1,x.2,aA x.1.toNat x.2.toNat fun _ _=>0) else none
def yA:Int×Int->Option (Int×Int×List Int):=fun(x:Int×Int)=>if Cu x then some (x.1,x.2,aA x.1.toNat x.2.toNat fun _ _=>0) else none
def kP:(Int×Int×List Int)×Int×Int->Option Int:=fun(x:(Int×Int×List Int)×Int×Int)=>
 if nC x.1/\(0<=x.2.1/\x.2.1<x.1.1)/\(0<=x.2.2/\x.2.2<x.1.2.1) then some (fD x.1.2.1.toNat x.1.2.2 x.2.1.toNat x.2.2.toNat) else none
def rz:(Int×Int×List Int)×Int×Int×Int->Option (List Int):=fun(x:(Int×Int×List Int)×Int×Int×Int)=>
 if nC x.1/\(0<=x.2.1/\x.2.1<x.1.1)/\(0<=x.2.2.1/\x.2.2.1<x.1.2.1) then some (aA x.1.1.toNat x.1.2.1.toNat (lP (fD x.1.2.1.toNat x.1.2.2) x.2.1.toNat x.2.2.1.toNat x.2.2.2)) else none
def fh (M:Nat->Nat->Int) (a b:Nat):Nat->Nat->Int:=fun i j=>if i=a then M b j else if i=b then M a j else M i j
def sO:(Int×Int×List Int)×Int×Int->Option (List Int):=fun(x:(Int×Int×List Int)×Int×Int)=>
 if nC x.1/\(0<=x.2.1/\x.2.1<x.1.1)/\(0<=x.2.2/\x.2.2<x.1.1) then some (aA x.1.1.toNat x.1.2.1.toNat (fh (fD x.1.2.1.toNat x.1.2.2) x.2.1.toNat x.2.2.toNat)) else none
def Aw:(Int×Int×List Int)×Int×Int->Option (List Int):=sO
def o9 (p:Int) (M:Nat->Nat->Int) (i k:Nat) (f:Int):Nat->Nat->Int:=fun a j=>if a=i then(M i j+f*M k j)%p else M a j
def yy:(Int×Int×List Int)×Int×Int×Int×Int->Option (List Int):=fun(x:(Int×Int×List Int)×Int×Int×Int×Int)=>
 if nC x.1/\dG x.2.1/\(0<=x.2.2.1/\x.2.2.1<x.1.1)/\(0<=x.2.2.2.1/\x.2.2.2.1<x.1.1)/\(0<=x.2.2.2.2/\x.2.2.2.2<=x.2.1)/\gG x.2.1 x.1.2.2 then
  some (aA x.1.1.toNat x.1.2.1.toNat (o9 x.2.1 (fD x.1.2.1.toNat x.1.2.2) x.2.2.1.toNat x.2.2.2.1.toNat x.2.2.2.2)) else none
def yD:Int×(Int×Int×List Int)×Int×Int×Int->Option (List Int):=fun(x:Int×(Int×Int×List Int)×Int×Int×Int)=>
 if nC x.2.1/\dG x.1/\(0<=x.2.2.1/\x.2.2.1<x.2.1.1)/\(0<=x.2.2.2.1/\x.2.2.2.1<x.2.1.1)/\(0<=x.2.2.2.2/\x.2.2.2.2<=x.1)/\gG x.1 x.2.1.2.2 then
  some (aA x.2.1.1.toNat x.2.1.2.1.toNat (o9 x.1 (fD x.2.1.2.1.toNat x.2.1.2.2) x.2.2.1.toNat x.2.2.2.1.toNat (x.1 - x.2.2.2.2))) else none
def iQ (M:Nat->Nat->Int) (j:Nat):Nat->Nat->Option Nat
 |0,_=>none
 |d+1,k=>if M k j=0 then iQ M j d (k+1) else some k
def vU (o:Option Nat):Int:=match o with|some k=>(k:Int)|none=> -1
def yF:(Int×Int×List Int)×Int×Int->Option Int:=fun(x:(Int×Int×List Int)×Int×Int)=>
 if nC x.1/\(0<=x.2.1/\x.2.1<=x.1.1)/\(0<=x.2.2/\x.2.2<x.1.2.1) then some (vU (iQ (fD x.1.2.1.toNat x.1.2.2) x.2.2.toNat (x.1.1 - x.2.1).toNat x.2.1.toNat)) else none
def ir (p out x:Int) (n:Nat):Int:=if h:n=0 then out else ir p (if n%2=1 then out*x%p else out) (x*x%p) (n/2)
termination_by n
decreasing_by omega
def wD:Int×Int->Option Int:=fun(x:Int×Int)=>if dG x.1/\f0 x.1 x.2 then some (ir x.1 1 x.2 (x.1 - 2).toNat) else none
def Ay:Int×Int->Option Int:=wD
def qd:List Int->Option (List Int):=fun(l:List Int)=>if l.length<=1099511627776 then some l else none
def qb:List Int->Option (List Int):=fun(l:List Int)=>if l.length<=1099511627776 then some l else none
def Ax:Int×Int×List Int->Option (Int×Int×List Int):=fun(x:Int×Int×List Int)=>if x.2.2.length<=1099511627776 then some x else none
def Fp (x:Int×(Int×Int×List Int)×(Int×Int×List Int)):Prop:=dG x.1/\nC x.2.1/\nC x.2.2/\x.2.1.2.1=x.2.2.1/\x.2.1.1*x.2.2.2.1<=1048576/\gG x.1 x.2.1.2.2/\gG x.1 x.2.2.2.2
instance (x:Int×(Int×Int×List Int)×(Int×Int×List Int)):Decidable (Fp x):=by unfold Fp;infer_instance
def qf:Int×(Int×Int×List Int)×(Int×Int×List Int)->Option (Int×Int×List Int):=fun(x:Int×(Int×Int×List Int)×(Int×Int×List Int))=>
 if Fp x then some (x.2.1.1,x.2.2.2.1,aA x.2.1.1.toNat x.2.2.2.1.toNat (g0 x.1 x.2.1.2.1.toNat (fD x.2.1.2.1.toNat x.2.1.2.2) (fD x.2.2.2.1.toNat x.2.2.2.2))) else none
def Az:Int×(Int×Int×List Int)×(Int×Int×List Int)->Option (Int×Int×List Int):=qf
def HL:aq:=[(.one,[.int .i64]),(.one,[.int .i64])]
def Ss:aq:=[(.agg,[.int .i64,.int .i64,.list [.int .i64]])]
def aiE:aN:=[]
def G8:aq:=[(.one,[.int .i64]),(.one,[.int .i64])]
def RQ:aq:=[(.agg,[.int .i64,.int .i64,.list [.int .i64]])]
def ah8:aN:=[]
def HH:aq:=[(.one,[.list [.int .i64]])]
def So:aq:=[(.one,[.list [.int .i64]])]
def aiB:aN:=[]
def G6:aq:=[(.one,[.list [.int .i64]])]
def RO:aq:=[(.one,[.list [.int .i64]])]
def ah6:aN:=[]
def G7:aq:=[(.agg,[.int .i64,.int .i64,.list [.int .i64]])]
def RP:aq:=[(.agg,[.int .i64,.int .i64,.list [.int .i64]])]
def ah7:aN:=[]
def GZ:aq:=[(.agg,[.int .i64,.int .i64,.list [.int .i64]]),(.one,[.int .i64]),(.one,[.int .i64])]
def RJ:aq:=[(.one,[.int .i64])]
def ah4:aN:=[]
def G0:aq:=[(.agg,[.int .i64,.int .i64,.list [.int .i64]]),(.one,[.int .i64]),(.one,[.int .i64]),(.one,[.int .i64])]
def RL:aq:=[(.one,[.list [.int .i64]])]
def JK:aN:=[[none,none,some .af]]
def HO:aq:=[(.agg,[.int .i64,.int .i64,.list [.int .i64]]),(.one,[.int .i64]),(.one,[.int .i64])]
def Sw:aq:=[(.one,[.list [.int .i64]])]
def JR:aN:=[[none,none,some .af]]
def G4:aq:=[(.agg,[.int .i64,.int .i64,.list [.int .i64]]),(.one,[.int .i64]),(.one,[.int .i64])]
def RM:aq:=[(.one,[.list [.int .i64]])]
def JL:aN:=[[none,none,some .af]]
def GY:aq:=[(.agg,[.int .i64,.int .i64,.list [.int .i64]]),(.one,[.int .i64]),(.one,[.int .i64]),(.one,[.int .i64]),(.one,[.int .i64])]
def RH:aq:=[(.one,[.list [.int .i64]])]
def JJ:aN:=[[none,none,some .af]]
def HI:aq:=[(.one,[.int .i64]),(.agg,[.int .i64,.int .i64,.list [.int .i64]]),(.one,[.int .i64]),(.one,[.int .i64]),(.one,[.int .i64])]
def Sp:aq:=[(.one,[.list [.int .i64]])]
def JQ:aN:=[[],[none,none,some .af]]
def HM:aq:=[(.agg,[.int .i64,.int .i64,.list [.int .i64]]),(.one,[.int .i64]),(.one,[.int .i64])]
def Su:aq:=[(.one,[.int .i64])]
def aiF:aN:=[]
def HJ:aq:=[(.one,[.int .i64]),(.one,[.int .i64])]
def Sq:aq:=[(.one,[.int .i64])]
def aiC:aN:=[]
def Ha:aq:=[(.one,[.int .i64]),(.one,[.int .i64])]
def RS:aq:=[(.one,[.int .i64])]
def aia:aN:=[]
def HK:aq:=[(.one,[.int .i64]),(.agg,[.int .i64,.int .i64,.list [.int .i64]]),(.agg,[.int .i64,.int .i64,.list [.int .i64]])]
def Sr:aq:=[(.agg,[.int .i64,.int .i64,.list [.int .i64]])]
def aiD:aN:=[]
def Hc:aq:=[(.one,[.int .i64]),(.agg,[.int .i64,.int .i64,.list [.int .i64]]),(.agg,[.int .i64,.int .i64,.list [.int .i64]])]
def RT:aq:=[(.agg,[.int .i64,.int .i64,.list [.int .i64]])]
def aib:aN:=[]
def GJ (NN:Nat):(Int×Int)->(Option (Int×(Int×(List Int)))):=
 (fun((i0,i1):(Int×Int))=>
 (xJ (dF .i64 i0 i1) (dF .i64 i0 i1) 8).U (fun k2=>
 (dH (jg k2 (0:Int)) k2).U (fun l3=>
 some (i0,i1,l3))))
def U1 (NN:Nat):(Int×Int)->(Option (Int×(Int×(List Int)))):=
 (fun((i0,i1):(Int×Int))=>
 (xJ (dF .i64 i0 i1) (dF .i64 i0 i1) 8).U (fun k2=>
 (dH (jg k2 (0:Int)) k2).U (fun l3=>
 some (i0,i1,l3))))
def LK (NN:Nat):(List Int)->(Option (List Int)):=
 (fun(l0:(List Int))=>
 (ai 0 0 (J (([]:List Int)))).U (fun _=>
 (lf (aV (J (([]:List Int))) (J l0)) 8).U (fun _=>
 (dH (cY (([]:List Int)) l0) (aV (J (([]:List Int))) (J l0))).U (fun l1=>
 some l1))))
def Lk (NN:Nat):(List Int)->(Option (List Int)):=
 (fun(l0:(List Int))=>
 (lf (aV (J (([]:List Int))) (J l0)) 8).U (fun _=>
 (dH (cY (([]:List Int)) l0) (aV (J (([]:List Int))) (J l0))).U (fun l1=>
 some l1)))
def Ll (NN:Nat):(Int×(Int×(List Int)))->(Option (Int×(Int×(List Int)))):=
 (fun((i0,i1,l2):(Int×(Int×(List Int))))=>
 (qb l2).U (fun l3=>
 (dH l3 (J l3)).U (fun l4=>
 some (i0,i1,l4))))
def Gy (NN:Nat):((Int×(Int×(List Int)))×(Int×Int))->(Option Int):=
 (fun(((i0,i1,l2),i3,i4):((Int×(Int×(List Int)))×(Int×Int)))=>
 (eX l2 (bB .i64 (dF .i64 i3 i1) i4)).U (fun i5=>
 some i5))
def Gz (NN:Nat):((Int×(Int×(List Int)))×(Int×(Int×Int)))->(Option (List Int)):=
 (fun(((i0,i1,l2),i3,i4,i5):((Int×(Int×(List Int)))×(Int×(Int×Int))))=>
 (fw (bB .i64 (dF .i64 i3 i1) i4) (J l2)).U (fun k6=>
 (dj l2 (aV 0 k6)).U (fun i7=>
 (iS (J (cK l2 (aV 0 k6) i5)) (J l2)).U (fun _=>
 some (cK l2 (aV 0 k6) i5)))))
def GM (NN:Nat):((Int×(Int×(List Int)))×(Int×Int))->(Option (List Int)):=
 (fun(((i0,i1,l2),i3,i4):((Int×(Int×(List Int)))×(Int×Int)))=>
 (ai 0 (J l2) (J l2)).U (fun _=>
 bC NN (fun(((i5,i6,i7),l8,i9,cR):((Int×(Int×Int))×((List Int)×(Int×Int))))=>
 aL (bD i7 cR)
 ((fw (bB .i64 (dF .i64 i5 cR) i7) (J l8)).U (fun Fc=>
 (dj l8 (aV 0 Fc)).U (fun eD=>
 (fw (bB .i64 (dF .i64 i6 cR) i7) (J l8)).U (fun zS=>
 (dj l8 (aV 0 zS)).U (fun eB=>
 (fw (bB .i64 (dF .i64 i5 cR) i7) (J l8)).U (fun Cl=>
 (dj l8 (aV 0 Cl)).U (fun gz=>
 (fw (bB .i64 (dF .i64 i6 cR) i7) (J l8)).U (fun Fe=>
 (dj (cK l8 (aV 0 Cl) eB) (aV 0 Fe)).U (fun ja=>
 (ai 0 (J l8) (J (cK (cK l8 (aV 0 Cl) eB) (aV 0 Fe) eD))).U (fun _=>
 some (Sum.inl ((i5,i6,bB .i64 i7 1),cK (cK l8 (aV 0 Cl) eB) (aV 0 Fe) eD,i9,cR))))))))))))
 (((iS (J l8) (J l2)).U (fun _=>
 some l8)).U (fun gQ=>
 some (Sum.inr gQ))))
 ((i3,i4,(0:Int)),l2,i0,i1)))
def GA (NN:Nat):((Int×(Int×(List Int)))×(Int×Int))->(Option (List Int)):=
 (fun(((i0,i1,l2),i3,i4):((Int×(Int×(List Int)))×(Int×Int)))=>
 (ai 0 (J l2) (J l2)).U (fun _=>
 bC NN (fun(((i5,i6,i7),l8,i9,cR):((Int×(Int×Int))×((List Int)×(Int×Int))))=>
 aL (bD i7 cR)
 ((cO l8 0 (J l8)).U (fun pJ=>
 (kP ((i9,cR,pJ),i5,i7)).U (fun eD=>
 (cO l8 0 (J l8)).U (fun kF=>
 (kP ((i9,cR,kF),i6,i7)).U (fun eB=>
 (ai 0 (J l8) (J l8)).U (fun _=>
 (rz ((i9,cR,l8),i5,i7,eB)).U (fun dn=>
 (ai 0 (J l8) (J dn)).U (fun _=>
 (rz ((i9,cR,dn),i6,i7,eD)).U (fun ft=>
 (ai 0 (J l8) (J ft)).U (fun _=>
 some (Sum.inl ((i5,i6,bB .i64 i7 1),ft,i9,cR))))))))))))
 (((iS (J l8) (J l2)).U (fun _=>
 some l8)).U (fun cu=>
 some (Sum.inr cu))))
 ((i3,i4,(0:Int)),l2,i0,i1)))
def Gx (NN:Nat):((Int×(Int×(List Int)))×(Int×(Int×(Int×Int))))->(Option (List Int)):=
 (fun(((i0,i1,l2),i3,i4,i5,i6):((Int×(Int×(List Int)))×(Int×(Int×(Int×Int)))))=>
 (ai 0 (J l2) (J l2)).U (fun _=>
 bC NN (fun(((i7,i8,i9,cR,dA),d9,fq,eB):((Int×(Int×(Int×(Int×Int))))×((List Int)×(Int×Int))))=>
 aL (bD dA eB)
 ((cO d9 0 (J d9)).U (fun dn=>
 (kP ((fq,eB,dn),i8,dA)).U (fun gz=>
 (cO d9 0 (J d9)).U (fun cu=>
 (kP ((fq,eB,cu),i9,dA)).U (fun ja=>
 (hH (bB .i64 gz (dF .i64 cR ja)) i7).U (fun fZ=>
 (ai 0 (J d9) (J d9)).U (fun _=>
 (rz ((fq,eB,d9),i8,dA,fZ)).U (fun iu=>
 (ai 0 (J d9) (J iu)).U (fun _=>
 some (Sum.inl ((i7,i8,i9,cR,bB .i64 dA 1),iu,fq,eB)))))))))))
 (((iS (J d9) (J l2)).U (fun _=>
 some d9)).U (fun qU=>
 some (Sum.inr qU))))
 ((i3,i4,i5,i6,(0:Int)),l2,i0,i1)))
def GH (NN:Nat):(Int×((Int×(Int×(List Int)))×(Int×(Int×Int))))->(Option (List Int)):=
 (fun((i0,(i1,i2,l3),i4,i5,i6):(Int×((Int×(Int×(List Int)))×(Int×(Int×Int)))))=>
 (ai 0 (J l3) (J l3)).U (fun _=>
 bC NN (fun(((i7,i8,i9,cR,dA),d9,fq,eB):((Int×(Int×(Int×(Int×Int))))×((List Int)×(Int×Int))))=>
 aL (bD dA eB)
 ((fw (bB .i64 (dF .i64 i8 eB) dA) (J d9)).U (fun Cl=>
 (dj d9 (aV 0 Cl)).U (fun gz=>
 (fw (bB .i64 (dF .i64 i9 eB) dA) (J d9)).U (fun Fe=>
 (dj d9 (aV 0 Fe)).U (fun ja=>
 (hH (bB .i64 gz (dF .i64 (lO .i64 i7 cR) ja)) i7).U (fun fZ=>
 (fw (bB .i64 (dF .i64 i8 eB) dA) (J d9)).U (fun Ps=>
 (dj d9 (aV 0 Ps)).U (fun kB=>
 (ai 0 (J d9) (J (cK d9 (aV 0 Ps) fZ))).U (fun _=>
 some (Sum.inl ((i7,i8,i9,cR,bB .i64 dA 1),cK d9 (aV 0 Ps) fZ,fq,eB)))))))))))
 (((iS (J d9) (J l3)).U (fun _=>
 some d9)).U (fun jb=>
 some (Sum.inr jb))))
 ((i0,i4,i5,i6,(0:Int)),l3,i1,i2)))
def GK (NN:Nat):((Int×(Int×(List Int)))×(Int×Int))->(Option Int):=
 (fun(((i0,i1,l2),i3,i4):((Int×(Int×(List Int)))×(Int×Int)))=>
 cI (bC NN (fun(((i5,i6),i7,i8,l9):((Int×Int)×(Int×(Int×(List Int)))))=>
 aL (bD i6 i7)
 ((eX l9 (bB .i64 (dF .i64 i6 i8) i5)).U (fun cR=>
 aL (dU cR (0:Int))
 (some (Sum.inr (Sum.inr i6)))
 (some (Sum.inl ((i5,bB .i64 i6 1),i7,i8,l9)))))
 (some (Sum.inr (Sum.inl ()))))
 ((i4,i3),i0,i1,l2))
 (fun _=>
 some ((-1:Int))))
def LM (NN:Nat):(Int×Int)->(Option Int):=
 (fun((i0,i1):(Int×Int))=>
 cI (bC NN (fun((i2,i3,i4,i5):(Int×(Int×(Int×Int))))=>
 aL (bD (0:Int) i5)
 ((hH i5 (2:Int)).U (fun i6=>
 cI (aL (k8 i6 (1:Int))
 ((hH (dF .i64 i4 i3) i2).U (fun i7=>
 some (Sum.inl (i3,i5,i2,i7))))
 (some (Sum.inl (i3,i5,i2,i4))))
 (fun(i8,i9,cR,dA)=>
 (hH (dF .i64 i8 i8) cR).U (fun eD=>
 (FC .i64 i9 (2:Int)).U (fun fq=>
 some (Sum.inl (cR,eD,dA,fq)))))))
 (some (Sum.inr (Sum.inl i4))))
 (i0,i1,(1:Int),lO .i64 i0 2))
 (fun eB=>
 some eB))
def Ln (NN:Nat):(Int×Int)->(Option Int):=
 (fun((i0,i1):(Int×Int))=>
 cI (bC NN (fun((i2,i3,i4,i5):(Int×(Int×(Int×Int))))=>
 aL (bD (0:Int) i5)
 (cI (aL (k8 (HW .i64 i5 (1:Int)) (1:Int))
 ((hH (dF .i64 i4 i3) i2).U (fun i6=>
 some (Sum.inl (i3,i5,i2,i6))))
 (some (Sum.inl (i3,i5,i2,i4))))
 (fun(i7,i8,i9,cR)=>
 (hH (dF .i64 i7 i7) i9).U (fun dA=>
 (CY .i64 i8 (1:Int)).U (fun eD=>
 some (Sum.inl (i9,dA,cR,eD))))))
 (some (Sum.inr (Sum.inl i4))))
 (i0,i1,(1:Int),lO .i64 i0 2))
 (fun fq=>
 some fq))
def GI (NN:Nat):(Int×((Int×(Int×(List Int)))×(Int×(Int×(List Int)))))->(Option (Int×(Int×(List Int)))):=
 (fun((i0,(i1,i2,l3),i4,i5,l6):(Int×((Int×(Int×(List Int)))×(Int×(Int×(List Int))))))=>
 (yE (i1,i5)).U (fun(i7,i8,l9)=>
 cI ((ai 0 0 (J (([]:List Int)))).U (fun _=>
 (ai 0 (J l9) (J l9)).U (fun _=>
 bC NN (fun(((cR,dA),(eD,fq,ju),(lD,gz,cu),(ja,fZ),(kA,kB),jb,eE):((Int×Int)×((Int×(Int×(List Int)))×((Int×(Int×(List Int)))×((Int×Int)×((Int×Int)×((List Int)×(List Int))))))))=>
 aL (bD dA eD)
 (cI ((ai 0 (J jb) (J jb)).U (fun _=>
 (ai 0 (J eE) (J eE)).U (fun _=>
 bC NN (fun(((tG,r6,pB),(nt,ot,nw),(xp,pC,jv),(vB,vC),(xq,r7),mF,nz):((Int×(Int×Int))×((Int×(Int×(List Int)))×((Int×(Int×(List Int)))×((Int×Int)×((Int×Int)×((List Int)×(List Int))))))))=>
 aL (bD pB pC)
 (cI (cI ((ai 0 (J mF) (J mF)).U (fun _=>
 (ai 0 (J nz) (J nz)).U (fun _=>
 bC NN (fun(((qP,r9,tH,vD,kC),(lF,j5,vH),(kD,lG,oB),(mC,nu),(ou,pD),fI,fe):((Int×(Int×(Int×(Int×Int))))×((Int×(Int×(List Int)))×((Int×(Int×(List Int)))×((Int×Int)×((Int×Int)×((List Int)×(List Int))))))))=>
 aL (bD kC j5)
 ((eX vH (bB .i64 (dF .i64 r9 j5) kC)).U (fun Jm=>
 (eX oB (bB .i64 (dF .i64 kC lG) tH)).U (fun vE=>
 (hH (bB .i64 vD (dF .i64 Jm vE)) qP).U (fun sa=>
 (ai 0 (J fI) (J fI)).U (fun _=>
 (ai 0 (J fe) (J fe)).U (fun _=>
 some (Sum.inl ((qP,r9,tH,sa,bB .i64 kC 1),(lF,j5,vH),(kD,lG,oB),(mC,nu),(ou,pD),fI,fe))))))))
 (((ai 0 (J fI) (J fI)).U (fun _=>
 (ai 0 (J fe) (J fe)).U (fun _=>
 some (Sum.inl ((vD,tH,qP,r9),(lF,j5,vH),(kD,lG,oB),(mC,nu),(ou,pD),fI,fe))))).U (fun Fg=>
 some (Sum.inr Fg))))
 ((tG,r6,pB,(0:Int),(0:Int)),(nt,ot,nw),(xp,pC,jv),(vB,vC),(xq,r7),mF,nz))))
 (fun((pE,ES,ET,vF),(i64,zG,vL),(zH,Cc,Fh),(zI,zJ),(xr,pF),pK,mH)=>
 (fw (bB .i64 (dF .i64 vF Cc) ES) (J mH)).U (fun Pu=>
 (dj mH (aV 0 Pu)).U (fun pH=>
 (ai 0 (J pK) (J pK)).U (fun _=>
 (ai 0 (J mH) (J (cK mH (aV 0 Pu) pE))).U (fun _=>
 some (Sum.inl ((ES,ET,vF),(i64,zG,vL),(zH,Cc,Fh),(zI,zJ),(xr,pF),pK,cK mH (aV 0 Pu) pE))))))))
 (fun((nv,j7,jN),(xt,Ce,jd),(zK,zL,Fk),(qQ,EV),(Pa,Jn),vM,Fl)=>
 (ai 0 (J vM) (J vM)).U (fun _=>
 (ai 0 (J Fl) (J Fl)).U (fun _=>
 some (Sum.inl ((j7,jN,bB .i64 nv 1),(xt,Ce,jd),(zK,zL,Fk),(qQ,EV),(Pa,Jn),vM,Fl))))))
 (((ai 0 (J mF) (J mF)).U (fun _=>
 (ai 0 (J nz) (J nz)).U (fun _=>
 some (Sum.inl ((r6,tG),(nt,ot,nw),(xp,pC,jv),(vB,vC),(xq,r7),mF,nz))))).U (fun JA=>
 some (Sum.inr JA))))
 ((cR,dA,(0:Int)),(eD,fq,ju),(lD,gz,cu),(ja,fZ),(kA,kB),jb,eE))))
 (fun((zM,tK),(EY,Pb,qY),(EZ,O4,ahI),(xo,vz),(vA,O5),kE,j8)=>
 (ai 0 (J kE) (J kE)).U (fun _=>
 (ai 0 (J j8) (J j8)).U (fun _=>
 some (Sum.inl ((tK,bB .i64 zM 1),(EY,Pb,qY),(EZ,O4,ahI),(xo,vz),(vA,O5),kE,j8))))))
 (((ai 0 (J jb) (J jb)).U (fun _=>
 (ai 0 (J eE) (J eE)).U (fun _=>
 some (Sum.inl ((ja,fZ),(kA,kB),jb,eE))))).U (fun qT=>
 some (Sum.inr qT))))
 ((i0,(0:Int)),(i1,i2,l3),(i4,i5,l6),((0:Int),(0:Int)),(i7,i8),([]:List Int),l9))))
 (fun((O6,EO),(Ca,EP),Px,zT)=>
 (dH zT (J zT)).U (fun Jw=>
 some (Ca,EP,Jw)))))
def GC (NN:Nat):(Int×((Int×(Int×(List Int)))×(Int×(Int×(List Int)))))->(Option (Int×(Int×(List Int)))):=
 (fun((i0,(i1,i2,l3),i4,i5,l6):(Int×((Int×(Int×(List Int)))×(Int×(Int×(List Int))))))=>
 (yA (i1,i5)).U (fun(i7,i8,l9)=>
 cI ((ai 0 0 (J (([]:List Int)))).U (fun _=>
 (ai 0 (J l9) (J l9)).U (fun _=>
 bC NN (fun(((cR,dA),(eD,fq,ju),(lD,gz,cu),(ja,fZ),(kA,kB),jb,eE):((Int×Int)×((Int×(Int×(List Int)))×((Int×(Int×(List Int)))×((Int×Int)×((Int×Int)×((List Int)×(List Int))))))))=>
 aL (bD dA eD)
 (cI ((ai 0 (J jb) (J jb)).U (fun _=>
 (ai 0 (J eE) (J eE)).U (fun _=>
 bC NN (fun(((tG,r6,pB),(nt,ot,nw),(xp,pC,jv),(vB,vC),(xq,r7),mF,nz):((Int×(Int×Int))×((Int×(Int×(List Int)))×((Int×(Int×(List Int)))×((Int×Int)×((Int×Int)×((List Int)×(List Int))))))))=>
 aL (bD pB pC)
 (cI (cI ((ai 0 (J mF) (J mF)).U (fun _=>
 (ai 0 (J nz) (J nz)).U (fun _=>
 bC NN (fun(((qP,r9,tH,vD,kC),(lF,j5,vH),(kD,lG,oB),(mC,nu),(ou,pD),fI,fe):((Int×(Int×(Int×(Int×Int))))×((Int×(Int×(List Int)))×((Int×(Int×(List Int)))×((Int×Int)×((Int×Int)×((List Int)×(List Int))))))))=>
 aL (bD kC j5)
 ((kP ((lF,j5,vH),r9,kC)).U (fun Jm=>
 (kP ((kD,lG,oB),kC,tH)).U (fun vE=>
 (hH (bB .i64 vD (dF .i64 Jm vE)) qP).U (fun sa=>
 (ai 0 (J fI) (J fI)).U (fun _=>
 (ai 0 (J fe) (J fe)).U (fun _=>
 some (Sum.inl ((qP,r9,tH,sa,bB .i64 kC 1),(lF,j5,vH),(kD,lG,oB),(mC,nu),(ou,pD),fI,fe))))))))
 (((ai 0 (J fI) (J fI)).U (fun _=>
 (ai 0 (J fe) (J fe)).U (fun _=>
 some (Sum.inl ((vD,tH,qP,r9),(lF,j5,vH),(kD,lG,oB),(mC,nu),(ou,pD),fI,fe))))).U (fun Fg=>
 some (Sum.inr Fg))))
 ((tG,r6,pB,(0:Int),(0:Int)),(nt,ot,nw),(xp,pC,jv),(vB,vC),(xq,r7),mF,nz))))
 (fun((pE,ES,ET,vF),(i64,zG,vL),(zH,Cc,Fh),(zI,zJ),(xr,pF),pK,mH)=>
 (ai 0 (J mH) (J mH)).U (fun _=>
 (rz ((xr,pF,mH),vF,ES,pE)).U (fun Jz=>
 (ai 0 (J pK) (J pK)).U (fun _=>
 (ai 0 (J mH) (J Jz)).U (fun _=>
 some (Sum.inl ((ES,ET,vF),(i64,zG,vL),(zH,Cc,Fh),(zI,zJ),(xr,pF),pK,Jz))))))))
 (fun((pH,nv,j7),(jN,xt,iK),(i83,zK,Fj),(Cf,qQ),(EV,Pa),nB,vM)=>
 (ai 0 (J nB) (J nB)).U (fun _=>
 (ai 0 (J vM) (J vM)).U (fun _=>
 some (Sum.inl ((nv,j7,bB .i64 pH 1),(jN,xt,iK),(i83,zK,Fj),(Cf,qQ),(EV,Pa),nB,vM))))))
 (((ai 0 (J mF) (J mF)).U (fun _=>
 (ai 0 (J nz) (J nz)).U (fun _=>
 some (Sum.inl ((r6,tG),(nt,ot,nw),(xp,pC,jv),(vB,vC),(xq,r7),mF,nz))))).U (fun Fl=>
 some (Sum.inr Fl))))
 ((cR,dA,(0:Int)),(eD,fq,ju),(lD,gz,cu),(ja,fZ),(kA,kB),jb,eE))))
 (fun((EX,zM),(tK,EY,vN),(Pc,EZ,Ff),(B9,xo),(vz,vA),xB,kE)=>
 (ai 0 (J xB) (J xB)).U (fun _=>
 (ai 0 (J kE) (J kE)).U (fun _=>
 some (Sum.inl ((zM,bB .i64 EX 1),(tK,EY,vN),(Pc,EZ,Ff),(B9,xo),(vz,vA),xB,kE))))))
 (((ai 0 (J jb) (J jb)).U (fun _=>
 (ai 0 (J eE) (J eE)).U (fun _=>
 some (Sum.inl ((ja,fZ),(kA,kB),jb,eE))))).U (fun j8=>
 some (Sum.inr j8))))
 ((i0,(0:Int)),(i1,i2,l3),(i4,i5,l6),((0:Int),(0:Int)),(i7,i8),([]:List Int),l9))))
 (fun((ank,O6),(EO,Ca),ann,Px)=>
 (dH Px (J Px)).U (fun zT=>
 some (EO,Ca,zT)))))
theorem ajO {r c:Nat} (hr:r<=4096) (hc:c<=4096) (h:r*c<=1048576):Cu ((r:Int),(c:Int)):=by
 refine⟨⟨by omega,by show(r:Int)<=4096;omega⟩,⟨by show(0:Int)<=c;omega,by show(c:Int)<=4096;omega⟩,?_⟩
 show(r:Int)*(c:Int)<=1048576
 have e:(r:Int)*(c:Int)=((r*c:Nat):Int):=by norm_cast
 omega
theorem ajN {x:Int×Int} (h:Cu x):∃r c:Nat,x=((r:Int),(c:Int))/\r<=4096/\c<=4096/\r*c<=1048576:=by
 obtain⟨r,c⟩:=x
 obtain⟨h1,h2,h3⟩:=h
 simp only at h1 h2 h3
 obtain⟨r,rfl⟩:=jP h1.1
 obtain⟨c,rfl⟩:=jP h2.1
 have e:(r:Int)*(c:Int)=((r*c:Nat):Int):=by norm_cast
 exact⟨r,c,rfl,by omega,by omega,by omega⟩
theorem Zx {r c:Nat} (hr:r<=4096) (hc:c<=4096) (h:r*c<=1048576):yE ((r:Int),(c:Int))=some ((r:Int),(c:Int),aA r c fun _ _=>0):=by
 simp only[yE,Int.toNat_natCast]
 rw[if_pos (ajO hr hc h)]
theorem Zw {r c:Nat} (hr:r<=4096) (hc:c<=4096) (h:r*c<=1048576):yA ((r:Int),(c:Int))=some ((r:Int),(c:Int),aA r c fun _ _=>0):=Zx hr hc h
theorem ae9 {r c:Nat} (hr:r<=4096) (hc:c<=4096) (h:r*c<=1048576):GJ aM ((r:Int),(c:Int))=some ((r:Int),(c:Int),aA r c fun _ _=>0):=by
 simp only[GJ]
 rw[aiO (by omega) (by omega)]
 have:=P2 (n:=r*c) (by_:=8) (by unfold e8;omega)
 rw[show((r*c:Nat):Int)=ba (r*c) from rfl,this,az,afj]
 rw[show dH (aA r c fun _ _=>0) (r*c)=some (aA r c fun _ _=>0) by
  have:=jB (aA r c fun _ _=>(0:Int))
  rwa[Cp] at this]
 rfl
theorem WI (x:Int×Int) (y:Int×Int×List Int) (h:yE x=some y):GJ aM x=some y:=by
 simp only[yE] at h
 split at h
 ·rename_i hc
  obtain⟨r,c,rfl,h1,h2,h3⟩:=ajN hc
  rw[<-h,ae9 h1 h2 h3];rfl
 ·cases h
theorem aeh (x:Int×Int) (y:Int×Int×List Int) (h:yA x=some y):U1 aM x=some y:=WI x y h
theorem aeN (x y:List Int) (h:qd x=some y):LK aM x=some y:=by
 simp only[qd] at h
 split at h
 ·rename_i hl
  rw[<-h]
  simp only[LK]
  rw[show ai 0 0 (J ([]:List Int))=some () from rfl,az,qz (by simp only[aV,J,List.length_nil,e8];omega),az]
  have:cY [] x=x:=rfl
  rw[this,show aV (J ([]:List Int)) (J x)=J x by simp[aV,J],jB]
  rfl
 ·cases h
theorem aef (x y:List Int) (h:qb x=some y):Lk aM x=some y:=by
 simp only[qb] at h
 split at h
 ·rename_i hl
  rw[<-h]
  simp only[Lk]
  rw[qz (by simp only[aV,J,List.length_nil,e8];omega),az]
  have:cY [] x=x:=rfl
  rw[this,show aV (J ([]:List Int)) (J x)=J x by simp[aV,J],jB]
  rfl
 ·cases h
theorem aeg (x y:Int×Int×List Int) (h:Ax x=some y):Ll aM x=some y:=by
 obtain⟨r,c,l⟩:=x
 simp only[Ax] at h
 split at h
 ·rename_i hl
  rw[<-h]
  simp only[Ll,qb,if_pos hl,az,jB]
 ·cases h
theorem pS {a b:Int} (h:0<=a/\a<b):∃n:Nat,a=(n:Int)/\∀m:Nat,b=(m:Int)->n<m:=⟨a.toNat,by omega,fun m hm=>by omega⟩
theorem ajJ {a b:Int} (h:0<=a/\a<=b):∃n:Nat,a=(n:Int)/\∀m:Nat,b=(m:Int)->n<=m:=⟨a.toNat,by omega,fun m hm=>by omega⟩
theorem ae4 {r c i j:Nat} {M:Nat->Nat->Int} (hr:r<=4096) (hc:c<=4096) (hi:i<r) (hj:j<c):Gy aM (((r:Int),(c:Int),aA r c M),(i:Int),(j:Int))=some (M i j):=by
 simp only[Gy]
 rw[pI (by omega) (by omega) (by omega),IM M hi hj];rfl
theorem qk {r c i j:Nat} {M:Nat->Nat->Int} (hr:r<=4096) (hc:c<=4096) (h:r*c<=1048576) (hi:i<r) (hj:j<c):kP (((r:Int),(c:Int),aA r c M),(i:Int),(j:Int))=some (M i j):=by
 simp only[kP,Int.toNat_natCast]
 rw[if_pos ⟨xI M hr hc h,by omega,by omega⟩]
 rw[nE M hi hj]
theorem aeb (x:(Int×Int×List Int)×Int×Int) (y:Int) (h:kP x=some y):Gy aM x=some y:=by
 obtain⟨m,i,j⟩:=x
 simp only[kP] at h
 split at h
 ·rename_i hc
  obtain⟨h1,h2,h3⟩:=hc
  obtain⟨r,c,M,rfl,hr,hc,dc⟩:=tU h1
  obtain⟨i,rfl,hi⟩:=pS h2
  obtain⟨j,rfl,hj⟩:=pS h3
  have hi:=hi r rfl;have hj:=hj c rfl
  rw[<-h,ae4 hr hc hi hj]
  exact congrArg some (nE M hi hj).symm
 ·cases h
theorem afg {r c i j:Nat} {M:Nat->Nat->Int} {x:Int} (hr:r<=4096) (hc:c<=4096) (hi:i<r) (hj:j<c):Gz aM (((r:Int),(c:Int),aA r c M),(i:Int),(j:Int),x)=some (aA r c (lP M i j x)):=by
 simp only[Gz]
 rw[pI (by omega) (by omega) (by omega),uH M hi hj,az,nU,uY M hi hj,az,FR M hj,FG,az]
theorem CV {r c i j:Nat} {M:Nat->Nat->Int} {x:Int} (hr:r<=4096) (hc:c<=4096) (h:r*c<=1048576) (hi:i<r) (hj:j<c):rz (((r:Int),(c:Int),aA r c M),(i:Int),(j:Int),x)=some (aA r c (lP M i j x)):=by
 simp only[rz,Int.toNat_natCast]
 rw[if_pos ⟨xI M hr hc h,by omega,by omega⟩]
 refine(congrArg some (lk fun a ha b hb=>?_))
 unfold lP
 rw[nE M ha hb]
theorem aec (x:(Int×Int×List Int)×Int×Int×Int) (y:List Int) (h:rz x=some y):Gz aM x=some y:=by
 obtain⟨m,i,j,v⟩:=x
 have h0:=h
 simp only[rz] at h
 split at h
 ·rename_i hc
  obtain⟨h1,h2,h3⟩:=hc
  obtain⟨r,c,M,rfl,hr,hc,dc⟩:=tU h1
  obtain⟨i,rfl,hi⟩:=pS h2
  obtain⟨j,rfl,hj⟩:=pS h3
  have hi:=hi r rfl;have hj:=hj c rfl
  rw[<-h0,afg hr hc hi hj,CV hr hc dc hi hj]
 ·cases h
def yn (M:Nat->Nat->Int) (a b k:Nat):Nat->Nat->Int:=fun i j=>if j<k then fh M a b i j else M i j
theorem abp (M:Nat->Nat->Int) (a b:Nat):yn M a b 0=M:=by funext i j;exact if_neg (by omega)
theorem abt {r c:Nat} (M:Nat->Nat->Int) (a b k:Nat):aA r c (lP (lP (yn M a b k) a k (M b k)) b k (M a k))=aA r c (yn M a b (k+1)):=by
 refine lk fun i _ j _=>?_
 unfold lP yn fh
 by_cases hj:j=k
 ·subst hj
  by_cases hb:i=b
  ·by_cases ha:i=a
   ·subst hb;subst ha;simp
   ·have:b≠a:=fun e=>ha (hb.trans e)
    simp[hb,this]
  ·by_cases ha:i=a
   ·have:a≠b:=fun e=>hb (ha.trans e)
    simp[ha,this]
   ·simp[ha,hb]
 ·have h1:¬(i=b/\j=k):=fun h=>hj h.2
  have h2:¬(i=a/\j=k):=fun h=>hj h.2
  rw[if_neg h1,if_neg h2]
  by_cases hk:j<k
  ·simp only[if_pos hk,if_pos (show j<k+1 by omega)]
  ·simp only[if_neg hk,if_neg (show¬j<k+1 by omega)]
theorem abq {r c:Nat} (M:Nat->Nat->Int) (a b:Nat):aA r c (yn M a b c)=aA r c (fh M a b):=lk fun i _ j hj=>if_pos hj
theorem abr (M:Nat->Nat->Int) (a b k i:Nat):yn M a b k i k=M i k:=if_neg (by omega)
theorem afi {r c a b:Nat} {M:Nat->Nat->Int} (hr:r<=4096) (hc:c<=4096) (ha:a<r) (hb:b<r):GM aM (((r:Int),(c:Int),aA r c M),(a:Int),(b:Int))=some (aA r c (fh M a b)):=by
 simp only[GM,df,az]
 refine je (fun k=>(((a:Int),(b:Int),(k:Int)),aA r c (yn M a b k),(r:Int),(c:Int))) c ?_ ?_ ?_ (ew (by omega))
 ·intro k hk
  simp only
  rw[bt (jz hk),pI (by omega) (by omega) (by omega),pI (by omega) (by omega) (by omega)]
  simp only[uH _ ha hk,uH _ hb hk,az,nU,uY _ ha hk,uY _ hb hk,FR _ hk,qC,abr,iz (show k<=1048577 by omega),abt]
 ·simp only
  rw[br (kc (Nat.le_refl c)),FG,az,az,abq]
 ·rw[abp];rfl
theorem KR {r c a b:Nat} {M:Nat->Nat->Int} (hr:r<=4096) (hc:c<=4096) (h:r*c<=1048576) (ha:a<r) (hb:b<r):sO (((r:Int),(c:Int),aA r c M),(a:Int),(b:Int))=some (aA r c (fh M a b)):=by
 simp only[sO,Int.toNat_natCast]
 rw[if_pos ⟨xI M hr hc h,by omega,by omega⟩]
 refine(congrArg some (lk fun i hi j hj=>?_))
 unfold fh
 rw[nE M hb hj,nE M ha hj,nE M hi hj]
theorem aeT (x:(Int×Int×List Int)×Int×Int) (y:List Int) (h:sO x=some y):GM aM x=some y:=by
 obtain⟨m,i,j⟩:=x
 have h0:=h
 simp only[sO] at h
 split at h
 ·rename_i hc
  obtain⟨h1,h2,h3⟩:=hc
  obtain⟨r,c,M,rfl,hr,hc,dc⟩:=tU h1
  obtain⟨i,rfl,hi⟩:=pS h2
  obtain⟨j,rfl,hj⟩:=pS h3
  have hi:=hi r rfl;have hj:=hj r rfl
  rw[<-h0,afi hr hc hi hj,KR hr hc dc hi hj]
 ·cases h
theorem afh {r c a b:Nat} {M:Nat->Nat->Int} (hr:r<=4096) (hc:c<=4096) (h:r*c<=1048576) (ha:a<r) (hb:b<r):GA aM (((r:Int),(c:Int),aA r c M),(a:Int),(b:Int))=some (aA r c (fh M a b)):=by
 simp only[GA,df,az,oP]
 refine je (fun k=>(((a:Int),(b:Int),(k:Int)),aA r c (yn M a b k),(r:Int),(c:Int))) c ?_ ?_ ?_ (ew (by omega))
 ·intro k hk
  simp only
  rw[bt (jz hk)]
  simp only[qk hr hc h ha hk,qk hr hc h hb hk,CV hr hc h ha hk,CV hr hc h hb hk,az,qC,abr,iz (show k<=1048577 by omega),abt]
 ·simp only
  rw[br (kc (Nat.le_refl c)),FG,az,az,abq]
 ·rw[abp];rfl
theorem aed (x:(Int×Int×List Int)×Int×Int) (y:List Int) (h:Aw x=some y):GA aM x=some y:=by
 obtain⟨m,i,j⟩:=x
 have h0:sO (m,i,j)=some y:=h
 simp only[Aw,sO] at h
 split at h
 ·rename_i hc
  obtain⟨h1,h2,h3⟩:=hc
  obtain⟨r,c,M,rfl,hr,hc,dc⟩:=tU h1
  obtain⟨i,rfl,hi⟩:=pS h2
  obtain⟨j,rfl,hj⟩:=pS h3
  have hi:=hi r rfl;have hj:=hj r rfl
  rw[<-h0,afh hr hc dc hi hj,KR hr hc dc hi hj]
 ·cases h
def wR (p:Int) (M:Nat->Nat->Int) (i k:Nat) (f:Int) (n:Nat):Nat->Nat->Int:=fun a j=>if j<n then o9 p M i k f a j else M a j
theorem VL (p:Int) (M:Nat->Nat->Int) (i k:Nat) (f:Int):wR p M i k f 0=M:=by funext a j;exact if_neg (by omega)
theorem VP {r c:Nat} (p:Int) (M:Nat->Nat->Int) (i k:Nat) (f:Int) (n:Nat):aA r c (lP (wR p M i k f n) i n ((M i n+f*M k n)%p))=aA r c (wR p M i k f (n+1)):=by
 refine lk fun a _ j _=>?_
 unfold lP wR o9
 by_cases hj:j=n
 ·subst hj
  by_cases ha:a=i
  ·subst ha;simp
  ·simp[ha]
 ·rw[if_neg (fun h=>hj h.2)]
  by_cases hk:j<n
  ·simp only[if_pos hk,if_pos (show j<n+1 by omega)]
  ·simp only[if_neg hk,if_neg (show¬j<n+1 by omega)]
theorem VM {r c:Nat} (p:Int) (M:Nat->Nat->Int) (i k:Nat) (f:Int):aA r c (wR p M i k f c)=aA r c (o9 p M i k f):=lk fun a _ j hj=>if_pos hj
theorem VN (p:Int) (M:Nat->Nat->Int) (i k:Nat) (f:Int) (n a:Nat):wR p M i k f n a n=M a n:=if_neg (by omega)
theorem ae3 {p f:Int} {r c i k:Nat} {M:Nat->Nat->Int} (hp:dG p) (hr:r<=4096) (hc:c<=4096) (h:r*c<=1048576) (hi:i<r) (hk:k<r) (hf:0<=f/\f<=p) (hM:d8 p r c M):
  Gx aM (((r:Int),(c:Int),aA r c M),p,(i:Int),(k:Int),f)=some (aA r c (o9 p M i k f)):=by
 simp only[Gx,df,az,oP]
 refine je (fun n=>((p,(i:Int),(k:Int),f,(n:Int)),aA r c (wR p M i k f n),(r:Int),(c:Int))) c ?_ ?_ ?_ (ew (by omega))
 ·intro n hn
  simp only
  rw[bt (jz hn)]
  have h1:=hM i hi n hn
  simp only[qk hr hc h hi hn,qk hr hc h hk hn,az,VN,JE hp (h1.s hp) hf (hM k hk n hn).le,CV hr hc h hi hn,qC,iz (show n<=1048577 by omega),VP]
 ·simp only
  rw[br (kc (Nat.le_refl c)),FG,az,az,VM]
 ·rw[VL];rfl
theorem Vd {p f:Int} {r c i k:Nat} {M:Nat->Nat->Int} (hp:dG p) (hr:r<=4096) (hc:c<=4096) (h:r*c<=1048576) (hi:i<r) (hk:k<r) (hf:0<=f/\f<=p) (hM:d8 p r c M):
  yy (((r:Int),(c:Int),aA r c M),p,(i:Int),(k:Int),f)=some (aA r c (o9 p M i k f)):=by
 simp only[yy,Int.toNat_natCast]
 rw[if_pos ⟨xI M hr hc h,hp,by omega,by omega,hf,nV.2 hM⟩]
 refine(congrArg some (lk fun a ha j hj=>?_))
 unfold o9
 rw[nE M hi hj,nE M hk hj,nE M ha hj]
theorem aea (x:(Int×Int×List Int)×Int×Int×Int×Int) (y:List Int) (h:yy x=some y):Gx aM x=some y:=by
 obtain⟨m,p,i,k,f⟩:=x
 have h0:=h
 simp only[yy] at h
 split at h
 ·rename_i hc
  obtain⟨h1,hp,h2,h3,hf,hM⟩:=hc
  obtain⟨r,c,M,rfl,hr,hc,dc⟩:=tU h1
  obtain⟨i,rfl,hi⟩:=pS h2
  obtain⟨k,rfl,hk⟩:=pS h3
  have hi:=hi r rfl;have hk:=hk r rfl
  have hM:=nV.1 hM
  rw[<-h0,ae3 hp hr hc dc hi hk hf hM,Vd hp hr hc dc hi hk hf hM]
 ·cases h
theorem ae6 {p x:Int} {r c i k:Nat} {M:Nat->Nat->Int} (hp:dG p) (hr:r<=4096) (hc:c<=4096) (hi:i<r) (hk:k<r) (hf:0<=x/\x<=p) (hM:d8 p r c M):
  GH aM (p,((r:Int),(c:Int),aA r c M),(i:Int),(k:Int),x)=some (aA r c (o9 p M i k (p - x))):=by
 simp only[GH,df,az]
 have rZ:=hp.2
 refine je (fun n=>((p,(i:Int),(k:Int),x,(n:Int)),aA r c (wR p M i k (p - x) n),(r:Int),(c:Int))) c ?_ ?_ ?_ (ew (by omega))
 ·intro n hn
  simp only
  rw[bt (jz hn),pI (by omega) (by omega) (by omega),pI (by omega) (by omega) (by omega),sD (by omega) (by omega)]
  have h1:=hM i hi n hn
  simp only[uH _ hi hn,uH _ hk hn,az,nU,uY _ hi hn,uY _ hk hn,VN,JE hp (h1.s hp) (show 0<=p - x/\p - x<=p by omega) (hM k hk n hn).le,FR _ hn,qC,iz (show n<=1048577 by omega),VP]
 ·simp only
  rw[br (kc (Nat.le_refl c)),FG,az,az,VM]
 ·rw[VL];rfl
theorem VO {p x:Int} {r c i k:Nat} {M:Nat->Nat->Int} (hp:dG p) (hr:r<=4096) (hc:c<=4096) (h:r*c<=1048576) (hi:i<r) (hk:k<r) (hf:0<=x/\x<=p) (hM:d8 p r c M):
  yD (p,((r:Int),(c:Int),aA r c M),(i:Int),(k:Int),x)=some (aA r c (o9 p M i k (p - x))):=by
 simp only[yD,Int.toNat_natCast]
 rw[if_pos ⟨xI M hr hc h,hp,by omega,by omega,hf,nV.2 hM⟩]
 refine(congrArg some (lk fun a ha j hj=>?_))
 unfold o9
 rw[nE M hi hj,nE M hk hj,nE M ha hj]
theorem aeO (x:Int×(Int×Int×List Int)×Int×Int×Int) (y:List Int) (h:yD x=some y):GH aM x=some y:=by
 obtain⟨p,m,i,k,f⟩:=x
 have h0:=h
 simp only[yD] at h
 split at h
 ·rename_i hc
  obtain⟨h1,hp,h2,h3,hf,hM⟩:=hc
  obtain⟨r,c,M,rfl,hr,hc,dc⟩:=tU h1
  obtain⟨i,rfl,hi⟩:=pS h2
  obtain⟨k,rfl,hk⟩:=pS h3
  have hi:=hi r rfl;have hk:=hk r rfl
  have hM:=nV.1 hM
  rw[<-h0,ae6 hp hr hc hi hk hf hM,VO hp hr hc dc hi hk hf hM]
 ·cases h
theorem akO {r c i j:Nat} {M:Nat->Nat->Int} {f:((Int×Int)×Int×Int×List Int)->Option (((Int×Int)×Int×Int×List Int)⊕(Unit⊕Int))}
  (h1:∀k,k<r->f (((j:Int),(k:Int)),(r:Int),(c:Int),aA r c M)=if M k j=0 then some (.inl (((j:Int),((k+1:Nat):Int)),(r:Int),(c:Int),aA r c M)) else some (.inr (.inr (k:Int))))
  (h2:f (((j:Int),(r:Int)),(r:Int),(c:Int),aA r c M)=some (.inr (.inl ()))):
  ∀(d k:Nat),k+d=r->∀N,d<N->bC N f (((j:Int),(k:Int)),(r:Int),(c:Int),aA r c M)=some (match iQ M j d k with|some q=>.inr (q:Int)|none=>.inl ()):=by
 intro d
 induction d with
 |zero=>
  intro k hk N hN
  obtain⟨N,rfl⟩:∃m,N=m+1:=⟨N - 1,by omega⟩
  have:k=r:=by omega
  subst this
  simp only[bC,h2,iQ]
 |succ d ih=>
  intro k hk N hN
  obtain⟨N,rfl⟩:∃m,N=m+1:=⟨N - 1,by omega⟩
  simp only[bC,h1 k (by omega),iQ]
  by_cases h0:M k j=0
  ·rw[if_pos h0,if_pos h0]
   exact ih (k+1) (by omega) N (by omega)
  ·rw[if_neg h0,if_neg h0]
theorem ZL {M M':Nat->Nat->Int} {j:Nat}:∀(d k:Nat),(∀i,k<=i->i<k+d->M i j=M' i j)->iQ M j d k=iQ M' j d k
 |0,k,_=>rfl
 |d+1,k,h=>by
  simp only[iQ]
  rw[h k (by omega) (by omega),ZL d (k+1) fun i h1 h2=>h i (by omega) (by omega)]
theorem FA {M:Nat->Nat->Int} {j q:Nat}:∀{d k:Nat},iQ M j d k=some q->k<=q/\q<k+d/\M q j≠0
 |0,k,h=>by cases h
 |d+1,k,h=>by
  simp only[iQ] at h
  split at h
  ·have:=FA h
   exact⟨by omega,by omega,this.2.2⟩
  ·rename_i h0
   injection h with h
   subst h
   exact⟨by omega,by omega,h0⟩
theorem afa {r c i j:Nat} {M:Nat->Nat->Int} (hr:r<=4096) (hc:c<=4096) (hi:i<=r) (hj:j<c):GK aM (((r:Int),(c:Int),aA r c M),(i:Int),(j:Int))=some (vU (iQ M j (r - i) i)):=by
 simp only[GK]
 rw[akO (M:=M) (r:=r) (c:=c) (i:=i) (j:=j) ?_ ?_ (r - i) i (by omega) aM (ew (by omega))]
 ·cases iQ M j (r - i) i with
  |none=>rfl
  |some q=>rfl
 ·intro k hk
  simp only
  rw[bt (jz hk),pI (by omega) (by omega) (by omega),IM M hk hj,az,iz (by omega)]
  by_cases h0:M k j=0
  ·rw[if_pos h0,br (lM h0)]
  ·rw[if_neg h0,bt (oF h0)]
 ·simp only
  rw[br (kc (Nat.le_refl r))]
theorem ZM {r c i j:Nat} {M:Nat->Nat->Int} (hr:r<=4096) (hc:c<=4096) (h:r*c<=1048576) (hi:i<=r) (hj:j<c):yF (((r:Int),(c:Int),aA r c M),(i:Int),(j:Int))=some (vU (iQ M j (r - i) i)):=by
 simp only[yF,Int.toNat_natCast]
 rw[if_pos ⟨xI M hr hc h,by omega,by omega⟩]
 rw[show((r:Int) - (i:Int)).toNat=r - i by omega]
 rw[ZL (M':=M) (r - i) i fun a h1 h2=>nE M (by omega) hj]
theorem aeR (x:(Int×Int×List Int)×Int×Int) (y:Int) (h:yF x=some y):GK aM x=some y:=by
 obtain⟨m,i,j⟩:=x
 have h0:=h
 simp only[yF] at h
 split at h
 ·rename_i hc
  obtain⟨h1,h2,h3⟩:=hc
  obtain⟨r,c,M,rfl,hr,hc,dc⟩:=tU h1
  obtain⟨i,rfl,hi⟩:=ajJ h2
  obtain⟨j,rfl,hj⟩:=pS h3
  have hi:=hi r rfl;have hj:=hj c rfl
  rw[<-h0,afa hr hc hi hj,ZM hr hc dc hi hj]
 ·cases h
theorem Jq (p out x:Int):ir p out x 0=out:=by rw[ir];rfl
theorem Jr {n:Nat} (h:n≠0) (p out x:Int):ir p out x n=ir p (if n%2=1 then out*x%p else out) (x*x%p) (n/2):=by
 rw[ir,dif_neg h]
theorem Yy {p:Int} (hp:dG p):∀(n:Nat) (out x:Int),f0 p out->f0 p (ir p out x n):=by
 intro n
 induction n using Nat.strongRecOn with
 |ind n ih=>
  intro out x ho
  by_cases h:n=0
  ·subst h;rw[Jq];exact ho
  ·rw[Jr h]
   refine ih (n/2) (by omega) _ _ ?_
   split
   ·exact tg hp _
   ·exact ho
theorem YA {p out x:Int} {n:Nat} {Y:Type} {o:Option (Int×Int×Int×Int⊕Y)} (k:Int×Int×Int×Int->Option Y) (b:Bool) (hb:b=decide (n%2=1)) (hp:dG p) (ho:f0 p out) (hx:f0 p x):
  cI (aL b ((hH (dF .i64 out x) p).U fun i=>some (Sum.inl (x,(n:Int),p,i))) (some (Sum.inl (x,(n:Int),p,out)))) k=k (x,(n:Int),p,if n%2=1 then out*x%p else out):=by
 subst hb
 by_cases h:n%2=1
 ·rw[bt (decide_eq_true h),Ct hp ho.le hx.le,az,eI,if_pos h]
 ·rw[br (decide_eq_false h),eI,if_neg h]
theorem aeP (x:Int×Int) (y:Int) (h:wD x=some y):LM aM x=some y:=by
 obtain⟨p,x⟩:=x
 simp only[wD] at h
 split at h
 ·rename_i hc
  obtain⟨hp,hx⟩:=hc
  have qL:=hp.1;have rZ:=hp.2
  obtain⟨n,hn⟩:=jP (show 0<=p - 2 by omega)
  rw[<-h]
  simp only[LM]
  rw[sD (by omega) (by omega),hn,Int.toNat_natCast]
  rw[JD (r:=Sum.inl (ir p 1 x n)) (fun m s=>∃out x':Int,s=(p,x',out,(m:Int))/\m<=n/\f0 p out/\f0 p x'/\ir p out x' m=ir p 1 x n) ?_ n _ ⟨1,x,rfl,by omega,⟨by omega,by omega⟩,hx,rfl⟩ aM (ew (by omega))]
  ·rw[eI]
  ·rintro m s ⟨out,x',rfl,hm,ho,eZ,he⟩
   simp only
   by_cases h0:m=0
   ·subst h0
    left
    rw[br (ff (by omega)),<-he,Jq]
   ·right
    refine⟨m/2,_,by omega,?_,if m%2=1 then out*x'%p else out,x'*x'%p,rfl,by omega,?_,tg hp _,by rw[<-he,Jr h0]⟩
    ·rw[bt (gC (by omega)),Kc (by omega) (by omega),az]
     have hb:k8 ((m:Int)%2) 1=decide (m%2=1):=by
      by_cases h1:m%2=1
      ·rw[y3 (by omega),decide_eq_true h1]
      ·rw[yZ (by omega),decide_eq_false h1]
     rw[YA (o:=none) _ _ hb hp ho eZ]
     simp only
     rw[Ct hp eZ.le eZ.le,az]
     have hq:FC .i64 (m:Int) 2=some ((m/2:Nat):Int):=by
      unfold FC
      rw[if_neg (by omega),Int.tdiv_eq_ediv_of_nonneg (by omega),As (by omega) (by omega)]
      congr 1
     rw[hq,az]
    ·split
     ·exact tg hp _
     ·exact ho
 ·cases h
theorem aej (x:Int×Int) (y:Int) (h:Ay x=some y):Ln aM x=some y:=by
 obtain⟨p,x⟩:=x
 simp only[Ay,wD] at h
 split at h
 ·rename_i hc
  obtain⟨hp,hx⟩:=hc
  have qL:=hp.1;have rZ:=hp.2
  obtain⟨n,hn⟩:=jP (show 0<=p - 2 by omega)
  rw[<-h]
  simp only[Ln]
  rw[sD (by omega) (by omega),hn,Int.toNat_natCast]
  rw[JD (r:=Sum.inl (ir p 1 x n)) (fun m s=>∃out x':Int,s=(p,x',out,(m:Int))/\m<=n/\f0 p out/\f0 p x'/\ir p out x' m=ir p 1 x n) ?_ n _ ⟨1,x,rfl,by omega,⟨by omega,by omega⟩,hx,rfl⟩ aM (ew (by omega))]
  ·rw[eI]
  ·rintro m s ⟨out,x',rfl,hm,ho,eZ,he⟩
   simp only
   by_cases h0:m=0
   ·subst h0
    left
    rw[br (ff (by omega)),<-he,Jq]
   ·right
    refine⟨m/2,_,by omega,?_,if m%2=1 then out*x'%p else out,x'*x'%p,rfl,by omega,?_,tg hp _,by rw[<-he,Jr h0]⟩
    ·rw[bt (gC (by omega))]
     have hb:k8 (HW .i64 (m:Int) 1) 1=decide (m%2=1):=by
      rw[show(1:Int)=((1:Nat):Int) from rfl,ab3 (by omega) (by omega),Nat.and_one_is_mod]
      by_cases h1:m%2=1
      ·rw[y3 (by omega),decide_eq_true h1]
      ·rw[yZ (by omega),decide_eq_false h1]
     rw[YA (o:=none) _ _ hb hp ho eZ]
     simp only
     rw[Ct hp eZ.le eZ.le,az]
     have hq:CY .i64 (m:Int) 1=some ((m/2:Nat):Int):=by
      rw[show(1:Int)=((1:Nat):Int) from rfl,alT (by omega),Nat.shiftRight_eq_div_pow]
     rw[hq,az]
    ·split
     ·exact tg hp _
     ·exact ho
 ·cases h
def kG (W:Nat->Nat->Int) (i j:Nat):Nat->Nat->Int:=fun a b=>if a<i\/a=i/\b<j then W a b else 0
theorem Zo {r c:Nat} (W:Nat->Nat->Int) (i j:Nat):aA r c (lP (kG W i j) i j (W i j))=aA r c (kG W i (j+1)):=by
 refine lk fun a _ b _=>?_
 unfold lP kG
 by_cases h:a=i/\b=j
 ·obtain⟨rfl,rfl⟩:=h
  simp
 ·rw[if_neg h]
  by_cases h1:a<i\/a=i/\b<j
  ·simp only[if_pos h1,if_pos (show a<i\/a=i/\b<j+1 by omega)]
  ·simp only[if_neg h1,if_neg (show¬(a<i\/a=i/\b<j+1) by omega)]
theorem Zm {r c:Nat} (W:Nat->Nat->Int) (i:Nat):aA r c (kG W i c)=aA r c (kG W (i+1) 0):=by
 refine lk fun a _ b hb=>?_
 unfold kG
 by_cases h1:a<i\/a=i/\b<c
 ·simp only[if_pos h1,if_pos (show a<i+1\/a=i+1/\b<0 by omega)]
 ·simp only[if_neg h1,if_neg (show¬(a<i+1\/a=i+1/\b<0) by omega)]
theorem Zl {r c:Nat} (W:Nat->Nat->Int):aA r c (kG W r 0)=aA r c W:=lk fun a ha b hb=>if_pos (.inl ha)
theorem Zk {r c:Nat} (W:Nat->Nat->Int):aA r c (kG W 0 0)=aA r c fun _ _=>0:=lk fun a ha b hb=>if_neg (by omega)
theorem aiM {p:Int} {k:Nat} {A A' B B':Nat->Nat->Int} {i j:Nat} (hA:∀t,t<k->A i t=A' i t) (hB:∀t,t<k->B t j=B' t j):g0 p k A B i j=g0 p k A' B' i j:=by
 unfold g0
 have:∀n,n<=k->te p (fun t=>A i t) (fun t=>B t j) n=te p (fun t=>A' i t) (fun t=>B' t j) n:=by
  intro n
  induction n with
  |zero=>intro _;rfl
  |succ n ih=>
   intro hn
   simp only[te]
   rw[ih (by omega),hA n (by omega),hB n (by omega)]
 exact this k (Nat.le_refl k)
theorem aiN {p:Int} (hp:dG p) (r c k:Nat) (A B:Nat->Nat->Int):d8 p r c (g0 p k A B):=fun i _ j _=>MJ hp _ _ k
theorem Zj {x:Int×(Int×Int×List Int)×(Int×Int×List Int)} (h:Fp x):∃(p:Int) (r k c:Nat) (A B:Nat->Nat->Int),x=(p,((r:Int),(k:Int),aA r k A),((k:Int),(c:Int),aA k c B))/\dG p/\
  r<=4096/\k<=4096/\c<=4096/\r*k<=1048576/\k*c<=1048576/\r*c<=1048576/\d8 p r k A/\d8 p k c B:=by
 obtain⟨p,a,b⟩:=x
 obtain⟨hp,ha,hb,hk,dc,h1,h2⟩:=h
 obtain⟨r,k,A,rfl,q1,q2,q3⟩:=tU ha
 obtain⟨k',c,B,rfl,q4,q5,q6⟩:=tU hb
 simp only at hk dc h1 h2
 have:k'=k:=by omega
 subst this
 have e:(r:Int)*(c:Int)=((r*c:Nat):Int):=by norm_cast
 exact⟨p,r,k',c,A,B,rfl,hp,q1,q2,q5,q3,q6,by omega,nV.1 h1,nV.1 h2⟩
theorem aiP {p:Int} {r k c:Nat} {A B:Nat->Nat->Int} (hp:dG p) (hr:r<=4096) (hk:k<=4096) (hc:c<=4096) (h1:r*k<=1048576) (h2:k*c<=1048576) (h3:r*c<=1048576) (hA:d8 p r k A) (hB:d8 p k c B):
  Fp (p,((r:Int),(k:Int),aA r k A),((k:Int),(c:Int),aA k c B)):=by
 refine⟨hp,xI A hr hk h1,xI B hk hc h2,rfl,?_,nV.2 hA,nV.2 hB⟩
 show(r:Int)*(c:Int)<=1048576
 have e:(r:Int)*(c:Int)=((r*c:Nat):Int):=by norm_cast
 omega
theorem QY {p:Int} {r k c:Nat} {A B:Nat->Nat->Int} (hp:dG p) (hr:r<=4096) (hk:k<=4096) (hc:c<=4096) (h1:r*k<=1048576) (h2:k*c<=1048576) (h3:r*c<=1048576) (hA:d8 p r k A) (hB:d8 p k c B):
  qf (p,((r:Int),(k:Int),aA r k A),((k:Int),(c:Int),aA k c B))=some ((r:Int),(c:Int),aA r c (g0 p k A B)):=by
 simp only[qf,Int.toNat_natCast]
 rw[if_pos (aiP hp hr hk hc h1 h2 h3 hA hB)]
 exact congrArg (fun l=>some ((r:Int),(c:Int),l)) (lk fun i hi j hj=>aiM (fun t ht=>nE A hi ht) (fun t ht=>nE B ht hj))
theorem ae8 {p:Int} {r k c:Nat} {A B:Nat->Nat->Int} (hp:dG p) (hr:r<=4096) (hk:k<=4096) (hc:c<=4096) (h1:r*k<=1048576) (h2:k*c<=1048576) (h3:r*c<=1048576) (hA:d8 p r k A) (hB:d8 p k c B):
  GI aM (p,((r:Int),(k:Int),aA r k A),((k:Int),(c:Int),aA k c B))=some ((r:Int),(c:Int),aA r c (g0 p k A B)):=by
 simp only[GI,Zx hr hc h3,az,df]
 rw[show ai 0 0 (J ([]:List Int))=some () from rfl,az]
 rw[je (r:=Sum.inl (((0:Int),(0:Int)),((r:Int),(c:Int)),([]:List Int),aA r c (g0 p k A B))) (fun i=>((p,(i:Int)),((r:Int),(k:Int),aA r k A),((k:Int),(c:Int),aA k c B),((0:Int),(0:Int)),((r:Int),(c:Int)),([]:List Int),aA r c (kG (g0 p k A B) i 0))) r ?_ ?_ ?_ (ew (by omega))]
 ·rw[eI];simp only[jB,az]
 ·intro i hi
  simp only
  rw[bt (jz hi)]
  rw[je (r:=Sum.inl (((i:Int),p),((r:Int),(k:Int),aA r k A),((k:Int),(c:Int),aA k c B),((0:Int),(0:Int)),((r:Int),(c:Int)),([]:List Int),aA r c (kG (g0 p k A B) (i+1) 0))) (fun j=>((p,(i:Int),(j:Int)),((r:Int),(k:Int),aA r k A),((k:Int),(c:Int),aA k c B),((0:Int),(0:Int)),((r:Int),(c:Int)),([]:List Int),aA r c (kG (g0 p k A B) i j))) c ?_ ?_ ?_ (ew (by omega))]
  ·rw[eI];simp only[iz (show i<=1048577 by omega)]
  ·intro j hj
   simp only
   rw[bt (jz hj)]
   rw[je (r:=Sum.inl ((g0 p k A B i j,(j:Int),p,(i:Int)),((r:Int),(k:Int),aA r k A),((k:Int),(c:Int),aA k c B),((0:Int),(0:Int)),((r:Int),(c:Int)),([]:List Int),aA r c (kG (g0 p k A B) i j))) (fun t=>((p,(i:Int),(j:Int),te p (fun t=>A i t) (fun t=>B t j) t,(t:Int)),((r:Int),(k:Int),aA r k A),((k:Int),(c:Int),aA k c B),((0:Int),(0:Int)),((r:Int),(c:Int)),([]:List Int),aA r c (kG (g0 p k A B) i j))) k ?_ ?_ ?_ (ew (by omega))]
   ·rw[eI]
    simp only[pI (show i<=1048576 by omega) (show c<=1048576 by omega) (show j<=1048576 by omega),uH _ hi hj,az,nU,uY _ hi hj,FR _ hj,qC,Zo (r:=r) (c:=c)]
    rw[eI]
    simp only[iz (show j<=1048577 by omega)]
   ·intro t ht
    simp only
    rw[bt (jz ht),pI (by omega) (by omega) (by omega),pI (by omega) (by omega) (by omega),IM A hi ht,az,IM B ht hj,az,JE hp ((MJ hp _ _ t).s hp) (hA i hi t ht).le (hB t ht j hj).le,az]
    simp only[iz (show t<=1048577 by omega),te]
   ·simp only
    rw[br (kc (Nat.le_refl k))]
    rfl
   ·rfl
  ·simp only
   rw[br (kc (Nat.le_refl c)),Zm]
  ·rfl
 ·simp only
  rw[br (kc (Nat.le_refl r)),Zl]
 ·rw[Zk];rfl
theorem aeQ (x:Int×(Int×Int×List Int)×(Int×Int×List Int)) (y:Int×Int×List Int) (h:qf x=some y):GI aM x=some y:=by
 have h0:=h
 simp only[qf] at h
 split at h
 ·rename_i hc
  obtain⟨p,r,k,c,A,B,rfl,hp,hr,hk,hc,h1,h2,h3,hA,hB⟩:=Zj hc
  rw[<-h0,ae8 hp hr hk hc h1 h2 h3 hA hB,QY hp hr hk hc h1 h2 h3 hA hB]
 ·cases h
theorem ae7 {p:Int} {r k c:Nat} {A B:Nat->Nat->Int} (hp:dG p) (hr:r<=4096) (hk:k<=4096) (hc:c<=4096) (h1:r*k<=1048576) (h2:k*c<=1048576) (h3:r*c<=1048576) (hA:d8 p r k A) (hB:d8 p k c B):
  GC aM (p,((r:Int),(k:Int),aA r k A),((k:Int),(c:Int),aA k c B))=some ((r:Int),(c:Int),aA r c (g0 p k A B)):=by
 simp only[GC,Zw hr hc h3,az,df]
 rw[show ai 0 0 (J ([]:List Int))=some () from rfl,az]
 rw[je (r:=Sum.inl (((0:Int),(0:Int)),((r:Int),(c:Int)),([]:List Int),aA r c (g0 p k A B))) (fun i=>((p,(i:Int)),((r:Int),(k:Int),aA r k A),((k:Int),(c:Int),aA k c B),((0:Int),(0:Int)),((r:Int),(c:Int)),([]:List Int),aA r c (kG (g0 p k A B) i 0))) r ?_ ?_ ?_ (ew (by omega))]
 ·rw[eI];simp only[jB,az]
 ·intro i hi
  simp only
  rw[bt (jz hi)]
  rw[je (r:=Sum.inl (((i:Int),p),((r:Int),(k:Int),aA r k A),((k:Int),(c:Int),aA k c B),((0:Int),(0:Int)),((r:Int),(c:Int)),([]:List Int),aA r c (kG (g0 p k A B) (i+1) 0))) (fun j=>((p,(i:Int),(j:Int)),((r:Int),(k:Int),aA r k A),((k:Int),(c:Int),aA k c B),((0:Int),(0:Int)),((r:Int),(c:Int)),([]:List Int),aA r c (kG (g0 p k A B) i j))) c ?_ ?_ ?_ (ew (by omega))]
  ·rw[eI];simp only[iz (show i<=1048577 by omega)]
  ·intro j hj
   simp only
   rw[bt (jz hj)]
   rw[je (r:=Sum.inl ((g0 p k A B i j,(j:Int),p,(i:Int)),((r:Int),(k:Int),aA r k A),((k:Int),(c:Int),aA k c B),((0:Int),(0:Int)),((r:Int),(c:Int)),([]:List Int),aA r c (kG (g0 p k A B) i j))) (fun t=>((p,(i:Int),(j:Int),te p (fun t=>A i t) (fun t=>B t j) t,(t:Int)),((r:Int),(k:Int),aA r k A),((k:Int),(c:Int),aA k c B),((0:Int),(0:Int)),((r:Int),(c:Int)),([]:List Int),aA r c (kG (g0 p k A B) i j))) k ?_ ?_ ?_ (ew (by omega))]
   ·rw[eI]
    simp only[CV hr hc h3 hi hj,az,qC,Zo (r:=r) (c:=c)]
    rw[eI]
    simp only[iz (show j<=1048577 by omega)]
   ·intro t ht
    simp only
    rw[bt (jz ht),qk hr hk h1 hi ht,az,qk hk hc h2 ht hj,az,JE hp ((MJ hp _ _ t).s hp) (hA i hi t ht).le (hB t ht j hj).le,az]
    simp only[iz (show t<=1048577 by omega),te]
   ·simp only
    rw[br (kc (Nat.le_refl k))]
    rfl
   ·rfl
  ·simp only
   rw[br (kc (Nat.le_refl c)),Zm]
  ·rfl
 ·simp only
  rw[br (kc (Nat.le_refl r)),Zl]
 ·rw[Zk];rfl
theorem aek (x:Int×(Int×Int×List Int)×(Int×Int×List Int)) (y:Int×Int×List Int) (h:Az x=some y):GC aM x=some y:=by
 have h0:qf x=some y:=h
 simp only[Az,qf] at h
 split at h
 ·rename_i hc
  obtain⟨p,r,k,c,A,B,rfl,hp,hr,hk,hc,h1,h2,h3,hA,hB⟩:=Zj hc
  rw[<-h0,ae7 hp hr hk hc h1 h2 h3 hA hB,QY hp hr hk hc h1 h2 h3 hA hB]
 ·cases h
end Go.Am
end
section
namespace Go.Am
def aaP (x:Int×Int×Int):Prop:=fS x.1=true/\(1<=x.2.1/\x.2.1<=8)/\(1<=x.2.2/\x.2.2<=8)
instance (x:Int×Int×Int):Decidable (aaP x):=by unfold aaP;infer_instance
theorem agB {p:Int} {r c:Nat} {l:List Int} (h:l.length=r*c) (hr:iR p l=true):d8 p r c (fD c l):=by
 apply nV.1
 rw[wY h]
 intro x hx
 have:=List.all_eq_true.1 hr x hx
 exact of_decide_eq_true this
theorem ahV {m:Int} {x:Int×Int×List Int} (h:pN m x=true):∃(r c:Nat) (M:Nat->Nat->Int),x=((r:Int),(c:Int),aA r c M)/\dG m/\r<=64/\c<=64/\r*c<=4096/\d8 m r c M:=by
 obtain⟨r,c,l⟩:=x
 simp only[pN,Bool.and_eq_true,decide_eq_true_eq] at h
 obtain⟨h1,h2,h3,h4,h5⟩:=h
 obtain⟨r,rfl⟩:=jP (z:=r) (by omega)
 obtain⟨c,rfl⟩:=jP (z:=c) (by omega)
 have hl:l.length=r*c:=by
  have e:(r:Int)*(c:Int)=((r*c:Nat):Int):=by norm_cast
  omega
 have dc:r*c<=64*64:=Nat.mul_le_mul (by omega) (by omega)
 exact⟨r,c,fD c l,by rw[wY hl],tN h1,by omega,by omega,by omega,agB hl h5⟩
end Go.Am
end
section
namespace Go.Am
abbrev cj:=Nat->Nat->Int
def wb (p inv:Int) (M:cj) (t n:Nat):cj:=fun a b=>if a=t/\b<n then M t b*inv%p else M a b
def wa (p inv:Int) (M:cj) (t:Nat):cj:=fun a b=>if a=t then M t b*inv%p else M a b
def fk (p:Int) (M:cj) (t j n:Nat):cj:=fun a b=>if a<n/\a≠t then(M a b+(p - M a j)*M t b)%p else M a b
def q8 (p:Int) (M:cj) (t j k:Nat):cj:=wa p (ir p 1 (fh M t k t j) (p - 2).toNat) (fh M t k) t
def CJ (p:Int) (M:cj) (t j k:Nat) (d:Int):Int:=(if k=t then d else(p - d)%p)*fh M t k t j%p
def mM (p:Int) (r:Nat) (s:cj×List Int×Int) (j:Nat):cj×List Int×Int:=
 if s.2.1.length<r then
  match iQ s.1 j (r - s.2.1.length) s.2.1.length with
  |none=>s
  |some k=>(fk p (q8 p s.1 s.2.1.length j k) s.2.1.length j r,s.2.1++[(j:Int)],CJ p s.1 s.2.1.length j k s.2.2)
 else s
def f9 (p:Int) (r:Nat) (M:cj):Nat->cj×List Int×Int
 |0=>(M,[],1)
 |j+1=>mM p r (f9 p r M j) j
def CK (x:Int×Int×Int×List Int):Prop:=dG x.1/\nC x.2/\gG x.1 x.2.2.2
instance (x:Int×Int×Int×List Int):Decidable (CK x):=by unfold CK;infer_instance
def sq (x:Int×Int×Int×List Int):cj×List Int×Int:=f9 x.1 x.2.1.toNat (fD x.2.2.1.toNat x.2.2.2) x.2.2.1.toNat
def AS:Int×Int×Int×List Int->Option ((Int×Int×List Int)×List Int×Int):=fun(x:Int×Int×Int×List Int)=>
 if CK x then some ((x.2.1,x.2.2.1,aA x.2.1.toNat x.2.2.1.toNat (sq x).1),(sq x).2) else none
def AB:Int×Int×Int×List Int->Option ((Int×Int×List Int)×List Int):=fun(x:Int×Int×Int×List Int)=>
 if CK x then some ((x.2.1,x.2.2.1,aA x.2.1.toNat x.2.2.1.toNat (sq x).1),(sq x).2.1) else none
def HN:aq:=[(.one,[.int .i64]),(.agg,[.int .i64,.int .i64,.list [.int .i64]])]
def Sv:aq:=[(.agg,[.int .i64,.int .i64,.list [.int .i64]]),(.one,[.list [.int .i64]]),(.one,[.int .i64])]
def aiG:aN:=[]
def He:aq:=[(.one,[.int .i64]),(.agg,[.int .i64,.int .i64,.list [.int .i64]])]
def RW:aq:=[(.agg,[.int .i64,.int .i64,.list [.int .i64]]),(.one,[.list [.int .i64]])]
def aid:aN:=[]
def GL (NN:Nat):(Int×(Int×(Int×(List Int))))->(Option ((Int×(Int×(List Int)))×((List Int)×Int))):=
 (fun((i0,i1,i2,l3):(Int×(Int×(Int×(List Int)))))=>
 (qd l3).U (fun l4=>
 cI ((ai 0 0 (J (([]:List Int)))).U (fun _=>
 (ai 0 0 (J (([]:List Int)))).U (fun _=>
 (ai 0 (J l4) (J l4)).U (fun _=>
 bC NN (fun(((i5,i6,i7),(i8,i9,gA),(dA,eD),(fq,eB),dn,ft,cu):((Int×(Int×Int))×((Int×(Int×(List Int)))×((Int×Int)×((Int×Int)×((List Int)×((List Int)×(List Int))))))))=>
 aL (bD i7 i9)
 (aL (bD (ba (J cu)) i8)
 (cI ((cO ft 0 (J ft)).U (fun gj=>
 (yF ((fq,eB,gj),ba (J cu),i7)).U (fun fZ=>
 aL (bD fZ (0:Int))
 ((ai 0 (J cu) (J cu)).U (fun _=>
 (ai 0 (J dn) (J dn)).U (fun _=>
 (ai 0 (J ft) (J ft)).U (fun _=>
 some (Sum.inl ((i7,i5,i6),(i8,i9,gA),(dA,eD),(fq,eB),dn,ft,cu))))))
 (cI (aL (dU fZ (ba (J cu)))
 ((ai 0 (J ft) (J ft)).U (fun _=>
 (sO ((fq,eB,ft),ba (J cu),fZ)).U (fun iu=>
 (hH (lO .i64 i5 i6) i5).U (fun kB=>
 (ai 0 (J cu) (J cu)).U (fun _=>
 (ai 0 (J dn) (J dn)).U (fun _=>
 (ai 0 (J ft) (J iu)).U (fun _=>
 some (Sum.inl ((kB,ba (J cu),i7,i5),(i8,i9,gA),(dA,eD),(fq,eB),dn,iu,cu)))))))))
 ((ai 0 (J cu) (J cu)).U (fun _=>
 (ai 0 (J dn) (J dn)).U (fun _=>
 (ai 0 (J ft) (J ft)).U (fun _=>
 some (Sum.inl ((i6,ba (J cu),i7,i5),(i8,i9,gA),(dA,eD),(fq,eB),dn,ft,cu)))))))
 (fun((lE,qN,tG,r6),(pB,nt,sb),(Jl,xp),(pC,EQ),lI,iJ,xC)=>
 (fw (bB .i64 (dF .i64 qN nt) tG) (J iJ)).U (fun k36=>
 (dj iJ (aV 0 k36)).U (fun qO=>
 (hH (dF .i64 lE qO) r6).U (fun r8=>
 (wD (r6,qO)).U (fun qP=>
 cI ((ai 0 (J xC) (J xC)).U (fun _=>
 (ai 0 (J lI) (J lI)).U (fun _=>
 (ai 0 (J iJ) (J iJ)).U (fun _=>
 bC NN (fun(((r9,tH,vD,kC,lF,j5),(tI,kD,vJ),(tJ,mC),(nu,ou),oC,fI,fe):((Int×(Int×(Int×(Int×(Int×Int)))))×((Int×(Int×(List Int)))×((Int×Int)×((Int×Int)×((List Int)×((List Int)×(List Int))))))))=>
 aL (bD j5 kD)
 ((fw (bB .i64 (dF .i64 kC kD) j5) (J fI)).U (fun k56=>
 (dj fI (aV 0 k56)).U (fun vE=>
 (hH (dF .i64 vE lF) r9).U (fun sa=>
 (fw (bB .i64 (dF .i64 kC kD) j5) (J fI)).U (fun Pt=>
 (dj fI (aV 0 Pt)).U (fun pE=>
 (ai 0 (J fe) (J fe)).U (fun _=>
 (ai 0 (J oC) (J oC)).U (fun _=>
 (ai 0 (J fI) (J (cK fI (aV 0 Pt) sa))).U (fun _=>
 some (Sum.inl ((r9,tH,vD,kC,lF,bB .i64 j5 1),(tI,kD,vJ),(tJ,mC),(nu,ou),oC,cK fI (aV 0 Pt) sa,fe)))))))))))
 (((ai 0 (J fe) (J fe)).U (fun _=>
 (ai 0 (J oC) (J oC)).U (fun _=>
 (ai 0 (J fI) (J fI)).U (fun _=>
 some (Sum.inl ((tH,r9,vD,kC),(tI,kD,vJ),(tJ,mC),(nu,ou),oC,fI,fe)))))).U (fun oD=>
 some (Sum.inr oD))))
 ((r6,r8,tG,qN,qP,(0:Int)),(pB,nt,sb),(Jl,xp),(pC,EQ),lI,iJ,xC)))))
 (fun((ET,vF,i64,zG),(O8,zH,zV),(O9,zI),(zJ,xr),PI,pK,mH)=>
 cI ((ai 0 (J mH) (J mH)).U (fun _=>
 (ai 0 (J PI) (J PI)).U (fun _=>
 (ai 0 (J pK) (J pK)).U (fun _=>
 bC NN (fun(((pG,pH,nv,j7,jN),(xt,Ce,jd),(zK,zL),(Cf,qQ),qX,mJ,nB):((Int×(Int×(Int×(Int×Int))))×((Int×(Int×(List Int)))×((Int×Int)×((Int×Int)×((List Int)×((List Int)×(List Int))))))))=>
 aL (bD jN xt)
 (aL (dU jN j7)
 ((fw (bB .i64 (dF .i64 jN Ce) nv) (J mJ)).U (fun k91=>
 (dj mJ (aV 0 k91)).U (fun EW=>
 (ai 0 (J mJ) (J mJ)).U (fun _=>
 (yD (pG,(Cf,qQ,mJ),jN,j7,EW)).U (fun JA=>
 (ai 0 (J nB) (J nB)).U (fun _=>
 (ai 0 (J qX) (J qX)).U (fun _=>
 (ai 0 (J mJ) (J JA)).U (fun _=>
 some (Sum.inl ((pG,pH,nv,j7,bB .i64 jN 1),(xt,Ce,jd),(zK,zL),(Cf,qQ),qX,JA,nB))))))))))
 ((ai 0 (J nB) (J nB)).U (fun _=>
 (ai 0 (J qX) (J qX)).U (fun _=>
 (ai 0 (J mJ) (J mJ)).U (fun _=>
 some (Sum.inl ((pG,pH,nv,j7,bB .i64 jN 1),(xt,Ce,jd),(zK,zL),(Cf,qQ),qX,mJ,nB)))))))
 (((ai 0 (J nB) (J nB)).U (fun _=>
 (ai 0 (J qX) (J qX)).U (fun _=>
 (ai 0 (J mJ) (J mJ)).U (fun _=>
 some (Sum.inl ((nv,pG,pH),(xt,Ce,jd),(zK,zL),(Cf,qQ),qX,mJ,nB)))))).U (fun l94=>
 some (Sum.inr l94))))
 ((vF,ET,i64,zG,(0:Int)),(O8,zH,zV),(O9,zI),(zJ,xr),PI,pK,mH)))))
 (fun((tK,EY,Pb),(Pc,EZ,Ff),(B9,xo),(vz,vA),xB,kE,j8)=>
 (ai 0 (J j8) (J j8)).U (fun _=>
 (cO ((tK::([]:List Int))) 0 1).U (fun qT=>
 (lf (aV (J j8) (J qT)) 8).U (fun _=>
 (ai 0 (aV (J j8) (J qT)) (J (cY j8 qT))).U (fun _=>
 (ai 0 (J xB) (J xB)).U (fun _=>
 (ai 0 (J kE) (J kE)).U (fun _=>
 some (Sum.inl ((tK,EY,Pb),(Pc,EZ,Ff),(B9,xo),(vz,vA),xB,kE,cY j8 qT)))))))))))))))))))
 (fun((O6,EO,Ca),(EP,O7,zT),(agr,ags),(agt,agu),Py,Pz,PD)=>
 (ai 0 (J PD) (J PD)).U (fun _=>
 (ai 0 (J Py) (J Py)).U (fun _=>
 (ai 0 (J Pz) (J Pz)).U (fun _=>
 some (Sum.inl ((EO,Ca,bB .i64 O6 1),(EP,O7,zT),(agr,ags),(agt,agu),Py,Pz,PD)))))))
 (((ai 0 (J cu) (J cu)).U (fun _=>
 (ai 0 (J dn) (J dn)).U (fun _=>
 (ai 0 (J ft) (J ft)).U (fun _=>
 some (Sum.inl (i6,(dA,eD),(fq,eB),dn,ft,cu)))))).U (fun ahL=>
 some (Sum.inr ahL))))
 (((ai 0 (J cu) (J cu)).U (fun _=>
 (ai 0 (J dn) (J dn)).U (fun _=>
 (ai 0 (J ft) (J ft)).U (fun _=>
 some (Sum.inl (i6,(dA,eD),(fq,eB),dn,ft,cu)))))).U (fun ahM=>
 some (Sum.inr ahM))))
 ((i0,(1:Int),(0:Int)),(i1,i2,l3),((0:Int),(0:Int)),(i1,i2),([]:List Int),l4,([]:List Int))))))
 (fun(agv,(anl,anm),(agw,agx),ano,YN,YO)=>
 (dH YN (J YN)).U (fun ahN=>
 (dH YO (J YO)).U (fun ahO=>
 some ((agw,agx,ahN),ahO,agv))))))
def GF (NN:Nat):(Int×(Int×(Int×(List Int))))->(Option ((Int×(Int×(List Int)))×(List Int))):=
 (fun((i0,i1,i2,l3):(Int×(Int×(Int×(List Int)))))=>
 (Ax (i1,i2,l3)).U (fun(i4,i5,l6)=>
 cI ((ai 0 0 (J (([]:List Int)))).U (fun _=>
 (ai 0 0 (J (([]:List Int)))).U (fun _=>
 (ai 0 (J l6) (J l6)).U (fun _=>
 bC NN (fun(((i7,i8),(i9,cR),(dA,eD),kF,ju,dn):((Int×Int)×((Int×Int)×((Int×Int)×((List Int)×((List Int)×(List Int)))))))=>
 aL (bD i8 eD)
 (cI (cI ((ai 0 (J dn) (J dn)).U (fun _=>
 (ai 0 (J kF) (J kF)).U (fun _=>
 (ai 0 (J ju) (J ju)).U (fun _=>
 bC NN (fun(((gz,tF,ja,fZ),(kA,kB),(lE,qN),jc,f7,mD):((Int×(Int×(Int×Int)))×((Int×Int)×((Int×Int)×((List Int)×((List Int)×(List Int)))))))=>
 aL (bD fZ lE)
 ((cO f7 0 (J f7)).U (fun Jx=>
 (kP ((lE,qN,Jx),fZ,tF)).U (fun ot=>
 aL (k8 ot (0:Int))
 ((ai 0 (J mD) (J mD)).U (fun _=>
 (ai 0 (J jc) (J jc)).U (fun _=>
 (ai 0 (J f7) (J f7)).U (fun _=>
 some (Sum.inl ((gz,tF,ja,bB .i64 fZ 1),(kA,kB),(lE,qN),jc,f7,mD))))))
 (((ai 0 (J mD) (J mD)).U (fun _=>
 (ai 0 (J jc) (J jc)).U (fun _=>
 (ai 0 (J f7) (J f7)).U (fun _=>
 some (Sum.inl ((fZ,ja,tF,gz),(kA,kB),(lE,qN),jc,f7,mD)))))).U (fun nw=>
 some (Sum.inr nw))))))
 (((ai 0 (J mD) (J mD)).U (fun _=>
 (ai 0 (J jc) (J jc)).U (fun _=>
 (ai 0 (J f7) (J f7)).U (fun _=>
 some (Sum.inl ((fZ,ja,tF,gz),(kA,kB),(lE,qN),jc,f7,mD)))))).U (fun mE=>
 some (Sum.inr mE))))
 ((i7,i8,ba (J dn),ba (J dn)),(i9,cR),(dA,eD),kF,ju,dn)))))
 (fun((pC,EQ,vB,vC),(xq,r7),(qO,r8),mG,j9,qV)=>
 aL (k8 pC qO)
 ((ai 0 (J qV) (J qV)).U (fun _=>
 (ai 0 (J mG) (J mG)).U (fun _=>
 (ai 0 (J j9) (J j9)).U (fun _=>
 some (Sum.inl ((vB,vC),(xq,r7),(qO,r8),mG,j9,qV))))))
 ((ai 0 (J j9) (J j9)).U (fun _=>
 (Aw ((qO,r8,j9),EQ,pC)).U (fun xD=>
 (cO xD 0 (J j9)).U (fun l43=>
 (kP ((qO,r8,l43),EQ,vB)).U (fun lF=>
 (Ay (vC,lF)).U (fun j5=>
 cI ((ai 0 (J qV) (J qV)).U (fun _=>
 (ai 0 (J mG) (J mG)).U (fun _=>
 (ai 0 (J j9) (J xD)).U (fun _=>
 bC NN (fun(((tI,kD,lG,tJ,mC),(nu,ou),(pD,ER),fe,nA,xE):((Int×(Int×(Int×(Int×Int))))×((Int×Int)×((Int×Int)×((List Int)×((List Int)×(List Int)))))))=>
 aL (bD mC ER)
 ((cO nA 0 (J nA)).U (fun l58=>
 (kP ((pD,ER,l58),lG,mC)).U (fun Cb=>
 (hH (dF .i64 Cb tJ) tI).U (fun pE=>
 (ai 0 (J nA) (J nA)).U (fun _=>
 (rz ((pD,ER,nA),lG,mC,pE)).U (fun oD=>
 (ai 0 (J xE) (J xE)).U (fun _=>
 (ai 0 (J fe) (J fe)).U (fun _=>
 (ai 0 (J nA) (J oD)).U (fun _=>
 some (Sum.inl ((tI,kD,lG,tJ,bB .i64 mC 1),(nu,ou),(pD,ER),fe,oD,xE)))))))))))
 (((ai 0 (J xE) (J xE)).U (fun _=>
 (ai 0 (J fe) (J fe)).U (fun _=>
 (ai 0 (J nA) (J nA)).U (fun _=>
 some (Sum.inl ((tI,kD,lG),(nu,ou),(pD,ER),fe,nA,xE)))))).U (fun sd=>
 some (Sum.inr sd))))
 ((vC,vB,EQ,j5,(0:Int)),(xq,r7),(qO,r8),mG,xD,qV)))))
 (fun((vF,i64,zG),(O8,zH),(Cc,O9),PF,PG,PH)=>
 cI ((ai 0 (J PH) (J PH)).U (fun _=>
 (ai 0 (J PF) (J PF)).U (fun _=>
 (ai 0 (J PG) (J PG)).U (fun _=>
 bC NN (fun(((pF,Cd,EU,pG),(pH,nv),(j7,jN),mI,iK,jd):((Int×(Int×(Int×Int)))×((Int×Int)×((Int×Int)×((List Int)×((List Int)×(List Int)))))))=>
 aL (bD pG j7)
 (aL (dU pG EU)
 ((cO iK 0 (J iK)).U (fun Fi=>
 (kP ((j7,jN,Fi),pG,Cd)).U (fun zL=>
 aL (dU zL (0:Int))
 ((cO iK 0 (J iK)).U (fun Fk=>
 (kP ((j7,jN,Fk),pG,Cd)).U (fun qQ=>
 (ai 0 (J iK) (J iK)).U (fun _=>
 (yy ((j7,jN,iK),pF,pG,EU,lO .i64 pF qQ)).U (fun qX=>
 (ai 0 (J jd) (J jd)).U (fun _=>
 (ai 0 (J mI) (J mI)).U (fun _=>
 (ai 0 (J iK) (J qX)).U (fun _=>
 some (Sum.inl ((pF,Cd,EU,bB .i64 pG 1),(pH,nv),(j7,jN),mI,qX,jd))))))))))
 ((ai 0 (J jd) (J jd)).U (fun _=>
 (ai 0 (J mI) (J mI)).U (fun _=>
 (ai 0 (J iK) (J iK)).U (fun _=>
 some (Sum.inl ((pF,Cd,EU,bB .i64 pG 1),(pH,nv),(j7,jN),mI,iK,jd)))))))))
 ((ai 0 (J jd) (J jd)).U (fun _=>
 (ai 0 (J mI) (J mI)).U (fun _=>
 (ai 0 (J iK) (J iK)).U (fun _=>
 some (Sum.inl ((pF,Cd,EU,bB .i64 pG 1),(pH,nv),(j7,jN),mI,iK,jd)))))))
 (((ai 0 (J jd) (J jd)).U (fun _=>
 (ai 0 (J mI) (J mI)).U (fun _=>
 (ai 0 (J iK) (J iK)).U (fun _=>
 some (Sum.inl ((Cd,pF),(pH,nv),(j7,jN),mI,iK,jd)))))).U (fun mJ=>
 some (Sum.inr mJ))))
 ((vF,i64,zG,(0:Int)),(O8,zH),(Cc,O9),PF,PG,PH)))))
 (fun((Jn,i91),(EW,EX),(zM,tK),zW,vN,qY)=>
 (ai 0 (J qY) (J qY)).U (fun _=>
 (cO ((Jn::([]:List Int))) 0 1).U (fun xG=>
 (lf (aV (J qY) (J xG)) 8).U (fun _=>
 (ai 0 (aV (J qY) (J xG)) (J (cY qY xG))).U (fun _=>
 (ai 0 (J zW) (J zW)).U (fun _=>
 (ai 0 (J vN) (J vN)).U (fun _=>
 some (Sum.inl ((Jn,i91),(EW,EX),(zM,tK),zW,vN,cY qY xG))))))))))))))))))
 (fun((O4,B9),(xo,vz),(vA,O5),kE,j8,qT)=>
 (ai 0 (J qT) (J qT)).U (fun _=>
 (ai 0 (J kE) (J kE)).U (fun _=>
 (ai 0 (J j8) (J j8)).U (fun _=>
 some (Sum.inl ((B9,bB .i64 O4 1),(xo,vz),(vA,O5),kE,j8,qT)))))))
 (((ai 0 (J dn) (J dn)).U (fun _=>
 (ai 0 (J kF) (J kF)).U (fun _=>
 (ai 0 (J ju) (J ju)).U (fun _=>
 some (Sum.inl ((i9,cR),(dA,eD),kF,ju,dn)))))).U (fun Pw=>
 some (Sum.inr Pw))))
 ((i0,(0:Int)),((0:Int),(0:Int)),(i4,i5),([]:List Int),l6,([]:List Int))))))
 (fun((EO,Ca),(EP,O7),zT,Jw,YM)=>
 (dH Jw (J Jw)).U (fun ahJ=>
 (dH YM (J YM)).U (fun ahK=>
 some ((EP,O7,ahJ),ahK))))))
theorem abj (P:Nat->Prop) [DecidablePred P]:∀c:Nat,∃n,n<=c/\(∀j,j<n->P j)/\(n=c\/¬P n)
 |0=>⟨0,Nat.le_refl 0,fun j hj=>absurd hj (Nat.not_lt_zero j),.inl rfl⟩
 |c+1=>by
  obtain⟨n,h1,h2,h3⟩:=abj P c
  by_cases h:P n
  ·rcases h3 with h3|h3
   ·subst h3
    refine⟨n+1,Nat.le_refl _,fun j hj=>?_,.inl rfl⟩
    by_cases iD:j=n
    ·subst iD;exact h
    ·exact h2 j (by omega)
   ·exact absurd h h3
  ·exact⟨n,by omega,h2,.inr h⟩
theorem KQ {p:Int} {r c:Nat} {M:cj} (hM:d8 p r c M) {a b:Nat} (ha:a<r) (hb:b<r):d8 p r c (fh M a b):=by
 intro i hi j hj
 unfold fh
 split
 ·exact hM b hb j hj
 ·split
  ·exact hM a ha j hj
  ·exact hM i hi j hj
theorem aml (M:cj) (a:Nat):fh M a a=M:=by
 funext i j
 unfold fh
 split
 ·rename_i h;rw[h]
 ·rfl
theorem aar {p inv:Int} {r c:Nat} {M:cj} (hp:dG p) (hM:d8 p r c M) (t:Nat):d8 p r c (wa p inv M t):=by
 intro i hi j hj
 unfold wa
 split
 ·exact tg hp _
 ·exact hM i hi j hj
theorem Mv {p:Int} {r c:Nat} {M:cj} (hp:dG p) (hM:d8 p r c M) (t k n:Nat):d8 p r c (fk p M t k n):=by
 intro i hi j hj
 unfold fk
 split
 ·exact tg hp _
 ·exact hM i hi j hj
theorem Q3 {p:Int} (hp:dG p):f0 p 1:=⟨by omega,by have:=hp.1;omega⟩
theorem Rf {p:Int} {r c:Nat} {M:cj} (hp:dG p) (hM:d8 p r c M) {t k:Nat} (ht:t<r) (hk:k<r) (j:Nat):d8 p r c (q8 p M t j k):=aar hp (KQ hM ht hk) t
structure RI (p:Int) (r c:Nat) (s:cj×List Int×Int) (j:Nat):Prop where
 m:d8 p r c s.1
 l:s.2.1.length<=r
 lj:s.2.1.length<=j
 d:f0 p s.2.2
 e:∀x∈s.2.1,0<=x/\x<(j:Int)
theorem RI.step {p:Int} {r c:Nat} {s:cj×List Int×Int} {j:Nat} (hp:dG p) (h:RI p r c s j):RI p r c (mM p r s j) (j+1):=by
 have eJ:RI p r c s (j+1):=⟨h.m,h.l,by have:=h.lj;omega,h.d,fun x hx=>by have:=h.e x hx;omega⟩
 unfold mM
 split
 ·rename_i hl
  split
  ·exact eJ
  ·rename_i k hk
   have hq:=FA hk
   refine⟨Mv hp (Rf hp h.m hl (by omega) j) _ _ _,?_,?_,tg hp _,?_⟩
   ·simp only[List.length_append,List.length_cons,List.length_nil];omega
   ·have:=h.lj
    simp only[List.length_append,List.length_cons,List.length_nil];omega
   ·intro x hx
    simp only[List.mem_append,List.mem_singleton] at hx
    rcases hx with hx|rfl
    ·have:=h.e x hx;omega
    ·omega
 ·exact eJ
theorem J8 {p:Int} {r c:Nat} {M:cj} (hp:dG p) (hM:d8 p r c M):∀j,RI p r c (f9 p r M j) j
 |0=>⟨hM,Nat.zero_le _,Nat.le_refl 0,Q3 hp,fun x hx=>absurd hx (List.not_mem_nil)⟩
 |j+1=>(J8 hp hM j).step hp
theorem Z2 {p:Int} {r:Nat} {M:cj} {n:Nat} (h:¬(f9 p r M n).2.1.length<r):∀d,f9 p r M (n+d)=f9 p r M n
 |0=>rfl
 |d+1=>by
  have ih:=Z2 h d
  show mM p r (f9 p r M (n+d)) (n+d)=_
  rw[ih,mM,if_neg h]
theorem aav {r c:Nat} {p inv:Int} (M:cj) (t n:Nat):aA r c (lP (wb p inv M t n) t n (M t n*inv%p))=aA r c (wb p inv M t (n+1)):=by
 refine lk fun a _ b _=>?_
 unfold lP wb
 by_cases h:a=t/\b=n
 ·obtain⟨rfl,rfl⟩:=h
  simp
 ·rw[if_neg h]
  by_cases h1:a=t/\b<n
  ·rw[if_pos h1,if_pos ⟨h1.1,by omega⟩]
  ·rw[if_neg h1,if_neg (by omega)]
theorem aas {p inv:Int} (M:cj) (t:Nat):wb p inv M t 0=M:=by funext a b;exact if_neg (by omega)
theorem aau {p inv:Int} (M:cj) (t n:Nat):wb p inv M t n t n=M t n:=if_neg (by omega)
theorem aat {r c:Nat} {p inv:Int} (M:cj) (t:Nat):aA r c (wb p inv M t c)=aA r c (wa p inv M t):=by
 refine lk fun a _ b hb=>?_
 unfold wb wa
 by_cases h:a=t
 ·rw[if_pos ⟨h,hb⟩,if_pos h]
 ·rw[if_neg (fun q=>h q.1),if_neg h]
theorem Mu {p:Int} (M:cj) (t j:Nat):fk p M t j 0=M:=by funext a b;exact if_neg (by omega)
theorem DK {p:Int} (M:cj) (t j n b:Nat):fk p M t j n n b=M n b:=if_neg (by omega)
theorem VQ {p:Int} (M:cj) (t j n b:Nat):fk p M t j n t b=M t b:=if_neg (by omega)
theorem Mw {p:Int} (M:cj) (t j:Nat):fk p M t j (t+1)=fk p M t j t:=by
 funext a b
 unfold fk
 by_cases h:a<t
 ·rw[if_pos (by omega),if_pos (by omega)]
 ·rw[if_neg (by omega),if_neg (by omega)]
theorem VR {r c:Nat} {p:Int} (M:cj) (t j n:Nat) (hn:n≠t):aA r c (o9 p (fk p M t j n) n t (p - M n j))=aA r c (fk p M t j (n+1)):=by
 refine lk fun a _ b _=>?_
 unfold o9
 by_cases h:a=n
 ·subst h
  rw[if_pos rfl,DK,VQ]
  exact(if_pos ⟨by omega,hn⟩).symm
 ·rw[if_neg h]
  unfold fk
  by_cases h1:a<n/\a≠t
  ·rw[if_pos h1,if_pos ⟨by omega,h1.2⟩]
  ·rw[if_neg h1,if_neg (by omega)]
theorem acF {r c:Nat} {p:Int} (M:cj) (t j n:Nat) (hM:d8 p r c M) (h0:M n j=0):aA r c (fk p M t j n)=aA r c (fk p M t j (n+1)):=by
 refine lk fun a ha b hb=>?_
 unfold fk
 by_cases h:a=n
 ·subst h
  rw[if_neg (by omega)]
  by_cases ht:a=t
  ·rw[if_neg (by omega)]
  ·rw[if_pos ⟨by omega,ht⟩,h0,Int.sub_zero,Int.add_mul_emod_self_left]
   exact(Int.emod_eq_of_lt (hM a ha b hb).1 (hM a ha b hb).2).symm
 ·by_cases h1:a<n/\a≠t
  ·rw[if_pos h1,if_pos ⟨by omega,h1.2⟩]
  ·rw[if_neg h1,if_neg (by omega)]
theorem Re {M:cj} {j:Nat}:∀{d k:Nat},iQ M j d k=none->∀i,k<=i->i<k+d->M i j=0
 |0,k,_,i,h1,h2=>by omega
 |d+1,k,h,i,h1,h2=>by
  simp only[iQ] at h
  split at h
  ·rename_i h0
   by_cases hi:i=k
   ·rw[hi];exact h0
   ·exact Re h i (by omega) (by omega)
  ·cases h
theorem ZK {M:cj} {j q:Nat}:∀{d k:Nat},iQ M j d k=some q->∀i,k<=i->i<q->M i j=0
 |0,k,h,i,h1,h2=>by cases h
 |d+1,k,h,i,h1,h2=>by
  simp only[iQ] at h
  split at h
  ·rename_i h0
   by_cases hi:i=k
   ·rw[hi];exact h0
   ·exact ZK h i (by omega) h2
  ·have:=Option.some.inj h;omega
theorem ami {p d:Int} (hp:dG p) (hd:f0 p d):hH (lO .i64 p d) p=some ((p - d)%p):=by
 have h1:=hp.1;have h2:=hp.2;have h3:=hd.1;have h4:=hd.2
 rw[sD (by omega) (by omega),Kc (by omega) (by omega)]
theorem Ro {p:Int} {r:Nat} {s:cj×List Int×Int} {j:Nat} (hl:s.2.1.length<r) (h:iQ s.1 j (r - s.2.1.length) s.2.1.length=none):mM p r s j=s:=by
 unfold mM
 rw[if_pos hl,h]
theorem Rp {p:Int} {r:Nat} {s:cj×List Int×Int} {j k:Nat} (hl:s.2.1.length<r) (h:iQ s.1 j (r - s.2.1.length) s.2.1.length=some k):
  mM p r s j=(fk p (q8 p s.1 s.2.1.length j k) s.2.1.length j r,s.2.1++[(j:Int)],CJ p s.1 s.2.1.length j k s.2.2):=by
 unfold mM
 rw[if_pos hl,h]
theorem agJ {p x:Int} (hp:dG p) (hx:f0 p x):wD (p,x)=some (ir p 1 x (p - 2).toNat):=if_pos ⟨hp,hx⟩
theorem agH {p x:Int} (hp:dG p) (hx:f0 p x):Ay (p,x)=some (ir p 1 x (p - 2).toNat):=if_pos ⟨hp,hx⟩
theorem UQ {r c:Nat} (M M':cj):cO (aA r c M) 0 (J (aA r c M'))=some (aA r c M):=Di (by rw[Cp];exact(pi r c M))
theorem acH {α:Type} {b:Bool} {u v x:α} (h1:b=true->u=x) (h2:b=false->v=x):aL b u v=x:=by
 cases b
 ·exact h2 rfl
 ·exact h1 rfl
section
variable {p:Int} {r c:Nat} {M0:cj}
abbrev Ui (p:Int) (r c:Nat) (L0:List Int) (s:cj×List Int×Int) (j:Nat):(Int×Int×Int)×(Int×Int×List Int)×(Int×Int)×(Int×Int)×List Int×List Int×List Int:=
 ((p,s.2.2,(j:Int)),((r:Int),(c:Int),L0),((0:Int),(0:Int)),((r:Int),(c:Int)),([]:List Int),aA r c s.1,s.2.1)
theorem aff (hp:dG p) (hr:r<=4096) (hc:c<=4096) (dc:r*c<=1048576) (hM:d8 p r c M0):
  GL aM (p,(r:Int),(c:Int),aA r c M0)=some (((r:Int),(c:Int),aA r c (f9 p r M0 c).1),(f9 p r M0 c).2.1,(f9 p r M0 c).2.2):=by
 obtain⟨n,hn,bS,XB⟩:=abj (fun j=>(f9 p r M0 j).2.1.length<r) c
 have afF:f9 p r M0 c=f9 p r M0 n:=by
  rcases XB with e|e
  ·rw[e]
  ·obtain⟨d,rfl⟩:∃d,c=n+d:=⟨c - n,by omega⟩
   exact Z2 e d
 rw[afF]
 have hlen:(aA r c M0).length<=1099511627776:=by rw[pi];omega
 simp only[GL,qd,if_pos hlen,az,df]
 rw[je (r:=Sum.inl ((f9 p r M0 n).2.2,((0:Int),(0:Int)),((r:Int),(c:Int)),([]:List Int),aA r c (f9 p r M0 n).1,(f9 p r M0 n).2.1)) (fun j=>Ui p r c (aA r c M0) (f9 p r M0 j) j) n ?_ ?_ ?_ (ew (by omega))]
 ·rw[show ai 0 0 (J ([]:List Int))=some () from rfl];simp only[az];rw[eI];simp only[jB,az]
 ·intro j hj
  have hI:=J8 hp hM (r:=r) (c:=c) j
  have hl:=bS j hj
  generalize hs:f9 p r M0 j=s at hI hl⊢
  have hS:f9 p r M0 (j+1)=mM p r s j:=by rw[<-hs];rfl
  obtain⟨M,L,d⟩:=s
  simp only at hl
  have kw:d8 p r c M:=hI.m
  have Xn:f0 p d:=hI.d
  simp only[Ui]
  rw[bt (jz (show j<c by omega)),bt (show bD (ba (J L)) (r:Int)=true from jz hl)]
  simp only[oP,az]
  rw[show ba (J L)=((L.length:Nat):Int) from rfl,ZM hr hc dc (show L.length<=r by omega) (show j<c by omega),az]
  cases hk:iQ M j (r - L.length) L.length with
  |none=>
   rw[hS,Ro (s:=(M,L,d)) hl hk,bt (show bD (vU none) 0=true from rfl),eI]
   simp only[iz (show j<=1048577 by omega)]
  |some k=>
   obtain⟨tx,iF,hq3⟩:=FA hk
   have rV:k<r:=by omega
   rw[hS,Rp (s:=(M,L,d)) hl hk,br (show bD (vU (some k)) 0=false from ff (by show(0:Int)<=(k:Int);omega))]
   have zm:=KQ kw hl rV
   have hx:=zm L.length hl j (by omega)
   have Ew:=Yy hp (p - 2).toNat 1 (fh M L.length k L.length j) (Q3 hp)
   have hd':f0 p (if k=L.length then d else(p - d)%p):=by split;exact Xn;exact tg hp _
   rw[acH (b:=dU (vU (some k)) ((L.length:Nat):Int)) (x:=some (Sum.inl (((if k=L.length then d else(p - d)%p),((L.length:Nat):Int),(j:Int),p),((r:Int),(c:Int),aA r c M0),((0:Int),(0:Int)),((r:Int),(c:Int)),([]:List Int),aA r c (fh M L.length k),L))) ?_ ?_]
   ·rw[eI]
    simp only[pI (show L.length<=1048576 by omega) (show c<=1048576 by omega) (show j<=1048576 by omega),uH _ hl (show j<c by omega),az,nU,uY _ hl (show j<c by omega)]
    rw[Ct hp hd'.le hx.le,az,agJ hp hx,az]
    rw[je (r:=Sum.inl ((CJ p M L.length j k d,p,(j:Int),((L.length:Nat):Int)),((r:Int),(c:Int),aA r c M0),((0:Int),(0:Int)),((r:Int),(c:Int)),([]:List Int),aA r c (q8 p M L.length j k),L)) (fun b=>((p,CJ p M L.length j k d,(j:Int),((L.length:Nat):Int),ir p 1 (fh M L.length k L.length j) (p - 2).toNat,(b:Int)),((r:Int),(c:Int),aA r c M0),((0:Int),(0:Int)),((r:Int),(c:Int)),([]:List Int),aA r c (wb p (ir p 1 (fh M L.length k L.length j) (p - 2).toNat) (fh M L.length k) L.length b),L)) c ?_ ?_ ?_ (ew (by omega))]
    ·rw[eI]
     simp only
     have hP:d8 p r c (q8 p M L.length j k):=Rf hp kw hl rV j
     generalize q8 p M L.length j k=P at hP⊢
     generalize hD:CJ p M L.length j k d=D
     rw[je (r:=Sum.inl (((j:Int),p,D),((r:Int),(c:Int),aA r c M0),((0:Int),(0:Int)),((r:Int),(c:Int)),([]:List Int),aA r c (fk p P L.length j r),L)) (fun a=>((p,D,(j:Int),((L.length:Nat):Int),(a:Int)),((r:Int),(c:Int),aA r c M0),((0:Int),(0:Int)),((r:Int),(c:Int)),([]:List Int),aA r c (fk p P L.length j a),L)) r ?_ ?_ ?_ (ew (by omega))]
     ·rw[eI]
      simp only
      rw[Di (xs:=[(j:Int)]) (n:=1) rfl,az,qz (by simp only[aV,J,e8,List.length_cons,List.length_nil];omega),az,YR,df,az,eI]
      simp only[iz (show j<=1048577 by omega),<-hD]
      rfl
     ·intro a ha
      simp only
      rw[bt (jz ha)]
      by_cases bO:a=L.length
      ·rw[br (lM (by omega))]
       simp only[iz (show a<=1048577 by omega)]
       rw[bO,Mw]
      ·rw[bt (oF (by omega))]
       simp only[pI (show a<=1048576 by omega) (show c<=1048576 by omega) (show j<=1048576 by omega),uH _ ha (show j<c by omega),az,nU,uY _ ha (show j<c by omega),DK]
       rw[VO hp hr hc dc ha hl (hP a ha j (by omega)).le (Mv hp hP _ _ _)]
       simp only[az,qC,iz (show a<=1048577 by omega)]
       rw[VR P L.length j a bO]
     ·simp only
      rw[br (kc (Nat.le_refl r))]
     ·rw[Mu]
      rfl
    ·intro b hb
     simp only
     rw[bt (jz hb)]
     simp only[pI (show L.length<=1048576 by omega) (show c<=1048576 by omega) (show b<=1048576 by omega),uH _ hl hb,az,nU,uY _ hl hb,aau]
     rw[Ct hp (zm L.length hl b hb).le Ew.le]
     simp only[az,FR _ hb,qC,aav,iz (show b<=1048577 by omega)]
    ·simp only
     rw[br (kc (Nat.le_refl c)),aat]
     rfl
    ·rw[aas]
     rfl
   ·intro av
    have afY:k≠L.length:=by
     intro q;subst q;rw[show dU (vU (some L.length)) ((L.length:Nat):Int)=false from lM rfl] at av;cases av
    rw[if_neg afY,show vU (some k)=(k:Int) from rfl,KR hr hc dc hl rV,az,ami hp Xn]
    simp only[az,qC]
   ·intro dP
    have XC:k=L.length:=by
     by_cases q:k=L.length
     ·exact q
     ·rw[show dU (vU (some k)) ((L.length:Nat):Int)=true from oF (by show((k:Nat):Int)≠_;omega)] at dP;cases dP
    rw[if_pos XC,XC,aml]
 ·simp only[Ui]
  by_cases od:n=c
  ·subst od
   rw[br (kc (Nat.le_refl n))]
  ·have he:r<=(f9 p r M0 n).2.1.length:=by
    rcases XB with e|e
    ·exact absurd e od
    ·exact Nat.le_of_not_lt e
   rw[bt (jz (show n<c by omega)),br (show bD (ba (J (f9 p r M0 n).2.1)) (r:Int)=false from kc he)]
 ·rfl
end
section
variable {p:Int} {r c:Nat} {M0:cj}
abbrev Uh (p:Int) (r c:Nat) (s:cj×List Int×Int) (j:Nat):(Int×Int)×(Int×Int)×(Int×Int)×List Int×List Int×List Int:=
 ((p,(j:Int)),((0:Int),(0:Int)),((r:Int),(c:Int)),([]:List Int),aA r c s.1,s.2.1)
theorem afe (hp:dG p) (hr:r<=4096) (hc:c<=4096) (dc:r*c<=1048576) (hM:d8 p r c M0):
  GF aM (p,(r:Int),(c:Int),aA r c M0)=some (((r:Int),(c:Int),aA r c (f9 p r M0 c).1),(f9 p r M0 c).2.1):=by
 have hlen:(aA r c M0).length<=1099511627776:=by rw[pi];omega
 simp only[GF,Ax,if_pos hlen,az,df]
 rw[je (r:=Sum.inl (((0:Int),(0:Int)),((r:Int),(c:Int)),([]:List Int),aA r c (f9 p r M0 c).1,(f9 p r M0 c).2.1)) (fun j=>Uh p r c (f9 p r M0 j) j) c ?_ ?_ ?_ (ew (by omega))]
 ·rw[show ai 0 0 (J ([]:List Int))=some () from rfl];simp only[az];rw[eI];simp only[jB,az]
 ·intro j hj
  have hI:=J8 hp hM (r:=r) (c:=c) j
  generalize hs:f9 p r M0 j=s at hI⊢
  have hS:f9 p r M0 (j+1)=mM p r s j:=by rw[<-hs];rfl
  obtain⟨M,L,d⟩:=s
  have kw:d8 p r c M:=hI.m
  have fa:L.length<=r:=hI.l
  have hlj:L.length<=j:=hI.lj
  simp only[Uh]
  rw[bt (jz hj)]
  have alN:∃k:Nat,L.length<=k/\k<=r/\(∀i,L.length<=i->i<k->M i j=0)/\((k=r/\mM p r (M,L,d) j=(M,L,d))\/(k<r/\M k j≠0/\L.length<r/\mM p r (M,L,d) j=(fk p (q8 p M L.length j k) L.length j r,L++[(j:Int)],CJ p M L.length j k d))):=by
   by_cases hl:L.length<r
   ·cases hk:iQ M j (r - L.length) L.length with
    |none=>exact⟨r,fa,Nat.le_refl r,fun i h1 h2=>Re hk i h1 (by omega),.inl ⟨rfl,Ro (s:=(M,L,d)) hl hk⟩⟩
    |some k=>
     obtain⟨q1,q2,q3⟩:=FA hk
     exact⟨k,q1,by omega,fun i h1 h2=>ZK hk i h1 h2,.inr ⟨by omega,q3,hl,Rp (s:=(M,L,d)) hl hk⟩⟩
   ·refine⟨r,fa,Nat.le_refl r,fun i h1 h2=>by omega,.inl ⟨rfl,?_⟩⟩
    unfold mM
    exact if_neg hl
  obtain⟨k,I6,XL,hk3,XM⟩:=alN
  rw[je (r:=Sum.inl (((k:Int),((L.length:Nat):Int),(j:Int),p),((0:Int),(0:Int)),((r:Int),(c:Int)),([]:List Int),aA r c M,L)) (fun e=>((p,(j:Int),((L.length:Nat):Int),((L.length+e:Nat):Int)),((0:Int),(0:Int)),((r:Int),(c:Int)),([]:List Int),aA r c M,L)) (k - L.length) ?_ ?_ ?_ (ew (by omega))]
  ·rw[eI]
   simp only
   rcases XM with⟨rV,N2⟩|⟨rV,av,hl,N2⟩
   ·rw[hS,N2,bt (y3 (by omega)),eI]
    simp only[iz (show j<=1048577 by omega)]
   ·rw[hS,N2,br (yZ (by omega))]
    have zm:=KQ kw hl rV
    have hx:=zm L.length hl j hj
    have Ew:=Yy hp (p - 2).toNat 1 (fh M L.length k L.length j) (Q3 hp)
    rw[show Aw (((r:Int),(c:Int),aA r c M),((L.length:Nat):Int),(k:Int))=some (aA r c (fh M L.length k)) from KR hr hc dc hl rV,az,UQ,az,qk hr hc dc hl hj,az,agH hp hx,az]
    simp only[qC,az]
    rw[je (r:=Sum.inl ((p,(j:Int),((L.length:Nat):Int)),((0:Int),(0:Int)),((r:Int),(c:Int)),([]:List Int),aA r c (q8 p M L.length j k),L)) (fun b=>((p,(j:Int),((L.length:Nat):Int),ir p 1 (fh M L.length k L.length j) (p - 2).toNat,(b:Int)),((0:Int),(0:Int)),((r:Int),(c:Int)),([]:List Int),aA r c (wb p (ir p 1 (fh M L.length k L.length j) (p - 2).toNat) (fh M L.length k) L.length b),L)) c ?_ ?_ ?_ (ew (by omega))]
    ·rw[eI]
     simp only
     have hP:d8 p r c (q8 p M L.length j k):=Rf hp kw hl rV j
     generalize q8 p M L.length j k=P at hP⊢
     rw[je (r:=Sum.inl (((j:Int),p),((0:Int),(0:Int)),((r:Int),(c:Int)),([]:List Int),aA r c (fk p P L.length j r),L)) (fun a=>((p,(j:Int),((L.length:Nat):Int),(a:Int)),((0:Int),(0:Int)),((r:Int),(c:Int)),([]:List Int),aA r c (fk p P L.length j a),L)) r ?_ ?_ ?_ (ew (by omega))]
     ·rw[eI]
      simp only
      rw[Di (xs:=[(j:Int)]) (n:=1) rfl,az,qz (by simp only[aV,J,e8,List.length_cons,List.length_nil];omega),az,YR,df,az,eI]
      simp only[iz (show j<=1048577 by omega)]
      rfl
     ·intro a ha
      simp only
      rw[bt (jz ha)]
      by_cases bO:a=L.length
      ·rw[br (lM (by omega))]
       simp only[iz (show a<=1048577 by omega)]
       rw[bO,Mw]
      ·rw[bt (oF (by omega)),UQ,az,qk hr hc dc ha hj,az,DK]
       have IV:=hP a ha j hj
       by_cases h0:P a j=0
       ·rw[br (lM h0)]
        simp only[iz (show a<=1048577 by omega)]
        rw[acF P L.length j a hP h0]
       ·rw[bt (oF h0),az,qk hr hc dc ha hj,az,DK]
        have hs:lO .i64 p (P a j)=p - P a j:=by
         have h1:=hp.1;have h2:=hp.2;have h3:=IV.1;have h4:=IV.2
         exact sD (by omega) (by omega)
        rw[hs,Vd hp hr hc dc ha hl (by have h3:=IV.1;have h4:=IV.2;omega) (Mv hp hP _ _ _)]
        simp only[az,qC,iz (show a<=1048577 by omega)]
        rw[VR P L.length j a bO]
     ·simp only
      rw[br (kc (Nat.le_refl r))]
     ·rw[Mu]
      rfl
    ·intro b hb
     simp only
     rw[bt (jz hb),UQ,az,qk hr hc dc hl hb,az,aau,Ct hp (zm L.length hl b hb).le Ew.le,az,CV hr hc dc hl hb]
     simp only[az,qC,aav,iz (show b<=1048577 by omega)]
    ·simp only
     rw[br (kc (Nat.le_refl c)),aat]
     rfl
    ·rw[aas]
     rfl
  ·intro e he
   simp only
   rw[bt (jz (show L.length+e<r by omega)),oP,az,qk hr hc dc (show L.length+e<r by omega) hj,az,bt (y3 (hk3 _ (by omega) (by omega)))]
   simp only[iz (show L.length+e<=1048577 by omega)]
   rfl
  ·have e1:L.length+(k - L.length)=k:=by omega
   simp only[e1]
   by_cases rV:k<r
   ·have av:M k j≠0:=by
     rcases XM with⟨h1,_⟩|⟨_,h1,_⟩
     ·omega
     ·exact h1
    rw[bt (jz rV),oP,az,qk hr hc dc rV hj,az,br (yZ av)]
   ·rw[br (kc (by omega))]
  ·rfl
 ·simp only[Uh]
  rw[br (kc (Nat.le_refl c))]
 ·rfl
end
theorem Z3 {x:Int×Int×Int×List Int} (h:CK x):∃(p:Int) (r c:Nat) (M:cj),x=(p,(r:Int),(c:Int),aA r c M)/\dG p/\r<=4096/\c<=4096/\r*c<=1048576/\d8 p r c M/\M=fD c (aA r c M):=by
 obtain⟨p,x⟩:=x
 obtain⟨hp,hm,ha⟩:=h
 obtain⟨r,c,M,rfl,h1,h2,h3⟩:=tU hm
 simp only at hp ha
 have e:aA r c (fD c (aA r c M))=aA r c M:=wY (pi r c M)
 exact⟨p,r,c,fD c (aA r c M),by rw[e],hp,h1,h2,h3,nV.1 (by rw[e];exact ha),by rw[e]⟩
theorem aeS (x:Int×Int×Int×List Int) (y:(Int×Int×List Int)×List Int×Int) (h:AS x=some y):GL aM x=some y:=by
 simp only[AS] at h
 split at h
 ·rename_i hc
  obtain⟨p,r,c,M,rfl,hp,h1,h2,h3,hM,e⟩:=Z3 hc
  rw[<-h,aff hp h1 h2 h3 hM]
  simp only[sq,Int.toNat_natCast,<-e]
 ·cases h
theorem aem (x:Int×Int×Int×List Int) (y:(Int×Int×List Int)×List Int) (h:AB x=some y):GF aM x=some y:=by
 simp only[AB] at h
 split at h
 ·rename_i hc
  obtain⟨p,r,c,M,rfl,hp,h1,h2,h3,hM,e⟩:=Z3 hc
  rw[<-h,afe hp h1 h2 h3 hM]
  simp only[sq,Int.toNat_natCast,<-e]
 ·cases h
end Go.Am
end
section
namespace Go.Am
section
variable {p:Int} {r c:Nat} {M R:cj} {L:List Int}
end
end Go.Am
end
section
namespace Go.Am
def ch:Nat->Nat->Nat
 |_,0=>1
 |0,_+1=>0
 |n+1,k+1=>ch n k+ch n (k+1)
theorem H6:∀{n k:Nat},n<k->ch n k=0
 |0,k+1,_=>by simp[ch]
 |n+1,k+1,h=>by simp[ch,H6 (show n<k by omega),H6 (show n<k+1 by omega)]
theorem DG (n:Nat):ch n 0=1:=by cases n<;>rfl
theorem VA:∀n,ch n n=1
 |0=>rfl
 |n+1=>by simp[ch,VA n,H6 (Nat.lt_succ_self n)]
theorem H7:∀(n k:Nat),(k+1)*ch (n+1) (k+1)=(n+1)*ch n k
 |0,0=>by simp[ch]
 |0,k+1=>by simp[ch]
 |n+1,0=>by
  have h:=H7 n 0
  simp only[DG] at h⊢
  have e:ch (n+1+1) (0+1)=ch (n+1) 0+ch (n+1) (0+1):=rfl
  rw[e,DG]
  omega
 |n+1,k+1=>by
  have h1:=H7 n k
  have h2:=H7 n (k+1)
  have e1:ch (n+1+1) (k+1+1)=ch (n+1) (k+1)+ch (n+1) (k+1+1):=rfl
  have e2:ch (n+1) (k+1)=ch n k+ch n (k+1):=rfl
  rw[e1]
  generalize ch (n+1) (k+1+1)=B at*
  generalize ch (n+1) (k+1)=A at*
  generalize ch n k=u at*
  generalize ch n (k+1)=v at*
  subst e2
  grind
def nL (f:Nat->Nat):Nat->Nat
 |0=>0
 |m+1=>nL f m+f m
theorem abo (n a:Nat):∀m,nL (fun k=>ch (n+1) k*a^k) (m+1)=nL (fun k=>ch n k*a^k) (m+1)+a*nL (fun k=>ch n k*a^k) m
 |0=>by simp[nL,DG]
 |m+1=>by
  have h:=abo n a m
  simp only[nL] at h⊢
  have e:ch (n+1) (m+1)=ch n m+ch n (m+1):=rfl
  rw[h,e,Nat.pow_succ]
  grind
theorem Vu (a:Nat):∀n,(a+1)^n=nL (fun k=>ch n k*a^k) (n+1)
 |0=>by simp[nL,DG]
 |n+1=>by
  rw[abo]
  have e:nL (fun k=>ch n k*a^k) (n+1+1)=nL (fun k=>ch n k*a^k) (n+1):=by
   show nL _ (n+1)+ch n (n+1)*a^(n+1)=_
   rw[H6 (Nat.lt_succ_self n)];simp
  rw[e,<-Vu a n,Nat.pow_succ]
  grind
theorem abn {p:Nat} {f:Nat->Nat}:∀m,(∀k,0<k->k<=m->p∣f k)->nL f (m+1)%p=f 0%p
 |0,h=>by simp[nL]
 |m+1,h=>by
  have i:=abn m fun k h1 h2=>h k h1 (by omega)
  obtain⟨c,hc⟩:=h (m+1) (by omega) (Nat.le_refl _)
  show(nL f (m+1)+f (m+1))%p=_
  rw[hc,Nat.add_mul_mod_self_left,i]
def yK (p:Nat):Prop:=2<=p/\∀d,d∣p->d=1\/d=p
theorem yK.m7 {p a:Nat} (hp:yK p) (h:¬p∣a):Nat.Coprime p a:=by
 have:=hp.2 (Nat.gcd p a) (Nat.gcd_dvd_left p a)
 rcases this with h1|h1
 ·exact h1
 ·exact absurd (h1▸Nat.gcd_dvd_right p a) h
theorem yK.ch {p k:Nat} (hp:yK p) (h1:0<k) (h2:k<p):p∣ch p k:=by
 obtain⟨q,rfl⟩:∃q,p=q+1:=⟨p - 1,by omega⟩
 obtain⟨j,rfl⟩:∃j,k=j+1:=⟨k - 1,by omega⟩
 have hm:=H7 q j
 have hd:(q+1)∣(j+1)*Go.Am.ch (q+1) (j+1):=⟨Go.Am.ch q j,hm⟩
 exact(hp.m7 fun h=>absurd (Nat.le_of_dvd (by omega) h) (by omega)).dvd_of_dvd_mul_left hd
theorem WJ {p:Nat} (hp:yK p):∀a,a^p%p=a%p
 |0=>by rw[Nat.zero_pow (by have:=hp.1;omega)]
 |a+1=>by
  rw[Vu]
  show(nL _ p+Go.Am.ch p p*a^p)%p=_
  obtain⟨q,rfl⟩:∃q,p=q+1:=⟨p - 1,by have:=hp.1;omega⟩
  have h:=abn (p:=q+1) (f:=fun k=>Go.Am.ch (q+1) k*a^k) q fun k h1 h2=>Nat.dvd_trans (hp.ch h1 (by omega)) (Nat.dvd_mul_right _ _)
  rw[VA,Nat.one_mul,Nat.add_mod,h,WJ hp a]
  simp only[DG,Nat.pow_zero,Nat.mul_one]
  rw[<-Nat.add_mod,Nat.add_comm]
theorem aeY {p a:Nat} (hp:yK p) (ha:¬p∣a):a*a^(p - 2)%p=1:=by
 have h2:=hp.1
 have h:=WJ hp a
 have e:a^p=a*(a*a^(p - 2)):=by
  obtain⟨q,rfl⟩:∃q,p=q+2:=⟨p - 2,by omega⟩
  rw[Nat.pow_succ,Nat.pow_succ,Nat.add_sub_cancel]
  rw[Nat.mul_comm a (a^q),Nat.mul_comm a (a^q*a)]
 rw[e] at h
 have IW:0<a:=by
  rcases Nat.eq_zero_or_pos a with h|h
  ·subst h;exact absurd ⟨0,by simp⟩ ha
  ·exact h
 have hz:0<a*a^(p - 2):=Nat.mul_pos IW (Nat.pow_pos IW)
 generalize a*a^(p - 2)=z at h hz⊢
 obtain⟨y,rfl⟩:∃y,z=y+1:=⟨z - 1,by omega⟩
 have hd:p∣a*y:=by
  have e:a*(y+1)=a*y+a:=by rw[Nat.mul_add,Nat.mul_one]
  rw[e] at h
  have:(a*y+a - a)%p=0:=Nat.sub_mod_eq_zero_of_mod_eq h
  rw[Nat.add_sub_cancel] at this
  exact Nat.dvd_of_mod_eq_zero this
 obtain⟨c,rfl⟩:=(hp.m7 ha).dvd_of_dvd_mul_left hd
 rw[Nat.add_comm,Nat.add_mul_mod_self_left]
 exact Nat.mod_eq_of_lt (by omega)
end Go.Am
end
section
namespace Go.Am
theorem agM {p:Int} (h:fS p=true):yK p.toNat:=by
 have hp:=tN h
 obtain⟨n,rfl⟩:=jP (show 0<=p by omega)
 simp only[Int.toNat_natCast]
 refine⟨by omega,fun d hd=>?_⟩
 rcases Nat.lt_or_ge d 2 with h2|h2
 ·rcases Nat.eq_zero_or_pos d with h0|h0
  ·subst h0
   have:=Nat.eq_zero_of_zero_dvd hd
   omega
  ·exact .inl (by omega)
 ·obtain⟨e,he⟩:=hd
  simp only[fS,Bool.and_eq_true,decide_eq_true_eq,Bool.not_eq_true',List.any_eq_false] at h
  have bW:∀a b:Nat,2<=a->2<=b->a<=b->n≠a*b:=by
   intro a b ha hb fm e
   have h1:a*a<=n:=by rw[e];exact Nat.mul_le_mul_left _ fm
   have h3:a<1001:=by
    rcases Nat.lt_or_ge a 1001 with h|h
    ·exact h
    ·have:=Nat.mul_le_mul h h;omega
   refine h.2 a (by simp;omega) ?_
   unfold qq
   have ea:((a:Int))*(a:Int)=((a*a:Nat):Int):=by norm_cast
   simp only[Bool.and_eq_true,decide_eq_true_eq]
   constructor
   ·rw[ea];omega
   ·rw[e];push_cast;exact Int.mul_emod_right _ _
  right
  rcases Nat.lt_or_ge e 2 with h3|h3
  ·have:e=1:=by
    rcases Nat.eq_zero_or_pos e with h0|h0
    ·subst h0;simp at he;omega
    ·omega
   subst this;omega
  ·exfalso
   rcases Nat.le_total d e with Of|Of
   ·exact bW d e h2 h3 Of he
   ·exact bW e d h3 h2 Of (by rw[he,Nat.mul_comm])
theorem ZN (x:Int) (b:Nat):∀m:Nat,(x*x)^m*x^b=x^(2*m+b)
 |0=>by simp
 |m+1=>by
  have ih:=ZN x b m
  rw[show 2*(m+1)+b=2*m+b+1+1 by omega,Int.pow_succ,Int.pow_succ (n:=2*m+b+1),Int.pow_succ (n:=2*m+b),<-ih]
  grind
theorem agG {p:Int} (hp:dG p):∀(n:Nat) (out x:Int),ir p out x n%p=out*x^n%p:=by
 intro n
 induction n using Nat.strongRecOn with
 |ind n ih=>
  intro out x
  by_cases h0:n=0
  ·subst h0;rw[Jq];simp
  ·rw[Jr h0,ih (n/2) (by omega)]
   have e:x^n=(x*x)^(n/2)*x^(n%2):=by
    rw[ZN,Nat.div_add_mod]
   rw[e]
   have h1:((x*x%p)^(n/2))%p=((x*x)^(n/2))%p:=by
    have:∀k:Nat,((x*x%p)^k)%p=((x*x)^k)%p:=by
     intro k
     induction k with
     |zero=>simp
     |succ k ih=>rw[Int.pow_succ,Int.pow_succ,Int.mul_emod,ih,Int.emod_emod,<-Int.mul_emod]
    exact this _
   by_cases hb:n%2=1
   ·rw[if_pos hb,hb,Int.mul_emod,h1,Int.emod_emod,<-Int.mul_emod]
    congr 1
    grind
   ·rw[if_neg hb,show n%2=0 by omega,Int.mul_emod,h1,<-Int.mul_emod]
    congr 1
    grind
theorem agK {p x:Int} (EG:fS p=true) (hx:f0 p x) (h0:x≠0):x*ir p 1 x (p - 2).toNat%p=1:=by
 have hp:=tN EG
 have be:dG p:=⟨hp.1,hp.2⟩
 obtain⟨n,rfl⟩:=jP (show 0<=p by omega)
 obtain⟨a,rfl⟩:=jP hx.1
 have hN:=agM EG
 simp only[Int.toNat_natCast] at hN
 have ha:¬n∣a:=fun h=>by
  have:=Nat.le_of_dvd (by omega) h
  have:=hx.2
  omega
 have hf:=aeY hN ha
 have e:(((n:Int)) - 2).toNat=n - 2:=by omega
 rw[Int.mul_emod,agG be,e,Int.one_mul,<-Int.mul_emod]
 exact_mod_cast hf
def ga (f g:Nat->Int):Nat->Int
 |0=>0
 |n+1=>ga f g n+f n*g n
theorem abl {p:Int} {f f' g:Nat->Int}:∀n,(∀k,k<n->∃q,f k=f' k+p*q)->∃q,ga f g n=ga f' g n+p*q
 |0,_=>⟨0,by simp[ga]⟩
 |n+1,h=>by
  obtain⟨q,hq⟩:=abl (g:=g) n fun k hk=>h k (by omega)
  obtain⟨q',db⟩:=h n (by omega)
  exact⟨q+q'*g n,by simp only[ga,hq,db];grind⟩
theorem Un (f f2 g:Nat->Int) (c:Int):∀n,ga (fun k=>f k+c*f2 k) g n=ga f g n+c*ga f2 g n
 |0=>by simp[ga]
 |n+1=>by simp only[ga,Un f f2 g c n];grind
theorem KO (f g g2:Nat->Int) (c:Int):∀n,ga f (fun k=>g k - c*g2 k) n=ga f g n - c*ga f g2 n
 |0=>by simp[ga]
 |n+1=>by simp only[ga,KO f g g2 c n];grind
theorem Uo (f g:Nat->Int) (c:Int):∀n,ga (fun k=>f k*c) g n=ga f g n*c
 |0=>by simp[ga]
 |n+1=>by simp only[ga,Uo f g c n];grind
theorem Up (f g:Nat->Int) (c:Int):∀n,ga f (fun k=>g k*c) n=ga f g n*c
 |0=>by simp[ga]
 |n+1=>by simp only[ga,Up f g c n];grind
def dl (a b:Nat):Int:=if a=b then 1 else 0
def kS (p:Int) (n:Nat) (E X:cj):Prop:=∀a,a<n->∀b,b<n->∃q,ga (E a) (fun k=>X k b) n=dl a b+p*q
theorem kS.congr {p:Int} {n:Nat} {E E' X:cj} (h:kS p n E X) (he:∀a,a<n->∀k,k<n->∃q,E' a k=E a k+p*q):kS p n E' X:=by
 intro a ha b hb
 obtain⟨q,hq⟩:=h a ha b hb
 obtain⟨q',db⟩:=abl (p:=p) (f:=E' a) (f':=E a) (g:=fun k=>X k b) n (he a ha)
 exact⟨q+q',by rw[db,hq];grind⟩
theorem kS.swap {p:Int} {n:Nat} {E X:cj} (h:kS p n E X) {s t:Nat} (hs:s<n) (ht:t<n):∃X',kS p n (fh E s t) X':=by
 let sw:Nat->Nat:=fun i=>if i=s then t else if i=t then s else i
 have Jf:∀i,i<n->sw i<n:=by
  intro i hi
  show(if i=s then t else if i=t then s else i)<n
  split
  ·exact ht
  ·split
   ·exact hs
   ·exact hi
 have tq:∀i j,sw i=sw j->i=j:=by
  intro i j
  show(if i=s then t else if i=t then s else i)=(if j=s then t else if j=t then s else j)->i=j
  intro h
  repeat' split at h
  all_goals omega
 refine⟨fun k b=>X k (sw b),fun a ha b hb=>?_⟩
 obtain⟨q,hq⟩:=h (sw a) (Jf a ha) (sw b) (Jf b hb)
 refine⟨q,?_⟩
 have e:fh E s t a=E (sw a):=by
  funext k
  show(if a=s then E t k else if a=t then E s k else E a k)=E (if a=s then t else if a=t then s else a) k
  split
  ·rfl
  ·split<;>rfl
 rw[e,hq]
 congr 1
 unfold dl
 by_cases fm:a=b
 ·subst fm;simp
 ·rw[if_neg fm,if_neg fun h=>fm (tq _ _ h)]
theorem kS.alB {p inv u:Int} {n:Nat} {E X:cj} (h:kS p n E X) {t:Nat} (ht:t<n) (hu:u*inv%p=1):∃X',kS p n (wa p inv E t) X':=by
 have mA:∃z,u*inv=1+p*z:=⟨u*inv/p,by have:=Int.emod_add_mul_ediv (u*inv) p;omega⟩
 obtain⟨z,hz⟩:=mA
 refine⟨fun k b=>if b=t then X k t*u else X k b,kS.congr (E:=fun a k=>if a=t then E t k*inv else E a k) (fun a ha b hb=>?_) (fun a ha k hk=>?_)⟩
 ·obtain⟨q,hq⟩:=h a ha b hb
  by_cases bO:a=t
  ·subst bO
   by_cases nd:b=a
   ·subst nd
    refine⟨z+q*inv*u,?_⟩
    simp only[if_true]
    rw[Uo,Up,hq,dl,if_pos rfl]
    grind
   ·refine⟨q*inv,?_⟩
    simp only[if_true,if_neg nd]
    rw[Uo,hq,dl,if_neg (Ne.symm nd)]
    grind
  ·by_cases nd:b=t
   ·subst nd
    refine⟨q*u,?_⟩
    simp only[if_neg bO,if_true]
    rw[Up]
    have:ga (fun k=>E a k) (fun k=>X k b) n=dl a b+p*q:=hq
    rw[this,dl,if_neg bO]
    grind
   ·refine⟨q,?_⟩
    simp only[if_neg bO,if_neg nd]
    exact hq
 ·unfold wa
  by_cases bO:a=t
  ·simp only[bO,if_true]
   refine⟨-(E t k*inv/p),?_⟩
   have:=Int.emod_add_mul_ediv (E t k*inv) p
   have e:p* -(E t k*inv/p)= -(p*(E t k*inv/p)):=Int.mul_neg _ _
   omega
  ·simp only[bO,if_false]
   exact⟨0,by simp⟩
theorem kS.add {p f:Int} {n:Nat} {E E' X:cj} (h:kS p n E X) {m t:Nat} (hm:m<n) (ht:t<n) (B1:m≠t) (he:∀a,a<n->∀k,k<n->∃q,E' a k=(if a=m then E m k+f*E t k else E a k)+p*q):∃X',kS p n E' X':=by
 refine⟨fun k b=>if b=t then X k t - f*X k m else X k b,kS.congr (E:=fun a k=>if a=m then E m k+f*E t k else E a k) (fun a ha b hb=>?_) he⟩
 obtain⟨q1,h1⟩:=h a ha b hb
 obtain⟨q2,h2⟩:=h t ht b hb
 obtain⟨q3,h3⟩:=h a ha m hm
 obtain⟨q4,h4⟩:=h t ht m hm
 have ii:ga (fun k=>E a k) (fun k=>X k b) n=dl a b+p*q1:=h1
 have BF:ga (fun k=>E t k) (fun k=>X k b) n=dl t b+p*q2:=h2
 have w4:ga (fun k=>E a k) (fun k=>X k m) n=dl a m+p*q3:=h3
 have h4':ga (fun k=>E t k) (fun k=>X k m) n=dl t m+p*q4:=h4
 have d1:dl t m=0:=if_neg (Ne.symm B1)
 by_cases zl:a=m
 ·subst zl
  have d2:dl a a=1:=if_pos rfl
  by_cases nd:b=t
  ·subst nd
   have d3:dl a b=0:=if_neg B1
   have d4:dl b b=1:=if_pos rfl
   refine⟨q1+f*q2 - f*q3 - f*f*q4,?_⟩
   simp only[if_true]
   rw[Un,KO,KO,ii,BF,w4,h4',d1,d2,d3,d4]
   grind
  ·refine⟨q1+f*q2,?_⟩
   have d3:dl t b=0:=if_neg (Ne.symm nd)
   simp only[if_true,if_neg nd]
   rw[Un,ii,BF,d3]
   grind
 ·by_cases nd:b=t
  ·subst nd
   have d3:dl a m=0:=if_neg zl
   refine⟨q1 - f*q3,?_⟩
   simp only[if_neg zl,if_true]
   rw[KO,ii,w4,d3]
   grind
  ·refine⟨q1,?_⟩
   simp only[if_neg zl,if_neg nd]
   exact ii
def RK (p:Int) (n:Nat) (s:cj×List Int×Int) (j:Nat):Prop:=
 (∃X,kS p n (fun a k=>s.1 a (n+k)) X)/\∀b,b<j->∀i,s.2.1.length<=i->i<n->s.1 i b=0
theorem RK.step {p:Int} {n:Nat} {s:cj×List Int×Int} {j:Nat} (EG:fS p=true) (hj:j<2*n) (I:RI p n (2*n) s j) (h:RK p n s j):RK p n (mM p n s j) (j+1):=by
 have hp:dG p:=tN EG
 obtain⟨⟨X,hX⟩,hz⟩:=h
 obtain⟨M,L,d⟩:=s
 simp only at hX hz
 by_cases hl:L.length<n
 ·cases hk:iQ M j (n - L.length) L.length with
  |none=>
   rw[Ro (s:=(M,L,d)) hl hk]
   refine⟨⟨X,hX⟩,fun b hb i h1 h2=>?_⟩
   by_cases N7:b=j
   ·subst N7;exact Re hk i h1 (by simp only at h1;omega)
   ·exact hz b (by omega) i h1 h2
  |some k=>
   rw[Rp (s:=(M,L,d)) hl hk]
   simp only
   have hq:=FA hk
   have vg:k<n:=by omega
   have hM:d8 p n (2*n) M:=I.m
   have hx:f0 p (M k j):=hM k vg j hj
   have Jf:fh M L.length k L.length j=M k j:=if_pos rfl
   have hi:=agK EG hx hq.2.2
   generalize Ew:ir p 1 (M k j) (p - 2).toNat=inv at hi
   have af8:q8 p M L.length j k=wa p inv (fh M L.length k) L.length:=by unfold q8;rw[Jf,Ew]
   rw[af8]
   have hS:d8 p n (2*n) (fh M L.length k):=KQ hM hl vg
   generalize BG:wa p inv (fh M L.length k) L.length=M2
   have am7:d8 p n (2*n) M2:=by rw[<-BG];exact aar hp hS _
   constructor
   ·obtain⟨X1,hX1⟩:=hX.swap (s:=L.length) (t:=k) hl vg
    obtain⟨X2,hX2⟩:=hX1.alB (inv:=inv) (u:=M k j) hl hi
    have base:kS p n (fun a b=>fk p M2 L.length j 0 a (n+b)) X2:=by
     rw[Mu,<-BG];exact hX2
    have bW:∀m,m<=n->∃X',kS p n (fun a b=>fk p M2 L.length j m a (n+b)) X':=by
     intro m
     induction m with
     |zero=>intro _;exact⟨X2,base⟩
     |succ m ih=>
      intro hm
      obtain⟨X',Xq⟩:=ih (by omega)
      by_cases B1:m=L.length
      ·subst B1
       rw[Mw];exact⟨X',Xq⟩
      ·refine Xq.add (f:=p - M2 m j) (m:=m) (t:=L.length) (by omega) hl B1 fun a ha b hb=>?_
       show∃q,fk p M2 L.length j (m+1) a (n+b)=_
       by_cases zl:a=m
       ·subst zl
        rw[if_pos rfl]
        show∃q,fk p M2 L.length j (a+1) a (n+b)=(fk p M2 L.length j a a (n+b)+(p - M2 a j)*fk p M2 L.length j a L.length (n+b))+p*q
        rw[DK,VQ]
        unfold fk
        rw[if_pos ⟨by omega,B1⟩]
        refine⟨-((M2 a (n+b)+(p - M2 a j)*M2 L.length (n+b))/p),?_⟩
        have e1:=Int.emod_add_mul_ediv (M2 a (n+b)+(p - M2 a j)*M2 L.length (n+b)) p
        have e2:=Int.mul_neg p ((M2 a (n+b)+(p - M2 a j)*M2 L.length (n+b))/p)
        omega
       ·rw[if_neg zl]
        refine⟨0,?_⟩
        show fk p M2 L.length j (m+1) a (n+b)=fk p M2 L.length j m a (n+b)+p*0
        unfold fk
        by_cases hc:a<m/\a≠L.length
        ·rw[if_pos hc,if_pos ⟨by omega,hc.2⟩];simp
        ·rw[if_neg hc,if_neg (by omega)];simp
    exact bW n (Nat.le_refl _)
   ·intro b hb i h1 h2
    simp only[List.length_append,List.length_cons,List.length_nil] at h1
    show fk p M2 L.length j n i b=0
    unfold fk
    rw[if_pos ⟨h2,by omega⟩]
    have e2:∀c,M2 i c=fh M L.length k i c:=fun c=>by rw[<-BG];exact if_neg (by omega)
    have e3:∀c,M2 L.length c=M k c*inv%p:=fun c=>by rw[<-BG];show(if L.length=L.length then _ else _)=_;rw[if_pos rfl];congr 2;exact if_pos rfl
    by_cases N7:b=j
    ·subst N7
     rw[e3 b,hi]
     have:M2 i b+(p - M2 i b)*1=p:=by omega
     rw[this];exact Int.emod_self
    ·have N8:b<j:=by omega
     rw[e3 b,hz b N8 k hq.1 vg,e2 b]
     have:fh M L.length k i b=0:=by
      unfold fh
      rw[if_neg (by omega)]
      split
      ·exact hz b N8 L.length (Nat.le_refl _) hl
      ·exact hz b N8 i (by omega) h2
     rw[this];simp
 ·unfold mM
  rw[if_neg hl]
  exact⟨⟨X,hX⟩,fun b hb i h1 h2=>by simp only at h1;omega⟩
end Go.Am
end
section
namespace Go.Am
def amS (n:Nat) (M:cj):cj:=fun a b=>if b<n then M a b else dl a (b - n)
def amT (n:Nat) (M:cj):cj:=fD (2*n) (aA n (2*n) (amS n M))
def Yz (p:Int) (n:Nat) (M:cj):cj×List Int×Int:=f9 p n (amT n M) (2*n)
def agI (p:Int) (n:Nat) (M:cj):Prop:=∀i,i<n->(Yz p n M).2.1.getD i 0=(i:Int)
instance (p:Int) (n:Nat) (M:cj):Decidable (agI p n M):=inferInstanceAs (Decidable (∀i,i<n->(Yz p n M).2.1.getD i 0=(i:Int)))
section
variable {p:Int} {n:Nat} {M R:cj} {L:List Int}
end
section
variable {p:Int} {n:Nat} {M R:cj} {L:List Int}
end
end Go.Am
end
section
namespace Go.Am
abbrev fM:=Int×Int×List Int
abbrev iY:=Int×Int×List Int×List (Int×Int×List Int)×List Int
def Ar (k:Nat) (w:List Int):Prop:=∀c∈w,0<=c/\c<(k:Int)
instance (k:Nat) (w:List Int):Decidable (Ar k w):=inferInstanceAs (Decidable (∀c∈w,0<=c/\c<(k:Int)))
def wj (p:Int) (n:Nat) (ms:List fM) (v:List Int) (c:Int):List Int:=aA 1 n (g0 p n (fD n v) (fD n (ms.getD c.toNat (0,0,[])).2.2))
def ef (p:Int) (n:Nat) (ms:List fM) (v:List Int) (w:List Int):List Int:=w.foldl (wj p n ms) v
def yG:Int×List Int×Int×Int×List Int->Option (List Int):=fun(x:Int×List Int×Int×Int×List Int)=>
 match qf (x.1,(1,x.2.2.1,x.2.1),x.2.2) with
 |some y=>some y.2.2
 |none=>none
def uD (x:iY):Bool:=match x with
 |(m,n,a,ms,b)=>fS m&&(decide (0<=n/\n<=24)&&((iR m a&&decide ((a.length:Int)=n))&&((iR m b&&decide ((b.length:Int)=n))&&(decide (1<=ms.length/\ms.length<=4)&&ms.all fun y=>decide (y.1=n/\y.2.1=n/\y.2.2.length=n.toNat*n.toNat)&&iR m y.2.2))))
def Rm (x:iY×List Int):Prop:=uD x.1=true/\Ar x.1.2.2.2.1.length x.2/\x.2.length<=1048576
instance (x:iY×List Int):Decidable (Rm x):=by unfold Rm;infer_instance
def sP:iY×List Int->Option (List Int):=fun(x:iY×List Int)=>if Rm x then some (ef x.1.1 x.1.2.1.toNat x.1.2.2.2.1 x.1.2.2.1 x.2) else none
def yB:iY×List Int->Option (List Int):=sP
def HT:aq:=[(.one,[.int .i64]),(.one,[.list [.int .i64]]),(.agg,[.int .i64,.int .i64,.list [.int .i64]])]
def SA:aq:=[(.one,[.list [.int .i64]])]
def aiK:aN:=[]
def HQ:aq:=[(.agg,[.int .i64,.int .i64,.list [.int .i64],.list [.int .i64,.int .i64,.list [.int .i64]],.list [.int .i64]]),(.one,[.list [.int .i64]])]
def Sy:aq:=[(.one,[.list [.int .i64]])]
def aiI:aN:=[]
def Hf:aq:=[(.agg,[.int .i64,.int .i64,.list [.int .i64],.list [.int .i64,.int .i64,.list [.int .i64]],.list [.int .i64]]),(.one,[.list [.int .i64]])]
def RX:aq:=[(.one,[.list [.int .i64]])]
def aie:aN:=[]
def LO (NN:Nat):(Int×((List Int)×(Int×(Int×(List Int)))))->(Option (List Int)):=
 (fun((i0,l1,i2,i3,l4):(Int×((List Int)×(Int×(Int×(List Int))))))=>
 (qf (i0,((1:Int),i2,l1),i2,i3,l4)).U (fun(i5,i6,l7)=>
 (dH l7 (J l7)).U (fun l8=>
 some l8)))
def GO (NN:Nat):((Int×(Int×((List Int)×((List (Int×(Int×(List Int))))×(List Int)))))×(List Int))->(Option (List Int)):=
 (fun(((i0,i1,l2,l3,l4),l5):((Int×(Int×((List Int)×((List (Int×(Int×(List Int))))×(List Int)))))×(List Int)))=>
 (qd l2).U (fun l6=>
 cI ((ai 0 (J l6) (J l6)).U (fun _=>
 bC NN (fun(((l7,i8,i9),(cR,dA,d9,kF,ju),dn):(((List Int)×(Int×Int))×((Int×(Int×((List Int)×((List (Int×(Int×(List Int))))×(List Int)))))×(List Int))))=>
 aL (bD i9 i8)
 ((eX l7 i9).U (fun gz=>
 (eX kF gz).U (fun(tF,ja,gQ)=>
 (cO dn 0 (J dn)).U (fun iu=>
 (yG (cR,iu,tF,ja,gQ)).U (fun qU=>
 (ai 0 (J qU) (J qU)).U (fun _=>
 some (Sum.inl ((l7,i8,bB .i64 i9 1),(cR,dA,d9,kF,ju),qU))))))))
 (((ai 0 (J dn) (J dn)).U (fun _=>
 some (Sum.inl dn))).U (fun jb=>
 some (Sum.inr jb))))
 ((l5,ba (J l5),(0:Int)),(i0,i1,l2,l3,l4),l6)))
 (fun eE=>
 (dH eE (J eE)).U (fun jc=>
 some jc))))
def GG (NN:Nat):((Int×(Int×((List Int)×((List (Int×(Int×(List Int))))×(List Int)))))×(List Int))->(Option (List Int)):=
 (fun(((i0,i1,l2,l3,l4),l5):((Int×(Int×((List Int)×((List (Int×(Int×(List Int))))×(List Int)))))×(List Int)))=>
 (qb l2).U (fun l6=>
 cI ((ai 0 (J l6) (J l6)).U (fun _=>
 bC NN (fun(((l7,i8,i9),(cR,dA,d9,kF,ju),(lD,gz),cu):(((List Int)×(Int×Int))×((Int×(Int×((List Int)×((List (Int×(Int×(List Int))))×(List Int)))))×((Int×Int)×(List Int)))))=>
 aL (bD i9 i8)
 ((eX l7 i9).U (fun ja=>
 (eX kF ja).U (fun(fZ,kA,qU)=>
 (cO cu 0 (J cu)).U (fun jb=>
 (Az (cR,(lD,gz,jb),fZ,kA,qU)).U (fun(qN,tG,f7)=>
 (ai 0 (J f7) (J f7)).U (fun _=>
 some (Sum.inl ((l7,i8,bB .i64 i9 1),(cR,dA,d9,kF,ju),(qN,tG),f7))))))))
 (((ai 0 (J cu) (J cu)).U (fun _=>
 some (Sum.inl ((lD,gz),cu)))).U (fun mD=>
 some (Sum.inr mD))))
 ((l5,ba (J l5),(0:Int)),(i0,i1,l2,l3,l4),((1:Int),ba (J l6)),l6)))
 (fun((nt,ot),nw)=>
 (dH nw (J nw)).U (fun mE=>
 some mE))))
theorem x7 {m:Int} {l:List Int}:iR m l=true↔gG m l:=by
 simp only[iR,gG,List.all_eq_true,xv,decide_eq_true_eq,f0]
structure Dp (N:Nat) (p:Int) (n:Nat) (a:List Int) (ms:List fM) (b:List Int):Prop where
 pr:fS p=true
 hn:n<=N
 al:a.length=n
 ap:gG p a
 bl:b.length=n
 bp:gG p b
 l1:1<=ms.length
 l4:ms.length<=4
 hm:∀x∈ms,∃M:cj,x=((n:Int),(n:Int),aA n n M)/\d8 p n n M
abbrev UW:=Dp 12
abbrev oQ:=Dp 24
theorem Dp.p {N:Nat} {p:Int} {n:Nat} {a b:List Int} {ms:List fM} (h:Dp N p n a ms b):dG p:=tN h.pr
theorem Dp.b {p:Int} {n:Nat} {a b:List Int} {ms:List fM} (h:UW p n a ms b):oQ p n a ms b:=⟨h.pr,Nat.le_trans h.hn (by omega),h.al,h.ap,h.bl,h.bp,h.l1,h.l4,h.hm⟩
theorem ace {x:iY} (h:nW x=true):∃(p:Int) (n:Nat) (a:List Int) (ms:List fM) (b:List Int),x=(p,(n:Int),a,ms,b)/\UW p n a ms b:=by
 obtain⟨p,n,a,ms,b⟩:=x
 simp only[nW,Bool.and_eq_true,decide_eq_true_eq] at h
 obtain⟨h1,h2,⟨h3,h4⟩,⟨h5,h6⟩,h7,h8⟩:=h
 obtain⟨n,rfl⟩:=jP h2.1
 refine⟨p,n,a,ms,b,rfl,h1,by omega,by omega,x7.1 h3,by omega,x7.1 h5,by omega,by omega,fun x hx=>?_⟩
 have hm:=List.all_eq_true.1 h8 x hx
 simp only[tW,Bool.and_eq_true,decide_eq_true_eq] at hm
 obtain⟨hm,hr,hc⟩:=hm
 obtain⟨r,c,M,rfl,hp,hr',bZ,dc,hM⟩:=ahV hm
 simp only at hr hc
 have er:r=n:=by omega
 have ec:c=n:=by omega
 subst er ec
 exact⟨M,rfl,hM⟩
theorem JX {p:Int} {r c:Nat} {l:List Int} (hl:l.length=r*c) (h:gG p l):d8 p r c (fD c l):=nV.1 (by rw[wY hl];exact h)
theorem DF {x:iY} (h:uD x=true):∃(p:Int) (n:Nat) (a:List Int) (ms:List fM) (b:List Int),x=(p,(n:Int),a,ms,b)/\oQ p n a ms b:=by
 obtain⟨p,n,a,ms,b⟩:=x
 simp only[uD,Bool.and_eq_true,decide_eq_true_eq] at h
 obtain⟨h1,h2,⟨h3,h4⟩,⟨h5,h6⟩,h7,h8⟩:=h
 obtain⟨n,rfl⟩:=jP h2.1
 refine⟨p,n,a,ms,b,rfl,h1,by omega,by omega,x7.1 h3,by omega,x7.1 h5,by omega,by omega,fun x hx=>?_⟩
 have hm:=List.all_eq_true.1 h8 x hx
 simp only[Bool.and_eq_true,decide_eq_true_eq,Int.toNat_natCast] at hm
 obtain⟨⟨hr,hc,hl⟩,hp⟩:=hm
 obtain⟨r,c,d⟩:=x
 simp only at hr hc hl hp
 subst hr hc
 exact⟨fD n d,by rw[wY hl],JX hl (x7.1 hp)⟩
theorem DE {p:Int} {n:Nat} {a b:List Int} {ms:List fM} (H:oQ p n a ms b):uD (p,(n:Int),a,ms,b)=true:=by
 have hn:=H.hn
 have h1:=H.l1
 have h4:=H.l4
 have ha:=H.al
 have hb:=H.bl
 simp only[uD,Bool.and_eq_true,decide_eq_true_eq]
 refine⟨H.pr,⟨by omega,by omega⟩,⟨x7.2 H.ap,by omega⟩,⟨x7.2 H.bp,by omega⟩,⟨by omega,by omega⟩,List.all_eq_true.2 fun x hx=>?_⟩
 obtain⟨M,rfl,hM⟩:=H.hm x hx
 simp only[Bool.and_eq_true,decide_eq_true_eq,Int.toNat_natCast]
 exact⟨⟨trivial,trivial,pi _ _ _⟩,x7.2 (nV.2 hM)⟩
theorem L3 {x:iY} (h:nW x=true):uD x=true:=by
 obtain⟨p,n,a,ms,b,rfl,H⟩:=ace h
 exact DE H.b
section
variable {p:Int} {n:Nat} {a b:List Int} {ms:List fM}
theorem Um {s:List Int} {c:Int}:(wj p n ms s c).length=n:=by unfold wj;rw[pi];omega
theorem Ul (hp:dG p) {s:List Int} {c:Int}:gG p (wj p n ms s c):=nV.2 (aiN hp 1 n n _ _)
theorem Zn (H:oQ p n a ms b) {s:List Int} (hl:s.length=n) (hs:gG p s) {x:fM} (hx:x∈ms):
  qf (p,(1,(n:Int),s),x)=some (1,(n:Int),aA 1 n (g0 p n (fD n s) (fD n x.2.2))):=by
 obtain⟨M,rfl,hM⟩:=H.hm x hx
 have hn:=H.hn
 have Jb:n*n<=24*24:=Nat.mul_le_mul hn hn
 have e1:aA 1 n (fD n s)=s:=wY (by omega)
 have e2:aA n n (fD n (aA n n M))=aA n n M:=wY (pi _ _ _)
 have h:=QY (r:=1) (k:=n) (c:=n) (A:=fD n s) (B:=fD n (aA n n M)) H.p (by omega) (by omega) (by omega) (by omega) (by omega) (by omega) (JX (by omega) hs) (JX (pi _ _ _) (nV.2 hM))
 rw[e1,e2] at h
 exact h
theorem abi {w:List Int} (hw:Ar ms.length w) {i:Nat} {c:Int} (hc:w[i]? =some c):∃x,x∈ms/\eX ms c=some x/\ms.getD c.toNat (0,0,[])=x:=by
 have h:=hw c (List.mem_of_getElem? hc)
 obtain⟨k,rfl⟩:=jP h.1
 have hk:k<ms.length:=by omega
 refine⟨ms[k],List.getElem_mem hk,by rw[ig,List.getElem?_eq_getElem hk],?_⟩
 simp[List.getD,hk]
theorem NT {S α:Type} (f:S->α->S):∀(l:List α) (i:Nat) (s:S),zg (fun _ s a=>f s a) i s l=l.foldl f s
 |[],i,s=>rfl
 |x::l,i,s=>NT f l (i+1) (f s x)
theorem J7 (hp:dG p):∀(w:List Int) (s:List Int),s.length=n->gG p s->(ef p n ms s w).length=n/\gG p (ef p n ms s w)
 |[],s,h1,h2=>⟨h1,h2⟩
 |c::w,s,h1,h2=>J7 hp w (wj p n ms s c) Um (Ul hp)
theorem aeX (x:Int×List Int×Int×Int×List Int) (y:List Int) (h:yG x=some y):LO aM x=some y:=by
 obtain⟨p,l,r,c,d⟩:=x
 simp only[yG] at h
 split at h
 ·rename_i z e
  injection h with h
  subst h
  obtain⟨z0,z1,z2⟩:=z
  simp only[LO,e,az,jB]
 ·cases h
theorem amB (H:oQ p n a ms b) {s:List Int} (hl:s.length=n) (hs:gG p s) {x:fM} (hx:x∈ms):
  yG (p,s,x)=some (aA 1 n (g0 p n (fD n s) (fD n x.2.2))):=by
 have h:=Zn H hl hs hx
 obtain⟨M,rfl,hM⟩:=H.hm x hx
 simp only[yG]
 rw[h]
theorem afd (H:oQ p n a ms b) {w:List Int} (hw:Ar ms.length w) (hl:w.length<=1048576):GO aM ((p,(n:Int),a,ms,b),w)=some (ef p n ms a w):=by
 simp only[GO]
 rw[show qd a=some a from if_pos (by have:=H.al;have:=H.hn;omega),az]
 simp only[df,az]
 rw[Y1 w (fun s i=>((w,ba (J w),(i:Int)),(p,(n:Int),a,ms,b),s)) (fun _ s=>s.length=n/\gG p s) (fun _ s c=>wj p n ms s c) (fun s=>Sum.inl s) ?h1 ?h3 (s:=a) ⟨H.al,H.ap⟩ ?h0 (ew (by omega))]
 case h0=>rfl
 case h1=>
  intro i s c hc hI
  refine⟨?_,Um,Ul H.p⟩
  obtain⟨x,hx,hg,hd⟩:=abi hw hc
  have ht:=amB H hI.1 hI.2 hx
  simp only
  rw[bt (iL hc),ig,hc,az,hg,az]
  obtain⟨x0,x1,x2⟩:=x
  simp only[oP,az,ht,df]
  rw[mK hc (by omega)]
  unfold wj
  rw[hd]
 case h3=>
  intro s hI
  simp only
  rw[br (pL w)]
  try simp only[df,az]
 rw[eI]
 simp only[jB,az]
 rw[NT]
 rfl
theorem afc (H:oQ p n a ms b) {w:List Int} (hw:Ar ms.length w) (hl:w.length<=1048576):GG aM ((p,(n:Int),a,ms,b),w)=some (ef p n ms a w):=by
 simp only[GG]
 rw[show qb a=some a from if_pos (by have:=H.al;have:=H.hn;omega),az]
 simp only[df,az]
 have ea:ba (J a)=(n:Int):=by rw[nl,H.al]
 rw[ea]
 rw[Y1 w (fun s i=>((w,ba (J w),(i:Int)),(p,(n:Int),a,ms,b),((1:Int),(n:Int)),s)) (fun _ s=>s.length=n/\gG p s) (fun _ s c=>wj p n ms s c) (fun s=>Sum.inl (((1:Int),(n:Int)),s)) ?h1 ?h3 (s:=a) ⟨H.al,H.ap⟩ ?h0 (ew (by omega))]
 case h0=>rfl
 case h1=>
  intro i s c hc hI
  refine⟨?_,Um,Ul H.p⟩
  obtain⟨x,hx,hg,hd⟩:=abi hw hc
  have ht:Az (p,(1,(n:Int),s),x)=_:=Zn H hI.1 hI.2 hx
  simp only
  rw[bt (iL hc),ig,hc,az,hg,az]
  obtain⟨x0,x1,x2⟩:=x
  simp only[oP,az,ht,df]
  rw[mK hc (by omega)]
  unfold wj
  rw[hd]
 case h3=>
  intro s hI
  simp only
  rw[br (pL w)]
  try simp only[df,az]
 rw[eI]
 simp only[jB,az]
 rw[NT]
 rfl
end
theorem aeV (x:iY×List Int) (y:List Int) (h:sP x=some y):GO aM x=some y:=by
 obtain⟨x,w⟩:=x
 simp only[sP] at h
 split at h
 ·rename_i hc
  obtain⟨p,n,a,ms,b,rfl,H⟩:=DF hc.1
  rw[<-h]
  exact afd H hc.2.1 hc.2.2
 ·cases h
theorem aen (x:iY×List Int) (y:List Int) (h:yB x=some y):GG aM x=some y:=by
 obtain⟨x,w⟩:=x
 simp only[yB,sP] at h
 split at h
 ·rename_i hc
  obtain⟨p,n,a,ms,b,rfl,H⟩:=DF hc.1
  rw[<-h]
  exact afc H hc.2.1 hc.2.2
 ·cases h
end Go.Am
end
section
namespace Go.Am
section
variable {p:Int} {n m:Nat} {a b a2 b2:List Int} {ms Zg:List fM}
end
section
variable {p sg:Int} {n m:Nat} {a b a2 b2:List Int} {ms Zg:List fM}
end
end Go.Am
end
section
namespace Go.Am
section
variable {n:Int} {d:List (Int×Int)} {a b:Int}
end
end Go.Am
end
section
namespace Go.Am
def pW (b a:Int) (l:List Int):List Int:=l.map fun x=>if x=b then a else x
def wK (l:List Int) (i:Int):Int:=l.getD i.toNat 0
def xz (n:Nat):List Int:=(List.range n).map fun i=>((i:Nat):Int)
def CF (s:Nat) (i:Nat) (st:Int×List Int) (e:Int×Int):Int×List Int:=
 if s.testBit i=true/\wK st.2 e.1≠wK st.2 e.2 then(st.1 - 1,pW (wK st.2 e.2) (wK st.2 e.1) st.2) else st
def parts (n:Int) (es:List (Int×Int)) (s:Int):Int×List Int:=zg (CF s.toNat) 0 (n,xz n.toNat) es
def PK (s:Nat) (i:Nat) (l:List Int) (e:Int×Int):List Int:=
 if s.testBit i=true then pW (max (wK l e.1) (wK l e.2)) (min (wK l e.1) (wK l e.2)) l else l
def M8 (l:List Int):Int:=((List.range l.length).countP fun i=>l.getD i 0==(i:Int):Nat)
theorem Pq (n:Nat):(xz n).length=n:=by simp[xz]
theorem Rt (b a:Int) (l:List Int):(pW b a l).length=l.length:=by simp[pW]
theorem VY (p:Nat->Bool) (j:Nat):(List.range (j+1)).countP p=(List.range j).countP p+(if p j=true then 1 else 0):=by
 rw[List.range_succ,List.countP_append,List.countP_singleton]
theorem VX (p q:Nat->Bool) (k:Nat):∀n,k<n->(∀i,i<n->i≠k->p i=q i)->p k=true->q k=false->(List.range n).countP p=(List.range n).countP q+1
 |0,h,_,_,_=>by omega
 |n+1,h,OJ,h1,h2=>by
  rw[VY,VY]
  by_cases hk:k=n
  ·subst hk
   rw[h1,h2]
   have:(List.range k).countP p=(List.range k).countP q:=List.countP_congr fun i hi=>by
    have:=List.mem_range.1 hi
    rw[OJ i (by omega) (by omega)]
   rw[this]
   simp
  ·rw[VX p q k n (by omega) (fun i hi=>OJ i (by omega)) h1 h2,OJ n (by omega) (by omega)]
   omega
structure Dz (m:Nat) (l:List Int) (c:Int) (q:List Int):Prop where
 ll:l.length=m
 lq:q.length=m
 fU:∀i j:Nat,i<m->j<m->(l.getD i 0=l.getD j 0↔q.getD i 0=q.getD j 0)
 low:∀i:Nat,i<m->0<=l.getD i 0/\l.getD i 0<=(i:Int)/\l.getD (l.getD i 0).toNat 0=l.getD i 0
 bF:M8 l=c
theorem Z5 {b a:Int} {l:List Int} {i:Nat} (h:i<l.length):(pW b a l).getD i 0=if l.getD i 0=b then a else l.getD i 0:=by
 simp[pW,List.getD,List.getElem?_map,List.getElem?_eq_getElem h]
theorem ak6 (b:Int) (l:List Int):pW b b l=l:=by
 unfold pW
 conv=>rhs;rw[<-List.map_id l]
 refine List.map_congr_left fun x _=>?_
 split
 ·rename_i h;exact h.symm
 ·rfl
theorem Zb {b a x y:Int}:((if x=b then a else x)=(if y=b then a else y))↔(x=y\/((x=b\/x=a)/\(y=b\/y=a))):=by
 constructor
 ·intro h;split at h<;>split at h<;>omega
 ·intro h;split<;>split<;>omega
theorem Dz.step {m:Nat} {l:List Int} {c:Int} {q:List Int} (h:Dz m l c q) {u v:Nat} (hu:u<m) (hv:v<m) {s i:Nat}:
  Dz m (PK s i l ((u:Int),(v:Int))) (CF s i (c,q) ((u:Int),(v:Int))).1 (CF s i (c,q) ((u:Int),(v:Int))).2:=by
 cases hb:s.testBit i with
 |false=>
  have e1:PK s i l ((u:Int),(v:Int))=l:=if_neg (by rw[hb];decide)
  have e2:CF s i (c,q) ((u:Int),(v:Int))=(c,q):=if_neg (fun hh=>by rw[hb] at hh;exact absurd hh.1 (by decide))
  rw[e1,e2]
  exact h
 |true=>
  have ep:q.getD u 0=q.getD v 0->CF s i (c,q) ((u:Int),(v:Int))=(c,q):=fun h=>if_neg (fun hh=>hh.2 h)
  have en:q.getD u 0≠q.getD v 0->CF s i (c,q) ((u:Int),(v:Int))=(c - 1,pW (q.getD v 0) (q.getD u 0) q):=fun h=>if_pos ⟨hb,h⟩
  have el:PK s i l ((u:Int),(v:Int))=pW (max (l.getD u 0) (l.getD v 0)) (min (l.getD u 0) (l.getD v 0)) l:=if_pos hb
  obtain⟨ll,lq,fU,low,bF⟩:=h
  by_cases hq:q.getD u 0=q.getD v 0
  ·have hl:=(fU u v hu hv).2 hq
   rw[ep hq,el,hl,Int.max_self,Int.min_self,ak6]
   exact⟨ll,lq,fU,low,bF⟩
  ·have hl:l.getD u 0≠l.getD v 0:=fun e=>hq ((fU u v hu hv).1 e)
   rw[en hq,el]
   obtain⟨lu0,lu1,PT⟩:=low u hu
   obtain⟨lv0,lv1,PU⟩:=low v hv
   obtain⟨lo,hi,e1,e2,bS,tz,afU,pt,ve,XI⟩:∃lo hi:Nat,min (l.getD u 0) (l.getD v 0)=(lo:Int)/\max (l.getD u 0) (l.getD v 0)=(hi:Int)/\lo<hi/\
     (∀x:Int,(x=(hi:Int)\/x=(lo:Int))↔(x=l.getD v 0\/x=l.getD u 0))/\lo<m/\l.getD lo 0=(lo:Int)/\l.getD hi 0=(hi:Int)/\hi<m:=by
    obtain⟨a,ha⟩:=jP lu0
    obtain⟨b,hb⟩:=jP lv0
    rw[ha,Int.toNat_natCast] at PT
    rw[hb,Int.toNat_natCast] at PU
    rw[ha] at lu1 hl
    rw[hb] at lv1 hl
    rw[ha,hb]
    rcases Nat.lt_or_ge a b with fm|fm
    ·exact⟨a,b,by omega,by omega,fm,fun x=>by omega,by omega,PT,PU,by omega⟩
    ·exact⟨b,a,by omega,by omega,by omega,fun x=>by omega,by omega,PU,PT,by omega⟩
   rw[e1,e2]
   have gl:∀j,j<m->(pW (hi:Int) (lo:Int) l).getD j 0=if l.getD j 0=(hi:Int) then(lo:Int) else l.getD j 0:=fun j hj=>Z5 (by omega)
   have gq:∀j,j<m->(pW (q.getD v 0) (q.getD u 0) q).getD j 0=if q.getD j 0=q.getD v 0 then q.getD u 0 else q.getD j 0:=fun j hj=>Z5 (by omega)
   refine⟨by rw[Rt];exact ll,by rw[Rt];exact lq,?_,?_,?_⟩
   ·intro x y hx hy
    rw[gl x hx,gl y hy,gq x hx,gq y hy,Zb,Zb,tz,tz,fU x y hx hy,fU x u hx hu,fU x v hx hv,fU y u hy hu,fU y v hy hv]
   ·intro x hx
    obtain⟨h0,h1,h2⟩:=low x hx
    rw[gl x hx]
    by_cases O0:l.getD x 0=(hi:Int)
    ·rw[if_pos O0]
     refine⟨by omega,by omega,?_⟩
     rw[Int.toNat_natCast,gl lo afU,pt,if_neg (by omega)]
    ·rw[if_neg O0]
     refine⟨h0,h1,?_⟩
     rw[gl _ (by omega),h2,if_neg O0]
   ·have hc:=VX (fun j=>l.getD j 0==(j:Int)) (fun j=>(pW (hi:Int) (lo:Int) l).getD j 0==(j:Int)) hi m XI ?_ (by rw[ve];simp) (by rw[gl hi XI,if_pos ve];simp;omega)
    ·unfold M8 at bF⊢
     rw[Rt,ll]
     rw[ll,hc] at bF
     omega
    ·intro j hj av
     rw[gl j hj]
     by_cases Oq:l.getD j 0=(hi:Int)
     ·rw[if_pos Oq,Oq,Bool.eq_iff_iff]
      simp only[beq_iff_eq]
      constructor
      ·intro h;omega
      ·intro h
       have:lo=j:=by omega
       subst this
       omega
     ·rw[if_neg Oq]
theorem Pp {m i:Nat} (h:i<m):(xz m).getD i 0=(i:Int):=by
 simp[xz,List.getD,List.getElem?_map,List.getElem?_range h]
theorem Dz.init (m:Nat):Dz m (xz m) (m:Int) (xz m):=by
 refine⟨Pq m,Pq m,fun _ _ _ _=>Iff.rfl,fun i hi=>?_,?_⟩
 ·rw[Pp hi,Int.toNat_natCast,Pp hi]
  omega
 ·unfold M8
  rw[Pq]
  have:(List.range m).countP (fun i=>(xz m).getD i 0==(i:Int))=(List.range m).length:=by
   rw[List.countP_eq_length]
   intro i hi
   rw[Pp (List.mem_range.1 hi)]
   simp
  rw[this,List.length_range]
end Go.Am
end
section
namespace Go.Am
theorem ahT {X Y:Type} {f:X->Option (X⊕Y)} (n:Nat) (I:Nat->X->Prop) (Q:Y->Prop)
  (h1:∀i x,i<n->I i x->∃x',f x=some (.inl x')/\I (i+1) x') (h2:∀x,I n x->∃r,f x=some (.inr r)/\Q r) {x0:X} (h0:I 0 x0) {N:Nat} (hN:n<N):∃r,bC N f x0=some r/\Q r:=by
 have bW:∀(k i:Nat) (x:X),i+k=n->I i x->∀N,k<N->∃r,bC N f x=some r/\Q r:=by
  intro k
  induction k with
  |zero=>
   intro i x hi hx N hN
   obtain⟨N,rfl⟩:∃M,N=M+1:=⟨N - 1,by omega⟩
   have:i=n:=by omega
   subst this
   obtain⟨r,e,q⟩:=h2 x hx
   exact⟨r,by simp only[bC,e],q⟩
  |succ k ih=>
   intro i x hi hx N hN
   obtain⟨N,rfl⟩:∃M,N=M+1:=⟨N - 1,by omega⟩
   obtain⟨x',e,eZ⟩:=h1 i x (by omega) hx
   obtain⟨r,e',q⟩:=ih (i+1) x' (by omega) eZ N (by omega)
   exact⟨r,by simp only[bC,e];exact e',q⟩
 exact bW n 0 x0 (by omega) h0 N hN
theorem Ee {α:Type}:ai 0 0 (J ([]:List α))=some ():=rfl
theorem IJ {α:Type} (l:List α) (x:α):ai 0 (aV (J l) (J [x])) (J (cY l [x]))=some ():=by
 rw[show J (cY l [x])=aV (J l) (J [x]) by simp[aV,J,cY]];exact df _
end Go.Am
end
section
namespace Go.Am
def YK (x:Int×fM×fM):Prop:=dG x.1/\nC x.2.1/\nC x.2.2/\(x.2.1.1*x.2.2.1<=4096/\x.2.1.2.1*x.2.2.2.1<=4096)/\(x.2.1.1*x.2.2.1)*(x.2.1.2.1*x.2.2.2.1)<=1048576/\gG x.1 x.2.1.2.2/\gG x.1 x.2.2.2.2
instance (x:Int×fM×fM):Decidable (YK x):=by unfold YK;infer_instance
section
variable {p:Int} {r c s d:Nat} {A B:cj}
end
section
variable {p:Int} {n m:Nat} {a b a2 b2:List Int} {ms Zg:List fM}
end
end Go.Am
end
section
namespace Go.Am
end Go.Am
end
section
namespace Go.Am
def cS (om:Bool) (w:Nat) (x y:Nat->Int) (t:Nat):Int:=sm w (fun i=>sm w (fun j=>kW om x y t i j))
def pc (x y:Nat->Int) (t:Nat):Int:=sm (t+1) (fun i=>x i*y (t - i))
theorem TY:∀(n:Nat) {f:Nat->Int},(∀i,i<n->f i=0)->sm n f=0
 |0,_,_=>rfl
 |n+1,f,h=>by simp only[sm];rw[TY n (fun i hi=>h i (by omega)),h n (by omega)];rfl
theorem TX {a:Nat} {f:Nat->Int}:∀(n:Nat),a<n->(∀i,i<n->i≠a->f i=0)->sm n f=f a
 |0,h,_=>by omega
 |n+1,h,hf=>by
  simp only[sm]
  by_cases e:a=n
  ·subst e
   rw[TY a (fun i hi=>hf i (by omega) (by omega))];omega
  ·rw[TX n (by omega) (fun i hi av=>hf i (by omega) av),hf n (by omega) (by omega)];omega
theorem aaL {m:Nat} {f:Nat->Int}:∀(n:Nat),m<=n->(∀i,i<n->m<=i->f i=0)->sm n f=sm m f
 |0,h,_=>by rw[show m=0 by omega]
 |n+1,h,hf=>by
  by_cases e:m=n+1
  ·rw[e]
  ·simp only[sm]
   rw[aaL n (by omega) (fun i hi hm=>hf i (by omega) hm),hf n (by omega) (by omega)];omega
theorem acu {w t:Nat} (x y:Nat->Int) (h:t<w):cS false w x y t=pc x y t:=by
 have dw:∀i,i<w->sm w (fun j=>kW false x y t i j)=if i<=t then x i*y (t - i) else 0:=by
  intro i hi
  split
  ·rename_i xa
   rw[TX (a:=t - i) w (by omega) (fun j hj av=>by unfold kW;rw[if_neg (by omega),if_neg (by simp)])]
   unfold kW
   rw[if_pos (by omega)]
  ·exact TY w fun j hj=>by unfold kW;rw[if_neg (by omega),if_neg (by simp)]
 unfold cS pc
 rw[F3 dw,aaL (m:=t+1) w (by omega) (fun i hi hm=>if_neg (by omega))]
 exact F3 fun i hi=>if_pos (by omega)
theorem acs {om:Bool} {w t:Nat} {x x' y y':Nat->Int} (hx:∀i,i<w->x i=x' i) (hy:∀i,i<w->y i=y' i):cS om w x y t=cS om w x' y' t:=
 F3 fun i hi=>F3 fun j hj=>by unfold kW;rw[hx i hi,hy j hj]
theorem acK (x y:Nat->Int):cS true 4 x y 0=x 0*y 0 - x 1*y 3 - x 2*y 2 - x 3*y 1:=by simp[cS,sm,kW];grind
theorem acL (x y:Nat->Int):cS true 4 x y 1=x 0*y 1+x 1*y 0 - x 2*y 3 - x 3*y 2:=by simp[cS,sm,kW];grind
theorem acM (x y:Nat->Int):cS true 4 x y 2=x 0*y 2+x 1*y 1+x 2*y 0 - x 3*y 3:=by simp[cS,sm,kW];grind
theorem acN (x y:Nat->Int):cS true 4 x y 3=x 0*y 3+x 1*y 2+x 2*y 1+x 3*y 0:=by simp[cS,sm,kW]
theorem acV (p:Int) (om:Bool) (w:Nat) (x y:Nat->Int):ME p om w x y=oM w fun t=>cS om w x y t%p:=rfl
theorem acW {r:Int×Int×Int} (h:r.1=7\/r.1=8) (x y:List Int):JS r x y=ME r.2.1 (decide (r.1=8)) (iV r) (jZ x) (jZ y):=if_pos h
theorem amQ {r:Int×Int×Int} (hk:¬(r.1=7\/r.1=8)):iV r=1:=by
 obtain⟨k,p,n⟩:=r
 simp only at hk
 simp only[iV,sI]
 rw[if_neg (by omega),if_neg (by omega)]
 rfl
theorem ae0 {k p n:Int} (hk:k=7\/k=8) {j:Nat} (hj:j<iV (k,p,n)):jZ (CB (k,p,n)) j=if j=0 then 1 else 0:=by
 rw[aj0,ae1 _ hj,if_neg (show¬k=4 by omega),if_neg (show¬(k=5\/k=6) by omega)]
theorem acr {k p:Int} {w:Nat} (c:UY k p w) (u:Nat->Int) (v:Int) {t:Nat} (h:t<w):cS (decide (k=8)) w u (fun j=>if j=0 then v else 0) t=u t*v:=by
 by_cases h8:k=8
 ·obtain rfl:=c.w8 h8
  rw[decide_eq_true h8]
  match t,h with
  |0,_=>rw[acK];simp
  |1,_=>rw[acL];simp
  |2,_=>rw[acM];simp
  |3,_=>rw[acN];simp
 ·rw[decide_eq_false h8,acu _ _ h]
  unfold pc
  rw[TX (a:=t) (t+1) (by omega) (fun i hi av=>by simp only;rw[if_neg (by omega),Int.mul_zero])]
  simp only
  rw[if_pos (by omega)]
theorem aj1 {k p n:Int} (hr:CQ (k,p,n)=true) (hk:¬(k=7\/k=8)) {a:Int} (ha:0<=a/\a<=mR (k,p,n)):Q6 (k,p,n) a (if k=4 then 0 else if k=5\/k=6 then mR (k,p,n) else 1)=a:=by
 rcases Rx hr with⟨rfl,rfl,rfl⟩|⟨rfl,hp,rfl⟩|⟨rfl,hp,rfl⟩|⟨rfl,hp,rfl⟩|⟨rfl,hp,rfl⟩|⟨rfl,rfl,hn⟩|⟨rfl,hp,hn⟩|⟨rfl,hp,rZ,rfl⟩
 ·have e:mR (1,0,0)=1:=rfl
  have h1:a=0\/a=1:=by omega
  rcases h1 with rfl|rfl<;>decide
 ·have e:mR (2,p,0)=p - 1:=rfl
  have:=tN hp
  show a*1%p=a
  rw[Int.mul_one,Int.emod_eq_of_lt (by omega) (by omega)]
 ·have e:mR (3,p,0)=p:=rfl
  show min (a*1) p=a
  omega
 ·have e:mR (4,p,0)=p:=rfl
  show min (a+0) p=a
  omega
 ·have e:mR (5,p,0)=p:=rfl
  show min a p=a
  omega
 ·have e:mR (6,0,n)=2^n.toNat - 1:=rfl
  have e2:(((2:Nat)^n.toNat:Nat):Int)=(2:Int)^n.toNat:=by push_cast;rfl
  show((a.toNat&&&(2^n.toNat - 1:Int).toNat:Nat):Int)=a
  rw[show(2^n.toNat - 1:Int).toNat=2^n.toNat - 1 by omega,Nat.and_two_pow_sub_one_eq_mod,Nat.mod_eq_of_lt (by omega)]
  omega
 ·omega
 ·omega
theorem mul_one {r:Int×Int×Int} {x:List Int} (hr:CQ r=true) (hx:Bu r x=true):JS r x (CB r)=x:=by
 obtain⟨k,p,n⟩:=r
 by_cases hk:k=7\/k=8
 ·have c:=acA hr hk
  rw[acW hk,acV]
  simp only
  have hT:mR (k,p,n)=p - 1:=by
   simp only[mR]
   rw[if_neg (by omega),if_neg (by omega),if_neg (by omega)]
  refine(amq fun t ht=>?_).trans (amr (Wg hx))
  rw[acs (x':=jZ x) (y':=fun j=>if j=0 then 1 else 0) (fun _ _=>rfl) (fun i hi=>ae0 hk hi),acr c _ _ ht,Int.mul_one]
  have:=We hx ht
  rw[hT] at this
  exact Int.emod_eq_of_lt this.1 (by omega)
 ·have hw:=amQ (r:=(k,p,n)) hk
  obtain⟨e,ha⟩:=ac6 hx hw
  have e1:CB (k,p,n)=[if k=4 then 0 else if k=5\/k=6 then mR (k,p,n) else 1]:=by simp only[CB];exact ak8 hw
  rw[e,e1,aiL hk,aj1 hr hk ha]
end Go.Am
end
section
namespace Go.Am
end Go.Am
end
section
namespace Go.Am
abbrev Wd:=List Int
def v7 (p:Int) (n k:Nat) (D:List Int):Nat:=(sq (p,(k:Int),(n:Int),D)).2.1.length
def yP (p:Int) (n:Nat) (ms:List fM) (s:List Int) (S:List Wd×List Int) (w:Wd):Bool:=decide (v7 p n (S.1.length+1) (S.2++ef p n ms s w)=S.1.length+1)
def jO (t:Nat) (w:Wd):List Wd:=(List.range t).map fun(x:Nat)=>w++[(x:Int)]
def mT (p:Int) (n:Nat) (ms:List fM) (s:List Int):Nat->List Wd×List Int->List Wd->List Wd×List Int
 |0,S,_=>S
 |_+1,S,[]=>S
 |f+1,S,w::q=>if yP p n ms s S w=true then mT p n ms s f (S.1++[w],S.2++ef p n ms s w) (q++jO ms.length w) else mT p n ms s f S q
def pV (x:iY):List Wd×List Int:=mT x.1 x.2.1.toNat x.2.2.2.1 x.2.2.1 128 ([],[]) [[]]
def xX (x:iY):Option (List (List Int)×Int×Int×List Int):=if uD x=true then some ((pV x).1,((pV x).1.length:Int),x.2.1,(pV x).2) else none
def AU:iY->Option (List (List Int)×Int×Int×List Int):=xX
structure BI (p:Int) (n t:Nat) (S:List Wd×List Int) (q:List Wd):Prop where
 dl:S.2.length=S.1.length*n
 dp:gG p S.2
 kn:S.1.length<=n
 qo:∀w∈q,Ar t w/\w.length<=S.1.length
 wo:∀w∈S.1,Ar t w/\w.length<=n
section
variable {p:Int} {n:Nat} {s b:List Int} {ms:List fM}
theorem Jv (t:Nat) (w:Wd):(jO t w).length=t:=by simp[jO]
theorem abR (m:Nat) (S:List Wd×List Int):mT p n ms s m S []=S:=by cases m<;>rfl
theorem UO {m:Nat} {S:List Wd×List Int} {w:Wd} {q:List Wd} (h:yP p n ms s S w=true):mT p n ms s (m+1) S (w::q)=mT p n ms s m (S.1++[w],S.2++ef p n ms s w) (q++jO ms.length w):=if_pos h
theorem UN {m:Nat} {S:List Wd×List Int} {w:Wd} {q:List Wd} (h:¬yP p n ms s S w=true):mT p n ms s (m+1) S (w::q)=mT p n ms s m S q:=if_neg h
theorem P5 (H:oQ p n s ms b) {S:List Wd×List Int} {w:Wd} {q:List Wd} (h:BI p n ms.length S (w::q)):
  CK (p,((S.1.length+1:Nat):Int),(n:Int),S.2++ef p n ms s w)/\v7 p n (S.1.length+1) (S.2++ef p n ms s w)<=n/\(S.2++ef p n ms s w).length=(S.1.length+1)*n/\gG p (S.2++ef p n ms s w)/\v7 p n (S.1.length+1) (S.2++ef p n ms s w)<=S.1.length+1:=by
 have hn:=H.hn
 obtain⟨r1,r2⟩:=J7 (n:=n) (ms:=ms) H.p w s H.al H.ap
 have hl:(S.2++ef p n ms s w).length=(S.1.length+1)*n:=by rw[List.length_append,r1,h.dl,Nat.add_mul,Nat.one_mul]
 have hp:gG p (S.2++ef p n ms s w):=fun x hx=>by
  rcases List.mem_append.1 hx with h1|h1
  ·exact h.dp x h1
  ·exact r2 x h1
 have hk:=h.kn
 have hb:(S.1.length+1)*n<=25*24:=Nat.mul_le_mul (by omega) hn
 have I:=J8 (r:=S.1.length+1) (c:=n) H.p (JX hl hp) n
 refine⟨⟨H.p,⟨⟨by dsimp only;omega,by dsimp only;omega⟩,⟨by dsimp only;omega,by dsimp only;omega⟩,by dsimp only;rw[hl];push_cast;rfl,by dsimp only;omega⟩,hp⟩,?_,hl,hp,?_⟩
 ·unfold v7 sq
  simp only[Int.toNat_natCast]
  exact I.lj
 ·unfold v7 sq
  simp only[Int.toNat_natCast]
  exact I.l
theorem BI.no {S:List Wd×List Int} {w:Wd} {q:List Wd} (h:BI p n ms.length S (w::q)):BI p n ms.length S q:=⟨h.dl,h.dp,h.kn,fun v hv=>h.qo v (by simp[hv]),h.wo⟩
theorem BI.US (H:oQ p n s ms b) {S:List Wd×List Int} {w:Wd} {q:List Wd} (h:BI p n ms.length S (w::q)) (ha:yP p n ms s S w=true):
  BI p n ms.length (S.1++[w],S.2++ef p n ms s w) (q++jO ms.length w)/\S.1.length+1<=n:=by
 obtain⟨m1,m2,m3,m4,_⟩:=P5 H h
 have hk:=of_decide_eq_true ha
 have hw:=h.qo w (by simp)
 have vg:S.1.length+1<=n:=by omega
 refine⟨⟨by dsimp only;rw[m3,List.length_append];rfl,m4,by dsimp only;rw[List.length_append];exact vg,?_,?_⟩,vg⟩
 ·intro v hv
  dsimp only
  rw[List.length_append,List.length_singleton]
  rcases List.mem_append.1 hv with h1|h1
  ·have:=h.qo v (by simp[h1])
   exact⟨this.1,by omega⟩
  ·obtain⟨x,hx,rfl⟩:=List.mem_map.1 h1
   have hx:=List.mem_range.1 hx
   refine⟨fun c hc=>?_,by rw[List.length_append,List.length_singleton];omega⟩
   rcases List.mem_append.1 hc with h2|h2
   ·exact hw.1 c h2
   ·rw[List.mem_singleton] at h2;subst h2;exact⟨by omega,by omega⟩
 ·intro v hv
  rcases List.mem_append.1 hv with h1|h1
  ·exact h.wo v h1
  ·rw[List.mem_singleton] at h1;subst h1;exact⟨hw.1,by omega⟩
theorem Zh {k t m q:Nat} (hk:k+1<=n) (h:(n - k)*t+(q+1)<=m+1):(n - (k+1))*t+(q+t)<=m:=by
 have e:n - k=n - (k+1)+1:=by omega
 rw[e,Nat.add_mul,Nat.one_mul] at h
 omega
end
theorem abx {α:Type} {l:List α} {n:Nat} (h:n=l.length):dH l n=some l:=by subst h;unfold dH;rw[if_pos (Nat.le_refl _),List.take_length]
theorem YJ (t:Nat) (w:Wd):jO t w++[w++[(t:Int)]]=jO (t+1) w:=by unfold jO;rw[List.range_succ,List.map_append];rfl
section
variable {p:Int} {n:Nat} {s b:List Int} {ms:List fM}
end
end Go.Am
end
section
namespace Go.Am
def HP:aq:=[(.agg,[.int .i64,.int .i64,.list [.int .i64],.list [.int .i64,.int .i64,.list [.int .i64]],.list [.int .i64]])]
def Sx:aq:=[(.one,[.list [.list [.int .i64]]]),(.agg,[.int .i64,.int .i64,.list [.int .i64]])]
def aiH:aN:=[[some .aG]]
def GN (NN:Nat):(Int×(Int×((List Int)×((List (Int×(Int×(List Int))))×(List Int)))))->(Option ((List (List Int))×(Int×(Int×(List Int))))):=
 (fun((i0,i1,l2,l3,l4):(Int×(Int×((List Int)×((List (Int×(Int×(List Int))))×(List Int))))))=>
 (dH (([]:List Int)) 0).U (fun l5=>
 cI ((ai 0 0 (J (([]:List (List Int))))).U (fun _=>
 (ai 0 1 (J ((l5::([]:List (List Int)))))).U (fun _=>
 (ai 0 0 (J (([]:List Int)))).U (fun _=>
 (ai 0 0 (J (([]:List Int)))).U (fun _=>
 bC NN (fun(((i6,i7,l8,l9,gA),(dA,eD),(fq,eB),dn,ft,cu,gj):((Int×(Int×((List Int)×((List (Int×(Int×(List Int))))×(List Int)))))×((Int×Int)×((Int×Int)×((List Int)×((List Int)×((List (List Int))×(List (List Int)))))))))=>
 aL (bD (0:Int) (ba (J gj)))
 (cI ((ai 0 (J cu) (J cu)).U (fun _=>
 (ai 0 0 (J (([]:List (List Int))))).U (fun _=>
 (ai 0 (J gj) (J gj)).U (fun _=>
 (ai 0 (J dn) (J dn)).U (fun _=>
 (ai 0 (J ft) (J ft)).U (fun _=>
 bC NN (fun(((fZ,kA),(kB,lE,eE,jc,f7),(pB,nt),(ot,Jl),mE,tQ,jv,lI,iJ):((Int×Int)×((Int×(Int×((List Int)×((List (Int×(Int×(List Int))))×(List Int)))))×((Int×Int)×((Int×Int)×((List Int)×((List Int)×((List (List Int))×((List (List Int))×(List (List Int)))))))))))=>
 aL (bD kA fZ)
 (cI ((fw kA (J iJ)).U (fun k35=>
 (dj iJ (aV 0 k35)).U (fun vG=>
 (sP ((kB,lE,eE,jc,f7),vG)).U (fun mF=>
 (cO tQ 0 (J tQ)).U (fun nz=>
 (qd nz).U (fun mG=>
 (ai 0 (J mG) (J mG)).U (fun _=>
 (cO mF 0 (J mF)).U (fun j9=>
 (lf (aV (J mG) (J j9)) 8).U (fun _=>
 (cO (cY mG j9) 0 (aV (J mG) (J j9))).U (fun qV=>
 (AS (kB,bB .i64 ot 1,lE,qV)).U (fun((vD,kC,l44),Jy,tI)=>
 aL (qZ (ba (J Jy)) ot)
 ((ai 0 (J jv) (J jv)).U (fun _=>
 (ai 0 (J lI) (J lI)).U (fun _=>
 (ai 0 (J iJ) (J iJ)).U (fun _=>
 (ai 0 (J mE) (J mE)).U (fun _=>
 (ai 0 (J tQ) (J tQ)).U (fun _=>
 some (Sum.inl ((kA,fZ),(kB,lE,eE,jc,f7),(pB,nt),(ot,Jl),mE,tQ,jv,lI,iJ))))))))
 ((ai 0 (J jv) (J jv)).U (fun _=>
 (ai 0 1 (J ((vG::([]:List (List Int)))))).U (fun _=>
 (lf (aV (J jv) (J ((vG::([]:List (List Int)))))) 24).U (fun _=>
 (ai 0 (aV (J jv) (J ((vG::([]:List (List Int)))))) (J (cY jv ((vG::([]:List (List Int))))))).U (fun _=>
 (ai 0 (J lI) (J lI)).U (fun _=>
 (ai 0 (J iJ) (J iJ)).U (fun _=>
 (ai 0 (J mE) (J mE)).U (fun _=>
 (ai 0 (aV (J mG) (J j9)) (J (cY mG j9))).U (fun _=>
 bC NN (fun(((vI,lG,tJ,mC,nu),(ou,pD,fI,fe,nA),(vE,sa),(Cb,pE),oD,sd,xF,se,Co):(((List Int)×(Int×(Int×(Int×Int))))×((Int×(Int×((List Int)×((List (Int×(Int×(List Int))))×(List Int)))))×((Int×Int)×((Int×Int)×((List Int)×((List Int)×((List (List Int))×((List (List Int))×(List (List Int)))))))))))=>
 aL (bD nu mC)
 ((qd vI).U (fun vL=>
 (ai 0 (J vL) (J vL)).U (fun _=>
 (cO ((nu::([]:List Int))) 0 1).U (fun PE=>
 (lf (aV (J vL) (J PE)) 8).U (fun _=>
 (dH (cY vL PE) (aV (J vL) (J PE))).U (fun zV=>
 (ai 0 (J se) (J se)).U (fun _=>
 (ai 0 1 (J ((zV::([]:List (List Int)))))).U (fun _=>
 (lf (aV (J se) (J ((zV::([]:List (List Int)))))) 24).U (fun _=>
 (ai 0 (J xF) (J xF)).U (fun _=>
 (ai 0 (aV (J se) (J ((zV::([]:List (List Int)))))) (J (cY se ((zV::([]:List (List Int))))))).U (fun _=>
 (ai 0 (J Co) (J Co)).U (fun _=>
 (ai 0 (J oD) (J oD)).U (fun _=>
 (ai 0 (J sd) (J sd)).U (fun _=>
 some (Sum.inl ((vI,lG,tJ,mC,bB .i64 nu 1),(ou,pD,fI,fe,nA),(vE,sa),(Cb,pE),oD,sd,xF,cY se ((zV::([]:List (List Int)))),Co))))))))))))))))
 (((ai 0 (J xF) (J xF)).U (fun _=>
 (ai 0 (J se) (J se)).U (fun _=>
 (ai 0 (J Co) (J Co)).U (fun _=>
 (ai 0 (J oD) (J oD)).U (fun _=>
 (ai 0 (J sd) (J sd)).U (fun _=>
 some (Sum.inl ((tJ,lG),(ou,pD,fI,fe,nA),(vE,sa),(Cb,pE),oD,sd,xF,se,Co)))))))).U (fun Fh=>
 some (Sum.inr Fh))))
 ((vG,fZ,kA,ba (J jc),(0:Int)),(kB,lE,eE,jc,f7),(pB,nt),(bB .i64 ot 1,lE),mE,cY mG j9,cY jv ((vG::([]:List (List Int)))),lI,iJ)))))))))))))))))))))
 (fun((zI,zJ),(xr,pF,pK,mH,Jz),(pH,nv),(j7,jN),mI,iK,jd,Fi,Fj)=>
 (ai 0 (J jd) (J jd)).U (fun _=>
 (ai 0 (J Fi) (J Fi)).U (fun _=>
 (ai 0 (J Fj) (J Fj)).U (fun _=>
 (ai 0 (J mI) (J mI)).U (fun _=>
 (ai 0 (J iK) (J iK)).U (fun _=>
 some (Sum.inl ((zJ,bB .i64 zI 1),(xr,pF,pK,mH,Jz),(pH,nv),(j7,jN),mI,iK,jd,Fi,Fj)))))))))
 (((ai 0 (J lI) (J lI)).U (fun _=>
 (ai 0 (J jv) (J jv)).U (fun _=>
 (ai 0 (J mE) (J mE)).U (fun _=>
 (ai 0 (J tQ) (J tQ)).U (fun _=>
 some (Sum.inl ((kB,lE,eE,jc,f7),(pB,nt),(ot,Jl),mE,tQ,lI,jv))))))).U (fun Fk=>
 some (Sum.inr Fk))))
 ((ba (J gj),(0:Int)),(i6,i7,l8,l9,gA),(dA,eD),(fq,eB),dn,ft,cu,([]:List (List Int)),gj)))))))
 (fun((qQ,EV,mJ,nB,vM),(EW,EX),(zM,tK),zW,vN,qY,xG)=>
 (ai 0 (J xG) (J xG)).U (fun _=>
 (ai 0 (J qY) (J qY)).U (fun _=>
 (ai 0 (J zW) (J zW)).U (fun _=>
 (ai 0 (J vN) (J vN)).U (fun _=>
 some (Sum.inl ((qQ,EV,mJ,nB,vM),(EW,EX),(zM,tK),zW,vN,xG,qY))))))))
 (((ai 0 (J cu) (J cu)).U (fun _=>
 (ai 0 (J dn) (J dn)).U (fun _=>
 (ai 0 (J ft) (J ft)).U (fun _=>
 some (Sum.inl ((dA,eD),(fq,eB),dn,ft,cu)))))).U (fun Ff=>
 some (Sum.inr Ff))))
 ((i0,i1,l2,l3,l4),((0:Int),(0:Int)),((0:Int),i1),([]:List Int),([]:List Int),([]:List (List Int)),(l5::([]:List (List Int)))))))))
 (fun((B9,xo),(vz,vA),xB,kE,j8)=>
 (cO j8 0 (J j8)).U (fun qT=>
 (cO kE 0 (J kE)).U (fun Pw=>
 some (qT,vz,vA,Pw))))))
theorem ib {α β:Type} (x:α) (f:α->Option β):(some x).U f=f x:=by
 have h:∀o:Option α,o=some x->o.U f=f x:=by intro o h;subst h;rfl
 exact h _ rfl
theorem uW {α:Type}:ai 0 0 (J ([]:List α))=some ():=by
 have h:∀l:List α,l=[]->ai 0 0 (J l)=some ():=by intro l h;subst h;rfl
 exact h _ rfl
section
variable {p:Int} {n:Nat} {s b:List Int} {ms:List fM}
theorem ae5 (H:oQ p n s ms b):GN aM (p,(n:Int),s,ms,b)=xX (p,(n:Int),s,ms,b):=by
 have hp:=H.p
 have hn:=H.hn
 have OS:=H.l4
 have zw:e8=140737488355328:=rfl
 unfold xX
 rw[if_pos (DE H)]
 simp only[GN]
 rw[show dH ([]:List Int) 0=some [] from rfl]
 simp only[ib,uW]
 rw[show ai 0 1 (J [([]:List Int)])=some () from rfl]
 simp only[ib]
 obtain⟨R,hR⟩:∃R,pV (p,(n:Int),s,ms,b)=R:=⟨_,rfl⟩
 have N0:mT p n ms s 128 ([],[]) [[]]=R:=by rw[<-hR];unfold pV;simp only[Int.toNat_natCast]
 rw[hR]
 rw[JD (r:=Sum.inl ((0,0),((R.1.length:Int),(n:Int)),[],R.2,R.1))
  (fun m x=>∃(S:List Wd×List Int) (q:List Wd),x=((p,(n:Int),s,ms,b),((0:Int),(0:Int)),((S.1.length:Int),(n:Int)),([]:List Int),S.2,S.1,q)/\BI p n ms.length S q/\(n - S.1.length)*ms.length+q.length<=m/\m<=128/\mT p n ms s m S q=R) ?a1 128 _ ?a0 aM (ew (by omega))]
 ·simp only[cI,Option.bind,oP,Option.U]
 case a0=>
  exact⟨([],[]),[[]],rfl,⟨by simp,fun x hx=>absurd hx (by simp),Nat.zero_le _,fun w hw=>by rw[List.mem_singleton] at hw;subst hw;exact⟨fun c hc=>absurd hc (by simp),Nat.zero_le _⟩,fun w hw=>absurd hw (by simp)⟩,by
   have:n*ms.length<=24*4:=Nat.mul_le_mul hn OS
   simp only[List.length_nil,List.length_singleton,Nat.sub_zero];omega,Nat.le_refl _,N0⟩
 case a1=>
  rintro m x ⟨S0,q0,rfl,hB0,afX,hm,OO⟩
  dsimp only
  by_cases jM:q0.length=0
  ·left
   obtain rfl:q0=[]:=List.eq_nil_of_length_eq_zero jM
   rw[abR] at OO
   subst OO
   rw[br (ff (by unfold ba J;simp))]
   try simp only[df,uW,ib]
  ·right
   rw[bt (gC (by unfold ba J;omega))]
   simp only[df,uW,ib]
   have ane:q0.length<=m:=by
    have:=Nat.le_add_left q0.length ((n - S0.1.length)*ms.length)
    omega
   generalize hL:bC aM _ _=o
   obtain⟨z,rfl,S,lg,rfl,hB,gM,aS⟩:∃z,o=some z/\∃(S:List Wd×List Int) (lg:List Wd),z=Sum.inl ((p,(n:Int),s,ms,b),((0:Int),(0:Int)),((S.1.length:Int),(n:Int)),([]:List Int),S.2,lg,S.1)/\BI p n ms.length S lg/\(n - S.1.length)*ms.length+lg.length<=m - q0.length/\mT p n ms s (m - q0.length) S lg=R:=by
    rw[<-hL]
    refine ahT q0.length (fun j x=>∃(S:List Wd×List Int) (lg:List Wd),x=(((q0.length:Int),(j:Int)),(p,(n:Int),s,ms,b),((0:Int),(0:Int)),((S.1.length:Int),(n:Int)),([]:List Int),S.2,S.1,lg,q0)/\BI p n ms.length S (q0.drop j++lg)/\(n - S.1.length)*ms.length+(q0.drop j++lg).length<=m - j/\mT p n ms s (m - j) S (q0.drop j++lg)=R) _ ?_ ?_
     ⟨S0,[],rfl,by rw[List.drop_zero,List.append_nil];exact hB0,by rw[List.drop_zero,List.append_nil];exact afX,by rw[List.drop_zero,List.append_nil];exact OO⟩ (ew (by omega))
    ·rintro j x hj ⟨S,lg,rfl,hB,gM,aS⟩
     dsimp only
     rw[bt (gC (by omega))]
     obtain⟨w,Ya⟩:∃w,q0[j]? =some w:=⟨_,List.getElem?_eq_getElem hj⟩
     rw[drop_cons Ya] at hB gM aS
     rw[List.cons_append] at hB gM aS
     obtain⟨m',bm⟩:∃k,m - j=k+1:=⟨m - j - 1,by omega⟩
     have fo:m - (j+1)=m':=by omega
     rw[bm] at gM aS
     rw[fo]
     simp only[List.length_cons] at gM
     have hw:=hB.qo w (by simp)
     have vg:=hB.kn
     obtain⟨k1,k2,k3,k4,k5⟩:=P5 H hB
     have hb:S.1.length*n<=24*24:=Nat.mul_le_mul (by omega) hn
     have EI:=(J7 (n:=n) (ms:=ms) hp w s H.al H.ap).1
     rw[show fw (j:Int) (J q0)=some j from Ic (by unfold J;omega)]
     simp only[ib,nU]
     rw[show dj q0 j=some w from Ya]
     simp only[ib]
     rw[show sP ((p,(n:Int),s,ms,b),w)=some (ef p n ms s w) by
      simp only[sP]
      rw[if_pos ⟨DE H,hw.1,show w.length<=1048576 by omega⟩]
      simp only[Int.toNat_natCast]]
     simp only[ib,oP]
     rw[show qd S.2=some S.2 from if_pos (by rw[hB.dl];omega)]
     simp only[ib,df,oP]
     rw[qz (by simp only[aV,J];rw[hB.dl,EI];omega)]
     simp only[ib]
     rw[show cO (cY S.2 (ef p n ms s w)) 0 (aV (J S.2) (J (ef p n ms s w)))=some (S.2++ef p n ms s w) from Di (by simp[cY,aV,J])]
     simp only[ib]
     rw[lS (by omega) (by omega),show(S.1.length:Int)+1=((S.1.length+1:Nat):Int) by push_cast;rfl]
     rw[show AS (p,((S.1.length+1:Nat):Int),(n:Int),S.2++ef p n ms s w)=_ from if_pos k1]
     simp only[ib,df,uW]
     rw[show ba (J (sq (p,((S.1.length+1:Nat):Int),(n:Int),S.2++ef p n ms s w)).2.1)=((v7 p n (S.1.length+1) (S.2++ef p n ms s w):Nat):Int) from rfl]
     have ana:lg.length<=128:=by
      have:=Nat.le_add_left ((q0.drop (j+1)++lg).length+1) ((n - S.1.length)*ms.length)
      rw[List.length_append] at this gM
      omega
     by_cases ha:yP p n ms s S w=true
     ·have hk:=of_decide_eq_true ha
      obtain⟨IU,Ot⟩:=BI.US H hB ha
      rw[UO ha] at aS
      rw[br (Fm (by omega))]
      rw[show ai 0 1 (J [w])=some () from rfl]
      simp only[ib,IJ]
      rw[qz (by simp only[aV,J,List.length_singleton];omega)]
      simp only[ib]
      rw[show ai 0 (aV (J S.2) (J (ef p n ms s w))) (J (cY S.2 (ef p n ms s w)))=some () from Xe (by simp[cY,aV,J])]
      simp only[ib]
      have OA:=Zh Ot gM
      rw[List.append_assoc] at IU aS
      rw[je (r:=Sum.inl (((j:Int),(q0.length:Int)),(p,(n:Int),s,ms,b),((0:Int),(0:Int)),(((S.1.length+1:Nat):Int),(n:Int)),([]:List Int),S.2++ef p n ms s w,S.1++[w],lg++jO ms.length w,q0)) (fun x=>((w,(q0.length:Int),(j:Int),(ms.length:Int),(x:Int)),(p,(n:Int),s,ms,b),((0:Int),(0:Int)),(((S.1.length+1:Nat):Int),(n:Int)),([]:List Int),S.2++ef p n ms s w,S.1++[w],lg++jO x w,q0)) ms.length ?c1 ?c2 ?c3 (ew (by omega))]
      case c1=>
       intro x hx
       dsimp only
       rw[bt (gC (by omega))]
       rw[show qd w=some w from if_pos (by omega)]
       simp only[ib,df]
       rw[show cO [(x:Int)] 0 1=some [(x:Int)] from rfl]
       simp only[ib]
       rw[qz (by simp only[aV,J,List.length_singleton];omega)]
       simp only[ib]
       rw[show dH (cY w [(x:Int)]) (aV (J w) (J [(x:Int)]))=some (w++[(x:Int)]) from abx (by simp[cY,aV,J])]
       simp only[ib]
       rw[show ai 0 1 (J [w++[(x:Int)]])=some () from rfl]
       simp only[ib,IJ,uW]
       rw[qz (by simp only[aV,J,List.length_singleton,List.length_append,Jv];omega)]
       simp only[ib]
       rw[lS (by omega) (by omega)]
       rw[show cY (lg++jO x w) [w++[(x:Int)]]=lg++jO (x+1) w by unfold cY;rw[List.append_assoc,YJ]]
       rfl
      case c2=>
       dsimp only
       rw[br (ff (by omega))]
       try simp only[ib,df,uW]
      case c3=>simp[cY,jO,ba,J]
      simp only[cI,Option.bind,df,uW,ib]
      rw[lS (by omega) (by omega)]
      refine⟨_,rfl,(S.1++[w],S.2++ef p n ms s w),lg++jO ms.length w,?_,IU,?_,aS⟩
      ·dsimp only
       rw[List.length_append,List.length_singleton]
       rfl
      ·dsimp only
       rw[List.length_append,List.length_singleton,<-List.append_assoc,List.length_append (bs:=jO ms.length w),Jv]
       exact OA
     ·have hk:¬(v7 p n (S.1.length+1) (S.2++ef p n ms s w)=S.1.length+1):=fun h=>ha (decide_eq_true h)
      rw[UN ha] at aS
      rw[bt (vO (by omega))]
      simp only[cI,Option.bind,df,uW,ib]
      rw[lS (by omega) (by omega)]
      exact⟨_,rfl,S,lg,rfl,hB.no,by omega,aS⟩
    ·rintro x ⟨S,lg,rfl,hB,gM,aS⟩
     dsimp only
     rw[List.drop_length,List.nil_append] at hB gM aS
     rw[br (ff (by omega))]
     try simp only[df,uW,ib]
     exact⟨_,rfl,S,lg,rfl,hB,gM,aS⟩
   simp only[cI,Option.bind]
   exact⟨m - q0.length,_,by omega,rfl,S,lg,rfl,hB,gM,by omega,aS⟩
end
theorem aeU (x:iY) (z:List (List Int)×Int×Int×List Int) (h:AU x=some z):GN aM x=some z:=by
 have ho:uD x=true:=by
  unfold AU xX at h
  split at h
  ·assumption
  ·cases h
 obtain⟨p,n,s,ms,b,rfl,H⟩:=DF ho
 rw[ae5 H]
 exact h
end Go.Am
end
section
namespace Go.Am
def aaO (x:Int×fM×fM):Prop:=dG x.1/\(0<=x.2.1.1/\x.2.1.1<=x.2.1.2.1/\x.2.1.2.1<=12)/\(0<=x.2.2.1/\x.2.2.1<=12)/\x.2.2.2.1=x.2.1.2.1/\(x.2.1.2.2.length=x.2.1.1.toNat*x.2.1.2.1.toNat/\x.2.2.2.2.length=x.2.2.1.toNat*x.2.1.2.1.toNat)/\gG x.1 x.2.1.2.2/\gG x.1 x.2.2.2.2
instance (x:Int×fM×fM):Decidable (aaO x):=by unfold aaO;infer_instance
end Go.Am
end
section
namespace Go.Am
end Go.Am
end
section
namespace Go.Am
end Go.Am
end
section
namespace Go.Am
def LZ (p:Int) (M:cj) (i j:Nat):Prop:=(M i j+M j i)%p=0/\(i=j->M i j=0)
instance (p:Int) (M:cj) (i j:Nat):Decidable (LZ p M i j):=by unfold LZ;infer_instance
def Vh (p:Int) (M:cj) (i:Nat):Prop:=∀j,j<i+1->LZ p M i j
instance (p:Int) (M:cj) (i:Nat):Decidable (Vh p M i):=by unfold Vh;infer_instance
end Go.Am
end
section
namespace Go.Am
def lc (p a b:Int):Prop:=∃q,a=b+p*q
theorem lc.refl (p a:Int):lc p a a:=⟨0,by simp⟩
theorem lc.trans {p a b c:Int} (h:lc p a b) (h':lc p b c):lc p a c:=by
 obtain⟨q,rfl⟩:=h;obtain⟨q',rfl⟩:=h';exact⟨q'+q,by rw[Int.mul_add];omega⟩
theorem lc.symm {p a b:Int} (h:lc p a b):lc p b a:=by
 obtain⟨q,rfl⟩:=h;exact⟨-q,by rw[Int.mul_neg];omega⟩
theorem lc.add {p a b c d:Int} (h:lc p a b) (h':lc p c d):lc p (a+c) (b+d):=by
 obtain⟨q,rfl⟩:=h;obtain⟨q',rfl⟩:=h';exact⟨q+q',by grind⟩
theorem lc.mul {p a b c d:Int} (h:lc p a b) (h':lc p c d):lc p (a*c) (b*d):=by
 obtain⟨q,rfl⟩:=h;obtain⟨q',rfl⟩:=h';exact⟨q*d+b*q'+p*q*q',by grind⟩
section
variable {p inv:Int} {n k:Nat} {A:cj}
end
end Go.Am
end
section
namespace Go.Am
section
variable {p:Int} {n:Nat} {M:cj}
end
section
variable {p:Int} {n:Nat} {M:cj}
end
end Go.Am
end
section
namespace Go.Am
theorem UM {p:Int} {n:Nat} {s b:List Int} {ms:List fM} (H:oQ p n s ms b):∀(m:Nat) (S:List Wd×List Int) (q:List Wd),BI p n ms.length S q->BI p n ms.length (mT p n ms s m S q) []
 |0,S,q,h=>⟨h.dl,h.dp,h.kn,fun w hw=>absurd hw (by simp),h.wo⟩
 |m+1,S,[],h=>h
 |m+1,S,w::q,h=>by
  by_cases ha:yP p n ms s S w=true
  ·rw[UO ha]
   exact UM H m _ _ (BI.US H h ha).1
  ·rw[UN ha]
   exact UM H m _ _ h.no
theorem akZ {p:Int} {n:Nat} {s b:List Int} {ms:List fM} (H:oQ p n s ms b):BI p n ms.length (pV (p,(n:Int),s,ms,b)) []:=by
 have e:pV (p,(n:Int),s,ms,b)=mT p n ms s 128 ([],[]) [[]]:=by unfold pV;simp only[Int.toNat_natCast]
 rw[e]
 exact UM H 128 _ _ ⟨by simp,fun x hx=>absurd hx (by simp),Nat.zero_le _,fun w hw=>by rw[List.mem_singleton] at hw;subst hw;exact⟨fun c hc=>absurd hc (by simp),Nat.zero_le _⟩,fun w hw=>absurd hw (by simp)⟩
end Go.Am
end
section
namespace Go.Am
def AA:iY->Option (List (List Int)×Int×Int×List Int):=xX
def yz:iY->Option (List (List Int)):=fun x=>if jh x<=1048576 then some (if nW x=true then(pV x).1 else[]) else none
def AR:iY->Option (List (List Int)):=fun x=>if jh x<=1048576 then some (if nW x=true then(pV x).1 else[]) else none
def Hd:aq:=[(.agg,[.int .i64,.int .i64,.list [.int .i64],.list [.int .i64,.int .i64,.list [.int .i64]],.list [.int .i64]])]
def RU:aq:=[(.one,[.list [.list [.int .i64]]]),(.agg,[.int .i64,.int .i64,.list [.int .i64]])]
def aic:aN:=[]
def G5:aq:=[(.agg,[.int .i64,.int .i64,.list [.int .i64],.list [.int .i64,.int .i64,.list [.int .i64]],.list [.int .i64]])]
def RN:aq:=[(.one,[.list [.list [.int .i64]]])]
def ah5:aN:=[]
def HE:aq:=[(.agg,[.int .i64,.int .i64,.list [.int .i64],.list [.int .i64,.int .i64,.list [.int .i64]],.list [.int .i64]])]
def Sm:aq:=[(.one,[.list [.list [.int .i64]]])]
def aiz:aN:=[[some .aG]]
def GD (NN:Nat):(Int×(Int×((List Int)×((List (Int×(Int×(List Int))))×(List Int)))))->(Option ((List (List Int))×(Int×(Int×(List Int))))):=
 (fun((i0,i1,l2,l3,l4):(Int×(Int×((List Int)×((List (Int×(Int×(List Int))))×(List Int))))))=>
 (yA ((0:Int),i1)).U (fun(i5,i6,l7)=>
 cI ((ai 0 0 (J (([]:List (List Int))))).U (fun _=>
 (ai 0 1 (J ((([]:List Int)::([]:List (List Int)))))).U (fun _=>
 (ai 0 0 (J (([]:List Int)))).U (fun _=>
 (ai 0 (J l7) (J l7)).U (fun _=>
 bC NN (fun(((i8,i9,gA,pJ,d9),(fq,eB),(lD,gz),cu,gj,gQ,iu):((Int×(Int×((List Int)×((List (Int×(Int×(List Int))))×(List Int)))))×((Int×Int)×((Int×Int)×((List Int)×((List Int)×((List (List Int))×(List (List Int)))))))))=>
 aL (bD (0:Int) (ba (J iu)))
 ((fw (0:Int) (J iu)).U (fun YH=>
 (dj iu (aV 0 YH)).U (fun jb=>
 (iS (aV 0 YH) 0).U (fun _=>
 (ai 0 (J iu) (J iu)).U (fun _=>
 (dj iu 0).U (fun eE=>
 (cO gj 0 (J gj)).U (fun jc=>
 (qb jc).U (fun f7=>
 (cO eE 0 (J eE)).U (fun mD=>
 (yB ((i8,i9,gA,pJ,d9),mD)).U (fun Jx=>
 (ai 0 (J f7) (J f7)).U (fun _=>
 (cO Jx 0 (J Jx)).U (fun sb=>
 (lf (aV (J f7) (J sb)) 8).U (fun _=>
 (cO (cY f7 sb) 0 (aV (J f7) (J sb))).U (fun nw=>
 (AB (i8,bB .i64 lD 1,i9,nw)).U (fun((xp,pC,jv),lI)=>
 aL (bD (ba (J lI)) (bB .i64 lD 1))
 ((ai 0 (J gQ) (J gQ)).U (fun _=>
 (ai 0 (J (sF iu)) (J (sF iu))).U (fun _=>
 (ai 0 (J cu) (J cu)).U (fun _=>
 (ai 0 (J gj) (J gj)).U (fun _=>
 some (Sum.inl ((i8,i9,gA,pJ,d9),(fq,eB),(lD,gz),cu,gj,gQ,sF iu)))))))
 ((iS (J eE) (J eE)).U (fun _=>
 (dH eE (J eE)).U (fun iJ=>
 (ai 0 (J gQ) (J gQ)).U (fun _=>
 (ai 0 1 (J ((iJ::([]:List (List Int)))))).U (fun _=>
 (lf (aV (J gQ) (J ((iJ::([]:List (List Int)))))) 24).U (fun _=>
 (ai 0 (aV (J gQ) (J ((iJ::([]:List (List Int)))))) (J (cY gQ ((iJ::([]:List (List Int))))))).U (fun _=>
 (ai 0 (J (sF iu)) (J (sF iu))).U (fun _=>
 (ai 0 (J cu) (J cu)).U (fun _=>
 (ai 0 (aV (J f7) (J sb)) (J (cY f7 sb))).U (fun _=>
 bC NN (fun(((xC,r7,qO),(r8,qP,j9,qV,xD),(kC,lF),(j5,tI),vI,vJ,oB,qW):(((List Int)×(Int×Int))×((Int×(Int×((List Int)×((List (Int×(Int×(List Int))))×(List Int)))))×((Int×Int)×((Int×Int)×((List Int)×((List Int)×((List (List Int))×(List (List Int))))))))))=>
 aL (bD qO r7)
 ((qb xC).U (fun vK=>
 (ai 0 (J vK) (J vK)).U (fun _=>
 (cO ((qO::([]:List Int))) 0 1).U (fun zU=>
 (lf (aV (J vK) (J zU)) 8).U (fun _=>
 (dH (cY vK zU) (aV (J vK) (J zU))).U (fun oC=>
 (J4 (aV (J vK) (J zU))).U (fun _=>
 (ai 0 (J qW) (J qW)).U (fun _=>
 (ai 0 1 (J ((oC::([]:List (List Int)))))).U (fun _=>
 (lf (aV (J qW) (J ((oC::([]:List (List Int)))))) 24).U (fun _=>
 (ai 0 (J oB) (J oB)).U (fun _=>
 (ai 0 (aV (J qW) (J ((oC::([]:List (List Int)))))) (J (cY qW ((oC::([]:List (List Int))))))).U (fun _=>
 (ai 0 (J vI) (J vI)).U (fun _=>
 (ai 0 (J vJ) (J vJ)).U (fun _=>
 some (Sum.inl ((xC,r7,bB .i64 qO 1),(r8,qP,j9,qV,xD),(kC,lF),(j5,tI),vI,vJ,oB,cY qW ((oC::([]:List (List Int))))))))))))))))))))
 (((ai 0 (J oB) (J oB)).U (fun _=>
 (ai 0 (J qW) (J qW)).U (fun _=>
 (ai 0 (J vI) (J vI)).U (fun _=>
 (ai 0 (J vJ) (J vJ)).U (fun _=>
 some (Sum.inl ((r8,qP,j9,qV,xD),(kC,lF),(j5,tI),vI,vJ,oB,qW))))))).U (fun fI=>
 some (Sum.inr fI))))
 ((iJ,ba (J pJ),(0:Int)),(i8,i9,gA,pJ,d9),(fq,eB),(bB .i64 lD 1,i9),cu,cY f7 sb,cY gQ ((iJ::([]:List (List Int)))),sF iu))))))))))))))))))))))))))
 (((ai 0 (J gQ) (J gQ)).U (fun _=>
 (ai 0 (J cu) (J cu)).U (fun _=>
 (ai 0 (J gj) (J gj)).U (fun _=>
 some (Sum.inl ((fq,eB),(lD,gz),cu,gj,gQ)))))).U (fun fe=>
 some (Sum.inr fe))))
 ((i0,i1,l2,l3,l4),((0:Int),(0:Int)),(i5,i6),([]:List Int),l7,([]:List (List Int)),(([]:List Int)::([]:List (List Int)))))))))
 (fun((Jm,vE),(sa,Cb),l60,oD,sd)=>
 (dH sd (J sd)).U (fun xF=>
 (dH oD (J oD)).U (fun se=>
 some (xF,sa,Cb,se))))))
def Lj (NN:Nat):(Int×(Int×((List Int)×((List (Int×(Int×(List Int))))×(List Int)))))->(Option (List (List Int))):=
 (fun((i0,i1,l2,l3,l4):(Int×(Int×((List Int)×((List (Int×(Int×(List Int))))×(List Int))))))=>
 (Av (i0,i1,l2,l3,l4)).U (fun b5=>
 aL (eK b5)
 (some (([]:List (List Int))))
 ((AA (i0,i1,l2,l3,l4)).U (fun(l6,i7,i8,l9)=>
 (dH l6 (J l6)).U (fun gA=>
 some gA)))))
def LI (NN:Nat):(Int×(Int×((List Int)×((List (Int×(Int×(List Int))))×(List Int)))))->(Option (List (List Int))):=
 (fun((i0,i1,l2,l3,l4):(Int×(Int×((List Int)×((List (Int×(Int×(List Int))))×(List Int))))))=>
 (AQ (i0,i1,l2,l3,l4)).U (fun b5=>
 aL (eK b5)
 (some (([]:List (List Int))))
 ((AU (i0,i1,l2,l3,l4)).U (fun(l6,i7,i8,l9)=>
 some l6))))
theorem aai (n:Nat):iS n n=some ():=if_pos rfl
theorem amu {α:Type} (w:α) (q:List α):sF (w::q)=q:=rfl
section
variable {p:Int} {n:Nat} {s b:List Int} {ms:List fM}
theorem afb (H:oQ p n s ms b):GD aM (p,(n:Int),s,ms,b)=xX (p,(n:Int),s,ms,b):=by
 have hp:=H.p
 have hn:=H.hn
 have OS:=H.l4
 have zw:e8=140737488355328:=rfl
 unfold xX
 rw[if_pos (DE H)]
 simp only[GD]
 rw[show yA ((0:Int),(n:Int))=some ((0:Int),(n:Int),aA 0 n fun _ _=>0) from Zw (r:=0) (by omega) (by omega) (by omega)]
 simp only[az,Ee,df]
 rw[show aA 0 n (fun _ _=>0)=[] by unfold aA;rw[Nat.zero_mul];rfl,show ai 0 1 (J [([]:List Int)])=some () from rfl]
 simp only[az]
 obtain⟨R,hR⟩:∃R,pV (p,(n:Int),s,ms,b)=R:=⟨_,rfl⟩
 have N0:mT p n ms s 128 ([],[]) [[]]=R:=by rw[<-hR];unfold pV;simp only[Int.toNat_natCast]
 rw[hR]
 rw[JD (r:=Sum.inl ((0,0),((R.1.length:Int),(n:Int)),[],R.2,R.1))
  (fun m x=>∃(S:List Wd×List Int) (q:List Wd),x=((p,(n:Int),s,ms,b),((0:Int),(0:Int)),((S.1.length:Int),(n:Int)),([]:List Int),S.2,S.1,q)/\BI p n ms.length S q/\(n - S.1.length)*ms.length+q.length<=m/\m<=128/\mT p n ms s m S q=R) ?a1 128 _ ?a0 aM (ew (by omega))]
 ·simp only[cI,Option.bind,jB,Option.U]
 case a0=>
  exact⟨([],[]),[[]],rfl,⟨by simp,fun x hx=>absurd hx (by simp),Nat.zero_le _,fun w hw=>by rw[List.mem_singleton] at hw;subst hw;exact⟨fun c hc=>absurd hc (by simp),Nat.zero_le _⟩,fun w hw=>absurd hw (by simp)⟩,by
   have:n*ms.length<=24*4:=Nat.mul_le_mul hn OS
   simp only[List.length_nil,List.length_singleton,Nat.sub_zero];omega,Nat.le_refl _,N0⟩
 case a1=>
  rintro m x ⟨S,q,rfl,hB,gM,hm,aS⟩
  dsimp only
  cases q with
  |nil=>
   left
   rw[abR] at aS
   subst aS
   rw[br (ff (by unfold ba J;simp))]
   try simp only[df,Ee,az]
  |cons w q=>
   right
   obtain⟨m,rfl⟩:∃k,m=k+1:=⟨m - 1,by simp only[List.length_cons] at gM;omega⟩
   simp only[List.length_cons] at gM
   have hw:=hB.qo w (by simp)
   have vg:=hB.kn
   obtain⟨k1,k2,k3,k4,k5⟩:=P5 H hB
   have hb:S.1.length*n<=24*24:=Nat.mul_le_mul (by omega) hn
   have EI:=(J7 (n:=n) (ms:=ms) hp w s H.al H.ap).1
   rw[bt (gC (by unfold ba J;simp only[List.length_cons];omega))]
   rw[show fw (0:Int) (J (w::q))=some 0 from Ic (i:=0) (by unfold J;simp)]
   simp only[az,nU]
   rw[show dj (w::q) 0=some w from rfl]
   simp only[az,df,aai,oP,jB]
   rw[show qb S.2=some S.2 from if_pos (by rw[hB.dl];omega)]
   simp only[az,df]
   rw[show yB ((p,(n:Int),s,ms,b),w)=some (ef p n ms s w) by
    simp only[yB,sP]
    rw[if_pos ⟨DE H,hw.1,show w.length<=1048576 by omega⟩]
    simp only[Int.toNat_natCast]]
   simp only[az,oP]
   rw[qz (by simp only[aV,J];rw[hB.dl,EI];omega)]
   simp only[az]
   rw[show cO (cY S.2 (ef p n ms s w)) 0 (aV (J S.2) (J (ef p n ms s w)))=some (S.2++ef p n ms s w) from Di (by simp[cY,aV,J])]
   simp only[az]
   rw[lS (by omega) (by omega),show(S.1.length:Int)+1=((S.1.length+1:Nat):Int) by push_cast;rfl]
   rw[show AB (p,((S.1.length+1:Nat):Int),(n:Int),S.2++ef p n ms s w)=_ from if_pos k1]
   simp only[az,amu,df,Ee,aai,jB]
   rw[show ba (J (sq (p,((S.1.length+1:Nat):Int),(n:Int),S.2++ef p n ms s w)).2.1)=((v7 p n (S.1.length+1) (S.2++ef p n ms s w):Nat):Int) from rfl]
   by_cases ha:yP p n ms s S w=true
   ·have hk:=of_decide_eq_true ha
    obtain⟨IU,Ot⟩:=BI.US H hB ha
    rw[UO ha] at aS
    rw[br (ff (by omega))]
    rw[show ai 0 1 (J [w])=some () from rfl]
    simp only[az,IJ]
    rw[qz (by simp only[aV,J,List.length_singleton];omega)]
    simp only[az]
    rw[show ai 0 (aV (J S.2) (J (ef p n ms s w))) (J (cY S.2 (ef p n ms s w)))=some () from Xe (by simp[cY,aV,J])]
    simp only[az]
    have OA:=Zh (q:=q.length) Ot gM
    refine⟨m,((p,(n:Int),s,ms,b),((0:Int),(0:Int)),(((S.1++[w]).length:Int),(n:Int)),([]:List Int),S.2++ef p n ms s w,S.1++[w],q++jO ms.length w),by omega,?_,_,_,rfl,IU,?_,by omega,aS⟩
    ·refine je (fun x=>((w,(ms.length:Int),(x:Int)),(p,(n:Int),s,ms,b),((0:Int),(0:Int)),(((S.1.length+1:Nat):Int),(n:Int)),([]:List Int),S.2++ef p n ms s w,S.1++[w],q++jO x w)) ms.length ?_ ?_ ?_ (ew (by omega))
     ·intro x hx
      dsimp only
      rw[bt (gC (by omega))]
      rw[show qb w=some w from if_pos (by omega)]
      simp only[az,df]
      rw[show cO [(x:Int)] 0 1=some [(x:Int)] from rfl]
      simp only[az]
      rw[qz (by simp only[aV,J,List.length_singleton];omega)]
      simp only[az]
      rw[show dH (cY w [(x:Int)]) (aV (J w) (J [(x:Int)]))=some (w++[(x:Int)]) from abx (by simp[cY,aV,J])]
      simp only[az]
      rw[show J4 (aV (J w) (J [(x:Int)]))=some () from if_pos (by simp only[aV,J,List.length_singleton];omega)]
      simp only[az,df]
      rw[show ai 0 1 (J [w++[(x:Int)]])=some () from rfl]
      simp only[az,IJ,Ee]
      have Jd:q.length<=128:=by
       have:=Nat.le_add_left (q.length+1) ((n - S.1.length)*ms.length)
       omega
      rw[qz (by simp only[aV,J,List.length_singleton,List.length_append,Jv];omega)]
      simp only[az]
      rw[lS (by omega) (by omega)]
      rw[show cY (q++jO x w) [w++[(x:Int)]]=q++jO (x+1) w by unfold cY;rw[List.append_assoc,YJ]]
      rfl
     ·dsimp only
      rw[br (ff (by omega))]
      try simp only[az,df,Ee]
      rw[List.length_append,List.length_singleton]
     ·simp[cY,jO,ba,J]
    ·dsimp only
     rw[List.length_append,List.length_append,List.length_singleton,Jv]
     exact OA
   ·have hk:¬(v7 p n (S.1.length+1) (S.2++ef p n ms s w)=S.1.length+1):=fun h=>ha (decide_eq_true h)
    rw[UN ha] at aS
    rw[bt (gC (by omega))]
    exact⟨m,_,by omega,rfl,S,q,rfl,hB.no,by omega,by omega,aS⟩
end
theorem ael (x:iY) (z:List (List Int)×Int×Int×List Int) (h:AA x=some z):GD aM x=some z:=by
 have ho:uD x=true:=by
  unfold AA xX at h
  split at h
  ·assumption
  ·cases h
 obtain⟨p,n,s,ms,b,rfl,H⟩:=DF ho
 rw[afb H]
 exact h
theorem aee (x:iY) (z:List (List Int)) (h:yz x=some z):Lj aM x=some z:=by
 unfold yz at h
 split at h
 ·rename_i hs
  rw[<-h]
  obtain⟨x0,x1,x2,x3,x4⟩:=x
  simp only[Lj]
  rw[show Av (x0,x1,x2,x3,x4)=some (nW (x0,x1,x2,x3,x4)) from if_pos hs]
  simp only[az]
  by_cases ha:nW (x0,x1,x2,x3,x4)=true
  ·rw[ha,br (by rfl),if_pos rfl,show AA (x0,x1,x2,x3,x4)=_ from if_pos (L3 ha)]
   simp only[az,jB]
  ·rw[Bool.eq_false_iff.2 ha,bt (by rfl),if_neg (by simp)]
 ·cases h
theorem aeL (x:iY) (z:List (List Int)) (h:AR x=some z):LI aM x=some z:=by
 unfold AR at h
 split at h
 ·rename_i hs
  rw[<-h]
  obtain⟨x0,x1,x2,x3,x4⟩:=x
  simp only[LI]
  rw[show AQ (x0,x1,x2,x3,x4)=some (nW (x0,x1,x2,x3,x4)) from if_pos hs]
  simp only[az]
  by_cases ha:nW (x0,x1,x2,x3,x4)=true
  ·rw[ha,br (by rfl),if_pos rfl,show AU (x0,x1,x2,x3,x4)=_ from if_pos (L3 ha)]
   rfl
  ·rw[Bool.eq_false_iff.2 ha,bt (by rfl),if_neg (by simp)]
 ·cases h
end Go.Am
end
