/- M1, Mx, M4, M31, M6, M7, M8, M9, Fm, M14, M15, M16, M17, M19, M33, M36, M18, M32, M34, M38, M48, M49, M50, M51, M52, M12, M20, M21, M53, M41, M43, M10, M44: parts of the proof. No condition. -/
import Derived.Test.YtifmggmhdcdgbaaMT
set_option linter.unusedVariables false
set_option linter.unusedSimpArgs false
section
namespace Go.Am
end Go.Am
end
section
namespace Go.Am
def ao (r c:Nat) (M:Nat->Nat->Int):List Int:=(List.range (r*c)).map fun n=>M (n/c) (n%c)
def aS (c:Nat) (l:List Int):Nat->Nat->Int:=fun i j=>l.getD (i*c+j) 0
def g8 (M:Nat->Nat->Int) (i j:Nat) (x:Int):Nat->Nat->Int:=fun a b=>if a=i/\b=j then x else M a b
theorem M5 {r c i j:Nat} (hi:i<r) (hj:j<c):i*c+j<r*c:=by
 have:(i+1)*c<=r*c:=Nat.mul_le_mul_right _ hi
 rw[Nat.add_mul] at this
 omega
theorem WB {c i j:Nat} (hj:j<c):(i*c+j)/c=i:=by
 rw[Nat.mul_comm,Nat.mul_add_div (by omega),Nat.div_eq_of_lt hj,Nat.add_zero]
theorem WD {c i j:Nat} (hj:j<c):(i*c+j)%c=j:=by
 rw[Nat.mul_comm,Nat.mul_add_mod,Nat.mod_eq_of_lt hj]
theorem fW (r c:Nat) (M:Nat->Nat->Int):(ao r c M).length=r*c:=by simp[ao]
theorem zC {r c i j:Nat} (M:Nat->Nat->Int) (hi:i<r) (hj:j<c):(ao r c M)[i*c+j]? =some (M i j):=by
 unfold ao
 rw[List.getElem?_map,List.getElem?_range (M5 hi hj)]
 simp[WB hj,WD hj]
theorem fu {r c:Nat} {M M':Nat->Nat->Int} (h:∀i,i<r->∀j,j<c->M i j=M' i j):ao r c M=ao r c M':=by
 unfold ao
 refine List.map_congr_left fun n hn=>?_
 have hn:=List.mem_range.1 hn
 have hc:0<c:=by
  rcases Nat.eq_zero_or_pos c with h|h
  ·subst h;simp at hn
  ·exact h
 exact h _ ((Nat.div_lt_iff_lt_mul hc).2 hn) _ (Nat.mod_lt _ hc)
theorem acQ {r c i j:Nat} (M:Nat->Nat->Int) (hj:j<c) (x:Int):(ao r c M).set (i*c+j) x=ao r c (g8 M i j x):=by
 apply List.ext_getElem?
 intro n
 rw[List.getElem?_set,fW]
 unfold ao
 simp only[List.getElem?_map]
 by_cases hn:n<r*c
 ·rw[List.getElem?_range hn]
  have hc:0<c:=by omega
  by_cases he:i*c+j=n
  ·rw[if_pos he,if_pos (by omega)]
   subst he
   simp[g8,WB hj,WD hj]
  ·rw[if_neg he]
   simp only[Option.map_some,g8]
   rw[if_neg]
   rintro⟨h1,h2⟩
   apply he
   rw[<-h1,<-h2]
   have:=Nat.div_add_mod n c
   rw[Nat.mul_comm] at this
   exact this
 ·rw[List.getElem?_eq_none (by simp;omega)]
  by_cases he:i*c+j=n
  ·rw[if_pos he,if_neg (by omega)];rfl
  ·rw[if_neg he];rfl
theorem lL {r c:Nat} {l:List Int} (h:l.length=r*c):ao r c (aS c l)=l:=by
 apply List.ext_getElem?
 intro n
 unfold ao
 simp only[List.getElem?_map]
 by_cases hn:n<r*c
 ·rw[List.getElem?_range hn,List.getElem?_eq_getElem (by omega)]
  simp only[Option.map_some,aS]
  have:=Nat.div_add_mod n c
  rw[Nat.mul_comm] at this
  rw[this,List.getD_eq_getElem?_getD,List.getElem?_eq_getElem (by omega)]
  rfl
 ·rw[List.getElem?_eq_none (by simp;omega),List.getElem?_eq_none (by omega)]
  rfl
theorem mS {r c i j:Nat} (M:Nat->Nat->Int) (hi:i<r) (hj:j<c):aS c (ao r c M) i j=M i j:=by
 unfold aS
 rw[List.getD_eq_getElem?_getD,zC M hi hj]
 rfl
theorem acP (r c:Nat) (x:Int):d8 (r*c) x=ao r c (fun _ _=>x):=by
 unfold ao d8
 rw[List.map_const',List.length_range]
theorem WA {i c j:Nat} (hi:i<=1048576) (hc:c<=1048576) (hj:j<=1048576):bS .i64 (fa .i64 (i:Int) (c:Int)) (j:Int)=((i*c+j:Nat):Int):=by
 have h1:i*c<=1048576*1048576:=Nat.mul_le_mul hi hc
 have e:(i:Int)*(c:Int)=((i*c:Nat):Int):=by norm_cast
 rw[fa,BG (by omega) (by omega),lF (by omega) (by omega),e]
 omega
theorem ahg {i c:Nat} (hi:i<=1048576) (hc:c<=1048576):fa .i64 (i:Int) (c:Int)=((i*c:Nat):Int):=by
 have h1:i*c<=1048576*1048576:=Nat.mul_le_mul hi hc
 have e:(i:Int)*(c:Int)=((i*c:Nat):Int):=by norm_cast
 rw[fa,BG (by omega) (by omega),e]
theorem acR {r c i j:Nat} (M:Nat->Nat->Int) (hi:i<r) (hj:j<c):ji (ao r c M) ((i*c+j:Nat):Int)=some (M i j):=by rw[kl,zC M hi hj]
theorem aaP {r c i j:Nat} (M:Nat->Nat->Int) (hi:i<r) (hj:j<c):jH ((i*c+j:Nat):Int) (aa (ao r c M))=some (i*c+j):=wV (by unfold aa;rw[fW];exact M5 hi hj)
theorem acS {r c i j:Nat} (M:Nat->Nat->Int) (hi:i<r) (hj:j<c):gA (ao r c M) (i*c+j)=some (M i j):=zC M hi hj
theorem ajX {r c i j:Nat} (M:Nat->Nat->Int) (hj:j<c) (x:Int):db (ao r c M) (i*c+j) x=ao r c (g8 M i j x):=acQ M hj x
theorem AJ (r c:Nat) (M:Nat->Nat->Int):aa (ao r c M)=r*c:=fW r c M
theorem pg (r c:Nat) (M M':Nat->Nat->Int):af 0 (aa (ao r c M)) (aa (ao r c M'))=some ():=by rw[AJ,AJ];exact cm _
theorem Qy (r c:Nat) (M M':Nat->Nat->Int):yy (aa (ao r c M)) (aa (ao r c M'))=some ():=by rw[AJ,AJ];exact ajH rfl
theorem YE {a p:Int} (ha:0<=a) (hp:0<p):kB a p=some (a%p):=by
 unfold kB
 rw[if_neg (by omega),Int.tmod_eq_emod_of_nonneg ha]
theorem g0 {i n:Nat} (h:i<n):cr (i:Int) (n:Int)=true:=eV (by omega)
theorem il {i n:Nat} (h:n<=i):cr (i:Int) (n:Int)=false:=eU (by omega)
theorem gk {i:Nat} (h:i<=1048577):bS .i64 (i:Int) 1=((i+1:Nat):Int):=by rw[lF (by omega) (by omega)];omega
def cY (p:Int):Prop:=2<=p/\p<=1000003
instance (p:Int):Decidable (cY p):=inferInstanceAs (Decidable (2<=p/\p<=1000003))
def f0 (p x:Int):Prop:=0<=x/\x<p
instance (p x:Int):Decidable (f0 p x):=inferInstanceAs (Decidable (0<=x/\x<p))
theorem xb {p:Int} (hp:cY p) (a:Int):f0 p (a%p):=⟨Int.emod_nonneg _ (by have:=hp.1;omega),Int.emod_lt_of_pos _ (by have:=hp.1;omega)⟩
theorem f0.le {p x:Int} (h:f0 p x):0<=x/\x<=p:=⟨h.1,Int.le_of_lt h.2⟩
theorem f0.s {p x:Int} (hp:cY p) (h:f0 p x):0<=x/\x<=1000003000000:=⟨h.1,by have:=h.2;have:=hp.2;omega⟩
theorem Pw {p a b:Int} (hp:cY p) (ha:0<=a/\a<=p) (hb:0<=b/\b<=p):0<=a*b/\a*b<=1000006000009:=by
 refine⟨Int.mul_nonneg ha.1 hb.1,?_⟩
 have h1:=hp.2
 have:=Int.mul_le_mul (show a<=1000003 by omega) (show b<=1000003 by omega) hb.1 (by omega)
 omega
theorem XR {p a b:Int} (hp:cY p) (ha:0<=a/\a<=p) (hb:0<=b/\b<=p):fa .i64 a b=a*b:=by
 have:=Pw hp ha hb
 exact BG (by omega) (by omega)
theorem XE {p s a b:Int} (hp:cY p) (hs:0<=s/\s<=1000003000000) (ha:0<=a/\a<=p) (hb:0<=b/\b<=p):kB (bS .i64 s (fa .i64 a b)) p=some ((s+a*b)%p):=by
 have h:=Pw hp ha hb
 rw[XR hp ha hb,lF (by omega) (by omega),YE (by omega) (by have:=hp.1;omega)]
theorem Pa {p a b:Int} (hp:cY p) (ha:0<=a/\a<=p) (hb:0<=b/\b<=p):kB (fa .i64 a b) p=some (a*b%p):=by
 have h:=Pw hp ha hb
 rw[XR hp ha hb,YE h.1 (by have:=hp.1;omega)]
def jJ (p:Int) (f g:Nat->Int):Nat->Int
 |0=>0
 |n+1=>(jJ p f g n+f n*g n)%p
theorem T4 {p:Int} (hp:cY p) (f g:Nat->Int):∀n,f0 p (jJ p f g n)
 |0=>⟨Int.le_refl _,by have:=hp.1;show(0:Int)<p;omega⟩
 |n+1=>xb hp _
def e9 (p:Int) (k:Nat) (A B:Nat->Nat->Int):Nat->Nat->Int:=fun i j=>jJ p (fun t=>A i t) (fun t=>B t j) k
def bZ (p:Int) (r c:Nat) (M:Nat->Nat->Int):Prop:=∀i,i<r->∀j,j<c->f0 p (M i j)
def dR (p:Int) (l:List Int):Prop:=∀x∈l,f0 p x
instance (p:Int) (l:List Int):Decidable (dR p l):=inferInstanceAs (Decidable (∀x∈l,f0 p x))
theorem hH {p:Int} {r c:Nat} {M:Nat->Nat->Int}:dR p (ao r c M)↔bZ p r c M:=by
 constructor
 ·intro h i hi j hj
  exact h _ (List.mem_of_getElem? (zC M hi hj))
 ·intro h x hx
  unfold ao at hx
  obtain⟨n,hn,rfl⟩:=List.mem_map.1 hx
  have hn:=List.mem_range.1 hn
  have hc:0<c:=by
   rcases Nat.eq_zero_or_pos c with h|h
   ·subst h;simp at hn
   ·exact h
  exact h _ ((Nat.div_lt_iff_lt_mul hc).2 hn) _ (Nat.mod_lt _ hc)
def nC (x:Int×Int×List Int):Prop:=(0<=x.1/\x.1<=4096)/\(0<=x.2.1/\x.2.1<=4096)/\(x.2.2.length:Int)=x.1*x.2.1/\x.2.2.length<=1048576
instance (x:Int×Int×List Int):Decidable (nC x):=by unfold nC;infer_instance
theorem vJ {x:Int×Int×List Int} (h:nC x):∃(r c:Nat) (M:Nat->Nat->Int),x=((r:Int),(c:Int),ao r c M)/\r<=4096/\c<=4096/\r*c<=1048576:=by
 obtain⟨r,c,l⟩:=x
 obtain⟨h1,h2,h3,h4⟩:=h
 simp only at h1 h2 h3 h4
 obtain⟨r,rfl⟩:=fz h1.1
 obtain⟨c,rfl⟩:=fz h2.1
 have e:l.length=r*c:=by
  have:((r:Int)*(c:Int))=((r*c:Nat):Int):=by norm_cast
  rw[this] at h3;exact_mod_cast h3
 exact⟨r,c,aS c l,by rw[lL e],by omega,by omega,by omega⟩
theorem yf {r c:Nat} (M:Nat->Nat->Int) (hr:r<=4096) (hc:c<=4096) (h:r*c<=1048576):nC ((r:Int),(c:Int),ao r c M):=by
 refine⟨⟨by omega,by show(r:Int)<=4096;omega⟩,⟨by show(0:Int)<=c;omega,by show(c:Int)<=4096;omega⟩,?_,?_⟩
 ·simp only[fW];norm_cast
 ·simp only[fW];exact h
end Go.Am
end
section
namespace Go.Am
def ql (n:Int) (i:Nat):Bool:=decide ((i:Int)*i<=n)&&decide (n%(i:Int)=0)
def dv (n:Int):Bool:=decide (2<=n/\n<=1000003)&& !((List.range' 2 999).any (ql n))
def ur:Int->Option Bool:=fun(n:Int)=>some (dv n)
def Hw (m:Int) (v:Int):Bool:=decide (0<=v/\v<m)
def mh (m:Int) (l:List Int):Bool:=l.all (Hw m)
def rm:Int×List Int->Option Bool:=fun((m,l):Int×List Int)=>if l.length<=1048576 then some (mh m l) else none
def tT (m:Int) (x:Int×Int×List Int):Bool:=dv m&&(decide (0<=x.1/\x.1<=64)&&(decide (0<=x.2.1/\x.2.1<=64)&&(decide ((x.2.2.length:Int)=x.1*x.2.1)&&mh m x.2.2)))
def wB:Int×Int×Int×List Int->Option Bool:=fun((m,x):Int×Int×Int×List Int)=>if Bv x<=1048576 then some (tT m x) else none
def yg (m n:Int) (x:Int×Int×List Int):Bool:=tT m x&&(decide (x.1=n)&&decide (x.2.1=n))
def fD (x:Int×Int×List Int×List (Int×Int×List Int)×List Int):Bool:=match x with
 |(m,n,a,ms,b)=>dv m&&(decide (0<=n/\n<=12)&&((mh m a&&decide ((a.length:Int)=n))&&((mh m b&&decide ((b.length:Int)=n))&&(decide (1<=ms.length/\ms.length<=4)&&ms.all (yg m n)))))
def jf:Int×Int×List Int×List (Int×Int×List Int)×List Int->Option Bool:=fun x=>if p9 x<=1048576 then some (fD x) else none
def E9:av:=[(.one,[.int .i64])]
def PV:av:=[(.one,[.bool])]
def agI:bo:=[]
def Fm:av:=[(.one,[.int .i64]),(.one,[.list [.int .i64]])]
def P7:av:=[(.one,[.bool])]
def agR:bo:=[]
def Fa:av:=[(.one,[.int .i64]),(.agg,[.int .i64,.int .i64,.list [.int .i64]])]
def PW:av:=[(.one,[.bool])]
def agJ:bo:=[]
def E7:av:=[(.agg,[.int .i64,.int .i64,.list [.int .i64],.list [.int .i64,.int .i64,.list [.int .i64]],.list [.int .i64]])]
def PT:av:=[(.one,[.bool])]
def agG:bo:=[]
def Jx (NN:Nat):Int->(Option Bool):=
 (fun(i0:Int)=>
 aY (cr i0 (2:Int))
 (some false)
 (aY (cr (1000003:Int) i0)
 (some false)
 (cT (bQ NN (fun((i1,i2):(Int×Int))=>
 aY (tS (fa .i64 i2 i2) i1)
 ((kB i1 i2).ab (fun i3=>
 aY (fU i3 (0:Int))
 (some (Sum.inr (Sum.inr false)))
 (some (Sum.inl (i1,bS .i64 i2 1)))))
 (some (Sum.inr (Sum.inl ()))))
 (i0,(2:Int)))
 (fun _=>
 some true))))
def JC (NN:Nat):(Int×(List Int))->(Option Bool):=
 (fun((i0,l1):(Int×(List Int)))=>
 cT (bQ NN (fun((i2,l3,i4,i5):(Int×((List Int)×(Int×Int))))=>
 aY (cr i5 i4)
 ((ji l3 i5).ab (fun i6=>
 aY (cr i6 (0:Int))
 (some (Sum.inr (Sum.inr false)))
 (aY (tS i2 i6)
 (some (Sum.inr (Sum.inr false)))
 (some (Sum.inl (i2,l3,i4,bS .i64 i5 1))))))
 (some (Sum.inr (Sum.inl ()))))
 (i0,l1,bj (aa l1),(0:Int)))
 (fun _=>
 some true))
def Jy (NN:Nat):(Int×(Int×(Int×(List Int))))->(Option Bool):=
 (fun((i0,i1,i2,l3):(Int×(Int×(Int×(List Int)))))=>
 (ur i0).ab (fun b4=>
 aY (me b4)
 (some false)
 (aY (cr i1 (0:Int))
 (some false)
 (aY (cr i2 (0:Int))
 (some false)
 (aY (cr (64:Int) i1)
 (some false)
 (aY (cr (64:Int) i2)
 (some false)
 (aY (fU (bj (aa l3)) (fa .i64 i1 i2))
 ((rm (i0,l3)).ab (fun b5=>
 some b5))
 (some false))))))))
def Jw (NN:Nat):(Int×(Int×((List Int)×((List (Int×(Int×(List Int))))×(List Int)))))->(Option Bool):=
 (fun((i0,i1,l2,l3,l4):(Int×(Int×((List Int)×((List (Int×(Int×(List Int))))×(List Int))))))=>
 (ur i0).ab (fun b5=>
 aY (me b5)
 (some false)
 (aY (cr i1 (0:Int))
 (some false)
 (aY (cr (12:Int) i1)
 (some false)
 (aY (lA (bj (aa l2)) i1)
 (some false)
 (aY (lA (bj (aa l4)) i1)
 (some false)
 ((rm (i0,l2)).ab (fun b6=>
 aY (me b6)
 (some false)
 ((rm (i0,l4)).ab (fun b7=>
 aY (me b7)
 (some false)
 (aY (cr (bj (aa l3)) (1:Int))
 (some false)
 (aY (cr (4:Int) (bj (aa l3)))
 (some false)
 (cT (bQ NN (fun(((l8,i9,dj),da,c7,eA,cI,ca):(((List (Int×(Int×(List Int))))×(Int×Int))×(Int×(Int×((List Int)×((List (Int×(Int×(List Int))))×(List Int)))))))=>
 aY (cr dj i9)
 ((ji l8 dj).ab (fun(dA,gw,fG)=>
 (wB (da,dA,gw,fG)).ab (fun b19=>
 aY (me b19)
 (some (Sum.inr (Sum.inr false)))
 (aY (lA dA c7)
 (some (Sum.inr (Sum.inr false)))
 (aY (lA gw c7)
 (some (Sum.inr (Sum.inr false)))
 (some (Sum.inl ((l8,i9,bS .i64 dj 1),da,c7,eA,cI,ca))))))))
 (some (Sum.inr (Sum.inl ()))))
 ((l3,bj (aa l3),(0:Int)),i0,i1,l2,l3,l4))
 (fun _=>
 some true))))))))))))))
theorem HZ {a b:Int} (h1: -9223372036854775808<=a*b) (h2:a*b<=9223372036854775807):fa .i64 a b=a*b:=BG h1 h2
theorem PL {n:Int} {i:Nat} (hn:0<=n) (hi:0<i):kB n (i:Int)=some (n%(i:Int)):=by
 unfold kB
 rw[if_neg (by omega),Int.tmod_eq_emod_of_nonneg hn]
theorem RL {i j:Nat} (h:i<=j):(i:Int)*i<=(j:Int)*j:=by
 have:=Nat.mul_le_mul h h
 exact_mod_cast this
theorem abb {X Y:Type} {f:X->Option (X⊕(Y⊕Bool))} (n:Int) (mk:Nat->X) (r:Y) (hn:n<=1000003)
  (h1:∀i:Nat,2<=i->i<=1001->(i:Int)*i<=n->n%(i:Int)=0->f (mk i)=some (.inr (.inr false)))
  (h2:∀i:Nat,2<=i->i<=1001->(i:Int)*i<=n->n%(i:Int)≠0->f (mk i)=some (.inl (mk (i+1))))
  (h3:∀i:Nat,2<=i->i<=1001->¬(i:Int)*i<=n->f (mk i)=some (.inr (.inl r))) {x0:X} (hx:x0=mk 2):
  bQ aN f x0=some (if(List.range' 2 999).any (ql n)=true then .inr false else .inl r):=by
 subst hx
 have cu:∀(d i:Nat),2<=i->i+d=1001->∀N,d<N->bQ N f (mk i)=some (if(List.range' i d).any (ql n)=true then .inr false else .inl r):=by
  intro d
  induction d with
  |zero=>
   intro i hi hd N hN
   obtain⟨N,rfl⟩:∃M,N=M+1:=⟨N - 1,by omega⟩
   have:i=1001:=by omega
   subst this
   rw[bQ,h3 1001 (by omega) (by omega) (by omega)]
   rfl
  |succ d ih=>
   intro i hi hd N hN
   obtain⟨N,rfl⟩:∃M,N=M+1:=⟨N - 1,by omega⟩
   rw[List.range'_succ,List.any_cons]
   by_cases gE:(i:Int)*i<=n
   ·by_cases hm:n%(i:Int)=0
    ·rw[bQ,h1 i hi (by omega) gE hm]
     simp[ql,gE,hm]
    ·rw[bQ,h2 i hi (by omega) gE hm]
     simp only
     rw[ih (i+1) (by omega) (by omega) N (by omega),show ql n i=false by simp[ql,hm],Bool.false_or]
   ·rw[bQ,h3 i hi (by omega) gE]
    have:(List.range' (i+1) d).any (ql n)=false:=by
     rw[List.any_eq_false]
     intro j hj
     have:=(List.mem_range'_1.1 hj).1
     have:=RL (show i<=j by omega)
     simp only[ql,Bool.and_eq_true,decide_eq_true_eq,not_and]
     intro h;omega
    simp only
    rw[this]
    simp[ql,gE]
 exact cu 999 2 (by omega) (by omega) aN (dQ (by omega))
theorem RN {i:Nat} (h:i<=1001):0<=(i:Int)*i/\(i:Int)*i<=1002001:=by
 have h1:=RL h
 have h0:=RL (Nat.zero_le i)
 omega
theorem abU (x:Int) (y:Bool) (h:ur x=some y):Jx aN x=some y:=by
 rw[<-h]
 simp only[ur,Jx]
 by_cases h2:x<2
 ·rw[bH (eV h2),dv,decide_eq_false (by omega)];rfl
 rw[bG (eU (by omega))]
 by_cases hx:1000003<x
 ·rw[bH (eV hx),dv,decide_eq_false (by omega)];rfl
 rw[bG (eU (by omega))]
 rw[abb x (fun i=>(x,(i:Int))) () (by omega) ?_ ?_ ?_ ?_]
 ·have hr:(2<=x/\x<=1000003):=by omega
  by_cases hd:(List.range' 2 999).any (ql x)=true
  ·rw[if_pos hd,Nn,dv,hd]
   simp
  ·rw[if_neg hd,eH,dv]
   simp[hd,hr]
 all_goals try simp only
 ·intro i h2 hi gE hm
  have hs:=RN hi
  rw[HZ (by omega) (by omega),bH (Dn gE),PL (by omega) (by omega),az,bH (Cg hm)]
 ·intro i h2 hi gE hm
  have hs:=RN hi
  rw[HZ (by omega) (by omega),bH (Dn gE),PL (by omega) (by omega),az,bG (Cf hm),lF (by omega) (by omega)]
  rfl
 ·intro i h2 hi gE
  have hs:=RN hi
  rw[HZ (by omega) (by omega),bG (HN (by omega))]
 ·rfl
theorem ab6 (x:Int×List Int) (y:Bool) (h:rm x=some y):JC aN x=some y:=by
 obtain⟨m,l⟩:=x
 simp only[rm] at h
 split at h
 ·rename_i hl
  rw[<-h]
  simp only[JC]
  rw[Ol (mk:=fun i=>(m,l,bj (aa l),(i:Int))) l (Hw m) (Sum.inr false) (Sum.inl ()) ?_ ?_ ?_ ?_ (dQ (by omega))]
  ·unfold mh
   cases l.all (Hw m)<;>rfl
  all_goals try simp only
  ·intro i a ha hp
   have hp:=of_decide_eq_true hp
   rw[bH (ye ha),kl,ha,az,bG (eU (by omega)),bG (HN (by omega)),Dw ha (by omega)]
  ·intro i a ha hp
   have hp:=of_decide_eq_false hp
   rw[bH (ye ha),kl,ha,az]
   by_cases h0:a<0
   ·rw[bH (eV h0)]
   ·rw[bG (eU (by omega)),bH (Dn (by omega))]
  ·rw[bG (HO l)]
  ·rfl
 ·cases h
theorem jS {m:Int} (h:dv m=true):2<=m/\m<=1000003:=by
 simp only[dv,Bool.and_eq_true,decide_eq_true_eq] at h
 exact h.1
theorem abV (x:Int×Int×Int×List Int) (y:Bool) (h:wB x=some y):Jy aN x=some y:=by
 obtain⟨m,r,c,l⟩:=x
 simp only[wB] at h
 split at h
 ·rename_i hl
  rw[<-h]
  have hl:l.length<=1048576:=hl
  simp only[Jy,ur,az,tT]
  cases hp:dv m with
  |false=>rfl
  |true=>
   rw[bG (by rfl),Bool.true_and]
   by_cases h1:r<0
   ·rw[bH (eV h1),decide_eq_false (by omega)];rfl
   rw[bG (eU (by omega))]
   by_cases h2:c<0
   ·rw[bH (eV h2),decide_eq_false (p:=0<=c/\c<=64) (by omega)];simp
   rw[bG (eU (by omega))]
   by_cases h3:64<r
   ·rw[bH (eV h3),decide_eq_false (by omega)];rfl
   rw[bG (eU (by omega))]
   by_cases h4:64<c
   ·rw[bH (eV h4),decide_eq_false (p:=0<=c/\c<=64) (by omega)];simp
   rw[bG (eU (by omega)),decide_eq_true (p:=0<=r/\r<=64) (by omega),decide_eq_true (p:=0<=c/\c<=64) (by omega),Bool.true_and,Bool.true_and]
   obtain⟨r,rfl⟩:=fz (z:=r) (by omega)
   obtain⟨c,rfl⟩:=fz (z:=c) (by omega)
   have ew:r*c<=64*64:=Nat.mul_le_mul (by omega) (by omega)
   have aly:(r:Int)*(c:Int)=((r*c:Nat):Int):=by norm_cast
   rw[HZ (by omega) (by omega),show rm (m,l)=some (mh m l) from if_pos hl]
   by_cases h5:(l.length:Int)=(r:Int)*c
   ·rw[bH (show fU (bj (aa l)) _=true from Cg h5),decide_eq_true h5];rfl
   ·rw[bG (show fU (bj (aa l)) _=false from Cf h5),decide_eq_false h5];rfl
 ·cases h
theorem akQ {m n:Int} {a:List Int} {ms:List (Int×Int×List Int)} {b:List Int} (h:p9 (m,n,a,ms,b)<=1048576):a.length<=1048576/\b.length<=1048576/\ms.length<=1048576/\∀e∈ms,Bv e<=1048576:=by
 have h1:a.length+yM ms+b.length<=1048576:=h
 have h2:=akR (l:=ms) (by omega)
 exact⟨by omega,by omega,h2.1,h2.2⟩
theorem abS (x:Int×Int×List Int×List (Int×Int×List Int)×List Int) (y:Bool) (h:jf x=some y):Jw aN x=some y:=by
 obtain⟨m,n,a,ms,b⟩:=x
 simp only[jf] at h
 split at h
 ·rename_i hl
  rw[<-h]
  obtain⟨ha,hb,tw,cR⟩:=akQ hl
  simp only[Jw,ur,az,fD]
  cases hp:dv m with
  |false=>rfl
  |true=>
   have hm:=jS hp
   rw[bG (by rfl),Bool.true_and]
   by_cases h0:n<0
   ·rw[bH (eV h0),decide_eq_false (by omega)];rfl
   rw[bG (eU (by omega))]
   by_cases h1:12<n
   ·rw[bH (eV h1),decide_eq_false (by omega)];rfl
   rw[bG (eU (by omega)),decide_eq_true (p:=0<=n/\n<=12) (by omega),Bool.true_and]
   by_cases e1:(a.length:Int)=n
   rotate_left
   ·rw[bH (show lA (bj (aa a)) _=true from AQ e1),decide_eq_false e1,Bool.and_false,Bool.false_and]
   rw[bG (show lA (bj (aa a)) _=false from yk e1),decide_eq_true e1,Bool.and_true]
   by_cases e2:(b.length:Int)=n
   rotate_left
   ·rw[bH (show lA (bj (aa b)) _=true from AQ e2),decide_eq_false e2,Bool.and_false,Bool.false_and,Bool.and_false]
   rw[bG (show lA (bj (aa b)) _=false from yk e2),decide_eq_true e2,Bool.and_true]
   rw[show rm (m,a)=some (mh m a) from if_pos ha,az]
   rw[show rm (m,b)=some (mh m b) from if_pos hb,az]
   cases mh m a with
   |false=>rfl
   |true=>
   rw[bG (by rfl),Bool.true_and]
   cases mh m b with
   |false=>rfl
   |true=>
   rw[bG (by rfl),Bool.true_and]
   by_cases h2:ms.length<1
   ·rw[bH (eV (by have:=nl ms;omega)),decide_eq_false (by omega)];rfl
   rw[bG (eU (by have:=nl ms;omega))]
   by_cases h3:4<ms.length
   ·rw[bH (eV (by have:=nl ms;omega)),decide_eq_false (by omega)];rfl
   rw[bG (eU (by have:=nl ms;omega)),decide_eq_true (by omega),Bool.true_and]
   rw[Ol (mk:=fun i=>((ms,bj (aa ms),(i:Int)),m,n,a,ms,b)) ms (yg m n) (Sum.inr false) (Sum.inl ()) ?_ ?_ ?_ ?_ (dQ (by omega))]
   ·cases ms.all (yg m n)<;>rfl
   all_goals try simp only
   ·rintro i ⟨r,c,l⟩ hi hp
    simp only[yg,Bool.and_eq_true,decide_eq_true_eq] at hp
    obtain⟨p1,p2,p3⟩:=hp
    rw[bH (ye hi),kl,hi,az]
    simp only
    rw[show wB (m,r,c,l)=some (tT m (r,c,l)) from if_pos (cR _ (List.mem_of_getElem? hi)),az,p1,bG (by rfl),bG (yk p2),bG (yk p3),Dw hi (by omega)]
   ·rintro i ⟨r,c,l⟩ hi hp
    rw[bH (ye hi),kl,hi,az]
    simp only
    rw[show wB (m,r,c,l)=some (tT m (r,c,l)) from if_pos (cR _ (List.mem_of_getElem? hi)),az]
    cases p1:tT m (r,c,l) with
    |false=>rw[bH (by rfl)]
    |true=>
     rw[bG (by rfl)]
     by_cases p2:r=n
     ·rw[bG (yk p2)]
      by_cases p3:c=n
      ·simp[yg,p1,p2,p3] at hp
       rw[p2,p3] at p1
       rw[p1] at hp
       cases hp
      ·rw[bH (AQ p3)]
     ·rw[bH (AQ p2)]
   ·rw[bG (HO ms)]
   ·rfl
 ·cases h
end Go.Am
end
section
namespace Go.Am
def v5:Int×Int×Int->Bool:=fun((k,p,n):Int×Int×Int)=>
 if k=1 then decide (p=0/\n=0) else if k=2 then dv p&&decide (n=0) else if k=3\/k=4\/k=5 then decide ((1<=p/\p<=1000000)/\n=0)
 else if k=6 then decide (p=0/\1<=n/\n<=20) else if k=7 then dv p&&decide (1<=n/\n<=6) else if k=8 then dv p&&decide (p≠2/\n=0) else false
def rh:Int×Int×Int->Int:=fun((k,p,n):Int×Int×Int)=>if k=7 then n else if k=8 then 4 else 1
def eC (r:Int×Int×Int):Nat:=(rh r).toNat
def jc:Int×Int×Int->Int:=fun((k,p,n):Int×Int×Int)=>if k=1 then 1 else if k=3\/k=4\/k=5 then p else if k=6 then 2^n.toNat - 1 else p - 1
def WG (t v:Int):Bool:=decide (0<=v/\v<=t)
def qp (r:Int×Int×Int) (x:List Int):Bool:=decide (x.length=eC r)&&x.all (WG (jc r))
def AX:Int×Int×Int->List Int:=fun((k,p,n):Int×Int×Int)=>db (d8 (eC (k,p,n)) 0) 0 (if k=4 then 0 else if k=5\/k=6 then jc (k,p,n) else 1)
def sm:Nat->(Nat->Int)->Int
 |0,_=>0
 |n+1,f=>sm n f+f n
def kW (om:Bool) (x y:Nat->Int) (t i j:Nat):Int:=if i+j=t then x i*y j else if om=true/\i+j=t+4 then -(x i*y j) else 0
def iJ (w:Nat) (f:Nat->Int):List Int:=(List.range w).map f
def aQ (x:List Int):Nat->Int:=fun i=>x.getD i 0
def w7 (p:Int) (om:Bool) (w:Nat) (x y:Nat->Int):List Int:=iJ w fun t=>sm w (fun i=>sm w (fun j=>kW om x y t i j))%p
def oC:Int×Int×Int->Int->Int->Int:=fun((k,p,n):Int×Int×Int) a b=>
 if k=1\/k=6 then((a.toNat&&&b.toNat:Nat):Int) else if k=2 then a*b%p else if k=3 then min (a*b) p else if k=4 then min (a+b) p else min a b
def vM (r:Int×Int×Int) (x y:List Int):List Int:=if r.1=7\/r.1=8 then w7 r.2.1 (decide (r.1=8)) (eC r) (aQ x) (aQ y) else[oC r (aQ x 0) (aQ y 0)]
theorem Io {k p n:Int} (h:v5 (k,p,n)=true):(k=1/\p=0/\n=0)\/(k=2/\dv p=true/\n=0)\/(k=3/\(1<=p/\p<=1000000)/\n=0)\/(k=4/\(1<=p/\p<=1000000)/\n=0)\/(k=5/\(1<=p/\p<=1000000)/\n=0)\/
  (k=6/\p=0/\1<=n/\n<=20)\/(k=7/\dv p=true/\1<=n/\n<=6)\/(k=8/\dv p=true/\p≠2/\n=0):=by
 simp only[v5] at h
 by_cases h1:k=1
 ·rw[if_pos h1] at h;exact .inl ⟨h1,by simpa using h⟩
 rw[if_neg h1] at h
 by_cases h2:k=2
 ·rw[if_pos h2] at h;simp at h;exact .inr (.inl ⟨h2,h⟩)
 rw[if_neg h2] at h
 by_cases h3:k=3\/k=4\/k=5
 ·rw[if_pos h3] at h
  simp only[decide_eq_true_eq] at h
  rcases h3 with h3|h3|h3
  ·exact .inr (.inr (.inl ⟨h3,h⟩))
  ·exact .inr (.inr (.inr (.inl ⟨h3,h⟩)))
  ·exact .inr (.inr (.inr (.inr (.inl ⟨h3,h⟩))))
 rw[if_neg h3] at h
 by_cases h4:k=6
 ·rw[if_pos h4] at h;simp at h;exact .inr (.inr (.inr (.inr (.inr (.inl ⟨h4,h⟩)))))
 rw[if_neg h4] at h
 by_cases h5:k=7
 ·rw[if_pos h5] at h;simp at h;exact .inr (.inr (.inr (.inr (.inr (.inr (.inl ⟨h5,h⟩))))))
 rw[if_neg h5] at h
 by_cases h6:k=8
 ·rw[if_pos h6] at h;simp at h;exact .inr (.inr (.inr (.inr (.inr (.inr (.inr ⟨h6,h⟩))))))
 rw[if_neg h6] at h
 cases h
theorem ali {r:Int×Int×Int} (h:v5 r=true):rh r=(eC r:Int)/\1<=eC r/\eC r<=6:=by
 obtain⟨k,p,n⟩:=r
 rcases Io h with⟨rfl,rfl,rfl⟩|⟨rfl,hp,rfl⟩|⟨rfl,hp,rfl⟩|⟨rfl,hp,rfl⟩|⟨rfl,hp,rfl⟩|⟨rfl,rfl,hn⟩|⟨rfl,hp,hn⟩|⟨rfl,hp,tz,rfl⟩
 ·simp[eC,rh]
 ·simp[eC,rh]
 ·simp[eC,rh]
 ·simp[eC,rh]
 ·simp[eC,rh]
 ·simp[eC,rh]
 ·simp[eC,rh];omega
 ·simp[eC,rh]
theorem aji {w:Nat} {p:Int} (h:w=1):db (d8 w (0:Int)) 0 p=[p]:=by subst h;rfl
theorem Ek (w:Nat) (f:Nat->Int):(iJ w f).length=w:=by simp[iJ]
theorem Ej {w j:Nat} (f:Nat->Int) (h:j<w):(iJ w f)[j]? =some (f j):=by simp[iJ,h]
theorem I5 {w:Nat} {f g:Nat->Int} (h:∀j,j<w->f j=g j):iJ w f=iJ w g:=List.map_congr_left fun j hj=>h j (List.mem_range.1 hj)
theorem akV {w:Nat} (f:Nat->Int) (j:Nat) (v:Int):(iJ w f).set j v=iJ w (fun i=>if i=j then v else f i):=by
 apply List.ext_getElem?
 intro i
 by_cases hi:i<w
 ·rw[Ej _ hi]
  by_cases hj:j=i
  ·subst hj
   rw[List.getElem?_set_self (by rw[Ek];exact hi),if_pos rfl]
  ·rw[List.getElem?_set_ne hj,Ej _ hi,if_neg (fun e=>hj e.symm)]
 ·rw[List.getElem?_eq_none (by rw[List.length_set,Ek];omega),List.getElem?_eq_none (by rw[Ek];omega)]
theorem UP {x:List Int} {j:Nat} (h:j<x.length):x[j]? =some (aQ x j):=by
 rw[List.getElem?_eq_getElem h]
 simp[aQ,List.getD_eq_getElem?_getD,List.getElem?_eq_getElem h]
theorem KO {w j:Nat} (f:Nat->Int) (h:j<w):aQ (iJ w f) j=f j:=by simp[aQ,List.getD_eq_getElem?_getD,Ej f h]
theorem akT {x:List Int} {w:Nat} (h:x.length=w):iJ w (aQ x)=x:=by
 subst h
 apply List.ext_getElem?
 intro i
 by_cases hi:i<x.length
 ·rw[Ej _ hi,UP hi]
 ·rw[List.getElem?_eq_none (by rw[Ek];omega),List.getElem?_eq_none (by omega)]
theorem akU (w:Nat) (c:Int):d8 w c=iJ w fun _=>c:=by
 apply List.ext_getElem?
 intro i
 by_cases hi:i<w
 ·rw[Ej _ hi];simp[d8,hi]
 ·rw[List.getElem?_eq_none (by simp[d8];omega),List.getElem?_eq_none (by rw[Ek];omega)]
theorem T8 {r:Int×Int×Int} {x:List Int} (h:qp r x=true):x.length=eC r:=by
 simp only[qp,Bool.and_eq_true,decide_eq_true_eq] at h;exact h.1
theorem T7 {r:Int×Int×Int} {x:List Int} (h:qp r x=true) {j:Nat} (hj:j<eC r):0<=aQ x j/\aQ x j<=jc r:=by
 simp only[qp,Bool.and_eq_true,decide_eq_true_eq] at h
 have:=List.all_eq_true.1 h.2 (aQ x j) (List.mem_of_getElem? (UP (by rw[h.1];exact hj)))
 simpa[WG] using this
theorem Ce {r:Int×Int×Int} {x:List Int} (h:qp r x=true) (hw:eC r=1):x=[aQ x 0]/\0<=aQ x 0/\aQ x 0<=jc r:=by
 have hl:=T8 h
 rw[hw] at hl
 match x,hl with
 |[a],_=>exact⟨rfl,T7 h (j:=0) (by omega)⟩
theorem YD {a p:Int} (ha:0<=a) (hp:0<p):kB a p=some (a%p):=by
 obtain⟨m,rfl⟩:=fz (z:=p) (by omega)
 exact PL ha (by omega)
theorem dP {f g:Nat->Int}:∀{n:Nat},(∀i,i<n->f i=g i)->sm n f=sm n g
 |0,_=>rfl
 |n+1,h=>by simp only[sm];rw[dP (n:=n) (fun i hi=>h i (by omega)),h n (by omega)]
structure Jo (k p:Int) (w:Nat):Prop where
 ck:k=7\/k=8
 cp:2<=p/\p<=1000003
 cw:1<=w/\w<=6
 w8:k=8->w=4
theorem Tw {k p n:Int} (h:v5 (k,p,n)=true) (hk:k=7\/k=8):Jo k p (eC (k,p,n)):=by
 have hw:=ali h
 refine⟨hk,?_,hw.2,fun e=>by subst e;rfl⟩
 rcases Io h with⟨rfl,rfl,rfl⟩|⟨rfl,hp,rfl⟩|⟨rfl,hp,rfl⟩|⟨rfl,hp,rfl⟩|⟨rfl,hp,rfl⟩|⟨rfl,rfl,hn⟩|⟨rfl,hp,hn⟩|⟨rfl,hp,tz,rfl⟩
 all_goals first|exact jS hp|(exfalso;omega)
theorem Dr {r:Int×Int×Int} {a b:Int} (h:¬(r.1=7\/r.1=8)):vM r [a] [b]=[oC r a b]:=by simp only[vM];rw[if_neg h];rfl
theorem T9 {r:Int×Int×Int} {x y:List Int} (hx:qp r x=true) (hy:qp r y=true) (hw:eC r=1):∃a b,x=[a]/\y=[b]/\(0<=a/\a<=jc r)/\0<=b/\b<=jc r:=
 ⟨_,_,(Ce hx hw).1,(Ce hy hw).1,(Ce hx hw).2,(Ce hy hw).2⟩
theorem aie (k p n:Int):AX (k,p,n)=iJ (eC (k,p,n)) fun j=>if j=0 then(if k=4 then 0 else if k=5\/k=6 then jc (k,p,n) else 1) else 0:=by
 simp only[AX]
 rw[akU]
 exact akV _ 0 _
end Go.Am
end
section
namespace Go.Am
def AS (x:Int×Int):Prop:=(0<=x.1/\x.1<=4096)/\(0<=x.2/\x.2<=4096)/\x.1*x.2<=1048576
instance (x:Int×Int):Decidable (AS x):=by unfold AS;infer_instance
def wG:Int×Int->Option (Int×Int×List Int):=fun(x:Int×Int)=>if AS x then some (x.1,x.2,ao x.1.toNat x.2.toNat fun _ _=>0) else none
def qf:Int×Int->Option (Int×Int×List Int):=fun(x:Int×Int)=>if AS x then some (x.1,x.2,ao x.1.toNat x.2.toNat fun _ _=>0) else none
def g9:(Int×Int×List Int)×Int×Int->Option Int:=fun(x:(Int×Int×List Int)×Int×Int)=>
 if nC x.1/\(0<=x.2.1/\x.2.1<x.1.1)/\(0<=x.2.2/\x.2.2<x.1.2.1) then some (aS x.1.2.1.toNat x.1.2.2 x.2.1.toNat x.2.2.toNat) else none
def kL:(Int×Int×List Int)×Int×Int×Int->Option (List Int):=fun(x:(Int×Int×List Int)×Int×Int×Int)=>
 if nC x.1/\(0<=x.2.1/\x.2.1<x.1.1)/\(0<=x.2.2.1/\x.2.2.1<x.1.2.1) then some (ao x.1.1.toNat x.1.2.1.toNat (g8 (aS x.1.2.1.toNat x.1.2.2) x.2.1.toNat x.2.2.1.toNat x.2.2.2)) else none
def cO (M:Nat->Nat->Int) (a b:Nat):Nat->Nat->Int:=fun i j=>if i=a then M b j else if i=b then M a j else M i j
def BK:(Int×Int×List Int)×Int×Int->Option (List Int):=fun(x:(Int×Int×List Int)×Int×Int)=>
 if nC x.1/\(0<=x.2.1/\x.2.1<x.1.1)/\(0<=x.2.2/\x.2.2<x.1.1) then some (ao x.1.1.toNat x.1.2.1.toNat (cO (aS x.1.2.1.toNat x.1.2.2) x.2.1.toNat x.2.2.toNat)) else none
def yS:(Int×Int×List Int)×Int×Int->Option (List Int):=BK
def s9 (p:Int) (M:Nat->Nat->Int) (i k:Nat) (f:Int):Nat->Nat->Int:=fun a j=>if a=i then(M i j+f*M k j)%p else M a j
def wC:(Int×Int×List Int)×Int×Int×Int×Int->Option (List Int):=fun(x:(Int×Int×List Int)×Int×Int×Int×Int)=>
 if nC x.1/\cY x.2.1/\(0<=x.2.2.1/\x.2.2.1<x.1.1)/\(0<=x.2.2.2.1/\x.2.2.2.1<x.1.1)/\(0<=x.2.2.2.2/\x.2.2.2.2<=x.2.1)/\dR x.2.1 x.1.2.2 then
  some (ao x.1.1.toNat x.1.2.1.toNat (s9 x.2.1 (aS x.1.2.1.toNat x.1.2.2) x.2.2.1.toNat x.2.2.2.1.toNat x.2.2.2.2)) else none
def oE (M:Nat->Nat->Int) (j:Nat):Nat->Nat->Option Nat
 |0,_=>none
 |d+1,k=>if M k j=0 then oE M j d (k+1) else some k
def jR (p out x:Int) (n:Nat):Int:=if h:n=0 then out else jR p (if n%2=1 then out*x%p else out) (x*x%p) (n/2)
termination_by n
decreasing_by omega
def SL:Int×Int->Option Int:=fun(x:Int×Int)=>if cY x.1/\f0 x.1 x.2 then some (jR x.1 1 x.2 (x.1 - 2).toNat) else none
def yU:Int×Int->Option Int:=SL
def ix:List Int->Option (List Int):=fun(l:List Int)=>if l.length<=1099511627776 then some l else none
def yT:Int×Int×List Int->Option (Int×Int×List Int):=fun(x:Int×Int×List Int)=>if x.2.2.length<=1099511627776 then some x else none
def sL (M:Nat->Nat->Int):Nat->Nat->Int:=fun i j=>M j i
def BL:Int×Int×List Int->Option (Int×Int×List Int):=fun(x:Int×Int×List Int)=>if nC x then some (x.2.1,x.1,ao x.2.1.toNat x.1.toNat (sL (aS x.2.1.toNat x.2.2))) else none
def yV:Int×Int×List Int->Option (Int×Int×List Int):=BL
def Dt (x:Int×(Int×Int×List Int)×(Int×Int×List Int)):Prop:=cY x.1/\nC x.2.1/\nC x.2.2/\x.2.1.2.1=x.2.2.1/\x.2.1.1*x.2.2.2.1<=1048576/\dR x.1 x.2.1.2.2/\dR x.1 x.2.2.2.2
instance (x:Int×(Int×Int×List Int)×(Int×Int×List Int)):Decidable (Dt x):=by unfold Dt;infer_instance
def y6:Int×(Int×Int×List Int)×(Int×Int×List Int)->Option (Int×Int×List Int):=fun(x:Int×(Int×Int×List Int)×(Int×Int×List Int))=>
 if Dt x then some (x.2.1.1,x.2.2.2.1,ao x.2.1.1.toNat x.2.2.2.1.toNat (e9 x.1 x.2.1.2.1.toNat (aS x.2.1.2.1.toNat x.2.1.2.2) (aS x.2.2.2.1.toNat x.2.2.2.2))) else none
def oQ:Int×(Int×Int×List Int)×(Int×Int×List Int)->Option (Int×Int×List Int):=y6
def FJ:av:=[(.one,[.int .i64]),(.one,[.int .i64])]
def Qt:av:=[(.agg,[.int .i64,.int .i64,.list [.int .i64]])]
def ahd:bo:=[]
def Fl:av:=[(.one,[.int .i64]),(.one,[.int .i64])]
def P6:av:=[(.agg,[.int .i64,.int .i64,.list [.int .i64]])]
def agQ:bo:=[]
def Fj:av:=[(.one,[.list [.int .i64]])]
def P4:av:=[(.one,[.list [.int .i64]])]
def agO:bo:=[]
def Fk:av:=[(.agg,[.int .i64,.int .i64,.list [.int .i64]])]
def P5:av:=[(.agg,[.int .i64,.int .i64,.list [.int .i64]])]
def agP:bo:=[]
def Fc:av:=[(.agg,[.int .i64,.int .i64,.list [.int .i64]]),(.one,[.int .i64]),(.one,[.int .i64])]
def PY:av:=[(.one,[.int .i64])]
def agK:bo:=[]
def Fe:av:=[(.agg,[.int .i64,.int .i64,.list [.int .i64]]),(.one,[.int .i64]),(.one,[.int .i64]),(.one,[.int .i64])]
def PZ:av:=[(.one,[.list [.int .i64]])]
def HX:bo:=[[none,none,some .ae]]
def Ff:av:=[(.agg,[.int .i64,.int .i64,.list [.int .i64]]),(.one,[.int .i64]),(.one,[.int .i64])]
def P0:av:=[(.one,[.list [.int .i64]])]
def HY:bo:=[[none,none,some .ae]]
def Fb:av:=[(.agg,[.int .i64,.int .i64,.list [.int .i64]]),(.one,[.int .i64]),(.one,[.int .i64]),(.one,[.int .i64]),(.one,[.int .i64])]
def PX:av:=[(.one,[.list [.int .i64]])]
def HW:bo:=[[none,none,some .ae]]
def Fp:av:=[(.one,[.int .i64]),(.one,[.int .i64])]
def P9:av:=[(.one,[.int .i64])]
def agT:bo:=[]
def Fu:av:=[(.agg,[.int .i64,.int .i64,.list [.int .i64]])]
def Qd:av:=[(.agg,[.int .i64,.int .i64,.list [.int .i64]])]
def agX:bo:=[]
def Fq:av:=[(.one,[.int .i64]),(.agg,[.int .i64,.int .i64,.list [.int .i64]]),(.agg,[.int .i64,.int .i64,.list [.int .i64]])]
def Qa:av:=[(.agg,[.int .i64,.int .i64,.list [.int .i64]])]
def agU:bo:=[]
def EV (NN:Nat):(Int×Int)->(Option (Int×(Int×(List Int)))):=
 (fun((i0,i1):(Int×Int))=>
 (tU (fa .i64 i0 i1) (fa .i64 i0 i1) 8).ab (fun k2=>
 (dc (d8 k2 (0:Int)) k2).ab (fun l3=>
 some (i0,i1,l3))))
def SM (NN:Nat):(Int×Int)->(Option (Int×(Int×(List Int)))):=
 (fun((i0,i1):(Int×Int))=>
 (tU (fa .i64 i0 i1) (fa .i64 i0 i1) 8).ab (fun k2=>
 (dc (d8 k2 (0:Int)) k2).ab (fun l3=>
 some (i0,i1,l3))))
def JA (NN:Nat):(List Int)->(Option (List Int)):=
 (fun(l0:(List Int))=>
 (lK (bF (aa (([]:List Int))) (aa l0)) 8).ab (fun _=>
 (dc (dg (([]:List Int)) l0) (bF (aa (([]:List Int))) (aa l0))).ab (fun l1=>
 some l1)))
def JB (NN:Nat):(Int×(Int×(List Int)))->(Option (Int×(Int×(List Int)))):=
 (fun((i0,i1,l2):(Int×(Int×(List Int))))=>
 (ix l2).ab (fun l3=>
 (dc l3 (aa l3)).ab (fun l4=>
 some (i0,i1,l4))))
def EB (NN:Nat):((Int×(Int×(List Int)))×(Int×Int))->(Option Int):=
 (fun(((i0,i1,l2),i3,i4):((Int×(Int×(List Int)))×(Int×Int)))=>
 (ji l2 (bS .i64 (fa .i64 i3 i1) i4)).ab (fun i5=>
 some i5))
def EC (NN:Nat):((Int×(Int×(List Int)))×(Int×(Int×Int)))->(Option (List Int)):=
 (fun(((i0,i1,l2),i3,i4,i5):((Int×(Int×(List Int)))×(Int×(Int×Int))))=>
 (jH (bS .i64 (fa .i64 i3 i1) i4) (aa l2)).ab (fun k6=>
 (gA l2 (bF 0 k6)).ab (fun i7=>
 (yy (aa (db l2 (bF 0 k6) i5)) (aa l2)).ab (fun _=>
 some (db l2 (bF 0 k6) i5)))))
def ED (NN:Nat):((Int×(Int×(List Int)))×(Int×Int))->(Option (List Int)):=
 (fun(((i0,i1,l2),i3,i4):((Int×(Int×(List Int)))×(Int×Int)))=>
 (af 0 (aa l2) (aa l2)).ab (fun _=>
 bQ NN (fun(((i5,i6,i7),l8,i9,dj):((Int×(Int×Int))×((List Int)×(Int×Int))))=>
 aY (cr i7 dj)
 ((cv l8 0 (aa l8)).ab (fun lp=>
 (g9 ((i9,dj,lp),i5,i7)).ab (fun c7=>
 (cv l8 0 (aa l8)).ab (fun eA=>
 (g9 ((i9,dj,eA),i6,i7)).ab (fun iF=>
 (af 0 (aa l8) (aa l8)).ab (fun _=>
 (kL ((i9,dj,l8),i5,i7,iF)).ab (fun ca=>
 (af 0 (aa l8) (aa ca)).ab (fun _=>
 (kL ((i9,dj,ca),i6,i7,c7)).ab (fun iU=>
 (af 0 (aa l8) (aa iU)).ab (fun _=>
 some (Sum.inl ((i5,i6,bS .i64 i7 1),iU,i9,dj))))))))))))
 (((yy (aa l8) (aa l2)).ab (fun _=>
 some l8)).ab (fun dw=>
 some (Sum.inr dw))))
 ((i3,i4,(0:Int)),l2,i0,i1)))
def EA (NN:Nat):((Int×(Int×(List Int)))×(Int×(Int×(Int×Int))))->(Option (List Int)):=
 (fun(((i0,i1,l2),i3,i4,i5,i6):((Int×(Int×(List Int)))×(Int×(Int×(Int×Int)))))=>
 (af 0 (aa l2) (aa l2)).ab (fun _=>
 bQ NN (fun(((i7,i8,i9,dj,da),ij,dX,iF):((Int×(Int×(Int×(Int×Int))))×((List Int)×(Int×Int))))=>
 aY (cr da iF)
 ((cv ij 0 (aa ij)).ab (fun ca=>
 (g9 ((dX,iF,ca),i8,da)).ab (fun dA=>
 (cv ij 0 (aa ij)).ab (fun dw=>
 (g9 ((dX,iF,dw),i9,da)).ab (fun eP=>
 (kB (bS .i64 dA (fa .i64 dj eP)) i7).ab (fun dY=>
 (af 0 (aa ij) (aa ij)).ab (fun _=>
 (kL ((dX,iF,ij),i8,da,dY)).ab (fun e8=>
 (af 0 (aa ij) (aa e8)).ab (fun _=>
 some (Sum.inl ((i7,i8,i9,dj,bS .i64 da 1),e8,dX,iF)))))))))))
 (((yy (aa ij) (aa l2)).ab (fun _=>
 some ij)).ab (fun fH=>
 some (Sum.inr fH))))
 ((i3,i4,i5,i6,(0:Int)),l2,i0,i1)))
def JD (NN:Nat):(Int×Int)->(Option Int):=
 (fun((i0,i1):(Int×Int))=>
 cT (bQ NN (fun((i2,i3,i4,i5):(Int×(Int×(Int×Int))))=>
 aY (cr (0:Int) i5)
 (cT (aY (fU (oT .i64 i5 (1:Int)) (1:Int))
 ((kB (fa .i64 i4 i3) i2).ab (fun i6=>
 some (Sum.inl (i3,i5,i2,i6))))
 (some (Sum.inl (i3,i5,i2,i4))))
 (fun(i7,i8,i9,dj)=>
 (kB (fa .i64 i7 i7) i9).ab (fun da=>
 (sE .i64 i8 (1:Int)).ab (fun c7=>
 some (Sum.inl (i9,da,dj,c7))))))
 (some (Sum.inr (Sum.inl i4))))
 (i0,i1,(1:Int),wk .i64 i0 2))
 (fun dX=>
 some dX))
def EK (NN:Nat):(Int×(Int×(List Int)))->(Option (Int×(Int×(List Int)))):=
 (fun((i0,i1,l2):(Int×(Int×(List Int))))=>
 (qf (i1,i0)).ab (fun(i3,i4,l5)=>
 cT ((af 0 0 (aa (([]:List Int)))).ab (fun _=>
 (af 0 (aa l5) (aa l5)).ab (fun _=>
 bQ NN (fun((i6,(i7,i8,l9),(dj,da),(c7,dX),cI,ca):(Int×((Int×(Int×(List Int)))×((Int×Int)×((Int×Int)×((List Int)×(List Int)))))))=>
 aY (cr i6 i7)
 (cT ((af 0 (aa cI) (aa cI)).ab (fun _=>
 (af 0 (aa ca) (aa ca)).ab (fun _=>
 bQ NN (fun(((dA,gw),(eP,dY,e8),(lQ,jt),(fk,iG),dz,cP):((Int×Int)×((Int×(Int×(List Int)))×((Int×Int)×((Int×Int)×((List Int)×(List Int)))))))=>
 aY (cr gw dY)
 ((g9 ((eP,dY,e8),dA,gw)).ab (fun jQ=>
 (af 0 (aa cP) (aa cP)).ab (fun _=>
 (kL ((fk,iG,cP),gw,dA,jQ)).ab (fun jw=>
 (af 0 (aa dz) (aa dz)).ab (fun _=>
 (af 0 (aa cP) (aa jw)).ab (fun _=>
 some (Sum.inl ((dA,bS .i64 gw 1),(eP,dY,e8),(lQ,jt),(fk,iG),dz,jw))))))))
 (((af 0 (aa dz) (aa dz)).ab (fun _=>
 (af 0 (aa cP) (aa cP)).ab (fun _=>
 some (Sum.inl (dA,(eP,dY,e8),(lQ,jt),(fk,iG),dz,cP))))).ab (fun fO=>
 some (Sum.inr fO))))
 ((i6,(0:Int)),(i7,i8,l9),(dj,da),(c7,dX),cI,ca))))
 (fun(lb,(ju,Ab,fo),(gH,fN),(iH,lf),gK,iV)=>
 (af 0 (aa gK) (aa gK)).ab (fun _=>
 (af 0 (aa iV) (aa iV)).ab (fun _=>
 some (Sum.inl (bS .i64 lb 1,(ju,Ab,fo),(gH,fN),(iH,lf),gK,iV))))))
 (((af 0 (aa cI) (aa cI)).ab (fun _=>
 (af 0 (aa ca) (aa ca)).ab (fun _=>
 some (Sum.inl ((dj,da),(c7,dX),cI,ca))))).ab (fun fy=>
 some (Sum.inr fy))))
 ((0:Int),(i0,i1,l2),((0:Int),(0:Int)),(i3,i4),([]:List Int),l5))))
 (fun((nu,iS),(kv,jv),yb,kz)=>
 (dc kz (aa kz)).ab (fun tQ=>
 some (kv,jv,tQ)))))
def EH (NN:Nat):(Int×((Int×(Int×(List Int)))×(Int×(Int×(List Int)))))->(Option (Int×(Int×(List Int)))):=
 (fun((i0,(i1,i2,l3),i4,i5,l6):(Int×((Int×(Int×(List Int)))×(Int×(Int×(List Int))))))=>
 (qf (i1,i5)).ab (fun(i7,i8,l9)=>
 cT ((af 0 0 (aa (([]:List Int)))).ab (fun _=>
 (af 0 (aa l9) (aa l9)).ab (fun _=>
 bQ NN (fun(((dj,da),(c7,dX,cI),(jr,dA,dw),(eP,dY),(gG,lQ),dm,jV):((Int×Int)×((Int×(Int×(List Int)))×((Int×(Int×(List Int)))×((Int×Int)×((Int×Int)×((List Int)×(List Int))))))))=>
 aY (cr da c7)
 (cT ((af 0 (aa dm) (aa dm)).ab (fun _=>
 (af 0 (aa jV) (aa jV)).ab (fun _=>
 bQ NN (fun(((iG,kt,ku),(jQ,iR,fO),(lb,ju,eJ),(pu,gH),(fN,iH),gJ,gK):((Int×(Int×Int))×((Int×(Int×(List Int)))×((Int×(Int×(List Int)))×((Int×Int)×((Int×Int)×((List Int)×(List Int))))))))=>
 aY (cr ku ju)
 (cT (cT ((af 0 (aa gJ) (aa gJ)).ab (fun _=>
 (af 0 (aa gK) (aa gK)).ab (fun _=>
 bQ NN (fun(((od,xN,nu,iS,kv),(jv,lS,kz),(gZ,lU,fP),(nv,r5),(oe,pw),jY,gL):((Int×(Int×(Int×(Int×Int))))×((Int×(Int×(List Int)))×((Int×(Int×(List Int)))×((Int×Int)×((Int×Int)×((List Int)×(List Int))))))))=>
 aY (cr kv lS)
 ((g9 ((jv,lS,kz),xN,kv)).ab (fun qO=>
 (g9 ((gZ,lU,fP),kv,nu)).ab (fun kw=>
 (kB (bS .i64 iS (fa .i64 qO kw)) od).ab (fun mM=>
 (af 0 (aa jY) (aa jY)).ab (fun _=>
 (af 0 (aa gL) (aa gL)).ab (fun _=>
 some (Sum.inl ((od,xN,nu,mM,bS .i64 kv 1),(jv,lS,kz),(gZ,lU,fP),(nv,r5),(oe,pw),jY,gL))))))))
 (((af 0 (aa jY) (aa jY)).ab (fun _=>
 (af 0 (aa gL) (aa gL)).ab (fun _=>
 some (Sum.inl ((iS,nu,od,xN),(jv,lS,kz),(gZ,lU,fP),(nv,r5),(oe,pw),jY,gL))))).ab (fun jA=>
 some (Sum.inr jA))))
 ((iG,kt,ku,(0:Int),(0:Int)),(jQ,iR,fO),(lb,ju,eJ),(pu,gH),(fN,iH),gJ,gK))))
 (fun((vo,oh,oq,nw),(i64,Ac,tR),(r6,r7,ly),(MW,C9),(Da,nz),vF,pF)=>
 (af 0 (aa pF) (aa pF)).ab (fun _=>
 (kL ((Da,nz,pF),nw,oh,vo)).ab (fun HK=>
 (af 0 (aa vF) (aa vF)).ab (fun _=>
 (af 0 (aa pF) (aa HK)).ab (fun _=>
 some (Sum.inl ((oh,oq,nw),(i64,Ac,tR),(r6,r7,ly),(MW,C9),(Da,nz),vF,HK))))))))
 (fun((ou,r8,lg),(ov,MX,ik),(Ad,Ae,HL),(i86,MZ),(Hu,Af),N8,N9)=>
 (af 0 (aa N8) (aa N8)).ab (fun _=>
 (af 0 (aa N9) (aa N9)).ab (fun _=>
 some (Sum.inl ((r8,lg,bS .i64 ou 1),(ov,MX,ik),(Ad,Ae,HL),(i86,MZ),(Hu,Af),N8,N9))))))
 (((af 0 (aa gJ) (aa gJ)).ab (fun _=>
 (af 0 (aa gK) (aa gK)).ab (fun _=>
 some (Sum.inl ((kt,iG),(jQ,iR,fO),(lb,ju,eJ),(pu,gH),(fN,iH),gJ,gK))))).ab (fun Oa=>
 some (Sum.inr Oa))))
 ((dj,da,(0:Int)),(c7,dX,cI),(jr,dA,dw),(eP,dY),(gG,lQ),dm,jV))))
 (fun((r9,Dc),(xQ,xR,pG),(M1,M3,pC),(My,Mz),(C3,xL),sj,sk)=>
 (af 0 (aa sj) (aa sj)).ab (fun _=>
 (af 0 (aa sk) (aa sk)).ab (fun _=>
 some (Sum.inl ((Dc,bS .i64 r9 1),(xQ,xR,pG),(M1,M3,pC),(My,Mz),(C3,xL),sj,sk))))))
 (((af 0 (aa dm) (aa dm)).ab (fun _=>
 (af 0 (aa jV) (aa jV)).ab (fun _=>
 some (Sum.inl ((eP,dY),(gG,lQ),dm,jV))))).ab (fun Di=>
 some (Sum.inr Di))))
 ((i0,(0:Int)),(i1,i2,l3),(i4,i5,l6),((0:Int),(0:Int)),(i7,i8),([]:List Int),l9))))
 (fun((Hh,alD),(xM,z8),alI,HE)=>
 (dc HE (aa HE)).ab (fun HG=>
 some (xM,z8,HG)))))
theorem ah4 {r c:Nat} (hr:r<=4096) (hc:c<=4096) (h:r*c<=1048576):AS ((r:Int),(c:Int)):=by
 refine⟨⟨by omega,by show(r:Int)<=4096;omega⟩,⟨by show(0:Int)<=c;omega,by show(c:Int)<=4096;omega⟩,?_⟩
 show(r:Int)*(c:Int)<=1048576
 have e:(r:Int)*(c:Int)=((r*c:Nat):Int):=by norm_cast
 omega
theorem ah3 {x:Int×Int} (h:AS x):∃r c:Nat,x=((r:Int),(c:Int))/\r<=4096/\c<=4096/\r*c<=1048576:=by
 obtain⟨r,c⟩:=x
 obtain⟨h1,h2,h3⟩:=h
 simp only at h1 h2 h3
 obtain⟨r,rfl⟩:=fz h1.1
 obtain⟨c,rfl⟩:=fz h2.1
 have e:(r:Int)*(c:Int)=((r*c:Nat):Int):=by norm_cast
 exact⟨r,c,rfl,by omega,by omega,by omega⟩
theorem XW {r c:Nat} (hr:r<=4096) (hc:c<=4096) (h:r*c<=1048576):wG ((r:Int),(c:Int))=some ((r:Int),(c:Int),ao r c fun _ _=>0):=by
 simp only[wG,Int.toNat_natCast]
 rw[if_pos (ah4 hr hc h)]
theorem AR {r c:Nat} (hr:r<=4096) (hc:c<=4096) (h:r*c<=1048576):qf ((r:Int),(c:Int))=some ((r:Int),(c:Int),ao r c fun _ _=>0):=XW hr hc h
theorem acH {r c:Nat} (hr:r<=4096) (hc:c<=4096) (h:r*c<=1048576):EV aN ((r:Int),(c:Int))=some ((r:Int),(c:Int),ao r c fun _ _=>0):=by
 simp only[EV]
 rw[ahg (by omega) (by omega)]
 have:=agD (n:=r*c) (by_:=8) (by unfold eK;omega)
 rw[show((r*c:Nat):Int)=bj (r*c) from rfl,this,az,acP]
 rw[show dc (ao r c fun _ _=>0) (r*c)=some (ao r c fun _ _=>0) by
  have:=kG (ao r c fun _ _=>(0:Int))
  rwa[AJ] at this]
 rfl
theorem Uy (x:Int×Int) (y:Int×Int×List Int) (h:wG x=some y):EV aN x=some y:=by
 simp only[wG] at h
 split at h
 ·rename_i hc
  obtain⟨r,c,rfl,h1,h2,h3⟩:=ah3 hc
  rw[<-h,acH h1 h2 h3];rfl
 ·cases h
theorem ab5 (x:Int×Int) (y:Int×Int×List Int) (h:qf x=some y):SM aN x=some y:=Uy x y h
theorem ab3 (x y:List Int) (h:ix x=some y):JA aN x=some y:=by
 simp only[ix] at h
 split at h
 ·rename_i hl
  rw[<-h]
  simp only[JA]
  rw[nZ (by simp only[bF,aa,List.length_nil,eK];omega),az]
  have:dg [] x=x:=rfl
  rw[this,show bF (aa ([]:List Int)) (aa x)=aa x by simp[bF,aa],kG]
  rfl
 ·cases h
theorem ab4 (x y:Int×Int×List Int) (h:yT x=some y):JB aN x=some y:=by
 obtain⟨r,c,l⟩:=x
 simp only[yT] at h
 split at h
 ·rename_i hl
  rw[<-h]
  simp only[JB,ix,if_pos hl,az,kG]
 ·cases h
theorem vN {a b:Int} (h:0<=a/\a<b):∃n:Nat,a=(n:Int)/\∀m:Nat,b=(m:Int)->n<m:=⟨a.toNat,by omega,fun m hm=>by omega⟩
theorem acE {r c i j:Nat} {M:Nat->Nat->Int} (hr:r<=4096) (hc:c<=4096) (hi:i<r) (hj:j<c):EB aN (((r:Int),(c:Int),ao r c M),(i:Int),(j:Int))=some (M i j):=by
 simp only[EB]
 rw[WA (by omega) (by omega) (by omega),acR M hi hj];rfl
theorem kg {r c i j:Nat} {M:Nat->Nat->Int} (hr:r<=4096) (hc:c<=4096) (h:r*c<=1048576) (hi:i<r) (hj:j<c):g9 (((r:Int),(c:Int),ao r c M),(i:Int),(j:Int))=some (M i j):=by
 simp only[g9,Int.toNat_natCast]
 rw[if_pos ⟨yf M hr hc h,by omega,by omega⟩]
 rw[mS M hi hj]
theorem abX (x:(Int×Int×List Int)×Int×Int) (y:Int) (h:g9 x=some y):EB aN x=some y:=by
 obtain⟨m,i,j⟩:=x
 simp only[g9] at h
 split at h
 ·rename_i hc
  obtain⟨h1,h2,h3⟩:=hc
  obtain⟨r,c,M,rfl,hr,hc,ew⟩:=vJ h1
  obtain⟨i,rfl,hi⟩:=vN h2
  obtain⟨j,rfl,hj⟩:=vN h3
  have hi:=hi r rfl;have hj:=hj c rfl
  rw[<-h,acE hr hc hi hj]
  exact congrArg some (mS M hi hj).symm
 ·cases h
theorem acM {r c i j:Nat} {M:Nat->Nat->Int} {x:Int} (hr:r<=4096) (hc:c<=4096) (hi:i<r) (hj:j<c):EC aN (((r:Int),(c:Int),ao r c M),(i:Int),(j:Int),x)=some (ao r c (g8 M i j x)):=by
 simp only[EC]
 rw[WA (by omega) (by omega) (by omega),aaP M hi hj,az,y9,acS M hi hj,az,ajX M hj,Qy,az]
theorem pU {r c i j:Nat} {M:Nat->Nat->Int} {x:Int} (hr:r<=4096) (hc:c<=4096) (h:r*c<=1048576) (hi:i<r) (hj:j<c):kL (((r:Int),(c:Int),ao r c M),(i:Int),(j:Int),x)=some (ao r c (g8 M i j x)):=by
 simp only[kL,Int.toNat_natCast]
 rw[if_pos ⟨yf M hr hc h,by omega,by omega⟩]
 refine(congrArg some (fu fun a ha b hb=>?_))
 unfold g8
 rw[mS M ha hb]
theorem abY (x:(Int×Int×List Int)×Int×Int×Int) (y:List Int) (h:kL x=some y):EC aN x=some y:=by
 obtain⟨m,i,j,v⟩:=x
 have h0:=h
 simp only[kL] at h
 split at h
 ·rename_i hc
  obtain⟨h1,h2,h3⟩:=hc
  obtain⟨r,c,M,rfl,hr,hc,ew⟩:=vJ h1
  obtain⟨i,rfl,hi⟩:=vN h2
  obtain⟨j,rfl,hj⟩:=vN h3
  have hi:=hi r rfl;have hj:=hj c rfl
  rw[<-h0,acM hr hc hi hj,pU hr hc ew hi hj]
 ·cases h
def yL (M:Nat->Nat->Int) (a b k:Nat):Nat->Nat->Int:=fun i j=>if j<k then cO M a b i j else M i j
theorem akM (M:Nat->Nat->Int) (a b:Nat):yL M a b 0=M:=by funext i j;exact if_neg (by omega)
theorem akP {r c:Nat} (M:Nat->Nat->Int) (a b k:Nat):ao r c (g8 (g8 (yL M a b k) a k (M b k)) b k (M a k))=ao r c (yL M a b (k+1)):=by
 refine fu fun i _ j _=>?_
 unfold g8 yL cO
 by_cases hj:j=k
 ·subst hj
  by_cases hb:i=b
  ·by_cases ha:i=a
   ·subst hb;subst ha;simp
   ·have:b≠a:=fun e=>ha (hb.trans e)
    simp[hb,this]
  ·by_cases ha:i=a
   ·have:a≠b:=fun e=>hb (ha.trans e)
    simp[ha,this]
   ·simp[ha,hb]
 ·have h1:¬(i=b/\j=k):=fun h=>hj h.2
  have h2:¬(i=a/\j=k):=fun h=>hj h.2
  rw[if_neg h1,if_neg h2]
  by_cases hk:j<k
  ·simp only[if_pos hk,if_pos (show j<k+1 by omega)]
  ·simp only[if_neg hk,if_neg (show¬j<k+1 by omega)]
theorem akN {r c:Nat} (M:Nat->Nat->Int) (a b:Nat):ao r c (yL M a b c)=ao r c (cO M a b):=fu fun i _ j hj=>if_pos hj
theorem akO (M:Nat->Nat->Int) (a b k i:Nat):yL M a b k i k=M i k:=if_neg (by omega)
theorem ZE {r c a b:Nat} {M:Nat->Nat->Int} (hr:r<=4096) (hc:c<=4096) (h:r*c<=1048576) (ha:a<r) (hb:b<r):BK (((r:Int),(c:Int),ao r c M),(a:Int),(b:Int))=some (ao r c (cO M a b)):=by
 simp only[BK,Int.toNat_natCast]
 rw[if_pos ⟨yf M hr hc h,by omega,by omega⟩]
 refine(congrArg some (fu fun i hi j hj=>?_))
 unfold cO
 rw[mS M hb hj,mS M ha hj,mS M hi hj]
theorem acN {r c a b:Nat} {M:Nat->Nat->Int} (hr:r<=4096) (hc:c<=4096) (h:r*c<=1048576) (ha:a<r) (hb:b<r):ED aN (((r:Int),(c:Int),ao r c M),(a:Int),(b:Int))=some (ao r c (cO M a b)):=by
 simp only[ED,cm,az,iv]
 refine gM (fun k=>(((a:Int),(b:Int),(k:Int)),ao r c (yL M a b k),(r:Int),(c:Int))) c ?_ ?_ ?_ (dQ (by omega))
 ·intro k hk
  simp only
  rw[bH (g0 hk)]
  simp only[kg hr hc h ha hk,kg hr hc h hb hk,pU hr hc h ha hk,pU hr hc h hb hk,az,pg,akO,gk (show k<=1048577 by omega),akP]
 ·simp only
  rw[bG (il (Nat.le_refl c)),Qy,az,az,akN]
 ·rw[akM];rfl
theorem abZ (x:(Int×Int×List Int)×Int×Int) (y:List Int) (h:yS x=some y):ED aN x=some y:=by
 obtain⟨m,i,j⟩:=x
 have h0:BK (m,i,j)=some y:=h
 simp only[yS,BK] at h
 split at h
 ·rename_i hc
  obtain⟨h1,h2,h3⟩:=hc
  obtain⟨r,c,M,rfl,hr,hc,ew⟩:=vJ h1
  obtain⟨i,rfl,hi⟩:=vN h2
  obtain⟨j,rfl,hj⟩:=vN h3
  have hi:=hi r rfl;have hj:=hj r rfl
  rw[<-h0,acN hr hc ew hi hj,ZE hr hc ew hi hj]
 ·cases h
def wX (p:Int) (M:Nat->Nat->Int) (i k:Nat) (f:Int) (n:Nat):Nat->Nat->Int:=fun a j=>if j<n then s9 p M i k f a j else M a j
theorem aaS (p:Int) (M:Nat->Nat->Int) (i k:Nat) (f:Int):wX p M i k f 0=M:=by funext a j;exact if_neg (by omega)
theorem aaV {r c:Nat} (p:Int) (M:Nat->Nat->Int) (i k:Nat) (f:Int) (n:Nat):ao r c (g8 (wX p M i k f n) i n ((M i n+f*M k n)%p))=ao r c (wX p M i k f (n+1)):=by
 refine fu fun a _ j _=>?_
 unfold g8 wX s9
 by_cases hj:j=n
 ·subst hj
  by_cases ha:a=i
  ·subst ha;simp
  ·simp[ha]
 ·rw[if_neg (fun h=>hj h.2)]
  by_cases hk:j<n
  ·simp only[if_pos hk,if_pos (show j<n+1 by omega)]
  ·simp only[if_neg hk,if_neg (show¬j<n+1 by omega)]
theorem aaT {r c:Nat} (p:Int) (M:Nat->Nat->Int) (i k:Nat) (f:Int):ao r c (wX p M i k f c)=ao r c (s9 p M i k f):=fu fun a _ j hj=>if_pos hj
theorem aaU (p:Int) (M:Nat->Nat->Int) (i k:Nat) (f:Int) (n a:Nat):wX p M i k f n a n=M a n:=if_neg (by omega)
theorem acD {p f:Int} {r c i k:Nat} {M:Nat->Nat->Int} (hp:cY p) (hr:r<=4096) (hc:c<=4096) (h:r*c<=1048576) (hi:i<r) (hk:k<r) (hf:0<=f/\f<=p) (hM:bZ p r c M):
  EA aN (((r:Int),(c:Int),ao r c M),p,(i:Int),(k:Int),f)=some (ao r c (s9 p M i k f)):=by
 simp only[EA,cm,az,iv]
 refine gM (fun n=>((p,(i:Int),(k:Int),f,(n:Int)),ao r c (wX p M i k f n),(r:Int),(c:Int))) c ?_ ?_ ?_ (dQ (by omega))
 ·intro n hn
  simp only
  rw[bH (g0 hn)]
  have h1:=hM i hi n hn
  simp only[kg hr hc h hi hn,kg hr hc h hk hn,az,aaU,XE hp (h1.s hp) hf (hM k hk n hn).le,pU hr hc h hi hn,pg,gk (show n<=1048577 by omega),aaV]
 ·simp only
  rw[bG (il (Nat.le_refl c)),Qy,az,az,aaT]
 ·rw[aaS];rfl
theorem S2 {p f:Int} {r c i k:Nat} {M:Nat->Nat->Int} (hp:cY p) (hr:r<=4096) (hc:c<=4096) (h:r*c<=1048576) (hi:i<r) (hk:k<r) (hf:0<=f/\f<=p) (hM:bZ p r c M):
  wC (((r:Int),(c:Int),ao r c M),p,(i:Int),(k:Int),f)=some (ao r c (s9 p M i k f)):=by
 simp only[wC,Int.toNat_natCast]
 rw[if_pos ⟨yf M hr hc h,hp,by omega,by omega,hf,hH.2 hM⟩]
 refine(congrArg some (fu fun a ha j hj=>?_))
 unfold s9
 rw[mS M hi hj,mS M hk hj,mS M ha hj]
theorem abW (x:(Int×Int×List Int)×Int×Int×Int×Int) (y:List Int) (h:wC x=some y):EA aN x=some y:=by
 obtain⟨m,p,i,k,f⟩:=x
 have h0:=h
 simp only[wC] at h
 split at h
 ·rename_i hc
  obtain⟨h1,hp,h2,h3,hf,hM⟩:=hc
  obtain⟨r,c,M,rfl,hr,hc,ew⟩:=vJ h1
  obtain⟨i,rfl,hi⟩:=vN h2
  obtain⟨k,rfl,hk⟩:=vN h3
  have hi:=hi r rfl;have hk:=hk r rfl
  have hM:=hH.1 hM
  rw[<-h0,acD hp hr hc ew hi hk hf hM,S2 hp hr hc ew hi hk hf hM]
 ·cases h
theorem DI {M:Nat->Nat->Int} {j q:Nat}:∀{d k:Nat},oE M j d k=some q->k<=q/\q<k+d/\M q j≠0
 |0,k,h=>by cases h
 |d+1,k,h=>by
  simp only[oE] at h
  split at h
  ·have:=DI h
   exact⟨by omega,by omega,this.2.2⟩
  ·rename_i h0
   injection h with h
   subst h
   exact⟨by omega,by omega,h0⟩
theorem Ng (p out x:Int):jR p out x 0=out:=by rw[jR];rfl
theorem Nh {n:Nat} (h:n≠0) (p out x:Int):jR p out x n=jR p (if n%2=1 then out*x%p else out) (x*x%p) (n/2):=by
 rw[jR,dif_neg h]
theorem aeS {p:Int} (hp:cY p):∀(n:Nat) (out x:Int),f0 p out->f0 p (jR p out x n):=by
 intro n
 induction n using Nat.strongRecOn with
 |ind n ih=>
  intro out x ho
  by_cases h:n=0
  ·subst h;rw[Ng];exact ho
  ·rw[Nh h]
   refine ih (n/2) (by omega) _ _ ?_
   split
   ·exact xb hp _
   ·exact ho
theorem aeX {p out x:Int} {n:Nat} {Y:Type} {o:Option (Int×Int×Int×Int⊕Y)} (k:Int×Int×Int×Int->Option Y) (b:Bool) (hb:b=decide (n%2=1)) (hp:cY p) (ho:f0 p out) (hx:f0 p x):
  cT (aY b ((kB (fa .i64 out x) p).ab fun i=>some (Sum.inl (x,(n:Int),p,i))) (some (Sum.inl (x,(n:Int),p,out)))) k=k (x,(n:Int),p,if n%2=1 then out*x%p else out):=by
 subst hb
 by_cases h:n%2=1
 ·rw[bH (decide_eq_true h),Pa hp ho.le hx.le,az,eH,if_pos h]
 ·rw[bG (decide_eq_false h),eH,if_neg h]
theorem ab8 (x:Int×Int) (y:Int) (h:yU x=some y):JD aN x=some y:=by
 obtain⟨p,x⟩:=x
 simp only[yU,SL] at h
 split at h
 ·rename_i hc
  obtain⟨hp,hx⟩:=hc
  have mJ:=hp.1;have tz:=hp.2
  obtain⟨n,hn⟩:=fz (show 0<=p - 2 by omega)
  rw[<-h]
  simp only[JD]
  rw[Ef (by omega) (by omega),hn,Int.toNat_natCast]
  rw[Xx (r:=Sum.inl (jR p 1 x n)) (fun m s=>∃out x':Int,s=(p,x',out,(m:Int))/\m<=n/\f0 p out/\f0 p x'/\jR p out x' m=jR p 1 x n) ?_ n _ ⟨1,x,rfl,by omega,⟨by omega,by omega⟩,hx,rfl⟩ aN (dQ (by omega))]
  ·rw[eH]
  ·rintro m s ⟨out,x',rfl,hm,ho,eT,he⟩
   simp only
   by_cases h0:m=0
   ·subst h0
    left
    rw[bG (eU (by omega)),<-he,Ng]
   ·right
    refine⟨m/2,_,by omega,?_,if m%2=1 then out*x'%p else out,x'*x'%p,rfl,by omega,?_,xb hp _,by rw[<-he,Nh h0]⟩
    ·rw[bH (eV (by omega))]
     have hb:fU (oT .i64 (m:Int) 1) 1=decide (m%2=1):=by
      rw[show(1:Int)=((1:Nat):Int) from rfl,aam (by omega) (by omega),Nat.and_one_is_mod]
      by_cases h1:m%2=1
      ·rw[Cg (by omega),decide_eq_true h1]
      ·rw[Cf (by omega),decide_eq_false h1]
     rw[aeX (o:=none) _ _ hb hp ho eT]
     simp only
     rw[Pa hp eT.le eT.le,az]
     have hq:sE .i64 (m:Int) 1=some ((m/2:Nat):Int):=by
      rw[show(1:Int)=((1:Nat):Int) from rfl,aj3 (by omega),Nat.shiftRight_eq_div_pow]
     rw[hq,az]
    ·split
     ·exact xb hp _
     ·exact ho
 ·cases h
def re (M:Nat->Nat->Int) (i j:Nat):Nat->Nat->Int:=fun a b=>if b<i\/b=i/\a<j then M b a else 0
theorem ak5 {r c:Nat} (M:Nat->Nat->Int) (i j:Nat):ao c r (g8 (re M i j) j i (M i j))=ao c r (re M i (j+1)):=by
 refine fu fun a _ b _=>?_
 unfold g8 re
 by_cases h:a=j/\b=i
 ·obtain⟨rfl,rfl⟩:=h
  simp
 ·rw[if_neg h]
  by_cases h1:b<i\/b=i/\a<j
  ·simp only[if_pos h1,if_pos (show b<i\/b=i/\a<j+1 by omega)]
  ·simp only[if_neg h1,if_neg (show¬(b<i\/b=i/\a<j+1) by omega)]
theorem ak4 {r c:Nat} (M:Nat->Nat->Int) (i:Nat):ao c r (re M i c)=ao c r (re M (i+1) 0):=by
 refine fu fun a ha b _=>?_
 unfold re
 by_cases h1:b<i\/b=i/\a<c
 ·rw[if_pos h1,if_pos (by omega)]
 ·rw[if_neg h1,if_neg (by omega)]
theorem ak3 {r c:Nat} (M:Nat->Nat->Int):ao c r (re M r 0)=ao c r (sL M):=fu fun a ha b hb=>if_pos (.inl hb)
theorem ak2 {r c:Nat} (M:Nat->Nat->Int):ao c r (re M 0 0)=ao c r fun _ _=>0:=fu fun a ha b hb=>if_neg (by omega)
theorem ZQ {r c:Nat} {M:Nat->Nat->Int} (hr:r<=4096) (hc:c<=4096) (h:r*c<=1048576):BL ((r:Int),(c:Int),ao r c M)=some ((c:Int),(r:Int),ao c r (sL M)):=by
 simp only[BL,Int.toNat_natCast]
 rw[if_pos (yf M hr hc h)]
 refine(congrArg (fun l=>some ((c:Int),(r:Int),l)) (fu fun a ha b hb=>mS M hb ha))
theorem acO {r c:Nat} {M:Nat->Nat->Int} (hr:r<=4096) (hc:c<=4096) (h:r*c<=1048576):EK aN ((r:Int),(c:Int),ao r c M)=some ((c:Int),(r:Int),ao c r (sL M)):=by
 have h':c*r<=1048576:=by rw[Nat.mul_comm];exact h
 simp only[EK,AR hc hr h',az,cm]
 rw[show af 0 0 (aa ([]:List Int))=some () from rfl,az]
 rw[gM (r:=Sum.inl (((0:Int),(0:Int)),((c:Int),(r:Int)),([]:List Int),ao c r (sL M))) (fun i=>((i:Int),((r:Int),(c:Int),ao r c M),((0:Int),(0:Int)),((c:Int),(r:Int)),([]:List Int),ao c r (re M i 0))) r ?_ ?_ ?_ (dQ (by omega))]
 ·rw[eH];simp only[kG,az]
 ·intro i hi
  simp only
  rw[bH (g0 hi)]
  rw[gM (r:=Sum.inl ((i:Int),((r:Int),(c:Int),ao r c M),((0:Int),(0:Int)),((c:Int),(r:Int)),([]:List Int),ao c r (re M (i+1) 0))) (fun j=>(((i:Int),(j:Int)),((r:Int),(c:Int),ao r c M),((0:Int),(0:Int)),((c:Int),(r:Int)),([]:List Int),ao c r (re M i j))) c ?_ ?_ ?_ (dQ (by omega))]
  ·rw[eH];simp only[gk (show i<=1048577 by omega)]
  ·intro j hj
   simp only
   rw[bH (g0 hj)]
   simp only[kg hr hc h hi hj,pU hc hr h' hj hi,az,pg,ak5 (r:=r) (c:=c),gk (show j<=1048577 by omega)]
  ·simp only
   rw[bG (il (Nat.le_refl c)),ak4]
  ·rfl
 ·simp only
  rw[bG (il (Nat.le_refl r)),ak3]
 ·rw[ak2];rfl
theorem acd (x y:Int×Int×List Int) (h:yV x=some y):EK aN x=some y:=by
 have h0:BL x=some y:=h
 simp only[yV,BL] at h
 split at h
 ·rename_i hc
  obtain⟨r,c,M,rfl,hr,hc,ew⟩:=vJ hc
  rw[<-h0,acO hr hc ew,ZQ hr hc ew]
 ·cases h
def io (W:Nat->Nat->Int) (i j:Nat):Nat->Nat->Int:=fun a b=>if a<i\/a=i/\b<j then W a b else 0
theorem XS {r c:Nat} (W:Nat->Nat->Int) (i j:Nat):ao r c (g8 (io W i j) i j (W i j))=ao r c (io W i (j+1)):=by
 refine fu fun a _ b _=>?_
 unfold g8 io
 by_cases h:a=i/\b=j
 ·obtain⟨rfl,rfl⟩:=h
  simp
 ·rw[if_neg h]
  by_cases h1:a<i\/a=i/\b<j
  ·simp only[if_pos h1,if_pos (show a<i\/a=i/\b<j+1 by omega)]
  ·simp only[if_neg h1,if_neg (show¬(a<i\/a=i/\b<j+1) by omega)]
theorem Pg {r c:Nat} (W:Nat->Nat->Int) (i:Nat):ao r c (io W i c)=ao r c (io W (i+1) 0):=by
 refine fu fun a _ b hb=>?_
 unfold io
 by_cases h1:a<i\/a=i/\b<c
 ·simp only[if_pos h1,if_pos (show a<i+1\/a=i+1/\b<0 by omega)]
 ·simp only[if_neg h1,if_neg (show¬(a<i+1\/a=i+1/\b<0) by omega)]
theorem Pc {r c:Nat} (W:Nat->Nat->Int):ao r c (io W r 0)=ao r c W:=fu fun a ha b hb=>if_pos (.inl ha)
theorem Pb {r c:Nat} (W:Nat->Nat->Int):ao r c (io W 0 0)=ao r c fun _ _=>0:=fu fun a ha b hb=>if_neg (by omega)
theorem XQ {p:Int} {k:Nat} {A A' B B':Nat->Nat->Int} {i j:Nat} (hA:∀t,t<k->A i t=A' i t) (hB:∀t,t<k->B t j=B' t j):e9 p k A B i j=e9 p k A' B' i j:=by
 unfold e9
 have:∀n,n<=k->jJ p (fun t=>A i t) (fun t=>B t j) n=jJ p (fun t=>A' i t) (fun t=>B' t j) n:=by
  intro n
  induction n with
  |zero=>intro _;rfl
  |succ n ih=>
   intro hn
   simp only[jJ]
   rw[ih (by omega),hA n (by omega),hB n (by omega)]
 exact this k (Nat.le_refl k)
theorem Ds {p:Int} (hp:cY p) (r c k:Nat) (A B:Nat->Nat->Int):bZ p r c (e9 p k A B):=fun i _ j _=>T4 hp _ _ k
theorem ahh {x:Int×(Int×Int×List Int)×(Int×Int×List Int)} (h:Dt x):∃(p:Int) (r k c:Nat) (A B:Nat->Nat->Int),x=(p,((r:Int),(k:Int),ao r k A),((k:Int),(c:Int),ao k c B))/\cY p/\
  r<=4096/\k<=4096/\c<=4096/\r*k<=1048576/\k*c<=1048576/\r*c<=1048576/\bZ p r k A/\bZ p k c B:=by
 obtain⟨p,a,b⟩:=x
 obtain⟨hp,ha,hb,hk,ew,h1,h2⟩:=h
 obtain⟨r,k,A,rfl,q1,q2,q3⟩:=vJ ha
 obtain⟨k',c,B,rfl,q4,q5,q6⟩:=vJ hb
 simp only at hk ew h1 h2
 have:k'=k:=by omega
 subst this
 have e:(r:Int)*(c:Int)=((r*c:Nat):Int):=by norm_cast
 exact⟨p,r,k',c,A,B,rfl,hp,q1,q2,q5,q3,q6,by omega,hH.1 h1,hH.1 h2⟩
theorem ahi {p:Int} {r k c:Nat} {A B:Nat->Nat->Int} (hp:cY p) (hr:r<=4096) (hk:k<=4096) (hc:c<=4096) (h1:r*k<=1048576) (h2:k*c<=1048576) (h3:r*c<=1048576) (hA:bZ p r k A) (hB:bZ p k c B):
  Dt (p,((r:Int),(k:Int),ao r k A),((k:Int),(c:Int),ao k c B)):=by
 refine⟨hp,yf A hr hk h1,yf B hk hc h2,rfl,?_,hH.2 hA,hH.2 hB⟩
 show(r:Int)*(c:Int)<=1048576
 have e:(r:Int)*(c:Int)=((r*c:Nat):Int):=by norm_cast
 omega
theorem Du {p:Int} {r k c:Nat} {A B:Nat->Nat->Int} (hp:cY p) (hr:r<=4096) (hk:k<=4096) (hc:c<=4096) (h1:r*k<=1048576) (h2:k*c<=1048576) (h3:r*c<=1048576) (hA:bZ p r k A) (hB:bZ p k c B):
  y6 (p,((r:Int),(k:Int),ao r k A),((k:Int),(c:Int),ao k c B))=some ((r:Int),(c:Int),ao r c (e9 p k A B)):=by
 simp only[y6,Int.toNat_natCast]
 rw[if_pos (ahi hp hr hk hc h1 h2 h3 hA hB)]
 exact congrArg (fun l=>some ((r:Int),(c:Int),l)) (fu fun i hi j hj=>XQ (fun t ht=>mS A hi ht) (fun t ht=>mS B ht hj))
theorem acG {p:Int} {r k c:Nat} {A B:Nat->Nat->Int} (hp:cY p) (hr:r<=4096) (hk:k<=4096) (hc:c<=4096) (h1:r*k<=1048576) (h2:k*c<=1048576) (h3:r*c<=1048576) (hA:bZ p r k A) (hB:bZ p k c B):
  EH aN (p,((r:Int),(k:Int),ao r k A),((k:Int),(c:Int),ao k c B))=some ((r:Int),(c:Int),ao r c (e9 p k A B)):=by
 simp only[EH,AR hr hc h3,az,cm]
 rw[show af 0 0 (aa ([]:List Int))=some () from rfl,az]
 rw[gM (r:=Sum.inl (((0:Int),(0:Int)),((r:Int),(c:Int)),([]:List Int),ao r c (e9 p k A B))) (fun i=>((p,(i:Int)),((r:Int),(k:Int),ao r k A),((k:Int),(c:Int),ao k c B),((0:Int),(0:Int)),((r:Int),(c:Int)),([]:List Int),ao r c (io (e9 p k A B) i 0))) r ?_ ?_ ?_ (dQ (by omega))]
 ·rw[eH];simp only[kG,az]
 ·intro i hi
  simp only
  rw[bH (g0 hi)]
  rw[gM (r:=Sum.inl (((i:Int),p),((r:Int),(k:Int),ao r k A),((k:Int),(c:Int),ao k c B),((0:Int),(0:Int)),((r:Int),(c:Int)),([]:List Int),ao r c (io (e9 p k A B) (i+1) 0))) (fun j=>((p,(i:Int),(j:Int)),((r:Int),(k:Int),ao r k A),((k:Int),(c:Int),ao k c B),((0:Int),(0:Int)),((r:Int),(c:Int)),([]:List Int),ao r c (io (e9 p k A B) i j))) c ?_ ?_ ?_ (dQ (by omega))]
  ·rw[eH];simp only[gk (show i<=1048577 by omega)]
  ·intro j hj
   simp only
   rw[bH (g0 hj)]
   rw[gM (r:=Sum.inl ((e9 p k A B i j,(j:Int),p,(i:Int)),((r:Int),(k:Int),ao r k A),((k:Int),(c:Int),ao k c B),((0:Int),(0:Int)),((r:Int),(c:Int)),([]:List Int),ao r c (io (e9 p k A B) i j))) (fun t=>((p,(i:Int),(j:Int),jJ p (fun t=>A i t) (fun t=>B t j) t,(t:Int)),((r:Int),(k:Int),ao r k A),((k:Int),(c:Int),ao k c B),((0:Int),(0:Int)),((r:Int),(c:Int)),([]:List Int),ao r c (io (e9 p k A B) i j))) k ?_ ?_ ?_ (dQ (by omega))]
   ·rw[eH]
    simp only[pU hr hc h3 hi hj,az,pg,XS (r:=r) (c:=c)]
    rw[eH]
    simp only[gk (show j<=1048577 by omega)]
   ·intro t ht
    simp only
    rw[bH (g0 ht),kg hr hk h1 hi ht,az,kg hk hc h2 ht hj,az,XE hp ((T4 hp _ _ t).s hp) (hA i hi t ht).le (hB t ht j hj).le,az]
    simp only[gk (show t<=1048577 by omega),jJ]
   ·simp only
    rw[bG (il (Nat.le_refl k))]
    rfl
   ·rfl
  ·simp only
   rw[bG (il (Nat.le_refl c)),Pg]
  ·rfl
 ·simp only
  rw[bG (il (Nat.le_refl r)),Pc]
 ·rw[Pb];rfl
theorem ab9 (x:Int×(Int×Int×List Int)×(Int×Int×List Int)) (y:Int×Int×List Int) (h:oQ x=some y):EH aN x=some y:=by
 have h0:y6 x=some y:=h
 simp only[oQ,y6] at h
 split at h
 ·rename_i hc
  obtain⟨p,r,k,c,A,B,rfl,hp,hr,hk,hc,h1,h2,h3,hA,hB⟩:=ahh hc
  rw[<-h0,acG hp hr hk hc h1 h2 h3 hA hB,Du hp hr hk hc h1 h2 h3 hA hB]
 ·cases h
end Go.Am
end
section
namespace Go.Am
def Ze (x:Int×Int×Int):Prop:=dv x.1=true/\(1<=x.2.1/\x.2.1<=8)/\(1<=x.2.2/\x.2.2<=8)
instance (x:Int×Int×Int):Decidable (Ze x):=by unfold Ze;infer_instance
theorem aeN {p:Int} {r c:Nat} {l:List Int} (h:l.length=r*c) (hr:mh p l=true):bZ p r c (aS c l):=by
 apply hH.1
 rw[lL h]
 intro x hx
 have:=List.all_eq_true.1 hr x hx
 exact of_decide_eq_true this
theorem agA {m:Int} {x:Int×Int×List Int} (h:tT m x=true):∃(r c:Nat) (M:Nat->Nat->Int),x=((r:Int),(c:Int),ao r c M)/\cY m/\r<=64/\c<=64/\r*c<=4096/\bZ m r c M:=by
 obtain⟨r,c,l⟩:=x
 simp only[tT,Bool.and_eq_true,decide_eq_true_eq] at h
 obtain⟨h1,h2,h3,h4,h5⟩:=h
 obtain⟨r,rfl⟩:=fz (z:=r) (by omega)
 obtain⟨c,rfl⟩:=fz (z:=c) (by omega)
 have hl:l.length=r*c:=by
  have e:(r:Int)*(c:Int)=((r*c:Nat):Int):=by norm_cast
  omega
 have ew:r*c<=64*64:=Nat.mul_le_mul (by omega) (by omega)
 exact⟨r,c,aS c l,by rw[lL hl],jS h1,by omega,by omega,by omega,aeN hl h5⟩
theorem wQ {x y:Nat} (h:x+y<=1099511627776):bS .i64 (x:Int) (y:Int)=((x+y:Nat):Int):=by
 rw[lF (by omega) (by omega)]
 omega
end Go.Am
end
section
namespace Go.Am
abbrev aL:=Nat->Nat->Int
def wa (p inv:Int) (M:aL) (t n:Nat):aL:=fun a b=>if a=t/\b<n then M t b*inv%p else M a b
def qY (p inv:Int) (M:aL) (t:Nat):aL:=fun a b=>if a=t then M t b*inv%p else M a b
def eD (p:Int) (M:aL) (t j n:Nat):aL:=fun a b=>if a<n/\a≠t then(M a b+(p - M a j)*M t b)%p else M a b
def nE (p:Int) (M:aL) (t j k:Nat):aL:=qY p (jR p 1 (cO M t k t j) (p - 2).toNat) (cO M t k) t
def Ii (p:Int) (M:aL) (t j k:Nat) (d:Int):Int:=(if k=t then d else(p - d)%p)*cO M t k t j%p
def jD (p:Int) (r:Nat) (s:aL×List Int×Int) (j:Nat):aL×List Int×Int:=
 if s.2.1.length<r then
  match oE s.1 j (r - s.2.1.length) s.2.1.length with
  |none=>s
  |some k=>(eD p (nE p s.1 s.2.1.length j k) s.2.1.length j r,s.2.1++[(j:Int)],Ii p s.1 s.2.1.length j k s.2.2)
 else s
def dG (p:Int) (r:Nat) (M:aL):Nat->aL×List Int×Int
 |0=>(M,[],1)
 |j+1=>jD p r (dG p r M j) j
def A7 (x:Int×Int×Int×List Int):Prop:=cY x.1/\nC x.2/\dR x.1 x.2.2.2
instance (x:Int×Int×Int×List Int):Decidable (A7 x):=by unfold A7;infer_instance
def pN (x:Int×Int×Int×List Int):aL×List Int×Int:=dG x.1 x.2.1.toNat (aS x.2.2.1.toNat x.2.2.2) x.2.2.1.toNat
def uv:Int×Int×Int×List Int->Option ((Int×Int×List Int)×List Int):=fun(x:Int×Int×Int×List Int)=>
 if A7 x then some ((x.2.1,x.2.2.1,ao x.2.1.toNat x.2.2.1.toNat (pN x).1),(pN x).2.1) else none
def Ft:av:=[(.one,[.int .i64]),(.agg,[.int .i64,.int .i64,.list [.int .i64]])]
def Qc:av:=[(.agg,[.int .i64,.int .i64,.list [.int .i64]]),(.one,[.list [.int .i64]])]
def agW:bo:=[]
def EJ (NN:Nat):(Int×(Int×(Int×(List Int))))->(Option ((Int×(Int×(List Int)))×(List Int))):=
 (fun((i0,i1,i2,l3):(Int×(Int×(Int×(List Int)))))=>
 (yT (i1,i2,l3)).ab (fun(i4,i5,l6)=>
 cT ((af 0 0 (aa (([]:List Int)))).ab (fun _=>
 (af 0 0 (aa (([]:List Int)))).ab (fun _=>
 (af 0 (aa l6) (aa l6)).ab (fun _=>
 bQ NN (fun(((i7,i8),(i9,dj),(da,c7),eA,cI,ca):((Int×Int)×((Int×Int)×((Int×Int)×((List Int)×((List Int)×(List Int)))))))=>
 aY (cr i8 c7)
 (cT (cT ((af 0 (aa ca) (aa ca)).ab (fun _=>
 (af 0 (aa eA) (aa eA)).ab (fun _=>
 (af 0 (aa cI) (aa cI)).ab (fun _=>
 bQ NN (fun(((dA,gw,eP,dY),(gG,lQ),(jt,fk),fm,dz,cP):((Int×(Int×(Int×Int)))×((Int×Int)×((Int×Int)×((List Int)×((List Int)×(List Int)))))))=>
 aY (cr dY jt)
 ((cv dz 0 (aa dz)).ab (fun nB=>
 (g9 ((jt,fk,nB),dY,gw)).ab (fun iR=>
 aY (fU iR (0:Int))
 ((af 0 (aa cP) (aa cP)).ab (fun _=>
 (af 0 (aa fm) (aa fm)).ab (fun _=>
 (af 0 (aa dz) (aa dz)).ab (fun _=>
 some (Sum.inl ((dA,gw,eP,bS .i64 dY 1),(gG,lQ),(jt,fk),fm,dz,cP))))))
 (((af 0 (aa cP) (aa cP)).ab (fun _=>
 (af 0 (aa fm) (aa fm)).ab (fun _=>
 (af 0 (aa dz) (aa dz)).ab (fun _=>
 some (Sum.inl ((dY,eP,gw,dA),(gG,lQ),(jt,fk),fm,dz,cP)))))).ab (fun fO=>
 some (Sum.inr fO))))))
 (((af 0 (aa cP) (aa cP)).ab (fun _=>
 (af 0 (aa fm) (aa fm)).ab (fun _=>
 (af 0 (aa dz) (aa dz)).ab (fun _=>
 some (Sum.inl ((dY,eP,gw,dA),(gG,lQ),(jt,fk),fm,dz,cP)))))).ab (fun jz=>
 some (Sum.inr jz))))
 ((i7,i8,bj (aa ca),bj (aa ca)),(i9,dj),(da,c7),eA,cI,ca)))))
 (fun((ju,Ab,pu,gH),(fN,iH),(lf,lR),iV,fy,lv)=>
 aY (fU ju lf)
 ((af 0 (aa lv) (aa lv)).ab (fun _=>
 (af 0 (aa iV) (aa iV)).ab (fun _=>
 (af 0 (aa fy) (aa fy)).ab (fun _=>
 some (Sum.inl ((pu,gH),(fN,iH),(lf,lR),iV,fy,lv))))))
 ((af 0 (aa fy) (aa fy)).ab (fun _=>
 (yS ((lf,lR,fy),Ab,ju)).ab (fun Dl=>
 (cv Dl 0 (aa fy)).ab (fun lZ=>
 (g9 ((lf,lR,lZ),Ab,pu)).ab (fun jv=>
 (yU (gH,jv)).ab (fun lS=>
 cT ((af 0 (aa lv) (aa lv)).ab (fun _=>
 (af 0 (aa iV) (aa iV)).ab (fun _=>
 (af 0 (aa fy) (aa Dl)).ab (fun _=>
 bQ NN (fun(((lT,gZ,lU,tM,nv),(r5,oe),(pw,pz),gL,mO,vA):((Int×(Int×(Int×(Int×Int))))×((Int×Int)×((Int×Int)×((List Int)×((List Int)×(List Int)))))))=>
 aY (cr nv pz)
 ((cv mO 0 (aa mO)).ab (fun vB=>
 (g9 ((pw,pz,vB),lU,nv)).ab (fun vn=>
 (kB (fa .i64 vn tM) lT).ab (fun vo=>
 (af 0 (aa mO) (aa mO)).ab (fun _=>
 (kL ((pw,pz,mO),lU,nv,vo)).ab (fun sq=>
 (af 0 (aa vA) (aa vA)).ab (fun _=>
 (af 0 (aa gL) (aa gL)).ab (fun _=>
 (af 0 (aa mO) (aa sq)).ab (fun _=>
 some (Sum.inl ((lT,gZ,lU,tM,bS .i64 nv 1),(r5,oe),(pw,pz),gL,sq,vA)))))))))))
 (((af 0 (aa vA) (aa vA)).ab (fun _=>
 (af 0 (aa gL) (aa gL)).ab (fun _=>
 (af 0 (aa mO) (aa mO)).ab (fun _=>
 some (Sum.inl ((lT,gZ,lU),(r5,oe),(pw,pz),gL,mO,vA)))))).ab (fun Dm=>
 some (Sum.inr Dm))))
 ((gH,pu,Ab,lS,(0:Int)),(fN,iH),(lf,lR),iV,Dl,lv)))))
 (fun((nw,i64,Ac),(xO,r6),(r7,Ht),iZ,qQ,vE)=>
 cT ((af 0 (aa vE) (aa vE)).ab (fun _=>
 (af 0 (aa iZ) (aa iZ)).ab (fun _=>
 (af 0 (aa qQ) (aa qQ)).ab (fun _=>
 bQ NN (fun(((nz,ot,xP,mN),(ou,r8),(lg,ov),lz,ik,mP):((Int×(Int×(Int×Int)))×((Int×Int)×((Int×Int)×((List Int)×((List Int)×(List Int)))))))=>
 aY (cr mN lg)
 (aY (lA mN xP)
 ((cv ik 0 (aa ik)).ab (fun N7=>
 (g9 ((lg,ov,N7),mN,ot)).ab (fun MY=>
 aY (lA MY (0:Int))
 ((cv ik 0 (aa ik)).ab (fun vG=>
 (g9 ((lg,ov,vG),mN,ot)).ab (fun MZ=>
 (af 0 (aa ik) (aa ik)).ab (fun _=>
 (wC ((lg,ov,ik),nz,mN,xP,wk .i64 nz MZ)).ab (fun HM=>
 (af 0 (aa mP) (aa mP)).ab (fun _=>
 (af 0 (aa lz) (aa lz)).ab (fun _=>
 (af 0 (aa ik) (aa HM)).ab (fun _=>
 some (Sum.inl ((nz,ot,xP,bS .i64 mN 1),(ou,r8),(lg,ov),lz,HM,mP))))))))))
 ((af 0 (aa mP) (aa mP)).ab (fun _=>
 (af 0 (aa lz) (aa lz)).ab (fun _=>
 (af 0 (aa ik) (aa ik)).ab (fun _=>
 some (Sum.inl ((nz,ot,xP,bS .i64 mN 1),(ou,r8),(lg,ov),lz,ik,mP)))))))))
 ((af 0 (aa mP) (aa mP)).ab (fun _=>
 (af 0 (aa lz) (aa lz)).ab (fun _=>
 (af 0 (aa ik) (aa ik)).ab (fun _=>
 some (Sum.inl ((nz,ot,xP,bS .i64 mN 1),(ou,r8),(lg,ov),lz,ik,mP)))))))
 (((af 0 (aa mP) (aa mP)).ab (fun _=>
 (af 0 (aa lz) (aa lz)).ab (fun _=>
 (af 0 (aa ik) (aa ik)).ab (fun _=>
 some (Sum.inl ((ot,nz),(ou,r8),(lg,ov),lz,ik,mP)))))).ab (fun l89=>
 some (Sum.inr l89))))
 ((nw,i64,Ac,(0:Int)),(xO,r6),(r7,Ht),iZ,qQ,vE)))))
 (fun((vp,Ag),(Db,r9),(Dc,xQ),Oc,pG,oy)=>
 (af 0 (aa oy) (aa oy)).ab (fun _=>
 (cv ((vp::([]:List Int))) 0 1).ab (fun qR=>
 (lK (bF (aa oy) (aa qR)) 8).ab (fun _=>
 (af 0 (bF (aa oy) (aa qR)) (aa (dg oy qR))).ab (fun _=>
 (af 0 (aa Oc) (aa Oc)).ab (fun _=>
 (af 0 (aa pG) (aa pG)).ab (fun _=>
 some (Sum.inl ((vp,Ag),(Db,r9),(Dc,xQ),Oc,pG,dg oy qR))))))))))))))))))
 (fun((adR,My),(Mz,C3),(xL,adS),sk,Di,Ny)=>
 (af 0 (aa Ny) (aa Ny)).ab (fun _=>
 (af 0 (aa sk) (aa sk)).ab (fun _=>
 (af 0 (aa Di) (aa Di)).ab (fun _=>
 some (Sum.inl ((My,bS .i64 adR 1),(Mz,C3),(xL,adS),sk,Di,Ny)))))))
 (((af 0 (aa ca) (aa ca)).ab (fun _=>
 (af 0 (aa eA) (aa eA)).ab (fun _=>
 (af 0 (aa cI) (aa cI)).ab (fun _=>
 some (Sum.inl ((i9,dj),(da,c7),eA,cI,ca)))))).ab (fun xY=>
 some (Sum.inr xY))))
 ((i0,(0:Int)),((0:Int),(0:Int)),(i4,i5),([]:List Int),l6,([]:List Int))))))
 (fun((xM,z8),(C4,MB),HG,HH,Al)=>
 (dc HH (aa HH)).ab (fun afL=>
 (dc Al (aa Al)).ab (fun afM=>
 some ((C4,MB,afL),afM))))))
theorem I4 {p:Int} {r c:Nat} {M:aL} (hM:bZ p r c M) {a b:Nat} (ha:a<r) (hb:b<r):bZ p r c (cO M a b):=by
 intro i hi j hj
 unfold cO
 split
 ·exact hM b hb j hj
 ·split
  ·exact hM a ha j hj
  ·exact hM i hi j hj
theorem YU {p inv:Int} {r c:Nat} {M:aL} (hp:cY p) (hM:bZ p r c M) (t:Nat):bZ p r c (qY p inv M t):=by
 intro i hi j hj
 unfold qY
 split
 ·exact xb hp _
 ·exact hM i hi j hj
theorem TJ {p:Int} {r c:Nat} {M:aL} (hp:cY p) (hM:bZ p r c M) (t k n:Nat):bZ p r c (eD p M t k n):=by
 intro i hi j hj
 unfold eD
 split
 ·exact xb hp _
 ·exact hM i hi j hj
theorem X7 {p:Int} (hp:cY p):f0 p 1:=⟨by omega,by have:=hp.1;omega⟩
theorem Yh {p:Int} {r c:Nat} {M:aL} (hp:cY p) (hM:bZ p r c M) {t k:Nat} (ht:t<r) (hk:k<r) (j:Nat):bZ p r c (nE p M t j k):=YU hp (I4 hM ht hk) t
structure RI (p:Int) (r c:Nat) (s:aL×List Int×Int) (j:Nat):Prop where
 m:bZ p r c s.1
 l:s.2.1.length<=r
 lj:s.2.1.length<=j
 d:f0 p s.2.2
 e:∀x∈s.2.1,0<=x/\x<(j:Int)
theorem RI.step {p:Int} {r c:Nat} {s:aL×List Int×Int} {j:Nat} (hp:cY p) (h:RI p r c s j):RI p r c (jD p r s j) (j+1):=by
 have eI:RI p r c s (j+1):=⟨h.m,h.l,by have:=h.lj;omega,h.d,fun x hx=>by have:=h.e x hx;omega⟩
 unfold jD
 split
 ·rename_i hl
  split
  ·exact eI
  ·rename_i k hk
   have hq:=DI hk
   refine⟨TJ hp (Yh hp h.m hl (by omega) j) _ _ _,?_,?_,xb hp _,?_⟩
   ·simp only[List.length_append,List.length_cons,List.length_nil];omega
   ·have:=h.lj
    simp only[List.length_append,List.length_cons,List.length_nil];omega
   ·intro x hx
    simp only[List.mem_append,List.mem_singleton] at hx
    rcases hx with hx|rfl
    ·have:=h.e x hx;omega
    ·omega
 ·exact eI
theorem oH {p:Int} {r c:Nat} {M:aL} (hp:cY p) (hM:bZ p r c M):∀j,RI p r c (dG p r M j) j
 |0=>⟨hM,Nat.zero_le _,Nat.le_refl 0,X7 hp,fun x hx=>absurd hx (List.not_mem_nil)⟩
 |j+1=>(oH hp hM j).step hp
theorem ajR {r c:Nat} {p inv:Int} (M:aL) (t n:Nat):ao r c (g8 (wa p inv M t n) t n (M t n*inv%p))=ao r c (wa p inv M t (n+1)):=by
 refine fu fun a _ b _=>?_
 unfold g8 wa
 by_cases h:a=t/\b=n
 ·obtain⟨rfl,rfl⟩:=h
  simp
 ·rw[if_neg h]
  by_cases h1:a=t/\b<n
  ·rw[if_pos h1,if_pos ⟨h1.1,by omega⟩]
  ·rw[if_neg h1,if_neg (by omega)]
theorem ajO {p inv:Int} (M:aL) (t:Nat):wa p inv M t 0=M:=by funext a b;exact if_neg (by omega)
theorem ajQ {p inv:Int} (M:aL) (t n:Nat):wa p inv M t n t n=M t n:=if_neg (by omega)
theorem ajP {r c:Nat} {p inv:Int} (M:aL) (t:Nat):ao r c (wa p inv M t c)=ao r c (qY p inv M t):=by
 refine fu fun a _ b hb=>?_
 unfold wa qY
 by_cases h:a=t
 ·rw[if_pos ⟨h,hb⟩,if_pos h]
 ·rw[if_neg (fun q=>h q.1),if_neg h]
theorem TI {p:Int} (M:aL) (t j:Nat):eD p M t j 0=M:=by funext a b;exact if_neg (by omega)
theorem F8 {p:Int} (M:aL) (t j n b:Nat):eD p M t j n n b=M n b:=if_neg (by omega)
theorem TL {p:Int} (M:aL) (t j n b:Nat):eD p M t j n t b=M t b:=if_neg (by omega)
theorem TK {p:Int} (M:aL) (t j:Nat):eD p M t j (t+1)=eD p M t j t:=by
 funext a b
 unfold eD
 by_cases h:a<t
 ·rw[if_pos (by omega),if_pos (by omega)]
 ·rw[if_neg (by omega),if_neg (by omega)]
theorem aaW {r c:Nat} {p:Int} (M:aL) (t j n:Nat) (hn:n≠t):ao r c (s9 p (eD p M t j n) n t (p - M n j))=ao r c (eD p M t j (n+1)):=by
 refine fu fun a _ b _=>?_
 unfold s9
 by_cases h:a=n
 ·subst h
  rw[if_pos rfl,F8,TL]
  exact(if_pos ⟨by omega,hn⟩).symm
 ·rw[if_neg h]
  unfold eD
  by_cases h1:a<n/\a≠t
  ·rw[if_pos h1,if_pos ⟨by omega,h1.2⟩]
  ·rw[if_neg h1,if_neg (by omega)]
theorem aaX {r c:Nat} {p:Int} (M:aL) (t j n:Nat) (hM:bZ p r c M) (h0:M n j=0):ao r c (eD p M t j n)=ao r c (eD p M t j (n+1)):=by
 refine fu fun a ha b hb=>?_
 unfold eD
 by_cases h:a=n
 ·subst h
  rw[if_neg (by omega)]
  by_cases ht:a=t
  ·rw[if_neg (by omega)]
  ·rw[if_pos ⟨by omega,ht⟩,h0,Int.sub_zero,Int.add_mul_emod_self_left]
   exact(Int.emod_eq_of_lt (hM a ha b hb).1 (hM a ha b hb).2).symm
 ·by_cases h1:a<n/\a≠t
  ·rw[if_pos h1,if_pos ⟨by omega,h1.2⟩]
  ·rw[if_neg h1,if_neg (by omega)]
theorem Ic {M:aL} {j:Nat}:∀{d k:Nat},oE M j d k=none->∀i,k<=i->i<k+d->M i j=0
 |0,k,_,i,h1,h2=>by omega
 |d+1,k,h,i,h1,h2=>by
  simp only[oE] at h
  split at h
  ·rename_i h0
   by_cases hi:i=k
   ·rw[hi];exact h0
   ·exact Ic h i (by omega) (by omega)
  ·cases h
theorem Pv {M:aL} {j q:Nat}:∀{d k:Nat},oE M j d k=some q->∀i,k<=i->i<q->M i j=0
 |0,k,h,i,h1,h2=>by cases h
 |d+1,k,h,i,h1,h2=>by
  simp only[oE] at h
  split at h
  ·rename_i h0
   by_cases hi:i=k
   ·rw[hi];exact h0
   ·exact Pv h i (by omega) h2
  ·have:=Option.some.inj h;omega
theorem PG {p:Int} {r:Nat} {s:aL×List Int×Int} {j:Nat} (hl:s.2.1.length<r) (h:oE s.1 j (r - s.2.1.length) s.2.1.length=none):jD p r s j=s:=by
 unfold jD
 rw[if_pos hl,h]
theorem PH {p:Int} {r:Nat} {s:aL×List Int×Int} {j k:Nat} (hl:s.2.1.length<r) (h:oE s.1 j (r - s.2.1.length) s.2.1.length=some k):
  jD p r s j=(eD p (nE p s.1 s.2.1.length j k) s.2.1.length j r,s.2.1++[(j:Int)],Ii p s.1 s.2.1.length j k s.2.2):=by
 unfold jD
 rw[if_pos hl,h]
theorem aeU {p x:Int} (hp:cY p) (hx:f0 p x):yU (p,x)=some (jR p 1 x (p - 2).toNat):=if_pos ⟨hp,hx⟩
theorem SD {r c:Nat} (M M':aL):cv (ao r c M) 0 (aa (ao r c M'))=some (ao r c M):=Jj (by rw[AJ];exact(fW r c M))
section
variable {p:Int} {r c:Nat} {M0:aL}
end
section
variable {p:Int} {r c:Nat} {M0:aL}
abbrev R0 (p:Int) (r c:Nat) (s:aL×List Int×Int) (j:Nat):(Int×Int)×(Int×Int)×(Int×Int)×List Int×List Int×List Int:=
 ((p,(j:Int)),((0:Int),(0:Int)),((r:Int),(c:Int)),([]:List Int),ao r c s.1,s.2.1)
theorem acL (hp:cY p) (hr:r<=4096) (hc:c<=4096) (ew:r*c<=1048576) (hM:bZ p r c M0):
  EJ aN (p,(r:Int),(c:Int),ao r c M0)=some (((r:Int),(c:Int),ao r c (dG p r M0 c).1),(dG p r M0 c).2.1):=by
 have hlen:(ao r c M0).length<=1099511627776:=by rw[fW];omega
 simp only[EJ,yT,if_pos hlen,az,cm]
 rw[gM (r:=Sum.inl (((0:Int),(0:Int)),((r:Int),(c:Int)),([]:List Int),ao r c (dG p r M0 c).1,(dG p r M0 c).2.1)) (fun j=>R0 p r c (dG p r M0 j) j) c ?_ ?_ ?_ (dQ (by omega))]
 ·rw[show af 0 0 (aa ([]:List Int))=some () from rfl];simp only[az];rw[eH];simp only[kG,az]
 ·intro j hj
  have hI:=oH hp hM (r:=r) (c:=c) j
  generalize hs:dG p r M0 j=s at hI⊢
  have hS:dG p r M0 (j+1)=jD p r s j:=by rw[<-hs];rfl
  obtain⟨M,L,d⟩:=s
  have tg:bZ p r c M:=hI.m
  have kq:L.length<=r:=hI.l
  have hlj:L.length<=j:=hI.lj
  simp only[R0]
  rw[bH (g0 hj)]
  have ajW:∃k:Nat,L.length<=k/\k<=r/\(∀i,L.length<=i->i<k->M i j=0)/\((k=r/\jD p r (M,L,d) j=(M,L,d))\/(k<r/\M k j≠0/\L.length<r/\jD p r (M,L,d) j=(eD p (nE p M L.length j k) L.length j r,L++[(j:Int)],Ii p M L.length j k d))):=by
   by_cases hl:L.length<r
   ·cases hk:oE M j (r - L.length) L.length with
    |none=>exact⟨r,kq,Nat.le_refl r,fun i h1 h2=>Ic hk i h1 (by omega),.inl ⟨rfl,PG (s:=(M,L,d)) hl hk⟩⟩
    |some k=>
     obtain⟨q1,q2,q3⟩:=DI hk
     exact⟨k,q1,by omega,fun i h1 h2=>Pv hk i h1 h2,.inr ⟨by omega,q3,hl,PH (s:=(M,L,d)) hl hk⟩⟩
   ·refine⟨r,kq,Nat.le_refl r,fun i h1 h2=>by omega,.inl ⟨rfl,?_⟩⟩
    unfold jD
    exact if_neg hl
  obtain⟨k,GZ,LZ,L0,Vw⟩:=ajW
  rw[gM (r:=Sum.inl (((k:Int),((L.length:Nat):Int),(j:Int),p),((0:Int),(0:Int)),((r:Int),(c:Int)),([]:List Int),ao r c M,L)) (fun e=>((p,(j:Int),((L.length:Nat):Int),((L.length+e:Nat):Int)),((0:Int),(0:Int)),((r:Int),(c:Int)),([]:List Int),ao r c M,L)) (k - L.length) ?_ ?_ ?_ (dQ (by omega))]
  ·rw[eH]
   simp only
   rcases Vw with⟨xF,Lp⟩|⟨xF,aw,hl,Lp⟩
   ·rw[hS,Lp,bH (Cg (by omega)),eH]
    simp only[gk (show j<=1048577 by omega)]
   ·rw[hS,Lp,bG (Cf (by omega))]
    have GQ:=I4 tg hl xF
    have hx:=GQ L.length hl j hj
    have LU:=aeS hp (p - 2).toNat 1 (cO M L.length k L.length j) (X7 hp)
    rw[show yS (((r:Int),(c:Int),ao r c M),((L.length:Nat):Int),(k:Int))=some (ao r c (cO M L.length k)) from ZE hr hc ew hl xF,az,SD,az,kg hr hc ew hl hj,az,aeU hp hx,az]
    simp only[pg,az]
    rw[gM (r:=Sum.inl ((p,(j:Int),((L.length:Nat):Int)),((0:Int),(0:Int)),((r:Int),(c:Int)),([]:List Int),ao r c (nE p M L.length j k),L)) (fun b=>((p,(j:Int),((L.length:Nat):Int),jR p 1 (cO M L.length k L.length j) (p - 2).toNat,(b:Int)),((0:Int),(0:Int)),((r:Int),(c:Int)),([]:List Int),ao r c (wa p (jR p 1 (cO M L.length k L.length j) (p - 2).toNat) (cO M L.length k) L.length b),L)) c ?_ ?_ ?_ (dQ (by omega))]
    ·rw[eH]
     simp only
     have hP:bZ p r c (nE p M L.length j k):=Yh hp tg hl xF j
     generalize nE p M L.length j k=P at hP⊢
     rw[gM (r:=Sum.inl (((j:Int),p),((0:Int),(0:Int)),((r:Int),(c:Int)),([]:List Int),ao r c (eD p P L.length j r),L)) (fun a=>((p,(j:Int),((L.length:Nat):Int),(a:Int)),((0:Int),(0:Int)),((r:Int),(c:Int)),([]:List Int),ao r c (eD p P L.length j a),L)) r ?_ ?_ ?_ (dQ (by omega))]
     ·rw[eH]
      simp only
      rw[Jj (xs:=[(j:Int)]) (n:=1) rfl,az,nZ (by simp only[bF,aa,eK,List.length_cons,List.length_nil];omega),az,agt,cm,az,eH]
      simp only[gk (show j<=1048577 by omega)]
      rfl
     ·intro a ha
      simp only
      rw[bH (g0 ha)]
      by_cases bO:a=L.length
      ·rw[bG (yk (by omega))]
       simp only[gk (show a<=1048577 by omega)]
       rw[bO,TK]
      ·rw[bH (AQ (by omega)),SD,az,kg hr hc ew ha hj,az,F8]
       have GM:=hP a ha j hj
       by_cases h0:P a j=0
       ·rw[bG (yk h0)]
        simp only[gk (show a<=1048577 by omega)]
        rw[aaX P L.length j a hP h0]
       ·rw[bH (AQ h0),az,kg hr hc ew ha hj,az,F8]
        have hs:wk .i64 p (P a j)=p - P a j:=by
         have h1:=hp.1;have h2:=hp.2;have h3:=GM.1;have h4:=GM.2
         exact Ef (by omega) (by omega)
        rw[hs,S2 hp hr hc ew ha hl (by have h3:=GM.1;have h4:=GM.2;omega) (TJ hp hP _ _ _)]
        simp only[az,pg,gk (show a<=1048577 by omega)]
        rw[aaW P L.length j a bO]
     ·simp only
      rw[bG (il (Nat.le_refl r))]
     ·rw[TI]
      rfl
    ·intro b hb
     simp only
     rw[bH (g0 hb),SD,az,kg hr hc ew hl hb,az,ajQ,Pa hp (GQ L.length hl b hb).le LU.le,az,pU hr hc ew hl hb]
     simp only[az,pg,ajR,gk (show b<=1048577 by omega)]
    ·simp only
     rw[bG (il (Nat.le_refl c)),ajP]
     rfl
    ·rw[ajO]
     rfl
  ·intro e he
   simp only
   rw[bH (g0 (show L.length+e<r by omega)),iv,az,kg hr hc ew (show L.length+e<r by omega) hj,az,bH (Cg (L0 _ (by omega) (by omega)))]
   simp only[gk (show L.length+e<=1048577 by omega)]
   rfl
  ·have e1:L.length+(k - L.length)=k:=by omega
   simp only[e1]
   by_cases xF:k<r
   ·have aw:M k j≠0:=by
     rcases Vw with⟨h1,_⟩|⟨_,h1,_⟩
     ·omega
     ·exact h1
    rw[bH (g0 xF),iv,az,kg hr hc ew xF hj,az,bG (Cf aw)]
   ·rw[bG (il (by omega))]
  ·rfl
 ·simp only[R0]
  rw[bG (il (Nat.le_refl c))]
 ·rfl
end
theorem ai9 {x:Int×Int×Int×List Int} (h:A7 x):∃(p:Int) (r c:Nat) (M:aL),x=(p,(r:Int),(c:Int),ao r c M)/\cY p/\r<=4096/\c<=4096/\r*c<=1048576/\bZ p r c M/\M=aS c (ao r c M):=by
 obtain⟨p,x⟩:=x
 obtain⟨hp,hm,ha⟩:=h
 obtain⟨r,c,M,rfl,h1,h2,h3⟩:=vJ hm
 simp only at hp ha
 have e:ao r c (aS c (ao r c M))=ao r c M:=lL (fW r c M)
 exact⟨p,r,c,aS c (ao r c M),by rw[e],hp,h1,h2,h3,hH.1 (by rw[e];exact ha),by rw[e]⟩
theorem acb (x:Int×Int×Int×List Int) (y:(Int×Int×List Int)×List Int) (h:uv x=some y):EJ aN x=some y:=by
 simp only[uv] at h
 split at h
 ·rename_i hc
  obtain⟨p,r,c,M,rfl,hp,h1,h2,h3,hM,e⟩:=ai9 hc
  rw[<-h,acL hp h1 h2 h3 hM]
  simp only[pN,Int.toNat_natCast,<-e]
 ·cases h
end Go.Am
end
section
namespace Go.Am
section
variable {p:Int} {r c:Nat} {M R:aL} {L:List Int}
end
end Go.Am
end
section
namespace Go.Am
def ch:Nat->Nat->Nat
 |_,0=>1
 |0,_+1=>0
 |n+1,k+1=>ch n k+ch n (k+1)
theorem FV:∀{n k:Nat},n<k->ch n k=0
 |0,k+1,_=>by simp[ch]
 |n+1,k+1,h=>by simp[ch,FV (show n<k by omega),FV (show n<k+1 by omega)]
theorem B2 (n:Nat):ch n 0=1:=by cases n<;>rfl
theorem Tx:∀n,ch n n=1
 |0=>rfl
 |n+1=>by simp[ch,Tx n,FV (Nat.lt_succ_self n)]
theorem FW:∀(n k:Nat),(k+1)*ch (n+1) (k+1)=(n+1)*ch n k
 |0,0=>by simp[ch]
 |0,k+1=>by simp[ch]
 |n+1,0=>by
  have h:=FW n 0
  simp only[B2] at h⊢
  have e:ch (n+1+1) (0+1)=ch (n+1) 0+ch (n+1) (0+1):=rfl
  rw[e,B2]
  omega
 |n+1,k+1=>by
  have h1:=FW n k
  have h2:=FW n (k+1)
  have e1:ch (n+1+1) (k+1+1)=ch (n+1) (k+1)+ch (n+1) (k+1+1):=rfl
  have e2:ch (n+1) (k+1)=ch n k+ch n (k+1):=rfl
  rw[e1]
  generalize ch (n+1) (k+1+1)=B at*
  generalize ch (n+1) (k+1)=A at*
  generalize ch n k=u at*
  generalize ch n (k+1)=v at*
  subst e2
  grind
def mV (f:Nat->Nat):Nat->Nat
 |0=>0
 |m+1=>mV f m+f m
theorem ZD (n a:Nat):∀m,mV (fun k=>ch (n+1) k*a^k) (m+1)=mV (fun k=>ch n k*a^k) (m+1)+a*mV (fun k=>ch n k*a^k) m
 |0=>by simp[mV,B2]
 |m+1=>by
  have h:=ZD n a m
  simp only[mV] at h⊢
  have e:ch (n+1) (m+1)=ch n m+ch n (m+1):=rfl
  rw[h,e,Nat.pow_succ]
  grind
theorem Tq (a:Nat):∀n,(a+1)^n=mV (fun k=>ch n k*a^k) (n+1)
 |0=>by simp[mV,B2]
 |n+1=>by
  rw[ZD]
  have e:mV (fun k=>ch n k*a^k) (n+1+1)=mV (fun k=>ch n k*a^k) (n+1):=by
   show mV _ (n+1)+ch n (n+1)*a^(n+1)=_
   rw[FV (Nat.lt_succ_self n)];simp
  rw[e,<-Tq a n,Nat.pow_succ]
  grind
theorem ZC {p:Nat} {f:Nat->Nat}:∀m,(∀k,0<k->k<=m->p∣f k)->mV f (m+1)%p=f 0%p
 |0,h=>by simp[mV]
 |m+1,h=>by
  have i:=ZC m fun k h1 h2=>h k h1 (by omega)
  obtain⟨c,hc⟩:=h (m+1) (by omega) (Nat.le_refl _)
  show(mV f (m+1)+f (m+1))%p=_
  rw[hc,Nat.add_mul_mod_self_left,i]
def wN (p:Nat):Prop:=2<=p/\∀d,d∣p->d=1\/d=p
theorem wN.TO {p a:Nat} (hp:wN p) (h:¬p∣a):Nat.Coprime p a:=by
 have:=hp.2 (Nat.gcd p a) (Nat.gcd_dvd_left p a)
 rcases this with h1|h1
 ·exact h1
 ·exact absurd (h1▸Nat.gcd_dvd_right p a) h
theorem wN.ch {p k:Nat} (hp:wN p) (h1:0<k) (h2:k<p):p∣ch p k:=by
 obtain⟨q,rfl⟩:∃q,p=q+1:=⟨p - 1,by omega⟩
 obtain⟨j,rfl⟩:∃j,k=j+1:=⟨k - 1,by omega⟩
 have hm:=FW q j
 have hd:(q+1)∣(j+1)*Go.Am.ch (q+1) (j+1):=⟨Go.Am.ch q j,hm⟩
 exact(hp.TO fun h=>absurd (Nat.le_of_dvd (by omega) h) (by omega)).dvd_of_dvd_mul_left hd
theorem Uz {p:Nat} (hp:wN p):∀a,a^p%p=a%p
 |0=>by rw[Nat.zero_pow (by have:=hp.1;omega)]
 |a+1=>by
  rw[Tq]
  show(mV _ p+Go.Am.ch p p*a^p)%p=_
  obtain⟨q,rfl⟩:∃q,p=q+1:=⟨p - 1,by have:=hp.1;omega⟩
  have h:=ZC (p:=q+1) (f:=fun k=>Go.Am.ch (q+1) k*a^k) q fun k h1 h2=>Nat.dvd_trans (hp.ch h1 (by omega)) (Nat.dvd_mul_right _ _)
  rw[Tx,Nat.one_mul,Nat.add_mod,h,Uz hp a]
  simp only[B2,Nat.pow_zero,Nat.mul_one]
  rw[<-Nat.add_mod,Nat.add_comm]
theorem acx {p a:Nat} (hp:wN p) (ha:¬p∣a):a*a^(p - 2)%p=1:=by
 have h2:=hp.1
 have h:=Uz hp a
 have e:a^p=a*(a*a^(p - 2)):=by
  obtain⟨q,rfl⟩:∃q,p=q+2:=⟨p - 2,by omega⟩
  rw[Nat.pow_succ,Nat.pow_succ,Nat.add_sub_cancel]
  rw[Nat.mul_comm a (a^q),Nat.mul_comm a (a^q*a)]
 rw[e] at h
 have GO:0<a:=by
  rcases Nat.eq_zero_or_pos a with h|h
  ·subst h;exact absurd ⟨0,by simp⟩ ha
  ·exact h
 have hz:0<a*a^(p - 2):=Nat.mul_pos GO (Nat.pow_pos GO)
 generalize a*a^(p - 2)=z at h hz⊢
 obtain⟨y,rfl⟩:∃y,z=y+1:=⟨z - 1,by omega⟩
 have hd:p∣a*y:=by
  have e:a*(y+1)=a*y+a:=by rw[Nat.mul_add,Nat.mul_one]
  rw[e] at h
  have:(a*y+a - a)%p=0:=Nat.sub_mod_eq_zero_of_mod_eq h
  rw[Nat.add_sub_cancel] at this
  exact Nat.dvd_of_mod_eq_zero this
 obtain⟨c,rfl⟩:=(hp.TO ha).dvd_of_dvd_mul_left hd
 rw[Nat.add_comm,Nat.add_mul_mod_self_left]
 exact Nat.mod_eq_of_lt (by omega)
end Go.Am
end
section
namespace Go.Am
theorem aeZ {p:Int} (h:dv p=true):wN p.toNat:=by
 have hp:=jS h
 obtain⟨n,rfl⟩:=fz (show 0<=p by omega)
 simp only[Int.toNat_natCast]
 refine⟨by omega,fun d hd=>?_⟩
 rcases Nat.lt_or_ge d 2 with h2|h2
 ·rcases Nat.eq_zero_or_pos d with h0|h0
  ·subst h0
   have:=Nat.eq_zero_of_zero_dvd hd
   omega
  ·exact .inl (by omega)
 ·obtain⟨e,he⟩:=hd
  simp only[dv,Bool.and_eq_true,decide_eq_true_eq,Bool.not_eq_true',List.any_eq_false] at h
  have cu:∀a b:Nat,2<=a->2<=b->a<=b->n≠a*b:=by
   intro a b ha hb eE e
   have h1:a*a<=n:=by rw[e];exact Nat.mul_le_mul_left _ eE
   have h3:a<1001:=by
    rcases Nat.lt_or_ge a 1001 with h|h
    ·exact h
    ·have:=Nat.mul_le_mul h h;omega
   refine h.2 a (by simp;omega) ?_
   unfold ql
   have ea:((a:Int))*(a:Int)=((a*a:Nat):Int):=by norm_cast
   simp only[Bool.and_eq_true,decide_eq_true_eq]
   constructor
   ·rw[ea];omega
   ·rw[e];push_cast;exact Int.mul_emod_right _ _
  right
  rcases Nat.lt_or_ge e 2 with h3|h3
  ·have:e=1:=by
    rcases Nat.eq_zero_or_pos e with h0|h0
    ·subst h0;simp at he;omega
    ·omega
   subst this;omega
  ·exfalso
   rcases Nat.le_total d e with LG|LG
   ·exact cu d e h2 h3 LG he
   ·exact cu e d h3 h2 LG (by rw[he,Nat.mul_comm])
theorem Yi (x:Int) (b:Nat):∀m:Nat,(x*x)^m*x^b=x^(2*m+b)
 |0=>by simp
 |m+1=>by
  have ih:=Yi x b m
  rw[show 2*(m+1)+b=2*m+b+1+1 by omega,Int.pow_succ,Int.pow_succ (n:=2*m+b+1),Int.pow_succ (n:=2*m+b),<-ih]
  grind
theorem aeT {p:Int} (hp:cY p):∀(n:Nat) (out x:Int),jR p out x n%p=out*x^n%p:=by
 intro n
 induction n using Nat.strongRecOn with
 |ind n ih=>
  intro out x
  by_cases h0:n=0
  ·subst h0;rw[Ng];simp
  ·rw[Nh h0,ih (n/2) (by omega)]
   have e:x^n=(x*x)^(n/2)*x^(n%2):=by
    rw[Yi,Nat.div_add_mod]
   rw[e]
   have h1:((x*x%p)^(n/2))%p=((x*x)^(n/2))%p:=by
    have:∀k:Nat,((x*x%p)^k)%p=((x*x)^k)%p:=by
     intro k
     induction k with
     |zero=>simp
     |succ k ih=>rw[Int.pow_succ,Int.pow_succ,Int.mul_emod,ih,Int.emod_emod,<-Int.mul_emod]
    exact this _
   by_cases hb:n%2=1
   ·rw[if_pos hb,hb,Int.mul_emod,h1,Int.emod_emod,<-Int.mul_emod]
    congr 1
    grind
   ·rw[if_neg hb,show n%2=0 by omega,Int.mul_emod,h1,<-Int.mul_emod]
    congr 1
    grind
theorem Ni {p x:Int} (cN:dv p=true) (hx:f0 p x) (h0:x≠0):x*jR p 1 x (p - 2).toNat%p=1:=by
 have hp:=jS cN
 have aX:cY p:=⟨hp.1,hp.2⟩
 obtain⟨n,rfl⟩:=fz (show 0<=p by omega)
 obtain⟨a,rfl⟩:=fz hx.1
 have hN:=aeZ cN
 simp only[Int.toNat_natCast] at hN
 have ha:¬n∣a:=fun h=>by
  have:=Nat.le_of_dvd (by omega) h
  have:=hx.2
  omega
 have hf:=acx hN ha
 have e:(((n:Int)) - 2).toNat=n - 2:=by omega
 rw[Int.mul_emod,aeT aX,e,Int.one_mul,<-Int.mul_emod]
 exact_mod_cast hf
def fI (f g:Nat->Int):Nat->Int
 |0=>0
 |n+1=>fI f g n+f n*g n
theorem ZA {p:Int} {f f' g:Nat->Int}:∀n,(∀k,k<n->∃q,f k=f' k+p*q)->∃q,fI f g n=fI f' g n+p*q
 |0,_=>⟨0,by simp[fI]⟩
 |n+1,h=>by
  obtain⟨q,hq⟩:=ZA (g:=g) n fun k hk=>h k (by omega)
  obtain⟨q',dM⟩:=h n (by omega)
  exact⟨q+q'*g n,by simp only[fI,hq,dM];grind⟩
theorem R6 (f f2 g:Nat->Int) (c:Int):∀n,fI (fun k=>f k+c*f2 k) g n=fI f g n+c*fI f2 g n
 |0=>by simp[fI]
 |n+1=>by simp only[fI,R6 f f2 g c n];grind
theorem I3 (f g g2:Nat->Int) (c:Int):∀n,fI f (fun k=>g k - c*g2 k) n=fI f g n - c*fI f g2 n
 |0=>by simp[fI]
 |n+1=>by simp only[fI,I3 f g g2 c n];grind
theorem R7 (f g:Nat->Int) (c:Int):∀n,fI (fun k=>f k*c) g n=fI f g n*c
 |0=>by simp[fI]
 |n+1=>by simp only[fI,R7 f g c n];grind
theorem R8 (f g:Nat->Int) (c:Int):∀n,fI f (fun k=>g k*c) n=fI f g n*c
 |0=>by simp[fI]
 |n+1=>by simp only[fI,R8 f g c n];grind
def dl (a b:Nat):Int:=if a=b then 1 else 0
def kO (p:Int) (n:Nat) (E X:aL):Prop:=∀a,a<n->∀b,b<n->∃q,fI (E a) (fun k=>X k b) n=dl a b+p*q
theorem kO.congr {p:Int} {n:Nat} {E E' X:aL} (h:kO p n E X) (he:∀a,a<n->∀k,k<n->∃q,E' a k=E a k+p*q):kO p n E' X:=by
 intro a ha b hb
 obtain⟨q,hq⟩:=h a ha b hb
 obtain⟨q',dM⟩:=ZA (p:=p) (f:=E' a) (f':=E a) (g:=fun k=>X k b) n (he a ha)
 exact⟨q+q',by rw[dM,hq];grind⟩
theorem kO.swap {p:Int} {n:Nat} {E X:aL} (h:kO p n E X) {s t:Nat} (hs:s<n) (ht:t<n):∃X',kO p n (cO E s t) X':=by
 let sw:Nat->Nat:=fun i=>if i=s then t else if i=t then s else i
 have zW:∀i,i<n->sw i<n:=by
  intro i hi
  show(if i=s then t else if i=t then s else i)<n
  split
  ·exact ht
  ·split
   ·exact hs
   ·exact hi
 have u7:∀i j,sw i=sw j->i=j:=by
  intro i j
  show(if i=s then t else if i=t then s else i)=(if j=s then t else if j=t then s else j)->i=j
  intro h
  repeat' split at h
  all_goals omega
 refine⟨fun k b=>X k (sw b),fun a ha b hb=>?_⟩
 obtain⟨q,hq⟩:=h (sw a) (zW a ha) (sw b) (zW b hb)
 refine⟨q,?_⟩
 have e:cO E s t a=E (sw a):=by
  funext k
  show(if a=s then E t k else if a=t then E s k else E a k)=E (if a=s then t else if a=t then s else a) k
  split
  ·rfl
  ·split<;>rfl
 rw[e,hq]
 congr 1
 unfold dl
 by_cases eE:a=b
 ·subst eE;simp
 ·rw[if_neg eE,if_neg fun h=>eE (u7 _ _ h)]
theorem kO.ajM {p inv u:Int} {n:Nat} {E X:aL} (h:kO p n E X) {t:Nat} (ht:t<n) (hu:u*inv%p=1):∃X',kO p n (qY p inv E t) X':=by
 have jq:∃z,u*inv=1+p*z:=⟨u*inv/p,by have:=Int.emod_add_mul_ediv (u*inv) p;omega⟩
 obtain⟨z,hz⟩:=jq
 refine⟨fun k b=>if b=t then X k t*u else X k b,kO.congr (E:=fun a k=>if a=t then E t k*inv else E a k) (fun a ha b hb=>?_) (fun a ha k hk=>?_)⟩
 ·obtain⟨q,hq⟩:=h a ha b hb
  by_cases bO:a=t
  ·subst bO
   by_cases mC:b=a
   ·subst mC
    refine⟨z+q*inv*u,?_⟩
    simp only[if_true]
    rw[R7,R8,hq,dl,if_pos rfl]
    grind
   ·refine⟨q*inv,?_⟩
    simp only[if_true,if_neg mC]
    rw[R7,hq,dl,if_neg (Ne.symm mC)]
    grind
  ·by_cases mC:b=t
   ·subst mC
    refine⟨q*u,?_⟩
    simp only[if_neg bO,if_true]
    rw[R8]
    have:fI (fun k=>E a k) (fun k=>X k b) n=dl a b+p*q:=hq
    rw[this,dl,if_neg bO]
    grind
   ·refine⟨q,?_⟩
    simp only[if_neg bO,if_neg mC]
    exact hq
 ·unfold qY
  by_cases bO:a=t
  ·simp only[bO,if_true]
   refine⟨-(E t k*inv/p),?_⟩
   have:=Int.emod_add_mul_ediv (E t k*inv) p
   have e:p* -(E t k*inv/p)= -(p*(E t k*inv/p)):=Int.mul_neg _ _
   omega
  ·simp only[bO,if_false]
   exact⟨0,by simp⟩
theorem kO.add {p f:Int} {n:Nat} {E E' X:aL} (h:kO p n E X) {m t:Nat} (hm:m<n) (ht:t<n) (zQ:m≠t) (he:∀a,a<n->∀k,k<n->∃q,E' a k=(if a=m then E m k+f*E t k else E a k)+p*q):∃X',kO p n E' X':=by
 refine⟨fun k b=>if b=t then X k t - f*X k m else X k b,kO.congr (E:=fun a k=>if a=m then E m k+f*E t k else E a k) (fun a ha b hb=>?_) he⟩
 obtain⟨q1,h1⟩:=h a ha b hb
 obtain⟨q2,h2⟩:=h t ht b hb
 obtain⟨q3,h3⟩:=h a ha m hm
 obtain⟨q4,h4⟩:=h t ht m hm
 have iB:fI (fun k=>E a k) (fun k=>X k b) n=dl a b+p*q1:=h1
 have uW:fI (fun k=>E t k) (fun k=>X k b) n=dl t b+p*q2:=h2
 have uY:fI (fun k=>E a k) (fun k=>X k m) n=dl a m+p*q3:=h3
 have h4':fI (fun k=>E t k) (fun k=>X k m) n=dl t m+p*q4:=h4
 have d1:dl t m=0:=if_neg (Ne.symm zQ)
 by_cases xp:a=m
 ·subst xp
  have d2:dl a a=1:=if_pos rfl
  by_cases mC:b=t
  ·subst mC
   have d3:dl a b=0:=if_neg zQ
   have d4:dl b b=1:=if_pos rfl
   refine⟨q1+f*q2 - f*q3 - f*f*q4,?_⟩
   simp only[if_true]
   rw[R6,I3,I3,iB,uW,uY,h4',d1,d2,d3,d4]
   grind
  ·refine⟨q1+f*q2,?_⟩
   have d3:dl t b=0:=if_neg (Ne.symm mC)
   simp only[if_true,if_neg mC]
   rw[R6,iB,uW,d3]
   grind
 ·by_cases mC:b=t
  ·subst mC
   have d3:dl a m=0:=if_neg xp
   refine⟨q1 - f*q3,?_⟩
   simp only[if_neg xp,if_true]
   rw[I3,iB,uY,d3]
   grind
  ·refine⟨q1,?_⟩
   simp only[if_neg xp,if_neg mC]
   exact iB
def RK (p:Int) (n:Nat) (s:aL×List Int×Int) (j:Nat):Prop:=
 (∃X,kO p n (fun a k=>s.1 a (n+k)) X)/\∀b,b<j->∀i,s.2.1.length<=i->i<n->s.1 i b=0
theorem RK.step {p:Int} {n:Nat} {s:aL×List Int×Int} {j:Nat} (cN:dv p=true) (hj:j<2*n) (I:RI p n (2*n) s j) (h:RK p n s j):RK p n (jD p n s j) (j+1):=by
 have hp:cY p:=jS cN
 obtain⟨⟨X,hX⟩,hz⟩:=h
 obtain⟨M,L,d⟩:=s
 simp only at hX hz
 by_cases hl:L.length<n
 ·cases hk:oE M j (n - L.length) L.length with
  |none=>
   rw[PG (s:=(M,L,d)) hl hk]
   refine⟨⟨X,hX⟩,fun b hb i h1 h2=>?_⟩
   by_cases xr:b=j
   ·subst xr;exact Ic hk i h1 (by simp only at h1;omega)
   ·exact hz b (by omega) i h1 h2
  |some k=>
   rw[PH (s:=(M,L,d)) hl hk]
   simp only
   have hq:=DI hk
   have ib:k<n:=by omega
   have hM:bZ p n (2*n) M:=I.m
   have hx:f0 p (M k j):=hM k ib j hj
   have zW:cO M L.length k L.length j=M k j:=if_pos rfl
   have hi:=Ni cN hx hq.2.2
   generalize LU:jR p 1 (M k j) (p - 2).toNat=inv at hi
   have adz:nE p M L.length j k=qY p inv (cO M L.length k) L.length:=by unfold nE;rw[zW,LU]
   rw[adz]
   have hS:bZ p n (2*n) (cO M L.length k):=I4 hM hl ib
   generalize GL:qY p inv (cO M L.length k) L.length=M2
   have alt:bZ p n (2*n) M2:=by rw[<-GL];exact YU hp hS _
   constructor
   ·obtain⟨X1,hX1⟩:=hX.swap (s:=L.length) (t:=k) hl ib
    obtain⟨X2,hX2⟩:=hX1.ajM (inv:=inv) (u:=M k j) hl hi
    have zd:kO p n (fun a b=>eD p M2 L.length j 0 a (n+b)) X2:=by
     rw[TI,<-GL];exact hX2
    have cu:∀m,m<=n->∃X',kO p n (fun a b=>eD p M2 L.length j m a (n+b)) X':=by
     intro m
     induction m with
     |zero=>intro _;exact⟨X2,zd⟩
     |succ m ih=>
      intro hm
      obtain⟨X',Ve⟩:=ih (by omega)
      by_cases zQ:m=L.length
      ·subst zQ
       rw[TK];exact⟨X',Ve⟩
      ·refine Ve.add (f:=p - M2 m j) (m:=m) (t:=L.length) (by omega) hl zQ fun a ha b hb=>?_
       show∃q,eD p M2 L.length j (m+1) a (n+b)=_
       by_cases xp:a=m
       ·subst xp
        rw[if_pos rfl]
        show∃q,eD p M2 L.length j (a+1) a (n+b)=(eD p M2 L.length j a a (n+b)+(p - M2 a j)*eD p M2 L.length j a L.length (n+b))+p*q
        rw[F8,TL]
        unfold eD
        rw[if_pos ⟨by omega,zQ⟩]
        refine⟨-((M2 a (n+b)+(p - M2 a j)*M2 L.length (n+b))/p),?_⟩
        have e1:=Int.emod_add_mul_ediv (M2 a (n+b)+(p - M2 a j)*M2 L.length (n+b)) p
        have e2:=Int.mul_neg p ((M2 a (n+b)+(p - M2 a j)*M2 L.length (n+b))/p)
        omega
       ·rw[if_neg xp]
        refine⟨0,?_⟩
        show eD p M2 L.length j (m+1) a (n+b)=eD p M2 L.length j m a (n+b)+p*0
        unfold eD
        by_cases hc:a<m/\a≠L.length
        ·rw[if_pos hc,if_pos ⟨by omega,hc.2⟩];simp
        ·rw[if_neg hc,if_neg (by omega)];simp
    exact cu n (Nat.le_refl _)
   ·intro b hb i h1 h2
    simp only[List.length_append,List.length_cons,List.length_nil] at h1
    show eD p M2 L.length j n i b=0
    unfold eD
    rw[if_pos ⟨h2,by omega⟩]
    have e2:∀c,M2 i c=cO M L.length k i c:=fun c=>by rw[<-GL];exact if_neg (by omega)
    have e3:∀c,M2 L.length c=M k c*inv%p:=fun c=>by rw[<-GL];show(if L.length=L.length then _ else _)=_;rw[if_pos rfl];congr 2;exact if_pos rfl
    by_cases xr:b=j
    ·subst xr
     rw[e3 b,hi]
     have:M2 i b+(p - M2 i b)*1=p:=by omega
     rw[this];exact Int.emod_self
    ·have Lw:b<j:=by omega
     rw[e3 b,hz b Lw k hq.1 ib,e2 b]
     have:cO M L.length k i b=0:=by
      unfold cO
      rw[if_neg (by omega)]
      split
      ·exact hz b Lw L.length (Nat.le_refl _) hl
      ·exact hz b Lw i (by omega) h2
     rw[this];simp
 ·unfold jD
  rw[if_neg hl]
  exact⟨⟨X,hX⟩,fun b hb i h1 h2=>by simp only at h1;omega⟩
end Go.Am
end
section
namespace Go.Am
def alj (n:Nat) (M:aL):aL:=fun a b=>if b<n then M a b else dl a (b - n)
def alk (n:Nat) (M:aL):aL:=aS (2*n) (ao n (2*n) (alj n M))
def WM (p:Int) (n:Nat) (M:aL):aL×List Int×Int:=dG p n (alk n M) (2*n)
def aeV (p:Int) (n:Nat) (M:aL):Prop:=∀i,i<n->(WM p n M).2.1.getD i 0=(i:Int)
instance (p:Int) (n:Nat) (M:aL):Decidable (aeV p n M):=inferInstanceAs (Decidable (∀i,i<n->(WM p n M).2.1.getD i 0=(i:Int)))
section
variable {p:Int} {n:Nat} {M R:aL} {L:List Int}
end
section
variable {p:Int} {n:Nat} {M R:aL} {L:List Int}
end
end Go.Am
end
section
namespace Go.Am
abbrev bJ:=Int×Int×List Int
abbrev bz:=Int×Int×List Int×List (Int×Int×List Int)×List Int
def fe (k:Nat) (w:List Int):Prop:=∀c∈w,0<=c/\c<(k:Int)
instance (k:Nat) (w:List Int):Decidable (fe k w):=inferInstanceAs (Decidable (∀c∈w,0<=c/\c<(k:Int)))
def lD (p:Int) (n:Nat) (ms:List bJ) (v:List Int) (c:Int):List Int:=ao 1 n (e9 p n (aS n v) (aS n (ms.getD c.toNat (0,0,[])).2.2))
def bA (p:Int) (n:Nat) (ms:List bJ) (v:List Int) (w:List Int):List Int:=w.foldl (lD p n ms) v
def nX (p:Int) (x y:List Int):Int:=jJ p (fun t=>x.getD t 0) (fun t=>y.getD t 0) x.length
def uI (x:bz):Bool:=match x with
 |(m,n,a,ms,b)=>dv m&&(decide (0<=n/\n<=24)&&((mh m a&&decide ((a.length:Int)=n))&&((mh m b&&decide ((b.length:Int)=n))&&(decide (1<=ms.length/\ms.length<=4)&&ms.all fun y=>decide (y.1=n/\y.2.1=n/\y.2.2.length=n.toNat*n.toNat)&&mh m y.2.2))))
def Ig (x:bz×List Int):Prop:=uI x.1=true/\fe x.1.2.2.2.1.length x.2/\x.2.length<=1048576
instance (x:bz×List Int):Decidable (Ig x):=by unfold Ig;infer_instance
def Jv:bz×List Int->Option (List Int):=fun(x:bz×List Int)=>if Ig x then some (bA x.1.1 x.1.2.1.toNat x.1.2.2.2.1 x.1.2.2.1 x.2) else none
def sR:bz×List Int->Option (List Int):=Jv
def dH (x:bz×List Int):Int:=nX x.1.1 (bA x.1.1 x.1.2.1.toNat x.1.2.2.2.1 x.1.2.2.1 x.2) x.1.2.2.2.2
def sO:bz×List Int->Option Int:=fun(x:bz×List Int)=>if Ig x then some (dH x) else none
def Ju:bz×List Int->Option Int:=fun(x:bz×List Int)=>
 if p9 x.1<=1048576/\x.2.length<=1048576 then some (if fD x.1=true/\x.2.length<=24/\fe x.1.2.2.2.1.length x.2 then dH x else -1) else none
def uu:bz×List Int->Option Int:=Ju
def FA:av:=[(.agg,[.int .i64,.int .i64,.list [.int .i64],.list [.int .i64,.int .i64,.list [.int .i64]],.list [.int .i64]]),(.one,[.list [.int .i64]])]
def Qj:av:=[(.one,[.list [.int .i64]])]
def ag3:bo:=[]
def Fv:av:=[(.agg,[.int .i64,.int .i64,.list [.int .i64],.list [.int .i64,.int .i64,.list [.int .i64]],.list [.int .i64]]),(.one,[.list [.int .i64]])]
def Qe:av:=[(.one,[.int .i64])]
def agY:bo:=[]
def Fi:av:=[(.agg,[.int .i64,.int .i64,.list [.int .i64],.list [.int .i64,.int .i64,.list [.int .i64]],.list [.int .i64]]),(.one,[.list [.int .i64]])]
def P3:av:=[(.one,[.int .i64])]
def agN:bo:=[]
def EL (NN:Nat):((Int×(Int×((List Int)×((List (Int×(Int×(List Int))))×(List Int)))))×(List Int))->(Option (List Int)):=
 (fun(((i0,i1,l2,l3,l4),l5):((Int×(Int×((List Int)×((List (Int×(Int×(List Int))))×(List Int)))))×(List Int)))=>
 (ix l2).ab (fun l6=>
 cT ((af 0 (aa l6) (aa l6)).ab (fun _=>
 bQ NN (fun(((l7,i8,i9),(dj,da,ij,eA,cI),(jr,dA),dw):(((List Int)×(Int×Int))×((Int×(Int×((List Int)×((List (Int×(Int×(List Int))))×(List Int)))))×((Int×Int)×(List Int)))))=>
 aY (cr i9 i8)
 ((ji l7 i9).ab (fun eP=>
 (ji eA eP).ab (fun(dY,gG,fH)=>
 (cv dw 0 (aa dw)).ab (fun dm=>
 (oQ (dj,(jr,dA,dm),dY,gG,fH)).ab (fun(fk,iG,dz)=>
 (af 0 (aa dz) (aa dz)).ab (fun _=>
 some (Sum.inl ((l7,i8,bS .i64 i9 1),(dj,da,ij,eA,cI),(fk,iG),dz))))))))
 (((af 0 (aa dw) (aa dw)).ab (fun _=>
 some (Sum.inl ((jr,dA),dw)))).ab (fun cP=>
 some (Sum.inr cP))))
 ((l5,bj (aa l5),(0:Int)),(i0,i1,l2,l3,l4),((1:Int),bj (aa l6)),l6)))
 (fun((jQ,iR),fO)=>
 (dc fO (aa fO)).ab (fun jz=>
 some jz))))
def JE (NN:Nat):((Int×(Int×((List Int)×((List (Int×(Int×(List Int))))×(List Int)))))×(List Int))->(Option Int):=
 (fun(((i0,i1,l2,l3,l4),l5):((Int×(Int×((List Int)×((List (Int×(Int×(List Int))))×(List Int)))))×(List Int)))=>
 (sR ((i0,i1,l2,l3,l4),l5)).ab (fun l6=>
 (cv l6 0 (aa l6)).ab (fun l7=>
 (oQ (i0,((1:Int),bj (aa l6),l7),bj (aa l4),(1:Int),l4)).ab (fun(i8,i9,jU)=>
 (jH (0:Int) (aa jU)).ab (fun k11=>
 (gA jU (bF 0 k11)).ab (fun c7=>
 some c7))))))
def EF (NN:Nat):((Int×(Int×((List Int)×((List (Int×(Int×(List Int))))×(List Int)))))×(List Int))->(Option Int):=
 (fun(((i0,i1,l2,l3,l4),l5):((Int×(Int×((List Int)×((List (Int×(Int×(List Int))))×(List Int)))))×(List Int)))=>
 (jf (i0,i1,l2,l3,l4)).ab (fun b6=>
 aY (me b6)
 (some ((-1:Int)))
 (aY (cr (24:Int) (bj (aa l5)))
 (some ((-1:Int)))
 (cT (bQ NN (fun(((l7,l8,i9,dj),da,c7,eA,cI,ca):(((List Int)×((List Int)×(Int×Int)))×(Int×(Int×((List Int)×((List (Int×(Int×(List Int))))×(List Int)))))))=>
 aY (cr dj i9)
 ((ji l8 dj).ab (fun dA=>
 aY (cr dA (0:Int))
 (some (Sum.inr (Sum.inr ((-1:Int)))))
 (aY (tS (bj (aa cI)) dA)
 (some (Sum.inr (Sum.inr ((-1:Int)))))
 (some (Sum.inl ((l7,l8,i9,bS .i64 dj 1),da,c7,eA,cI,ca))))))
 (some (Sum.inr (Sum.inl (l7,da,c7,eA,cI,ca)))))
 ((l5,l5,bj (aa l5),(0:Int)),i0,i1,l2,l3,l4))
 (fun(dw,eP,dY,e8,fH,dm)=>
 (sO ((eP,dY,e8,fH,dm),dw)).ab (fun fk=>
 some fk))))))
theorem qX {m:Int} {l:List Int}:mh m l=true↔dR m l:=by
 simp only[mh,dR,List.all_eq_true,Hw,decide_eq_true_eq,f0]
structure BJ (N:Nat) (p:Int) (n:Nat) (a:List Int) (ms:List bJ) (b:List Int):Prop where
 pr:dv p=true
 hn:n<=N
 al:a.length=n
 ap:dR p a
 bl:b.length=n
 bp:dR p b
 l1:1<=ms.length
 l4:ms.length<=4
 hm:∀x∈ms,∃M:aL,x=((n:Int),(n:Int),ao n n M)/\bZ p n n M
abbrev cM:=BJ 12
abbrev kf:=BJ 24
theorem BJ.p {N:Nat} {p:Int} {n:Nat} {a b:List Int} {ms:List bJ} (h:BJ N p n a ms b):cY p:=jS h.pr
theorem BJ.b {p:Int} {n:Nat} {a b:List Int} {ms:List bJ} (h:cM p n a ms b):kf p n a ms b:=⟨h.pr,Nat.le_trans h.hn (by omega),h.al,h.ap,h.bl,h.bp,h.l1,h.l4,h.hm⟩
theorem wT {x:bz} (h:fD x=true):∃(p:Int) (n:Nat) (a:List Int) (ms:List bJ) (b:List Int),x=(p,(n:Int),a,ms,b)/\cM p n a ms b:=by
 obtain⟨p,n,a,ms,b⟩:=x
 simp only[fD,Bool.and_eq_true,decide_eq_true_eq] at h
 obtain⟨h1,h2,⟨h3,h4⟩,⟨h5,h6⟩,h7,h8⟩:=h
 obtain⟨n,rfl⟩:=fz h2.1
 refine⟨p,n,a,ms,b,rfl,h1,by omega,by omega,qX.1 h3,by omega,qX.1 h5,by omega,by omega,fun x hx=>?_⟩
 have hm:=List.all_eq_true.1 h8 x hx
 simp only[yg,Bool.and_eq_true,decide_eq_true_eq] at hm
 obtain⟨hm,hr,hc⟩:=hm
 obtain⟨r,c,M,rfl,hp,hr',ct,ew,hM⟩:=agA hm
 simp only at hr hc
 have er:r=n:=by omega
 have ec:c=n:=by omega
 subst er ec
 exact⟨M,rfl,hM⟩
theorem jC {p:Int} {r c:Nat} {l:List Int} (hl:l.length=r*c) (h:dR p l):bZ p r c (aS c l):=hH.1 (by rw[lL hl];exact h)
theorem JV {x:bz} (h:uI x=true):∃(p:Int) (n:Nat) (a:List Int) (ms:List bJ) (b:List Int),x=(p,(n:Int),a,ms,b)/\kf p n a ms b:=by
 obtain⟨p,n,a,ms,b⟩:=x
 simp only[uI,Bool.and_eq_true,decide_eq_true_eq] at h
 obtain⟨h1,h2,⟨h3,h4⟩,⟨h5,h6⟩,h7,h8⟩:=h
 obtain⟨n,rfl⟩:=fz h2.1
 refine⟨p,n,a,ms,b,rfl,h1,by omega,by omega,qX.1 h3,by omega,qX.1 h5,by omega,by omega,fun x hx=>?_⟩
 have hm:=List.all_eq_true.1 h8 x hx
 simp only[Bool.and_eq_true,decide_eq_true_eq,Int.toNat_natCast] at hm
 obtain⟨⟨hr,hc,hl⟩,hp⟩:=hm
 obtain⟨r,c,d⟩:=x
 simp only at hr hc hl hp
 subst hr hc
 exact⟨aS n d,by rw[lL hl],jC hl (qX.1 hp)⟩
theorem BX {p:Int} {n:Nat} {a b:List Int} {ms:List bJ} (H:kf p n a ms b):uI (p,(n:Int),a,ms,b)=true:=by
 have hn:=H.hn
 have h1:=H.l1
 have h4:=H.l4
 have ha:=H.al
 have hb:=H.bl
 simp only[uI,Bool.and_eq_true,decide_eq_true_eq]
 refine⟨H.pr,⟨by omega,by omega⟩,⟨qX.2 H.ap,by omega⟩,⟨qX.2 H.bp,by omega⟩,⟨by omega,by omega⟩,List.all_eq_true.2 fun x hx=>?_⟩
 obtain⟨M,rfl,hM⟩:=H.hm x hx
 simp only[Bool.and_eq_true,decide_eq_true_eq,Int.toNat_natCast]
 exact⟨⟨trivial,trivial,fW _ _ _⟩,qX.2 (hH.2 hM)⟩
theorem JW {x:bz} (h:fD x=true):uI x=true:=by
 obtain⟨p,n,a,ms,b,rfl,H⟩:=wT h
 exact BX H.b
section
variable {p:Int} {n:Nat} {a b:List Int} {ms:List bJ}
theorem I1 {s:List Int} {c:Int}:(lD p n ms s c).length=n:=by unfold lD;rw[fW];omega
theorem Zz (hp:cY p) {s:List Int} {c:Int}:dR p (lD p n ms s c):=hH.2 (Ds hp 1 n n _ _)
theorem ahj (H:kf p n a ms b) {s:List Int} (hl:s.length=n) (hs:dR p s) {x:bJ} (hx:x∈ms):
  y6 (p,(1,(n:Int),s),x)=some (1,(n:Int),ao 1 n (e9 p n (aS n s) (aS n x.2.2))):=by
 obtain⟨M,rfl,hM⟩:=H.hm x hx
 have hn:=H.hn
 have hnn:n*n<=24*24:=Nat.mul_le_mul hn hn
 have e1:ao 1 n (aS n s)=s:=lL (by omega)
 have e2:ao n n (aS n (ao n n M))=ao n n M:=lL (fW _ _ _)
 have h:=Du (r:=1) (k:=n) (c:=n) (A:=aS n s) (B:=aS n (ao n n M)) H.p (by omega) (by omega) (by omega) (by omega) (by omega) (by omega) (jC (by omega) hs) (jC (fW _ _ _) (hH.2 hM))
 rw[e1,e2] at h
 exact h
theorem akx {w:List Int} (hw:fe ms.length w) {i:Nat} {c:Int} (hc:w[i]? =some c):∃x,x∈ms/\ji ms c=some x/\ms.getD c.toNat (0,0,[])=x:=by
 have h:=hw c (List.mem_of_getElem? hc)
 obtain⟨k,rfl⟩:=fz h.1
 have hk:k<ms.length:=by omega
 refine⟨ms[k],List.getElem_mem hk,by rw[kl,List.getElem?_eq_getElem hk],?_⟩
 simp[List.getD,hk]
theorem UR {S α:Type} (f:S->α->S):∀(l:List α) (i:Nat) (s:S),xl (fun _ s a=>f s a) i s l=l.foldl f s
 |[],i,s=>rfl
 |x::l,i,s=>UR f l (i+1) (f s x)
theorem pM (hp:cY p):∀(w:List Int) (s:List Int),s.length=n->dR p s->(bA p n ms s w).length=n/\dR p (bA p n ms s w)
 |[],s,h1,h2=>⟨h1,h2⟩
 |c::w,s,h1,h2=>pM hp w (lD p n ms s c) I1 (Zz hp)
theorem acK (H:kf p n a ms b) {w:List Int} (hw:fe ms.length w) (hl:w.length<=1048576):EL aN ((p,(n:Int),a,ms,b),w)=some (bA p n ms a w):=by
 simp only[EL]
 rw[show ix a=some a from if_pos (by have:=H.al;have:=H.hn;omega),az]
 simp only[cm,az]
 have ea:bj (aa a)=(n:Int):=by rw[nl,H.al]
 rw[ea]
 rw[agx w (fun s i=>((w,bj (aa w),(i:Int)),(p,(n:Int),a,ms,b),((1:Int),(n:Int)),s)) (fun _ s=>s.length=n/\dR p s) (fun _ s c=>lD p n ms s c) (fun s=>Sum.inl (((1:Int),(n:Int)),s)) ?h1 ?h3 (s:=a) ⟨H.al,H.ap⟩ ?h0 (dQ (by omega))]
 case h0=>rfl
 case h1=>
  intro i s c hc hI
  refine⟨?_,I1,Zz H.p⟩
  obtain⟨x,hx,hg,hd⟩:=akx hw hc
  have ht:oQ (p,(1,(n:Int),s),x)=_:=ahj H hI.1 hI.2 hx
  simp only
  rw[bH (ye hc),kl,hc,az,hg,az]
  obtain⟨x0,x1,x2⟩:=x
  simp only[iv,az,ht,cm]
  rw[Dw hc (by omega)]
  unfold lD
  rw[hd]
 case h3=>
  intro s hI
  simp only
  rw[bG (HO w)]
  try simp only[cm,az]
 rw[eH]
 simp only[kG,az]
 rw[UR]
 rfl
end
theorem acj (x:bz×List Int) (y:List Int) (h:sR x=some y):EL aN x=some y:=by
 obtain⟨x,w⟩:=x
 simp only[sR,Jv] at h
 split at h
 ·rename_i hc
  obtain⟨p,n,a,ms,b,rfl,H⟩:=JV hc.1
  rw[<-h]
  exact acK H hc.2.1 hc.2.2
 ·cases h
theorem alh {p:Int} {n:Nat} {s b:List Int} (hp:cY p) (hn:n<=24) (hl:s.length=n) (hs:dR p s) (hb:b.length=n) (hB:dR p b):
  oQ (p,(1,(n:Int),s),((n:Int),1,b))=some (1,1,[nX p s b]):=by
 have e1:ao 1 n (aS n s)=s:=lL (by omega)
 have e2:ao n 1 (aS 1 b)=b:=lL (by omega)
 have h:=Du (r:=1) (k:=n) (c:=1) (A:=aS n s) (B:=aS 1 b) hp (by omega) (by omega) (by omega) (by omega) (by omega) (by omega) (jC (by omega) hs) (jC (by omega) hB)
 rw[e1,e2] at h
 have e3:ao 1 1 (e9 p n (aS n s) (aS 1 b))=[nX p s b]:=by
  show[jJ p (fun t=>aS n s 0 t) (fun t=>aS 1 b t 0) n]=[nX p s b]
  unfold nX
  rw[hl]
  have:∀k,k<=n->jJ p (fun t=>aS n s 0 t) (fun t=>aS 1 b t 0) k=jJ p (fun t=>s.getD t 0) (fun t=>b.getD t 0) k:=by
   intro k
   induction k with
   |zero=>intro _;rfl
   |succ k ih=>
    intro hk
    show(jJ _ _ _ k+_)%p=(jJ _ _ _ k+_)%p
    rw[ih (by omega)]
    have a1:aS n s 0 k=s.getD k 0:=by unfold aS;rw[Nat.zero_mul,Nat.zero_add]
    have a2:aS 1 b k 0=b.getD k 0:=by unfold aS;rw[Nat.mul_one,Nat.add_zero]
    simp only[a1,a2]
  rw[this n (Nat.le_refl n)]
 rw[e3] at h
 exact h
theorem ace (x:bz×List Int) (y:Int) (h:sO x=some y):JE aN x=some y:=by
 obtain⟨x,w⟩:=x
 simp only[sO] at h
 split at h
 ·rename_i hc
  have hr:sR (x,w)=some _:=if_pos hc
  obtain⟨p,n,a,ms,b,rfl,H⟩:=JV hc.1
  rw[<-h]
  simp only[Int.toNat_natCast] at hr
  obtain⟨h1,h2⟩:=pM (ms:=ms) H.p w a H.al H.ap
  simp only[JE,hr,az,iv]
  rw[show bj (aa (bA p n ms a w))=(n:Int) by rw[nl,h1],show bj (aa b)=(n:Int) by rw[nl,H.bl],alh H.p H.hn h1 h2 H.bl H.bp,az]
  simp only
  rw[show jH 0 (aa [nX p (bA p n ms a w) b])=some 0 from rfl]
  simp only[az,dH,Int.toNat_natCast]
  rfl
 ·cases h
theorem Sv {k:Nat} {w:List Int}:w.all (fun c=>decide (0<=c/\c<(k:Int)))=true↔fe k w:=by
 simp only[List.all_eq_true,decide_eq_true_eq]
 rfl
theorem ab2 (x:bz×List Int) (y:Int) (h:uu x=some y):EF aN x=some y:=by
 obtain⟨x,w⟩:=x
 simp only[uu,Ju] at h
 split at h
 ·rename_i hl
  rw[<-h]
  have hA:jf x=some (fD x):=if_pos hl.1
  cases hx:fD x with
  |false=>
   rw[if_neg (by simp)]
   obtain⟨p,n,a,ms,b⟩:=x
   simp only[EF,hA,az,hx]
   rfl
  |true=>
   have eT:=hx
   rw[hx] at hA
   obtain⟨p,n,a,ms,b,rfl,H⟩:=wT hx
   simp only[EF,hA,az]
   rw[bG (by rfl),nl]
   by_cases U6:w.length<=24
   ·rw[bG (eU (by omega))]
    rw[Ol w (fun i=>((w,w,(w.length:Int),(i:Int)),p,(n:Int),a,ms,b)) (fun c=>decide (0<=c/\c<(ms.length:Int))) (Sum.inr (-1)) (Sum.inl (w,p,(n:Int),a,ms,b)) ?h1 ?h2 ?h3 ?h0 (dQ (by omega))]
    case h0=>rfl
    case h1=>
     intro i c hc hp
     have hp:=of_decide_eq_true hp
     simp only
     rw[bH (eV (by have:=Xz hc;omega)),kl,hc,az,bG (eU (by omega)),nl,bG (HN (by omega)),Dw hc (by omega)]
    case h2=>
     intro i c hc hp
     have hp:=of_decide_eq_false hp
     simp only
     rw[bH (eV (by have:=Xz hc;omega)),kl,hc,az]
     by_cases h0:c<0
     ·rw[bH (eV h0)]
     ·rw[bG (eU (by omega)),nl,bH (Dn (by omega))]
    case h3=>
     simp only
     rw[bG (eU (by omega))]
    by_cases hw:w.all (fun c=>decide (0<=c/\c<(ms.length:Int)))=true
    ·rw[if_pos hw,eH,if_pos (show _/\_/\_ from⟨by first|trivial|rfl,U6,Sv.1 hw⟩)]
     simp only
     rw[show sO ((p,(n:Int),a,ms,b),w)=some _ from if_pos ⟨JW eT,Sv.1 hw,by show w.length<=_;omega⟩,az]
    ·rw[if_neg hw,Nn,if_neg (fun h=>hw (Sv.2 h.2.2))]
   ·rw[bH (eV (by omega)),if_neg (fun h=>U6 h.2.1)]
 ·cases h
end Go.Am
end
section
namespace Go.Am
def oS (x y:bz):Bool:=fD x&&(fD y&&(decide (x.1=y.1)&&decide (x.2.2.2.1.length=y.2.2.2.1.length)))
def Ew:bz×bz->Option Bool:=fun(x:bz×bz)=>if p9 x.1<=1048576/\p9 x.2<=1048576 then some (oS x.1 x.2) else none
def qg:bz×bz->Option Bool:=Ew
def stM (n:Nat) (ms:List bJ) (k:Nat):aL:=aS n (ms.getD k (0,0,[])).2.2
def nM (n:Nat) (A B:aL):aL:=fun i j=>if i<n/\j<n then A i j else if n<=i/\n<=j then B (i - n) (j - n) else 0
def d9 (n m:Nat) (ms ms2:List bJ) (k:Nat):List bJ:=(List.range k).map fun t=>(((n+m:Nat):Int),((n+m:Nat):Int),ao (n+m) (n+m) (nM n (stM n ms t) (stM m ms2 t)))
def wl (x y:bz) (sg:Int):bz:=(x.1,((x.2.1.toNat+y.2.1.toNat:Nat):Int),x.2.2.1++y.2.2.1,d9 x.2.1.toNat y.2.1.toNat x.2.2.2.1 y.2.2.2.1 x.2.2.2.1.length,x.2.2.2.2++y.2.2.2.2.map fun v=>v*sg%x.1)
def sN:bz×bz->Option bz:=fun(x:bz×bz)=>if oS x.1 x.2=true then some (wl x.1 x.2 1) else none
def Jr:bz×bz->Option (bz×Bool):=fun(x:bz×bz)=>
 if p9 x.1<=1048576/\p9 x.2<=1048576 then some (if oS x.1 x.2=true/\x.1.2.1+x.2.2.1<=12 then(wl x.1 x.2 1,true) else((0,0,[],[],[]),false)) else none
def uq:bz×bz->Option (bz×Bool):=Jr
def Fx:av:=[(.agg,[.int .i64,.int .i64,.list [.int .i64],.list [.int .i64,.int .i64,.list [.int .i64]],.list [.int .i64]]),(.agg,[.int .i64,.int .i64,.list [.int .i64],.list [.int .i64,.int .i64,.list [.int .i64]],.list [.int .i64]])]
def Qg:av:=[(.one,[.bool])]
def ag0:bo:=[]
def Fo:av:=[(.agg,[.int .i64,.int .i64,.list [.int .i64],.list [.int .i64,.int .i64,.list [.int .i64]],.list [.int .i64]]),(.agg,[.int .i64,.int .i64,.list [.int .i64],.list [.int .i64,.int .i64,.list [.int .i64]],.list [.int .i64]])]
def P8:av:=[(.agg,[.int .i64,.int .i64,.list [.int .i64],.list [.int .i64,.int .i64,.list [.int .i64]],.list [.int .i64]])]
def agS:bo:=[]
def E6:av:=[(.agg,[.int .i64,.int .i64,.list [.int .i64],.list [.int .i64,.int .i64,.list [.int .i64]],.list [.int .i64]]),(.agg,[.int .i64,.int .i64,.list [.int .i64],.list [.int .i64,.int .i64,.list [.int .i64]],.list [.int .i64]])]
def PS:av:=[(.agg,[.int .i64,.int .i64,.list [.int .i64],.list [.int .i64,.int .i64,.list [.int .i64]],.list [.int .i64]]),(.one,[.bool])]
def agF:bo:=[]
def JG (NN:Nat):((Int×(Int×((List Int)×((List (Int×(Int×(List Int))))×(List Int)))))×(Int×(Int×((List Int)×((List (Int×(Int×(List Int))))×(List Int))))))->(Option Bool):=
 (fun(((i0,i1,l2,l3,l4),i5,i6,l7,l8,l9):((Int×(Int×((List Int)×((List (Int×(Int×(List Int))))×(List Int)))))×(Int×(Int×((List Int)×((List (Int×(Int×(List Int))))×(List Int)))))))=>
 (jf (i0,i1,l2,l3,l4)).ab (fun oV=>
 aY (oV)
 ((jf (i5,i6,l7,l8,l9)).ab (fun b11=>
 aY (b11)
 (aY (fU i0 i5)
 (some (fU (bj (aa l3)) (bj (aa l8))))
 (some false))
 (some false)))
 (some false)))
def EG (NN:Nat):((Int×(Int×((List Int)×((List (Int×(Int×(List Int))))×(List Int)))))×(Int×(Int×((List Int)×((List (Int×(Int×(List Int))))×(List Int))))))->(Option (Int×(Int×((List Int)×((List (Int×(Int×(List Int))))×(List Int)))))):=
 (fun(((i0,i1,l2,l3,l4),i5,i6,l7,l8,l9):((Int×(Int×((List Int)×((List (Int×(Int×(List Int))))×(List Int)))))×(Int×(Int×((List Int)×((List (Int×(Int×(List Int))))×(List Int)))))))=>
 (ix l2).ab (fun jU=>
 (af 0 (aa jU) (aa jU)).ab (fun _=>
 (lK (bF (aa jU) (aa l7)) 8).ab (fun _=>
 (ix l4).ab (fun lp=>
 (af 0 (aa lp) (aa lp)).ab (fun _=>
 (lK (bF (aa lp) (aa l9)) 8).ab (fun _=>
 cT ((af 0 0 (aa (([]:List Int)))).ab (fun _=>
 (af 0 0 (aa (([]:List (Int×(Int×(List Int))))))).ab (fun _=>
 (af 0 0 (aa (([]:List Int)))).ab (fun _=>
 (af 0 (bF (aa jU) (aa l7)) (aa (dg jU l7))).ab (fun _=>
 (af 0 0 (aa (([]:List (Int×(Int×(List Int))))))).ab (fun _=>
 (af 0 (bF (aa lp) (aa l9)) (aa (dg lp l9))).ab (fun _=>
 bQ NN (fun(((ij,dX,iF),(jr,dA,dw,fG,f8),(gG,lQ,dm,jV,fm),(kt,ku),(jQ,iR),fO,jz,lY,eJ,fo,lr):(((List (Int×(Int×(List Int))))×(Int×Int))×((Int×(Int×((List Int)×((List (Int×(Int×(List Int))))×(List Int)))))×((Int×(Int×((List Int)×((List (Int×(Int×(List Int))))×(List Int)))))×((Int×Int)×((Int×Int)×((List Int)×((List (Int×(Int×(List Int))))×((List Int)×((List Int)×((List (Int×(Int×(List Int))))×(List Int))))))))))))=>
 aY (cr iF dX)
 (cT ((ji ij iF).ab (fun(fN,iH,gJ)=>
 (qf (iR,iR)).ab (fun(lR,od,fy)=>
 cT ((af 0 (aa fO) (aa fO)).ab (fun _=>
 (af 0 (aa jz) (aa jz)).ab (fun _=>
 (af 0 (aa lY) (aa lY)).ab (fun _=>
 (af 0 (aa eJ) (aa eJ)).ab (fun _=>
 (af 0 (aa fo) (aa fo)).ab (fun _=>
 (af 0 (aa lr) (aa lr)).ab (fun _=>
 (af 0 (aa fy) (aa fy)).ab (fun _=>
 bQ NN (fun(((nu,iS,lZ,jv,lS),(lT,gZ,jW,fP,iW),(r5,oe,lx,jY,gL),(qO,kw),(mM,vn),(vo,oh,Dm),(nw,i64),qP,tR,vC,vD,ly,iZ,qQ):((Int×(Int×((List (Int×(Int×(List Int))))×(Int×Int))))×((Int×(Int×((List Int)×((List (Int×(Int×(List Int))))×(List Int)))))×((Int×(Int×((List Int)×((List (Int×(Int×(List Int))))×(List Int)))))×((Int×Int)×((Int×Int)×((Int×(Int×(List Int)))×((Int×Int)×((List Int)×((List (Int×(Int×(List Int))))×((List Int)×((List Int)×((List (Int×(Int×(List Int))))×((List Int)×(List Int)))))))))))))))=>
 aY (cr iS gZ)
 (cT ((af 0 (aa qP) (aa qP)).ab (fun _=>
 (af 0 (aa tR) (aa tR)).ab (fun _=>
 (af 0 (aa vC) (aa vC)).ab (fun _=>
 (af 0 (aa vD) (aa vD)).ab (fun _=>
 (af 0 (aa ly) (aa ly)).ab (fun _=>
 (af 0 (aa iZ) (aa iZ)).ab (fun _=>
 (af 0 (aa qQ) (aa qQ)).ab (fun _=>
 bQ NN (fun(((Da,nz,ot,pF,mN,ou),(r8,lg,Xl,lz,ik),(Ad,Ae,HL,vG,AH),(Hu,Af),(vp,Ag),(Db,r9,Ob),(xQ,xR),pG,oy,qR,pC,tP,vu,xX):((Int×(Int×(Int×((List (Int×(Int×(List Int))))×(Int×Int)))))×((Int×(Int×((List Int)×((List (Int×(Int×(List Int))))×(List Int)))))×((Int×(Int×((List Int)×((List (Int×(Int×(List Int))))×(List Int)))))×((Int×Int)×((Int×Int)×((Int×(Int×(List Int)))×((Int×Int)×((List Int)×((List (Int×(Int×(List Int))))×((List Int)×((List Int)×((List (Int×(Int×(List Int))))×((List Int)×(List Int)))))))))))))))=>
 aY (cr ot lg)
 ((g9 ((Db,r9,Ob),nz,ot)).ab (fun xL=>
 (af 0 (aa xX) (aa xX)).ab (fun _=>
 (kL ((xQ,xR,xX),nz,ot,xL)).ab (fun sj=>
 (af 0 (aa pG) (aa pG)).ab (fun _=>
 (af 0 (aa oy) (aa oy)).ab (fun _=>
 (af 0 (aa qR) (aa qR)).ab (fun _=>
 (af 0 (aa pC) (aa pC)).ab (fun _=>
 (af 0 (aa tP) (aa tP)).ab (fun _=>
 (af 0 (aa vu) (aa vu)).ab (fun _=>
 (af 0 (aa xX) (aa sj)).ab (fun _=>
 some (Sum.inl ((Da,nz,bS .i64 ot 1,pF,mN,ou),(r8,lg,Xl,lz,ik),(Ad,Ae,HL,vG,AH),(Hu,Af),(vp,Ag),(Db,r9,Ob),(xQ,xR),pG,oy,qR,pC,tP,vu,sj)))))))))))))
 (((af 0 (aa pG) (aa pG)).ab (fun _=>
 (af 0 (aa oy) (aa oy)).ab (fun _=>
 (af 0 (aa qR) (aa qR)).ab (fun _=>
 (af 0 (aa pC) (aa pC)).ab (fun _=>
 (af 0 (aa tP) (aa tP)).ab (fun _=>
 (af 0 (aa vu) (aa vu)).ab (fun _=>
 (af 0 (aa xX) (aa xX)).ab (fun _=>
 some (Sum.inl ((nz,Da,pF,mN,ou),(r8,lg,Xl,lz,ik),(Ad,Ae,HL,vG,AH),(Hu,Af),(vp,Ag),(Db,r9,Ob),(xQ,xR),pG,oy,qR,pC,tP,vu,xX)))))))))).ab (fun sk=>
 some (Sum.inr sk))))
 ((nu,iS,(0:Int),lZ,jv,lS),(lT,gZ,jW,fP,iW),(r5,oe,lx,jY,gL),(qO,kw),(mM,vn),(vo,oh,Dm),(nw,i64),qP,tR,vC,vD,ly,iZ,qQ)))))))))
 (fun((MA,Hh,xY,xM,z8),(C4,MB,HG,HH,Al),(Hi,Hj,afN,afO,afP),(Hk,adW),(adX,adY),(z9,Aa,afQ),(Ho,adZ),NA,NB,Ap,NC,ND,NE,NF)=>
 (af 0 (aa NA) (aa NA)).ab (fun _=>
 (af 0 (aa NB) (aa NB)).ab (fun _=>
 (af 0 (aa Ap) (aa Ap)).ab (fun _=>
 (af 0 (aa NC) (aa NC)).ab (fun _=>
 (af 0 (aa ND) (aa ND)).ab (fun _=>
 (af 0 (aa NE) (aa NE)).ab (fun _=>
 (af 0 (aa NF) (aa NF)).ab (fun _=>
 some (Sum.inl ((Hh,bS .i64 MA 1,xY,xM,z8),(C4,MB,HG,HH,Al),(Hi,Hj,afN,afO,afP),(Hk,adW),(adX,adY),(z9,Aa,afQ),(Ho,adZ),NA,NB,Ap,NC,ND,NE,NF)))))))))))
 (((af 0 (aa qP) (aa qP)).ab (fun _=>
 (af 0 (aa tR) (aa tR)).ab (fun _=>
 (af 0 (aa vC) (aa vC)).ab (fun _=>
 (af 0 (aa vD) (aa vD)).ab (fun _=>
 (af 0 (aa ly) (aa ly)).ab (fun _=>
 (af 0 (aa iZ) (aa iZ)).ab (fun _=>
 (af 0 (aa qQ) (aa qQ)).ab (fun _=>
 some (Sum.inl ((jv,lZ,lS,nu),(lT,gZ,jW,fP,iW),(r5,oe,lx,jY,gL),(qO,kw),(mM,vn),(nw,i64),qP,tR,vC,vD,ly,iZ,qQ)))))))))).ab (fun afR=>
 some (Sum.inr afR))))
 ((iF,(0:Int),ij,dX,iF),(jr,dA,dw,fG,f8),(gG,lQ,dm,jV,fm),(kt,ku),(jQ,iR),(fN,iH,gJ),(lR,od),fO,jz,lY,eJ,fo,lr,fy)))))))))
 (fun((C5,vw,ad0,ad1),(ad2,MF,HI,NG,afT),(MG,MH,NH,afU,afV),(ad6,MI),(MJ,MK),(ML,MN),NI,x6,x7,x8,Dj,NJ,NK)=>
 cT ((af 0 (aa NI) (aa NI)).ab (fun _=>
 (af 0 (aa x6) (aa x6)).ab (fun _=>
 (af 0 (aa x7) (aa x7)).ab (fun _=>
 (af 0 (aa x8) (aa x8)).ab (fun _=>
 (af 0 (aa Dj) (aa Dj)).ab (fun _=>
 (af 0 (aa NJ) (aa NJ)).ab (fun _=>
 (af 0 (aa NK) (aa NK)).ab (fun _=>
 bQ NN (fun(((MP,Hp,NL,We,Wg),(Wh,Wi,W3,W4,W5),(Wj,MQ,W6,W7,W8),(Wk,Wl),(Wn,Wo),(Wp,Wq),Aq,Ar,As,Au,Av,Aw,Ax):((Int×(Int×((List (Int×(Int×(List Int))))×(Int×Int))))×((Int×(Int×((List Int)×((List (Int×(Int×(List Int))))×(List Int)))))×((Int×(Int×((List Int)×((List (Int×(Int×(List Int))))×(List Int)))))×((Int×Int)×((Int×Int)×((Int×Int)×((List Int)×((List (Int×(Int×(List Int))))×((List Int)×((List Int)×((List (Int×(Int×(List Int))))×((List Int)×(List Int))))))))))))))=>
 aY (cr Hp MQ)
 (cT ((af 0 (aa Aq) (aa Aq)).ab (fun _=>
 (af 0 (aa Ar) (aa Ar)).ab (fun _=>
 (af 0 (aa As) (aa As)).ab (fun _=>
 (af 0 (aa Au) (aa Au)).ab (fun _=>
 (af 0 (aa Av) (aa Av)).ab (fun _=>
 (af 0 (aa Aw) (aa Aw)).ab (fun _=>
 (af 0 (aa Ax) (aa Ax)).ab (fun _=>
 bQ NN (fun(((MR,Hq,Hr,W9,Wr,Ws),(Wu,Hs,Xb,Xc,Xd),(Wv,MS,Xe,NM,Xf),(Ww,Wx),(Wy,Wz),(MT,MU),Ay,Az,AA,AB,AD,AE,x9):((Int×(Int×(Int×((List (Int×(Int×(List Int))))×(Int×Int)))))×((Int×(Int×((List Int)×((List (Int×(Int×(List Int))))×(List Int)))))×((Int×(Int×((List Int)×((List (Int×(Int×(List Int))))×(List Int)))))×((Int×Int)×((Int×Int)×((Int×Int)×((List Int)×((List (Int×(Int×(List Int))))×((List Int)×((List Int)×((List (Int×(Int×(List Int))))×((List Int)×(List Int))))))))))))))=>
 aY (cr Hr MS)
 ((ji NM MR).ab (fun(ad8,ad9,afY)=>
 (g9 ((ad8,ad9,afY),Hq,Hr)).ab (fun aea=>
 (af 0 (aa x9) (aa x9)).ab (fun _=>
 (kL ((MT,MU,x9),bS .i64 Hs Hq,bS .i64 Hs Hr,aea)).ab (fun Xg=>
 (af 0 (aa Ay) (aa Ay)).ab (fun _=>
 (af 0 (aa Az) (aa Az)).ab (fun _=>
 (af 0 (aa AA) (aa AA)).ab (fun _=>
 (af 0 (aa AB) (aa AB)).ab (fun _=>
 (af 0 (aa AD) (aa AD)).ab (fun _=>
 (af 0 (aa AE) (aa AE)).ab (fun _=>
 (af 0 (aa x9) (aa Xg)).ab (fun _=>
 some (Sum.inl ((MR,Hq,bS .i64 Hr 1,W9,Wr,Ws),(Wu,Hs,Xb,Xc,Xd),(Wv,MS,Xe,NM,Xf),(Ww,Wx),(Wy,Wz),(MT,MU),Ay,Az,AA,AB,AD,AE,Xg))))))))))))))
 (((af 0 (aa Ay) (aa Ay)).ab (fun _=>
 (af 0 (aa Az) (aa Az)).ab (fun _=>
 (af 0 (aa AA) (aa AA)).ab (fun _=>
 (af 0 (aa AB) (aa AB)).ab (fun _=>
 (af 0 (aa AD) (aa AD)).ab (fun _=>
 (af 0 (aa AE) (aa AE)).ab (fun _=>
 (af 0 (aa x9) (aa x9)).ab (fun _=>
 some (Sum.inl ((Hq,MR,W9,Wr,Ws),(Wu,Hs,Xb,Xc,Xd),(Wv,MS,Xe,NM,Xf),(Ww,Wx),(Wy,Wz),(MT,MU),Ay,Az,AA,AB,AD,AE,x9)))))))))).ab (fun afZ=>
 some (Sum.inr afZ))))
 ((MP,Hp,(0:Int),NL,We,Wg),(Wh,Wi,W3,W4,W5),(Wj,MQ,W6,W7,W8),(Wk,Wl),(Wn,Wo),(Wp,Wq),Aq,Ar,As,Au,Av,Aw,Ax)))))))))
 (fun((aeb,aec,af0,aed,aee),(aef,aeg,af1,af2,af3),(aeh,aei,af4,af5,af6),(aej,aek),(ael,aem),(aen,aeo),NO,NP,NQ,NR,NS,NT,NU)=>
 (af 0 (aa NO) (aa NO)).ab (fun _=>
 (af 0 (aa NP) (aa NP)).ab (fun _=>
 (af 0 (aa NQ) (aa NQ)).ab (fun _=>
 (af 0 (aa NR) (aa NR)).ab (fun _=>
 (af 0 (aa NS) (aa NS)).ab (fun _=>
 (af 0 (aa NT) (aa NT)).ab (fun _=>
 (af 0 (aa NU) (aa NU)).ab (fun _=>
 some (Sum.inl ((aec,bS .i64 aeb 1,af0,aed,aee),(aef,aeg,af1,af2,af3),(aeh,aei,af4,af5,af6),(aej,aek),(ael,aem),(aen,aeo),NO,NP,NQ,NR,NS,NT,NU)))))))))))
 (((af 0 (aa Aq) (aa Aq)).ab (fun _=>
 (af 0 (aa Ar) (aa Ar)).ab (fun _=>
 (af 0 (aa As) (aa As)).ab (fun _=>
 (af 0 (aa Au) (aa Au)).ab (fun _=>
 (af 0 (aa Av) (aa Av)).ab (fun _=>
 (af 0 (aa Aw) (aa Aw)).ab (fun _=>
 (af 0 (aa Ax) (aa Ax)).ab (fun _=>
 some (Sum.inl ((Wg,NL,We),(Wh,Wi,W3,W4,W5),(Wj,MQ,W6,W7,W8),(Wk,Wl),(Wn,Wo),(Wp,Wq),Aq,Ar,As,Au,Av,Aw,Ax)))))))))).ab (fun af7=>
 some (Sum.inr af7))))
 ((ad1,(0:Int),vw,C5,ad0),(ad2,MF,HI,NG,afT),(MG,MH,NH,afU,afV),(ad6,MI),(MJ,MK),(ML,MN),NI,x6,x7,x8,Dj,NJ,NK)))))))))
 (fun((aep,af8,aeq),(aer,aes,af9,aga,agb),(aet,aeu,agc,agd,age),(aev,aew),(aex,aey),(C6,C7),NV,NW,NX,NY,AF,NZ,Xh)=>
 (dc Xh (aa Xh)).ab (fun Dk=>
 (af 0 (aa AF) (aa AF)).ab (fun _=>
 (af 0 1 (aa (((C6,C7,Dk)::([]:List (Int×(Int×(List Int)))))))).ab (fun _=>
 (lK (bF (aa AF) (aa (((C6,C7,Dk)::([]:List (Int×(Int×(List Int)))))))) 40).ab (fun _=>
 (af 0 (aa NV) (aa NV)).ab (fun _=>
 (af 0 (aa NW) (aa NW)).ab (fun _=>
 (af 0 (aa NX) (aa NX)).ab (fun _=>
 (af 0 (aa NY) (aa NY)).ab (fun _=>
 (af 0 (bF (aa AF) (aa (((C6,C7,Dk)::([]:List (Int×(Int×(List Int)))))))) (aa (dg AF (((C6,C7,Dk)::([]:List (Int×(Int×(List Int))))))))).ab (fun _=>
 (af 0 (aa NZ) (aa NZ)).ab (fun _=>
 some (Sum.inl ((aep,af8,aeq),(aer,aes,af9,aga,agb),(aet,aeu,agc,agd,age),(aev,aew),(aex,aey),NV,NW,NX,NY,dg AF (((C6,C7,Dk)::([]:List (Int×(Int×(List Int)))))),NZ)))))))))))))))))
 (fun((aez,agf,aeA),(aeB,aeC,agh,agi,agj),(aeD,aeE,agk,agl,agm),(aeF,aeG),(aeH,aeI),N0,N1,N2,N3,N4,N5)=>
 (af 0 (aa N0) (aa N0)).ab (fun _=>
 (af 0 (aa N1) (aa N1)).ab (fun _=>
 (af 0 (aa N2) (aa N2)).ab (fun _=>
 (af 0 (aa N3) (aa N3)).ab (fun _=>
 (af 0 (aa N4) (aa N4)).ab (fun _=>
 (af 0 (aa N5) (aa N5)).ab (fun _=>
 some (Sum.inl ((agf,aeA,bS .i64 aez 1),(aeB,aeC,agh,agi,agj),(aeD,aeE,agk,agl,agm),(aeF,aeG),(aeH,aeI),N0,N1,N2,N3,N4,N5))))))))))
 (((af 0 (aa fO) (aa fO)).ab (fun _=>
 (af 0 (aa jz) (aa jz)).ab (fun _=>
 (af 0 (aa lY) (aa lY)).ab (fun _=>
 (af 0 (aa eJ) (aa eJ)).ab (fun _=>
 (af 0 (aa fo) (aa fo)).ab (fun _=>
 (af 0 (aa lr) (aa lr)).ab (fun _=>
 some (Sum.inl ((kt,ku),(jQ,iR),fO,jz,lY,eJ,fo,lr))))))))).ab (fun agn=>
 some (Sum.inr agn))))
 ((l3,bj (aa l3),(0:Int)),(i0,i1,l2,l3,l4),(i5,i6,l7,l8,l9),((0:Int),(0:Int)),(i0,bS .i64 i1 i6),([]:List Int),([]:List (Int×(Int×(List Int)))),([]:List Int),dg jU l7,([]:List (Int×(Int×(List Int)))),dg lp l9))))))))
 (fun((alG,alH),(aeJ,aeK),alJ,alK,alL,Xi,Xj,Xk)=>
 (dc Xi (aa Xi)).ab (fun ago=>
 (dc Xj (aa Xj)).ab (fun agp=>
 (dc Xk (aa Xk)).ab (fun agq=>
 some (aeJ,aeK,ago,agp,agq))))))))))))
def Ez (NN:Nat):((Int×(Int×((List Int)×((List (Int×(Int×(List Int))))×(List Int)))))×(Int×(Int×((List Int)×((List (Int×(Int×(List Int))))×(List Int))))))->(Option ((Int×(Int×((List Int)×((List (Int×(Int×(List Int))))×(List Int)))))×Bool)):=
 (fun(((i0,i1,l2,l3,l4),i5,i6,l7,l8,l9):((Int×(Int×((List Int)×((List (Int×(Int×(List Int))))×(List Int)))))×(Int×(Int×((List Int)×((List (Int×(Int×(List Int))))×(List Int)))))))=>
 (qg ((i0,i1,l2,l3,l4),i5,i6,l7,l8,l9)).ab (fun oV=>
 aY (me oV)
 (some (((0:Int),(0:Int),([]:List Int),([]:List (Int×(Int×(List Int)))),([]:List Int)),false))
 (aY (cr (12:Int) (bS .i64 i1 i6))
 (some (((0:Int),(0:Int),([]:List Int),([]:List (Int×(Int×(List Int)))),([]:List Int)),false))
 ((sN ((i0,i1,l2,l3,l4),i5,i6,l7,l8,l9)).ab (fun(da,c7,eA,cI,ca)=>
 (dc eA (aa eA)).ab (fun iU=>
 (dc cI (aa cI)).ab (fun dw=>
 (dc ca (aa ca)).ab (fun fG=>
 some ((da,c7,iU,dw,fG),true)))))))))
def rb (n:Nat) (A:aL) (i j:Nat):aL:=fun a b=>if a<i/\b<n\/a=i/\b<j then A a b else 0
def pZ (n:Nat) (A B:aL) (i j:Nat):aL:=fun a b=>if a<n/\b<n then A a b else if n<=a/\n<=b/\(a<n+i\/a=n+i/\b<n+j) then B (a - n) (b - n) else 0
theorem akD {r c:Nat} (n:Nat) (A:aL):ao r c (rb n A 0 0)=ao r c fun _ _=>0:=fu fun a _ b _=>if_neg (by omega)
theorem akF {r c:Nat} (n:Nat) (A:aL) (i j:Nat):ao r c (g8 (rb n A i j) i j (A i j))=ao r c (rb n A i (j+1)):=by
 refine fu fun a ha b hb=>?_
 unfold g8 rb
 by_cases h:a=i/\b=j
 ·obtain⟨rfl,rfl⟩:=h
  rw[if_pos ⟨rfl,rfl⟩,if_pos (by omega)]
 ·rw[if_neg h]
  by_cases h1:a<i/\b<n\/a=i/\b<j
  ·rw[if_pos h1,if_pos (by omega)]
  ·rw[if_neg h1,if_neg (by omega)]
theorem akE {r c:Nat} (n:Nat) (A:aL) (i:Nat):ao r c (rb n A i n)=ao r c (rb n A (i+1) 0):=by
 refine fu fun a ha b hb=>?_
 unfold rb
 by_cases h1:a<i/\b<n\/a=i/\b<n
 ·rw[if_pos h1,if_pos (by omega)]
 ·rw[if_neg h1,if_neg (by omega)]
theorem akC {r c:Nat} (n:Nat) (A B:aL):ao r c (rb n A n 0)=ao r c (pZ n A B 0 0):=by
 refine fu fun a ha b hb=>?_
 unfold rb pZ
 by_cases h1:a<n/\b<n
 ·rw[if_pos (by omega),if_pos h1]
 ·rw[if_neg (by omega),if_neg h1,if_neg (by omega)]
theorem akI {r c:Nat} (n:Nat) (A B:aL) (i j:Nat):ao r c (g8 (pZ n A B i j) (n+i) (n+j) (B i j))=ao r c (pZ n A B i (j+1)):=by
 refine fu fun a ha b hb=>?_
 unfold g8 pZ
 by_cases h:a=n+i/\b=n+j
 ·obtain⟨rfl,rfl⟩:=h
  rw[if_pos ⟨rfl,rfl⟩,if_neg (by omega),if_pos (by omega),Nat.add_sub_cancel_left,Nat.add_sub_cancel_left]
 ·rw[if_neg h]
  by_cases h0:a<n/\b<n
  ·rw[if_pos h0,if_pos h0]
  ·rw[if_neg h0,if_neg h0]
   by_cases h1:n<=a/\n<=b/\(a<n+i\/a=n+i/\b<n+j)
   ·rw[if_pos h1,if_pos (by omega)]
   ·rw[if_neg h1,if_neg (by omega)]
theorem akH {r m:Nat} (n:Nat) (A B:aL) (i:Nat):ao r (n+m) (pZ n A B i m)=ao r (n+m) (pZ n A B (i+1) 0):=by
 refine fu fun a ha b hb=>?_
 unfold pZ
 by_cases h0:a<n/\b<n
 ·rw[if_pos h0,if_pos h0]
 ·rw[if_neg h0,if_neg h0]
  by_cases h1:n<=a/\n<=b/\(a<n+i\/a=n+i/\b<n+m)
  ·rw[if_pos h1,if_pos (by omega)]
  ·rw[if_neg h1,if_neg (by omega)]
theorem akG {m c:Nat} (n:Nat) (A B:aL):ao (n+m) c (pZ n A B m 0)=ao (n+m) c (nM n A B):=by
 refine fu fun a ha b hb=>?_
 unfold pZ nM
 by_cases h0:a<n/\b<n
 ·rw[if_pos h0,if_pos h0]
 ·rw[if_neg h0,if_neg h0]
  by_cases h1:n<=a/\n<=b
  ·rw[if_pos h1,if_pos (by omega)]
  ·rw[if_neg h1,if_neg (by omega)]
theorem akJ (n m:Nat) (ms ms2:List bJ) (k:Nat):d9 n m ms ms2 k++[(((n+m:Nat):Int),((n+m:Nat):Int),ao (n+m) (n+m) (nM n (stM n ms k) (stM m ms2 k)))]=d9 n m ms ms2 (k+1):=by
 unfold d9
 rw[List.range_succ,List.map_append]
 rfl
theorem oN (n m:Nat) (ms ms2:List bJ) (k:Nat):(d9 n m ms ms2 k).length=k:=by simp[d9]
theorem Tb {α:Type} (l r:List α):af 0 (bF (aa l) (aa r)) (aa (l++r))=some ():=tf (by simp[bF,aa])
theorem rM {α:Type}:af 0 0 (aa ([]:List α))=some ():=rfl
theorem Ta {α:Type} (l r:List α):dg l r=l++r:=rfl
section
variable {p:Int} {n m:Nat} {a b a2 b2:List Int} {ms ms2:List bJ}
theorem Br (H:cM p n a ms b) {k:Nat} (hk:k<ms.length):ms[k]? =some ((n:Int),(n:Int),ao n n (stM n ms k))/\bZ p n n (stM n ms k):=by
 obtain⟨M,hM,hi⟩:=H.hm ms[k] (List.getElem_mem hk)
 have e:ms.getD k (0,0,[])=ms[k]:=by simp[List.getD,hk]
 have e2:ao n n (stM n ms k)=ao n n M:=by unfold stM;rw[e,hM];exact lL (fW _ _ _)
 refine⟨by rw[List.getElem?_eq_getElem hk,e2,hM],?_⟩
 unfold stM
 rw[e,hM]
 exact jC (fW _ _ _) (hH.2 hi)
theorem acI (H:cM p n a ms b) (H2:cM p m a2 ms2 b2) (tw:ms.length=ms2.length):
  EG aN ((p,(n:Int),a,ms,b),p,(m:Int),a2,ms2,b2)=some (p,((n+m:Nat):Int),a++a2,d9 n m ms ms2 ms.length,b++b2):=by
 have hn:=H.hn
 have hm:=H2.hn
 have h4:=H.l4
 have h3:=H.al
 have h5:=H.bl
 have h6:=H2.al
 have h7:=H2.bl
 have hNN:(n+m)*(n+m)<=24*24:=Nat.mul_le_mul (by omega) (by omega)
 have hnn:n*n<=24*24:=Nat.mul_le_mul (by omega) (by omega)
 have cR:m*m<=24*24:=Nat.mul_le_mul (by omega) (by omega)
 simp only[EG]
 rw[show ix a=some a from if_pos (by omega),az]
 try simp only[cm,rM,az]
 rw[nZ (show(bF (aa a) (aa a2))*8<=eK by simp only[bF,aa,eK];omega),az,show ix b=some b from if_pos (by omega),az]
 try simp only[cm,rM,az]
 rw[nZ (show(bF (aa b) (aa b2))*8<=eK by simp only[bF,aa,eK];omega),az]
 simp only[cm,rM,az,Ta,Tb,wQ (show n+m<=1099511627776 by omega),nl]
 rw[gM (fun k=>((ms,(ms.length:Int),(k:Int)),(p,(n:Int),a,ms,b),(p,(m:Int),a2,ms2,b2),((0:Int),(0:Int)),(p,((n+m:Nat):Int)),([]:List Int),([]:List (Int×Int×List Int)),([]:List Int),(a++a2),d9 n m ms ms2 k,(b++b2))) ms.length ?a1 ?a2 ?a3 (dQ (by omega))]
 case a3=>rfl
 case a2=>simp only;rw[bG (il (Nat.le_refl _))];try (simp only[cm,rM,az])
 case a1=>
  intro k hk
  obtain⟨g1,g2⟩:=Br H hk
  obtain⟨g3,g4⟩:=Br H2 (show k<ms2.length by omega)
  simp only
  rw[bH (g0 hk),kl,g1,az]
  simp only
  rw[AR (by omega) (by omega) (by omega),az]
  try simp only[cm,rM,az]
  rw[gM (fun i=>(((k:Int),(i:Int),ms,(ms.length:Int),(k:Int)),(p,(n:Int),a,ms,b),(p,(m:Int),a2,ms2,b2),((0:Int),(0:Int)),(p,((n+m:Nat):Int)),((n:Int),(n:Int),ao n n (stM n ms k)),(((n+m:Nat):Int),((n+m:Nat):Int)),([]:List Int),([]:List (Int×Int×List Int)),([]:List Int),(a++a2),d9 n m ms ms2 k,(b++b2),ao (n+m) (n+m) (rb n (stM n ms k) i 0))) n ?b1 ?b2 ?b3 (dQ (by omega))]
  case b3=>simp only[akD];try rfl
  case b2=>simp only;rw[bG (il (Nat.le_refl _))];try (simp only[cm,rM,az])
  case b1=>
   intro i hi
   simp only
   rw[bH (g0 hi)]
   rw[gM (fun j=>(((k:Int),(i:Int),(j:Int),ms,(ms.length:Int),(k:Int)),(p,(n:Int),a,ms,b),(p,(m:Int),a2,ms2,b2),((0:Int),(0:Int)),(p,((n+m:Nat):Int)),((n:Int),(n:Int),ao n n (stM n ms k)),(((n+m:Nat):Int),((n+m:Nat):Int)),([]:List Int),([]:List (Int×Int×List Int)),([]:List Int),(a++a2),d9 n m ms ms2 k,(b++b2),ao (n+m) (n+m) (rb n (stM n ms k) i j))) n ?c1 ?c2 ?c3 (dQ (by omega))]
   case c3=>rfl
   case c2=>simp only;rw[bG (il (Nat.le_refl _))];try (simp only[cm,rM,az])
   case c1=>
    intro j hj
    simp only
    rw[bH (g0 hj),kg (by omega) (by omega) (by omega) hi hj,az,pU (by omega) (by omega) (by omega) (show i<n+m by omega) (show j<n+m by omega)]
    simp only[az,pg,gk (show j<=1048577 by omega)]
    rw[akF]
   rw[eH]
   simp only[gk (show i<=1048577 by omega)]
   rw[akE]
  rw[eH]
  simp only
  rw[gM (fun i=>(((k:Int),(i:Int),ms,(ms.length:Int),(k:Int)),(p,(n:Int),a,ms,b),(p,(m:Int),a2,ms2,b2),((0:Int),(0:Int)),(p,((n+m:Nat):Int)),(((n+m:Nat):Int),((n+m:Nat):Int)),([]:List Int),([]:List (Int×Int×List Int)),([]:List Int),(a++a2),d9 n m ms ms2 k,(b++b2),ao (n+m) (n+m) (pZ n (stM n ms k) (stM m ms2 k) i 0))) m ?d1 ?d2 ?d3 (dQ (by omega))]
  case d3=>simp only[akC n (stM n ms k) (stM m ms2 k)];try rfl
  case d2=>simp only;rw[bG (il (Nat.le_refl _))];try (simp only[cm,rM,az])
  case d1=>
   intro i hi
   simp only
   rw[bH (g0 hi)]
   rw[gM (fun j=>(((k:Int),(i:Int),(j:Int),ms,(ms.length:Int),(k:Int)),(p,(n:Int),a,ms,b),(p,(m:Int),a2,ms2,b2),((0:Int),(0:Int)),(p,((n+m:Nat):Int)),(((n+m:Nat):Int),((n+m:Nat):Int)),([]:List Int),([]:List (Int×Int×List Int)),([]:List Int),(a++a2),d9 n m ms ms2 k,(b++b2),ao (n+m) (n+m) (pZ n (stM n ms k) (stM m ms2 k) i j))) m ?e1 ?e2 ?e3 (dQ (by omega))]
   case e3=>rfl
   case e2=>simp only;rw[bG (il (Nat.le_refl _))];try (simp only[cm,rM,az])
   case e1=>
    intro j hj
    simp only
    rw[bH (g0 hj),kl,g3,az]
    simp only
    rw[kg (by omega) (by omega) (by omega) hi hj,az,wQ (show n+i<=1099511627776 by omega),wQ (show n+j<=1099511627776 by omega),pU (by omega) (by omega) (by omega) (show n+i<n+m by omega) (show n+j<n+m by omega)]
    simp only[az,pg,gk (show j<=1048577 by omega)]
    rw[akI]
   rw[eH]
   simp only[gk (show i<=1048577 by omega)]
   rw[akH]
  rw[eH]
  simp only[kG,az]
  rw[akG]
  simp only[show af 0 1 (aa [(((n+m:Nat):Int),((n+m:Nat):Int),ao (n+m) (n+m) (nM n (stM n ms k) (stM m ms2 k)))])=some () from rfl,az]
  rw[nZ (show(bF (aa (d9 n m ms ms2 k)) (aa [(((n+m:Nat):Int),((n+m:Nat):Int),ao (n+m) (n+m) (nM n (stM n ms k) (stM m ms2 k)))]))*40<=eK by simp only[bF,aa,eK,oN,List.length_cons,List.length_nil];omega),az]
  try simp only[cm,rM,az,Ta,Tb]
  rw[akJ,eH]
  try simp only[gk (show k<=1048577 by omega)]
 rw[eH]
 simp only[kG,az]
end
section
variable {p sg:Int} {n m:Nat} {a b a2 b2:List Int} {ms ms2:List bJ}
end
theorem JR {x y:bz} (h:oS x y=true):∃(p:Int) (n m:Nat) (a b a2 b2:List Int) (ms ms2:List bJ),x=(p,(n:Int),a,ms,b)/\y=(p,(m:Int),a2,ms2,b2)/\cM p n a ms b/\cM p m a2 ms2 b2/\ms.length=ms2.length:=by
 simp only[oS,Bool.and_eq_true,decide_eq_true_eq] at h
 obtain⟨h1,h2,h3,h4⟩:=h
 obtain⟨p,n,a,ms,b,rfl,H⟩:=wT h1
 obtain⟨q,m,a2,ms2,b2,rfl,H2⟩:=wT h2
 simp only at h3 h4
 subst h3
 exact⟨p,n,m,a,b,a2,b2,ms,ms2,rfl,rfl,H,H2,h4⟩
theorem acg (x:bz×bz) (y:Bool) (h:qg x=some y):JG aN x=some y:=by
 obtain⟨x,z⟩:=x
 simp only[qg,Ew] at h
 split at h
 ·rename_i hl
  rw[<-h]
  have e1:jf x=some (fD x):=if_pos hl.1
  have e2:jf z=some (fD z):=if_pos hl.2
  obtain⟨x0,x1,x2,x3,x4⟩:=x
  obtain⟨z0,z1,z2,z3,z4⟩:=z
  simp only[JG,e1,e2,az,oS]
  cases fD (x0,x1,x2,x3,x4) with
  |false=>rfl
  |true=>
   cases fD (z0,z1,z2,z3,z4) with
   |false=>rfl
   |true=>
    simp only[zq,Bool.true_and]
    by_cases e:x0=z0
    ·rw[bH (by simp[fU,e]),decide_eq_true e,Bool.true_and]
     congr 1
     rw[nl,nl,fU]
     rw[Bool.eq_iff_iff]
     simp
     constructor<;>(intro h;omega)
    ·rw[bG (by simp[fU,e]),decide_eq_false e,Bool.false_and]
 ·cases h
theorem XP {p:Int} {l:List Int} (h:dR p l):(l.map fun v=>v*1%p)=l:=by
 have:∀v∈l,v*1%p=v:=fun v hv=>by rw[Int.mul_one];exact Int.emod_eq_of_lt (h v hv).1 (h v hv).2
 rw[List.map_congr_left this,List.map_id']
theorem ab7 (x:bz×bz) (y:bz) (h:sN x=some y):EG aN x=some y:=by
 obtain⟨x,z⟩:=x
 simp only[sN] at h
 split at h
 ·rename_i hc
  obtain⟨p,n,m,a,b,a2,b2,ms,ms2,rfl,rfl,H,H2,hl⟩:=JR hc
  rw[<-h,acI H H2 hl]
  simp only[wl,Int.toNat_natCast,XP H2.bp]
 ·cases h
theorem abR (x:bz×bz) (y:bz×Bool) (h:uq x=some y):Ez aN x=some y:=by
 obtain⟨x,z⟩:=x
 simp only[uq,Jr] at h
 split at h
 ·rename_i hl
  rw[<-h]
  have e0:qg (x,z)=some (oS x z):=if_pos hl
  cases hb:oS x z with
  |false=>
   obtain⟨x0,x1,x2,x3,x4⟩:=x
   obtain⟨z0,z1,z2,z3,z4⟩:=z
   simp only[Ez,e0,az,hb]
   rfl
  |true=>
   have aR:=hb
   rw[hb] at e0
   obtain⟨p,n,m,a,b,a2,b2,ms,ms2,rfl,rfl,H,H2,zN⟩:=JR hb
   have hn:=H.hn
   have hm:=H2.hn
   simp only[Ez,e0,az]
   rw[bG (by rfl),wQ (show n+m<=1099511627776 by omega)]
   by_cases h12:n+m<=12
   ·rw[bG (eU (by omega)),if_pos (show _/\_ from⟨by first|trivial|rfl,by show(n:Int)+(m:Int)<=12;omega⟩)]
    rw[show sN ((p,(n:Int),a,ms,b),(p,(m:Int),a2,ms2,b2))=some _ from if_pos aR,az]
    simp only[wl,kG,az]
   ·rw[bH (eV (by omega)),if_neg (fun h=>h12 (by have h2:(n:Int)+(m:Int)<=12:=h.2;omega))]
 ·cases h
end Go.Am
end
section
namespace Go.Am
section
variable {n:Int} {d:List (Int×Int)} {a b:Int}
end
end Go.Am
end
section
namespace Go.Am
def oI (b a:Int) (l:List Int):List Int:=l.map fun x=>if x=b then a else x
def uG (l:List Int) (i:Int):Int:=l.getD i.toNat 0
def vt (n:Nat):List Int:=(List.range n).map fun i=>((i:Nat):Int)
def A4 (s:Nat) (i:Nat) (st:Int×List Int) (e:Int×Int):Int×List Int:=
 if s.testBit i=true/\uG st.2 e.1≠uG st.2 e.2 then(st.1 - 1,oI (uG st.2 e.2) (uG st.2 e.1) st.2) else st
def parts (n:Int) (es:List (Int×Int)) (s:Int):Int×List Int:=xl (A4 s.toNat) 0 (n,vt n.toNat) es
def Od (s:Nat) (i:Nat) (l:List Int) (e:Int×Int):List Int:=
 if s.testBit i=true then oI (max (uG l e.1) (uG l e.2)) (min (uG l e.1) (uG l e.2)) l else l
def KI (l:List Int):Int:=((List.range l.length).countP fun i=>l.getD i 0==(i:Int):Nat)
theorem Nk (n:Nat):(vt n).length=n:=by simp[vt]
theorem PK (b a:Int) (l:List Int):(oI b a l).length=l.length:=by simp[oI]
theorem XK (a b:Int):su a b=min a b:=by unfold su;split<;>omega
theorem TQ (p:Nat->Bool) (j:Nat):(List.range (j+1)).countP p=(List.range j).countP p+(if p j=true then 1 else 0):=by
 rw[List.range_succ,List.countP_append,List.countP_singleton]
theorem TP (p q:Nat->Bool) (k:Nat):∀n,k<n->(∀i,i<n->i≠k->p i=q i)->p k=true->q k=false->(List.range n).countP p=(List.range n).countP q+1
 |0,h,_,_,_=>by omega
 |n+1,h,Mh,h1,h2=>by
  rw[TQ,TQ]
  by_cases hk:k=n
  ·subst hk
   rw[h1,h2]
   have:(List.range k).countP p=(List.range k).countP q:=List.countP_congr fun i hi=>by
    have:=List.mem_range.1 hi
    rw[Mh i (by omega) (by omega)]
   rw[this]
   simp
  ·rw[TP p q k n (by omega) (fun i hi=>Mh i (by omega)) h1 h2,Mh n (by omega) (by omega)]
   omega
structure BS (m:Nat) (l:List Int) (c:Int) (q:List Int):Prop where
 ll:l.length=m
 lq:q.length=m
 fA:∀i j:Nat,i<m->j<m->(l.getD i 0=l.getD j 0↔q.getD i 0=q.getD j 0)
 low:∀i:Nat,i<m->0<=l.getD i 0/\l.getD i 0<=(i:Int)/\l.getD (l.getD i 0).toNat 0=l.getD i 0
 nd:KI l=c
theorem YC {b a:Int} {l:List Int} {i:Nat} (h:i<l.length):(oI b a l).getD i 0=if l.getD i 0=b then a else l.getD i 0:=by
 simp[oI,List.getD,List.getElem?_map,List.getElem?_eq_getElem h]
theorem ajg (b:Int) (l:List Int):oI b b l=l:=by
 unfold oI
 conv=>rhs;rw[<-List.map_id l]
 refine List.map_congr_left fun x _=>?_
 split
 ·rename_i h;exact h.symm
 ·rfl
theorem XJ {b a x y:Int}:((if x=b then a else x)=(if y=b then a else y))↔(x=y\/((x=b\/x=a)/\(y=b\/y=a))):=by
 constructor
 ·intro h;split at h<;>split at h<;>omega
 ·intro h;split<;>split<;>omega
theorem BS.step {m:Nat} {l:List Int} {c:Int} {q:List Int} (h:BS m l c q) {u v:Nat} (hu:u<m) (hv:v<m) {s i:Nat}:
  BS m (Od s i l ((u:Int),(v:Int))) (A4 s i (c,q) ((u:Int),(v:Int))).1 (A4 s i (c,q) ((u:Int),(v:Int))).2:=by
 cases hb:s.testBit i with
 |false=>
  have e1:Od s i l ((u:Int),(v:Int))=l:=if_neg (by rw[hb];decide)
  have e2:A4 s i (c,q) ((u:Int),(v:Int))=(c,q):=if_neg (fun hh=>by rw[hb] at hh;exact absurd hh.1 (by decide))
  rw[e1,e2]
  exact h
 |true=>
  have ep:q.getD u 0=q.getD v 0->A4 s i (c,q) ((u:Int),(v:Int))=(c,q):=fun h=>if_neg (fun hh=>hh.2 h)
  have en:q.getD u 0≠q.getD v 0->A4 s i (c,q) ((u:Int),(v:Int))=(c - 1,oI (q.getD v 0) (q.getD u 0) q):=fun h=>if_pos ⟨hb,h⟩
  have el:Od s i l ((u:Int),(v:Int))=oI (max (l.getD u 0) (l.getD v 0)) (min (l.getD u 0) (l.getD v 0)) l:=if_pos hb
  obtain⟨ll,lq,fA,low,nd⟩:=h
  by_cases hq:q.getD u 0=q.getD v 0
  ·have hl:=(fA u v hu hv).2 hq
   rw[ep hq,el,hl,Int.max_self,Int.min_self,ajg]
   exact⟨ll,lq,fA,low,nd⟩
  ·have hl:l.getD u 0≠l.getD v 0:=fun e=>hq ((fA u v hu hv).1 e)
   rw[en hq,el]
   obtain⟨lu0,lu1,Om⟩:=low u hu
   obtain⟨lv0,lv1,On⟩:=low v hv
   obtain⟨lo,hi,e1,e2,bL,zU,adp,vb,tr,Vt⟩:∃lo hi:Nat,min (l.getD u 0) (l.getD v 0)=(lo:Int)/\max (l.getD u 0) (l.getD v 0)=(hi:Int)/\lo<hi/\
     (∀x:Int,(x=(hi:Int)\/x=(lo:Int))↔(x=l.getD v 0\/x=l.getD u 0))/\lo<m/\l.getD lo 0=(lo:Int)/\l.getD hi 0=(hi:Int)/\hi<m:=by
    obtain⟨a,ha⟩:=fz lu0
    obtain⟨b,hb⟩:=fz lv0
    rw[ha,Int.toNat_natCast] at Om
    rw[hb,Int.toNat_natCast] at On
    rw[ha] at lu1 hl
    rw[hb] at lv1 hl
    rw[ha,hb]
    rcases Nat.lt_or_ge a b with eE|eE
    ·exact⟨a,b,by omega,by omega,eE,fun x=>by omega,by omega,Om,On,by omega⟩
    ·exact⟨b,a,by omega,by omega,by omega,fun x=>by omega,by omega,On,Om,by omega⟩
   rw[e1,e2]
   have gl:∀j,j<m->(oI (hi:Int) (lo:Int) l).getD j 0=if l.getD j 0=(hi:Int) then(lo:Int) else l.getD j 0:=fun j hj=>YC (by omega)
   have gq:∀j,j<m->(oI (q.getD v 0) (q.getD u 0) q).getD j 0=if q.getD j 0=q.getD v 0 then q.getD u 0 else q.getD j 0:=fun j hj=>YC (by omega)
   refine⟨by rw[PK];exact ll,by rw[PK];exact lq,?_,?_,?_⟩
   ·intro x y hx hy
    rw[gl x hx,gl y hy,gq x hx,gq y hy,XJ,XJ,zU,zU,fA x y hx hy,fA x u hx hu,fA x v hx hv,fA y u hy hu,fA y v hy hv]
   ·intro x hx
    obtain⟨h0,h1,h2⟩:=low x hx
    rw[gl x hx]
    by_cases Mv:l.getD x 0=(hi:Int)
    ·rw[if_pos Mv]
     refine⟨by omega,by omega,?_⟩
     rw[Int.toNat_natCast,gl lo adp,vb,if_neg (by omega)]
    ·rw[if_neg Mv]
     refine⟨h0,h1,?_⟩
     rw[gl _ (by omega),h2,if_neg Mv]
   ·have hc:=TP (fun j=>l.getD j 0==(j:Int)) (fun j=>(oI (hi:Int) (lo:Int) l).getD j 0==(j:Int)) hi m Vt ?_ (by rw[tr];simp) (by rw[gl hi Vt,if_pos tr];simp;omega)
    ·unfold KI at nd⊢
     rw[PK,ll]
     rw[ll,hc] at nd
     omega
    ·intro j hj aw
     rw[gl j hj]
     by_cases LY:l.getD j 0=(hi:Int)
     ·rw[if_pos LY,LY,Bool.eq_iff_iff]
      simp only[beq_iff_eq]
      constructor
      ·intro h;omega
      ·intro h
       have:lo=j:=by omega
       subst this
       omega
     ·rw[if_neg LY]
theorem Nj {m i:Nat} (h:i<m):(vt m).getD i 0=(i:Int):=by
 simp[vt,List.getD,List.getElem?_map,List.getElem?_range h]
theorem BS.init (m:Nat):BS m (vt m) (m:Int) (vt m):=by
 refine⟨Nk m,Nk m,fun _ _ _ _=>Iff.rfl,fun i hi=>?_,?_⟩
 ·rw[Nj hi,Int.toNat_natCast,Nj hi]
  omega
 ·unfold KI
  rw[Nk]
  have:(List.range m).countP (fun i=>(vt m).getD i 0==(i:Int))=(List.range m).length:=by
   rw[List.countP_eq_length]
   intro i hi
   rw[Nj (List.mem_range.1 hi)]
   simp
  rw[this,List.length_range]
end Go.Am
end
section
namespace Go.Am
theorem Dp {X Y:Type} {f:X->Option (X⊕Y)} (n:Nat) (I:Nat->X->Prop) (Q:Y->Prop)
  (h1:∀i x,i<n->I i x->∃x',f x=some (.inl x')/\I (i+1) x') (h2:∀x,I n x->∃r,f x=some (.inr r)/\Q r) {x0:X} (h0:I 0 x0) {N:Nat} (hN:n<N):∃r,bQ N f x0=some r/\Q r:=by
 have cu:∀(k i:Nat) (x:X),i+k=n->I i x->∀N,k<N->∃r,bQ N f x=some r/\Q r:=by
  intro k
  induction k with
  |zero=>
   intro i x hi hx N hN
   obtain⟨N,rfl⟩:∃M,N=M+1:=⟨N - 1,by omega⟩
   have:i=n:=by omega
   subst this
   obtain⟨r,e,q⟩:=h2 x hx
   exact⟨r,by simp only[bQ,e],q⟩
  |succ k ih=>
   intro i x hi hx N hN
   obtain⟨N,rfl⟩:∃M,N=M+1:=⟨N - 1,by omega⟩
   obtain⟨x',e,eT⟩:=h1 i x (by omega) hx
   obtain⟨r,e',q⟩:=ih (i+1) x' (by omega) eT N (by omega)
   exact⟨r,by simp only[bQ,e];exact e',q⟩
 exact cu n 0 x0 (by omega) h0 N hN
abbrev Cu:Type:=List Int×Int×Int
def jG (c:Cu):Prop:=0<=c.2.1/\c.1.length<=1048576
theorem S8 (a:Int):0<=oT .i64 a 255/\oT .i64 a 255<=255:=by
 have e:oT .i64 a 255=IntKind.wrap .i64 (((BitVec.ofInt 64 a&&&BitVec.ofInt 64 255).toNat:Nat):Int):=rfl
 have h:(BitVec.ofInt 64 a&&&BitVec.ofInt 64 255).toNat<=255:=by
  rw[BitVec.toNat_and]
  exact Nat.le_trans Nat.and_le_right (by decide)
 rw[e]
 generalize (BitVec.ofInt 64 a&&&BitVec.ofInt 64 255).toNat=m at h
 rw[Z8 _ (by omega) (by omega)]
 omega
theorem uU {α:Type}:af 0 0 (aa ([]:List α))=some ():=rfl
theorem GF {α:Type} (l:List α) (x:α):af 0 (bF (aa l) (aa [x])) (aa (dg l [x]))=some ():=by
 rw[show aa (dg l [x])=bF (aa l) (aa [x]) by simp[bF,aa,dg]];exact cm _
def FF:av:=[(.one,[.list [.int .u8]])]
def Qp:av:=[(.ptr,[.list [.int .u8],.int .i64,.int .i64])]
def ag9:bo:=[[some .aA]]
def ER (NN:Nat):(List Int)->(Option ((List Int)×(Int×Int))):=
 (fun(l0:(List Int))=>
 cT (bQ NN (fun((l1,i2,i3):((List Int)×(Int×Int)))=>
 aY (cr i3 (bj (aa l1)))
 (aY (cr i3 (4000:Int))
 ((ji l1 i3).ab (fun i4=>
 some (Sum.inl (l1,oT .i64 (bS .i64 (bS .i64 (fa .i64 i2 131) (Kp .i64 i4)) (7:Int)) (1073741823:Int),bS .i64 i3 1))))
 (some (Sum.inr (Sum.inl (l1,i2)))))
 (some (Sum.inr (Sum.inl (l1,i2)))))
 (l0,bS .i64 (55127:Int) (bj (aa l0)),(0:Int)))
 (fun(l5,i6)=>
 some (l5,(0:Int),i6)))
def yZ:(List Int)->(Option ((List Int)×(Int×Int))):=ER aN
theorem acq (x:(List Int)) (z:((List Int)×(Int×Int))) (h:yZ x=some z):ER aN x=some z:=h
def FL:av:=[(.one,[.list [.int .u8]]),(.one,[.int .i64])]
def Qv:av:=[(.ptr,[.list [.int .u8],.int .i64,.int .i64])]
def ahf:bo:=[[some .aA]]
def EX (NN:Nat):((List Int)×Int)->(Option ((List Int)×(Int×Int))):=
 (fun((l0,i1):((List Int)×Int))=>
 (yZ l0).ab (fun(l2,i3,i4)=>
 some (l2,su i1 (bj (aa l0)),oT .i64 (bS .i64 (bS .i64 (fa .i64 i4 31) (fa .i64 i1 7919)) (1:Int)) (1073741823:Int))))
def wI:((List Int)×Int)->(Option ((List Int)×(Int×Int))):=EX aN
theorem acw (x:((List Int)×Int)) (z:((List Int)×(Int×Int))) (h:wI x=some z):EX aN x=some z:=h
def FE:av:=[(.ptr,[.list [.int .u8],.int .i64,.int .i64])]
def Qo:av:=[(.one,[.int .i64]),(.ptr,[.list [.int .u8],.int .i64,.int .i64])]
def ag8:bo:=[[some .aA]]
def EQ (NN:Nat):((List Int)×(Int×Int))->(Option (Int×((List Int)×(Int×Int)))):=
 (fun((l0,i1,i2):((List Int)×(Int×Int)))=>
 (sE .i64 (bS .i64 (fa .i64 i2 6364136223846793005) (1442695040888963407:Int)) (33:Int)).ab (fun i3=>
 (sE .i64 (bS .i64 (fa .i64 i2 6364136223846793005) (1442695040888963407:Int)) (45:Int)).ab (fun i4=>
 cT (aY (cr i1 (bj (aa l0)))
 ((ji l0 i1).ab (fun i5=>
 some (Sum.inl (oT .i64 (bS .i64 (oT .i64 (SF .i64 i3 i4) (255:Int)) (Kp .i64 i5)) (255:Int),l0,bS .i64 i1 1,bS .i64 (fa .i64 i2 6364136223846793005) (1442695040888963407:Int)))))
 (some (Sum.inl (oT .i64 (SF .i64 i3 i4) (255:Int),l0,i1,bS .i64 (fa .i64 i2 6364136223846793005) (1442695040888963407:Int)))))
 (fun(i6,l7,i8,i9)=>
 some (i6,l7,i8,i9)))))
def yY:((List Int)×(Int×Int))->(Option (Int×((List Int)×(Int×Int)))):=EQ aN
theorem acp (x:((List Int)×(Int×Int))) (z:(Int×((List Int)×(Int×Int)))) (h:yY x=some z):EQ aN x=some z:=h
def FD:av:=[(.ptr,[.list [.int .u8],.int .i64,.int .i64]),(.one,[.int .i64])]
def Qn:av:=[(.one,[.int .i64]),(.ptr,[.list [.int .u8],.int .i64,.int .i64])]
def ag7:bo:=[[some .aA]]
def EP (NN:Nat):(((List Int)×(Int×Int))×Int)->(Option (Int×((List Int)×(Int×Int)))):=
 (fun(((l0,i1,i2),i3):(((List Int)×(Int×Int))×Int))=>
 aY (tS i3 (0:Int))
 (some ((0:Int),l0,i1,i2))
 ((yY (l0,i1,i2)).ab (fun(i4,l5,i6,i7)=>
 (kB i4 i3).ab (fun i8=>
 some (i8,l5,i6,i7)))))
def nQ:(((List Int)×(Int×Int))×Int)->(Option (Int×((List Int)×(Int×Int)))):=EP aN
theorem aco (x:(((List Int)×(Int×Int))×Int)) (z:(Int×((List Int)×(Int×Int)))) (h:nQ x=some z):EP aN x=some z:=h
def FG:av:=[(.ptr,[.list [.int .u8],.int .i64,.int .i64]),(.one,[.int .i64])]
def Qq:av:=[(.one,[.bool]),(.ptr,[.list [.int .u8],.int .i64,.int .i64])]
def aha:bo:=[[some .aA]]
def ES (NN:Nat):(((List Int)×(Int×Int))×Int)->(Option (Bool×((List Int)×(Int×Int)))):=
 (fun(((l0,i1,i2),i3):(((List Int)×(Int×Int))×Int))=>
 (nQ ((l0,i1,i2),i3)).ab (fun(i4,l5,i6,i7)=>
 some (fU i4 (0:Int),l5,i6,i7)))
def wF:(((List Int)×(Int×Int))×Int)->(Option (Bool×((List Int)×(Int×Int)))):=ES aN
theorem acr (x:(((List Int)×(Int×Int))×Int)) (z:(Bool×((List Int)×(Int×Int)))) (h:wF x=some z):ES aN x=some z:=h
def FH:av:=[(.ptr,[.list [.int .u8],.int .i64,.int .i64]),(.one,[.list [.int .i64]])]
def Qr:av:=[(.one,[.int .i64]),(.ptr,[.list [.int .u8],.int .i64,.int .i64])]
def ahb:bo:=[[some .aA]]
def ET (NN:Nat):(((List Int)×(Int×Int))×(List Int))->(Option (Int×((List Int)×(Int×Int)))):=
 (fun(((l0,i1,i2),l3):(((List Int)×(Int×Int))×(List Int)))=>
 (nQ ((l0,i1,i2),bj (aa l3))).ab (fun(i4,l5,i6,i7)=>
 (ji l3 i4).ab (fun i8=>
 some (i8,l5,i6,i7))))
def y5:(((List Int)×(Int×Int))×(List Int))->(Option (Int×((List Int)×(Int×Int)))):=ET aN
theorem acs (x:(((List Int)×(Int×Int))×(List Int))) (z:(Int×((List Int)×(Int×Int)))) (h:y5 x=some z):ET aN x=some z:=h
theorem aaF (c:Cu) (h:jG c):∃x c',yY c=some (x,c')/\(0<=x/\x<=255)/\jG c':=by
 obtain⟨l,i,k⟩:=c
 obtain⟨h0,h1⟩:=h
 dsimp only at h0 h1
 obtain⟨i,rfl⟩:=fz h0
 obtain⟨s1,e1⟩:∃s,sE .i64 (bS .i64 (fa .i64 k (6364136223846793005:Int)) (1442695040888963407:Int)) (33:Int)=some s:=⟨_,if_neg (by decide)⟩
 obtain⟨s2,e2⟩:∃s,sE .i64 (bS .i64 (fa .i64 k (6364136223846793005:Int)) (1442695040888963407:Int)) (45:Int)=some s:=⟨_,if_neg (by decide)⟩
 simp only[yY,EQ]
 rw[e1,e2]
 simp only[Option.ab,Option.bind]
 by_cases hc:i<l.length
 ·rw[bH (eV (by unfold bj aa;omega))]
  rw[kl,List.getElem?_eq_getElem hc]
  simp only[cT,Option.bind]
  refine⟨_,_,rfl,S8 _,?_,h1⟩
  dsimp only
  rw[lF (by omega) (by omega)]
  omega
 ·rw[bG (eU (by unfold bj aa;omega))]
  simp only[cT,Option.bind]
  exact⟨_,_,rfl,S8 _,h0,h1⟩
theorem uJ (c:Cu) (n:Int) (h:jG c) (hn:1<=n):∃x c',nQ (c,n)=some (x,c')/\(0<=x/\x<n)/\x<=255/\jG c':=by
 obtain⟨l,i,k⟩:=c
 obtain⟨x,⟨l',i',k'⟩,e,hx,hc⟩:=aaF _ h
 simp only[nQ,EP]
 rw[bG (HN (by omega)),e]
 simp only[Option.ab,Option.bind]
 rw[YD hx.1 (by omega)]
 refine⟨_,_,rfl,⟨Int.emod_nonneg _ (by omega),Int.emod_lt_of_pos _ (by omega)⟩,?_,hc⟩
 have:=Int.emod_lt_of_pos x (show 0<n by omega)
 by_cases hl:x<n
 ·rw[Int.emod_eq_of_lt hx.1 hl];omega
 ·omega
theorem X5 (c:Cu) (n:Int) (h:jG c) (hn:1<=n):∃b c',wF (c,n)=some (b,c')/\jG c':=by
 obtain⟨l,i,k⟩:=c
 obtain⟨x,⟨l',i',k'⟩,e,_,_,hc⟩:=uJ _ n h hn
 simp only[wF,ES]
 rw[e]
 exact⟨_,_,rfl,hc⟩
theorem aiP (c:Cu) (l:List Int) (h:jG c) (h1:l≠[]) (h2:l.length<=100):∃x c',y5 (c,l)=some (x,c')/\x∈l/\jG c':=by
 obtain⟨cl,i,k⟩:=c
 have hl:1<=l.length:=by rcases l with _|⟨a,l⟩<;>simp_all
 obtain⟨x,⟨l',i',k'⟩,e,hx,_,hc⟩:=uJ (cl,i,k) (bj (aa l)) h (by unfold bj aa;omega)
 simp only[y5,ET]
 rw[e]
 simp only[Option.ab,Option.bind]
 obtain⟨j,rfl⟩:=fz hx.1
 have hj:j<l.length:=by unfold bj aa at hx;omega
 rw[kl,List.getElem?_eq_getElem hj]
 exact⟨_,_,rfl,List.getElem_mem hj,hc⟩
theorem ah5 (l:List Int) (h:l.length<=1048576):∃c,yZ l=some c/\jG c:=by
 simp only[yZ,ER]
 generalize hL:bQ aN _ _=o
 obtain⟨r,rfl,z,rfl⟩:∃r,o=some r/\∃z,r=Sum.inl (l,z):=by
  rw[<-hL]
  refine Dp (min l.length 4000) (fun i (x:List Int×Int×Int)=>x.1=l/\x.2.2=(i:Int)) _ ?_ ?_ ⟨rfl,rfl⟩ (dQ (by omega))
  ·intro i x hi hx
   obtain⟨l1,i2,i3⟩:=x
   dsimp only at hx⊢
   obtain⟨rfl,rfl⟩:=hx
   rw[bH (eV (by unfold bj aa;omega)),bH (eV (by omega)),kl,List.getElem?_eq_getElem (by omega)]
   exact⟨_,rfl,rfl,lF (by omega) (by omega)⟩
  ·intro x hx
   obtain⟨l1,i2,i3⟩:=x
   dsimp only at hx⊢
   obtain⟨rfl,rfl⟩:=hx
   by_cases hc:l1.length<=4000
   ·rw[bG (eU (by unfold bj aa;omega))]
    exact⟨_,rfl,_,rfl⟩
   ·rw[bH (eV (by unfold bj aa;omega)),bG (eU (by omega))]
    exact⟨_,rfl,_,rfl⟩
 exact⟨_,rfl,Int.le_refl _,h⟩
theorem Ti (l:List Int) (n:Int) (h:l.length<=1048576) (hn:0<=n):∃c,wI (l,n)=some c/\jG c:=by
 obtain⟨⟨l',i',k'⟩,e,hc⟩:=ah5 l h
 simp only[wI,EX]
 rw[e]
 refine⟨_,rfl,?_,hc.2⟩
 dsimp only
 rw[XK]
 unfold bj aa
 omega
end Go.Am
end
section
namespace Go.Am
def WX (x:Int×bJ×bJ):Prop:=cY x.1/\nC x.2.1/\nC x.2.2/\(x.2.1.1*x.2.2.1<=4096/\x.2.1.2.1*x.2.2.2.1<=4096)/\(x.2.1.1*x.2.2.1)*(x.2.1.2.1*x.2.2.2.1)<=1048576/\dR x.1 x.2.1.2.2/\dR x.1 x.2.2.2.2
instance (x:Int×bJ×bJ):Decidable (WX x):=by unfold WX;infer_instance
section
variable {p:Int} {r c s d:Nat} {A B:aL}
end
section
variable {p:Int} {n m:Nat} {a b a2 b2:List Int} {ms ms2:List bJ}
end
end Go.Am
end
section
namespace Go.Am
end Go.Am
end
section
namespace Go.Am
def cS (om:Bool) (w:Nat) (x y:Nat->Int) (t:Nat):Int:=sm w (fun i=>sm w (fun j=>kW om x y t i j))
def pc (x y:Nat->Int) (t:Nat):Int:=sm (t+1) (fun i=>x i*y (t - i))
theorem nL:∀(n:Nat) {f:Nat->Int},(∀i,i<n->f i=0)->sm n f=0
 |0,_,_=>rfl
 |n+1,f,h=>by simp only[sm];rw[nL n (fun i hi=>h i (by omega)),h n (by omega)];rfl
theorem oM {a:Nat} {f:Nat->Int}:∀(n:Nat),a<n->(∀i,i<n->i≠a->f i=0)->sm n f=f a
 |0,h,_=>by omega
 |n+1,h,hf=>by
  simp only[sm]
  by_cases e:a=n
  ·subst e
   rw[nL a (fun i hi=>hf i (by omega) (by omega))];omega
  ·rw[oM n (by omega) (fun i hi aw=>hf i (by omega) aw),hf n (by omega) (by omega)];omega
theorem Za {m:Nat} {f:Nat->Int}:∀(n:Nat),m<=n->(∀i,i<n->m<=i->f i=0)->sm n f=sm m f
 |0,h,_=>by rw[show m=0 by omega]
 |n+1,h,hf=>by
  by_cases e:m=n+1
  ·rw[e]
  ·simp only[sm]
   rw[Za n (by omega) (fun i hi hm=>hf i (by omega) hm),hf n (by omega) (by omega)];omega
theorem j3 {p:Int} {f g:Nat->Int}:∀{n:Nat},(∀i,i<n->f i%p=g i%p)->sm n f%p=sm n g%p
 |0,_=>rfl
 |n+1,h=>by simp only[sm];rw[Int.add_emod,j3 (n:=n) (fun i hi=>h i (by omega)),h n (by omega),<-Int.add_emod]
theorem B0 {w t:Nat} (x y:Nat->Int) (h:t<w):cS false w x y t=pc x y t:=by
 have eo:∀i,i<w->sm w (fun j=>kW false x y t i j)=if i<=t then x i*y (t - i) else 0:=by
  intro i hi
  split
  ·rename_i u9
   rw[oM (a:=t - i) w (by omega) (fun j hj aw=>by unfold kW;rw[if_neg (by omega),if_neg (by simp)])]
   unfold kW
   rw[if_pos (by omega)]
  ·exact nL w fun j hj=>by unfold kW;rw[if_neg (by omega),if_neg (by simp)]
 unfold cS pc
 rw[dP eo,Za (m:=t+1) w (by omega) (fun i hi hm=>if_neg (by omega))]
 exact dP fun i hi=>if_pos (by omega)
theorem ah1 {p a b:Int} (eE:a%p=b%p):(-a)%p=(-b)%p:=by
 have:(0 - a)%p=(0 - b)%p:=by rw[Int.sub_emod,eE,<-Int.sub_emod]
 simpa using this
theorem Tu {om:Bool} {w t:Nat} {p:Int} {x x' y y':Nat->Int} (hx:∀i,i<w->x i%p=x' i%p) (hy:∀i,i<w->y i%p=y' i%p):cS om w x y t%p=cS om w x' y' t%p:=by
 refine j3 fun i hi=>j3 fun j hj=>?_
 have hm:(x i*y j)%p=(x' i*y' j)%p:=by rw[Int.mul_emod,hx i hi,hy j hj,<-Int.mul_emod]
 unfold kW
 split
 ·exact hm
 ·split
  ·exact ah1 hm
  ·rfl
theorem J6 {om:Bool} {w t:Nat} {x x' y y':Nat->Int} (hx:∀i,i<w->x i=x' i) (hy:∀i,i<w->y i=y' i):cS om w x y t=cS om w x' y' t:=
 dP fun i hi=>dP fun j hj=>by unfold kW;rw[hx i hi,hy j hj]
theorem aiO (x y z:Nat->Int) {t:Nat} (h:t<6):pc (pc x y) z t=pc x (pc y z) t:=by
 match t,h with
 |0,_=>simp only[pc,sm,Nat.reduceSub,Nat.reduceAdd,Nat.zero_add];try grind
 |1,_=>simp only[pc,sm,Nat.reduceSub,Nat.reduceAdd,Nat.zero_add];try grind
 |2,_=>simp only[pc,sm,Nat.reduceSub,Nat.reduceAdd,Nat.zero_add];try grind
 |3,_=>simp only[pc,sm,Nat.reduceSub,Nat.reduceAdd,Nat.zero_add];try grind
 |4,_=>simp only[pc,sm,Nat.reduceSub,Nat.reduceAdd,Nat.zero_add];try grind
 |5,_=>simp only[pc,sm,Nat.reduceSub,Nat.reduceAdd,Nat.zero_add];try grind
theorem wY (x y:Nat->Int):cS true 4 x y 0=x 0*y 0 - x 1*y 3 - x 2*y 2 - x 3*y 1:=by simp[cS,sm,kW];grind
theorem wZ (x y:Nat->Int):cS true 4 x y 1=x 0*y 1+x 1*y 0 - x 2*y 3 - x 3*y 2:=by simp[cS,sm,kW];grind
theorem w4 (x y:Nat->Int):cS true 4 x y 2=x 0*y 2+x 1*y 1+x 2*y 0 - x 3*y 3:=by simp[cS,sm,kW];grind
theorem w5 (x y:Nat->Int):cS true 4 x y 3=x 0*y 3+x 1*y 2+x 2*y 1+x 3*y 0:=by simp[cS,sm,kW]
theorem aaZ (x y z:Nat->Int) {t:Nat} (h:t<4):cS true 4 (cS true 4 x y) z t=cS true 4 x (cS true 4 y z) t:=by
 match t,h with
 |0,_=>rw[wY,wY];simp only[wY,wZ,w4,w5];grind
 |1,_=>rw[wZ,wZ];simp only[wY,wZ,w4,w5];grind
 |2,_=>rw[w4,w4];simp only[wY,wZ,w4,w5];grind
 |3,_=>rw[w5,w5];simp only[wY,wZ,w4,w5];grind
theorem aaH {k p:Int} {w:Nat} (c:Jo k p w) (x y z:Nat->Int) {t:Nat} (h:t<w):cS (decide (k=8)) w (cS (decide (k=8)) w x y) z t=cS (decide (k=8)) w x (cS (decide (k=8)) w y z) t:=by
 by_cases h8:k=8
 ·obtain rfl:=c.w8 h8
  rw[decide_eq_true h8]
  exact aaZ x y z h
 ·rw[decide_eq_false h8]
  have h6:=c.cw
  rw[J6 (x':=pc x y) (y':=z) (fun i hi=>B0 x y hi) (fun _ _=>rfl),B0 _ _ h,J6 (x':=x) (y':=pc y z) (fun _ _=>rfl) (fun i hi=>B0 y z hi),B0 _ _ h]
  exact aiO x y z (by omega)
theorem Ks (p:Int) (om:Bool) (w:Nat) (x y:Nat->Int):w7 p om w x y=iJ w fun t=>cS om w x y t%p:=rfl
theorem B9 {r:Int×Int×Int} (h:r.1=7\/r.1=8) (x y:List Int):vM r x y=w7 r.2.1 (decide (r.1=8)) (eC r) (aQ x) (aQ y):=if_pos h
theorem XL {a b c p:Int} (hp:0<=p) (ha:0<=a) (hb:0<=b) (hc:0<=c):min (min (a*b) p*c) p=min (a*b*c) p:=by
 generalize hm:a*b=m
 by_cases h:m<=p
 ·rw[show min m p=m by omega]
 ·rw[show min m p=p by omega]
  by_cases h0:c=0
  ·subst h0;simp
  ·have h1:p*1<=p*c:=Int.mul_le_mul_of_nonneg_left (by omega) hp
   have h2:p*c<=m*c:=Int.mul_le_mul_of_nonneg_right (by omega) hc
   omega
theorem Z5 {r:Int×Int×Int} (hk:¬(r.1=7\/r.1=8)):eC r=1:=by
 obtain⟨k,p,n⟩:=r
 simp only at hk
 simp only[eC,rh]
 rw[if_neg (by omega),if_neg (by omega)]
 rfl
theorem aih {r:Int×Int×Int} (hr:v5 r=true) (hk:¬(r.1=7\/r.1=8)) {a b c:Int} (ha:0<=a/\a<=jc r) (hb:0<=b/\b<=jc r) (hc:0<=c/\c<=jc r):oC r (oC r a b) c=oC r a (oC r b c):=by
 obtain⟨k,p,n⟩:=r
 simp only at hk
 rcases Io hr with⟨rfl,rfl,rfl⟩|⟨rfl,hp,rfl⟩|⟨rfl,hp,rfl⟩|⟨rfl,hp,rfl⟩|⟨rfl,hp,rfl⟩|⟨rfl,rfl,hn⟩|⟨rfl,hp,hn⟩|⟨rfl,hp,tz,rfl⟩
 ·have o:∀u v,oC (1,0,0) u v=((u.toNat&&&v.toNat:Nat):Int):=fun _ _=>rfl
  rw[o,o,o,o,Int.toNat_natCast,Int.toNat_natCast,Nat.and_assoc]
 ·have o:∀u v,oC (2,p,0) u v=u*v%p:=fun _ _=>rfl
  rw[o,o,o,o,Int.mul_emod,Int.emod_emod,<-Int.mul_emod,Int.mul_emod a,Int.emod_emod,<-Int.mul_emod,Int.mul_assoc]
 ·have o:∀u v,oC (3,p,0) u v=min (u*v) p:=fun _ _=>rfl
  rw[o,o,o,o,XL (by omega) ha.1 hb.1 hc.1,Int.mul_comm a (min _ _),XL (by omega) hb.1 hc.1 ha.1,Int.mul_assoc a b c,Int.mul_comm a]
 ·have o:∀u v,oC (4,p,0) u v=min (u+v) p:=fun _ _=>rfl
  rw[o,o,o,o];omega
 ·have o:∀u v,oC (5,p,0) u v=min u v:=fun _ _=>rfl
  rw[o,o,o,o];omega
 ·have o:∀u v,oC (6,0,n) u v=((u.toNat&&&v.toNat:Nat):Int):=fun _ _=>rfl
  rw[o,o,o,o,Int.toNat_natCast,Int.toNat_natCast,Nat.and_assoc]
 ·omega
 ·omega
theorem mul_assoc {r:Int×Int×Int} {x y z:List Int} (hr:v5 r=true) (hx:qp r x=true) (hy:qp r y=true) (hz:qp r z=true):vM r (vM r x y) z=vM r x (vM r y z):=by
 by_cases hk:r.1=7\/r.1=8
 ·obtain⟨k,p,n⟩:=r
  have c:=Tw hr hk
  rw[B9 hk,B9 hk,B9 hk,B9 hk]
  simp only
  refine I5 fun t ht=>?_
  show cS (decide (k=8)) (eC (k,p,n)) (aQ (w7 p (decide (k=8)) (eC (k,p,n)) (aQ x) (aQ y))) (aQ z) t%p=cS (decide (k=8)) (eC (k,p,n)) (aQ x) (aQ (w7 p (decide (k=8)) (eC (k,p,n)) (aQ y) (aQ z))) t%p
  have e1:cS (decide (k=8)) (eC (k,p,n)) (aQ (w7 p (decide (k=8)) (eC (k,p,n)) (aQ x) (aQ y))) (aQ z) t%p=cS (decide (k=8)) (eC (k,p,n)) (cS (decide (k=8)) (eC (k,p,n)) (aQ x) (aQ y)) (aQ z) t%p:=
   Tu (fun i hi=>by rw[Ks,KO _ hi,Int.emod_emod]) (fun _ _=>rfl)
  have e2:cS (decide (k=8)) (eC (k,p,n)) (aQ x) (aQ (w7 p (decide (k=8)) (eC (k,p,n)) (aQ y) (aQ z))) t%p=cS (decide (k=8)) (eC (k,p,n)) (aQ x) (cS (decide (k=8)) (eC (k,p,n)) (aQ y) (aQ z)) t%p:=
   Tu (fun _ _=>rfl) (fun i hi=>by rw[Ks,KO _ hi,Int.emod_emod])
  rw[e1,e2,aaH c _ _ _ ht]
 ·have hw:=Z5 hk
  obtain⟨a,b,rfl,rfl,ha,hb⟩:=T9 hx hy hw
  obtain⟨_,c,e,rfl,_,hc⟩:=T9 hx hz hw
  rw[Dr hk,Dr hk,Dr hk,Dr hk,aih hr hk ha hb hc]
theorem acz {k p n:Int} (hk:k=7\/k=8) {j:Nat} (hj:j<eC (k,p,n)):aQ (AX (k,p,n)) j=if j=0 then 1 else 0:=by
 rw[aie,KO _ hj,if_neg (show¬k=4 by omega),if_neg (show¬(k=5\/k=6) by omega)]
theorem aaG {k p:Int} {w:Nat} (c:Jo k p w) (u:Nat->Int) (v:Int) {t:Nat} (h:t<w):cS (decide (k=8)) w u (fun j=>if j=0 then v else 0) t=u t*v:=by
 by_cases h8:k=8
 ·obtain rfl:=c.w8 h8
  rw[decide_eq_true h8]
  match t,h with
  |0,_=>rw[wY];simp
  |1,_=>rw[wZ];simp
  |2,_=>rw[w4];simp
  |3,_=>rw[w5];simp
 ·rw[decide_eq_false h8,B0 _ _ h]
  unfold pc
  rw[oM (a:=t) (t+1) (by omega) (fun i hi aw=>by simp only;rw[if_neg (by omega),Int.mul_zero])]
  simp only
  rw[if_pos (by omega)]
theorem aii {k p n:Int} (hr:v5 (k,p,n)=true) (hk:¬(k=7\/k=8)) {a:Int} (ha:0<=a/\a<=jc (k,p,n)):oC (k,p,n) a (if k=4 then 0 else if k=5\/k=6 then jc (k,p,n) else 1)=a:=by
 rcases Io hr with⟨rfl,rfl,rfl⟩|⟨rfl,hp,rfl⟩|⟨rfl,hp,rfl⟩|⟨rfl,hp,rfl⟩|⟨rfl,hp,rfl⟩|⟨rfl,rfl,hn⟩|⟨rfl,hp,hn⟩|⟨rfl,hp,tz,rfl⟩
 ·have e:jc (1,0,0)=1:=rfl
  have h1:a=0\/a=1:=by omega
  rcases h1 with rfl|rfl<;>decide
 ·have e:jc (2,p,0)=p - 1:=rfl
  have:=jS hp
  show a*1%p=a
  rw[Int.mul_one,Int.emod_eq_of_lt (by omega) (by omega)]
 ·have e:jc (3,p,0)=p:=rfl
  show min (a*1) p=a
  omega
 ·have e:jc (4,p,0)=p:=rfl
  show min (a+0) p=a
  omega
 ·have e:jc (5,p,0)=p:=rfl
  show min a p=a
  omega
 ·have e:jc (6,0,n)=2^n.toNat - 1:=rfl
  have e2:(((2:Nat)^n.toNat:Nat):Int)=(2:Int)^n.toNat:=by push_cast;rfl
  show((a.toNat&&&(2^n.toNat - 1:Int).toNat:Nat):Int)=a
  rw[show(2^n.toNat - 1:Int).toNat=2^n.toNat - 1 by omega,Nat.and_two_pow_sub_one_eq_mod,Nat.mod_eq_of_lt (by omega)]
  omega
 ·omega
 ·omega
theorem mul_one {r:Int×Int×Int} {x:List Int} (hr:v5 r=true) (hx:qp r x=true):vM r x (AX r)=x:=by
 obtain⟨k,p,n⟩:=r
 by_cases hk:k=7\/k=8
 ·have c:=Tw hr hk
  rw[B9 hk,Ks]
  simp only
  have hT:jc (k,p,n)=p - 1:=by
   simp only[jc]
   rw[if_neg (by omega),if_neg (by omega),if_neg (by omega)]
  refine(I5 fun t ht=>?_).trans (akT (T8 hx))
  rw[J6 (x':=aQ x) (y':=fun j=>if j=0 then 1 else 0) (fun _ _=>rfl) (fun i hi=>acz hk hi),aaG c _ _ ht,Int.mul_one]
  have:=T7 hx ht
  rw[hT] at this
  exact Int.emod_eq_of_lt this.1 (by omega)
 ·have hw:=Z5 (r:=(k,p,n)) hk
  obtain⟨e,ha⟩:=Ce hx hw
  have e1:AX (k,p,n)=[if k=4 then 0 else if k=5\/k=6 then jc (k,p,n) else 1]:=by simp only[AX];exact aji hw
  rw[e,e1,Dr hk,aii hr hk ha]
end Go.Am
end
section
namespace Go.Am
theorem Cc (p:Int) (f g:Nat->Int):∀n,jJ p f g n=sm n (fun t=>f t*g t)%p
 |0=>by simp[jJ,sm]
 |n+1=>by simp only[jJ,sm];rw[Cc p f g n,Int.emod_add_emod]
theorem ue (n:Nat) (f:Nat->Int):∀m,sm (n+m) f=sm n f+sm m (fun t=>f (n+t))
 |0=>by simp[sm]
 |m+1=>by rw[<-Nat.add_assoc];simp only[sm];rw[ue n f m];omega
theorem q9 (c:Int) (f:Nat->Int):∀n,sm n (fun t=>c*f t)=c*sm n f
 |0=>by simp[sm]
 |n+1=>by simp only[sm];rw[q9 c f n,Int.mul_add]
theorem yD (c:Int) (f:Nat->Int) (n:Nat):sm n (fun t=>f t*c)=sm n f*c:=by
 rw[Int.mul_comm,<-q9]
 exact dP fun i _=>Int.mul_comm _ _
theorem IH (f g:Nat->Int):∀n,sm n (fun t=>f t+g t)=sm n f+sm n g
 |0=>by simp[sm]
 |n+1=>by simp only[sm];rw[IH f g n];omega
theorem yE (f:Nat->Nat->Int) (m:Nat):∀n,sm n (fun i=>sm m (fun j=>f i j))=sm m (fun j=>sm n (fun i=>f i j))
 |0=>by simp only[sm];exact(nL m fun _ _=>rfl).symm
 |n+1=>by simp only[sm];rw[yE f m n,<-IH]
theorem I2 (p:Int) (n:Nat) (ms:List bJ) (v:List Int) (c:Int):lD p n ms v c=iJ n (fun j=>sm n (fun t=>aQ v t*stM n ms c.toNat t j)%p):=by
 unfold lD ao iJ
 rw[Nat.one_mul]
 refine List.map_congr_left fun j hj=>?_
 have hj:=List.mem_range.1 hj
 rw[Nat.div_eq_of_lt hj,Nat.mod_eq_of_lt hj]
 unfold e9
 rw[Cc]
 congr 1
 refine dP fun t _=>?_
 unfold aS aQ stM aS
 rw[Nat.zero_mul,Nat.zero_add]
theorem akS (n m:Nat) (f:Nat->Int):iJ (n+m) f=iJ n f++iJ m (fun j=>f (n+j)):=by
 unfold iJ
 rw[List.range_add,List.map_append,List.map_map]
 rfl
theorem KM {x y:List Int} {t:Nat} (h:t<x.length):aQ (x++y) t=aQ x t:=by
 unfold aQ
 rw[List.getD_eq_getElem?_getD,List.getD_eq_getElem?_getD,List.getElem?_append_left h]
theorem KN {x y:List Int} {n t:Nat} (h:x.length=n):aQ (x++y) (n+t)=aQ y t:=by
 unfold aQ
 rw[List.getD_eq_getElem?_getD,List.getD_eq_getElem?_getD,List.getElem?_append_right (by omega)]
 congr 2
 omega
theorem acA {n j:Nat} (f:Nat->Int) (h:j<n):aQ (iJ n f) j=f j:=by
 unfold aQ iJ
 rw[List.getD_eq_getElem?_getD,List.getElem?_map,List.getElem?_range h]
 rfl
theorem IY {n m k:Nat} {ms ms2:List bJ} {c i j:Nat} (hc:c<k) (hi:i<n+m) (hj:j<n+m):stM (n+m) (d9 n m ms ms2 k) c i j=nM n (stM n ms c) (stM m ms2 c) i j:=by
 have e:stM (n+m) (d9 n m ms ms2 k) c=aS (n+m) (ao (n+m) (n+m) (nM n (stM n ms c) (stM m ms2 c))):=by
  conv=>lhs;unfold stM
  congr 1
  unfold d9
  rw[List.getD_eq_getElem?_getD,List.getElem?_map,List.getElem?_range hc]
  rfl
 rw[e,mS _ hi hj]
theorem akw {p:Int} {n m k:Nat} {ms ms2:List bJ} {s t:List Int} {c:Int} (hs:s.length=n) (ht:t.length=m) (hc:c.toNat<k):
  lD p (n+m) (d9 n m ms ms2 k) (s++t) c=lD p n ms s c++lD p m ms2 t c:=by
 rw[I2,I2,I2,akS]
 congr 1
 ·refine I5 fun j hj=>?_
  congr 1
  rw[ue]
  rw[nL m (f:=fun u=>aQ (s++t) (n+u)*stM (n+m) (d9 n m ms ms2 k) c.toNat (n+u) j) (fun u hu=>by
   rw[IY hc (by omega) (by omega)]
   unfold nM
   rw[if_neg (by omega),if_neg (by omega),Int.mul_zero]),Int.add_zero]
  refine dP fun u hu=>?_
  rw[IY hc (by omega) (by omega),KM (by omega)]
  unfold nM
  rw[if_pos (by omega)]
 ·refine I5 fun j hj=>?_
  congr 1
  rw[ue]
  rw[nL n (f:=fun u=>aQ (s++t) u*stM (n+m) (d9 n m ms ms2 k) c.toNat u (n+j)) (fun u hu=>by
   rw[IY hc (by omega) (by omega)]
   unfold nM
   rw[if_neg (by omega),if_neg (by omega),Int.mul_zero]),Int.zero_add]
  refine dP fun u hu=>?_
  rw[IY hc (by omega) (by omega),KN hs]
  unfold nM
  rw[if_neg (by omega),if_pos (by omega),Nat.add_sub_cancel_left,Nat.add_sub_cancel_left]
theorem PE {p:Int} {n m k:Nat} {ms ms2:List bJ}:∀(w s t:List Int),s.length=n->t.length=m->(∀c∈w,c.toNat<k)->
  bA p (n+m) (d9 n m ms ms2 k) (s++t) w=bA p n ms s w++bA p m ms2 t w
 |[],_,_,_,_,_=>rfl
 |c::w,s,t,hs,ht,hw=>by
  unfold bA
  simp only[List.foldl_cons]
  rw[akw hs ht (hw c (by simp))]
  exact PE w _ _ I1 I1 fun c hc=>hw c (by simp[hc])
theorem rH (p:Int) (x y:List Int):nX p x y=sm x.length (fun t=>aQ x t*aQ y t)%p:=by
 unfold nX
 rw[Cc]
 rfl
theorem T5 {p:Int} {x y b c:List Int} (h:x.length=b.length):nX p (x++y) (b++c)=(nX p x b+nX p y c)%p:=by
 rw[rH,rH,rH,List.length_append,ue,<-Int.add_emod]
 congr 2
 ·exact dP fun t ht=>by rw[KM ht,KM (by omega)]
 ·exact dP fun t ht=>by rw[KN rfl,KN h.symm]
theorem Z4 {p:Int} {n m:Nat} {a b a2 b2:List Int} {ms ms2:List bJ} (H:cM p n a ms b) (H2:cM p m a2 ms2 b2) {w:List Int} (hw:fe ms.length w):
  dH ((p,((n+m:Nat):Int),a++a2,d9 n m ms ms2 ms.length,b++b2),w)=(dH ((p,(n:Int),a,ms,b),w)+dH ((p,(m:Int),a2,ms2,b2),w))%p:=by
 unfold dH
 simp only[Int.toNat_natCast]
 rw[PE w a a2 H.al H2.al (fun c hc=>by have:=hw c hc;omega)]
 exact T5 (by rw[(pM H.p w a H.al H.ap).1,H.bl])
theorem sZ {p:Int} {n:Nat} {a b:List Int} {ms:List bJ} (H:cM p n a ms b):fD (p,(n:Int),a,ms,b)=true:=by
 have hp:=H.p
 have hn:=H.hn
 simp only[fD,Bool.and_eq_true,decide_eq_true_eq]
 refine⟨H.pr,⟨by omega,by omega⟩,⟨qX.2 H.ap,by rw[H.al]⟩,⟨qX.2 H.bp,by rw[H.bl]⟩,⟨H.l1,H.l4⟩,List.all_eq_true.2 fun x hx=>?_⟩
 obtain⟨M,rfl,hM⟩:=H.hm x hx
 simp only[yg,tT,Bool.and_eq_true,decide_eq_true_eq]
 exact⟨⟨H.pr,⟨by omega,by omega⟩,⟨by omega,by omega⟩,by rw[fW];push_cast;rfl,qX.2 (hH.2 hM)⟩,trivial,trivial⟩
theorem ZB {α:Type} (f:α->Nat) (B:Nat):∀(l:List α),(∀x∈l,f x<=B)->(l.map f).sum<=B*l.length
 |[],_=>by simp
 |x::l,h=>by
  rw[List.map_cons,List.sum_cons,List.length_cons,Nat.mul_succ]
  have:=h x (by simp)
  have:=ZB f B l fun y hy=>h y (by simp[hy])
  omega
theorem ry {p:Int} {n:Nat} {a b:List Int} {ms:List bJ} (H:cM p n a ms b):p9 (p,(n:Int),a,ms,b)<=1000:=by
 have h1:yM ms<=4+144*4:=by
  unfold yM
  have:=ZB Bv 144 ms fun x hx=>by
   obtain⟨M,rfl,_⟩:=H.hm x hx
   show(ao n n M).length<=144
   rw[fW]
   exact Nat.mul_le_mul H.hn H.hn
  have:=H.l4
  have:144*ms.length<=144*4:=Nat.mul_le_mul_left _ H.l4
  omega
 show a.length+yM ms+b.length<=1000
 have:=H.al
 have:=H.bl
 have:=H.hn
 omega
theorem Tm {p:Int} {n m:Nat} {a b a2 b2:List Int} {ms ms2:List bJ} (H:cM p n a ms b) (H2:cM p m a2 ms2 b2) (VE:n+m<=12) (hl:ms.length=ms2.length):cM p (n+m) (a++a2) (d9 n m ms ms2 ms.length) (b++b2):=by
 have hp:=H.p
 refine⟨H.pr,VE,by rw[List.length_append,H.al,H2.al],?_,by rw[List.length_append,H.bl,H2.bl],?_,by rw[oN];exact H.l1,by rw[oN];exact H.l4,?_⟩
 ·intro x hx
  rcases List.mem_append.1 hx with h|h
  ·exact H.ap x h
  ·exact H2.ap x h
 ·intro x hx
  rcases List.mem_append.1 hx with h|h
  ·exact H.bp x h
  ·exact H2.bp x h
 ·intro x hx
  obtain⟨c,hc,rfl⟩:=List.mem_map.1 hx
  have hc:=List.mem_range.1 hc
  refine⟨_,rfl,?_⟩
  have h1:=(Br H hc).2
  have h2:=(Br H2 (k:=c) (by omega)).2
  intro i hi j hj
  unfold nM
  split
  ·rename_i h;exact h1 i h.1 j h.2
  ·split
   ·rename_i h;exact h2 _ (by omega) _ (by omega)
   ·exact⟨Int.le_refl _,by have:=hp.1;omega⟩
theorem JS {p:Int} {n m:Nat} {a b a2 b2:List Int} {ms ms2:List bJ} (H:cM p n a ms b) (H2:cM p m a2 ms2 b2) (hl:ms.length=ms2.length):oS (p,(n:Int),a,ms,b) (p,(m:Int),a2,ms2,b2)=true:=by
 simp only[oS,Bool.and_eq_true,decide_eq_true_eq]
 exact⟨sZ H,sZ H2,trivial,hl⟩
theorem Z2 {p:Int} {n:Nat} {a b:List Int} {ms:List bJ} (H:cM p n a ms b) {w:List Int} (hl:w.length<=24) (hw:fe ms.length w):uu ((p,(n:Int),a,ms,b),w)=some (dH ((p,(n:Int),a,ms,b),w)):=by
 have h:=ry H
 simp only[uu,Ju]
 rw[if_pos ⟨by omega,by omega⟩,if_pos ⟨sZ H,hl,hw⟩]
theorem Z1 {p:Int} {n:Nat} {a b:List Int} {ms:List bJ} (hp:cY p) {w:List Int}:0<=dH ((p,(n:Int),a,ms,b),w)/\dH ((p,(n:Int),a,ms,b),w)<p:=by
 unfold dH
 rw[rH]
 dsimp only
 exact⟨Int.emod_nonneg _ (by have:=hp.1;omega),Int.emod_lt_of_pos _ (by have:=hp.1;omega)⟩
end Go.Am
end
section
namespace Go.Am
abbrev Wd:=List Int
def pS (p:Int) (n k:Nat) (D:List Int):Nat:=(pN (p,(k:Int),(n:Int),D)).2.1.length
def sV (p:Int) (n:Nat) (ms:List bJ) (s:List Int) (S:List Wd×List Int) (w:Wd):Bool:=decide (pS p n (S.1.length+1) (S.2++bA p n ms s w)=S.1.length+1)
def jT (t:Nat) (w:Wd):List Wd:=(List.range t).map fun(x:Nat)=>w++[(x:Int)]
def nO (p:Int) (n:Nat) (ms:List bJ) (s:List Int):Nat->List Wd×List Int->List Wd->List Wd×List Int
 |0,S,_=>S
 |_+1,S,[]=>S
 |f+1,S,w::q=>if sV p n ms s S w=true then nO p n ms s f (S.1++[w],S.2++bA p n ms s w) (q++jT ms.length w) else nO p n ms s f S q
def cZ (x:bz):List Wd×List Int:=nO x.1 x.2.1.toNat x.2.2.2.1 x.2.2.1 128 ([],[]) [[]]
def Ih (x:bz):Option (List (List Int)×Int×Int×List Int):=if uI x=true then some ((cZ x).1,((cZ x).1.length:Int),x.2.1,(cZ x).2) else none
def rn:bz->Option (List (List Int)×Int×Int×List Int):=Ih
def Fs:av:=[(.agg,[.int .i64,.int .i64,.list [.int .i64],.list [.int .i64,.int .i64,.list [.int .i64]],.list [.int .i64]])]
def Qb:av:=[(.one,[.list [.list [.int .i64]]]),(.agg,[.int .i64,.int .i64,.list [.int .i64]])]
def agV:bo:=[[some .aA]]
def EI (NN:Nat):(Int×(Int×((List Int)×((List (Int×(Int×(List Int))))×(List Int)))))->(Option ((List (List Int))×(Int×(Int×(List Int))))):=
 (fun((i0,i1,l2,l3,l4):(Int×(Int×((List Int)×((List (Int×(Int×(List Int))))×(List Int))))))=>
 (qf ((0:Int),i1)).ab (fun(i5,i6,l7)=>
 cT ((af 0 0 (aa (([]:List (List Int))))).ab (fun _=>
 (af 0 1 (aa ((([]:List Int)::([]:List (List Int)))))).ab (fun _=>
 (af 0 0 (aa (([]:List Int)))).ab (fun _=>
 (af 0 (aa l7) (aa l7)).ab (fun _=>
 bQ NN (fun(((i8,i9,jU,lp,ij),(dX,iF),(jr,dA),dw,fG,f8,e8):((Int×(Int×((List Int)×((List (Int×(Int×(List Int))))×(List Int)))))×((Int×Int)×((Int×Int)×((List Int)×((List Int)×((List (List Int))×(List (List Int)))))))))=>
 aY (cr (0:Int) (bj (aa e8)))
 ((jH (0:Int) (aa e8)).ab (fun k21=>
 (gA e8 (bF 0 k21)).ab (fun dm=>
 (af 0 (aa e8) (aa e8)).ab (fun _=>
 (ud (1:Int) (bj (aa e8)) (aa e8)).ab (fun(HB,Ak)=>
 (cv fG 0 (aa fG)).ab (fun dz=>
 (ix dz).ab (fun cP=>
 (sR ((i8,i9,jU,lp,ij),dm)).ab (fun nB=>
 (af 0 (aa cP) (aa cP)).ab (fun _=>
 (cv nB 0 (aa nB)).ab (fun jw=>
 (lK (bF (aa cP) (aa jw)) 8).ab (fun _=>
 (cv (dg cP jw) 0 (bF (aa cP) (aa jw))).ab (fun fO=>
 (uv (i8,bS .i64 jr 1,i9,fO)).ab (fun((lb,ju,eJ),fo)=>
 aY (cr (bj (aa fo)) (bS .i64 jr 1))
 ((af 0 (aa f8) (aa f8)).ab (fun _=>
 (af 0 Ak (aa (sF e8 HB Ak))).ab (fun _=>
 (af 0 (aa dw) (aa dw)).ab (fun _=>
 (af 0 (aa fG) (aa fG)).ab (fun _=>
 some (Sum.inl ((i8,i9,jU,lp,ij),(dX,iF),(jr,dA),dw,fG,f8,sF e8 HB Ak)))))))
 ((af 0 (aa f8) (aa f8)).ab (fun _=>
 (af 0 1 (aa ((dm::([]:List (List Int)))))).ab (fun _=>
 (lK (bF (aa f8) (aa ((dm::([]:List (List Int)))))) 24).ab (fun _=>
 (af 0 (bF (aa f8) (aa ((dm::([]:List (List Int)))))) (aa (dg f8 ((dm::([]:List (List Int))))))).ab (fun _=>
 (af 0 Ak (aa (sF e8 HB Ak))).ab (fun _=>
 (af 0 (aa dw) (aa dw)).ab (fun _=>
 (af 0 (bF (aa cP) (aa jw)) (aa (dg cP jw))).ab (fun _=>
 bQ NN (fun(((lr,fN,iH),(lf,lR,iV,fy,lv),(iS,kv),(jv,lS),kz,tQ,jW,fP):(((List Int)×(Int×Int))×((Int×(Int×((List Int)×((List (Int×(Int×(List Int))))×(List Int)))))×((Int×Int)×((Int×Int)×((List Int)×((List Int)×((List (List Int))×(List (List Int))))))))))=>
 aY (cr iH fN)
 ((ix lr).ab (fun iW=>
 (af 0 (aa iW) (aa iW)).ab (fun _=>
 (cv ((iH::([]:List Int))) 0 1).ab (fun jX=>
 (lK (bF (aa iW) (aa jX)) 8).ab (fun _=>
 (dc (dg iW jX) (bF (aa iW) (aa jX))).ab (fun iY=>
 (af 0 (aa fP) (aa fP)).ab (fun _=>
 (af 0 1 (aa ((iY::([]:List (List Int)))))).ab (fun _=>
 (lK (bF (aa fP) (aa ((iY::([]:List (List Int)))))) 24).ab (fun _=>
 (af 0 (aa jW) (aa jW)).ab (fun _=>
 (af 0 (bF (aa fP) (aa ((iY::([]:List (List Int)))))) (aa (dg fP ((iY::([]:List (List Int))))))).ab (fun _=>
 (af 0 (aa kz) (aa kz)).ab (fun _=>
 (af 0 (aa tQ) (aa tQ)).ab (fun _=>
 some (Sum.inl ((lr,fN,bS .i64 iH 1),(lf,lR,iV,fy,lv),(iS,kv),(jv,lS),kz,tQ,jW,dg fP ((iY::([]:List (List Int)))))))))))))))))))
 (((af 0 (aa jW) (aa jW)).ab (fun _=>
 (af 0 (aa fP) (aa fP)).ab (fun _=>
 (af 0 (aa kz) (aa kz)).ab (fun _=>
 (af 0 (aa tQ) (aa tQ)).ab (fun _=>
 some (Sum.inl ((lf,lR,iV,fy,lv),(iS,kv),(jv,lS),kz,tQ,jW,fP))))))).ab (fun lx=>
 some (Sum.inr lx))))
 ((dm,bj (aa lp),(0:Int)),(i8,i9,jU,lp,ij),(dX,iF),(bS .i64 jr 1,i9),dw,dg cP jw,dg f8 ((dm::([]:List (List Int)))),sF e8 HB Ak))))))))))))))))))))))
 (((af 0 (aa f8) (aa f8)).ab (fun _=>
 (af 0 (aa dw) (aa dw)).ab (fun _=>
 (af 0 (aa fG) (aa fG)).ab (fun _=>
 some (Sum.inl ((dX,iF),(jr,dA),dw,fG,f8)))))).ab (fun jY=>
 some (Sum.inr jY))))
 ((i0,i1,l2,l3,l4),((0:Int),(0:Int)),(i5,i6),([]:List Int),l7,([]:List (List Int)),(([]:List Int)::([]:List (List Int)))))))))
 (fun((C8,qO),(kw,mM),jA,AG,sq)=>
 (cv sq 0 (aa sq)).ab (fun Dm=>
 (cv AG 0 (aa AG)).ab (fun HJ=>
 some (Dm,kw,mM,HJ))))))
structure BI (p:Int) (n t:Nat) (S:List Wd×List Int) (q:List Wd):Prop where
 dl:S.2.length=S.1.length*n
 dp:dR p S.2
 kn:S.1.length<=n
 qo:∀w∈q,fe t w/\w.length<=S.1.length
 wo:∀w∈S.1,fe t w/\w.length<=n
section
variable {p:Int} {n:Nat} {s b:List Int} {ms:List bJ}
theorem Nw (t:Nat) (w:Wd):(jT t w).length=t:=by simp[jT]
theorem ZZ (m:Nat) (S:List Wd×List Int):nO p n ms s m S []=S:=by cases m<;>rfl
theorem Sz {m:Nat} {S:List Wd×List Int} {w:Wd} {q:List Wd} (h:sV p n ms s S w=true):nO p n ms s (m+1) S (w::q)=nO p n ms s m (S.1++[w],S.2++bA p n ms s w) (q++jT ms.length w):=if_pos h
theorem Sy {m:Nat} {S:List Wd×List Int} {w:Wd} {q:List Wd} (h:¬sV p n ms s S w=true):nO p n ms s (m+1) S (w::q)=nO p n ms s m S q:=if_neg h
theorem HV (H:kf p n s ms b) {S:List Wd×List Int} {w:Wd} {q:List Wd} (h:BI p n ms.length S (w::q)):
  A7 (p,((S.1.length+1:Nat):Int),(n:Int),S.2++bA p n ms s w)/\pS p n (S.1.length+1) (S.2++bA p n ms s w)<=n/\(S.2++bA p n ms s w).length=(S.1.length+1)*n/\dR p (S.2++bA p n ms s w)/\pS p n (S.1.length+1) (S.2++bA p n ms s w)<=S.1.length+1:=by
 have hn:=H.hn
 obtain⟨r1,r2⟩:=pM (n:=n) (ms:=ms) H.p w s H.al H.ap
 have hl:(S.2++bA p n ms s w).length=(S.1.length+1)*n:=by rw[List.length_append,r1,h.dl,Nat.add_mul,Nat.one_mul]
 have hp:dR p (S.2++bA p n ms s w):=fun x hx=>by
  rcases List.mem_append.1 hx with h1|h1
  ·exact h.dp x h1
  ·exact r2 x h1
 have hk:=h.kn
 have hb:(S.1.length+1)*n<=25*24:=Nat.mul_le_mul (by omega) hn
 have I:=oH (r:=S.1.length+1) (c:=n) H.p (jC hl hp) n
 refine⟨⟨H.p,⟨⟨by dsimp only;omega,by dsimp only;omega⟩,⟨by dsimp only;omega,by dsimp only;omega⟩,by dsimp only;rw[hl];push_cast;rfl,by dsimp only;omega⟩,hp⟩,?_,hl,hp,?_⟩
 ·unfold pS pN
  simp only[Int.toNat_natCast]
  exact I.lj
 ·unfold pS pN
  simp only[Int.toNat_natCast]
  exact I.l
theorem BI.no {S:List Wd×List Int} {w:Wd} {q:List Wd} (h:BI p n ms.length S (w::q)):BI p n ms.length S q:=⟨h.dl,h.dp,h.kn,fun v hv=>h.qo v (by simp[hv]),h.wo⟩
theorem BI.BH (H:kf p n s ms b) {S:List Wd×List Int} {w:Wd} {q:List Wd} (h:BI p n ms.length S (w::q)) (ha:sV p n ms s S w=true):
  BI p n ms.length (S.1++[w],S.2++bA p n ms s w) (q++jT ms.length w)/\S.1.length+1<=n:=by
 obtain⟨m1,m2,m3,m4,_⟩:=HV H h
 have hk:=of_decide_eq_true ha
 have hw:=h.qo w (by simp)
 have ib:S.1.length+1<=n:=by omega
 refine⟨⟨by dsimp only;rw[m3,List.length_append];rfl,m4,by dsimp only;rw[List.length_append];exact ib,?_,?_⟩,ib⟩
 ·intro v hv
  dsimp only
  rw[List.length_append,List.length_singleton]
  rcases List.mem_append.1 hv with h1|h1
  ·have:=h.qo v (by simp[h1])
   exact⟨this.1,by omega⟩
  ·obtain⟨x,hx,rfl⟩:=List.mem_map.1 h1
   have hx:=List.mem_range.1 hx
   refine⟨fun c hc=>?_,by rw[List.length_append,List.length_singleton];omega⟩
   rcases List.mem_append.1 hc with h2|h2
   ·exact hw.1 c h2
   ·rw[List.mem_singleton] at h2;subst h2;exact⟨by omega,by omega⟩
 ·intro v hv
  rcases List.mem_append.1 hv with h1|h1
  ·exact h.wo v h1
  ·rw[List.mem_singleton] at h1;subst h1;exact⟨hw.1,by omega⟩
theorem XO {k t m q:Nat} (hk:k+1<=n) (h:(n - k)*t+(q+1)<=m+1):(n - (k+1))*t+(q+t)<=m:=by
 have e:n - k=n - (k+1)+1:=by omega
 rw[e,Nat.add_mul,Nat.one_mul] at h
 omega
end
theorem akW {α:Type} {l:List α} {n:Nat} (h:n=l.length):dc l n=some l:=by subst h;unfold dc;rw[if_pos (Nat.le_refl _),List.take_length]
theorem afK (t:Nat) (w:Wd):jT t w++[w++[(t:Int)]]=jT (t+1) w:=by unfold jT;rw[List.range_succ,List.map_append];rfl
theorem aj8 {α:Type} (w:α) (q:List α):sF (w::q) 1 q.length=q:=by unfold sF;rw[List.drop_succ_cons,List.drop_zero,List.take_length]
section
variable {p:Int} {n:Nat} {s b:List Int} {ms:List bJ}
theorem acJ (H:kf p n s ms b):EI aN (p,(n:Int),s,ms,b)=Ih (p,(n:Int),s,ms,b):=by
 have hp:=H.p
 have hn:=H.hn
 have ht4:=H.l4
 have zR:eK=140737488355328:=rfl
 unfold Ih
 rw[if_pos (BX H)]
 simp only[EI]
 rw[show qf ((0:Int),(n:Int))=some ((0:Int),(n:Int),ao 0 n fun _ _=>0) from AR (r:=0) (by omega) (by omega) (by omega)]
 simp only[az,uU,cm]
 rw[show ao 0 n (fun _ _=>0)=[] by unfold ao;rw[Nat.zero_mul];rfl,show af 0 1 (aa [([]:List Int)])=some () from rfl]
 simp only[az]
 obtain⟨R,hR⟩:∃R,cZ (p,(n:Int),s,ms,b)=R:=⟨_,rfl⟩
 have hR':nO p n ms s 128 ([],[]) [[]]=R:=by rw[<-hR];unfold cZ;simp only[Int.toNat_natCast]
 rw[hR]
 rw[Xx (r:=Sum.inl ((0,0),((R.1.length:Int),(n:Int)),[],R.2,R.1))
  (fun m x=>∃(S:List Wd×List Int) (q:List Wd),x=((p,(n:Int),s,ms,b),((0:Int),(0:Int)),((S.1.length:Int),(n:Int)),([]:List Int),S.2,S.1,q)/\BI p n ms.length S q/\(n - S.1.length)*ms.length+q.length<=m/\m<=128/\nO p n ms s m S q=R) ?a1 128 _ ?a0 aN (dQ (by omega))]
 ·simp only[cT,Option.bind,iv,Option.ab]
 case a0=>
  exact⟨([],[]),[[]],rfl,⟨by simp,fun x hx=>absurd hx (by simp),Nat.zero_le _,fun w hw=>by rw[List.mem_singleton] at hw;subst hw;exact⟨fun c hc=>absurd hc (by simp),Nat.zero_le _⟩,fun w hw=>absurd hw (by simp)⟩,by
   have:n*ms.length<=24*4:=Nat.mul_le_mul hn ht4
   simp only[List.length_nil,List.length_singleton,Nat.sub_zero];omega,Nat.le_refl _,hR'⟩
 case a1=>
  rintro m x ⟨S,q,rfl,hB,qD,hm,bK⟩
  dsimp only
  cases q with
  |nil=>
   left
   rw[ZZ] at bK
   subst bK
   rw[bG (eU (by unfold bj aa;simp))]
   try simp only[cm,uU,az]
  |cons w q=>
   right
   obtain⟨m,rfl⟩:∃k,m=k+1:=⟨m - 1,by simp only[List.length_cons] at qD;omega⟩
   simp only[List.length_cons] at qD
   have hw:=hB.qo w (by simp)
   have ib:=hB.kn
   obtain⟨k1,k2,k3,k4,k5⟩:=HV H hB
   have hb:S.1.length*n<=24*24:=Nat.mul_le_mul (by omega) hn
   have Ml:=(pM (n:=n) (ms:=ms) hp w s H.al H.ap).1
   rw[bH (eV (by unfold bj aa;simp only[List.length_cons];omega))]
   rw[show jH (0:Int) (aa (w::q))=some 0 from wV (i:=0) (by unfold aa;simp)]
   simp only[az,y9]
   rw[show gA (w::q) 0=some w from rfl]
   simp only[az,cm]
   rw[show ud (1:Int) (bj (aa (w::q))) (aa (w::q))=some (1,q.length) by
    unfold ud bj aa
    rw[if_pos ⟨by decide,by simp only[List.length_cons];omega,Int.le_refl _⟩]
    congr 2
    simp only[List.length_cons];omega]
   simp only[az,iv]
   rw[show ix S.2=some S.2 from if_pos (by rw[hB.dl];omega)]
   simp only[az,cm]
   rw[show sR ((p,(n:Int),s,ms,b),w)=some (bA p n ms s w) by
    simp only[sR,Jv]
    rw[if_pos ⟨BX H,hw.1,show w.length<=1048576 by omega⟩]
    simp only[Int.toNat_natCast]]
   simp only[az,iv]
   rw[nZ (by simp only[bF,aa];rw[hB.dl,Ml];omega)]
   simp only[az]
   rw[show cv (dg S.2 (bA p n ms s w)) 0 (bF (aa S.2) (aa (bA p n ms s w)))=some (S.2++bA p n ms s w) from Jj (by simp[dg,bF,aa])]
   simp only[az]
   rw[lF (by omega) (by omega),show(S.1.length:Int)+1=((S.1.length+1:Nat):Int) by push_cast;rfl]
   rw[show uv (p,((S.1.length+1:Nat):Int),(n:Int),S.2++bA p n ms s w)=_ from if_pos k1]
   simp only[az,aj8,cm,uU]
   rw[show af 0 q.length (aa q)=some () from cm _]
   rw[show bj (aa (pN (p,((S.1.length+1:Nat):Int),(n:Int),S.2++bA p n ms s w)).2.1)=((pS p n (S.1.length+1) (S.2++bA p n ms s w):Nat):Int) from rfl]
   by_cases ha:sV p n ms s S w=true
   ·have hk:=of_decide_eq_true ha
    obtain⟨hB',adi⟩:=BI.BH H hB ha
    rw[Sz ha] at bK
    rw[bG (eU (by omega))]
    rw[show af 0 1 (aa [w])=some () from rfl]
    simp only[az,GF]
    rw[nZ (by simp only[bF,aa,List.length_singleton];omega)]
    simp only[az]
    rw[show af 0 (bF (aa S.2) (aa (bA p n ms s w))) (aa (dg S.2 (bA p n ms s w)))=some () from tf (by simp[dg,bF,aa])]
    simp only[az]
    have ads:=XO (q:=q.length) adi qD
    refine⟨m,((p,(n:Int),s,ms,b),((0:Int),(0:Int)),(((S.1++[w]).length:Int),(n:Int)),([]:List Int),S.2++bA p n ms s w,S.1++[w],q++jT ms.length w),by omega,?_,_,_,rfl,hB',?_,by omega,bK⟩
    ·refine gM (fun x=>((w,(ms.length:Int),(x:Int)),(p,(n:Int),s,ms,b),((0:Int),(0:Int)),(((S.1.length+1:Nat):Int),(n:Int)),([]:List Int),S.2++bA p n ms s w,S.1++[w],q++jT x w)) ms.length ?_ ?_ ?_ (dQ (by omega))
     ·intro x hx
      dsimp only
      rw[bH (eV (by omega))]
      rw[show ix w=some w from if_pos (by omega)]
      simp only[az,cm]
      rw[show cv [(x:Int)] 0 1=some [(x:Int)] from rfl]
      simp only[az]
      rw[nZ (by simp only[bF,aa,List.length_singleton];omega)]
      simp only[az]
      rw[show dc (dg w [(x:Int)]) (bF (aa w) (aa [(x:Int)]))=some (w++[(x:Int)]) from akW (by simp[dg,bF,aa])]
      simp only[az]
      rw[show af 0 1 (aa [w++[(x:Int)]])=some () from rfl]
      simp only[az,GF,uU]
      have G6:q.length<=128:=by
       have:=Nat.le_add_left (q.length+1) ((n - S.1.length)*ms.length)
       omega
      rw[nZ (by simp only[bF,aa,List.length_singleton,List.length_append,Nw];omega)]
      simp only[az]
      rw[lF (by omega) (by omega)]
      rw[show dg (q++jT x w) [w++[(x:Int)]]=q++jT (x+1) w by unfold dg;rw[List.append_assoc,afK]]
      rfl
     ·dsimp only
      rw[bG (eU (by omega))]
      try simp only[az,cm,uU]
      rw[List.length_append,List.length_singleton]
     ·simp[dg,jT,bj,aa]
    ·dsimp only
     rw[List.length_append,List.length_append,List.length_singleton,Nw]
     exact ads
   ·have hk:¬(pS p n (S.1.length+1) (S.2++bA p n ms s w)=S.1.length+1):=fun h=>ha (decide_eq_true h)
    rw[Sy ha] at bK
    rw[bH (eV (by omega))]
    simp only[az]
    exact⟨m,_,by omega,rfl,S,q,rfl,hB.no,by omega,by omega,bK⟩
end
theorem aca (x:bz) (z:List (List Int)×Int×Int×List Int) (h:rn x=some z):EI aN x=some z:=by
 have ho:uI x=true:=by
  unfold rn Ih at h
  split at h
  ·assumption
  ·cases h
 obtain⟨p,n,s,ms,b,rfl,H⟩:=JV ho
 rw[acJ H]
 exact h
end Go.Am
end
section
namespace Go.Am
section
variable {p:Int} {n:Nat} {s b:List Int} {ms:List bJ}
end
end Go.Am
end
section
namespace Go.Am
def jE (k:Nat) (R T:aL):aL:=fun j i=>if i<k then R i j else T (i - k) j
def j4 (p:Int) (n k t:Nat) (R T:aL):aL:=fun i q=>(pN (p,(n:Int),((k+t:Nat):Int),ao n (k+t) (jE k R T))).1 q (k+i)
def D6 (x:Int×bJ×bJ):Prop:=cY x.1/\(0<=x.2.1.1/\x.2.1.1<=x.2.1.2.1/\x.2.1.2.1<=12)/\(0<=x.2.2.1/\x.2.2.1<=12)/\x.2.2.2.1=x.2.1.2.1/\(x.2.1.2.2.length=x.2.1.1.toNat*x.2.1.2.1.toNat/\x.2.2.2.2.length=x.2.2.1.toNat*x.2.1.2.1.toNat)/\dR x.1 x.2.1.2.2/\dR x.1 x.2.2.2.2
instance (x:Int×bJ×bJ):Decidable (D6 x):=by unfold D6;infer_instance
def yG (x:Int×bJ×bJ):Option bJ:=if D6 x then some (x.2.2.1,x.2.1.1,ao x.2.2.1.toNat x.2.1.1.toNat (j4 x.1 x.2.1.2.1.toNat x.2.1.1.toNat x.2.2.1.toNat (aS x.2.1.2.1.toNat x.2.1.2.2) (aS x.2.1.2.1.toNat x.2.2.2.2))) else none
def wE:Int×bJ×bJ->Option bJ:=yG
def Fy:av:=[(.one,[.int .i64]),(.agg,[.int .i64,.int .i64,.list [.int .i64]]),(.agg,[.int .i64,.int .i64,.list [.int .i64]])]
def Qh:av:=[(.agg,[.int .i64,.int .i64,.list [.int .i64]])]
def ag1:bo:=[]
def JH (NN:Nat):(Int×((Int×(Int×(List Int)))×(Int×(Int×(List Int)))))->(Option (Int×(Int×(List Int)))):=
 (fun((i0,(i1,i2,l3),i4,i5,l6):(Int×((Int×(Int×(List Int)))×(Int×(Int×(List Int))))))=>
 (qf (i2,bS .i64 i1 i4)).ab (fun(i7,i8,l9)=>
 cT ((af 0 0 (aa (([]:List Int)))).ab (fun _=>
 (af 0 (aa l9) (aa l9)).ab (fun _=>
 bQ NN (fun(((dj,da),(c7,dX,cI),(jr,dA,dw),(eP,dY),(gG,lQ),dm,jV):((Int×Int)×((Int×(Int×(List Int)))×((Int×(Int×(List Int)))×((Int×Int)×((Int×Int)×((List Int)×(List Int))))))))=>
 aY (cr da dX)
 (cT (cT ((af 0 (aa dm) (aa dm)).ab (fun _=>
 (af 0 (aa jV) (aa jV)).ab (fun _=>
 bQ NN (fun(((iG,kt,ku),(jQ,iR,fO),(lb,ju,eJ),(pu,gH),(fN,iH),gJ,gK):((Int×(Int×Int))×((Int×(Int×(List Int)))×((Int×(Int×(List Int)))×((Int×Int)×((Int×Int)×((List Int)×(List Int))))))))=>
 aY (cr ku jQ)
 ((g9 ((jQ,iR,fO),ku,kt)).ab (fun od=>
 (af 0 (aa gK) (aa gK)).ab (fun _=>
 (kL ((fN,iH,gK),kt,ku,od)).ab (fun fy=>
 (af 0 (aa gJ) (aa gJ)).ab (fun _=>
 (af 0 (aa gK) (aa fy)).ab (fun _=>
 some (Sum.inl ((iG,kt,bS .i64 ku 1),(jQ,iR,fO),(lb,ju,eJ),(pu,gH),(fN,iH),gJ,fy))))))))
 (((af 0 (aa gJ) (aa gJ)).ab (fun _=>
 (af 0 (aa gK) (aa gK)).ab (fun _=>
 some (Sum.inl ((iG,kt),(jQ,iR,fO),(lb,ju,eJ),(pu,gH),(fN,iH),gJ,gK))))).ab (fun lv=>
 some (Sum.inr lv))))
 ((dj,da,(0:Int)),(c7,dX,cI),(jr,dA,dw),(eP,dY),(gG,lQ),dm,jV))))
 (fun((iS,kv),(jv,lS,kz),(gZ,lU,fP),(nv,r5),(oe,pw),jY,gL)=>
 (af 0 (aa jY) (aa jY)).ab (fun _=>
 (af 0 (aa gL) (aa gL)).ab (fun _=>
 bQ NN (fun(((qO,kw,mM),(vn,vo,sq),(oq,nw,pE),(Ac,xO),(r6,r7),ly,iZ):((Int×(Int×Int))×((Int×(Int×(List Int)))×((Int×(Int×(List Int)))×((Int×Int)×((Int×Int)×((List Int)×(List Int))))))))=>
 aY (cr mM oq)
 ((g9 ((oq,nw,pE),mM,kw)).ab (fun C9=>
 (af 0 (aa iZ) (aa iZ)).ab (fun _=>
 (kL ((r6,r7,iZ),kw,bS .i64 vn mM,C9)).ab (fun vE=>
 (af 0 (aa ly) (aa ly)).ab (fun _=>
 (af 0 (aa iZ) (aa vE)).ab (fun _=>
 some (Sum.inl ((qO,kw,bS .i64 mM 1),(vn,vo,sq),(oq,nw,pE),(Ac,xO),(r6,r7),ly,vE))))))))
 (((af 0 (aa ly) (aa ly)).ab (fun _=>
 (af 0 (aa iZ) (aa iZ)).ab (fun _=>
 some (Sum.inl ((kw,qO),(vn,vo,sq),(oq,nw,pE),(Ac,xO),(r6,r7),ly,iZ))))).ab (fun yc=>
 some (Sum.inr yc))))
 ((iS,kv,(0:Int)),(jv,lS,kz),(gZ,lU,fP),(nv,r5),(oe,pw),jY,gL)))))
 (fun((ot,xP),(mN,ou,N6),(lg,ov,lz),(i82,Ad),(Ae,MY),vG,AH)=>
 (af 0 (aa vG) (aa vG)).ab (fun _=>
 (af 0 (aa AH) (aa AH)).ab (fun _=>
 some (Sum.inl ((xP,bS .i64 ot 1),(mN,ou,N6),(lg,ov,lz),(i82,Ad),(Ae,MY),vG,AH))))))
 (((af 0 (aa dm) (aa dm)).ab (fun _=>
 (af 0 (aa jV) (aa jV)).ab (fun _=>
 some (Sum.inl (dj,(c7,dX,cI),(jr,dA,dw),(eP,dY),(gG,lQ),dm,jV))))).ab (fun HM=>
 some (Sum.inr HM))))
 ((i0,(0:Int)),(i1,i2,l3),(i4,i5,l6),((0:Int),(0:Int)),(i7,i8),([]:List Int),l9))))
 (fun(Af,(vp,Ag,Oa),(r9,Dc,l95),(xR,i97),(M1,M3),pC,tP)=>
 (cv tP 0 (aa tP)).ab (fun vu=>
 (uv (Af,M1,M3,vu)).ab (fun((C3,xL,sj),sk)=>
 (qf (r9,vp)).ab (fun(MA,Hh,xY)=>
 cT ((af 0 (aa pC) (aa pC)).ab (fun _=>
 (af 0 (aa sj) (aa sj)).ab (fun _=>
 (af 0 (aa xY) (aa xY)).ab (fun _=>
 bQ NN (fun((xM,(z8,C4,HE),(V6,adT,Al),(Hi,Hj),(adU,adV),(V7,Hk),An,Nz,Ao):(Int×((Int×(Int×(List Int)))×((Int×(Int×(List Int)))×((Int×Int)×((Int×Int)×((Int×Int)×((List Int)×((List Int)×(List Int))))))))))=>
 aY (cr xM V6)
 (cT ((af 0 (aa An) (aa An)).ab (fun _=>
 (af 0 (aa Nz) (aa Nz)).ab (fun _=>
 (af 0 (aa Ao) (aa Ao)).ab (fun _=>
 bQ NN (fun(((z9,Aa),(Hl,Ho,WZ),(V8,V9,Ap),(Wa,Wb),(MC,MD),(ME,C5),vw,vz,xZ):((Int×Int)×((Int×(Int×(List Int)))×((Int×(Int×(List Int)))×((Int×Int)×((Int×Int)×((Int×Int)×((List Int)×((List Int)×(List Int))))))))))=>
 aY (cr Aa Hl)
 ((cv vz 0 (aa vz)).ab (fun afS=>
 (g9 ((MC,MD,afS),Aa,bS .i64 Hl z9)).ab (fun MF=>
 (af 0 (aa xZ) (aa xZ)).ab (fun _=>
 (kL ((ME,C5,xZ),z9,Aa,MF)).ab (fun HI=>
 (af 0 (aa vw) (aa vw)).ab (fun _=>
 (af 0 (aa vz) (aa vz)).ab (fun _=>
 (af 0 (aa xZ) (aa HI)).ab (fun _=>
 some (Sum.inl ((z9,bS .i64 Aa 1),(Hl,Ho,WZ),(V8,V9,Ap),(Wa,Wb),(MC,MD),(ME,C5),vw,vz,HI))))))))))
 (((af 0 (aa vw) (aa vw)).ab (fun _=>
 (af 0 (aa vz) (aa vz)).ab (fun _=>
 (af 0 (aa xZ) (aa xZ)).ab (fun _=>
 some (Sum.inl (z9,(Hl,Ho,WZ),(V8,V9,Ap),(Wa,Wb),(MC,MD),(ME,C5),vw,vz,xZ)))))).ab (fun NG=>
 some (Sum.inr NG))))
 ((xM,(0:Int)),(z8,C4,HE),(V6,adT,Al),(Hi,Hj),(adU,adV),(V7,Hk),An,Nz,Ao)))))
 (fun(ad3,(MG,MH,NH),(ad4,ad5,afW),(MI,MJ),(MK,ML),(MN,ad7),x6,x7,x8)=>
 (af 0 (aa x6) (aa x6)).ab (fun _=>
 (af 0 (aa x7) (aa x7)).ab (fun _=>
 (af 0 (aa x8) (aa x8)).ab (fun _=>
 some (Sum.inl (bS .i64 ad3 1,(MG,MH,NH),(ad4,ad5,afW),(MI,MJ),(MK,ML),(MN,ad7),x6,x7,x8)))))))
 (((af 0 (aa An) (aa An)).ab (fun _=>
 (af 0 (aa Ao) (aa Ao)).ab (fun _=>
 some (Sum.inl ((Hi,Hj),(V7,Hk),An,Ao))))).ab (fun Dj=>
 some (Sum.inr Dj))))
 ((0:Int),(vp,Ag,Oa),(r9,Dc,l95),(xR,i97),(C3,xL),(MA,Hh),pC,sj,xY)))))
 (fun((alE,alF),(MP,Hp),NL,W0)=>
 (dc W0 (aa W0)).ab (fun afX=>
 some (MP,Hp,afX)))))))))
theorem akg {x:Int×bJ×bJ} (h:D6 x):∃(p:Int) (k n t:Nat) (R T:aL),x=(p,((k:Int),(n:Int),ao k n R),((t:Int),(n:Int),ao t n T))/\cY p/\k<=n/\n<=12/\t<=12/\bZ p k n R/\bZ p t n T/\
  yG x=some ((t:Int),(k:Int),ao t k (j4 p n k t R T)):=by
 have hx:=h
 obtain⟨p,⟨k,n,Rd⟩,t,n',Td⟩:=x
 obtain⟨h1,⟨h2,h3,h4⟩,⟨h5,h6⟩,h7,⟨h8,h9⟩,U4,U5⟩:=h
 dsimp only at h1 h2 h3 h4 h5 h6 h7 h8 h9 U4 U5
 subst h7
 obtain⟨k,rfl⟩:=fz h2
 obtain⟨n,rfl⟩:=fz (show 0<=n' by omega)
 obtain⟨t,rfl⟩:=fz h5
 simp only[Int.toNat_natCast] at h8 h9
 refine⟨p,k,n,t,aS n Rd,aS n Td,by rw[lL h8,lL h9],h1,by omega,by omega,by omega,jC h8 U4,jC h9 U5,?_⟩
 unfold yG
 rw[if_pos hx]
 simp only[Int.toNat_natCast]
theorem SA {p:Int} {k n t:Nat} {R T:aL} (hR:bZ p k n R) (hT:bZ p t n T):bZ p n (k+t) (jE k R T):=by
 intro j hj i hi
 unfold jE
 split
 ·rename_i h;exact hR i h j hj
 ·exact hT (i - k) (by omega) j hj
theorem Pf {r c:Nat} {W:aL} {i j:Nat} {x:Int} (h:W i j=x):ao r c (g8 (io W i j) i j x)=ao r c (io W i (j+1)):=by rw[<-h];exact XS W i j
theorem aja {p:Int} {n c:Nat} {W:aL} (hp:cY p) (hn:n<=12) (hc:c<=24) (hW:bZ p n c W):A7 (p,(n:Int),(c:Int),ao n c W):=by
 have h1:n*c<=12*24:=Nat.mul_le_mul hn hc
 refine⟨hp,⟨⟨by dsimp only;omega,by dsimp only;omega⟩,⟨by dsimp only;omega,by dsimp only;omega⟩,by dsimp only;rw[fW];push_cast;rfl,by dsimp only;rw[fW];omega⟩,hH.2 hW⟩
theorem cG {α β:Type} (x:α) (f:α->Option β):(some x).ab f=f x:=by
 have h:∀o:Option α,o=some x->o.ab f=f x:=by intro o h;subst h;rfl
 exact h _ rfl
theorem ach (x:Int×bJ×bJ) (z:bJ) (h:wE x=some z):JH aN x=some z:=by
 have ho:D6 x:=by
  unfold wE yG at h
  split at h
  ·assumption
  ·cases h
 obtain⟨p,k,n,t,R,T,rfl,hp,ib,hn,ht,hR,hT,hs⟩:=akg ho
 rw[show wE (p,((k:Int),(n:Int),ao k n R),((t:Int),(n:Int),ao t n T))=yG _ from rfl,hs] at h
 rw[<-h]
 have b1:k*n<=12*12:=Nat.mul_le_mul (by omega) hn
 have b2:t*n<=12*12:=Nat.mul_le_mul ht hn
 have b3:n*(k+t)<=12*24:=Nat.mul_le_mul hn (by omega)
 have b4:t*k<=12*12:=Nat.mul_le_mul ht (by omega)
 simp only[JH]
 rw[wQ (by omega),AR (by omega) (by omega) (by omega)]
 simp only[cG,cm]
 try rw[show af 0 0 (aa ([]:List Int))=some () from rfl]
 try simp only[cG]
 rw[gM (r:=Sum.inl (p,((k:Int),(n:Int),ao k n R),((t:Int),(n:Int),ao t n T),((0:Int),(0:Int)),((n:Int),((k+t:Nat):Int)),([]:List Int),ao n (k+t) (jE k R T)))
  (fun j=>((p,(j:Int)),((k:Int),(n:Int),ao k n R),((t:Int),(n:Int),ao t n T),((0:Int),(0:Int)),((n:Int),((k+t:Nat):Int)),([]:List Int),ao n (k+t) (io (jE k R T) j 0))) n ?a1 ?a2 ?a3 (dQ (by omega))]
 case a2=>
  dsimp only
  rw[bG (il (Nat.le_refl n)),Pc]
  try simp only[cm,cG]
 case a3=>simp only[Pb];rfl
 case a1=>
  intro j hj
  dsimp only
  rw[bH (g0 hj)]
  try simp only[cm,cG]
  rw[gM (r:=Sum.inl ((p,(j:Int)),((k:Int),(n:Int),ao k n R),((t:Int),(n:Int),ao t n T),((0:Int),(0:Int)),((n:Int),((k+t:Nat):Int)),([]:List Int),ao n (k+t) (io (jE k R T) j k)))
   (fun i=>((p,(j:Int),(i:Int)),((k:Int),(n:Int),ao k n R),((t:Int),(n:Int),ao t n T),((0:Int),(0:Int)),((n:Int),((k+t:Nat):Int)),([]:List Int),ao n (k+t) (io (jE k R T) j i))) k ?b1 ?b2 ?b3 (dQ (by omega))]
  case b2=>
   dsimp only
   rw[bG (il (Nat.le_refl k))]
   try simp only[cm,cG]
  case b3=>rfl
  case b1=>
   intro i hi
   dsimp only
   rw[bH (g0 hi),kg (by omega) (by omega) (by omega) hi hj]
   try simp only[cm,cG]
   rw[pU (by omega) (by omega) (by omega) hj (show i<k+t by omega)]
   simp only[pg,cG,gk (show i<=1048577 by omega)]
   rw[Pf (show jE k R T j i=R i j by unfold jE;rw[if_pos hi])]
  rw[eH]
  dsimp only
  try simp only[cm,cG]
  rw[gM (r:=Sum.inl (((j:Int),p),((k:Int),(n:Int),ao k n R),((t:Int),(n:Int),ao t n T),((0:Int),(0:Int)),((n:Int),((k+t:Nat):Int)),([]:List Int),ao n (k+t) (io (jE k R T) j (k+t))))
   (fun i=>((p,(j:Int),(i:Int)),((k:Int),(n:Int),ao k n R),((t:Int),(n:Int),ao t n T),((0:Int),(0:Int)),((n:Int),((k+t:Nat):Int)),([]:List Int),ao n (k+t) (io (jE k R T) j (k+i)))) t ?c1 ?c2 ?c3 (dQ (by omega))]
  case c2=>
   dsimp only
   rw[bG (il (Nat.le_refl t))]
   try simp only[cm,cG]
  case c3=>rfl
  case c1=>
   intro i hi
   dsimp only
   rw[bH (g0 hi),kg (by omega) (by omega) (by omega) hi hj]
   try simp only[cm,cG]
   rw[wQ (by omega),pU (by omega) (by omega) (by omega) hj (show k+i<k+t by omega)]
   simp only[pg,cG,gk (show i<=1048577 by omega)]
   rw[Pf (show jE k R T j (k+i)=T i j by unfold jE;rw[if_neg (by omega),Nat.add_sub_cancel_left])]
   rfl
  rw[eH]
  dsimp only
  try simp only[cm,cG]
  rw[gk (show j<=1048577 by omega),Pg]
 rw[eH]
 dsimp only
 simp only[iv,cG]
 rw[show uv (p,(n:Int),((k+t:Nat):Int),ao n (k+t) (jE k R T))=_ from if_pos (aja hp hn (by omega) (SA hR hT))]
 simp only[cG,Int.toNat_natCast]
 rw[AR (by omega) (by omega) (by omega)]
 simp only[cG,cm]
 try rw[show af 0 0 (aa ([]:List Int))=some () from rfl]
 try simp only[cG]
 obtain⟨Q,hQ⟩:∃Q,(pN (p,(n:Int),((k+t:Nat):Int),ao n (k+t) (jE k R T))).1=Q:=⟨_,rfl⟩
 have hX:∀i q,j4 p n k t R T i q=Q q (k+i):=fun i q=>by unfold j4;rw[hQ]
 rw[hQ]
 rw[gM (r:=Sum.inl (((0:Int),(0:Int)),((t:Int),(k:Int)),([]:List Int),ao t k (j4 p n k t R T)))
  (fun i=>((i:Int),((k:Int),(n:Int),ao k n R),((t:Int),(n:Int),ao t n T),((0:Int),(0:Int)),((n:Int),((k+t:Nat):Int)),((t:Int),(k:Int)),([]:List Int),ao n (k+t) Q,ao t k (io (j4 p n k t R T) i 0))) t ?d1 ?d2 ?d3 (dQ (by omega))]
 case d2=>
  dsimp only
  rw[bG (il (Nat.le_refl t)),Pc]
  try simp only[cm,cG]
  try rfl
 case d3=>simp only[Pb];rfl
 case d1=>
  intro i hi
  dsimp only
  rw[bH (g0 hi)]
  try simp only[cm,cG]
  try rw[show af 0 0 (aa ([]:List Int))=some () from rfl]
  try simp only[cG]
  rw[gM (r:=Sum.inl ((i:Int),((k:Int),(n:Int),ao k n R),((t:Int),(n:Int),ao t n T),((0:Int),(0:Int)),((n:Int),((k+t:Nat):Int)),((t:Int),(k:Int)),([]:List Int),ao n (k+t) Q,ao t k (io (j4 p n k t R T) i k)))
   (fun q=>(((i:Int),(q:Int)),((k:Int),(n:Int),ao k n R),((t:Int),(n:Int),ao t n T),((0:Int),(0:Int)),((n:Int),((k+t:Nat):Int)),((t:Int),(k:Int)),([]:List Int),ao n (k+t) Q,ao t k (io (j4 p n k t R T) i q))) k ?e1 ?e2 ?e3 (dQ (by omega))]
  case e2=>
   dsimp only
   rw[bG (il (Nat.le_refl k))]
   try simp only[cm,cG]
   try rfl
  case e3=>rfl
  case e1=>
   intro q hq
   dsimp only
   rw[bH (g0 hq)]
   try simp only[cG]
   rw[wQ (by omega),kg (by omega) (by omega) (by omega) (show q<n by omega) (show k+i<k+t by omega)]
   try simp only[cm,cG]
   rw[pU (by omega) (by omega) (by omega) hi hq]
   simp only[pg,cG,gk (show q<=1048577 by omega)]
   rw[Pf (hX i q)]
   try rfl
  rw[eH]
  dsimp only
  try simp only[cm,cG]
  rw[gk (show i<=1048577 by omega),Pg]
  try rfl
 rw[eH]
 dsimp only
 rw[show dc (ao t k (j4 p n k t R T)) (aa (ao t k (j4 p n k t R T)))=some (ao t k (j4 p n k t R T)) by unfold dc aa;rw[if_pos (Nat.le_refl _),List.take_length]]
 rfl
end Go.Am
end
section
namespace Go.Am
end Go.Am
end
section
namespace Go.Am
def gf (m:bJ):bJ:=(m.2.1,m.1,ao m.2.1.toNat m.1.toNat (sL (aS m.2.1.toNat m.2.2)))
def mf (x:bz):bz:=(x.1,x.2.1,x.2.2.2.2,x.2.2.2.1.map gf,x.2.2.1)
def YI (x:bz):Option bz:=if fD x=true then some (mf x) else none
def sQ:bz->Option bz:=YI
def Fz:av:=[(.agg,[.int .i64,.int .i64,.list [.int .i64],.list [.int .i64,.int .i64,.list [.int .i64]],.list [.int .i64]])]
def Qi:av:=[(.agg,[.int .i64,.int .i64,.list [.int .i64],.list [.int .i64,.int .i64,.list [.int .i64]],.list [.int .i64]])]
def ag2:bo:=[]
def JI (NN:Nat):(Int×(Int×((List Int)×((List (Int×(Int×(List Int))))×(List Int)))))->(Option (Int×(Int×((List Int)×((List (Int×(Int×(List Int))))×(List Int)))))):=
 (fun((i0,i1,l2,l3,l4):(Int×(Int×((List Int)×((List (Int×(Int×(List Int))))×(List Int))))))=>
 (ix l4).ab (fun l5=>
 (ix l2).ab (fun l6=>
 cT ((af 0 0 (aa (([]:List Int)))).ab (fun _=>
 (af 0 0 (aa (([]:List (Int×(Int×(List Int))))))).ab (fun _=>
 (af 0 0 (aa (([]:List Int)))).ab (fun _=>
 (af 0 (aa l5) (aa l5)).ab (fun _=>
 (af 0 0 (aa (([]:List (Int×(Int×(List Int))))))).ab (fun _=>
 (af 0 (aa l6) (aa l6)).ab (fun _=>
 bQ NN (fun(((l7,i8,i9),(dj,da),(c7,dX),cI,ca,iU,dw,fG,f8):(((List (Int×(Int×(List Int))))×(Int×Int))×((Int×Int)×((Int×Int)×((List Int)×((List (Int×(Int×(List Int))))×((List Int)×((List Int)×((List (Int×(Int×(List Int))))×(List Int))))))))))=>
 aY (cr i9 i8)
 ((ji l7 i9).ab (fun(gG,lQ,dm)=>
 (yV (gG,lQ,dm)).ab (fun(fk,iG,dz)=>
 (dc dz (aa dz)).ab (fun cP=>
 (af 0 (aa fG) (aa fG)).ab (fun _=>
 (af 0 1 (aa (((fk,iG,cP)::([]:List (Int×(Int×(List Int)))))))).ab (fun _=>
 (lK (bF (aa fG) (aa (((fk,iG,cP)::([]:List (Int×(Int×(List Int)))))))) 40).ab (fun _=>
 (af 0 (aa cI) (aa cI)).ab (fun _=>
 (af 0 (aa ca) (aa ca)).ab (fun _=>
 (af 0 (aa iU) (aa iU)).ab (fun _=>
 (af 0 (aa dw) (aa dw)).ab (fun _=>
 (af 0 (bF (aa fG) (aa (((fk,iG,cP)::([]:List (Int×(Int×(List Int)))))))) (aa (dg fG (((fk,iG,cP)::([]:List (Int×(Int×(List Int))))))))).ab (fun _=>
 (af 0 (aa f8) (aa f8)).ab (fun _=>
 some (Sum.inl ((l7,i8,bS .i64 i9 1),(dj,da),(c7,dX),cI,ca,iU,dw,dg fG (((fk,iG,cP)::([]:List (Int×(Int×(List Int)))))),f8)))))))))))))))
 (((af 0 (aa cI) (aa cI)).ab (fun _=>
 (af 0 (aa ca) (aa ca)).ab (fun _=>
 (af 0 (aa iU) (aa iU)).ab (fun _=>
 (af 0 (aa dw) (aa dw)).ab (fun _=>
 (af 0 (aa fG) (aa fG)).ab (fun _=>
 (af 0 (aa f8) (aa f8)).ab (fun _=>
 some (Sum.inl ((dj,da),(c7,dX),cI,ca,iU,dw,fG,f8))))))))).ab (fun nB=>
 some (Sum.inr nB))))
 ((l3,bj (aa l3),(0:Int)),((0:Int),(0:Int)),(i0,i1),([]:List Int),([]:List (Int×(Int×(List Int)))),([]:List Int),l5,([]:List (Int×(Int×(List Int)))),l6))))))))
 (fun((iR,tL),(lb,ju),eJ,fo,lr,sn,ky,gJ)=>
 (dc sn (aa sn)).ab (fun gK=>
 (dc ky (aa ky)).ab (fun iV=>
 (dc gJ (aa gJ)).ab (fun fy=>
 some (lb,ju,gK,iV,fy))))))))
theorem ZL {α β:Type} {f:α->β} {l:List α} {i:Nat} {x:α} (h:l[i]? =some x):dg ((l.take i).map f) [f x]=(l.take (i+1)).map f:=by
 unfold dg
 rw[List.take_add_one,h,List.map_append]
 rfl
theorem Si {n:Nat} (M:aL):gf ((n:Int),(n:Int),ao n n M)=((n:Int),(n:Int),ao n n (sL M)):=by
 unfold gf
 simp only[Int.toNat_natCast]
 rw[show ao n n (sL (aS n (ao n n M)))=ao n n (sL M) from fu fun i hi j hj=>mS M hj hi]
theorem aci (x:bz) (z:bz) (h:sQ x=some z):JI aN x=some z:=by
 have ho:fD x=true:=by
  unfold sQ YI at h
  split at h
  ·assumption
  ·cases h
 obtain⟨p,n,s,ms,b,rfl,H⟩:=wT ho
 rw[show sQ (p,(n:Int),s,ms,b)=some (mf (p,(n:Int),s,ms,b)) from if_pos ho] at h
 rw[<-h]
 have hn:=H.hn
 have h4:=H.l4
 have th:=H.al
 have Vj:=H.bl
 have zR:eK=140737488355328:=rfl
 simp only[JI]
 rw[show ix b=some b from if_pos (by omega),show ix s=some s from if_pos (by omega)]
 simp only[cG,cm]
 rw[show af 0 0 (aa ([]:List Int))=some () from rfl,show af 0 0 (aa ([]:List (Int×(Int×(List Int)))))=some () from rfl]
 simp only[cG]
 rw[gM (r:=Sum.inl (((0:Int),(0:Int)),(p,(n:Int)),([]:List Int),([]:List (Int×(Int×(List Int)))),([]:List Int),b,ms.map gf,s))
  (fun i=>((ms,(ms.length:Int),(i:Int)),((0:Int),(0:Int)),(p,(n:Int)),([]:List Int),([]:List (Int×(Int×(List Int)))),([]:List Int),b,(ms.take i).map gf,s)) ms.length ?a1 ?a2 ?a3 (dQ (by omega))]
 case a2=>
  dsimp only
  rw[bG (il (Nat.le_refl _)),List.take_length]
  try simp only[cm,cG]
  try rfl
 case a3=>rfl
 case a1=>
  intro i hi
  dsimp only
  obtain⟨m,hm⟩:∃m,ms[i]? =some m:=⟨_,List.getElem?_eq_getElem hi⟩
  obtain⟨M,hM,Va⟩:=H.hm m (List.mem_of_getElem? hm)
  rw[bH (g0 hi),kl,hm,hM]
  simp only[cG]
  have b1:n*n<=12*12:=Nat.mul_le_mul hn hn
  rw[show yV ((n:Int),(n:Int),ao n n M)=_ from ZQ (by omega) (by omega) (by omega)]
  simp only[cG,kG]
  rw[<-Si,<-hM]
  try simp only[cm,cG]
  rw[show af 0 1 (aa [gf m])=some () from rfl]
  simp only[cG]
  rw[nZ (by simp only[bF,aa,List.length_map,List.length_take,List.length_singleton];omega)]
  simp only[cG]
  rw[ZL hm,gk (show i<=1048577 by omega)]
  rw[show af 0 (bF (aa ((ms.take i).map gf)) (aa [gf m])) (aa ((ms.take (i+1)).map gf))=some () from tf (by simp only[bF,aa,List.length_map,List.length_take,List.length_singleton];omega)]
  simp only[cG]
  try rw[show af 0 0 (aa ([]:List Int))=some () from rfl]
  try rw[show af 0 0 (aa ([]:List (Int×(Int×(List Int)))))=some () from rfl]
  try simp only[cm,cG]
 rw[eH]
 dsimp only
 simp only[kG,cG]
 rfl
end Go.Am
end
section
namespace Go.Am
def JU (p:Int) (M:aL) (i j:Nat):Prop:=(M i j+M j i)%p=0/\(i=j->M i j=0)
instance (p:Int) (M:aL) (i j:Nat):Decidable (JU p M i j):=by unfold JU;infer_instance
def S7 (p:Int) (M:aL) (i:Nat):Prop:=∀j,j<i+1->JU p M i j
instance (p:Int) (M:aL) (i:Nat):Decidable (S7 p M i):=by unfold S7;infer_instance
end Go.Am
end
section
namespace Go.Am
def ia (p a b:Int):Prop:=∃q,a=b+p*q
theorem ia.refl (p a:Int):ia p a a:=⟨0,by simp⟩
theorem ia.trans {p a b c:Int} (h:ia p a b) (h':ia p b c):ia p a c:=by
 obtain⟨q,rfl⟩:=h;obtain⟨q',rfl⟩:=h';exact⟨q'+q,by rw[Int.mul_add];omega⟩
theorem ia.symm {p a b:Int} (h:ia p a b):ia p b a:=by
 obtain⟨q,rfl⟩:=h;exact⟨-q,by rw[Int.mul_neg];omega⟩
theorem ia.add {p a b c d:Int} (h:ia p a b) (h':ia p c d):ia p (a+c) (b+d):=by
 obtain⟨q,rfl⟩:=h;obtain⟨q',rfl⟩:=h';exact⟨q+q',by grind⟩
theorem ia.mul {p a b c d:Int} (h:ia p a b) (h':ia p c d):ia p (a*c) (b*d):=by
 obtain⟨q,rfl⟩:=h;obtain⟨q',rfl⟩:=h';exact⟨q*d+b*q'+p*q*q',by grind⟩
section
variable {p inv:Int} {n k:Nat} {A:aL}
end
end Go.Am
end
section
namespace Go.Am
theorem ae0 {X Y:Type} {b:Bool} {u v:Option (X⊕Y)} {f:X->Option Y} {s:X} (h1:b=true->u=some (.inl s)) (h2:b=false->v=some (.inl s)):cT (aY b u v) f=f s:=by
 cases b
 ·rw[zp,h2 rfl,eH]
 ·rw[zq,h1 rfl,eH]
section
variable {p:Int} {n:Nat} {M:aL}
end
section
variable {p:Int} {n:Nat} {M:aL}
end
end Go.Am
end
section
namespace Go.Am
def ph (p:Int) (n k:Nat) (D:List Int) (m:bJ):bJ:=((k:Int),(k:Int),ao k k (j4 p n k k (aS n D) (aS n (ao k n (e9 p n (aS n D) (aS n m.2.2))))))
def gn (x:bz):bz:=(x.1,((cZ x).1.length:Int),db (d8 (cZ x).1.length 0) 0 1,x.2.2.2.1.map (ph x.1 x.2.1.toNat (cZ x).1.length (cZ x).2),ao (cZ x).1.length 1 (e9 x.1 x.2.1.toNat (aS x.2.1.toNat (cZ x).2) (aS 1 x.2.2.2.2)))
def U2 (x:bz):Option bz:=if fD x=true then some (gn x) else none
def sP:bz->Option bz:=U2
def Fw:av:=[(.agg,[.int .i64,.int .i64,.list [.int .i64],.list [.int .i64,.int .i64,.list [.int .i64]],.list [.int .i64]])]
def Qf:av:=[(.agg,[.int .i64,.int .i64,.list [.int .i64],.list [.int .i64,.int .i64,.list [.int .i64]],.list [.int .i64]])]
def agZ:bo:=[]
def JF (NN:Nat):(Int×(Int×((List Int)×((List (Int×(Int×(List Int))))×(List Int)))))->(Option (Int×(Int×((List Int)×((List (Int×(Int×(List Int))))×(List Int)))))):=
 (fun((i0,i1,l2,l3,l4):(Int×(Int×((List Int)×((List (Int×(Int×(List Int))))×(List Int))))))=>
 (rn (i0,i1,l2,l3,l4)).ab (fun(l5,i6,i7,l8)=>
 (tU (bj (aa l5)) (bj (aa l5)) 8).ab (fun k9=>
 cT (aY (cr (0:Int) (bj (aa l5)))
 ((jH (0:Int) k9).ab (fun Np=>
 (gA (d8 k9 (0:Int)) (bF 0 Np)).ab (fun da=>
 (af 0 0 (aa (([]:List Int)))).ab (fun _=>
 (af 0 0 (aa (([]:List (Int×(Int×(List Int))))))).ab (fun _=>
 (af 0 0 (aa (([]:List Int)))).ab (fun _=>
 (af 0 k9 (aa (db (d8 k9 (0:Int)) (bF 0 Np) (1:Int)))).ab (fun _=>
 (af 0 0 (aa (([]:List (Int×(Int×(List Int))))))).ab (fun _=>
 (af 0 0 (aa (([]:List Int)))).ab (fun _=>
 some (Sum.inl ((i0,i1,l2,l3,l4),((0:Int),(0:Int)),(i6,i7,l8),(i0,bj (aa l5)),([]:List Int),([]:List (Int×(Int×(List Int)))),([]:List Int),db (d8 k9 (0:Int)) (bF 0 Np) (1:Int),([]:List (Int×(Int×(List Int)))),([]:List Int))))))))))))
 ((af 0 0 (aa (([]:List Int)))).ab (fun _=>
 (af 0 0 (aa (([]:List (Int×(Int×(List Int))))))).ab (fun _=>
 (af 0 0 (aa (([]:List Int)))).ab (fun _=>
 (af 0 k9 (aa (d8 k9 (0:Int)))).ab (fun _=>
 (af 0 0 (aa (([]:List (Int×(Int×(List Int))))))).ab (fun _=>
 (af 0 0 (aa (([]:List Int)))).ab (fun _=>
 some (Sum.inl ((i0,i1,l2,l3,l4),((0:Int),(0:Int)),(i6,i7,l8),(i0,bj (aa l5)),([]:List Int),([]:List (Int×(Int×(List Int)))),([]:List Int),d8 k9 (0:Int),([]:List (Int×(Int×(List Int)))),([]:List Int)))))))))))
 (fun((c7,dX,cI,ca,iU),(gw,eP),(dY,gG,fH),(jt,fk),fm,dz,cP,nB,jw,fO)=>
 (oQ (c7,(dY,gG,fH),bj (aa iU),(1:Int),iU)).ab (fun(lb,ju,eJ)=>
 cT ((af 0 (aa fm) (aa fm)).ab (fun _=>
 (af 0 (aa dz) (aa dz)).ab (fun _=>
 (af 0 (aa cP) (aa cP)).ab (fun _=>
 (af 0 (aa nB) (aa nB)).ab (fun _=>
 (af 0 (aa jw) (aa jw)).ab (fun _=>
 (af 0 (aa eJ) (aa eJ)).ab (fun _=>
 bQ NN (fun(((fo,gH,fN),(iH,lf,gK,iV,fy),(nu,iS),(kv,jv,yb),(lT,gZ),jW,fP,iW,jX,iY,lx):(((List (Int×(Int×(List Int))))×(Int×Int))×((Int×(Int×((List Int)×((List (Int×(Int×(List Int))))×(List Int)))))×((Int×Int)×((Int×(Int×(List Int)))×((Int×Int)×((List Int)×((List (Int×(Int×(List Int))))×((List Int)×((List Int)×((List (Int×(Int×(List Int))))×(List Int))))))))))))=>
 aY (cr fN gH)
 ((ji fo fN).ab (fun(pz,C8,mO)=>
 (oQ (iH,(kv,jv,yb),pz,C8,mO)).ab (fun(kw,mM,jA)=>
 (cv jA 0 (aa jA)).ab (fun AG=>
 (wE (iH,(kv,jv,yb),kw,mM,AG)).ab (fun(oh,oq,HJ)=>
 (dc HJ (aa HJ)).ab (fun pE=>
 (af 0 (aa iY) (aa iY)).ab (fun _=>
 (af 0 1 (aa (((oh,oq,pE)::([]:List (Int×(Int×(List Int)))))))).ab (fun _=>
 (lK (bF (aa iY) (aa (((oh,oq,pE)::([]:List (Int×(Int×(List Int)))))))) 40).ab (fun _=>
 (af 0 (aa jW) (aa jW)).ab (fun _=>
 (af 0 (aa fP) (aa fP)).ab (fun _=>
 (af 0 (aa iW) (aa iW)).ab (fun _=>
 (af 0 (aa jX) (aa jX)).ab (fun _=>
 (af 0 (bF (aa iY) (aa (((oh,oq,pE)::([]:List (Int×(Int×(List Int)))))))) (aa (dg iY (((oh,oq,pE)::([]:List (Int×(Int×(List Int))))))))).ab (fun _=>
 (af 0 (aa lx) (aa lx)).ab (fun _=>
 some (Sum.inl ((fo,gH,bS .i64 fN 1),(iH,lf,gK,iV,fy),(nu,iS),(kv,jv,yb),(lT,gZ),jW,fP,iW,jX,dg iY (((oh,oq,pE)::([]:List (Int×(Int×(List Int)))))),lx)))))))))))))))))
 (((af 0 (aa jW) (aa jW)).ab (fun _=>
 (af 0 (aa fP) (aa fP)).ab (fun _=>
 (af 0 (aa iW) (aa iW)).ab (fun _=>
 (af 0 (aa jX) (aa jX)).ab (fun _=>
 (af 0 (aa iY) (aa iY)).ab (fun _=>
 (af 0 (aa lx) (aa lx)).ab (fun _=>
 some (Sum.inl ((nu,iS),(lT,gZ),jW,fP,iW,jX,iY,lx))))))))).ab (fun qP=>
 some (Sum.inr qP))))
 ((ca,bj (aa ca),(0:Int)),(c7,dX,cI,ca,iU),(gw,eP),(dY,gG,fH),(jt,fk),fm,dz,cP,nB,jw,eJ))))))))
 (fun((xO,r6),(r7,Ht),iZ,qQ,vE,yc,vF,pF)=>
 (dc yc (aa yc)).ab (fun HK=>
 (dc vF (aa vF)).ab (fun l77=>
 (dc pF (aa pF)).ab (fun N6=>
 some (r7,Ht,HK,l77,N6))))))))))
theorem Sw {p:Int} {n:Nat} {s b:List Int} {ms:List bJ} (H:kf p n s ms b):∀(m:Nat) (S:List Wd×List Int) (q:List Wd),BI p n ms.length S q->BI p n ms.length (nO p n ms s m S q) []
 |0,S,q,h=>⟨h.dl,h.dp,h.kn,fun w hw=>absurd hw (by simp),h.wo⟩
 |m+1,S,[],h=>h
 |m+1,S,w::q,h=>by
  by_cases ha:sV p n ms s S w=true
  ·rw[Sz ha]
   exact Sw H m _ _ (BI.BH H h ha).1
  ·rw[Sy ha]
   exact Sw H m _ _ h.no
theorem vU {p:Int} {n:Nat} {s b:List Int} {ms:List bJ} (H:kf p n s ms b):BI p n ms.length (cZ (p,(n:Int),s,ms,b)) []:=by
 have e:cZ (p,(n:Int),s,ms,b)=nO p n ms s 128 ([],[]) [[]]:=by unfold cZ;simp only[Int.toNat_natCast]
 rw[e]
 exact Sw H 128 _ _ ⟨by simp,fun x hx=>absurd hx (by simp),Nat.zero_le _,fun w hw=>by rw[List.mem_singleton] at hw;subst hw;exact⟨fun c hc=>absurd hc (by simp),Nat.zero_le _⟩,fun w hw=>absurd hw (by simp)⟩
theorem akh {p:Int} {k n t:Nat} {R T:aL} (hp:cY p) (hk:k<=n) (hn:n<=12) (ht:t<=12) (hR:bZ p k n R) (hT:bZ p t n T):yG (p,((k:Int),(n:Int),ao k n R),((t:Int),(n:Int),ao t n T))=some ((t:Int),(k:Int),ao t k (j4 p n k t (aS n (ao k n R)) (aS n (ao t n T)))):=by
 unfold yG
 rw[if_pos ⟨hp,⟨by dsimp only;omega,by dsimp only;omega,by dsimp only;omega⟩,⟨by dsimp only;omega,by dsimp only;omega⟩,rfl,⟨by simp only[Int.toNat_natCast];exact fW _ _ _,by simp only[Int.toNat_natCast];exact fW _ _ _⟩,hH.2 hR,hH.2 hT⟩]
 simp only[Int.toNat_natCast]
theorem acf (x:bz) (z:bz) (h:sP x=some z):JF aN x=some z:=by
 have ho:fD x=true:=by
  unfold sP U2 at h
  split at h
  ·assumption
  ·cases h
 obtain⟨p,n,s,ms,b,rfl,H⟩:=wT ho
 rw[show sP (p,(n:Int),s,ms,b)=some (gn (p,(n:Int),s,ms,b)) from if_pos ho] at h
 rw[<-h]
 have hp:=H.p
 have hn:=H.hn
 have h4:=H.l4
 have Vj:=H.bl
 have zR:eK=140737488355328:=rfl
 have B:=vU H.b
 simp only[JF]
 rw[show rn (p,(n:Int),s,ms,b)=_ from if_pos (JW ho)]
 have zK:gn (p,(n:Int),s,ms,b)=(p,((cZ (p,(n:Int),s,ms,b)).1.length:Int),db (d8 (cZ (p,(n:Int),s,ms,b)).1.length 0) 0 1,ms.map (ph p n (cZ (p,(n:Int),s,ms,b)).1.length (cZ (p,(n:Int),s,ms,b)).2),ao (cZ (p,(n:Int),s,ms,b)).1.length 1 (e9 p n (aS n (cZ (p,(n:Int),s,ms,b)).2) (aS 1 b))):=by
  unfold gn
  simp only[Int.toNat_natCast]
 rw[zK]
 generalize cZ (p,(n:Int),s,ms,b)=S at B
 obtain⟨ws,D⟩:=S
 have xw:D.length=ws.length*n:=B.dl
 have LI:dR p D:=B.dp
 have ib:ws.length<=n:=B.kn
 dsimp only
 simp only[cG]
 obtain⟨k,hk⟩:∃k,ws.length=k:=⟨_,rfl⟩
 rw[show bj (aa ws)=(k:Int) by unfold bj aa;rw[hk],hk]
 rw[hk] at xw ib
 have hA:bZ p k n (aS n D):=jC xw LI
 have Lo:ao k n (aS n D)=D:=lL xw
 have b1:k*n<=12*12:=Nat.mul_le_mul (by omega) hn
 have b2:n*n<=12*12:=Nat.mul_le_mul hn hn
 rw[show tU (k:Int) (k:Int) 8=some k by unfold tU;rw[if_pos ⟨by omega,by omega,by rw[Int.toNat_natCast];omega⟩,Int.toNat_natCast]]
 simp only[cG]
 rw[ae0 (s:=((p,(n:Int),s,ms,b),((0:Int),(0:Int)),((k:Int),(n:Int),D),(p,(k:Int)),([]:List Int),([]:List (Int×(Int×(List Int)))),([]:List Int),db (d8 k 0) 0 1,([]:List (Int×(Int×(List Int)))),([]:List Int))) ?p1 ?p2]
 case p1=>
  intro hc
  have rQ:0<k:=by
   have:=of_decide_eq_true hc
   omega
  rw[show jH (0:Int) k=some 0 from wV (i:=0) rQ]
  simp only[cG,y9]
  rw[show gA (d8 k (0:Int)) 0=some 0 by unfold gA d8;rw[List.getElem?_replicate,if_pos rQ]]
  simp only[cG]
  rw[show af 0 k (aa (db (d8 k (0:Int)) 0 1))=some () from tf (by simp[aa,db,d8])]
  try rw[show af 0 0 (aa ([]:List Int))=some () from rfl]
  try rw[show af 0 0 (aa ([]:List (Int×(Int×(List Int)))))=some () from rfl]
  simp only[cG]
 case p2=>
  intro hc
  have rQ:¬0<k:=by
   have:=of_decide_eq_false hc
   omega
  rw[show af 0 k (aa (d8 k (0:Int)))=some () from tf (by simp[aa,d8])]
  try rw[show af 0 0 (aa ([]:List Int))=some () from rfl]
  try rw[show af 0 0 (aa ([]:List (Int×(Int×(List Int)))))=some () from rfl]
  simp only[cG]
  obtain rfl:k=0:=by omega
  rfl
 dsimp only
 have hBm:bZ p n 1 (aS 1 b):=jC (by omega) H.bp
 have hBb:ao n 1 (aS 1 b)=b:=lL (by omega)
 have e1:=Du (r:=k) (k:=n) (c:=1) hp (by omega) (by omega) (by omega) (by omega) (by omega) (by omega) hA hBm
 rw[Lo,hBb] at e1
 rw[show bj (aa b)=(n:Int) by unfold bj aa;rw[Vj]]
 rw[show oQ (p,((k:Int),(n:Int),D),((n:Int),(1:Int),b))=_ from e1]
 simp only[cG,cm]
 try rw[show af 0 0 (aa ([]:List Int))=some () from rfl]
 try rw[show af 0 0 (aa ([]:List (Int×(Int×(List Int)))))=some () from rfl]
 try simp only[cG]
 rw[gM (r:=Sum.inl (((0:Int),(0:Int)),(p,(k:Int)),([]:List Int),([]:List (Int×(Int×(List Int)))),([]:List Int),db (d8 k 0) 0 1,ms.map (ph p n k D),ao k 1 (e9 p n (aS n D) (aS 1 b))))
  (fun i=>((ms,(ms.length:Int),(i:Int)),(p,(n:Int),s,ms,b),((0:Int),(0:Int)),((k:Int),(n:Int),D),(p,(k:Int)),([]:List Int),([]:List (Int×(Int×(List Int)))),([]:List Int),db (d8 k 0) 0 1,(ms.take i).map (ph p n k D),ao k 1 (e9 p n (aS n D) (aS 1 b)))) ms.length ?a1 ?a2 ?a3 (dQ (by omega))]
 case a2=>
  dsimp only
  rw[bG (il (Nat.le_refl _)),List.take_length]
  try simp only[cm,cG]
  try rfl
 case a3=>rfl
 case a1=>
  intro i hi
  dsimp only
  obtain⟨m,hm⟩:∃m,ms[i]? =some m:=⟨_,List.getElem?_eq_getElem hi⟩
  obtain⟨M,hM,Va⟩:=H.hm m (List.mem_of_getElem? hm)
  rw[bH (g0 hi),kl,hm,hM]
  simp only[cG]
  have e2:=Du (r:=k) (k:=n) (c:=n) hp (by omega) (by omega) (by omega) (by omega) (by omega) (by omega) hA Va
  rw[Lo] at e2
  rw[show oQ (p,((k:Int),(n:Int),D),((n:Int),(n:Int),ao n n M))=_ from e2]
  simp only[cG,iv]
  have e3:=akh hp ib hn (show k<=12 by omega) hA (Ds hp k n n (aS n D) M)
  rw[Lo] at e3
  rw[show wE (p,((k:Int),(n:Int),D),((k:Int),(n:Int),ao k n (e9 p n (aS n D) M)))=_ from e3]
  simp only[cG,kG]
  have e4:((k:Int),(k:Int),ao k k (j4 p n k k (aS n D) (aS n (ao k n (e9 p n (aS n D) M)))))=ph p n k D m:=by
   rw[hM]
   unfold ph
   dsimp only
   rw[show ao k n (e9 p n (aS n D) (aS n (ao n n M)))=ao k n (e9 p n (aS n D) M) from fu fun a _ c hc=>XQ (fun _ _=>rfl) (fun t ht=>mS M ht hc)]
  rw[e4]
  try simp only[cm,cG]
  rw[show af 0 1 (aa [ph p n k D m])=some () from rfl]
  simp only[cG]
  rw[nZ (by simp only[bF,aa,List.length_map,List.length_take,List.length_singleton];omega)]
  simp only[cG]
  rw[ZL hm,gk (show i<=1048577 by omega)]
  rw[show af 0 (bF (aa ((ms.take i).map (ph p n k D))) (aa [ph p n k D m])) (aa ((ms.take (i+1)).map (ph p n k D)))=some () from tf (by simp only[bF,aa,List.length_map,List.length_take,List.length_singleton];omega)]
  simp only[cG]
  try rw[show af 0 0 (aa ([]:List Int))=some () from rfl]
  try rw[show af 0 0 (aa ([]:List (Int×(Int×(List Int)))))=some () from rfl]
  try simp only[cm,cG]
 rw[eH]
 dsimp only
 simp only[kG,cG]
end Go.Am
end
section
namespace Go.Am
structure JM (p:Int) (r:Nat) (M N:aL) (t k j:Nat) (inv:Int):Prop where
 tk:t<=k
 kr:k<r
 ne:M k j≠0
 one:M k j*inv%p=1
 nt:∀b,N t b=M k b*inv%p
 na:∀a,a<r->a≠t->∀b,N a b=(cO M t k a b+(p - cO M t k a j)*N t b)%p
 first:∀i,t<=i->i<k->M i j=0
theorem PF {p:Int} {r c:Nat} {s:aL×List Int×Int} {j:Nat} (cN:dv p=true) (I:RI p r c s j) (hj:j<c):
  (jD p r s j=s/\∀i,s.2.1.length<=i->i<r->s.1 i j=0)\/
   ∃k N inv,jD p r s j=(N,s.2.1++[(j:Int)],Ii p s.1 s.2.1.length j k s.2.2)/\JM p r s.1 N s.2.1.length k j inv/\s.2.1.length<r:=by
 have hp:cY p:=jS cN
 by_cases hl:s.2.1.length<r
 ·cases hk:oE s.1 j (r - s.2.1.length) s.2.1.length with
  |none=>exact .inl ⟨PG hl hk,fun i h1 h2=>Ic hk i h1 (by omega)⟩
  |some k=>
   have hq:=DI hk
   have ib:k<r:=by omega
   have hx:f0 p (s.1 k j):=I.m k ib j hj
   have hi:=Ni cN hx hq.2.2
   have zW:cO s.1 s.2.1.length k s.2.1.length j=s.1 k j:=if_pos rfl
   refine .inr ⟨k,_,jR p 1 (s.1 k j) (p - 2).toNat,PH hl hk,⟨hq.1,ib,hq.2.2,hi,fun b=>?_,fun a ha bO b=>?_,Pv hk⟩,hl⟩
   ·unfold eD
    rw[if_neg (by omega)]
    unfold nE qY
    rw[if_pos rfl,zW]
    congr 2
    exact if_pos rfl
   ·have e1:∀y,nE p s.1 s.2.1.length j k a y=cO s.1 s.2.1.length k a y:=fun y=>by unfold nE qY;rw[if_neg bO]
    show eD p _ _ _ _ a b=_
    rw[show eD p (nE p s.1 s.2.1.length j k) s.2.1.length j r s.2.1.length b=nE p s.1 s.2.1.length j k s.2.1.length b from if_neg (by omega)]
    unfold eD
    rw[if_pos ⟨ha,bO⟩,e1,e1]
 ·refine .inl ⟨by unfold jD;rw[if_neg hl],fun i h1 h2=>by omega⟩
def pv (L:List Int) (i:Nat):Nat:=(L.getD i 0).toNat
theorem Pz {L:List Int} {x:Int} {i:Nat} (h:i<L.length):pv (L++[x]) i=pv L i:=by
 unfold pv
 rw[List.getD_eq_getElem?_getD,List.getD_eq_getElem?_getD,List.getElem?_append_left h]
theorem yt {L:List Int} {j:Nat}:pv (L++[(j:Int)]) L.length=j:=by
 unfold pv
 rw[List.getD_eq_getElem?_getD,List.getElem?_append_right (Nat.le_refl _),Nat.sub_self]
 rfl
structure RF (r:Nat) (s:aL×List Int×Int) (j:Nat):Prop where
 lt:∀i,i<s.2.1.length->pv s.2.1 i<j
 mono:∀i i',i<i'->i'<s.2.1.length->pv s.2.1 i<pv s.2.1 i'
 one:∀i,i<s.2.1.length->s.1 i (pv s.2.1 i)=1
 bD:∀i,i<s.2.1.length->∀a,a<r->a≠i->s.1 a (pv s.2.1 i)=0
 low:∀i,i<s.2.1.length->∀b,b<pv s.2.1 i->s.1 i b=0
 zero:∀i,s.2.1.length<=i->i<r->∀b,b<j->s.1 i b=0
theorem RF.step {p:Int} {r c:Nat} {s:aL×List Int×Int} {j:Nat} (cN:dv p=true) (I:RI p r c s j) (hj:j<c) (h:RF r s j):RF r (jD p r s j) (j+1):=by
 have hp:cY p:=jS cN
 rcases PF cN I hj with⟨e,hz⟩|⟨k,N,inv,e,P,hl⟩
 ·rw[e]
  refine⟨fun i hi=>by have:=h.lt i hi;omega,h.mono,h.one,h.bD,h.low,fun i h1 h2 b hb=>?_⟩
  by_cases xr:b=j
  ·rw[xr];exact hz i h1 h2
  ·exact h.zero i h1 h2 b (by omega)
 ·rw[e]
  obtain⟨M,L,d⟩:=s
  obtain⟨tk,kr,ne,one,nt,na,first⟩:=P
  dsimp only at tk kr ne one nt na first hl e⊢
  have bL:∀i,i<L.length->pv L i<j:=h.lt
  have tB:∀i,i<L.length->pv (L++[(j:Int)]) i=pv L i:=fun i hi=>Pz hi
  have mJ:=hp.1
  have Pm:∀b,b<j->N L.length b=0:=fun b hb=>by
   rw[nt,show M k b=0 from h.zero k tk kr b hb,Int.zero_mul,Int.zero_emod]
  have Pn:N L.length j=1:=by rw[nt];exact one
  have eR:∀a,a<r->a≠L.length->∀b,b<j->N a b=cO M L.length k a b:=fun a ha bO b hb=>by
   rw[na a ha bO,Pm b hb,Int.mul_zero,Int.add_zero]
   have hs:f0 p (cO M L.length k a b):=I4 I.m hl kr a ha b (by omega)
   exact Int.emod_eq_of_lt hs.1 hs.2
  have Sn:∀i,i<L.length->∀b,cO M L.length k i b=M i b:=fun i hi b=>by
   unfold cO;rw[if_neg (by omega),if_neg (by omega)]
  have Xy:∀a,L.length<=a->a<r->∀b,b<j->cO M L.length k a b=0:=fun a h1 h2 b hb=>by
   unfold cO
   split
   ·exact h.zero k tk kr b hb
   ·split
    ·exact h.zero _ (Nat.le_refl _) hl b hb
    ·exact h.zero a h1 h2 b hb
  refine⟨?_,?_,?_,?_,?_,?_⟩<;>dsimp only
  ·intro i hi
   simp only[List.length_append,List.length_cons,List.length_nil] at hi
   by_cases fK:i<L.length
   ·rw[tB i fK];have:=bL i fK;omega
   ·rw[show i=L.length by omega,yt];omega
  ·intro i i' h1 h2
   simp only[List.length_append,List.length_cons,List.length_nil] at h2
   rw[tB i (by omega)]
   by_cases fK:i'<L.length
   ·rw[tB i' fK];exact h.mono i i' h1 fK
   ·rw[show i'=L.length by omega,yt];exact bL i (by omega)
  ·intro i hi
   simp only[List.length_append,List.length_cons,List.length_nil] at hi
   by_cases fK:i<L.length
   ·rw[tB i fK,eR i (by omega) (by omega) _ (bL i fK),Sn i fK];exact h.one i fK
   ·rw[show i=L.length by omega,yt];exact Pn
  ·intro i hi a ha hai
   simp only[List.length_append,List.length_cons,List.length_nil] at hi
   by_cases fK:i<L.length
   ·rw[tB i fK]
    by_cases bO:a=L.length
    ·rw[bO];exact Pm _ (bL i fK)
    ·rw[eR a ha bO _ (bL i fK)]
     by_cases th:a<L.length
     ·rw[Sn a th];exact h.bD i fK a ha hai
     ·exact Xy a (by omega) ha _ (bL i fK)
   ·have GY:i=L.length:=by omega
    rw[GY,yt]
    rw[na a ha (by omega),Pn,Int.mul_one]
    rw[show cO M L.length k a j+(p - cO M L.length k a j)=p by omega]
    exact Int.emod_self
  ·intro i hi b hb
   simp only[List.length_append,List.length_cons,List.length_nil] at hi
   by_cases fK:i<L.length
   ·rw[tB i fK] at hb
    have hlj:=bL i fK
    rw[eR i (by omega) (by omega) _ (by omega),Sn i fK]
    exact h.low i fK b hb
   ·have GY:i=L.length:=by omega
    rw[GY,yt] at hb
    rw[GY]
    exact Pm b hb
  ·intro i h1 h2 b hb
   simp only[List.length_append,List.length_cons,List.length_nil] at h1
   by_cases xr:b=j
   ·rw[xr,na i h2 (by omega),Pn,Int.mul_one]
    rw[show cO M L.length k i j+(p - cO M L.length k i j)=p by omega]
    exact Int.emod_self
   ·rw[eR i h2 (by omega) b (by omega)]
    exact Xy i (by omega) h2 b (by omega)
theorem DM {p:Int} {r c:Nat} {M:aL} (cN:dv p=true) (hM:bZ p r c M):∀j,j<=c->RF r (dG p r M j) j
 |0,_=>⟨fun i hi=>absurd hi (Nat.not_lt_zero i),fun i i' _ hi=>absurd hi (Nat.not_lt_zero i'),fun i hi=>absurd hi (Nat.not_lt_zero i),fun i hi=>absurd hi (Nat.not_lt_zero i),fun i hi=>absurd hi (Nat.not_lt_zero i),fun i _ _ b hb=>absurd hb (Nat.not_lt_zero b)⟩
 |j+1,hj=>RF.step cN (oH (jS cN) hM j) (by omega) (DM cN hM j (by omega))
def Sp (p:Int) (r c:Nat) (M:aL) (x:Nat->Int):Prop:=∃y:Nat->Int,∀b,b<c->x b%p=sm r (fun i=>y i*M i b)%p
theorem jh {p:Int} {r c:Nat} {M:aL} {i:Nat} (hi:i<r):Sp p r c M (M i):=
 ⟨fun k=>if k=i then 1 else 0,fun b _=>by
  have e:sm r (fun k=>(if k=i then 1 else 0)*M k b)=M i b:=by
   rw[oM (a:=i) r hi (fun k _ aw=>by simp[aw])]
   simp
  exact congrArg (·%p) e.symm⟩
theorem oR {p:Int} {r c:Nat} {M:aL} {x x':Nat->Int} (h:Sp p r c M x) (e:∀b,b<c->x' b%p=x b%p):Sp p r c M x':=by
 obtain⟨y,hy⟩:=h
 exact⟨y,fun b hb=>(e b hb).trans (hy b hb)⟩
theorem E1 {p:Int} {r c:Nat} {M:aL} {x x':Nat->Int} (f:Int) (h:Sp p r c M x) (h':Sp p r c M x'):Sp p r c M (fun b=>x b+f*x' b):=by
 obtain⟨y,hy⟩:=h
 obtain⟨y',hy'⟩:=h'
 refine⟨fun i=>y i+f*y' i,fun b hb=>?_⟩
 have e:sm r (fun i=>(y i+f*y' i)*M i b)=sm r (fun i=>y i*M i b)+f*sm r (fun i=>y' i*M i b):=by
  rw[<-q9,<-IH]
  exact dP fun i _=>by rw[Int.add_mul,Int.mul_assoc]
 rw[e,Int.add_emod,Int.mul_emod,hy b hb,hy' b hb,<-Int.mul_emod,<-Int.add_emod]
theorem aal {p:Int} {r c:Nat} {M:aL}:Sp p r c M (fun _=>0):=⟨fun _=>0,fun b _=>by rw[nL r fun i _=>Int.zero_mul _]⟩
theorem SY {p:Int} {r c:Nat} {M:aL} {x:Nat->Int} (f:Int) (h:Sp p r c M x):Sp p r c M (fun b=>x b*f):=
 oR (E1 f aal h) fun b _=>by rw[Int.zero_add,Int.mul_comm]
theorem ru {p:Int} {r r' c:Nat} {M N:aL} (h:∀i,i<r'->Sp p r c M (N i)) {x:Nat->Int} (hx:Sp p r' c N x):Sp p r c M x:=by
 obtain⟨y,hy⟩:=hx
 have h':∀i,∃y:Nat->Int,i<r'->∀b,b<c->N i b%p=sm r (fun k=>y k*M k b)%p:=by
  intro i
  by_cases hi:i<r'
  ·obtain⟨y,hy⟩:=h i hi
   exact⟨y,fun _=>hy⟩
  ·exact⟨fun _=>0,fun hi'=>absurd hi' hi⟩
 obtain⟨Y,hY⟩:=Classical.axiomOfChoice h'
 refine⟨fun k=>sm r' (fun i=>y i*Y i k),fun b hb=>?_⟩
 rw[hy b hb]
 have e:sm r (fun k=>sm r' (fun i=>y i*Y i k)*M k b)=sm r' (fun i=>y i*sm r (fun k=>Y i k*M k b)):=by
  rw[dP (g:=fun k=>sm r' (fun i=>y i*Y i k*M k b)) fun k _=>(yD (M k b) _ r').symm]
  rw[yE]
  exact dP fun i _=>by rw[<-q9];exact dP fun k _=>Int.mul_assoc _ _ _
 rw[e]
 exact j3 fun i hi=>by rw[Int.mul_emod,hY i hi b hb,<-Int.mul_emod]
theorem JM.span {p:Int} {r c:Nat} {M N:aL} {t k j:Nat} {inv:Int} (h:JM p r M N t k j inv) (ht:t<r) (hj:j<c) (x:Nat->Int):Sp p r c N x↔Sp p r c M x:=by
 obtain⟨tk,kr,ne,one,nt,na,_⟩:=h
 have sw:∀a,a<r->Sp p r c M (cO M t k a):=by
  intro a ha
  unfold cO
  by_cases h1:a=t
  ·simp only[h1,if_true];exact jh kr
  ·by_cases h2:a=k
   ·simp only[h2]
    by_cases h3:k=t
    ·simp only[h3,if_true];exact jh ht
    ·simp only[if_neg h3,if_true];exact jh ht
   ·simp only[if_neg h1,if_neg h2];exact jh ha
 have Vb:Sp p r c M (N t):=oR (SY inv (jh kr)) fun b _=>by rw[nt,Int.emod_emod_of_dvd _ (Int.dvd_refl p)]
 constructor
 ·refine ru fun a ha=>?_
  by_cases bO:a=t
  ·rw[bO];exact Vb
  ·exact oR (E1 (p - cO M t k a j) (sw a ha) Vb) fun b _=>by rw[na a ha bO,Int.emod_emod_of_dvd _ (Int.dvd_refl p)]
 ·
  have hk:Sp p r c N (M k):=oR (SY (M k j) (jh ht)) fun b _=>by
   rw[nt,Int.mul_emod,Int.emod_emod_of_dvd _ (Int.dvd_refl p),<-Int.mul_emod]
   rw[show M k b*inv*M k j=M k b*(M k j*inv) by rw[Int.mul_assoc,Int.mul_comm inv]]
   rw[Int.mul_emod,one,Int.mul_one,Int.emod_emod_of_dvd _ (Int.dvd_refl p)]
  have hs:∀a,a<r->Sp p r c N (cO M t k a):=by
   intro a ha
   by_cases bO:a=t
   ·have e:cO M t k a=M k:=by unfold cO;funext b;rw[if_pos bO]
    rw[e];exact hk
   ·refine oR (E1 (cO M t k a j) (jh ha) (jh ht)) fun b _=>?_
    rw[na a ha bO,Int.emod_add_emod]
    rw[show cO M t k a b+(p - cO M t k a j)*N t b+cO M t k a j*N t b=cO M t k a b+p*N t b by grind]
    rw[Int.add_mul_emod_self_left]
  refine ru fun a ha=>?_
  by_cases bO:a=t
  ·have e:M a=cO M t k k:=by
    unfold cO;funext b
    by_cases L6:k=t
    ·rw[if_pos L6,bO,L6]
    ·rw[if_neg L6,if_pos rfl,bO]
   rw[e];exact hs k kr
  ·by_cases Vg:a=k
   ·rw[Vg];exact hk
   ·have e:M a=cO M t k a:=by unfold cO;funext b;rw[if_neg bO,if_neg Vg]
    rw[e];exact hs a ha
theorem Ij {p:Int} {r c:Nat} {M:aL} (cN:dv p=true) (hM:bZ p r c M) (x:Nat->Int):∀j,j<=c->(Sp p r c (dG p r M j).1 x↔Sp p r c M x)
 |0,_=>Iff.rfl
 |j+1,hj=>by
  rw[<-Ij cN hM x j (by omega)]
  show Sp p r c (jD p r (dG p r M j) j).1 x↔_
  rcases PF cN (oH (jS cN) hM j) (show j<c by omega) with⟨e,_⟩|⟨k,N,inv,e,P,hl⟩
  ·rw[e]
  ·rw[e];exact P.span hl (by omega) x
def SN (p:Int) (x:Nat->Int) (j:Nat):Prop:=(∀b,b<j->x b%p=0)/\x j%p≠0
theorem DJ {p:Int} {r c:Nat} {M:aL} (cN:dv p=true) (hM:bZ p r c M) {j:Nat} (hj:j<c):
  (∃x,Sp p r c M x/\SN p x j)↔∃i,i<(dG p r M c).2.1.length/\pv (dG p r M c).2.1 i=j:=by
 have hp:cY p:=jS cN
 have mJ:=hp.1
 have R:=DM cN hM c (Nat.le_refl c)
 have I:=oH hp hM c
 have qI:=fun x=>Ij cN hM x c (Nat.le_refl c)
 generalize dG p r M c=s at R I qI
 constructor
 ·rintro⟨x,hx,h0,h1⟩
  obtain⟨y,hy⟩:=(qI x).2 hx
  have cu:∀i,i<s.2.1.length->x (pv s.2.1 i)%p=y i%p:=by
   intro i hi
   rw[hy _ (R.lt i hi),oM (a:=i) r (by have:=I.l;omega) fun a ha aw=>by rw[R.bD i hi a ha aw,Int.mul_zero]]
   rw[R.one i hi,Int.mul_one]
  rw[hy j hj] at h1
  apply Classical.byContradiction
  intro cf
  apply h1
  rw[show(0:Int)=sm r (fun _=>0)%p by rw[nL r fun _ _=>rfl,Int.zero_emod]]
  refine j3 fun i hi=>?_
  by_cases fK:i<s.2.1.length
  ·rcases Nat.lt_trichotomy (pv s.2.1 i) j with h|h|h
   ·have hz:y i%p=0:=by rw[<-cu i fK];exact h0 _ h
    rw[Int.mul_emod,hz,Int.zero_mul]
   ·exact absurd ⟨i,fK,h⟩ cf
   ·rw[R.low i fK j h,Int.mul_zero]
  ·rw[R.zero i (by omega) hi j hj,Int.mul_zero]
 ·rintro⟨i,hi,rfl⟩
  refine⟨s.1 i,(qI _).1 (jh (by have:=I.l;omega)),fun b hb=>by rw[R.low i hi b hb,Int.zero_emod],?_⟩
  rw[R.one i hi,Int.emod_eq_of_lt (by decide) (by omega)]
  decide
def sf (L:List Int) (j:Nat):Bool:=(List.range L.length).any fun i=>pv L i==j
theorem si {L:List Int} {j:Nat}:sf L j=true↔∃i,i<L.length/\pv L i=j:=by
 simp only[sf,List.any_eq_true,List.mem_range,beq_iff_eq]
theorem B6 (P:Nat->Bool) (j:Nat):(List.range (j+1)).countP P=(List.range j).countP P+(if P j=true then 1 else 0):=by
 rw[List.range_succ,List.countP_append]
 simp[List.countP_cons]
theorem B7 {p:Int} {r c:Nat} {M:aL} (cN:dv p=true) (hM:bZ p r c M):∀j,j<=c->(List.range j).countP (sf (dG p r M j).2.1)=(dG p r M j).2.1.length
 |0,_=>rfl
 |j+1,hj=>by
  have ih:=B7 cN hM j (by omega)
  have R:=DM cN hM j (by omega)
  show(List.range (j+1)).countP (sf (jD p r (dG p r M j) j).2.1)=(jD p r (dG p r M j) j).2.1.length
  rw[B6]
  rcases PF cN (oH (jS cN) hM j) (show j<c by omega) with⟨e,_⟩|⟨k,N,inv,e,P,hl⟩
  ·rw[e,ih]
   have:sf (dG p r M j).2.1 j=false:=by
    rw[Bool.eq_false_iff]
    intro h
    obtain⟨i,hi,he⟩:=si.1 h
    have:=R.lt i hi
    omega
   rw[this]
   simp
  ·rw[e]
   dsimp only
   have h1:sf ((dG p r M j).2.1++[(j:Int)]) j=true:=si.2 ⟨_,by simp,yt⟩
   have h2:(List.range j).countP (sf ((dG p r M j).2.1++[(j:Int)]))=(List.range j).countP (sf (dG p r M j).2.1):=by
    refine List.countP_congr fun b hb=>?_
    have hb:=List.mem_range.1 hb
    rw[si,si]
    constructor
    ·rintro⟨i,hi,he⟩
     simp only[List.length_append,List.length_cons,List.length_nil] at hi
     by_cases fK:i<(dG p r M j).2.1.length
     ·rw[Pz fK] at he;exact⟨i,fK,he⟩
     ·rw[show i=(dG p r M j).2.1.length by omega,yt] at he;omega
    ·rintro⟨i,hi,he⟩
     exact⟨i,by simp only[List.length_append];omega,by rw[Pz hi];exact he⟩
   rw[h1,h2,ih]
   simp
theorem Kr {P Q:Nat->Bool}:∀n,(∀i,i<n->P i=true->Q i=true)->(List.range n).countP P<=(List.range n).countP Q
 |0,_=>Nat.le_refl _
 |n+1,h=>by
  rw[B6,B6]
  have:=Kr n fun i hi=>h i (by omega)
  cases hP:P n with
  |false=>simp;omega
  |true=>rw[h n (by omega) hP];omega
theorem Yr {p:Int} {r r' c:Nat} {M M':aL} (cN:dv p=true) (hM:bZ p r c M) (tg:bZ p r' c M') (h:∀x,Sp p r c M x->Sp p r' c M' x):
  (dG p r M c).2.1.length<=(dG p r' M' c).2.1.length:=by
 rw[<-B7 cN hM c (Nat.le_refl c),<-B7 cN tg c (Nat.le_refl c)]
 refine Kr c fun j hj hP=>?_
 obtain⟨x,hx,hl⟩:=(DJ cN hM hj).2 (si.1 hP)
 exact si.2 ((DJ cN tg hj).1 ⟨x,h x hx,hl⟩)
end Go.Am
end
section
namespace Go.Am
def d2 (a b c d:Int):Int:=a*d - b*c
def d3 (a b c d e f g h i:Int):Int:=a*d2 e f h i - b*d2 d f g i+c*d2 d e g h
theorem ia.sub {p a b c d:Int} (h:ia p a b) (h':ia p c d):ia p (a - c) (b - d):=by
 obtain⟨q,rfl⟩:=h;obtain⟨q',rfl⟩:=h';exact⟨q - q',by grind⟩
end Go.Am
end
section
namespace Go.Am
section
variable {p:Int} {n:Nat} {M0:aL}
end
end Go.Am
end
section
namespace Go.Am
structure alr (p:Int) (n:Nat) (A B:aL) (t k:Nat) (inv:Int) (f:Nat->Int):Prop where
 bt:∀b,b<n->ia p (B t b) (inv*A k b)
 ba:∀a,a<n->a≠t->∀b,b<n->ia p (B a b) (cO A t k a b+f a*B t b)
theorem Yp {n:Nat} {s:aL×List Int×Int} {j:Nat} (R:RF n s j):∀i,i<s.2.1.length->i<=pv s.2.1 i
 |0,_=>Nat.zero_le _
 |i+1,hi=>by
  have:=Yp R i (by omega)
  have:=R.mono i (i+1) (by omega) hi
  omega
end Go.Am
end
