/- Mx, M1, M4, M5, M11, M22, M6, M7, M8, M9, M23, M24, M25, M31, Fm, M14, M15, M16, M17, M19, M33, M32, M34, M62, M64, M36, M18, M38, M48, M49, M50, M51, M52, M12, M20, M21, M53, M56, M65: parts of the proof. No condition. -/
import Derived.Test.YtbgmbplglejidaaMT
import Derived.Lib.BitFns
set_option linter.unusedVariables false
set_option linter.unusedSimpArgs false
section
namespace Go.Am
def aq (r c:Nat) (M:Nat->Nat->Int):List Int:=(List.range (r*c)).map fun n=>M (n/c) (n%c)
def bB (c:Nat) (l:List Int):Nat->Nat->Int:=fun i j=>l.getD (i*c+j) 0
def jK (M:Nat->Nat->Int) (i j:Nat) (x:Int):Nat->Nat->Int:=fun a b=>if a=i/\b=j then x else M a b
theorem jV {r c i j:Nat} (hi:i<r) (hj:j<c):i*c+j<r*c:=by
 have:(i+1)*c<=r*c:=Nat.mul_le_mul_right _ hi
 rw[Nat.add_mul] at this
 omega
theorem pY {c i j:Nat} (hj:j<c):(i*c+j)/c=i:=by
 rw[Nat.mul_comm,Nat.mul_add_div (by omega),Nat.div_eq_of_lt hj,Nat.add_zero]
theorem q9 {c i j:Nat} (hj:j<c):(i*c+j)%c=j:=by
 rw[Nat.mul_comm,Nat.mul_add_mod,Nat.mod_eq_of_lt hj]
theorem iu (r c:Nat) (M:Nat->Nat->Int):(aq r c M).length=r*c:=by simp[aq]
theorem JO {r c i j:Nat} (M:Nat->Nat->Int) (hi:i<r) (hj:j<c):(aq r c M)[i*c+j]? =some (M i j):=by
 unfold aq
 rw[List.getElem?_map,List.getElem?_range (jV hi hj)]
 simp[pY hj,q9 hj]
theorem iN {r c:Nat} {M M':Nat->Nat->Int} (h:∀i,i<r->∀j,j<c->M i j=M' i j):aq r c M=aq r c M':=by
 unfold aq
 refine List.map_congr_left fun n hn=>?_
 have hn:=List.mem_range.1 hn
 have hc:0<c:=by
  rcases Nat.eq_zero_or_pos c with h|h
  ·subst h;simp at hn
  ·exact h
 exact h _ ((Nat.div_lt_iff_lt_mul hc).2 hn) _ (Nat.mod_lt _ hc)
theorem aiB {r c i j:Nat} (M:Nat->Nat->Int) (hj:j<c) (x:Int):(aq r c M).set (i*c+j) x=aq r c (jK M i j x):=by
 apply List.ext_getElem?
 intro n
 rw[List.getElem?_set,iu]
 unfold aq
 simp only[List.getElem?_map]
 by_cases hn:n<r*c
 ·rw[List.getElem?_range hn]
  have hc:0<c:=by omega
  by_cases he:i*c+j=n
  ·rw[if_pos he,if_pos (by omega)]
   subst he
   simp[jK,pY hj,q9 hj]
  ·rw[if_neg he]
   simp only[Option.map_some,jK]
   rw[if_neg]
   rintro⟨h1,h2⟩
   apply he
   rw[<-h1,<-h2]
   have:=Nat.div_add_mod n c
   rw[Nat.mul_comm] at this
   exact this
 ·rw[List.getElem?_eq_none (by simp;omega)]
  by_cases he:i*c+j=n
  ·rw[if_pos he,if_neg (by omega)];rfl
  ·rw[if_neg he];rfl
theorem qP {r c:Nat} {l:List Int} (h:l.length=r*c):aq r c (bB c l)=l:=by
 apply List.ext_getElem?
 intro n
 unfold aq
 simp only[List.getElem?_map]
 by_cases hn:n<r*c
 ·rw[List.getElem?_range hn,List.getElem?_eq_getElem (by omega)]
  simp only[Option.map_some,bB]
  have:=Nat.div_add_mod n c
  rw[Nat.mul_comm] at this
  rw[this,List.getD_eq_getElem?_getD,List.getElem?_eq_getElem (by omega)]
  rfl
 ·rw[List.getElem?_eq_none (by simp;omega),List.getElem?_eq_none (by omega)]
  rfl
theorem j7 {r c i j:Nat} (M:Nat->Nat->Int) (hi:i<r) (hj:j<c):bB c (aq r c M) i j=M i j:=by
 unfold bB
 rw[List.getD_eq_getElem?_getD,JO M hi hj]
 rfl
theorem aiA (r c:Nat) (x:Int):eU (r*c) x=aq r c (fun _ _=>x):=by
 unfold aq eU
 rw[List.map_const',List.length_range]
theorem tG {i c j:Nat} (hi:i<=1048576) (hc:c<=1048576) (hj:j<=1048576):bA .i64 (cd .i64 (i:Int) (c:Int)) (j:Int)=((i*c+j:Nat):Int):=by
 have h1:i*c<=1048576*1048576:=Nat.mul_le_mul hi hc
 have e:(i:Int)*(c:Int)=((i*c:Nat):Int):=by norm_cast
 rw[cd,AK (by omega) (by omega),gw (by omega) (by omega),e]
 omega
theorem sD {i c:Nat} (hi:i<=1048576) (hc:c<=1048576):cd .i64 (i:Int) (c:Int)=((i*c:Nat):Int):=by
 have h1:i*c<=1048576*1048576:=Nat.mul_le_mul hi hc
 have e:(i:Int)*(c:Int)=((i*c:Nat):Int):=by norm_cast
 rw[cd,AK (by omega) (by omega),e]
theorem aab {r c i j:Nat} (M:Nat->Nat->Int) (hi:i<r) (hj:j<c):eo (aq r c M) ((i*c+j:Nat):Int)=some (M i j):=by rw[eu,JO M hi hj]
theorem afR {r c i j:Nat} (M:Nat->Nat->Int) (hi:i<r) (hj:j<c):fj ((i*c+j:Nat):Int) (aa (aq r c M))=some (i*c+j):=qE (by unfold aa;rw[iu];exact jV hi hj)
theorem aiC {r c i j:Nat} (M:Nat->Nat->Int) (hi:i<r) (hj:j<c):dt (aq r c M) (i*c+j)=some (M i j):=JO M hi hj
theorem arM {r c i j:Nat} (M:Nat->Nat->Int) (hj:j<c) (x:Int):bR (aq r c M) (i*c+j) x=aq r c (jK M i j x):=aiB M hj x
theorem zS (r c:Nat) (M:Nat->Nat->Int):aa (aq r c M)=r*c:=iu r c M
theorem uQ (r c:Nat) (M M':Nat->Nat->Int):ai 0 (aa (aq r c M)) (aa (aq r c M'))=some ():=by rw[zS,zS];exact cC _
theorem US (r c:Nat) (M M':Nat->Nat->Int):qm (aa (aq r c M)) (aa (aq r c M'))=some ():=by rw[zS,zS];exact An rfl
theorem TB {a p:Int} (ha:0<=a) (hp:0<p):iZ a p=some (a%p):=by
 unfold iZ
 rw[if_neg (by omega),Int.tmod_eq_emod_of_nonneg ha]
theorem j3 {i n:Nat} (h:i<n):bG (i:Int) (n:Int)=true:=df (by omega)
theorem j0 {i n:Nat} (h:n<=i):bG (i:Int) (n:Int)=false:=cN (by omega)
theorem fF {i:Nat} (h:i<=1048577):bA .i64 (i:Int) 1=((i+1:Nat):Int):=by rw[gw (by omega) (by omega)];omega
def dh (p:Int):Prop:=2<=p/\p<=1000003
instance (p:Int):Decidable (dh p):=inferInstanceAs (Decidable (2<=p/\p<=1000003))
def eN (p x:Int):Prop:=0<=x/\x<p
instance (p x:Int):Decidable (eN p x):=inferInstanceAs (Decidable (0<=x/\x<p))
theorem yL {p:Int} (hp:dh p) (a:Int):eN p (a%p):=⟨Int.emod_nonneg _ (by have:=hp.1;omega),Int.emod_lt_of_pos _ (by have:=hp.1;omega)⟩
theorem eN.le {p x:Int} (h:eN p x):0<=x/\x<=p:=⟨h.1,Int.le_of_lt h.2⟩
theorem eN.s {p x:Int} (hp:dh p) (h:eN p x):0<=x/\x<=1000003000000:=⟨h.1,by have:=h.2;have:=hp.2;omega⟩
theorem Tn {p a b:Int} (hp:dh p) (ha:0<=a/\a<=p) (hb:0<=b/\b<=p):0<=a*b/\a*b<=1000006000009:=by
 refine⟨Int.mul_nonneg ha.1 hb.1,?_⟩
 have h1:=hp.2
 have:=Int.mul_le_mul (show a<=1000003 by omega) (show b<=1000003 by omega) hb.1 (by omega)
 omega
theorem ab2 {p a b:Int} (hp:dh p) (ha:0<=a/\a<=p) (hb:0<=b/\b<=p):cd .i64 a b=a*b:=by
 have:=Tn hp ha hb
 exact AK (by omega) (by omega)
theorem KF {p s a b:Int} (hp:dh p) (hs:0<=s/\s<=1000003000000) (ha:0<=a/\a<=p) (hb:0<=b/\b<=p):iZ (bA .i64 s (cd .i64 a b)) p=some ((s+a*b)%p):=by
 have h:=Tn hp ha hb
 rw[ab2 hp ha hb,gw (by omega) (by omega),TB (by omega) (by have:=hp.1;omega)]
theorem S2 {p a b:Int} (hp:dh p) (ha:0<=a/\a<=p) (hb:0<=b/\b<=p):iZ (cd .i64 a b) p=some (a*b%p):=by
 have h:=Tn hp ha hb
 rw[ab2 hp ha hb,TB h.1 (by have:=hp.1;omega)]
def ic (p:Int) (f g:Nat->Int):Nat->Int
 |0=>0
 |n+1=>(ic p f g n+f n*g n)%p
theorem wE {p:Int} (hp:dh p) (f g:Nat->Int):∀n,eN p (ic p f g n)
 |0=>⟨Int.le_refl _,by have:=hp.1;show(0:Int)<p;omega⟩
 |n+1=>yL hp _
def iC (p:Int) (k:Nat) (A B:Nat->Nat->Int):Nat->Nat->Int:=fun i j=>ic p (fun t=>A i t) (fun t=>B t j) k
def cT (p:Int) (r c:Nat) (M:Nat->Nat->Int):Prop:=∀i,i<r->∀j,j<c->eN p (M i j)
def dD (p:Int) (l:List Int):Prop:=∀x∈l,eN p x
instance (p:Int) (l:List Int):Decidable (dD p l):=inferInstanceAs (Decidable (∀x∈l,eN p x))
theorem iL {p:Int} {r c:Nat} {M:Nat->Nat->Int}:dD p (aq r c M)↔cT p r c M:=by
 constructor
 ·intro h i hi j hj
  exact h _ (List.mem_of_getElem? (JO M hi hj))
 ·intro h x hx
  unfold aq at hx
  obtain⟨n,hn,rfl⟩:=List.mem_map.1 hx
  have hn:=List.mem_range.1 hn
  have hc:0<c:=by
   rcases Nat.eq_zero_or_pos c with h|h
   ·subst h;simp at hn
   ·exact h
  exact h _ ((Nat.div_lt_iff_lt_mul hc).2 hn) _ (Nat.mod_lt _ hc)
def qc (x:Int×Int×List Int):Prop:=(0<=x.1/\x.1<=4096)/\(0<=x.2.1/\x.2.1<=4096)/\(x.2.2.length:Int)=x.1*x.2.1/\x.2.2.length<=1048576
instance (x:Int×Int×List Int):Decidable (qc x):=by unfold qc;infer_instance
theorem zU {x:Int×Int×List Int} (h:qc x):∃(r c:Nat) (M:Nat->Nat->Int),x=((r:Int),(c:Int),aq r c M)/\r<=4096/\c<=4096/\r*c<=1048576:=by
 obtain⟨r,c,l⟩:=x
 obtain⟨h1,h2,h3,h4⟩:=h
 simp only at h1 h2 h3 h4
 obtain⟨r,rfl⟩:=fu h1.1
 obtain⟨c,rfl⟩:=fu h2.1
 have e:l.length=r*c:=by
  have:((r:Int)*(c:Int))=((r*c:Nat):Int):=by norm_cast
  rw[this] at h3;exact_mod_cast h3
 exact⟨r,c,bB c l,by rw[qP e],by omega,by omega,by omega⟩
theorem zV {r c:Nat} (M:Nat->Nat->Int) (hr:r<=4096) (hc:c<=4096) (h:r*c<=1048576):qc ((r:Int),(c:Int),aq r c M):=by
 refine⟨⟨by omega,by show(r:Int)<=4096;omega⟩,⟨by show(0:Int)<=c;omega,by show(c:Int)<=4096;omega⟩,?_,?_⟩
 ·simp only[iu];norm_cast
 ·simp only[iu];exact h
end Go.Am
end
section
namespace Go.Am
end Go.Am
end
section
namespace Go.Am
def rS (n:Int) (i:Nat):Bool:=decide ((i:Int)*i<=n)&&decide (n%(i:Int)=0)
def cu (n:Int):Bool:=decide (2<=n/\n<=1000003)&& !((List.range' 2 999).any (rS n))
def nE:Int->Option Bool:=fun(n:Int)=>some (cu n)
def Ks (m:Int) (v:Int):Bool:=decide (0<=v/\v<m)
def nB (m:Int) (l:List Int):Bool:=l.all (Ks m)
def v5:Int×List Int->Option Bool:=fun((m,l):Int×List Int)=>if l.length<=1048576 then some (nB m l) else none
def iB (m:Int) (x:Int×Int×List Int):Bool:=cu m&&(decide (0<=x.1/\x.1<=64)&&(decide (0<=x.2.1/\x.2.1<=64)&&(decide ((x.2.2.length:Int)=x.1*x.2.1)&&nB m x.2.2)))
def G0:Int×Int×Int×List Int->Option Bool:=fun((m,x):Int×Int×Int×List Int)=>if xY x<=1048576 then some (iB m x) else none
def rM:Int×Int×Int×List Int->Option Bool:=fun((m,x):Int×Int×Int×List Int)=>if xY x<=1048576 then some (iB m x) else none
def HM:ao:=[(.one,[.int .i64])]
def TP:ao:=[(.one,[.bool])]
def amX:aQ:=[]
def Ij:ao:=[(.one,[.int .i64]),(.one,[.list [.int .i64]])]
def Ug:ao:=[(.one,[.bool])]
def anl:aQ:=[]
def HN:ao:=[(.one,[.int .i64]),(.agg,[.int .i64,.int .i64,.list [.int .i64]])]
def TQ:ao:=[(.one,[.bool])]
def amY:aQ:=[]
def Ms (NN:Nat):Int->(Option Bool):=
 (fun(i0:Int)=>
 ax (bG i0 (2:Int))
 (some false)
 (ax (bG (1000003:Int) i0)
 (some false)
 (ca (bM NN (fun((i1,i2):(Int×Int))=>
 ax (iW (cd .i64 i2 i2) i1)
 ((iZ i1 i2).ab (fun i3=>
 ax (cJ i3 (0:Int))
 (some (Sum.inr (Sum.inr false)))
 (some (Sum.inl (i1,bA .i64 i2 1)))))
 (some (Sum.inr (Sum.inl ()))))
 (i0,(2:Int)))
 (fun _=>
 some true))))
def MH (NN:Nat):(Int×(List Int))->(Option Bool):=
 (fun((i0,l1):(Int×(List Int)))=>
 ca (bM NN (fun((i2,l3,i4,i5):(Int×((List Int)×(Int×Int))))=>
 ax (bG i5 i4)
 ((eo l3 i5).ab (fun i6=>
 ax (bG i6 (0:Int))
 (some (Sum.inr (Sum.inr false)))
 (ax (iW i2 i6)
 (some (Sum.inr (Sum.inr false)))
 (some (Sum.inl (i2,l3,i4,bA .i64 i5 1))))))
 (some (Sum.inr (Sum.inl ()))))
 (i0,l1,aS (aa l1),(0:Int)))
 (fun _=>
 some true))
def Mt (NN:Nat):(Int×(Int×(Int×(List Int))))->(Option Bool):=
 (fun((i0,i1,i2,l3):(Int×(Int×(Int×(List Int)))))=>
 (nE i0).ab (fun b4=>
 ax (dA b4)
 (some false)
 (ax (bG i1 (0:Int))
 (some false)
 (ax (bG i2 (0:Int))
 (some false)
 (ax (bG (64:Int) i1)
 (some false)
 (ax (bG (64:Int) i2)
 (some false)
 (ax (cJ (aS (aa l3)) (cd .i64 i1 i2))
 ((v5 (i0,l3)).ab (fun b5=>
 some b5))
 (some false))))))))
theorem o9 {a b:Int} (h1: -9223372036854775808<=a*b) (h2:a*b<=9223372036854775807):cd .i64 a b=a*b:=AK h1 h2
theorem Tz {n:Int} {i:Nat} (hn:0<=n) (hi:0<i):iZ n (i:Int)=some (n%(i:Int)):=by
 unfold iZ
 rw[if_neg (by omega),Int.tmod_eq_emod_of_nonneg hn]
theorem Wy {i j:Nat} (h:i<=j):(i:Int)*i<=(j:Int)*j:=by
 have:=Nat.mul_le_mul h h
 exact_mod_cast this
theorem agh {X Y:Type} {f:X->Option (X⊕(Y⊕Bool))} (n:Int) (mk:Nat->X) (r:Y) (hn:n<=1000003)
  (h1:∀i:Nat,2<=i->i<=1001->(i:Int)*i<=n->n%(i:Int)=0->f (mk i)=some (.inr (.inr false)))
  (h2:∀i:Nat,2<=i->i<=1001->(i:Int)*i<=n->n%(i:Int)≠0->f (mk i)=some (.inl (mk (i+1))))
  (h3:∀i:Nat,2<=i->i<=1001->¬(i:Int)*i<=n->f (mk i)=some (.inr (.inl r))) {x0:X} (hx:x0=mk 2):
  bM aC f x0=some (if(List.range' 2 999).any (rS n)=true then .inr false else .inl r):=by
 subst hx
 have bZ:∀(d i:Nat),2<=i->i+d=1001->∀N,d<N->bM N f (mk i)=some (if(List.range' i d).any (rS n)=true then .inr false else .inl r):=by
  intro d
  induction d with
  |zero=>
   intro i hi hd N hN
   obtain⟨N,rfl⟩:∃M,N=M+1:=⟨N - 1,by omega⟩
   have:i=1001:=by omega
   subst this
   rw[bM,h3 1001 (by omega) (by omega) (by omega)]
   rfl
  |succ d ih=>
   intro i hi hd N hN
   obtain⟨N,rfl⟩:∃M,N=M+1:=⟨N - 1,by omega⟩
   rw[List.range'_succ,List.any_cons]
   by_cases ig:(i:Int)*i<=n
   ·by_cases hm:n%(i:Int)=0
    ·rw[bM,h1 i hi (by omega) ig hm]
     simp[rS,ig,hm]
    ·rw[bM,h2 i hi (by omega) ig hm]
     simp only
     rw[ih (i+1) (by omega) (by omega) N (by omega),show rS n i=false by simp[rS,hm],Bool.false_or]
   ·rw[bM,h3 i hi (by omega) ig]
    have:(List.range' (i+1) d).any (rS n)=false:=by
     rw[List.any_eq_false]
     intro j hj
     have:=(List.mem_range'_1.1 hj).1
     have:=Wy (show i<=j by omega)
     simp only[rS,Bool.and_eq_true,decide_eq_true_eq,not_and]
     intro h;omega
    simp only
    rw[this]
    simp[rS,ig]
 exact bZ 999 2 (by omega) (by omega) aC (dk (by omega))
theorem Wz {i:Nat} (h:i<=1001):0<=(i:Int)*i/\(i:Int)*i<=1002001:=by
 have h1:=Wy h
 have h0:=Wy (Nat.zero_le i)
 omega
theorem ahe (x:Int) (y:Bool) (h:nE x=some y):Ms aC x=some y:=by
 rw[<-h]
 simp only[nE,Ms]
 by_cases h2:x<2
 ·rw[aR (df h2),cu,decide_eq_false (by omega)];rfl
 rw[aL (cN (by omega))]
 by_cases hx:1000003<x
 ·rw[aR (df hx),cu,decide_eq_false (by omega)];rfl
 rw[aL (cN (by omega))]
 rw[agh x (fun i=>(x,(i:Int))) () (by omega) ?_ ?_ ?_ ?_]
 ·have hr:(2<=x/\x<=1000003):=by omega
  by_cases hd:(List.range' 2 999).any (rS x)=true
  ·rw[if_pos hd,abn,cu,hd]
   simp
  ·rw[if_neg hd,fx,cu]
   simp[hd,hr]
 all_goals try simp only
 ·intro i h2 hi ig hm
  have hs:=Wz hi
  rw[o9 (by omega) (by omega),aR (xu ig),Tz (by omega) (by omega),av,aR (tg hm)]
 ·intro i h2 hi ig hm
  have hs:=Wz hi
  rw[o9 (by omega) (by omega),aR (xu ig),Tz (by omega) (by omega),av,aL (rW hm),gw (by omega) (by omega)]
  rfl
 ·intro i h2 hi ig
  have hs:=Wz hi
  rw[o9 (by omega) (by omega),aL (CO (by omega))]
 ·rfl
theorem ahE (x:Int×List Int) (y:Bool) (h:v5 x=some y):MH aC x=some y:=by
 obtain⟨m,l⟩:=x
 simp only[v5] at h
 split at h
 ·rename_i hl
  rw[<-h]
  simp only[MH]
  rw[abK (mk:=fun i=>(m,l,aS (aa l),(i:Int))) l (Ks m) (Sum.inr false) (Sum.inl ()) ?_ ?_ ?_ ?_ (dk (by omega))]
  ·unfold nB
   cases l.all (Ks m)<;>rfl
  all_goals try simp only
  ·intro i a ha hp
   have hp:=of_decide_eq_true hp
   rw[aR (vt ha),eu,ha,av,aL (cN (by omega)),aL (CO (by omega)),C0 ha (by omega)]
  ·intro i a ha hp
   have hp:=of_decide_eq_false hp
   rw[aR (vt ha),eu,ha,av]
   by_cases h0:a<0
   ·rw[aR (df h0)]
   ·rw[aL (cN (by omega)),aR (xu (by omega))]
  ·rw[aL (xv l)]
  ·rfl
 ·cases h
theorem eT {m:Int} (h:cu m=true):2<=m/\m<=1000003:=by
 simp only[cu,Bool.and_eq_true,decide_eq_true_eq] at h
 exact h.1
theorem ahf (x:Int×Int×Int×List Int) (y:Bool) (h:rM x=some y):Mt aC x=some y:=by
 obtain⟨m,r,c,l⟩:=x
 simp only[rM] at h
 split at h
 ·rename_i hl
  rw[<-h]
  have hl:l.length<=1048576:=hl
  simp only[Mt,nE,av,iB]
  cases hp:cu m with
  |false=>rfl
  |true=>
   rw[aL (by rfl),Bool.true_and]
   by_cases h1:r<0
   ·rw[aR (df h1),decide_eq_false (by omega)];rfl
   rw[aL (cN (by omega))]
   by_cases h2:c<0
   ·rw[aR (df h2),decide_eq_false (p:=0<=c/\c<=64) (by omega)];simp
   rw[aL (cN (by omega))]
   by_cases h3:64<r
   ·rw[aR (df h3),decide_eq_false (by omega)];rfl
   rw[aL (cN (by omega))]
   by_cases h4:64<c
   ·rw[aR (df h4),decide_eq_false (p:=0<=c/\c<=64) (by omega)];simp
   rw[aL (cN (by omega)),decide_eq_true (p:=0<=r/\r<=64) (by omega),decide_eq_true (p:=0<=c/\c<=64) (by omega),Bool.true_and,Bool.true_and]
   obtain⟨r,rfl⟩:=fu (z:=r) (by omega)
   obtain⟨c,rfl⟩:=fu (z:=c) (by omega)
   have dV:r*c<=64*64:=Nat.mul_le_mul (by omega) (by omega)
   have atu:(r:Int)*(c:Int)=((r*c:Nat):Int):=by norm_cast
   rw[o9 (by omega) (by omega),show v5 (m,l)=some (nB m l) from if_pos hl]
   by_cases h5:(l.length:Int)=(r:Int)*c
   ·rw[aR (show cJ (aS (aa l)) _=true from tg h5),decide_eq_true h5];rfl
   ·rw[aL (show cJ (aS (aa l)) _=false from rW h5),decide_eq_false h5];rfl
 ·cases h
end Go.Am
end
section
namespace Go.Am
def dr:List Int->Int
 |[]=>1
 |x::l=>x*dr l
def El (oY:Int) (_:Nat) (a x:Int):Int:=min (a*x) (oY+1)
def I6 (oY:Int) (l:List Int):Int:=BV (El oY) 0 1 l
theorem FQ {a x A B:Int} (h0:0<=a) (h1:a<=A) (h2:0<=x) (h3:x<=B):0<=a*x/\a*x<=A*B:=
 ⟨Int.mul_nonneg h0 h2,Int.mul_le_mul h1 h3 h2 (by omega)⟩
theorem F5:∀{l:List Int},(∀x∈l,1<=x)->1<=dr l
 |[],_=>by simp[dr]
 |x::l,h=>by
  have h1:=h x List.mem_cons_self
  have h2:=F5 (l:=l) (fun x hx=>h x (List.mem_cons_of_mem _ hx))
  have:=Int.mul_le_mul h1 h2 (by omega) (by omega)
  simpa[dr] using this
theorem Nr {oY:Int} (ai8:0<=oY):∀(l:List Int) (i:Nat) (a:Int),(∀x∈l,1<=x)->1<=a->a<=oY+1->BV (El oY) i a l=min (a*dr l) (oY+1)
 |[],i,a,_,_,h2=>by simp only[BV,dr,Int.mul_one];omega
 |x::l,i,a,h,h1,h2=>by
  have hx:=h x List.mem_cons_self
  have hp:=F5 (l:=l) (fun x hx=>h x (List.mem_cons_of_mem _ hx))
  have qR:=Int.mul_le_mul h1 hx (by omega) (by omega)
  rw[BV,Nr ai8 l (i+1) _ (fun x hx=>h x (List.mem_cons_of_mem _ hx)) (by unfold El;omega) (by unfold El;omega),dr,<-Int.mul_assoc]
  unfold El
  generalize a*x=c at*
  by_cases hc:c<=oY+1
  ·rw[Int.min_eq_left hc]
  ·have e:min c (oY+1)=oY+1:=by omega
   rw[e]
   have k1:=Int.mul_le_mul_of_nonneg_left hp (show 0<=oY+1 by omega)
   have k2:=Int.mul_le_mul_of_nonneg_left hp (show 0<=c by omega)
   omega
end Go.Am
end
section
namespace Go.Am
def cD (l:List Int) (v:Int):Nat:=l.findIdx fun a=>decide (a=v)
def yR (l:List Int) (v:Int):Int:=if cD l v<l.length then(cD l v:Int) else -1
def yb:List Int×Int->Option Bool:=fun(x:List Int×Int)=>if x.1.length<=1048576 then some (decide (x.2∈x.1)) else none
def Eg (L D:List Int) (j:Nat):Prop:=(0<=L.getD j 0/\L.getD j 0<=99)/\(1<=D.getD j 0/\D.getD j 0<=8)/\L.getD j 0∉L.take j
instance (L D:List Int) (j:Nat):Decidable (Eg L D j):=by unfold Eg;infer_instance
def nI (L D:List Int):Bool:=decide (L.length<=12)&&(decide (L.length=D.length)&&decide (∀j,j<L.length->Eg L D j))
def jp (L D:List Int):Int:=if nI L D=true/\dr D<=4096 then dr D else -1
def Xw:List Int×List Int×List Int->Option Int:=fun(x:List Int×List Int×List Int)=>if x.1.length<=1048576/\x.2.1.length<=1048576 then some (jp x.1 x.2.1) else none
def AU:List Int×List Int×List Int->Option Int:=Xw
def Yq (m:Int) (D:List Int) (R:List (List Int)) (j:Nat):Prop:=((R.getD j []).length:Int)=D.getD j 0/\nB m (R.getD j [])=true
instance (m:Int) (D:List Int) (R:List (List Int)) (j:Nat):Decidable (Yq m D R j):=by unfold Yq;infer_instance
def Nu (x:(List Int×List Int×List Int)×Int×List (List Int)):Prop:=(x.1.1.length<=1048576/\x.1.2.1.length<=1048576)/\x.2.2.length<=1048576/\∀l∈x.2.2,l.length<=1048576
instance (x:(List Int×List Int×List Int)×Int×List (List Int)):Decidable (Nu x):=by unfold Nu;infer_instance
def Ii:ao:=[(.one,[.list [.int .i64]]),(.one,[.int .i64])]
def Uf:ao:=[(.one,[.bool])]
def ank:aQ:=[]
def H5:ao:=[(.agg,[.list [.int .i64],.list [.int .i64],.list [.int .i64]])]
def T4:ao:=[(.one,[.int .i64])]
def am8:aQ:=[]
def MG (NN:Nat):((List Int)×Int)->(Option Bool):=
 (fun((l0,i1):((List Int)×Int))=>
 ca (bM NN (fun((i2,l3,i4,i5):(Int×((List Int)×(Int×Int))))=>
 ax (bG i5 i4)
 ((eo l3 i5).ab (fun i6=>
 ax (cJ i2 i6)
 (some (Sum.inr (Sum.inr true)))
 (some (Sum.inl (i2,l3,i4,bA .i64 i5 1)))))
 (some (Sum.inr (Sum.inl ()))))
 (i1,l0,aS (aa l0),(0:Int)))
 (fun _=>
 some false))
def My (NN:Nat):((List Int)×((List Int)×(List Int)))->(Option Int):=
 (fun((l0,l1,l2):((List Int)×((List Int)×(List Int))))=>
 ax (bG (12:Int) (aS (aa l0)))
 (some ((-1:Int)))
 (ax (gC (aS (aa l0)) (aS (aa l1)))
 (some ((-1:Int)))
 (ca (bM NN (fun(((i3,l4,i5,i6),l7,l8,l9):((Int×((List Int)×(Int×Int)))×((List Int)×((List Int)×(List Int)))))=>
 ax (bG i6 i5)
 ((eo l4 i6).ab (fun cG=>
 ax (bG cG (0:Int))
 (some (Sum.inr (Sum.inr ((-1:Int)))))
 (ax (bG (99:Int) cG)
 (some (Sum.inr (Sum.inr ((-1:Int)))))
 ((mR (0:Int) i6 (aa l7)).ab (fun(k11,QQ)=>
 (yb (lr l7 k11 QQ,cG)).ab (fun Yb=>
 ax (Yb)
 (some (Sum.inr (Sum.inr ((-1:Int)))))
 ((eo l8 i6).ab (fun e9=>
 ax (bG e9 (1:Int))
 (some (Sum.inr (Sum.inr ((-1:Int)))))
 (ax (bG (8:Int) e9)
 (some (Sum.inr (Sum.inr ((-1:Int)))))
 (ax (bG (4096:Int) (cd .i64 i3 e9))
 (some (Sum.inr (Sum.inr ((-1:Int)))))
 (some (Sum.inl ((cd .i64 i3 e9,l4,i5,bA .i64 i6 1),l7,l8,l9)))))))))))))
 (some (Sum.inr (Sum.inl i3))))
 (((1:Int),l0,aS (aa l0),(0:Int)),l0,l1,l2))
 (fun ii=>
 some ii))))
theorem WQ (P:Nat->Prop) [DecidablePred P]:∀c:Nat,∃n,n<=c/\(∀j,j<n->P j)/\(n=c\/¬P n)
 |0=>⟨0,Nat.le_refl 0,fun j hj=>absurd hj (Nat.not_lt_zero j),.inl rfl⟩
 |c+1=>by
  obtain⟨n,h1,h2,h3⟩:=WQ P c
  by_cases h:P n
  ·rcases h3 with h3|h3
   ·subst h3
    refine⟨n+1,Nat.le_refl _,fun j hj=>?_,.inl rfl⟩
    by_cases iO:j=n
    ·subst iO;exact h
    ·exact h2 j (by omega)
   ·exact absurd h h3
  ·exact⟨n,by omega,h2,.inr h⟩
theorem getD_some {α:Type} {l:List α} {j:Nat} (d:α) (h:j<l.length):l[j]? =some (l.getD j d):=by
 simp[List.getD,h]
theorem CR {α:Type} {l:List α} {j:Nat} (h:j<l.length):bG (j:Int) (aS (aa l))=true:=j3 h
theorem F4 {l:List Int} {v:Int} {j:Nat} (h:j<cD l v):l[j]? ≠some v:=by
 intro e
 have hj:j<l.length:=(List.getElem?_eq_some_iff.1 e).1
 have:=List.not_of_lt_findIdx h
 rw[List.getElem?_eq_getElem hj] at e
 simp[Option.some.inj e] at this
theorem F3 {l:List Int} {v:Int} (h:cD l v<l.length):l[cD l v]? =some v:=by
 have:=List.findIdx_getElem (w:=h)
 rw[List.getElem?_eq_getElem h]
 exact congrArg some (of_decide_eq_true this)
theorem Db (l:List Int) (v:Int):cD l v<=l.length:=List.findIdx_le_length
theorem aik (l:List Int) (v:Int):iW 0 (yR l v)=decide (v∈l):=by
 unfold yR iW
 by_cases h:cD l v<l.length
 ·rw[if_pos h,decide_eq_true (by omega),decide_eq_true]
  exact List.mem_of_getElem? (F3 h)
 ·rw[if_neg h,decide_eq_false (by omega),decide_eq_false]
  intro hm
  obtain⟨i,hi,e⟩:=List.mem_iff_getElem.1 hm
  have:=Db l v
  exact F4 (show i<cD l v by omega) (by rw[List.getElem?_eq_getElem hi,e])
theorem ahD (x:List Int×Int) (y:Bool) (h:yb x=some y):MG aC x=some y:=by
 obtain⟨l,v⟩:=x
 simp only[yb] at h
 split at h
 ·rename_i hl
  rw[<-h]
  simp only[MG]
  have hp:=Db l v
  rw[eH (fun i=>(v,l,aS (aa l),(i:Int))) (r:=if cD l v<l.length then Sum.inr true else Sum.inl ()) (cD l v) ?_ ?_ ?_ (dk (by omega))]
  ·rw[<-aik l v]
   unfold yR iW
   by_cases h:cD l v<l.length
   ·rw[if_pos h,if_pos h,decide_eq_true (by omega)];rfl
   ·rw[if_neg h,if_neg h];rfl
  ·intro j hj
   simp only
   have m7:j<l.length:=by omega
   rw[aR (CR m7),eu,getD_some 0 m7,av,aL (rW (fun e=>F4 hj (by rw[getD_some 0 m7,e])))]
   simp only[fF (show j<=1048577 by omega)]
  ·simp only
   by_cases h:cD l v<l.length
   ·rw[if_pos h,aR (CR h),eu,F3 h,av,aR (tg rfl)]
   ·rw[if_neg h,aL (show bG _ (aS (aa l))=false from j0 (by show l.length<=_;omega))]
  ·rfl
 ·cases h
theorem adI {n m:Nat} (h:n<=m):mR 0 (n:Int) m=some (0,n):=by
 unfold mR
 rw[if_pos ⟨by omega,by omega,by omega⟩]
 simp
theorem adH (l:List Int) (n:Nat):lr l 0 n=l.take n:=rfl
theorem s0 {L D:List Int} (h:nI L D=true):L.length<=12/\L.length=D.length/\∀j,j<L.length->Eg L D j:=by
 simp only[nI,Bool.and_eq_true,decide_eq_true_eq] at h
 exact h
theorem Ef {L D:List Int} (h:nI L D=true):∀x∈D,1<=x/\x<=8:=by
 obtain⟨_,h2,h3⟩:=s0 h
 intro x hx
 obtain⟨i,hi,e⟩:=List.mem_iff_getElem.1 hx
 have:=(h3 i (by omega)).2.1
 have e2:=getD_some 0 hi
 rw[List.getElem?_eq_getElem hi,e] at e2
 rw[<-Option.some.inj e2] at this
 exact this
theorem acC:∀(l:List Int) (x:Int),dr (l++[x])=dr l*x
 |[],x=>by simp[dr]
 |a::l,x=>by simp[dr,acC l x,Int.mul_assoc]
theorem acB:∀(l m:List Int),dr (l++m)=dr l*dr m
 |[],m=>by simp[dr]
 |a::l,m=>by simp[dr,acB l m,Int.mul_assoc]
theorem asQ {D:List Int} {j:Nat} (h:j<D.length):D.take (j+1)=D.take j++[D.getD j 0]:=by
 rw[List.take_add_one,getD_some 0 h]
 rfl
theorem Tm {D:List Int} {j:Nat} (h:j<D.length):dr (D.take (j+1))=dr (D.take j)*D.getD j 0:=by rw[asQ h,acC]
theorem aqv {D:List Int} (h:∀x∈D,1<=x) (j:Nat):dr (D.take j)<=dr D:=by
 have e:dr D=dr (D.take j)*dr (D.drop j):=by rw[<-acB,List.take_append_drop]
 have h1:=F5 (l:=D.take j) fun x hx=>h x (List.mem_of_mem_take hx)
 have h2:=F5 (l:=D.drop j) fun x hx=>h x (List.mem_of_mem_drop hx)
 have:=Int.mul_le_mul_of_nonneg_left h2 (show 0<=dr (D.take j) by omega)
 rw[e]
 omega
def Nb (L D:List Int) (j:Nat):Prop:=Eg L D j/\dr (D.take (j+1))<=4096
instance (L D:List Int) (j:Nat):Decidable (Nb L D j):=by unfold Nb;infer_instance
theorem ahs (x:List Int×List Int×List Int) (y:Int) (h:AU x=some y):My aC x=some y:=by
 obtain⟨L,D,T⟩:=x
 simp only[AU,Xw] at h
 split at h
 ·rename_i hl
  rw[<-h]
  simp only[My,jp]
  by_cases h1:L.length<=12
  rotate_left
  ·rw[aR (df (by rw[nl];omega)),if_neg (fun q=>h1 (s0 q.1).1)]
  rw[aL (cN (by rw[nl];omega))]
  by_cases h2:L.length=D.length
  rotate_left
  ·rw[aR (vu (by rw[nl,nl];omega)),if_neg (fun q=>h2 (s0 q.1).2.1)]
  rw[aL (tT (by rw[nl,nl];omega))]
  obtain⟨n,hn,bK,aaq⟩:=WQ (Nb L D) L.length
  have P5:∀j,j<=n->1<=dr (D.take j)/\dr (D.take j)<=4096:=by
   intro j hj
   constructor
   ·apply F5
    intro x hx
    obtain⟨i,hi,e⟩:=List.mem_iff_getElem.1 hx
    rw[List.length_take] at hi
    have hp:=(bK i (by omega)).1.2.1
    have e2:=getD_some 0 (show i<D.length by omega)
    rw[List.getElem_take] at e
    rw[List.getElem?_eq_getElem (by omega),e] at e2
    rw[<-Option.some.inj e2] at hp
    exact hp.1
   ·cases j with
    |zero=>simp[dr]
    |succ j=>exact(bK j (by omega)).2
  rw[eH (fun i=>((dr (D.take i),L,aS (aa L),(i:Int)),L,D,T)) (r:=if n<L.length then Sum.inr (-1) else Sum.inl (dr D)) n ?_ ?_ ?_ (dk (by omega))]
  ·by_cases h:n<L.length
   ·rw[if_pos h,if_neg]
    ·rfl
    ·intro q
     refine aaq.resolve_left (by omega) ⟨(s0 q.1).2.2 n h,?_⟩
     have:=aqv (fun x hx=>(Ef q.1 x hx).1) (n+1)
     have:=q.2
     omega
   ·have e:n=L.length:=by omega
    have hp:=(P5 n (Nat.le_refl n)).2
    rw[e,h2,List.take_length] at hp
    rw[if_neg h,if_pos]
    ·rfl
    ·refine⟨?_,hp⟩
     simp only[nI,Bool.and_eq_true,decide_eq_true_eq]
     exact⟨h1,h2,fun j hj=>(bK j (by omega)).1⟩
  ·intro j hj
   simp only
   obtain⟨⟨a1,a2,a3⟩,a4⟩:=bK j hj
   have m7:j<L.length:=by omega
   rw[aR (CR m7),eu,getD_some 0 m7,av,aL (cN (by omega)),aL (cN (by omega)),adI (show j<=aa L by show j<=L.length;omega),av]
   simp only[adH]
   rw[show yb (L.take j,L.getD j 0)=some (decide (L.getD j 0∈L.take j)) from if_pos (by rw[List.length_take];omega),av,aL (decide_eq_false a3),eu,getD_some 0 (show j<D.length by omega),av,aL (cN (by omega)),aL (cN (by omega))]
   have hb:=P5 j (by omega)
   obtain⟨b1,b2⟩:=FQ (a:=dr (D.take j)) (x:=D.getD j 0) (A:=4096) (B:=8) (by omega) hb.2 (by omega) a2.2
   rw[Tm (by omega)] at a4
   rw[o9 (by omega) (by omega),aL (cN a4),<-Tm (by omega)]
   simp only[fF (show j<=1048577 by omega)]
  ·simp only
   by_cases h:n<L.length
   ·have cm:=aaq.resolve_left (by omega)
    rw[if_pos h,aR (CR h),eu,getD_some 0 h,av]
    by_cases c1:L.getD n 0<0
    ·rw[aR (df c1)]
    rw[aL (cN (by omega))]
    by_cases c2:99<L.getD n 0
    ·rw[aR (df c2)]
    rw[aL (cN (by omega)),adI (show n<=aa L by show n<=L.length;omega),av]
    simp only[adH]
    rw[show yb (L.take n,L.getD n 0)=some (decide (L.getD n 0∈L.take n)) from if_pos (by rw[List.length_take];omega),av]
    by_cases a3:L.getD n 0∈L.take n
    ·rw[aR (decide_eq_true a3)]
    rw[aL (decide_eq_false a3),eu,getD_some 0 (show n<D.length by omega),av]
    by_cases c3:D.getD n 0<1
    ·rw[aR (df c3)]
    rw[aL (cN (by omega))]
    by_cases c4:8<D.getD n 0
    ·rw[aR (df c4)]
    rw[aL (cN (by omega))]
    have hb:=P5 n (Nat.le_refl n)
    obtain⟨b1,b2⟩:=FQ (a:=dr (D.take n)) (x:=D.getD n 0) (A:=4096) (B:=8) (by omega) hb.2 (by omega) (by omega)
    rw[o9 (by omega) (by omega)]
    by_cases c5:4096<dr (D.take n)*D.getD n 0
    ·rw[aR (df c5)]
    ·exact absurd ⟨⟨⟨by omega,by omega⟩,⟨by omega,by omega⟩,a3⟩,by rw[Tm (by omega)];omega⟩ cm
   ·have e:n=L.length:=by omega
    rw[if_neg h,aL (show bG _ (aS (aa L))=false from j0 (by show L.length<=_;omega)),e,h2,List.take_length]
  ·rfl
 ·cases h
end Go.Am
end
section
namespace Go.Am
def kJ (m:Int) (s:Int×Int×Int×List Int):Bool:=decide (0<=s.1/\s.1<=32)&&(decide (0<=s.2.2.1/\s.2.2.1<=32)&&(decide (1<=s.2.1/\s.2.1<=8)&&(decide ((s.2.2.2.length:Int)=s.1*s.2.1*s.2.2.1)&&nB m s.2.2.2)))
def mY (m:Int) (_:Nat) (b:Int) (s:Int×Int×Int×List Int):Option Int:=if kJ m s=true/\s.1=b then some s.2.2.1 else none
def En (m:Int) (_:Nat) (st:Int×Int) (s:Int×Int×Int×List Int):Option (Int×Int):=if kJ m s=true/\s.1=st.1 then some (s.2.2.1,st.2*s.2.1) else none
def aP (l:List (Int×Int×Int×List Int)):List Int:=l.map fun s=>s.2.1
def e7 (x:Int×List (Int×Int×Int×List Int)):Bool:=match x with
 |(m,l)=>cu m&&(decide (1<=l.length/\l.length<=8)&&(match fN (mY m) 0 1 l with
  |some b=>decide (b=1)&&decide (dr (aP l)<=4096)
  |none=>false))
def Mm:Int×List (Int×Int×Int×List Int)->Option (List Int):=fun((m,l):Int×List (Int×Int×Int×List Int))=>if l.length<=1048576 then some (aP l) else none
def yg:Int×Int×Int×Int×List Int->Option Bool:=fun((m,s):Int×Int×Int×Int×List Int)=>if rE s<=1048576 then some (kJ m s) else none
def sR:Int×List (Int×Int×Int×List Int)->Option Bool:=fun x=>if ug x<=1048576 then some (e7 x) else none
def Ix:ao:=[(.one,[.int .i64]),(.agg,[.int .i64,.int .i64,.int .i64,.list [.int .i64]])]
def Ut:ao:=[(.one,[.bool])]
def anw:aQ:=[]
def HJ:ao:=[(.agg,[.int .i64,.list [.int .i64,.int .i64,.int .i64,.list [.int .i64]]])]
def TM:ao:=[(.one,[.bool])]
def amU:aQ:=[]
def XJ (NN:Nat):(Int×(List (Int×(Int×(Int×(List Int))))))->(Option (List Int)):=
 (fun((i0,l1):(Int×(List (Int×(Int×(Int×(List Int)))))))=>
 ca ((ai 0 0 (aa (([]:List Int)))).ab (fun _=>
 bM NN (fun(((l2,i3,i4),l5):(((List (Int×(Int×(Int×(List Int)))))×(Int×Int))×(List Int)))=>
 ax (bG i4 i3)
 ((eo l2 i4).ab (fun(i6,i7,i8,l9)=>
 (ai 0 (aa l5) (aa l5)).ab (fun _=>
 (cr ((i7::([]:List Int))) 0 1).ab (fun fy=>
 (lH (bj (aa l5) (aa fy)) 8).ab (fun _=>
 (ai 0 (bj (aa l5) (aa fy)) (aa (eY l5 fy))).ab (fun _=>
 some (Sum.inl ((l2,i3,bA .i64 i4 1),eY l5 fy))))))))
 (((ai 0 (aa l5) (aa l5)).ab (fun _=>
 some (Sum.inl l5))).ab (fun ct=>
 some (Sum.inr ct))))
 ((l1,aS (aa l1),(0:Int)),([]:List Int))))
 (fun dG=>
 (dw dG (aa dG)).ab (fun eO=>
 some eO)))
def MR (NN:Nat):(Int×(Int×(Int×(Int×(List Int)))))->(Option Bool):=
 (fun((i0,i1,i2,i3,l4):(Int×(Int×(Int×(Int×(List Int))))))=>
 ax (bG i1 (0:Int))
 (some false)
 (ax (bG (32:Int) i1)
 (some false)
 (ax (bG i3 (0:Int))
 (some false)
 (ax (bG (32:Int) i3)
 (some false)
 (ax (bG i2 (1:Int))
 (some false)
 (ax (bG (8:Int) i2)
 (some false)
 (ax (cJ (aS (aa l4)) (cd .i64 (cd .i64 i1 i2) i3))
 ((v5 (i0,l4)).ab (fun b5=>
 some b5))
 (some false))))))))
def Mq (NN:Nat):(Int×(List (Int×(Int×(Int×(List Int))))))->(Option Bool):=
 (fun((i0,l1):(Int×(List (Int×(Int×(Int×(List Int)))))))=>
 (nE i0).ab (fun b2=>
 ax (dA b2)
 (some false)
 (ax (bG (aS (aa l1)) (1:Int))
 (some false)
 (ax (bG (8:Int) (aS (aa l1)))
 (some false)
 (ca (bM NN (fun(((i3,i4,l5,i6,i7),i8,l9):((Int×(Int×((List (Int×(Int×(Int×(List Int)))))×(Int×Int))))×(Int×(List (Int×(Int×(Int×(List Int))))))))=>
 ax (bG i7 i6)
 ((eo l5 i7).ab (fun(cG,eF,eA,eO)=>
 (yg (i8,cG,eF,eA,eO)).ab (fun Nc=>
 ax (dA Nc)
 (some (Sum.inr (Sum.inr false)))
 (ax (gC cG i3)
 (some (Sum.inr (Sum.inr false)))
 (some (Sum.inl ((eA,cd .i64 i4 eF,l5,i6,bA .i64 i7 1),i8,l9)))))))
 (some (Sum.inr (Sum.inl (i3,i4)))))
 (((1:Int),(1:Int),l1,aS (aa l1),(0:Int)),i0,l1))
 (fun(ii,fP)=>
 ax (cJ ii (1:Int))
 (some (iW fP (4096:Int)))
 (some false)))))))
theorem aia (x:Int×List (Int×Int×Int×List Int)) (y:List Int) (h:Mm x=some y):XJ aC x=some y:=by
 obtain⟨m,l⟩:=x
 simp only[Mm] at h
 split at h
 ·rename_i hl
  rw[<-h]
  simp only[XJ]
  rw[show ai 0 0 (aa ([]:List Int))=some () from rfl,av]
  rw[eH (fun i=>((l,aS (aa l),(i:Int)),aP (l.take i))) (r:=Sum.inl (aP l)) l.length ?_ ?_ ?_ (dk (by omega))]
  ·rw[fx,jJ];rfl
  all_goals try simp only
  ·intro j hj
   obtain⟨⟨a,p,c,d⟩,hs⟩:∃e,l[j]? =some e:=⟨_,List.getElem?_eq_getElem hj⟩
   have e1:aa (aP (l.take j))=j:=by simp[aa,aP];omega
   have e2:eY (aP (l.take j)) [p]=aP (l.take (j+1)):=by simp[eY,aP,List.take_add_one,hs]
   have e3:lH (bj j 1) 8=some ():=ti (by simp only[bj,eQ];omega)
   rw[aR (vt hs),eu,hs,av]
   simp only[e1,cC,av,Ma,CP,show aa [p]=1 from rfl,e3,C0 hs (by omega),e2]
  ·rw[aL (xv l),List.take_length]
   simp only[cC,av]
  ·rfl
 ·cases h
theorem ahQ (x:Int×Int×Int×Int×List Int) (y:Bool) (h:yg x=some y):MR aC x=some y:=by
 obtain⟨m,a,p,c,l⟩:=x
 simp only[yg] at h
 split at h
 ·rename_i hl
  rw[<-h]
  have hl:l.length<=1048576:=hl
  simp only[MR,kJ]
  by_cases h1:a<0
  ·rw[aR (df h1),decide_eq_false (p:=0<=a/\a<=32) (by omega)];rfl
  rw[aL (cN (by omega))]
  by_cases h2:32<a
  ·rw[aR (df h2),decide_eq_false (p:=0<=a/\a<=32) (by omega)];rfl
  rw[aL (cN (by omega)),decide_eq_true (p:=0<=a/\a<=32) (by omega),Bool.true_and]
  by_cases h3:c<0
  ·rw[aR (df h3),decide_eq_false (p:=0<=c/\c<=32) (by omega)];rfl
  rw[aL (cN (by omega))]
  by_cases h4:32<c
  ·rw[aR (df h4),decide_eq_false (p:=0<=c/\c<=32) (by omega)];rfl
  rw[aL (cN (by omega)),decide_eq_true (p:=0<=c/\c<=32) (by omega),Bool.true_and]
  by_cases h5:p<1
  ·rw[aR (df h5),decide_eq_false (p:=1<=p/\p<=8) (by omega)];rfl
  rw[aL (cN (by omega))]
  by_cases h6:8<p
  ·rw[aR (df h6),decide_eq_false (p:=1<=p/\p<=8) (by omega)];rfl
  rw[aL (cN (by omega)),decide_eq_true (p:=1<=p/\p<=8) (by omega),Bool.true_and]
  obtain⟨b1,b2⟩:=FQ (a:=a) (x:=p) (A:=32) (B:=8) (by omega) (by omega) (by omega) (by omega)
  obtain⟨b3,b4⟩:=FQ (a:=a*p) (x:=c) (A:=32*8) (B:=32) (by omega) (by omega) (by omega) (by omega)
  rw[o9 (a:=a) (by omega) (by omega),o9 (by omega) (by omega),show v5 (m,l)=some (nB m l) from if_pos hl]
  by_cases h5:(l.length:Int)=a*p*c
  ·rw[aR (show cJ (aS (aa l)) _=true from tg h5),decide_eq_true h5];rfl
  ·rw[aL (show cJ (aS (aa l)) _=false from rW h5),decide_eq_false h5];rfl
 ·cases h
theorem Wh {m a p c:Int} {l:List Int} (h:kJ m (a,p,c,l)=true):(0<=a/\a<=32)/\(0<=c/\c<=32)/\(1<=p/\p<=8)/\(l.length:Int)=a*p*c/\nB m l=true:=by
 simp only[kJ,Bool.and_eq_true,decide_eq_true_eq] at h
 exact⟨h.1,h.2.1,h.2.2.1,h.2.2.2.1,h.2.2.2.2⟩
theorem Ys {m:Int}:∀(l:List (Int×Int×Int×List Int)) (i:Nat) (b z:Int),fN (En m) i (b,z) l=(fN (mY m) i b l).map fun c=>(c,z*dr (aP l))
 |[],i,b,z=>by simp[fN,aP,dr]
 |s::l,i,b,z=>by
  rw[fN,fN]
  simp only[En,mY]
  by_cases hc:kJ m s=true/\s.1=b
  ·rw[if_pos hc,if_pos hc]
   simp only
   rw[Ys l (i+1)]
   simp only[aP,List.map_cons,dr,Int.mul_assoc]
  ·rw[if_neg hc,if_neg hc]
   rfl
theorem WX {m:Int} {l:List (Int×Int×Int×List Int)} (h:ug (m,l)<=1048576):l.length<=1048576/\∀e∈l,rE e<=1048576:=asD h
theorem aqn {i:Nat} (h:i<=8):(8:Int)^i<=16777216:=by
 have h1:(8:Nat)^i<=16777216:=Nat.le_trans (Nat.pow_le_pow_right (by decide) h) (by decide)
 have h2:((8^i:Nat):Int)=(8:Int)^i:=by norm_cast
 rw[<-h2]
 omega
theorem ahb (x:Int×List (Int×Int×Int×List Int)) (y:Bool) (h:sR x=some y):Mq aC x=some y:=by
 obtain⟨m,l⟩:=x
 simp only[sR] at h
 split at h
 ·rename_i hl
  rw[<-h]
  obtain⟨hlen,dd⟩:=WX hl
  simp only[Mq,nE,av,e7]
  cases hp:cu m with
  |false=>rfl
  |true=>
   have hm:=eT hp
   rw[aL (by rfl),Bool.true_and]
   by_cases h2:l.length<1
   ·rw[aR (df (by have:=nl l;omega)),decide_eq_false (by omega)];rfl
   rw[aL (cN (by have:=nl l;omega))]
   by_cases h3:8<l.length
   ·rw[aR (df (by have:=nl l;omega)),decide_eq_false (by omega)];rfl
   rw[aL (cN (by have:=nl l;omega)),decide_eq_true (by omega),Bool.true_and]
   rw[abL l (fun(st:Int×Int) i=>((st.1,st.2,l,aS (aa l),(i:Int)),m,l)) (fun i st=>0<=st.2/\st.2<=(8:Int)^i) (En m) (Sum.inr false) (fun st=>Sum.inl st) ?_ ?_ ?_ (s:=(1,1)) ⟨by decide,by decide⟩ ?_ (dk (by omega))]
   ·rw[Ys]
    cases hf:fN (mY m) 0 1 l with
    |none=>rfl
    |some c=>
     simp only[Option.map_some,Int.one_mul]
     rw[fx]
     simp only
     by_cases hc:c=1
     ·rw[aR (tg hc),decide_eq_true hc,Bool.true_and];rfl
     ·rw[aL (rW hc),decide_eq_false hc,Bool.false_and]
   all_goals try simp only
   ·rintro i ⟨b,z⟩ ⟨a,p,c,d⟩ WL hi hz hs
    simp only[En] at hs
    split at hs
    ·rename_i hc
     injection hs with hs
     subst hs
     obtain⟨t1,t2,t3,t4,t5⟩:=Wh hc.1
     have e8:a=b:=hc.2
     have hi8:i<=8:=by have:=CS hi;omega
     have h8:=aqn hi8
     obtain⟨b1,b2⟩:=FQ hz.1 hz.2 (show 0<=p by omega) t3.2
     simp only at b1 b2
     refine⟨?_,b1,?_⟩
     ·rw[aR (vt hi),eu,hi,av]
      simp only
      rw[show yg (m,a,p,c,d)=some (kJ m (a,p,c,d)) from if_pos (dd _ (List.mem_of_getElem? hi)),av,hc.1,aL (by rfl),aL (tT e8),o9 (by omega) (by omega),C0 hi (by omega)]
     ·rw[Int.pow_succ];exact b2
    ·cases hs
   ·rintro i ⟨b,z⟩ ⟨a,p,c,d⟩ hi hz hs
    simp only[En] at hs
    split at hs
    ·cases hs
    ·rename_i hc
     rw[aR (vt hi),eu,hi,av]
     simp only
     rw[show yg (m,a,p,c,d)=some (kJ m (a,p,c,d)) from if_pos (dd _ (List.mem_of_getElem? hi)),av]
     cases h1:kJ m (a,p,c,d) with
     |false=>rw[aR (by rfl)]
     |true=>
      rw[aL (by rfl),aR (vu (fun e=>hc ⟨h1,e⟩))]
   ·rintro⟨b,z⟩ _
    simp only
    rw[aL (xv l)]
   ·rfl
 ·cases h
theorem amJ {X Y α S:Type} {f:X->Option (X⊕Y)} (es:List α) (mk:S->Nat->X) (I:Nat->S->Prop) (step:Nat->S->α->Option S) (rO:Y) (eD:S->Y)
  (h1:∀i s a,es[i]? =some a->I i s->f (mk s i)=some (match step i s a with|some s'=>.inl (mk s' (i+1))|none=>.inr rO))
  (hI:∀i s a s',es[i]? =some a->I i s->step i s a=some s'->I (i+1) s')
  (h3:∀s,I es.length s->f (mk s es.length)=some (.inr (eD s))) {s:S} (h0:I 0 s) {x0:X} (hx:x0=mk s 0) {N:Nat} (hN:es.length<N):
  bM N f x0=some (match fN step 0 s es with|some s'=>eD s'|none=>rO):=
 abL es mk I step rO eD (fun i s a s' ha hi hs=>⟨by rw[h1 i s a ha hi,hs],hI i s a s' ha hi hs⟩) (fun i s a ha hi hs=>by rw[h1 i s a ha hi,hs]) h3 h0 hx hN
end Go.Am
end
section
namespace Go.Am
def CZ (x:Int×Int):Prop:=(0<=x.1/\x.1<=4096)/\(0<=x.2/\x.2<=4096)/\x.1*x.2<=1048576
instance (x:Int×Int):Decidable (CZ x):=by unfold CZ;infer_instance
def yj:Int×Int->Option (Int×Int×List Int):=fun(x:Int×Int)=>if CZ x then some (x.1,x.2,aq x.1.toNat x.2.toNat fun _ _=>0) else none
def vZ:Int×Int->Option (Int×Int×List Int):=fun(x:Int×Int)=>if CZ x then some (x.1,x.2,aq x.1.toNat x.2.toNat fun _ _=>0) else none
def ki:(Int×Int×List Int)×Int×Int->Option Int:=fun(x:(Int×Int×List Int)×Int×Int)=>
 if qc x.1/\(0<=x.2.1/\x.2.1<x.1.1)/\(0<=x.2.2/\x.2.2<x.1.2.1) then some (bB x.1.2.1.toNat x.1.2.2 x.2.1.toNat x.2.2.toNat) else none
def oD:(Int×Int×List Int)×Int×Int×Int->Option (List Int):=fun(x:(Int×Int×List Int)×Int×Int×Int)=>
 if qc x.1/\(0<=x.2.1/\x.2.1<x.1.1)/\(0<=x.2.2.1/\x.2.2.1<x.1.2.1) then some (aq x.1.1.toNat x.1.2.1.toNat (jK (bB x.1.2.1.toNat x.1.2.2) x.2.1.toNat x.2.2.1.toNat x.2.2.2)) else none
def c9 (M:Nat->Nat->Int) (a b:Nat):Nat->Nat->Int:=fun i j=>if i=a then M b j else if i=b then M a j else M i j
def DY:(Int×Int×List Int)×Int×Int->Option (List Int):=fun(x:(Int×Int×List Int)×Int×Int)=>
 if qc x.1/\(0<=x.2.1/\x.2.1<x.1.1)/\(0<=x.2.2/\x.2.2<x.1.1) then some (aq x.1.1.toNat x.1.2.1.toNat (c9 (bB x.1.2.1.toNat x.1.2.2) x.2.1.toNat x.2.2.toNat)) else none
def AO:(Int×Int×List Int)×Int×Int->Option (List Int):=DY
def uF (p:Int) (M:Nat->Nat->Int) (i k:Nat) (f:Int):Nat->Nat->Int:=fun a j=>if a=i then(M i j+f*M k j)%p else M a j
def x8:(Int×Int×List Int)×Int×Int×Int×Int->Option (List Int):=fun(x:(Int×Int×List Int)×Int×Int×Int×Int)=>
 if qc x.1/\dh x.2.1/\(0<=x.2.2.1/\x.2.2.1<x.1.1)/\(0<=x.2.2.2.1/\x.2.2.2.1<x.1.1)/\(0<=x.2.2.2.2/\x.2.2.2.2<=x.2.1)/\dD x.2.1 x.1.2.2 then
  some (aq x.1.1.toNat x.1.2.1.toNat (uF x.2.1 (bB x.1.2.1.toNat x.1.2.2) x.2.2.1.toNat x.2.2.2.1.toNat x.2.2.2.2)) else none
def qi (M:Nat->Nat->Int) (j:Nat):Nat->Nat->Option Nat
 |0,_=>none
 |d+1,k=>if M k j=0 then qi M j d (k+1) else some k
def ld (p out x:Int) (n:Nat):Int:=if h:n=0 then out else ld p (if n%2=1 then out*x%p else out) (x*x%p) (n/2)
termination_by n
decreasing_by omega
def XB:Int×Int->Option Int:=fun(x:Int×Int)=>if dh x.1/\eN x.1 x.2 then some (ld x.1 1 x.2 (x.1 - 2).toNat) else none
def A7:Int×Int->Option Int:=XB
def kj:List Int->Option (List Int):=fun(l:List Int)=>if l.length<=1099511627776 then some l else none
def AX:Int×Int×List Int->Option (Int×Int×List Int):=fun(x:Int×Int×List Int)=>if x.2.2.length<=1099511627776 then some x else none
def ui (M:Nat->Nat->Int):Nat->Nat->Int:=fun i j=>M j i
def FO (x:Int×(Int×Int×List Int)×(Int×Int×List Int)):Prop:=dh x.1/\qc x.2.1/\qc x.2.2/\x.2.1.2.1=x.2.2.1/\x.2.1.1*x.2.2.2.1<=1048576/\dD x.1 x.2.1.2.2/\dD x.1 x.2.2.2.2
instance (x:Int×(Int×Int×List Int)×(Int×Int×List Int)):Decidable (FO x):=by unfold FO;infer_instance
def yi:Int×(Int×Int×List Int)×(Int×Int×List Int)->Option (Int×Int×List Int):=fun(x:Int×(Int×Int×List Int)×(Int×Int×List Int))=>
 if FO x then some (x.2.1.1,x.2.2.2.1,aq x.2.1.1.toNat x.2.2.2.1.toNat (iC x.1 x.2.1.2.1.toNat (bB x.2.1.2.1.toNat x.2.1.2.2) (bB x.2.2.2.1.toNat x.2.2.2.2))) else none
def ye:Int×(Int×Int×List Int)×(Int×Int×List Int)->Option (Int×Int×List Int):=yi
def IU:ao:=[(.one,[.int .i64]),(.one,[.int .i64])]
def UM:ao:=[(.agg,[.int .i64,.int .i64,.list [.int .i64]])]
def anO:aQ:=[]
def Ie:ao:=[(.one,[.int .i64]),(.one,[.int .i64])]
def Uc:ao:=[(.agg,[.int .i64,.int .i64,.list [.int .i64]])]
def anh:aQ:=[]
def H9:ao:=[(.one,[.list [.int .i64]])]
def T8:ao:=[(.one,[.list [.int .i64]])]
def anc:aQ:=[]
def Ia:ao:=[(.agg,[.int .i64,.int .i64,.list [.int .i64]])]
def T9:ao:=[(.agg,[.int .i64,.int .i64,.list [.int .i64]])]
def ane:aQ:=[]
def HP:ao:=[(.agg,[.int .i64,.int .i64,.list [.int .i64]]),(.one,[.int .i64]),(.one,[.int .i64])]
def TS:ao:=[(.one,[.int .i64])]
def amZ:aQ:=[]
def HQ:ao:=[(.agg,[.int .i64,.int .i64,.list [.int .i64]]),(.one,[.int .i64]),(.one,[.int .i64]),(.one,[.int .i64])]
def TT:ao:=[(.one,[.list [.int .i64]])]
def KK:aQ:=[[none,none,some .ae]]
def HS:ao:=[(.agg,[.int .i64,.int .i64,.list [.int .i64]]),(.one,[.int .i64]),(.one,[.int .i64])]
def TU:ao:=[(.one,[.list [.int .i64]])]
def KL:aQ:=[[none,none,some .ae]]
def HO:ao:=[(.agg,[.int .i64,.int .i64,.list [.int .i64]]),(.one,[.int .i64]),(.one,[.int .i64]),(.one,[.int .i64]),(.one,[.int .i64])]
def TR:ao:=[(.one,[.list [.int .i64]])]
def KJ:aQ:=[[none,none,some .ae]]
def Iq:ao:=[(.one,[.int .i64]),(.one,[.int .i64])]
def Ul:ao:=[(.one,[.int .i64])]
def anp:aQ:=[]
def Ir:ao:=[(.one,[.int .i64]),(.agg,[.int .i64,.int .i64,.list [.int .i64]]),(.agg,[.int .i64,.int .i64,.list [.int .i64]])]
def Um:ao:=[(.agg,[.int .i64,.int .i64,.list [.int .i64]])]
def anq:aQ:=[]
def Hx (NN:Nat):(Int×Int)->(Option (Int×(Int×(List Int)))):=
 (fun((i0,i1):(Int×Int))=>
 (rh (cd .i64 i0 i1) (cd .i64 i0 i1) 8).ab (fun k2=>
 (dw (eU k2 (0:Int)) k2).ab (fun l3=>
 some (i0,i1,l3))))
def XG (NN:Nat):(Int×Int)->(Option (Int×(Int×(List Int)))):=
 (fun((i0,i1):(Int×Int))=>
 (rh (cd .i64 i0 i1) (cd .i64 i0 i1) 8).ab (fun k2=>
 (dw (eU k2 (0:Int)) k2).ab (fun l3=>
 some (i0,i1,l3))))
def MB (NN:Nat):(List Int)->(Option (List Int)):=
 (fun(l0:(List Int))=>
 (lH (bj (aa (([]:List Int))) (aa l0)) 8).ab (fun _=>
 (dw (eY (([]:List Int)) l0) (bj (aa (([]:List Int))) (aa l0))).ab (fun l1=>
 some l1)))
def MC (NN:Nat):(Int×(Int×(List Int)))->(Option (Int×(Int×(List Int)))):=
 (fun((i0,i1,l2):(Int×(Int×(List Int))))=>
 (kj l2).ab (fun l3=>
 (dw l3 (aa l3)).ab (fun l4=>
 some (i0,i1,l4))))
def G8 (NN:Nat):((Int×(Int×(List Int)))×(Int×Int))->(Option Int):=
 (fun(((i0,i1,l2),i3,i4):((Int×(Int×(List Int)))×(Int×Int)))=>
 (eo l2 (bA .i64 (cd .i64 i3 i1) i4)).ab (fun i5=>
 some i5))
def G9 (NN:Nat):((Int×(Int×(List Int)))×(Int×(Int×Int)))->(Option (List Int)):=
 (fun(((i0,i1,l2),i3,i4,i5):((Int×(Int×(List Int)))×(Int×(Int×Int))))=>
 (fj (bA .i64 (cd .i64 i3 i1) i4) (aa l2)).ab (fun k6=>
 (dt l2 (bj 0 k6)).ab (fun i7=>
 (qm (aa (bR l2 (bj 0 k6) i5)) (aa l2)).ab (fun _=>
 some (bR l2 (bj 0 k6) i5)))))
def Ha (NN:Nat):((Int×(Int×(List Int)))×(Int×Int))->(Option (List Int)):=
 (fun(((i0,i1,l2),i3,i4):((Int×(Int×(List Int)))×(Int×Int)))=>
 (ai 0 (aa l2) (aa l2)).ab (fun _=>
 bM NN (fun(((i5,i6,i7),l8,i9,cG):((Int×(Int×Int))×((List Int)×(Int×Int))))=>
 ax (bG i7 cG)
 ((cr l8 0 (aa l8)).ab (fun ct=>
 (ki ((i9,cG,ct),i5,i7)).ab (fun eA=>
 (cr l8 0 (aa l8)).ab (fun eO=>
 (ki ((i9,cG,eO),i6,i7)).ab (fun e9=>
 (ai 0 (aa l8) (aa l8)).ab (fun _=>
 (oD ((i9,cG,l8),i5,i7,e9)).ab (fun eP=>
 (ai 0 (aa l8) (aa eP)).ab (fun _=>
 (oD ((i9,cG,eP),i6,i7,eA)).ab (fun iU=>
 (ai 0 (aa l8) (aa iU)).ab (fun _=>
 some (Sum.inl ((i5,i6,bA .i64 i7 1),iU,i9,cG))))))))))))
 (((qm (aa l8) (aa l2)).ab (fun _=>
 some l8)).ab (fun gj=>
 some (Sum.inr gj))))
 ((i3,i4,(0:Int)),l2,i0,i1)))
def G7 (NN:Nat):((Int×(Int×(List Int)))×(Int×(Int×(Int×Int))))->(Option (List Int)):=
 (fun(((i0,i1,l2),i3,i4,i5,i6):((Int×(Int×(List Int)))×(Int×(Int×(Int×Int)))))=>
 (ai 0 (aa l2) (aa l2)).ab (fun _=>
 bM NN (fun(((i7,i8,i9,cG,eF),dG,eG,e9):((Int×(Int×(Int×(Int×Int))))×((List Int)×(Int×Int))))=>
 ax (bG eF e9)
 ((cr dG 0 (aa dG)).ab (fun eP=>
 (ki ((eG,e9,eP),i8,eF)).ab (fun fP=>
 (cr dG 0 (aa dG)).ab (fun gj=>
 (ki ((eG,e9,gj),i9,eF)).ab (fun fw=>
 (iZ (bA .i64 fP (cd .i64 cG fw)) i7).ab (fun gz=>
 (ai 0 (aa dG) (aa dG)).ab (fun _=>
 (oD ((eG,e9,dG),i8,eF,gz)).ab (fun gk=>
 (ai 0 (aa dG) (aa gk)).ab (fun _=>
 some (Sum.inl ((i7,i8,i9,cG,bA .i64 eF 1),gk,eG,e9)))))))))))
 (((qm (aa dG) (aa l2)).ab (fun _=>
 some dG)).ab (fun dI=>
 some (Sum.inr dI))))
 ((i3,i4,i5,i6,(0:Int)),l2,i0,i1)))
def MN (NN:Nat):(Int×Int)->(Option Int):=
 (fun((i0,i1):(Int×Int))=>
 ca (bM NN (fun((i2,i3,i4,i5):(Int×(Int×(Int×Int))))=>
 ax (bG (0:Int) i5)
 (ca (ax (cJ (qy .i64 i5 (1:Int)) (1:Int))
 ((iZ (cd .i64 i4 i3) i2).ab (fun i6=>
 some (Sum.inl (i3,i5,i2,i6))))
 (some (Sum.inl (i3,i5,i2,i4))))
 (fun(i7,i8,i9,cG)=>
 (iZ (cd .i64 i7 i7) i9).ab (fun eF=>
 (t7 .i64 i8 (1:Int)).ab (fun eA=>
 some (Sum.inl (i9,eF,cG,eA))))))
 (some (Sum.inr (Sum.inl i4))))
 (i0,i1,(1:Int),iF .i64 i0 2))
 (fun eG=>
 some eG))
def Hf (NN:Nat):(Int×((Int×(Int×(List Int)))×(Int×(Int×(List Int)))))->(Option (Int×(Int×(List Int)))):=
 (fun((i0,(i1,i2,l3),i4,i5,l6):(Int×((Int×(Int×(List Int)))×(Int×(Int×(List Int))))))=>
 (vZ (i1,i5)).ab (fun(i7,i8,l9)=>
 ca ((ai 0 0 (aa (([]:List Int)))).ab (fun _=>
 (ai 0 (aa l9) (aa l9)).ab (fun _=>
 bM NN (fun(((cG,eF),(eA,eG,fg),(ii,fP,gj),(fw,gz),(iQ,jT),dM,fz):((Int×Int)×((Int×(Int×(List Int)))×((Int×(Int×(List Int)))×((Int×Int)×((Int×Int)×((List Int)×(List Int))))))))=>
 ax (bG eF eA)
 (ca ((ai 0 (aa dM) (aa dM)).ab (fun _=>
 (ai 0 (aa fz) (aa fz)).ab (fun _=>
 bM NN (fun(((su,ng,kU),(ky,oT,il),(nZ,gV,np),(mK,iS),(iT,sv),iV,kE):((Int×(Int×Int))×((Int×(Int×(List Int)))×((Int×(Int×(List Int)))×((Int×Int)×((Int×Int)×((List Int)×(List Int))))))))=>
 ax (bG kU gV)
 (ca (ca ((ai 0 (aa iV) (aa iV)).ab (fun _=>
 (ai 0 (aa kE) (aa kE)).ab (fun _=>
 bM NN (fun(((jU,jC,n3,pU,kZ),(kz,mL,gJ),(lM,kA,jF),(kB,n5),(lc,kC),n9,lg):((Int×(Int×(Int×(Int×Int))))×((Int×(Int×(List Int)))×((Int×(Int×(List Int)))×((Int×Int)×((Int×Int)×((List Int)×(List Int))))))))=>
 ax (bG kZ mL)
 ((ki ((kz,mL,gJ),jC,kZ)).ab (fun tD=>
 (ki ((lM,kA,jF),kZ,n3)).ab (fun Cv=>
 (iZ (bA .i64 pU (cd .i64 tD Cv)) jU).ab (fun vj=>
 (ai 0 (aa n9) (aa n9)).ab (fun _=>
 (ai 0 (aa lg) (aa lg)).ab (fun _=>
 some (Sum.inl ((jU,jC,n3,vj,bA .i64 kZ 1),(kz,mL,gJ),(lM,kA,jF),(kB,n5),(lc,kC),n9,lg))))))))
 (((ai 0 (aa n9) (aa n9)).ab (fun _=>
 (ai 0 (aa lg) (aa lg)).ab (fun _=>
 some (Sum.inl ((pU,n3,jU,jC),(kz,mL,gJ),(lM,kA,jF),(kB,n5),(lc,kC),n9,lg))))).ab (fun jk=>
 some (Sum.inr jk))))
 ((su,ng,kU,(0:Int),(0:Int)),(ky,oT,il),(nZ,gV,np),(mK,iS),(iT,sv),iV,kE))))
 (fun((pV,zy,n6,ni),(i64,qY,nr),(sA,zA,tM),(Cw,Cx),(Fy,qZ),tN,tO)=>
 (ai 0 (aa tO) (aa tO)).ab (fun _=>
 (oD ((Fy,qZ,tO),ni,zy,pV)).ab (fun zP=>
 (ai 0 (aa tN) (aa tN)).ab (fun _=>
 (ai 0 (aa tO) (aa zP)).ab (fun _=>
 some (Sum.inl ((zy,n6,ni),(i64,qY,nr),(sA,zA,tM),(Cw,Cx),(Fy,qZ),tN,zP))))))))
 (fun((tF,pW,n7),(n8,vl,gL),(Fz,xi,Ri),(i86,Cy),(Kn,Ko),Rj,tP)=>
 (ai 0 (aa Rj) (aa Rj)).ab (fun _=>
 (ai 0 (aa tP) (aa tP)).ab (fun _=>
 some (Sum.inl ((pW,n7,bA .i64 tF 1),(n8,vl,gL),(Fz,xi,Ri),(i86,Cy),(Kn,Ko),Rj,tP))))))
 (((ai 0 (aa iV) (aa iV)).ab (fun _=>
 (ai 0 (aa kE) (aa kE)).ab (fun _=>
 some (Sum.inl ((ng,su),(ky,oT,il),(nZ,gV,np),(mK,iS),(iT,sv),iV,kE))))).ab (fun tQ=>
 some (Sum.inr tQ))))
 ((cG,eF,(0:Int)),(eA,eG,fg),(ii,fP,gj),(fw,gz),(iQ,jT),dM,fz))))
 (fun((Qy,CA),(zB,FB,FK),(Kp,zC,amd),(Qm,zw),(xf,Qn),Q2,zK)=>
 (ai 0 (aa Q2) (aa Q2)).ab (fun _=>
 (ai 0 (aa zK) (aa zK)).ab (fun _=>
 some (Sum.inl ((CA,bA .i64 Qy 1),(zB,FB,FK),(Kp,zC,amd),(Qm,zw),(xf,Qn),Q2,zK))))))
 (((ai 0 (aa dM) (aa dM)).ab (fun _=>
 (ai 0 (aa fz) (aa fz)).ab (fun _=>
 some (Sum.inl ((fw,gz),(iQ,jT),dM,fz))))).ab (fun FH=>
 some (Sum.inr FH))))
 ((i0,(0:Int)),(i1,i2,l3),(i4,i5,l6),((0:Int),(0:Int)),(i7,i8),([]:List Int),l9))))
 (fun((Qp,atz),(Fw,zx),atM,FI)=>
 (dw FI (aa FI)).ab (fun abq=>
 some (Fw,zx,abq)))))
theorem ao6 {r c:Nat} (hr:r<=4096) (hc:c<=4096) (h:r*c<=1048576):CZ ((r:Int),(c:Int)):=by
 refine⟨⟨by omega,by show(r:Int)<=4096;omega⟩,⟨by show(0:Int)<=c;omega,by show(c:Int)<=4096;omega⟩,?_⟩
 show(r:Int)*(c:Int)<=1048576
 have e:(r:Int)*(c:Int)=((r*c:Nat):Int):=by norm_cast
 omega
theorem ao5 {x:Int×Int} (h:CZ x):∃r c:Nat,x=((r:Int),(c:Int))/\r<=4096/\c<=4096/\r*c<=1048576:=by
 obtain⟨r,c⟩:=x
 obtain⟨h1,h2,h3⟩:=h
 simp only at h1 h2 h3
 obtain⟨r,rfl⟩:=fu h1.1
 obtain⟨c,rfl⟩:=fu h2.1
 have e:(r:Int)*(c:Int)=((r*c:Nat):Int):=by norm_cast
 exact⟨r,c,rfl,by omega,by omega,by omega⟩
theorem acd {r c:Nat} (hr:r<=4096) (hc:c<=4096) (h:r*c<=1048576):yj ((r:Int),(c:Int))=some ((r:Int),(c:Int),aq r c fun _ _=>0):=by
 simp only[yj,Int.toNat_natCast]
 rw[if_pos (ao6 hr hc h)]
theorem KT {r c:Nat} (hr:r<=4096) (hc:c<=4096) (h:r*c<=1048576):vZ ((r:Int),(c:Int))=some ((r:Int),(c:Int),aq r c fun _ _=>0):=acd hr hc h
theorem aiu {r c:Nat} (hr:r<=4096) (hc:c<=4096) (h:r*c<=1048576):Hx aC ((r:Int),(c:Int))=some ((r:Int),(c:Int),aq r c fun _ _=>0):=by
 simp only[Hx]
 rw[sD (by omega) (by omega)]
 have:=CV (n:=r*c) (by_:=8) (by unfold eQ;omega)
 rw[show((r*c:Nat):Int)=aS (r*c) from rfl,this,av,aiA]
 rw[show dw (aq r c fun _ _=>0) (r*c)=some (aq r c fun _ _=>0) by
  have:=jJ (aq r c fun _ _=>(0:Int))
  rwa[zS] at this]
 rfl
theorem ZD (x:Int×Int) (y:Int×Int×List Int) (h:yj x=some y):Hx aC x=some y:=by
 simp only[yj] at h
 split at h
 ·rename_i hc
  obtain⟨r,c,rfl,h1,h2,h3⟩:=ao5 hc
  rw[<-h,aiu h1 h2 h3];rfl
 ·cases h
theorem ahA (x:Int×Int) (y:Int×Int×List Int) (h:vZ x=some y):XG aC x=some y:=ZD x y h
theorem ahw (x y:List Int) (h:kj x=some y):MB aC x=some y:=by
 simp only[kj] at h
 split at h
 ·rename_i hl
  rw[<-h]
  simp only[MB]
  rw[ti (by simp only[bj,aa,List.length_nil,eQ];omega),av]
  have:eY [] x=x:=rfl
  rw[this,show bj (aa ([]:List Int)) (aa x)=aa x by simp[bj,aa],jJ]
  rfl
 ·cases h
theorem ahx (x y:Int×Int×List Int) (h:AX x=some y):MC aC x=some y:=by
 obtain⟨r,c,l⟩:=x
 simp only[AX] at h
 split at h
 ·rename_i hl
  rw[<-h]
  simp only[MC,kj,if_pos hl,av,jJ]
 ·cases h
theorem xz {a b:Int} (h:0<=a/\a<b):∃n:Nat,a=(n:Int)/\∀m:Nat,b=(m:Int)->n<m:=⟨a.toNat,by omega,fun m hm=>by omega⟩
theorem ais {r c i j:Nat} {M:Nat->Nat->Int} (hr:r<=4096) (hc:c<=4096) (hi:i<r) (hj:j<c):G8 aC (((r:Int),(c:Int),aq r c M),(i:Int),(j:Int))=some (M i j):=by
 simp only[G8]
 rw[tG (by omega) (by omega) (by omega),aab M hi hj];rfl
theorem nH {r c i j:Nat} {M:Nat->Nat->Int} (hr:r<=4096) (hc:c<=4096) (h:r*c<=1048576) (hi:i<r) (hj:j<c):ki (((r:Int),(c:Int),aq r c M),(i:Int),(j:Int))=some (M i j):=by
 simp only[ki,Int.toNat_natCast]
 rw[if_pos ⟨zV M hr hc h,by omega,by omega⟩]
 rw[j7 M hi hj]
theorem ahh (x:(Int×Int×List Int)×Int×Int) (y:Int) (h:ki x=some y):G8 aC x=some y:=by
 obtain⟨m,i,j⟩:=x
 simp only[ki] at h
 split at h
 ·rename_i hc
  obtain⟨h1,h2,h3⟩:=hc
  obtain⟨r,c,M,rfl,hr,hc,dV⟩:=zU h1
  obtain⟨i,rfl,hi⟩:=xz h2
  obtain⟨j,rfl,hj⟩:=xz h3
  have hi:=hi r rfl;have hj:=hj c rfl
  rw[<-h,ais hr hc hi hj]
  exact congrArg some (j7 M hi hj).symm
 ·cases h
theorem aiw {r c i j:Nat} {M:Nat->Nat->Int} {x:Int} (hr:r<=4096) (hc:c<=4096) (hi:i<r) (hj:j<c):G9 aC (((r:Int),(c:Int),aq r c M),(i:Int),(j:Int),x)=some (aq r c (jK M i j x)):=by
 simp only[G9]
 rw[tG (by omega) (by omega) (by omega),afR M hi hj,av,hZ,aiC M hi hj,av,arM M hj,US,av]
theorem vJ {r c i j:Nat} {M:Nat->Nat->Int} {x:Int} (hr:r<=4096) (hc:c<=4096) (h:r*c<=1048576) (hi:i<r) (hj:j<c):oD (((r:Int),(c:Int),aq r c M),(i:Int),(j:Int),x)=some (aq r c (jK M i j x)):=by
 simp only[oD,Int.toNat_natCast]
 rw[if_pos ⟨zV M hr hc h,by omega,by omega⟩]
 refine(congrArg some (iN fun a ha b hb=>?_))
 unfold jK
 rw[j7 M ha hb]
theorem ahi (x:(Int×Int×List Int)×Int×Int×Int) (y:List Int) (h:oD x=some y):G9 aC x=some y:=by
 obtain⟨m,i,j,v⟩:=x
 have h0:=h
 simp only[oD] at h
 split at h
 ·rename_i hc
  obtain⟨h1,h2,h3⟩:=hc
  obtain⟨r,c,M,rfl,hr,hc,dV⟩:=zU h1
  obtain⟨i,rfl,hi⟩:=xz h2
  obtain⟨j,rfl,hj⟩:=xz h3
  have hi:=hi r rfl;have hj:=hj c rfl
  rw[<-h0,aiw hr hc hi hj,vJ hr hc dV hi hj]
 ·cases h
def AD (M:Nat->Nat->Int) (a b k:Nat):Nat->Nat->Int:=fun i j=>if j<k then c9 M a b i j else M i j
theorem asz (M:Nat->Nat->Int) (a b:Nat):AD M a b 0=M:=by funext i j;exact if_neg (by omega)
theorem asC {r c:Nat} (M:Nat->Nat->Int) (a b k:Nat):aq r c (jK (jK (AD M a b k) a k (M b k)) b k (M a k))=aq r c (AD M a b (k+1)):=by
 refine iN fun i _ j _=>?_
 unfold jK AD c9
 by_cases hj:j=k
 ·subst hj
  by_cases hb:i=b
  ·by_cases ha:i=a
   ·subst hb;subst ha;simp
   ·have:b≠a:=fun e=>ha (hb.trans e)
    simp[hb,this]
  ·by_cases ha:i=a
   ·have:a≠b:=fun e=>hb (ha.trans e)
    simp[ha,this]
   ·simp[ha,hb]
 ·have h1:¬(i=b/\j=k):=fun h=>hj h.2
  have h2:¬(i=a/\j=k):=fun h=>hj h.2
  rw[if_neg h1,if_neg h2]
  by_cases hk:j<k
  ·simp only[if_pos hk,if_pos (show j<k+1 by omega)]
  ·simp only[if_neg hk,if_neg (show¬j<k+1 by omega)]
theorem asA {r c:Nat} (M:Nat->Nat->Int) (a b:Nat):aq r c (AD M a b c)=aq r c (c9 M a b):=iN fun i _ j hj=>if_pos hj
theorem asB (M:Nat->Nat->Int) (a b k i:Nat):AD M a b k i k=M i k:=if_neg (by omega)
theorem aep {r c a b:Nat} {M:Nat->Nat->Int} (hr:r<=4096) (hc:c<=4096) (h:r*c<=1048576) (ha:a<r) (hb:b<r):DY (((r:Int),(c:Int),aq r c M),(a:Int),(b:Int))=some (aq r c (c9 M a b)):=by
 simp only[DY,Int.toNat_natCast]
 rw[if_pos ⟨zV M hr hc h,by omega,by omega⟩]
 refine(congrArg some (iN fun i hi j hj=>?_))
 unfold c9
 rw[j7 M hb hj,j7 M ha hj,j7 M hi hj]
theorem aiy {r c a b:Nat} {M:Nat->Nat->Int} (hr:r<=4096) (hc:c<=4096) (h:r*c<=1048576) (ha:a<r) (hb:b<r):Ha aC (((r:Int),(c:Int),aq r c M),(a:Int),(b:Int))=some (aq r c (c9 M a b)):=by
 simp only[Ha,cC,av,fT]
 refine eH (fun k=>(((a:Int),(b:Int),(k:Int)),aq r c (AD M a b k),(r:Int),(c:Int))) c ?_ ?_ ?_ (dk (by omega))
 ·intro k hk
  simp only
  rw[aR (j3 hk)]
  simp only[nH hr hc h ha hk,nH hr hc h hb hk,vJ hr hc h ha hk,vJ hr hc h hb hk,av,uQ,asB,fF (show k<=1048577 by omega),asC]
 ·simp only
  rw[aL (j0 (Nat.le_refl c)),US,av,av,asA]
 ·rw[asz];rfl
theorem ahj (x:(Int×Int×List Int)×Int×Int) (y:List Int) (h:AO x=some y):Ha aC x=some y:=by
 obtain⟨m,i,j⟩:=x
 have h0:DY (m,i,j)=some y:=h
 simp only[AO,DY] at h
 split at h
 ·rename_i hc
  obtain⟨h1,h2,h3⟩:=hc
  obtain⟨r,c,M,rfl,hr,hc,dV⟩:=zU h1
  obtain⟨i,rfl,hi⟩:=xz h2
  obtain⟨j,rfl,hj⟩:=xz h3
  have hi:=hi r rfl;have hj:=hj r rfl
  rw[<-h0,aiy hr hc dV hi hj,aep hr hc dV hi hj]
 ·cases h
def yA (p:Int) (M:Nat->Nat->Int) (i k:Nat) (f:Int) (n:Nat):Nat->Nat->Int:=fun a j=>if j<n then uF p M i k f a j else M a j
theorem afU (p:Int) (M:Nat->Nat->Int) (i k:Nat) (f:Int):yA p M i k f 0=M:=by funext a j;exact if_neg (by omega)
theorem afX {r c:Nat} (p:Int) (M:Nat->Nat->Int) (i k:Nat) (f:Int) (n:Nat):aq r c (jK (yA p M i k f n) i n ((M i n+f*M k n)%p))=aq r c (yA p M i k f (n+1)):=by
 refine iN fun a _ j _=>?_
 unfold jK yA uF
 by_cases hj:j=n
 ·subst hj
  by_cases ha:a=i
  ·subst ha;simp
  ·simp[ha]
 ·rw[if_neg (fun h=>hj h.2)]
  by_cases hk:j<n
  ·simp only[if_pos hk,if_pos (show j<n+1 by omega)]
  ·simp only[if_neg hk,if_neg (show¬j<n+1 by omega)]
theorem afV {r c:Nat} (p:Int) (M:Nat->Nat->Int) (i k:Nat) (f:Int):aq r c (yA p M i k f c)=aq r c (uF p M i k f):=iN fun a _ j hj=>if_pos hj
theorem afW (p:Int) (M:Nat->Nat->Int) (i k:Nat) (f:Int) (n a:Nat):yA p M i k f n a n=M a n:=if_neg (by omega)
theorem air {p f:Int} {r c i k:Nat} {M:Nat->Nat->Int} (hp:dh p) (hr:r<=4096) (hc:c<=4096) (h:r*c<=1048576) (hi:i<r) (hk:k<r) (hf:0<=f/\f<=p) (hM:cT p r c M):
  G7 aC (((r:Int),(c:Int),aq r c M),p,(i:Int),(k:Int),f)=some (aq r c (uF p M i k f)):=by
 simp only[G7,cC,av,fT]
 refine eH (fun n=>((p,(i:Int),(k:Int),f,(n:Int)),aq r c (yA p M i k f n),(r:Int),(c:Int))) c ?_ ?_ ?_ (dk (by omega))
 ·intro n hn
  simp only
  rw[aR (j3 hn)]
  have h1:=hM i hi n hn
  simp only[nH hr hc h hi hn,nH hr hc h hk hn,av,afW,KF hp (h1.s hp) hf (hM k hk n hn).le,vJ hr hc h hi hn,uQ,fF (show n<=1048577 by omega),afX]
 ·simp only
  rw[aL (j0 (Nat.le_refl c)),US,av,av,afV]
 ·rw[afU];rfl
theorem XT {p f:Int} {r c i k:Nat} {M:Nat->Nat->Int} (hp:dh p) (hr:r<=4096) (hc:c<=4096) (h:r*c<=1048576) (hi:i<r) (hk:k<r) (hf:0<=f/\f<=p) (hM:cT p r c M):
  x8 (((r:Int),(c:Int),aq r c M),p,(i:Int),(k:Int),f)=some (aq r c (uF p M i k f)):=by
 simp only[x8,Int.toNat_natCast]
 rw[if_pos ⟨zV M hr hc h,hp,by omega,by omega,hf,iL.2 hM⟩]
 refine(congrArg some (iN fun a ha j hj=>?_))
 unfold uF
 rw[j7 M hi hj,j7 M hk hj,j7 M ha hj]
theorem ahg (x:(Int×Int×List Int)×Int×Int×Int×Int) (y:List Int) (h:x8 x=some y):G7 aC x=some y:=by
 obtain⟨m,p,i,k,f⟩:=x
 have h0:=h
 simp only[x8] at h
 split at h
 ·rename_i hc
  obtain⟨h1,hp,h2,h3,hf,hM⟩:=hc
  obtain⟨r,c,M,rfl,hr,hc,dV⟩:=zU h1
  obtain⟨i,rfl,hi⟩:=xz h2
  obtain⟨k,rfl,hk⟩:=xz h3
  have hi:=hi r rfl;have hk:=hk r rfl
  have hM:=iL.1 hM
  rw[<-h0,air hp hr hc dV hi hk hf hM,XT hp hr hc dV hi hk hf hM]
 ·cases h
theorem F0 {M:Nat->Nat->Int} {j q:Nat}:∀{d k:Nat},qi M j d k=some q->k<=q/\q<k+d/\M q j≠0
 |0,k,h=>by cases h
 |d+1,k,h=>by
  simp only[qi] at h
  split at h
  ·have:=F0 h
   exact⟨by omega,by omega,this.2.2⟩
  ·rename_i h0
   injection h with h
   subst h
   exact⟨by omega,by omega,h0⟩
theorem QK (p out x:Int):ld p out x 0=out:=by rw[ld];rfl
theorem QL {n:Nat} (h:n≠0) (p out x:Int):ld p out x n=ld p (if n%2=1 then out*x%p else out) (x*x%p) (n/2):=by
 rw[ld,dif_neg h]
theorem akX {p:Int} (hp:dh p):∀(n:Nat) (out x:Int),eN p out->eN p (ld p out x n):=by
 intro n
 induction n using Nat.strongRecOn with
 |ind n ih=>
  intro out x ho
  by_cases h:n=0
  ·subst h;rw[QK];exact ho
  ·rw[QL h]
   refine ih (n/2) (by omega) _ _ ?_
   split
   ·exact yL hp _
   ·exact ho
theorem ak1 {p out x:Int} {n:Nat} {Y:Type} {o:Option (Int×Int×Int×Int⊕Y)} (k:Int×Int×Int×Int->Option Y) (b:Bool) (hb:b=decide (n%2=1)) (hp:dh p) (ho:eN p out) (hx:eN p x):
  ca (ax b ((iZ (cd .i64 out x) p).ab fun i=>some (Sum.inl (x,(n:Int),p,i))) (some (Sum.inl (x,(n:Int),p,out)))) k=k (x,(n:Int),p,if n%2=1 then out*x%p else out):=by
 subst hb
 by_cases h:n%2=1
 ·rw[aR (decide_eq_true h),S2 hp ho.le hx.le,av,fx,if_pos h]
 ·rw[aL (decide_eq_false h),fx,if_neg h]
theorem ahJ (x:Int×Int) (y:Int) (h:A7 x=some y):MN aC x=some y:=by
 obtain⟨p,x⟩:=x
 simp only[A7,XB] at h
 split at h
 ·rename_i hc
  obtain⟨hp,hx⟩:=hc
  have vb:=hp.1;have oQ:=hp.2
  obtain⟨n,hn⟩:=fu (show 0<=p - 2 by omega)
  rw[<-h]
  simp only[MN]
  rw[pq (by omega) (by omega),hn,Int.toNat_natCast]
  rw[abN (r:=Sum.inl (ld p 1 x n)) (fun m s=>∃out x':Int,s=(p,x',out,(m:Int))/\m<=n/\eN p out/\eN p x'/\ld p out x' m=ld p 1 x n) ?_ n _ ⟨1,x,rfl,by omega,⟨by omega,by omega⟩,hx,rfl⟩ aC (dk (by omega))]
  ·rw[fx]
  ·rintro m s ⟨out,x',rfl,hm,ho,f7,he⟩
   simp only
   by_cases h0:m=0
   ·subst h0
    left
    rw[aL (cN (by omega)),<-he,QK]
   ·right
    refine⟨m/2,_,by omega,?_,if m%2=1 then out*x'%p else out,x'*x'%p,rfl,by omega,?_,yL hp _,by rw[<-he,QL h0]⟩
    ·rw[aR (df (by omega))]
     have hb:cJ (qy .i64 (m:Int) 1) 1=decide (m%2=1):=by
      rw[show(1:Int)=((1:Nat):Int) from rfl,afd (by omega) (by omega),Nat.and_one_is_mod]
      by_cases h1:m%2=1
      ·rw[tg (by omega),decide_eq_true h1]
      ·rw[rW (by omega),decide_eq_false h1]
     rw[ak1 (o:=none) _ _ hb hp ho f7]
     simp only
     rw[S2 hp f7.le f7.le,av]
     have hq:t7 .i64 (m:Int) 1=some ((m/2:Nat):Int):=by
      rw[show(1:Int)=((1:Nat):Int) from rfl,arU (by omega),Nat.shiftRight_eq_div_pow]
     rw[hq,av]
    ·split
     ·exact yL hp _
     ·exact ho
 ·cases h
def nw (W:Nat->Nat->Int) (i j:Nat):Nat->Nat->Int:=fun a b=>if a<i\/a=i/\b<j then W a b else 0
theorem ab7 {r c:Nat} (W:Nat->Nat->Int) (i j:Nat):aq r c (jK (nw W i j) i j (W i j))=aq r c (nw W i (j+1)):=by
 refine iN fun a _ b _=>?_
 unfold jK nw
 by_cases h:a=i/\b=j
 ·obtain⟨rfl,rfl⟩:=h
  simp
 ·rw[if_neg h]
  by_cases h1:a<i\/a=i/\b<j
  ·simp only[if_pos h1,if_pos (show a<i\/a=i/\b<j+1 by omega)]
  ·simp only[if_neg h1,if_neg (show¬(a<i\/a=i/\b<j+1) by omega)]
theorem ab6 {r c:Nat} (W:Nat->Nat->Int) (i:Nat):aq r c (nw W i c)=aq r c (nw W (i+1) 0):=by
 refine iN fun a _ b hb=>?_
 unfold nw
 by_cases h1:a<i\/a=i/\b<c
 ·simp only[if_pos h1,if_pos (show a<i+1\/a=i+1/\b<0 by omega)]
 ·simp only[if_neg h1,if_neg (show¬(a<i+1\/a=i+1/\b<0) by omega)]
theorem ab5 {r c:Nat} (W:Nat->Nat->Int):aq r c (nw W r 0)=aq r c W:=iN fun a ha b hb=>if_pos (.inl ha)
theorem ab4 {r c:Nat} (W:Nat->Nat->Int):aq r c (nw W 0 0)=aq r c fun _ _=>0:=iN fun a ha b hb=>if_neg (by omega)
theorem S0 {p:Int} {k:Nat} {A A' B B':Nat->Nat->Int} {i j:Nat} (hA:∀t,t<k->A i t=A' i t) (hB:∀t,t<k->B t j=B' t j):iC p k A B i j=iC p k A' B' i j:=by
 unfold iC
 have:∀n,n<=k->ic p (fun t=>A i t) (fun t=>B t j) n=ic p (fun t=>A' i t) (fun t=>B' t j) n:=by
  intro n
  induction n with
  |zero=>intro _;rfl
  |succ n ih=>
   intro hn
   simp only[ic]
   rw[ih (by omega),hA n (by omega),hB n (by omega)]
 exact this k (Nat.le_refl k)
theorem anS {p:Int} (hp:dh p) (r c k:Nat) (A B:Nat->Nat->Int):cT p r c (iC p k A B):=fun i _ j _=>wE hp _ _ k
theorem anT {x:Int×(Int×Int×List Int)×(Int×Int×List Int)} (h:FO x):∃(p:Int) (r k c:Nat) (A B:Nat->Nat->Int),x=(p,((r:Int),(k:Int),aq r k A),((k:Int),(c:Int),aq k c B))/\dh p/\
  r<=4096/\k<=4096/\c<=4096/\r*k<=1048576/\k*c<=1048576/\r*c<=1048576/\cT p r k A/\cT p k c B:=by
 obtain⟨p,a,b⟩:=x
 obtain⟨hp,ha,hb,hk,dV,h1,h2⟩:=h
 obtain⟨r,k,A,rfl,q1,q2,q3⟩:=zU ha
 obtain⟨k',c,B,rfl,q4,q5,q6⟩:=zU hb
 simp only at hk dV h1 h2
 have:k'=k:=by omega
 subst this
 have e:(r:Int)*(c:Int)=((r*c:Nat):Int):=by norm_cast
 exact⟨p,r,k',c,A,B,rfl,hp,q1,q2,q5,q3,q6,by omega,iL.1 h1,iL.1 h2⟩
theorem anU {p:Int} {r k c:Nat} {A B:Nat->Nat->Int} (hp:dh p) (hr:r<=4096) (hk:k<=4096) (hc:c<=4096) (h1:r*k<=1048576) (h2:k*c<=1048576) (h3:r*c<=1048576) (hA:cT p r k A) (hB:cT p k c B):
  FO (p,((r:Int),(k:Int),aq r k A),((k:Int),(c:Int),aq k c B)):=by
 refine⟨hp,zV A hr hk h1,zV B hk hc h2,rfl,?_,iL.2 hA,iL.2 hB⟩
 show(r:Int)*(c:Int)<=1048576
 have e:(r:Int)*(c:Int)=((r*c:Nat):Int):=by norm_cast
 omega
theorem S3 {p:Int} {r k c:Nat} {A B:Nat->Nat->Int} (hp:dh p) (hr:r<=4096) (hk:k<=4096) (hc:c<=4096) (h1:r*k<=1048576) (h2:k*c<=1048576) (h3:r*c<=1048576) (hA:cT p r k A) (hB:cT p k c B):
  yi (p,((r:Int),(k:Int),aq r k A),((k:Int),(c:Int),aq k c B))=some ((r:Int),(c:Int),aq r c (iC p k A B)):=by
 simp only[yi,Int.toNat_natCast]
 rw[if_pos (anU hp hr hk hc h1 h2 h3 hA hB)]
 exact congrArg (fun l=>some ((r:Int),(c:Int),l)) (iN fun i hi j hj=>S0 (fun t ht=>j7 A hi ht) (fun t ht=>j7 B ht hj))
theorem ait {p:Int} {r k c:Nat} {A B:Nat->Nat->Int} (hp:dh p) (hr:r<=4096) (hk:k<=4096) (hc:c<=4096) (h1:r*k<=1048576) (h2:k*c<=1048576) (h3:r*c<=1048576) (hA:cT p r k A) (hB:cT p k c B):
  Hf aC (p,((r:Int),(k:Int),aq r k A),((k:Int),(c:Int),aq k c B))=some ((r:Int),(c:Int),aq r c (iC p k A B)):=by
 simp only[Hf,KT hr hc h3,av,cC]
 rw[show ai 0 0 (aa ([]:List Int))=some () from rfl,av]
 rw[eH (r:=Sum.inl (((0:Int),(0:Int)),((r:Int),(c:Int)),([]:List Int),aq r c (iC p k A B))) (fun i=>((p,(i:Int)),((r:Int),(k:Int),aq r k A),((k:Int),(c:Int),aq k c B),((0:Int),(0:Int)),((r:Int),(c:Int)),([]:List Int),aq r c (nw (iC p k A B) i 0))) r ?_ ?_ ?_ (dk (by omega))]
 ·rw[fx];simp only[jJ,av]
 ·intro i hi
  simp only
  rw[aR (j3 hi)]
  rw[eH (r:=Sum.inl (((i:Int),p),((r:Int),(k:Int),aq r k A),((k:Int),(c:Int),aq k c B),((0:Int),(0:Int)),((r:Int),(c:Int)),([]:List Int),aq r c (nw (iC p k A B) (i+1) 0))) (fun j=>((p,(i:Int),(j:Int)),((r:Int),(k:Int),aq r k A),((k:Int),(c:Int),aq k c B),((0:Int),(0:Int)),((r:Int),(c:Int)),([]:List Int),aq r c (nw (iC p k A B) i j))) c ?_ ?_ ?_ (dk (by omega))]
  ·rw[fx];simp only[fF (show i<=1048577 by omega)]
  ·intro j hj
   simp only
   rw[aR (j3 hj)]
   rw[eH (r:=Sum.inl ((iC p k A B i j,(j:Int),p,(i:Int)),((r:Int),(k:Int),aq r k A),((k:Int),(c:Int),aq k c B),((0:Int),(0:Int)),((r:Int),(c:Int)),([]:List Int),aq r c (nw (iC p k A B) i j))) (fun t=>((p,(i:Int),(j:Int),ic p (fun t=>A i t) (fun t=>B t j) t,(t:Int)),((r:Int),(k:Int),aq r k A),((k:Int),(c:Int),aq k c B),((0:Int),(0:Int)),((r:Int),(c:Int)),([]:List Int),aq r c (nw (iC p k A B) i j))) k ?_ ?_ ?_ (dk (by omega))]
   ·rw[fx]
    simp only[vJ hr hc h3 hi hj,av,uQ,ab7 (r:=r) (c:=c)]
    rw[fx]
    simp only[fF (show j<=1048577 by omega)]
   ·intro t ht
    simp only
    rw[aR (j3 ht),nH hr hk h1 hi ht,av,nH hk hc h2 ht hj,av,KF hp ((wE hp _ _ t).s hp) (hA i hi t ht).le (hB t ht j hj).le,av]
    simp only[fF (show t<=1048577 by omega),ic]
   ·simp only
    rw[aL (j0 (Nat.le_refl k))]
    rfl
   ·rfl
  ·simp only
   rw[aL (j0 (Nat.le_refl c)),ab6]
  ·rfl
 ·simp only
  rw[aL (j0 (Nat.le_refl r)),ab5]
 ·rw[ab4];rfl
theorem ahK (x:Int×(Int×Int×List Int)×(Int×Int×List Int)) (y:Int×Int×List Int) (h:ye x=some y):Hf aC x=some y:=by
 have h0:yi x=some y:=h
 simp only[ye,yi] at h
 split at h
 ·rename_i hc
  obtain⟨p,r,k,c,A,B,rfl,hp,hr,hk,hc,h1,h2,h3,hA,hB⟩:=anT hc
  rw[<-h0,ait hp hr hk hc h1 h2 h3 hA hB,S3 hp hr hk hc h1 h2 h3 hA hB]
 ·cases h
end Go.Am
end
section
namespace Go.Am
def G4:Int×(Int×Int×List Int)×(Int×Int×List Int)->Option ((Int×Int×List Int)×Bool):=fun(x:Int×(Int×Int×List Int)×(Int×Int×List Int))=>
 if xY x.2.1<=1048576/\xY x.2.2<=1048576 then
  some (if iB x.1 x.2.1=true/\iB x.1 x.2.2=true/\x.2.1.2.1=x.2.2.1 then((x.2.1.1,x.2.2.2.1,aq x.2.1.1.toNat x.2.2.2.1.toNat (iC x.1 x.2.1.2.1.toNat (bB x.2.1.2.1.toNat x.2.1.2.2) (bB x.2.2.2.1.toNat x.2.2.2.2))),true) else((0,0,[]),false)) else none
def AP:Int×(Int×Int×List Int)×(Int×Int×List Int)->Option ((Int×Int×List Int)×Bool):=G4
def Dw (a b i:Nat) (M:Nat->Nat->Int):Nat->Nat->Nat->Int
 |0=>M
 |j+1=>jK (Dw a b i M j) (j*a+i) (i*b+j) 1
def jI (a b:Nat):Nat->Nat->Nat->Int
 |0=>fun _ _=>0
 |i+1=>Dw a b i (jI a b i) b
def LC (x:Int×Int×Int):Prop:=cu x.1=true/\(1<=x.2.1/\x.2.1<=8)/\(1<=x.2.2/\x.2.2<=8)
instance (x:Int×Int×Int):Decidable (LC x):=by unfold LC;infer_instance
def G5:Int×Int×Int->Option ((Int×Int×List Int)×Bool):=fun(x:Int×Int×Int)=>
 some (if LC x then((x.2.1*x.2.2,x.2.1*x.2.2,aq (x.2.1*x.2.2).toNat (x.2.1*x.2.2).toNat (jI x.2.1.toNat x.2.2.toNat x.2.1.toNat)),true) else((0,0,[]),false))
def vY:Int×Int×Int->Option ((Int×Int×List Int)×Bool):=G5
def HT:ao:=[(.one,[.int .i64]),(.agg,[.int .i64,.int .i64,.list [.int .i64]]),(.agg,[.int .i64,.int .i64,.list [.int .i64]])]
def TV:ao:=[(.agg,[.int .i64,.int .i64,.list [.int .i64]]),(.one,[.bool])]
def am0:aQ:=[]
def HZ:ao:=[(.one,[.int .i64]),(.one,[.int .i64]),(.one,[.int .i64])]
def T1:ao:=[(.agg,[.int .i64,.int .i64,.list [.int .i64]]),(.one,[.bool])]
def am6:aQ:=[]
def XI (NN:Nat):(Int×((Int×(Int×(List Int)))×(Int×(Int×(List Int)))))->(Option ((Int×(Int×(List Int)))×Bool)):=
 (fun((i0,(i1,i2,l3),i4,i5,l6):(Int×((Int×(Int×(List Int)))×(Int×(Int×(List Int))))))=>
 (G0 (i0,i1,i2,l3)).ab (fun b7=>
 ax (dA b7)
 (some (((0:Int),(0:Int),([]:List Int)),false))
 ((G0 (i0,i4,i5,l6)).ab (fun b8=>
 ax (dA b8)
 (some (((0:Int),(0:Int),([]:List Int)),false))
 (ax (gC i2 i4)
 (some (((0:Int),(0:Int),([]:List Int)),false))
 ((yi (i0,(i1,i2,l3),i4,i5,l6)).ab (fun(i9,cG,ct)=>
 (dw ct (aa ct)).ab (fun dG=>
 some ((i9,cG,dG),true)))))))))
def XE (NN:Nat):(Int×((Int×(Int×(List Int)))×(Int×(Int×(List Int)))))->(Option ((Int×(Int×(List Int)))×Bool)):=
 (fun((i0,(i1,i2,l3),i4,i5,l6):(Int×((Int×(Int×(List Int)))×(Int×(Int×(List Int))))))=>
 (rM (i0,i1,i2,l3)).ab (fun b7=>
 ax (dA b7)
 (some (((0:Int),(0:Int),([]:List Int)),false))
 ((rM (i0,i4,i5,l6)).ab (fun b8=>
 ax (dA b8)
 (some (((0:Int),(0:Int),([]:List Int)),false))
 (ax (gC i2 i4)
 (some (((0:Int),(0:Int),([]:List Int)),false))
 ((ye (i0,(i1,i2,l3),i4,i5,l6)).ab (fun(i9,cG,ct)=>
 (dw ct (aa ct)).ab (fun dG=>
 some ((i9,cG,dG),true)))))))))
def D2 (NN:Nat):(Int×(Int×Int))->(Option ((Int×(Int×(List Int)))×Bool)):=
 (fun((i0,i1,i2):(Int×(Int×Int)))=>
 (nE i0).ab (fun b3=>
 ax (dA b3)
 (some (((0:Int),(0:Int),([]:List Int)),false))
 (ax (bG i1 (1:Int))
 (some (((0:Int),(0:Int),([]:List Int)),false))
 (ax (bG (8:Int) i1)
 (some (((0:Int),(0:Int),([]:List Int)),false))
 (ax (bG i2 (1:Int))
 (some (((0:Int),(0:Int),([]:List Int)),false))
 (ax (bG (8:Int) i2)
 (some (((0:Int),(0:Int),([]:List Int)),false))
 (ax (bG (64:Int) (cd .i64 i1 i2))
 (some (((0:Int),(0:Int),([]:List Int)),false))
 ((vZ (cd .i64 i1 i2,cd .i64 i1 i2)).ab (fun(i4,i5,l6)=>
 ca ((ai 0 0 (aa (([]:List Int)))).ab (fun _=>
 (ai 0 (aa l6) (aa l6)).ab (fun _=>
 bM NN (fun(((i7,i8,i9),(cG,eF),(eA,eG),fg,eP):((Int×(Int×Int))×((Int×Int)×((Int×Int)×((List Int)×(List Int))))))=>
 ax (bG i9 i7)
 (ca ((ai 0 (aa fg) (aa fg)).ab (fun _=>
 (ai 0 (aa eP) (aa eP)).ab (fun _=>
 bM NN (fun(((fP,f8,fw,gz),(iQ,jT),(ij,nf),fh,fI):((Int×(Int×(Int×Int)))×((Int×Int)×((Int×Int)×((List Int)×(List Int))))))=>
 ax (bG gz f8)
 ((ai 0 (aa fI) (aa fI)).ab (fun _=>
 (oD ((ij,nf,fI),bA .i64 (cd .i64 gz fP) fw,bA .i64 (cd .i64 fw f8) gz,(1:Int))).ab (fun ik=>
 (ai 0 (aa fh) (aa fh)).ab (fun _=>
 (ai 0 (aa fI) (aa ik)).ab (fun _=>
 some (Sum.inl ((fP,f8,fw,bA .i64 gz 1),(iQ,jT),(ij,nf),fh,ik)))))))
 (((ai 0 (aa fh) (aa fh)).ab (fun _=>
 (ai 0 (aa fI) (aa fI)).ab (fun _=>
 some (Sum.inl ((fw,fP,f8),(iQ,jT),(ij,nf),fh,fI))))).ab (fun jD=>
 some (Sum.inr jD))))
 ((i7,i8,i9,(0:Int)),(cG,eF),(eA,eG),fg,eP))))
 (fun((oT,pT,nZ),(gV,iR),(mK,iS),tK,gA)=>
 (ai 0 (aa tK) (aa tK)).ab (fun _=>
 (ai 0 (aa gA) (aa gA)).ab (fun _=>
 some (Sum.inl ((pT,nZ,bA .i64 oT 1),(gV,iR),(mK,iS),tK,gA))))))
 (((ai 0 (aa fg) (aa fg)).ab (fun _=>
 (ai 0 (aa eP) (aa eP)).ab (fun _=>
 some (Sum.inl ((cG,eF),(eA,eG),fg,eP))))).ab (fun iV=>
 some (Sum.inr iV))))
 ((i1,i2,(0:Int)),((0:Int),(0:Int)),(i4,i5),([]:List Int),l6))))
 (fun((kY,jU),(jC,n3),gn,gB)=>
 (dw gB (aa gB)).ab (fun gp=>
 some ((jC,n3,gp),true))))))))))))
theorem akT {p:Int} {r c:Nat} {l:List Int} (h:l.length=r*c) (hr:nB p l=true):cT p r c (bB c l):=by
 apply iL.1
 rw[qP h]
 intro x hx
 have:=List.all_eq_true.1 hr x hx
 exact of_decide_eq_true this
theorem RJ {m:Int} {x:Int×Int×List Int} (h:iB m x=true):∃(r c:Nat) (M:Nat->Nat->Int),x=((r:Int),(c:Int),aq r c M)/\dh m/\r<=64/\c<=64/\r*c<=4096/\cT m r c M:=by
 obtain⟨r,c,l⟩:=x
 simp only[iB,Bool.and_eq_true,decide_eq_true_eq] at h
 obtain⟨h1,h2,h3,h4,h5⟩:=h
 obtain⟨r,rfl⟩:=fu (z:=r) (by omega)
 obtain⟨c,rfl⟩:=fu (z:=c) (by omega)
 have hl:l.length=r*c:=by
  have e:(r:Int)*(c:Int)=((r*c:Nat):Int):=by norm_cast
  omega
 have dV:r*c<=64*64:=Nat.mul_le_mul (by omega) (by omega)
 exact⟨r,c,bB c l,by rw[qP hl],eT h1,by omega,by omega,by omega,akT hl h5⟩
theorem ah3 (x:Int×(Int×Int×List Int)×(Int×Int×List Int)) (y:(Int×Int×List Int)×Bool) (h:G4 x=some y):XI aC x=some y:=by
 obtain⟨m,a,b⟩:=x
 simp only[G4] at h
 split at h
 ·rename_i hl
  rw[<-h]
  obtain⟨r,k,l⟩:=a
  obtain⟨k',c,l'⟩:=b
  simp only[XI]
  rw[show G0 (m,r,k,l)=some (iB m (r,k,l)) from if_pos hl.1,av]
  rw[show G0 (m,k',c,l')=some (iB m (k',c,l')) from if_pos hl.2,av]
  cases hm:iB m (r,k,l) with
  |false=>simp[ax,dA]
  |true=>
   rw[aL (by rfl)]
   cases bO:iB m (k',c,l') with
   |false=>simp[ax,dA]
   |true=>
    rw[aL (by rfl)]
    by_cases hk:k=k'
    ·subst hk
     obtain⟨r,k,A,e,hp,hr,hk,hrk,hA⟩:=RJ hm
     cases e
     obtain⟨k',c,B,e,_,cI,hc,hkc,hB⟩:=RJ bO
     have e1:k'=k:=by have:=congrArg Prod.fst e;simp only at this;omega
     subst e1
     cases e
     have dV:r*c<=64*64:=Nat.mul_le_mul hr hc
     rw[aL (tT rfl),S3 hp (by omega) (by omega) (by omega) (by omega) (by omega) (by omega) hA hB,av]
     simp only[jJ,av,Int.toNat_natCast,true_and,if_pos]
     exact congrArg (fun l=>some (((r:Int),(c:Int),l),true)) (iN fun i hi j hj=>S0 (fun t ht=>(j7 A hi ht).symm) (fun t ht=>(j7 B ht hj).symm))
    ·rw[aR (vu hk),if_neg (fun q=>hk q.2.2)]
 ·cases h
theorem ahk (x:Int×(Int×Int×List Int)×(Int×Int×List Int)) (y:(Int×Int×List Int)×Bool) (h:AP x=some y):XE aC x=some y:=by
 rw[<-ah3 x y h]
 rfl
theorem asc {a b i j:Nat} (hi:i<a) (hj:j<b):j*a+i<a*b/\i*b+j<a*b:=⟨by rw[Nat.mul_comm a b];exact jV hj hi,jV hi hj⟩
theorem asb {a b i j:Nat} (hi:i<a) (hj:j<b) (ha:a<=8) (hb:b<=8):a*b<=64/\j*a<=64/\i*b<=64/\(a*b)*(a*b)<=4096:=by
 have h1:a*b<=8*8:=Nat.mul_le_mul ha hb
 have h2:j*a<=8*8:=Nat.mul_le_mul (by omega) ha
 have h3:i*b<=8*8:=Nat.mul_le_mul (by omega) hb
 have h4:(a*b)*(a*b)<=64*64:=Nat.mul_le_mul h1 h1
 omega
theorem aix {a b:Nat} {m:Int} (hm:cu m=true) (ha:1<=a/\a<=8) (hb:1<=b/\b<=8):
  D2 aC (m,(a:Int),(b:Int))=some ((((a*b:Nat):Int),((a*b:Nat):Int),aq (a*b) (a*b) (jI a b a)),true):=by
 have h1:a*b<=8*8:=Nat.mul_le_mul ha.2 hb.2
 have h4:(a*b)*(a*b)<=64*64:=Nat.mul_le_mul h1 h1
 simp only[D2,nE,av]
 rw[hm,aL (by rfl),aL (cN (by omega)),aL (cN (by omega)),aL (cN (by omega)),aL (cN (by omega)),sD (by omega) (by omega),aL (cN (by omega)),KT (by omega) (by omega) (by omega)]
 simp only[av,cC]
 rw[show ai 0 0 (aa ([]:List Int))=some () from rfl,av]
 rw[eH (r:=Sum.inl (((0:Int),(0:Int)),(((a*b:Nat):Int),((a*b:Nat):Int)),([]:List Int),aq (a*b) (a*b) (jI a b a))) (fun i=>(((a:Int),(b:Int),(i:Int)),((0:Int),(0:Int)),(((a*b:Nat):Int),((a*b:Nat):Int)),([]:List Int),aq (a*b) (a*b) (jI a b i))) a ?_ ?_ ?_ (dk (by omega))]
 ·rw[fx];simp only[jJ,av]
 ·intro i hi
  simp only
  rw[aR (j3 hi)]
  rw[eH (r:=Sum.inl (((i:Int),(a:Int),(b:Int)),((0:Int),(0:Int)),(((a*b:Nat):Int),((a*b:Nat):Int)),([]:List Int),aq (a*b) (a*b) (jI a b (i+1)))) (fun j=>(((a:Int),(b:Int),(i:Int),(j:Int)),((0:Int),(0:Int)),(((a*b:Nat):Int),((a*b:Nat):Int)),([]:List Int),aq (a*b) (a*b) (Dw a b i (jI a b i) j))) b ?_ ?_ ?_ (dk (by omega))]
  ·rw[fx];simp only[fF (show i<=1048577 by omega)]
  ·intro j hj
   simp only
   obtain⟨h5,h6⟩:=asc hi hj
   obtain⟨h7,h8,h9,h10⟩:=asb hi hj ha.2 hb.2
   rw[aR (j3 hj),tG (by omega) (by omega) (by omega),tG (by omega) (by omega) (by omega)]
   simp only[vJ (show a*b<=4096 by omega) (show a*b<=4096 by omega) (show(a*b)*(a*b)<=1048576 by omega) h5 h6,av,uQ,fF (show j<=1048577 by omega)]
   rfl
  ·simp only
   rw[aL (j0 (Nat.le_refl b))]
   first|done|rfl
  ·rfl
 ·simp only
  rw[aL (j0 (Nat.le_refl a))]
 ·rfl
theorem ahq (x:Int×Int×Int) (y:(Int×Int×List Int)×Bool) (h:vY x=some y):D2 aC x=some y:=by
 have h:G5 x=some y:=h
 rw[<-h]
 obtain⟨m,a,b⟩:=x
 simp only[G5]
 by_cases hs:LC (m,a,b)
 ·rw[if_pos hs]
  obtain⟨hm,ha,hb⟩:=hs
  simp only at hm ha hb
  obtain⟨a,rfl⟩:=fu (z:=a) (by omega)
  obtain⟨b,rfl⟩:=fu (z:=b) (by omega)
  have e:(a:Int)*(b:Int)=((a*b:Nat):Int):=by norm_cast
  rw[aix hm (by omega) (by omega),e]
  simp only[Int.toNat_natCast]
 ·rw[if_neg hs]
  simp only[D2,nE,av]
  cases hm:cu m with
  |false=>rfl
  |true=>
   rw[aL (by rfl)]
   by_cases h1:a<1
   ·rw[aR (df h1)]
   rw[aL (cN (by omega))]
   by_cases h2:8<a
   ·rw[aR (df h2)]
   rw[aL (cN (by omega))]
   by_cases h3:b<1
   ·rw[aR (df h3)]
   rw[aL (cN (by omega))]
   by_cases h4:8<b
   ·rw[aR (df h4)]
   exact absurd ⟨hm,show 1<=a/\a<=8 by omega,show 1<=b/\b<=8 by omega⟩ hs
end Go.Am
end
section
namespace Go.Am
abbrev aO:=Nat->Nat->Int
def xQ (p inv:Int) (M:aO) (t n:Nat):aO:=fun a b=>if a=t/\b<n then M t b*inv%p else M a b
def sI (p inv:Int) (M:aO) (t:Nat):aO:=fun a b=>if a=t then M t b*inv%p else M a b
def fk (p:Int) (M:aO) (t j n:Nat):aO:=fun a b=>if a<n/\a≠t then(M a b+(p - M a j)*M t b)%p else M a b
def pb (p:Int) (M:aO) (t j k:Nat):aO:=sI p (ld p 1 (c9 M t k t j) (p - 2).toNat) (c9 M t k) t
def La (p:Int) (M:aO) (t j k:Nat) (d:Int):Int:=(if k=t then d else(p - d)%p)*c9 M t k t j%p
def kI (p:Int) (r:Nat) (s:aO×List Int×Int) (j:Nat):aO×List Int×Int:=
 if s.2.1.length<r then
  match qi s.1 j (r - s.2.1.length) s.2.1.length with
  |none=>s
  |some k=>(fk p (pb p s.1 s.2.1.length j k) s.2.1.length j r,s.2.1++[(j:Int)],La p s.1 s.2.1.length j k s.2.2)
 else s
def cb (p:Int) (r:Nat) (M:aO):Nat->aO×List Int×Int
 |0=>(M,[],1)
 |j+1=>kI p r (cb p r M j) j
def F8 (x:Int×Int×Int×List Int):Prop:=dh x.1/\qc x.2/\dD x.1 x.2.2.2
instance (x:Int×Int×Int×List Int):Decidable (F8 x):=by unfold F8;infer_instance
def rq (x:Int×Int×Int×List Int):aO×List Int×Int:=cb x.1 x.2.1.toNat (bB x.2.2.1.toNat x.2.2.2) x.2.2.1.toNat
def yf:Int×Int×Int×List Int->Option ((Int×Int×List Int)×List Int):=fun(x:Int×Int×Int×List Int)=>
 if F8 x then some ((x.2.1,x.2.2.1,aq x.2.1.toNat x.2.2.1.toNat (rq x).1),(rq x).2.1) else none
def It:ao:=[(.one,[.int .i64]),(.agg,[.int .i64,.int .i64,.list [.int .i64]])]
def Uo:ao:=[(.agg,[.int .i64,.int .i64,.list [.int .i64]]),(.one,[.list [.int .i64]])]
def ans:aQ:=[]
def Hh (NN:Nat):(Int×(Int×(Int×(List Int))))->(Option ((Int×(Int×(List Int)))×(List Int))):=
 (fun((i0,i1,i2,l3):(Int×(Int×(Int×(List Int)))))=>
 (AX (i1,i2,l3)).ab (fun(i4,i5,l6)=>
 ca ((ai 0 0 (aa (([]:List Int)))).ab (fun _=>
 (ai 0 0 (aa (([]:List Int)))).ab (fun _=>
 (ai 0 (aa l6) (aa l6)).ab (fun _=>
 bM NN (fun(((i7,i8),(i9,cG),(eF,eA),eO,fg,eP):((Int×Int)×((Int×Int)×((Int×Int)×((List Int)×((List Int)×(List Int)))))))=>
 ax (bG i8 eA)
 (ca (ca ((ai 0 (aa eP) (aa eP)).ab (fun _=>
 (ai 0 (aa eO) (aa eO)).ab (fun _=>
 (ai 0 (aa fg) (aa fg)).ab (fun _=>
 bM NN (fun(((fP,f8,fw,gz),(iQ,jT),(ij,nf),fh,fI,ik):((Int×(Int×(Int×Int)))×((Int×Int)×((Int×Int)×((List Int)×((List Int)×(List Int)))))))=>
 ax (bG gz ij)
 ((cr fI 0 (aa fI)).ab (fun jD=>
 (ki ((ij,nf,jD),gz,f8)).ab (fun oT=>
 ax (cJ oT (0:Int))
 ((ai 0 (aa ik) (aa ik)).ab (fun _=>
 (ai 0 (aa fh) (aa fh)).ab (fun _=>
 (ai 0 (aa fI) (aa fI)).ab (fun _=>
 some (Sum.inl ((fP,f8,fw,bA .i64 gz 1),(iQ,jT),(ij,nf),fh,fI,ik))))))
 (((ai 0 (aa ik) (aa ik)).ab (fun _=>
 (ai 0 (aa fh) (aa fh)).ab (fun _=>
 (ai 0 (aa fI) (aa fI)).ab (fun _=>
 some (Sum.inl ((gz,fw,f8,fP),(iQ,jT),(ij,nf),fh,fI,ik)))))).ab (fun il=>
 some (Sum.inr il))))))
 (((ai 0 (aa ik) (aa ik)).ab (fun _=>
 (ai 0 (aa fh) (aa fh)).ab (fun _=>
 (ai 0 (aa fI) (aa fI)).ab (fun _=>
 some (Sum.inl ((gz,fw,f8,fP),(iQ,jT),(ij,nf),fh,fI,ik)))))).ab (fun jh=>
 some (Sum.inr jh))))
 ((i7,i8,aS (aa eP),aS (aa eP)),(i9,cG),(eF,eA),eO,fg,eP)))))
 (fun((gV,iR,mK,iS),(iT,sv),(kV,kY),ji,jZ,gm)=>
 ax (cJ gV kV)
 ((ai 0 (aa gm) (aa gm)).ab (fun _=>
 (ai 0 (aa ji) (aa ji)).ab (fun _=>
 (ai 0 (aa jZ) (aa jZ)).ab (fun _=>
 some (Sum.inl ((mK,iS),(iT,sv),(kV,kY),ji,jZ,gm))))))
 ((ai 0 (aa jZ) (aa jZ)).ab (fun _=>
 (AO ((kV,kY,jZ),iR,gV)).ab (fun gn=>
 (cr gn 0 (aa jZ)).ab (fun gB=>
 (ki ((kV,kY,gB),iR,mK)).ab (fun kz=>
 (A7 (iS,kz)).ab (fun mL=>
 ca ((ai 0 (aa gm) (aa gm)).ab (fun _=>
 (ai 0 (aa ji) (aa ji)).ab (fun _=>
 (ai 0 (aa jZ) (aa gn)).ab (fun _=>
 bM NN (fun(((sx,lM,kA,sy,kB),(n5,lc),(kC,nh),lg,gK,fJ):((Int×(Int×(Int×(Int×Int))))×((Int×Int)×((Int×Int)×((List Int)×((List Int)×(List Int)))))))=>
 ax (bG kB nh)
 ((cr gK 0 (aa gK)).ab (fun oW=>
 (ki ((kC,nh,oW),kA,kB)).ab (fun xg=>
 (iZ (cd .i64 xg sy) sx).ab (fun pV=>
 (ai 0 (aa gK) (aa gK)).ab (fun _=>
 (oD ((kC,nh,gK),kA,kB,pV)).ab (fun p9=>
 (ai 0 (aa fJ) (aa fJ)).ab (fun _=>
 (ai 0 (aa lg) (aa lg)).ab (fun _=>
 (ai 0 (aa gK) (aa p9)).ab (fun _=>
 some (Sum.inl ((sx,lM,kA,sy,bA .i64 kB 1),(n5,lc),(kC,nh),lg,p9,fJ)))))))))))
 (((ai 0 (aa fJ) (aa fJ)).ab (fun _=>
 (ai 0 (aa lg) (aa lg)).ab (fun _=>
 (ai 0 (aa gK) (aa gK)).ab (fun _=>
 some (Sum.inl ((sx,lM,kA),(n5,lc),(kC,nh),lg,gK,fJ)))))).ab (fun l62=>
 some (Sum.inr l62))))
 ((iS,mK,iR,mL,(0:Int)),(iT,sv),(kV,kY),ji,gn,gm)))))
 (fun((ni,i64,qY),(zz,sA),(zA,vk),oe,lP,lQ)=>
 ca ((ai 0 (aa lQ) (aa lQ)).ab (fun _=>
 (ai 0 (aa oe) (aa oe)).ab (fun _=>
 (ai 0 (aa lP) (aa lP)).ab (fun _=>
 bM NN (fun(((qZ,sB,tE,nj),(tF,pW),(n7,n8),oh,gL,lk):((Int×(Int×(Int×Int)))×((Int×Int)×((Int×Int)×((List Int)×((List Int)×(List Int)))))))=>
 ax (bG nj n7)
 (ax (gC nj tE)
 ((cr gL 0 (aa gL)).ab (fun FJ=>
 (ki ((n7,n8,FJ),nj,sB)).ab (fun xj=>
 ax (gC xj (0:Int))
 ((cr gL 0 (aa gL)).ab (fun vp=>
 (ki ((n7,n8,vp),nj,sB)).ab (fun Cy=>
 (ai 0 (aa gL) (aa gL)).ab (fun _=>
 (x8 ((n7,n8,gL),qZ,nj,tE,iF .i64 qZ Cy)).ab (fun vq=>
 (ai 0 (aa lk) (aa lk)).ab (fun _=>
 (ai 0 (aa oh) (aa oh)).ab (fun _=>
 (ai 0 (aa gL) (aa vq)).ab (fun _=>
 some (Sum.inl ((qZ,sB,tE,bA .i64 nj 1),(tF,pW),(n7,n8),oh,vq,lk))))))))))
 ((ai 0 (aa lk) (aa lk)).ab (fun _=>
 (ai 0 (aa oh) (aa oh)).ab (fun _=>
 (ai 0 (aa gL) (aa gL)).ab (fun _=>
 some (Sum.inl ((qZ,sB,tE,bA .i64 nj 1),(tF,pW),(n7,n8),oh,gL,lk)))))))))
 ((ai 0 (aa lk) (aa lk)).ab (fun _=>
 (ai 0 (aa oh) (aa oh)).ab (fun _=>
 (ai 0 (aa gL) (aa gL)).ab (fun _=>
 some (Sum.inl ((qZ,sB,tE,bA .i64 nj 1),(tF,pW),(n7,n8),oh,gL,lk)))))))
 (((ai 0 (aa lk) (aa lk)).ab (fun _=>
 (ai 0 (aa oh) (aa oh)).ab (fun _=>
 (ai 0 (aa gL) (aa gL)).ab (fun _=>
 some (Sum.inl ((sB,qZ),(tF,pW),(n7,n8),oh,gL,lk)))))).ab (fun zQ=>
 some (Sum.inr zQ))))
 ((ni,i64,qY,(0:Int)),(zz,sA),(zA,vk),oe,lP,lQ)))))
 (fun((FA,Qx),(i92,Qy),(CA,zB),Rk,FK,CN)=>
 (ai 0 (aa CN) (aa CN)).ab (fun _=>
 (cr ((FA::([]:List Int))) 0 1).ab (fun KC=>
 (lH (bj (aa CN) (aa KC)) 8).ab (fun _=>
 (ai 0 (bj (aa CN) (aa KC)) (aa (eY CN KC))).ab (fun _=>
 (ai 0 (aa Rk) (aa Rk)).ab (fun _=>
 (ai 0 (aa FK) (aa FK)).ab (fun _=>
 some (Sum.inl ((FA,Qx),(i92,Qy),(CA,zB),Rk,FK,eY CN KC))))))))))))))))))
 (fun((Fv,Qm),(zw,xf),(Qn,Km),zK,FH,Q3)=>
 (ai 0 (aa Q3) (aa Q3)).ab (fun _=>
 (ai 0 (aa zK) (aa zK)).ab (fun _=>
 (ai 0 (aa FH) (aa FH)).ab (fun _=>
 some (Sum.inl ((Qm,bA .i64 Fv 1),(zw,xf),(Qn,Km),zK,FH,Q3)))))))
 (((ai 0 (aa eP) (aa eP)).ab (fun _=>
 (ai 0 (aa eO) (aa eO)).ab (fun _=>
 (ai 0 (aa fg) (aa fg)).ab (fun _=>
 some (Sum.inl ((i9,cG),(eF,eA),eO,fg,eP)))))).ab (fun KA=>
 some (Sum.inr KA))))
 ((i0,(0:Int)),((0:Int),(0:Int)),(i4,i5),([]:List Int),l6,([]:List Int))))))
 (fun((Fw,zx),(Fx,ajE),abq,abr,abt)=>
 (dw abr (aa abr)).ab (fun ame=>
 (dw abt (aa abt)).ab (fun xp=>
 some ((Fx,ajE,ame),xp))))))
theorem LR {p:Int} {r c:Nat} {M:aO} (hM:cT p r c M) {a b:Nat} (ha:a<r) (hb:b<r):cT p r c (c9 M a b):=by
 intro i hi j hj
 unfold c9
 split
 ·exact hM b hb j hj
 ·split
  ·exact hM a ha j hj
  ·exact hM i hi j hj
theorem adm {p inv:Int} {r c:Nat} {M:aO} (hp:dh p) (hM:cT p r c M) (t:Nat):cT p r c (sI p inv M t):=by
 intro i hi j hj
 unfold sI
 split
 ·exact yL hp _
 ·exact hM i hi j hj
theorem YF {p:Int} {r c:Nat} {M:aO} (hp:dh p) (hM:cT p r c M) (t k n:Nat):cT p r c (fk p M t k n):=by
 intro i hi j hj
 unfold fk
 split
 ·exact yL hp _
 ·exact hM i hi j hj
theorem acn {p:Int} (hp:dh p):eN p 1:=⟨by omega,by have:=hp.1;omega⟩
theorem acy {p:Int} {r c:Nat} {M:aO} (hp:dh p) (hM:cT p r c M) {t k:Nat} (ht:t<r) (hk:k<r) (j:Nat):cT p r c (pb p M t j k):=adm hp (LR hM ht hk) t
structure RI (p:Int) (r c:Nat) (s:aO×List Int×Int) (j:Nat):Prop where
 m:cT p r c s.1
 l:s.2.1.length<=r
 lj:s.2.1.length<=j
 d:eN p s.2.2
 e:∀x∈s.2.1,0<=x/\x<(j:Int)
theorem RI.step {p:Int} {r c:Nat} {s:aO×List Int×Int} {j:Nat} (hp:dh p) (h:RI p r c s j):RI p r c (kI p r s j) (j+1):=by
 have ft:RI p r c s (j+1):=⟨h.m,h.l,by have:=h.lj;omega,h.d,fun x hx=>by have:=h.e x hx;omega⟩
 unfold kI
 split
 ·rename_i hl
  split
  ·exact ft
  ·rename_i k hk
   have hq:=F0 hk
   refine⟨YF hp (acy hp h.m hl (by omega) j) _ _ _,?_,?_,yL hp _,?_⟩
   ·simp only[List.length_append,List.length_cons,List.length_nil];omega
   ·have:=h.lj
    simp only[List.length_append,List.length_cons,List.length_nil];omega
   ·intro x hx
    simp only[List.mem_append,List.mem_singleton] at hx
    rcases hx with hx|rfl
    ·have:=h.e x hx;omega
    ·omega
 ·exact ft
theorem ph {p:Int} {r c:Nat} {M:aO} (hp:dh p) (hM:cT p r c M):∀j,RI p r c (cb p r M j) j
 |0=>⟨hM,Nat.zero_le _,Nat.le_refl 0,acn hp,fun x hx=>absurd hx (List.not_mem_nil)⟩
 |j+1=>(ph hp hM j).step hp
theorem arD {r c:Nat} {p inv:Int} (M:aO) (t n:Nat):aq r c (jK (xQ p inv M t n) t n (M t n*inv%p))=aq r c (xQ p inv M t (n+1)):=by
 refine iN fun a _ b _=>?_
 unfold jK xQ
 by_cases h:a=t/\b=n
 ·obtain⟨rfl,rfl⟩:=h
  simp
 ·rw[if_neg h]
  by_cases h1:a=t/\b<n
  ·rw[if_pos h1,if_pos ⟨h1.1,by omega⟩]
  ·rw[if_neg h1,if_neg (by omega)]
theorem arA {p inv:Int} (M:aO) (t:Nat):xQ p inv M t 0=M:=by funext a b;exact if_neg (by omega)
theorem arC {p inv:Int} (M:aO) (t n:Nat):xQ p inv M t n t n=M t n:=if_neg (by omega)
theorem arB {r c:Nat} {p inv:Int} (M:aO) (t:Nat):aq r c (xQ p inv M t c)=aq r c (sI p inv M t):=by
 refine iN fun a _ b hb=>?_
 unfold xQ sI
 by_cases h:a=t
 ·rw[if_pos ⟨h,hb⟩,if_pos h]
 ·rw[if_neg (fun q=>h q.1),if_neg h]
theorem YE {p:Int} (M:aO) (t j:Nat):fk p M t j 0=M:=by funext a b;exact if_neg (by omega)
theorem Jh {p:Int} (M:aO) (t j n b:Nat):fk p M t j n n b=M n b:=if_neg (by omega)
theorem YH {p:Int} (M:aO) (t j n b:Nat):fk p M t j n t b=M t b:=if_neg (by omega)
theorem YG {p:Int} (M:aO) (t j:Nat):fk p M t j (t+1)=fk p M t j t:=by
 funext a b
 unfold fk
 by_cases h:a<t
 ·rw[if_pos (by omega),if_pos (by omega)]
 ·rw[if_neg (by omega),if_neg (by omega)]
theorem afY {r c:Nat} {p:Int} (M:aO) (t j n:Nat) (hn:n≠t):aq r c (uF p (fk p M t j n) n t (p - M n j))=aq r c (fk p M t j (n+1)):=by
 refine iN fun a _ b _=>?_
 unfold uF
 by_cases h:a=n
 ·subst h
  rw[if_pos rfl,Jh,YH]
  exact(if_pos ⟨by omega,hn⟩).symm
 ·rw[if_neg h]
  unfold fk
  by_cases h1:a<n/\a≠t
  ·rw[if_pos h1,if_pos ⟨by omega,h1.2⟩]
  ·rw[if_neg h1,if_neg (by omega)]
theorem afZ {r c:Nat} {p:Int} (M:aO) (t j n:Nat) (hM:cT p r c M) (h0:M n j=0):aq r c (fk p M t j n)=aq r c (fk p M t j (n+1)):=by
 refine iN fun a ha b hb=>?_
 unfold fk
 by_cases h:a=n
 ·subst h
  rw[if_neg (by omega)]
  by_cases ht:a=t
  ·rw[if_neg (by omega)]
  ·rw[if_pos ⟨by omega,ht⟩,h0,Int.sub_zero,Int.add_mul_emod_self_left]
   exact(Int.emod_eq_of_lt (hM a ha b hb).1 (hM a ha b hb).2).symm
 ·by_cases h1:a<n/\a≠t
  ·rw[if_pos h1,if_pos ⟨by omega,h1.2⟩]
  ·rw[if_neg h1,if_neg (by omega)]
theorem K7 {M:aO} {j:Nat}:∀{d k:Nat},qi M j d k=none->∀i,k<=i->i<k+d->M i j=0
 |0,k,_,i,h1,h2=>by omega
 |d+1,k,h,i,h1,h2=>by
  simp only[qi] at h
  split at h
  ·rename_i h0
   by_cases hi:i=k
   ·rw[hi];exact h0
   ·exact K7 h i (by omega) (by omega)
  ·cases h
theorem Tj {M:aO} {j q:Nat}:∀{d k:Nat},qi M j d k=some q->∀i,k<=i->i<q->M i j=0
 |0,k,h,i,h1,h2=>by cases h
 |d+1,k,h,i,h1,h2=>by
  simp only[qi] at h
  split at h
  ·rename_i h0
   by_cases hi:i=k
   ·rw[hi];exact h0
   ·exact Tj h i (by omega) h2
  ·have:=Option.some.inj h;omega
theorem Tt {p:Int} {r:Nat} {s:aO×List Int×Int} {j:Nat} (hl:s.2.1.length<r) (h:qi s.1 j (r - s.2.1.length) s.2.1.length=none):kI p r s j=s:=by
 unfold kI
 rw[if_pos hl,h]
theorem Tu {p:Int} {r:Nat} {s:aO×List Int×Int} {j k:Nat} (hl:s.2.1.length<r) (h:qi s.1 j (r - s.2.1.length) s.2.1.length=some k):
  kI p r s j=(fk p (pb p s.1 s.2.1.length j k) s.2.1.length j r,s.2.1++[(j:Int)],La p s.1 s.2.1.length j k s.2.2):=by
 unfold kI
 rw[if_pos hl,h]
theorem akZ {p x:Int} (hp:dh p) (hx:eN p x):A7 (p,x)=some (ld p 1 x (p - 2).toNat):=if_pos ⟨hp,hx⟩
theorem Xl {r c:Nat} (M M':aO):cr (aq r c M) 0 (aa (aq r c M'))=some (aq r c M):=aeR (by rw[zS];exact(iu r c M))
section
variable {p:Int} {r c:Nat} {M0:aO}
end
section
variable {p:Int} {r c:Nat} {M0:aO}
abbrev WM (p:Int) (r c:Nat) (s:aO×List Int×Int) (j:Nat):(Int×Int)×(Int×Int)×(Int×Int)×List Int×List Int×List Int:=
 ((p,(j:Int)),((0:Int),(0:Int)),((r:Int),(c:Int)),([]:List Int),aq r c s.1,s.2.1)
theorem aiv (hp:dh p) (hr:r<=4096) (hc:c<=4096) (dV:r*c<=1048576) (hM:cT p r c M0):
  Hh aC (p,(r:Int),(c:Int),aq r c M0)=some (((r:Int),(c:Int),aq r c (cb p r M0 c).1),(cb p r M0 c).2.1):=by
 have hlen:(aq r c M0).length<=1099511627776:=by rw[iu];omega
 simp only[Hh,AX,if_pos hlen,av,cC]
 rw[eH (r:=Sum.inl (((0:Int),(0:Int)),((r:Int),(c:Int)),([]:List Int),aq r c (cb p r M0 c).1,(cb p r M0 c).2.1)) (fun j=>WM p r c (cb p r M0 j) j) c ?_ ?_ ?_ (dk (by omega))]
 ·rw[show ai 0 0 (aa ([]:List Int))=some () from rfl];simp only[av];rw[fx];simp only[jJ,av]
 ·intro j hj
  have hI:=ph hp hM (r:=r) (c:=c) j
  generalize hs:cb p r M0 j=s at hI⊢
  have hS:cb p r M0 (j+1)=kI p r s j:=by rw[<-hs];rfl
  obtain⟨M,L,d⟩:=s
  have pM:cT p r c M:=hI.m
  have lK:L.length<=r:=hI.l
  have hlj:L.length<=j:=hI.lj
  simp only[WM]
  rw[aR (j3 hj)]
  have arK:∃k:Nat,L.length<=k/\k<=r/\(∀i,L.length<=i->i<k->M i j=0)/\((k=r/\kI p r (M,L,d) j=(M,L,d))\/(k<r/\M k j≠0/\L.length<r/\kI p r (M,L,d) j=(fk p (pb p M L.length j k) L.length j r,L++[(j:Int)],La p M L.length j k d))):=by
   by_cases hl:L.length<r
   ·cases hk:qi M j (r - L.length) L.length with
    |none=>exact⟨r,lK,Nat.le_refl r,fun i h1 h2=>K7 hk i h1 (by omega),.inl ⟨rfl,Tt (s:=(M,L,d)) hl hk⟩⟩
    |some k=>
     obtain⟨q1,q2,q3⟩:=F0 hk
     exact⟨k,q1,by omega,fun i h1 h2=>Tj hk i h1 h2,.inr ⟨by omega,q3,hl,Tu (s:=(M,L,d)) hl hk⟩⟩
   ·refine⟨r,lK,Nat.le_refl r,fun i h1 h2=>by omega,.inl ⟨rfl,?_⟩⟩
    unfold kI
    exact if_neg hl
  obtain⟨k,J9,hk2,hk3,Fe⟩:=arK
  rw[eH (r:=Sum.inl (((k:Int),((L.length:Nat):Int),(j:Int),p),((0:Int),(0:Int)),((r:Int),(c:Int)),([]:List Int),aq r c M,L)) (fun e=>((p,(j:Int),((L.length:Nat):Int),((L.length+e:Nat):Int)),((0:Int),(0:Int)),((r:Int),(c:Int)),([]:List Int),aq r c M,L)) (k - L.length) ?_ ?_ ?_ (dk (by omega))]
  ·rw[fx]
   simp only
   rcases Fe with⟨zj,Pf⟩|⟨zj,aD,hl,Pf⟩
   ·rw[hS,Pf,aR (tg (by omega)),fx]
    simp only[fF (show j<=1048577 by omega)]
   ·rw[hS,Pf,aL (rW (by omega))]
    have yZ:=LR pM hl zj
    have hx:=yZ L.length hl j hj
    have PM:=akX hp (p - 2).toNat 1 (c9 M L.length k L.length j) (acn hp)
    rw[show AO (((r:Int),(c:Int),aq r c M),((L.length:Nat):Int),(k:Int))=some (aq r c (c9 M L.length k)) from aep hr hc dV hl zj,av,Xl,av,nH hr hc dV hl hj,av,akZ hp hx,av]
    simp only[uQ,av]
    rw[eH (r:=Sum.inl ((p,(j:Int),((L.length:Nat):Int)),((0:Int),(0:Int)),((r:Int),(c:Int)),([]:List Int),aq r c (pb p M L.length j k),L)) (fun b=>((p,(j:Int),((L.length:Nat):Int),ld p 1 (c9 M L.length k L.length j) (p - 2).toNat,(b:Int)),((0:Int),(0:Int)),((r:Int),(c:Int)),([]:List Int),aq r c (xQ p (ld p 1 (c9 M L.length k L.length j) (p - 2).toNat) (c9 M L.length k) L.length b),L)) c ?_ ?_ ?_ (dk (by omega))]
    ·rw[fx]
     simp only
     have hP:cT p r c (pb p M L.length j k):=acy hp pM hl zj j
     generalize pb p M L.length j k=P at hP⊢
     rw[eH (r:=Sum.inl (((j:Int),p),((0:Int),(0:Int)),((r:Int),(c:Int)),([]:List Int),aq r c (fk p P L.length j r),L)) (fun a=>((p,(j:Int),((L.length:Nat):Int),(a:Int)),((0:Int),(0:Int)),((r:Int),(c:Int)),([]:List Int),aq r c (fk p P L.length j a),L)) r ?_ ?_ ?_ (dk (by omega))]
     ·rw[fx]
      simp only
      rw[aeR (xs:=[(j:Int)]) (n:=1) rfl,av,ti (by simp only[bj,aa,eQ,List.length_cons,List.length_nil];omega),av,CP,cC,av,fx]
      simp only[fF (show j<=1048577 by omega)]
      rfl
     ·intro a ha
      simp only
      rw[aR (j3 ha)]
      by_cases bU:a=L.length
      ·rw[aL (tT (by omega))]
       simp only[fF (show a<=1048577 by omega)]
       rw[bU,YG]
      ·rw[aR (vu (by omega)),Xl,av,nH hr hc dV ha hj,av,Jh]
       have JW:=hP a ha j hj
       by_cases h0:P a j=0
       ·rw[aL (tT h0)]
        simp only[fF (show a<=1048577 by omega)]
        rw[afZ P L.length j a hP h0]
       ·rw[aR (vu h0),av,nH hr hc dV ha hj,av,Jh]
        have hs:iF .i64 p (P a j)=p - P a j:=by
         have h1:=hp.1;have h2:=hp.2;have h3:=JW.1;have h4:=JW.2
         exact pq (by omega) (by omega)
        rw[hs,XT hp hr hc dV ha hl (by have h3:=JW.1;have h4:=JW.2;omega) (YF hp hP _ _ _)]
        simp only[av,uQ,fF (show a<=1048577 by omega)]
        rw[afY P L.length j a bU]
     ·simp only
      rw[aL (j0 (Nat.le_refl r))]
     ·rw[YE]
      rfl
    ·intro b hb
     simp only
     rw[aR (j3 hb),Xl,av,nH hr hc dV hl hb,av,arC,S2 hp (yZ L.length hl b hb).le PM.le,av,vJ hr hc dV hl hb]
     simp only[av,uQ,arD,fF (show b<=1048577 by omega)]
    ·simp only
     rw[aL (j0 (Nat.le_refl c)),arB]
     rfl
    ·rw[arA]
     rfl
  ·intro e he
   simp only
   rw[aR (j3 (show L.length+e<r by omega)),fT,av,nH hr hc dV (show L.length+e<r by omega) hj,av,aR (tg (hk3 _ (by omega) (by omega)))]
   simp only[fF (show L.length+e<=1048577 by omega)]
   rfl
  ·have e1:L.length+(k - L.length)=k:=by omega
   simp only[e1]
   by_cases zj:k<r
   ·have aD:M k j≠0:=by
     rcases Fe with⟨h1,_⟩|⟨_,h1,_⟩
     ·omega
     ·exact h1
    rw[aR (j3 zj),fT,av,nH hr hc dV zj hj,av,aL (rW aD)]
   ·rw[aL (j0 (by omega))]
  ·rfl
 ·simp only[WM]
  rw[aL (j0 (Nat.le_refl c))]
 ·rfl
end
theorem aqM {x:Int×Int×Int×List Int} (h:F8 x):∃(p:Int) (r c:Nat) (M:aO),x=(p,(r:Int),(c:Int),aq r c M)/\dh p/\r<=4096/\c<=4096/\r*c<=1048576/\cT p r c M/\M=bB c (aq r c M):=by
 obtain⟨p,x⟩:=x
 obtain⟨hp,hm,ha⟩:=h
 obtain⟨r,c,M,rfl,h1,h2,h3⟩:=zU hm
 simp only at hp ha
 have e:aq r c (bB c (aq r c M))=aq r c M:=qP (iu r c M)
 exact⟨p,r,c,bB c (aq r c M),by rw[e],hp,h1,h2,h3,iL.1 (by rw[e];exact ha),by rw[e]⟩
theorem ahM (x:Int×Int×Int×List Int) (y:(Int×Int×List Int)×List Int) (h:yf x=some y):Hh aC x=some y:=by
 simp only[yf] at h
 split at h
 ·rename_i hc
  obtain⟨p,r,c,M,rfl,hp,h1,h2,h3,hM,e⟩:=aqM hc
  rw[<-h,aiv hp h1 h2 h3 hM]
  simp only[rq,Int.toNat_natCast,<-e]
 ·cases h
end Go.Am
end
section
namespace Go.Am
def vA (M:aO) (L:List Int):aO:=fun i t=>M i (L.getD t 0).toNat
def BR (x:Int×Int×Int×List Int):(Int×Int×List Int)×(Int×Int×List Int):=
  ((x.2.1,((rq x).2.1.length:Int),aq x.2.1.toNat (rq x).2.1.length (vA (bB x.2.2.1.toNat x.2.2.2) (rq x).2.1)),
   (((rq x).2.1.length:Int),x.2.2.1,(aq x.2.1.toNat x.2.2.1.toNat (rq x).1).take ((rq x).2.1.length*x.2.2.1.toNat)))
def Ml:Int×Int×Int×List Int->Option ((Int×Int×List Int)×(Int×Int×List Int)×Bool):=fun(x:Int×Int×Int×List Int)=>
 if xY x.2<=1048576 then some (if iB x.1 x.2=true then((BR x).1,(BR x).2,true) else((0,0,[]),(0,0,[]),false)) else none
def x7:Int×Int×Int×List Int->Option ((Int×Int×List Int)×(Int×Int×List Int)×Bool):=Ml
def HL:ao:=[(.one,[.int .i64]),(.agg,[.int .i64,.int .i64,.list [.int .i64]])]
def TO:ao:=[(.agg,[.int .i64,.int .i64,.list [.int .i64]]),(.agg,[.int .i64,.int .i64,.list [.int .i64]]),(.one,[.bool])]
def amW:aQ:=[]
def DZ (NN:Nat):(Int×(Int×(Int×(List Int))))->(Option ((Int×(Int×(List Int)))×((Int×(Int×(List Int)))×Bool))):=
 (fun((i0,i1,i2,l3):(Int×(Int×(Int×(List Int)))))=>
 (rM (i0,i1,i2,l3)).ab (fun b4=>
 ax (dA b4)
 (some (((0:Int),(0:Int),([]:List Int)),((0:Int),(0:Int),([]:List Int)),false))
 ((yf (i0,i1,i2,l3)).ab (fun((i5,i6,l7),l8)=>
 (vZ (i1,aS (aa l8))).ab (fun(i9,cG,ct)=>
 ca ((ai 0 (aa l8) (aa l8)).ab (fun _=>
 (ai 0 0 (aa (([]:List Int)))).ab (fun _=>
 (ai 0 0 (aa (([]:List Int)))).ab (fun _=>
 (ai 0 (aa l7) (aa l7)).ab (fun _=>
 (ai 0 (aa ct) (aa ct)).ab (fun _=>
 bM NN (fun(((eA,eG),(e9,ii,iU),(f8,fw),(gz,iQ),(jT,ij),(nf,su),fI,ik,jD,jY,il):((Int×Int)×((Int×(Int×(List Int)))×((Int×Int)×((Int×Int)×((Int×Int)×((Int×Int)×((List Int)×((List Int)×((List Int)×((List Int)×(List Int))))))))))))=>
 ax (bG eG e9)
 (ca ((ai 0 (aa il) (aa il)).ab (fun _=>
 (ai 0 (aa il) (aa il)).ab (fun _=>
 (ai 0 (aa fI) (aa fI)).ab (fun _=>
 (ai 0 (aa ik) (aa ik)).ab (fun _=>
 (ai 0 (aa jD) (aa jD)).ab (fun _=>
 (ai 0 (aa jY) (aa jY)).ab (fun _=>
 bM NN (fun(((nZ,gV,iR,mK),(iS,iT,gA),(kV,kY),(jU,jC),(n3,pU),(kZ,kz),nq,gJ,mO,vo,jF):((Int×(Int×(Int×Int)))×((Int×(Int×(List Int)))×((Int×Int)×((Int×Int)×((Int×Int)×((Int×Int)×((List Int)×((List Int)×((List Int)×((List Int)×(List Int))))))))))))=>
 ax (bG mK iR)
 ((fj mK (aa jF)).ab (fun QW=>
 (dt jF (bj 0 QW)).ab (fun n5=>
 (ki ((iS,iT,gA),gV,n5)).ab (fun lc=>
 (ai 0 (aa vo) (aa vo)).ab (fun _=>
 (oD ((kZ,kz,vo),gV,mK,lc)).ab (fun CI=>
 (ai 0 (aa jF) (aa jF)).ab (fun _=>
 (ai 0 (aa jF) (aa jF)).ab (fun _=>
 (ai 0 (aa nq) (aa nq)).ab (fun _=>
 (ai 0 (aa gJ) (aa gJ)).ab (fun _=>
 (ai 0 (aa mO) (aa mO)).ab (fun _=>
 (ai 0 (aa vo) (aa CI)).ab (fun _=>
 some (Sum.inl ((nZ,gV,iR,bA .i64 mK 1),(iS,iT,gA),(kV,kY),(jU,jC),(n3,pU),(kZ,kz),nq,gJ,mO,CI,jF))))))))))))))
 (((ai 0 (aa jF) (aa jF)).ab (fun _=>
 (ai 0 (aa nq) (aa nq)).ab (fun _=>
 (ai 0 (aa gJ) (aa gJ)).ab (fun _=>
 (ai 0 (aa mO) (aa mO)).ab (fun _=>
 (ai 0 (aa vo) (aa vo)).ab (fun _=>
 some (Sum.inl ((gV,nZ),(iS,iT,gA),(kV,kY),(jU,jC),(n3,pU),(kZ,kz),nq,gJ,mO,vo,jF)))))))).ab (fun n9=>
 some (Sum.inr n9))))
 ((eA,eG,aS (aa il),(0:Int)),(e9,ii,iU),(f8,fw),(gz,iQ),(jT,ij),(nf,su),fI,ik,jD,jY,il))))))))
 (fun((qX,tD),(Cv,vj,jk),(pV,zy),(n6,ni),(i64,qY),(zz,sA),od,tM,oe,lP,lQ)=>
 (ai 0 (aa lQ) (aa lQ)).ab (fun _=>
 (ai 0 (aa od) (aa od)).ab (fun _=>
 (ai 0 (aa tM) (aa tM)).ab (fun _=>
 (ai 0 (aa oe) (aa oe)).ab (fun _=>
 (ai 0 (aa lP) (aa lP)).ab (fun _=>
 some (Sum.inl ((tD,bA .i64 qX 1),(Cv,vj,jk),(pV,zy),(n6,ni),(i64,qY),(zz,sA),od,tM,oe,lP,lQ)))))))))
 (((ai 0 (aa fI) (aa fI)).ab (fun _=>
 (ai 0 (aa ik) (aa ik)).ab (fun _=>
 (ai 0 (aa jD) (aa jD)).ab (fun _=>
 (ai 0 (aa jY) (aa jY)).ab (fun _=>
 some (Sum.inl (eA,(e9,ii,iU),(f8,fw),(gz,iQ),(jT,ij),(nf,su),fI,ik,jD,jY))))))).ab (fun xt=>
 some (Sum.inr xt))))
 ((aS (aa l8),(0:Int)),(i1,i2,l3),((0:Int),(0:Int)),((0:Int),(0:Int)),(i5,i6),(i9,cG),([]:List Int),([]:List Int),l7,ct,l8)))))))
 (fun(sB,(tE,nj,CK),(pW,n7),(n8,vl),(i82,Fz),(xi,xj),vp,CM,vq,zQ)=>
 (mR (0:Int) (cd .i64 sB nj) (aa vq)).ab (fun(QZ,k91)=>
 (cr vq (bj 0 QZ) k91).ab (fun tQ=>
 (kj tQ).ab (fun vr=>
 (dw zQ (aa zQ)).ab (fun l94=>
 (dw vr (aa vr)).ab (fun l95=>
 some ((xi,xj,l94),(sB,nj,l95),true))))))))))))
theorem abT {m:Int} {x:Int×Int×List Int} (h:iB m x=true):∃(r c:Nat) (M:aO),x=((r:Int),(c:Int),aq r c M)/\dh m/\r<=64/\c<=64/\r*c<=4096/\cT m r c M/\M=bB c (aq r c M)/\F8 (m,x):=by
 obtain⟨r,c,M,rfl,hp,hr,hc,dV,hM⟩:=RJ h
 have e:aq r c (bB c (aq r c M))=aq r c M:=qP (iu r c M)
 refine⟨r,c,bB c (aq r c M),by rw[e],hp,hr,hc,dV,iL.1 (by rw[e];exact iL.2 hM),by rw[e],hp,zV M (by omega) (by omega) (by omega),iL.2 hM⟩
theorem acT {m:Int} {r c:Nat} {M:aO} (e:M=bB c (aq r c M)):rq (m,(r:Int),(c:Int),aq r c M)=cb m r M c:=by
 simp only[rq,Int.toNat_natCast,<-e]
theorem ar3 {n m:Nat} (h:n<=m):mR 0 (n:Int) m=some (0,n):=by
 unfold mR
 rw[if_pos ⟨by omega,by omega,by omega⟩]
 simp
theorem ate {xs:List Int} {n:Nat} (h:n<=xs.length):cr xs 0 n=some (xs.take n):=by
 unfold cr
 rw[if_pos (by omega)]
 rfl
theorem acx {L:List Int} {c t:Nat} (hL:∀x∈L,0<=x/\x<(c:Int)) (ht:t<L.length):dt L t=some (((L.getD t 0).toNat:Nat):Int)/\(L.getD t 0).toNat<c:=by
 have h:=hL L[t] (List.getElem_mem ht)
 have e:L.getD t 0=L[t]:=by simp[List.getD,ht]
 rw[e]
 refine⟨?_,by omega⟩
 show L[t]? =_
 rw[List.getElem?_eq_getElem ht,Int.toNat_of_nonneg h.1]
section
variable {p:Int} {r c:Nat} {M R:aO} {L:List Int}
theorem aif (hr:r<=4096) (hc:c<=4096) (dV:r*c<=1048576) (hk:L.length<=r) (hkc:L.length<=c) (hL:∀x∈L,0<=x/\x<(c:Int)) (hm:rM (p,(r:Int),(c:Int),aq r c M)=some true) (ajp:yf (p,(r:Int),(c:Int),aq r c M)=some (((r:Int),(c:Int),aq r c R),L)):
  DZ aC (p,(r:Int),(c:Int),aq r c M)=some (((r:Int),((L.length:Nat):Int),aq r L.length (vA M L)),(((L.length:Nat):Int),(c:Int),(aq r c R).take (L.length*c)),true):=by
 have hrk:r*L.length<=r*c:=Nat.mul_le_mul (Nat.le_refl r) hkc
 have aav:L.length*c<=r*c:=Nat.mul_le_mul hk (Nat.le_refl c)
 simp only[DZ,ajp,hm,av]
 rw[aL (by rfl),show aS (aa L)=((L.length:Nat):Int) from rfl,KT hr (show L.length<=4096 by omega) (show r*L.length<=1048576 by omega)]
 simp only[av,cC]
 rw[show ai 0 0 (aa ([]:List Int))=some () from rfl]
 simp only[av]
 rw[eH (r:=Sum.inl (((L.length:Nat):Int),((r:Int),(c:Int),aq r c M),((0:Int),(0:Int)),((0:Int),(0:Int)),((r:Int),(c:Int)),((r:Int),((L.length:Nat):Int)),([]:List Int),([]:List Int),aq r c R,aq r L.length (vA M L))) (fun i=>((((L.length:Nat):Int),(i:Int)),((r:Int),(c:Int),aq r c M),((0:Int),(0:Int)),((0:Int),(0:Int)),((r:Int),(c:Int)),((r:Int),((L.length:Nat):Int)),([]:List Int),([]:List Int),aq r c R,aq r L.length (nw (vA M L) i 0),L)) r ?_ ?_ ?_ (dk (by omega))]
 ·rw[fx]
  simp only
  rw[sD (by omega) (by omega),ar3 (by rw[zS];exact aav),av]
  simp only[hZ]
  rw[ate (by rw[iu];exact aav),av,show kj ((aq r c R).take (L.length*c))=some _ from if_pos (by rw[List.length_take,iu];omega),av]
  simp only[jJ,av]
 ·intro i hi
  simp only
  rw[aR (j3 hi)]
  rw[eH (r:=Sum.inl (((i:Int),((L.length:Nat):Int)),((r:Int),(c:Int),aq r c M),((0:Int),(0:Int)),((0:Int),(0:Int)),((r:Int),(c:Int)),((r:Int),((L.length:Nat):Int)),([]:List Int),([]:List Int),aq r c R,aq r L.length (nw (vA M L) (i+1) 0),L)) (fun t=>((((L.length:Nat):Int),(i:Int),((L.length:Nat):Int),(t:Int)),((r:Int),(c:Int),aq r c M),((0:Int),(0:Int)),((0:Int),(0:Int)),((r:Int),(c:Int)),((r:Int),((L.length:Nat):Int)),([]:List Int),([]:List Int),aq r c R,aq r L.length (nw (vA M L) i t),L)) L.length ?_ ?_ ?_ (dk (by omega))]
  ·rw[fx];simp only[fF (show i<=1048577 by omega)]
  ·intro t ht
   simp only
   obtain⟨h1,h2⟩:=acx hL ht
   rw[aR (j3 ht),qE (show t<aa L from ht),av]
   simp only[hZ]
   rw[h1,av,nH hr hc dV hi h2,av,vJ hr (show L.length<=4096 by omega) (show r*L.length<=1048576 by omega) hi ht]
   simp only[av,uQ,fF (show t<=1048577 by omega)]
   rw[show M i (L.getD t 0).toNat=vA M L i t from rfl,ab7]
  ·simp only
   rw[aL (j0 (Nat.le_refl L.length)),ab6]
   try rfl
  ·rfl
 ·simp only
  rw[aL (j0 (Nat.le_refl r)),ab5]
  try rfl
 ·rw[ab4];rfl
end
theorem aih {m:Int} {r c:Nat} {M:aO} (e:M=bB c (aq r c M)):BR (m,(r:Int),(c:Int),aq r c M)=
  (((r:Int),((cb m r M c).2.1.length:Int),aq r (cb m r M c).2.1.length (vA M (cb m r M c).2.1)),(((cb m r M c).2.1.length:Int),(c:Int),(aq r c (cb m r M c).1).take ((cb m r M c).2.1.length*c))):=by
 simp only[BR,acT e,Int.toNat_natCast,<-e]
theorem ahd (x:Int×Int×Int×List Int) (y:(Int×Int×List Int)×(Int×Int×List Int)×Bool) (h:x7 x=some y):DZ aC x=some y:=by
 obtain⟨m,x⟩:=x
 simp only[x7,Ml] at h
 split at h
 ·rename_i hl
  rw[<-h]
  cases hm:iB m x with
  |false=>
   obtain⟨r,c,l⟩:=x
   simp only[DZ]
   rw[show rM (m,r,c,l)=some (iB m (r,c,l)) from if_pos hl,av,hm]
   rfl
  |true=>
   obtain⟨r,c,M,rfl,hp,hr,hc,dV,hM,eM,hR⟩:=abT hm
   have hI:=ph hp hM (r:=r) (c:=c) c
   rw[aih eM]
   refine aif (R:=(cb m r M c).1) (L:=(cb m r M c).2.1) (by omega) (by omega) (by omega) hI.l hI.lj hI.e ?_ ?_
   ·rw[<-hm]
    exact if_pos hl
   ·simp only[yf]
    rw[if_pos hR]
    simp only[acT eM,Int.toNat_natCast]
 ·cases h
end Go.Am
end
section
namespace Go.Am
abbrev aM:=Int×Int×Int×List Int
def bW:aM:=(0,0,0,[])
def adC (s:aM):aO:=bB s.2.2.1.toNat s.2.2.2
def oy (s:aM) (v:Nat):aO:=fun i j=>adC s (i*s.2.1.toNat+v) j
def cP (l:List aM):Nat->Nat
 |0=>1
 |i+1=>(l.getD i bW).2.2.1.toNat
def vF (m:Int) (R:Nat->Int) (s:aM) (v:Nat):Nat->Int:=fun j=>ic m R (fun t=>oy s v t j) s.1.toNat
def rA (m:Int) (l:List aM) (ix:List Int):Nat->(Nat->Int)
 |0=>fun _=>1
 |i+1=>vF m (rA m l ix i) (l.getD i bW) (ix.getD i 0).toNat
def rR (m:Int) (l:List aM) (ix:List Int):Int:=rA m l ix l.length 0
def Gq (s:aM):Prop:=(0<=s.1/\s.1<=64)/\(0<=s.2.1/\s.2.1<=64)/\(0<=s.2.2.1/\s.2.2.1<=64)/\(s.2.2.2.length:Int)=s.1*s.2.1*s.2.2.1
instance (s:aM):Decidable (Gq s):=by unfold Gq;infer_instance
def CB (D ix:List Int):Bool:=decide (ix.length=D.length)&&decide (∀i,i<D.length->0<=ix.getD i 0/\ix.getD i 0<D.getD i 0)
def DV:Int×List aM->Option (List Int):=Mm
def x9:aM×Int×Int×Int->Option Int:=fun x=>
 if Gq x.1/\(0<=x.2.1/\x.2.1<x.1.1)/\(0<=x.2.2.1/\x.2.2.1<x.1.2.1)/\(0<=x.2.2.2/\x.2.2.2<x.1.2.2.1) then some (oy x.1 x.2.2.1.toNat x.2.1.toNat x.2.2.2.toNat) else none
def XD:(Int×List aM)×List Int->Option Int:=fun x=>if e7 x.1=true/\CB (aP x.1.2) x.2=true then some (rR x.1.1 x.1.2 x.2) else none
def yc:(Int×List aM)×List Int->Option Int:=XD
def H7:ao:=[(.agg,[.int .i64,.list [.int .i64,.int .i64,.int .i64,.list [.int .i64]]])]
def T6:ao:=[(.one,[.list [.int .i64]])]
def ana:aQ:=[]
def HX:ao:=[(.agg,[.int .i64,.int .i64,.int .i64,.list [.int .i64]]),(.one,[.int .i64]),(.one,[.int .i64]),(.one,[.int .i64])]
def TZ:ao:=[(.one,[.int .i64])]
def am4:aQ:=[]
def Io:ao:=[(.agg,[.int .i64,.list [.int .i64,.int .i64,.int .i64,.list [.int .i64]]]),(.one,[.list [.int .i64]])]
def Uj:ao:=[(.one,[.int .i64])]
def ann:aQ:=[]
def XF (NN:Nat):(Int×(List (Int×(Int×(Int×(List Int))))))->(Option (List Int)):=
 (fun((i0,l1):(Int×(List (Int×(Int×(Int×(List Int)))))))=>
 ca ((ai 0 0 (aa (([]:List Int)))).ab (fun _=>
 bM NN (fun(((l2,i3,i4),l5):(((List (Int×(Int×(Int×(List Int)))))×(Int×Int))×(List Int)))=>
 ax (bG i4 i3)
 ((eo l2 i4).ab (fun(i6,i7,i8,l9)=>
 (ai 0 (aa l5) (aa l5)).ab (fun _=>
 (cr ((i7::([]:List Int))) 0 1).ab (fun fy=>
 (lH (bj (aa l5) (aa fy)) 8).ab (fun _=>
 (ai 0 (bj (aa l5) (aa fy)) (aa (eY l5 fy))).ab (fun _=>
 some (Sum.inl ((l2,i3,bA .i64 i4 1),eY l5 fy))))))))
 (((ai 0 (aa l5) (aa l5)).ab (fun _=>
 some (Sum.inl l5))).ab (fun ct=>
 some (Sum.inr ct))))
 ((l1,aS (aa l1),(0:Int)),([]:List Int))))
 (fun dG=>
 (dw dG (aa dG)).ab (fun eO=>
 some eO)))
def Mv (NN:Nat):((Int×(Int×(Int×(List Int))))×(Int×(Int×Int)))->(Option Int):=
 (fun(((i0,i1,i2,l3),i4,i5,i6):((Int×(Int×(Int×(List Int))))×(Int×(Int×Int))))=>
 (eo l3 (bA .i64 (cd .i64 (bA .i64 (cd .i64 i4 i1) i5) i2) i6)).ab (fun i7=>
 some i7))
def MK (NN:Nat):((Int×(List (Int×(Int×(Int×(List Int))))))×(List Int))->(Option Int):=
 (fun(((i0,l1),l2):((Int×(List (Int×(Int×(Int×(List Int))))))×(List Int)))=>
 ca ((ai 0 1 (aa (((1:Int)::([]:List Int))))).ab (fun _=>
 bM NN (fun(((l3,l4,i5,i6),(i7,l8),l9):(((List Int)×((List (Int×(Int×(Int×(List Int)))))×(Int×Int)))×((Int×(List (Int×(Int×(Int×(List Int))))))×(List Int))))=>
 ax (bG i6 i5)
 (ca ((eo l4 i6).ab (fun(cG,eF,eA,eO)=>
 (rh eA eA 8).ab (fun CF=>
 ca ((ai 0 (aa l9) (aa l9)).ab (fun _=>
 (ai 0 CF (aa (eU CF (0:Int)))).ab (fun _=>
 bM NN (fun(((eP,fP,gj,fw,gz,iQ,jT),(ij,fz),(su,ng,kU,jD),jY,il):(((List Int)×(Int×((List (Int×(Int×(Int×(List Int)))))×(Int×(Int×(Int×Int))))))×((Int×(List (Int×(Int×(Int×(List Int))))))×((Int×(Int×(Int×(List Int))))×((List Int)×(List Int))))))=>
 ax (bG jT iQ)
 (ca ((ai 0 (aa jY) (aa jY)).ab (fun _=>
 (ai 0 (aa il) (aa il)).ab (fun _=>
 (ai 0 (aa jY) (aa jY)).ab (fun _=>
 bM NN (fun(((jh,gV,iR,jE,iS,iT,sv,kV,kY,jU),(jC,gm),(pU,kZ,kz,nq),gJ,mO):(((List Int)×(Int×(Int×((List (Int×(Int×(Int×(List Int)))))×(Int×(Int×(Int×(Int×(Int×Int)))))))))×((Int×(List (Int×(Int×(Int×(List Int))))))×((Int×(Int×(Int×(List Int))))×((List Int)×(List Int))))))=>
 ax (bG jU kY)
 ((fj jU (aa gJ)).ab (fun k48=>
 (dt gJ (bj 0 k48)).ab (fun sy=>
 (fj iR (aa mO)).ab (fun QW=>
 (dt mO (bj 0 QW)).ab (fun n5=>
 (eo jh gV).ab (fun lc=>
 (x9 ((pU,kZ,kz,nq),jU,lc,iR)).ab (fun kC=>
 (iZ (bA .i64 n5 (cd .i64 sy kC)) jC).ab (fun nh=>
 (fj iR (aa mO)).ab (fun QX=>
 (dt mO (bj 0 QX)).ab (fun tD=>
 (ai 0 (aa gJ) (aa gJ)).ab (fun _=>
 (ai 0 (aa mO) (aa (bR mO (bj 0 QX) nh))).ab (fun _=>
 (ai 0 (aa gJ) (aa gJ)).ab (fun _=>
 some (Sum.inl ((jh,gV,iR,jE,iS,iT,sv,kV,kY,bA .i64 jU 1),(jC,gm),(pU,kZ,kz,nq),gJ,bR mO (bj 0 QX) nh)))))))))))))))
 (((ai 0 (aa gJ) (aa gJ)).ab (fun _=>
 (ai 0 (aa mO) (aa mO)).ab (fun _=>
 some (Sum.inl ((kV,jh,gV,jE,iS,iT,sv),(jC,gm),(pU,kZ,kz,nq),gJ,mO))))).ab (fun fJ=>
 some (Sum.inr fJ))))
 ((eP,fP,jT,gj,fw,gz,iQ,jT,aS (aa jY),(0:Int)),(ij,fz),(su,ng,kU,jD),jY,il)))))
 (fun((vj,jk,pV,p9,n6,ni,i64),(qY,nr),(sA,zA,vk,oe),lP,lQ)=>
 (ai 0 (aa lP) (aa lP)).ab (fun _=>
 (ai 0 (aa lQ) (aa lQ)).ab (fun _=>
 some (Sum.inl ((jk,pV,p9,n6,ni,i64,bA .i64 vj 1),(qY,nr),(sA,zA,vk,oe),lP,lQ))))))
 (((ai 0 (aa il) (aa il)).ab (fun _=>
 some (Sum.inl ((gz,eP,gj,fw),(ij,fz),il)))).ab (fun xt=>
 some (Sum.inr xt))))
 ((l3,i6,l4,i5,i6,aS CF,(0:Int)),(i7,l8),(cG,eF,eA,eO),l9,eU CF (0:Int)))))
 (fun((sB,tO,zP,tF),(pW,l79),CL)=>
 (ai 0 (aa CL) (aa CL)).ab (fun _=>
 some (Sum.inl ((sB,tO,zP,tF),(pW,l79),CL)))))))
 (fun((vl,gL,lk,xi),(xj,vp),CM)=>
 (ai 0 (aa CM) (aa CM)).ab (fun _=>
 some (Sum.inl ((gL,lk,xi,bA .i64 vl 1),(xj,vp),CM)))))
 (((ai 0 (aa l9) (aa l9)).ab (fun _=>
 some (Sum.inl l9))).ab (fun vq=>
 some (Sum.inr vq))))
 ((l2,l1,aS (aa l1),(0:Int)),(i0,l1),((1:Int)::([]:List Int)))))
 (fun zQ=>
 (fj (0:Int) (aa zQ)).ab (fun QZ=>
 (dt zQ (bj 0 QZ)).ab (fun Qx=>
 some Qx))))
def bd (b:Int) (l:List aM):Nat->Int
 |0=>b
 |k+1=>(l.getD k bW).2.2.1
theorem Nv {m:Int}:∀(l:List aM) (i:Nat) (b c:Int),fN (mY m) i b l=some c↔((∀k,k<l.length->kJ m (l.getD k bW)=true/\(l.getD k bW).1=bd b l k)/\c=bd b l l.length)
 |[],i,b,c=>by
  simp only[fN,bd,List.length_nil]
  exact⟨fun h=>⟨fun k hk=>absurd hk (Nat.not_lt_zero k),(Option.some.inj h).symm⟩,fun h=>by rw[h.2]⟩
 |s::l,i,b,c=>by
  have bZ:∀k,bd b (s::l) (k+1)=bd s.2.2.1 l k:=fun k=>by cases k<;>rfl
  rw[fN]
  by_cases hs:kJ m s=true/\s.1=b
  ·rw[show mY m i b s=some s.2.2.1 from if_pos hs]
   try simp only
   rw[Nv l (i+1) s.2.2.1 c]
   constructor
   ·rintro⟨h1,h2⟩
    refine⟨fun k hk=>?_,h2.trans (bZ _).symm⟩
    cases k with
    |zero=>exact hs
    |succ k=>rw[bZ];exact h1 k (by simpa using hk)
   ·rintro⟨h1,h2⟩
    exact⟨fun k hk=>by rw[<-bZ];exact h1 (k+1) (by simpa using hk),h2.trans (bZ _)⟩
  ·rw[show mY m i b s=none from if_neg hs]
   constructor
   ·intro h;cases h
   ·rintro⟨h1,_⟩
    exact absurd (h1 0 (by simp)) hs
theorem Nj (l:List aM) (k:Nat):(bd 1 l k).toNat=cP l k:=by cases k<;>rfl
theorem uC {m:Int} {l:List aM} (h:e7 (m,l)=true):dh m/\(1<=l.length/\l.length<=8)/\dr (aP l)<=4096/\cP l l.length=1/\
  ∀i,i<l.length->∃(p:Nat) (M:aO),l.getD i bW=((cP l i:Int),(p:Int),(cP l (i+1):Int),aq (cP l i*p) (cP l (i+1)) M)/\cP l i<=32/\cP l (i+1)<=32/\(1<=p/\p<=8)/\
   cT m (cP l i*p) (cP l (i+1)) M/\M=bB (cP l (i+1)) (aq (cP l i*p) (cP l (i+1)) M):=by
 simp only[e7,Bool.and_eq_true,decide_eq_true_eq] at h
 obtain⟨hp,hl,h⟩:=h
 cases hf:fN (mY m) 0 1 l with
 |none=>rw[hf] at h;cases h
 |some c=>
  rw[hf] at h
  simp only[Bool.and_eq_true,decide_eq_true_eq] at h
  obtain⟨h1,h2⟩:=(Nv l 0 1 c).1 hf
  have hm:=eT hp
  refine⟨hm,hl,h.2,by rw[<-Nj,<-h2,h.1];rfl,fun i hi=>?_⟩
  obtain⟨s1,s2⟩:=h1 i hi
  have e2:(l.getD i bW).2.2.1=bd 1 l (i+1):=rfl
  generalize hs:l.getD i bW=s at*
  obtain⟨a,p,c',d⟩:=s
  obtain⟨t1,t2,t3,t4,t5⟩:=Wh s1
  simp only at s2 e2
  obtain⟨p,rfl⟩:=fu (show 0<=p by omega)
  have ea:a=(cP l i:Int):=by rw[<-Nj,<-s2];omega
  have ec:c'=(cP l (i+1):Int):=by rw[<-Nj,<-e2];omega
  subst ea ec
  have el:d.length=cP l i*p*cP l (i+1):=by
   have:((cP l i:Int)*(p:Int)*(cP l (i+1):Int))=((cP l i*p*cP l (i+1):Nat):Int):=by norm_cast
   rw[this] at t4;exact_mod_cast t4
  have eg:=qP (r:=cP l i*p) (c:=cP l (i+1)) el
  refine⟨p,bB (cP l (i+1)) d,by rw[eg],by omega,by omega,by omega,?_,by rw[eg]⟩
  rw[<-iL,eg]
  intro x hx
  exact of_decide_eq_true (List.all_eq_true.1 t5 x hx)
theorem wD (l:List aM) (i:Nat):(aP l).getD i 0=(l.getD i bW).2.1:=by
 simp only[aP,List.getD_eq_getElem?_getD,List.getElem?_map]
 cases l[i]? <;>rfl
theorem ir (l:List aM):(aP l).length=l.length:=by simp[aP]
theorem ar0 {s:aM} (h:Gq s):∃(a p c:Nat) (M:aO),s=((a:Int),(p:Int),(c:Int),aq (a*p) c M)/\a<=64/\p<=64/\c<=64/\M=bB c (aq (a*p) c M):=by
 obtain⟨a,p,c,d⟩:=s
 obtain⟨h1,h2,h3,h4⟩:=h
 simp only at h1 h2 h3 h4
 obtain⟨a,rfl⟩:=fu h1.1
 obtain⟨p,rfl⟩:=fu h2.1
 obtain⟨c,rfl⟩:=fu h3.1
 have el:d.length=a*p*c:=by
  have:((a:Int)*(p:Int)*(c:Int))=((a*p*c:Nat):Int):=by norm_cast
  rw[this] at h4;exact_mod_cast h4
 have eg:=qP (r:=a*p) (c:=c) el
 exact⟨a,p,c,bB c d,by rw[eg],by omega,by omega,by omega,by rw[eg]⟩
theorem ar1 {a p c:Nat} (M:aO) (ha:a<=64) (hp:p<=64) (hc:c<=64):Gq ((a:Int),(p:Int),(c:Int),aq (a*p) c M):=by
 refine⟨⟨by omega,by show(a:Int)<=64;omega⟩,⟨by show(0:Int)<=p;omega,by show(p:Int)<=64;omega⟩,⟨by show(0:Int)<=c;omega,by show(c:Int)<=64;omega⟩,?_⟩
 simp only[iu];norm_cast
theorem Wi {a p c:Nat} {M:aO} (e:M=bB c (aq (a*p) c M)) (v:Nat):oy ((a:Int),(p:Int),(c:Int),aq (a*p) c M) v=fun i j=>M (i*p+v) j:=by
 funext i j
 simp only[oy,adC,Int.toNat_natCast]
 rw[<-e]
theorem aho (x:aM×Int×Int×Int) (y:Int) (h:x9 x=some y):Mv aC x=some y:=by
 obtain⟨s,i,v,j⟩:=x
 simp only[x9] at h
 split at h
 ·rename_i hc
  obtain⟨hs,hi,hv,hj⟩:=hc
  obtain⟨a,p,c,M,rfl,ha,hp,hc,eM⟩:=ar0 hs
  obtain⟨i,rfl⟩:=fu hi.1
  obtain⟨v,rfl⟩:=fu hv.1
  obtain⟨j,rfl⟩:=fu hj.1
  rw[<-h,Wi eM]
  simp only[Int.toNat_natCast,Mv]
  have hi':i<a:=by have:=hi.2;simp only at this;omega
  have eS:v<p:=by have:=hv.2;simp only at this;omega
  have iO:j<c:=by have:=hj.2;simp only at this;omega
  have hk:=jV hi' eS
  have hap:a*p<=64*64:=Nat.mul_le_mul ha hp
  rw[tG (by omega) (by omega) (by omega),tG (by omega) (by omega) (by omega),aab M hk iO,av]
 ·cases h
theorem arZ {a p c i v j:Nat} {M:aO} (ha:a<=64) (hp:p<=64) (hc:c<=64) (e:M=bB c (aq (a*p) c M)) (hi:i<a) (hv:v<p) (hj:j<c):
  x9 (((a:Int),(p:Int),(c:Int),aq (a*p) c M),(i:Int),(v:Int),(j:Int))=some (M (i*p+v) j):=by
 simp only[x9]
 rw[if_pos ⟨ar1 M ha hp hc,by first|omega|(simp only;omega),by first|omega|(simp only;omega),by first|omega|(simp only;omega)⟩,Wi e]
 simp only[Int.toNat_natCast]
def bC (n:Nat) (f:Nat->Int):List Int:=(List.range n).map f
theorem fc (n:Nat) (f:Nat->Int):(bC n f).length=n:=by simp[bC]
theorem nz {n j:Nat} (f:Nat->Int) (h:j<n):(bC n f)[j]? =some (f j):=by simp[bC,List.getElem?_range h]
theorem jo {n:Nat} {f g:Nat->Int} (h:∀j,j<n->f j=g j):bC n f=bC n g:=List.map_congr_left fun j hj=>h j (List.mem_range.1 hj)
theorem Gb {n j:Nat} (f:Nat->Int) (x:Int):bR (bC n f) j x=bC n (fun q=>if q=j then x else f q):=by
 unfold bR
 apply List.ext_getElem?
 intro k
 rw[List.getElem?_set,fc]
 by_cases hk:k<n
 ·rw[nz _ hk,nz _ hk]
  by_cases e:j=k
  ·subst e;simp[hk]
  ·rw[if_neg e];simp[show¬k=j from fun h=>e h.symm]
 ·rw[List.getElem?_eq_none (by rw[fc];omega),List.getElem?_eq_none (by rw[fc];omega)]
  by_cases e:j=k
  ·subst e;simp[hk]
  ·simp[e]
theorem qa (n:Nat) (f:Nat->Int):aa (bC n f)=n:=fc n f
theorem ac2 (n:Nat) (x:Int):eU n x=bC n (fun _=>x):=by
 unfold eU bC
 rw[List.map_const',List.length_range]
theorem pL (n:Nat) (f g:Nat->Int):ai 0 (aa (bC n f)) (aa (bC n g))=some ():=by rw[qa,qa];exact cC n
theorem BD {n j:Nat} (f:Nat->Int) (h:j<n):fj (j:Int) (aa (bC n f))=some j:=qE (by rw[qa];exact h)
theorem wL {n j:Nat} (f:Nat->Int) (h:j<n):dt (bC n f) j=some (f j):=nz f h
theorem aq0 {m:Int} (hm:dh m) (l:List aM) (ix:List Int):∀i j,eN m (rA m l ix i j)
 |0,j=>⟨by show(0:Int)<=1;omega,by have:=hm.1;show(1:Int)<m;omega⟩
 |i+1,j=>wE hm _ _ _
theorem akO {D ix:List Int} (h:CB D ix=true):ix.length=D.length/\∀i,i<D.length->0<=ix.getD i 0/\ix.getD i 0<D.getD i 0:=by
 simp only[CB,Bool.and_eq_true,decide_eq_true_eq] at h
 exact h
theorem ar2 {m:Int} {l:List aM} {ix:List Int} (h:e7 (m,l)=true) (hx:CB (aP l) ix=true) {i:Nat} (hi:i<l.length):
  ∃(p v:Nat) (M:aO),l[i]? =some ((cP l i:Int),(p:Int),(cP l (i+1):Int),aq (cP l i*p) (cP l (i+1)) M)/\ix[i]? =some (v:Int)/\v<p/\cP l i<=32/\cP l (i+1)<=32/\p<=8/\
   cT m (cP l i*p) (cP l (i+1)) M/\M=bB (cP l (i+1)) (aq (cP l i*p) (cP l (i+1)) M)/\rA m l ix (i+1)=fun j=>ic m (rA m l ix i) (fun t=>M (t*p+v) j) (cP l i):=by
 obtain⟨_,_,_,_,hs⟩:=uC h
 obtain⟨p,M,e,h1,h2,h3,h4,h5⟩:=hs i hi
 obtain⟨k1,k2⟩:=akO hx
 have hk:=k2 i (by rw[ir];exact hi)
 rw[wD,e] at hk
 simp only at hk
 obtain⟨v,hv⟩:=fu hk.1
 have ff:i<ix.length:=by rw[k1,ir];exact hi
 refine⟨p,v,M,?_,?_,by omega,h1,h2,h3.2,h4,h5,?_⟩
 ·rw[getD_some bW hi,e]
 ·rw[getD_some 0 ff,hv]
 ·funext j
  simp only[rA,vF,e,hv,Int.toNat_natCast]
  rw[Wi h5]
theorem aq6 {m:Int} {a p c v:Nat} {M:aO} (h:cT m (a*p) c M) (hv:v<p) {t j:Nat} (ht:t<a) (hj:j<c):eN m (M (t*p+v) j):=h _ (jV ht hv) j hj
def nF (R':Nat->Int) (j:Nat) (s:Int):Nat->Int:=fun q=>if q<j then R' q else if q=j then s else 0
theorem ahH (x:(Int×List aM)×List Int) (y:Int) (h:yc x=some y):MK aC x=some y:=by
 obtain⟨⟨m,l⟩,ix⟩:=x
 simp only[yc,XD] at h
 split at h
 ·rename_i hc
  obtain⟨hc,hx⟩:=hc
  rw[<-h]
  obtain⟨hm,hl,_,hb,_⟩:=uC hc
  simp only[MK,rR]
  rw[show ai 0 1 (aa [(1:Int)])=some () from rfl,av]
  rw[eH (fun i=>((ix,l,aS (aa l),(i:Int)),(m,l),bC (cP l i) (rA m l ix i))) (r:=Sum.inl (bC 1 (rA m l ix l.length))) l.length ?_ ?_ ?_ (dk (by omega))]
  ·rw[fx]
   try simp only
   rw[show(0:Int)=((0:Nat):Int) from rfl,BD _ (by omega),av,hZ,wL _ (by omega),av]
  ·intro i hi
   obtain⟨p,v,M,e1,e2,hv,h1,h2,h3,h4,h5,h6⟩:=ar2 hc hx hi
   try simp only
   rw[aR (CR hi),eu,e1,av]
   try simp only
   generalize hR:rA m l ix i=R at*
   generalize wQ:rA m l ix (i+1)=R' at*
   generalize ha:cP l i=a at*
   generalize J1:cP l (i+1)=c at*
   have aiI:∀j,eN m (R j):=fun j=>by rw[<-hR];exact aq0 hm l ix i j
   rw[show rh (c:Int) (c:Int) 8=some c from CV (n:=c) (by simp only[eQ];omega),av]
   simp only[cC,av,show ai 0 c (aa (eU c (0:Int)))=some () from by rw[abB];exact cC c]
   rw[eH (fun j=>((ix,(i:Int),l,aS (aa l),(i:Int),(c:Int),(j:Int)),(m,l),((a:Int),(p:Int),(c:Int),aq (a*p) c M),bC a R,bC c (nF R' j 0))) (r:=Sum.inl (((i:Int),ix,l,aS (aa l)),(m,l),bC c R')) c ?_ ?_ ?_ (dk (by omega))]
   ·rw[fx]
    try simp only[pL,av]
    rw[fx]
    simp only[pL,av,fF (show i<=1048577 by omega)]
   ·intro j hj
    try simp only
    rw[aR (j3 hj)]
    try simp only[pL,av]
    rw[eH (fun t=>((ix,(i:Int),(j:Int),l,aS (aa l),(i:Int),(c:Int),(j:Int),aS (aa (bC a R)),(t:Int)),(m,l),((a:Int),(p:Int),(c:Int),aq (a*p) c M),bC a R,bC c (nF R' j (ic m R (fun t=>M (t*p+v) j) t))))
     (r:=Sum.inl (((j:Int),ix,(i:Int),l,aS (aa l),(i:Int),(c:Int)),(m,l),((a:Int),(p:Int),(c:Int),aq (a*p) c M),bC a R,bC c (nF R' (j+1) 0))) a ?_ ?_ ?_ (dk (by omega))]
    ·rw[fx]
     simp only[pL,av,fF (show j<=1048577 by omega)]
    ·intro t ht
     try simp only
     rw[aR (by rw[qa];exact j3 ht),BD _ ht,av,hZ,wL _ ht,av,BD _ hj,av,hZ,wL _ hj,av,eu,e2,av,arZ (by omega) (by omega) (by omega) h5 ht hv hj,av]
     have ej:nF R' j (ic m R (fun t=>M (t*p+v) j) t) j=ic m R (fun t=>M (t*p+v) j) t:=by simp[nF]
     rw[ej,KF hm ((wE hm _ _ t).s hm) (aiI t).le (aq6 h4 hv ht hj).le,av]
     have es:bR (bC c (nF R' j (ic m R (fun t=>M (t*p+v) j) t))) j ((ic m R (fun t=>M (t*p+v) j) t+R t*M (t*p+v) j)%m)=bC c (nF R' j (ic m R (fun t=>M (t*p+v) j) (t+1))):=by
      rw[Gb]
      refine jo fun q _=>?_
      simp only[nF,ic]
      by_cases e:q=j
      ·subst e;simp
      ·simp[e]
     rw[av,hZ,wL _ hj,av,es]
     simp only[pL,av,fF (show t<=1048577 by omega)]
    ·try simp only
     rw[aL (by rw[qa];exact j0 (Nat.le_refl a))]
     try simp only[pL,av]
     have ee:bC c (nF R' j (ic m R (fun t=>M (t*p+v) j) a))=bC c (nF R' (j+1) 0):=by
      refine jo fun q _=>?_
      simp only[nF,h6]
      by_cases e:q<j
      ·simp[e,show q<j+1 by omega]
      ·by_cases e2:q=j
       ·subst e2;simp
       ·simp[e,e2,show¬q<j+1 by omega]
     rw[ee]
    ·rfl
   ·try simp only
    rw[aL (j0 (Nat.le_refl c))]
    try simp only[pL,av]
    rw[show bC c (nF R' c 0)=bC c R' from jo fun q hq=>by simp[nF,hq]]
   ·rw[ac2,show bC c (fun _=>0)=bC c (nF R' 0 0) from jo fun q _=>by simp[nF]]
    rfl
  ·try simp only
   rw[aL (xv l),hb]
   try simp only[pL,av]
  ·rfl
 ·cases h
theorem ZY {α:Type} (P:Nat->α->Bool) (d:α):∀(l:List α) (i:Nat),fN (fun i (_:Unit) a=>if P i a=true then some () else none) i () l=if(∀k,k<l.length->P (i+k) (l.getD k d)=true) then some () else none
 |[],i=>by simp[fN]
 |a::l,i=>by
  rw[fN]
  by_cases h:P i a=true
  ·rw[if_pos h]
   try simp only
   rw[ZY P d l (i+1)]
   have:(∀k,k<l.length->P (i+1+k) (l.getD k d)=true)↔(∀k,k<(a::l).length->P (i+k) ((a::l).getD k d)=true):=by
    constructor
    ·intro h1 k hk
     cases k with
     |zero=>exact h
     |succ k=>have:=h1 k (by simpa using hk);rw[show i+(k+1)=i+1+k by omega];exact this
    ·intro h1 k hk
     have:=h1 (k+1) (by simpa using hk)
     rw[show i+(k+1)=i+1+k by omega] at this
     exact this
   by_cases hc:∀k,k<l.length->P (i+1+k) (l.getD k d)=true
   ·rw[if_pos hc,if_pos (this.1 hc)]
   ·rw[if_neg hc,if_neg (fun h2=>hc (this.2 h2))]
  ·rw[if_neg h,if_neg (fun h1=>h (h1 0 (by simp)))]
theorem ahu (x:Int×List (Int×Int×Int×List Int)) (y:List Int) (h:DV x=some y):XF aC x=some y:=by
 have h0:=aia x y h
 exact h0
theorem map_take {α:Type} (g:α->Int) {L:List α} {j:Nat} {x:α} (h:L[j]? =some x):eY ((L.take j).map g) [g x]=(L.take (j+1)).map g:=by
 simp[eY,List.take_add_one,h]
end Go.Am
end
section
namespace Go.Am
def bJ:List Int->Nat
 |[]=>1
 |x::l=>x.toNat*bJ l
def bn (D:List Int) (i:Nat):Nat:=bJ (D.drop i)
def dP (D:List Int) (n i:Nat):Int:=((n/bn D (i+1)%(D.getD i 0).toNat:Nat):Int)
def dm (D:List Int) (n:Nat):List Int:=bC D.length (dP D n)
def mP (D ix:List Int):Nat->Nat
 |0=>0
 |j+1=>mP D ix j*(D.getD j 0).toNat+(ix.getD j 0).toNat
def km (D:List Int):Prop:=D.length<=1048576/\∀x∈D,1<=x/\x<=1048576
instance (D:List Int):Decidable (km D):=by unfold km;infer_instance
def uk:List Int×List Int->Option (Bool×List Int):=fun x=>
 if km x.1/\x.2=dm x.1 (mP x.1 x.2 x.1.length)/\mP x.1 x.2 x.1.length<bJ x.1/\bJ x.1<=1048576 then
  some (decide (mP x.1 x.2 x.1.length+1<bJ x.1),dm x.1 (mP x.1 x.2 x.1.length+1)) else none
def c8 (n:Nat):List Int:=bC n fun i=>(i:Int)
def lZ (m:Int) (l:List aM):List Int×List Int×List Int:=(c8 l.length,aP l,bC (bJ (aP l)) fun n=>rR m l (dm (aP l) n))
def Mk:Int×List aM->Option (List Int×List Int×List Int):=fun x=>if ug x<=1048576 then some (if e7 x=true then lZ x.1 x.2 else([],[],[])) else none
def sS:Int×List aM->Option (List Int×List Int×List Int):=Mk
def Il:ao:=[(.one,[.list [.int .i64]]),(.one,[.list [.int .i64]])]
def Ui:ao:=[(.one,[.bool]),(.one,[.list [.int .i64]])]
def KM:aQ:=[[],[some .ae]]
def HK:ao:=[(.agg,[.int .i64,.list [.int .i64,.int .i64,.int .i64,.list [.int .i64]]])]
def TN:ao:=[(.agg,[.list [.int .i64],.list [.int .i64],.list [.int .i64]])]
def amV:aQ:=[]
def MJ (NN:Nat):((List Int)×(List Int))->(Option (Bool×(List Int))):=
 (fun((l0,l1):((List Int)×(List Int)))=>
 ca ((ai 0 (aa l1) (aa l1)).ab (fun _=>
 bM NN (fun(((l2,i3),l4):(((List Int)×Int)×(List Int)))=>
 ax (iW (0:Int) i3)
 ((fj i3 (aa l4)).ab (fun k5=>
 (dt l4 (bj 0 k5)).ab (fun i6=>
 (fj i3 (aa l4)).ab (fun k7=>
 (dt l4 (bj 0 k7)).ab (fun i8=>
 (fj i3 (aa l4)).ab (fun k9=>
 (dt (bR l4 (bj 0 k7) (bA .i64 i6 1)) (bj 0 k9)).ab (fun cG=>
 (eo l2 i3).ab (fun eF=>
 ax (bG cG eF)
 ((((qm (aa (bR l4 (bj 0 k7) (bA .i64 i6 1))) (aa l1)).ab (fun _=>
 some (true,bR l4 (bj 0 k7) (bA .i64 i6 1)))).ab (fun((Ya,eO):(Bool×(List Int)))=>
 some (Sum.inr (Ya,eO)))).ab (fun fg=>
 some (Sum.inr fg)))
 ((fj i3 (aa l4)).ab (fun QR=>
 (dt (bR l4 (bj 0 k7) (bA .i64 i6 1)) (bj 0 QR)).ab (fun fP=>
 (ai 0 (aa l4) (aa (bR (bR l4 (bj 0 k7) (bA .i64 i6 1)) (bj 0 QR) (0:Int)))).ab (fun _=>
 some (Sum.inl ((l2,iF .i64 i3 1),bR (bR l4 (bj 0 k7) (bA .i64 i6 1)) (bj 0 QR) (0:Int)))))))))))))))
 (some (Sum.inr (Sum.inl l4))))
 ((l0,iF .i64 (aS (aa l0)) (1:Int)),l1)))
 (fun gj=>
 (qm (aa gj) (aa l1)).ab (fun _=>
 some (false,gj))))
def Mr (NN:Nat):(Int×(List (Int×(Int×(Int×(List Int))))))->(Option ((List Int)×((List Int)×(List Int)))):=
 (fun((i0,l1):(Int×(List (Int×(Int×(Int×(List Int)))))))=>
 (sR (i0,l1)).ab (fun b2=>
 ax (dA b2)
 (some (([]:List Int),([]:List Int),([]:List Int)))
 ((DV (i0,l1)).ab (fun l3=>
 ca ((ai 0 0 (aa (([]:List Int)))).ab (fun _=>
 (ai 0 0 (aa (([]:List Int)))).ab (fun _=>
 (ai 0 0 (aa (([]:List Int)))).ab (fun _=>
 (ai 0 0 (aa (([]:List Int)))).ab (fun _=>
 (ai 0 (aa l3) (aa l3)).ab (fun _=>
 (ai 0 0 (aa (([]:List Int)))).ab (fun _=>
 bM NN (fun(((i4,i5),(i6,l7),l8,l9,fy,ct,dG,eO):((Int×Int)×((Int×(List (Int×(Int×(Int×(List Int))))))×((List Int)×((List Int)×((List Int)×((List Int)×((List Int)×(List Int)))))))))=>
 ax (bG i5 i4)
 ((ai 0 (aa ct) (aa ct)).ab (fun _=>
 (cr ((i5::([]:List Int))) 0 1).ab (fun fg=>
 (lH (bj (aa ct) (aa fg)) 8).ab (fun _=>
 (ai 0 (aa l8) (aa l8)).ab (fun _=>
 (ai 0 (aa l9) (aa l9)).ab (fun _=>
 (ai 0 (aa fy) (aa fy)).ab (fun _=>
 (ai 0 (bj (aa ct) (aa fg)) (aa (eY ct fg))).ab (fun _=>
 (ai 0 (aa dG) (aa dG)).ab (fun _=>
 (ai 0 (aa eO) (aa eO)).ab (fun _=>
 some (Sum.inl ((i4,bA .i64 i5 1),(i6,l7),l8,l9,fy,eY ct fg,dG,eO))))))))))))
 (((ai 0 (aa l8) (aa l8)).ab (fun _=>
 (ai 0 (aa l9) (aa l9)).ab (fun _=>
 (ai 0 (aa fy) (aa fy)).ab (fun _=>
 (ai 0 (aa ct) (aa ct)).ab (fun _=>
 (ai 0 (aa dG) (aa dG)).ab (fun _=>
 (ai 0 (aa eO) (aa eO)).ab (fun _=>
 some (Sum.inl ((i6,l7),l8,l9,fy,ct,dG,eO))))))))).ab (fun eP=>
 some (Sum.inr eP))))
 ((aS (aa l1),(0:Int)),(i0,l1),([]:List Int),([]:List Int),([]:List Int),([]:List Int),l3,([]:List Int)))))))))
 (fun((fP,gj),kD,fQ,gk,dI,dM,fz)=>
 (rh (aS (aa dM)) (aS (aa dM)) 8).ab (fun zJ=>
 (ai 0 zJ (aa (eU zJ (0:Int)))).ab (fun _=>
 (ai 0 (aa kD) (aa kD)).ab (fun _=>
 (ai 0 (aa fQ) (aa fQ)).ab (fun _=>
 (ai 0 (aa gk) (aa gk)).ab (fun _=>
 (ai 0 (aa dI) (aa dI)).ab (fun _=>
 (ai 0 (aa dM) (aa dM)).ab (fun _=>
 (ai 0 (aa fz) (aa fz)).ab (fun _=>
 bM NN (fun(((ng,ik),jD,jY,il,jh,nk,np,jE):((Int×(List (Int×(Int×(Int×(List Int))))))×((List Int)×((List Int)×((List Int)×((List Int)×((List Int)×((List Int)×(List Int)))))))))=>
 (cr jE 0 (aa jE)).ab (fun zL=>
 (yc ((ng,ik),zL)).ab (fun iT=>
 (ai 0 (aa np) (aa np)).ab (fun _=>
 (cr ((iT::([]:List Int))) 0 1).ab (fun gA=>
 (lH (bj (aa np) (aa gA)) 8).ab (fun _=>
 (cr nk 0 (aa nk)).ab (fun iV=>
 (ai 0 (aa jE) (aa jE)).ab (fun _=>
 (uk (iV,jE)).ab (fun(b38,ji)=>
 ax (dA b38)
 (((dw jh (aa jh)).ab (fun jZ=>
 (dw nk (aa nk)).ab (fun gm=>
 (dw (eY np gA) (bj (aa np) (aa gA))).ab (fun gn=>
 some (jZ,gm,gn))))).ab (fun((gB,gp,nq):((List Int)×((List Int)×(List Int))))=>
 some (Sum.inr (gB,gp,nq))))
 ((ai 0 (aa jE) (aa ji)).ab (fun _=>
 (ai 0 (aa jD) (aa jD)).ab (fun _=>
 (ai 0 (aa jY) (aa jY)).ab (fun _=>
 (ai 0 (aa il) (aa il)).ab (fun _=>
 (ai 0 (aa jh) (aa jh)).ab (fun _=>
 (ai 0 (aa nk) (aa nk)).ab (fun _=>
 (ai 0 (bj (aa np) (aa gA)) (aa (eY np gA))).ab (fun _=>
 some (Sum.inl ((ng,ik),jD,jY,il,jh,nk,eY np gA,ji)))))))))))))))))))
 ((fP,gj),kD,fQ,gk,dI,dM,fz,eU zJ (0:Int)))))))))))))))
theorem NU {D:List Int} (h:km D) {i:Nat} (hi:i<D.length):∃d:Nat,D[i]? =some (d:Int)/\D.getD i 0=(d:Int)/\(D.getD i 0).toNat=d/\1<=d/\d<=1048576:=by
 have e:=getD_some 0 hi
 have hm:=h.2 _ (List.mem_of_getElem? e)
 obtain⟨d,hd⟩:=fu (show 0<=D.getD i 0 by omega)
 exact⟨d,by rw[e,hd],hd,by rw[hd];rfl,by omega,by omega⟩
theorem qq {D:List Int} {i:Nat} (hi:i<D.length):bn D i=(D.getD i 0).toNat*bn D (i+1):=by
 unfold bn
 rw[drop_cons (getD_some 0 hi),bJ]
theorem uh (D:List Int):bn D D.length=1:=by simp[bn,bJ]
theorem GN (D:List Int):bn D 0=bJ D:=rfl
theorem F6:∀{D:List Int},(∀x∈D,1<=x)->0<bJ D
 |[],_=>Nat.one_pos
 |x::l,h=>by
  have h1:=h x List.mem_cons_self
  exact Nat.mul_pos (by omega) (F6 fun y hy=>h y (List.mem_cons_of_mem _ hy))
theorem aeu {D:List Int} (h:km D) (i:Nat):0<bn D i:=F6 fun x hx=>(h.2 x (List.mem_of_mem_drop hx)).1
theorem Ad:∀{D:List Int},(∀x∈D,1<=x)->dr D=(bJ D:Int)
 |[],_=>rfl
 |x::l,h=>by
  have h1:=h x List.mem_cons_self
  rw[dr,bJ,Ad fun y hy=>h y (List.mem_cons_of_mem _ hy)]
  obtain⟨x,rfl⟩:=fu (show 0<=x by omega)
  simp
theorem W3 {D:List Int} {i j:Nat} (h:i<=j) (hj:j<=D.length):bn D j∣bn D i:=by
 obtain⟨k,rfl⟩:∃k,j=i+k:=⟨j - i,by omega⟩
 induction k with
 |zero=>exact Nat.dvd_refl _
 |succ k ih=>
  refine Nat.dvd_trans ?_ (ih (by omega) (by omega))
  rw[qq (i:=i+k) (by omega)]
  exact Nat.dvd_mul_left _ _
def re (D:List Int) (n n' k:Nat):List Int:=bC D.length fun q=>if k<=q then dP D n' q else dP D n q
theorem amO (D:List Int) (n n':Nat):re D n n' 0=dm D n':=jo fun q _=>by simp
theorem amP (D:List Int) (n n':Nat):re D n n' D.length=dm D n:=jo fun q hq=>by simp;intro h;omega
theorem abY (D:List Int) (n n' k:Nat):bR (re D n n' (k+1)) k (dP D n' k)=re D n n' k:=by
 unfold re
 rw[Gb]
 refine jo fun q _=>?_
 by_cases e:q=k
 ·subst e;simp
 ·by_cases h:k<=q
  ·rw[if_neg e,if_pos (by omega),if_pos h]
  ·rw[if_neg e,if_neg (by omega),if_neg h]
theorem KH (D:List Int) (n n' k:Nat):aa (re D n n' k)=D.length:=fc _ _
theorem CU {D:List Int} {n n' k:Nat} (h:k<D.length):dt (re D n n' (k+1)) k=some (dP D n k):=by
 unfold re
 rw[wL _ h,if_neg (by omega)]
theorem afM {a b:Nat} (hb:0<b) (ha:a<=1048576):Ah .i64 (a:Int) (b:Int)=some ((a/b:Nat):Int):=by
 have e:((a:Int)/(b:Int))=((a/b:Nat):Int):=by norm_cast
 have:a/b<=a:=Nat.div_le_self a b
 unfold Ah
 rw[if_neg (by omega),Int.tdiv_eq_ediv_of_nonneg (by omega),e]
 clear e
 generalize a/b=q at*
 rw[AK (by omega) (by omega)]
theorem Yr {a b:Nat} (hb:0<b):iZ (a:Int) (b:Int)=some ((a%b:Nat):Int):=by
 rw[TB (by omega) (by omega)];norm_cast
theorem aej {n:Nat} (h:n<=1048577):iF .i64 (n:Int) 1=(n:Int) - 1:=pq (by omega) (by omega)
theorem agi {a k:Nat} (hk:0<k) (h:(a+1)%k≠0):(a+1)/k=a/k:=by
 rw[Nat.succ_div,if_neg (fun hd=>h (Nat.mod_eq_zero_of_dvd hd)),Nat.add_zero]
theorem agj {a k:Nat} (hk:0<k) (h:(a+1)%k=0):(a+1)/k=a/k+1:=by
 rw[Nat.succ_div,if_pos (Nat.dvd_of_mod_eq_zero h)]
theorem agc {D:List Int} (hD:km D) {n i:Nat} (hi:i<=D.length) (h:(n+1)%bn D i≠0) {q:Nat} (hq:q<i):dP D (n+1) q=dP D n q:=by
 unfold dP
 rw[agi (aeu hD _)]
 intro h0
 exact h (Nat.mod_eq_zero_of_dvd (Nat.dvd_trans (W3 hq hi) (Nat.dvd_of_mod_eq_zero h0)))
theorem Y1 {D:List Int} (hD:km D) {n i:Nat} (hi:i<D.length) (h:(n+1)%bn D (i+1)=0):
  (dP D n i+1<D.getD i 0->dP D (n+1) i=dP D n i+1/\(n+1)%bn D i≠0)/\(¬dP D n i+1<D.getD i 0->dP D (n+1) i=0/\(n+1)%bn D i=0):=by
 obtain⟨d,d1,d2,d3,d4,d5⟩:=NU hD hi
 have hT:=aeu hD (i+1)
 have e1:=agj hT h
 obtain⟨c,hc⟩:=Nat.dvd_of_mod_eq_zero h
 have ec:(n+1)/bn D (i+1)=c:=by rw[hc,Nat.mul_div_cancel_left _ hT]
 have ags:(n+1)%bn D i=bn D (i+1)*(c%d):=by rw[qq hi,d3,hc,Nat.mul_comm d,Nat.mul_mod_mul_left]
 unfold dP
 rw[d2,ec,ags]
 simp only[Int.toNat_natCast]
 rw[ec] at e1
 have bK:n/bn D (i+1)%d<d:=Nat.mod_lt _ (by omega)
 have bZ:c%d=if n/bn D (i+1)%d+1<d then n/bn D (i+1)%d+1 else 0:=by
  rw[e1,Nat.add_mod]
  split
  ·rename_i hx
   by_cases sa:d=1
   ·omega
   ·rw[Nat.mod_eq_of_lt (show 1<d by omega),Nat.mod_eq_of_lt hx]
  ·by_cases sa:d=1
   ·subst sa;omega
   ·rw[Nat.mod_eq_of_lt (show 1<d by omega),show n/bn D (i+1)%d+1=d by omega,Nat.mod_self]
 constructor
 ·intro hx
  rw[bZ,if_pos (by omega)]
  refine⟨by omega,?_⟩
  have:=Nat.mul_pos hT (show 0<n/bn D (i+1)%d+1 by omega)
  omega
 ·intro hx
  rw[bZ,if_neg (by omega)]
  exact⟨by omega,by simp⟩
theorem ahG (x:List Int×List Int) (y:Bool×List Int) (h:uk x=some y):MJ aC x=some y:=by
 obtain⟨D,ix⟩:=x
 simp only[uk] at h
 split at h
 ·rename_i hc
  obtain⟨hD,hix,hn,hp⟩:=hc
  rw[<-h]
  generalize mP D ix D.length=n at*
  subst hix
  have hl:=hD.1
  have hlen:(dm D n).length=D.length:=fc _ _
  simp only[MJ]
  rw[cC,av]
  obtain⟨k,k1,k2,k3⟩:=WQ (fun j=>(n+1)%bn D (D.length - (j+1))=0) D.length
  have J3:∀j,j<=k->(n+1)%bn D (D.length - j)=0:=fun j hj=>by
   cases j with
   |zero=>rw[Nat.sub_zero,uh];omega
   |succ j=>exact k2 j (by omega)
  have zt:∀j,j<k->dP D (n+1) (D.length - (j+1))=0/\¬dP D n (D.length - (j+1))+1<D.getD (D.length - (j+1)) 0:=fun j hj=>by
   have hk:D.length - (j+1)<D.length:=by omega
   have h1:=J3 j (by omega)
   rw[show D.length - j=D.length - (j+1)+1 by omega] at h1
   obtain⟨c1,c2⟩:=Y1 hD hk h1
   by_cases hx:dP D n (D.length - (j+1))+1<D.getD (D.length - (j+1)) 0
   ·exact absurd (J3 (j+1) (by omega)) (c1 hx).2
   ·exact⟨(c2 hx).1,hx⟩
  have E7:∀q,0<=dP D n q/\dP D n q<=1048576:=fun q=>by
   unfold dP
   have h1:n/bn D (q+1)%(D.getD q 0).toNat<=n/bn D (q+1):=Nat.mod_le _ _
   have h2:n/bn D (q+1)<=n:=Nat.div_le_self _ _
   omega
  have e0:iF .i64 (aS (aa D)) 1=(D.length:Int) - ((0:Nat):Int) - 1:=by rw[nl,aej (by omega)];omega
  rw[eH (fun j=>((D,(D.length:Int) - (j:Int) - 1),re D n (n+1) (D.length - j))) (r:=if k=D.length then Sum.inl (dm D (n+1)) else Sum.inr (true,dm D (n+1))) k ?_ ?_ ?_ (dk (by omega))]
  ·by_cases hk:k=D.length
   ·rw[if_pos hk,fx]
    have hz:(n+1)%bJ D=0:=by have:=J3 k (Nat.le_refl _);rwa[hk,Nat.sub_self,GN] at this
    have Fj:¬n+1<bJ D:=fun hx=>by rw[Nat.mod_eq_of_lt hx] at hz;omega
    rw[decide_eq_false Fj,An (by show aa (dm D (n+1))=aa (dm D n);unfold dm;rw[qa,qa]),av]
   ·rw[if_neg hk,abn]
    have Kd:=(k3.resolve_left hk)
    have Fj:n+1<bJ D:=by
     rcases Nat.lt_or_ge (n+1) (bJ D) with h|h
     ·exact h
     ·exfalso
      have e:n+1=bJ D:=by omega
      apply Kd
      rw[e,<-GN]
      exact Nat.mod_eq_zero_of_dvd (W3 (Nat.zero_le _) (by omega))
    rw[decide_eq_true Fj]
  ·intro j hj
   have hk:D.length - (j+1)<D.length:=by omega
   have ek:(D.length:Int) - j - 1=((D.length - (j+1):Nat):Int):=by omega
   obtain⟨s1,s2⟩:=zt j hj
   have tt:=E7 (D.length - (j+1))
   simp only
   rw[ek,show D.length - j=D.length - (j+1)+1 by omega,aR (xu (by omega)),qE (by rw[KH];exact hk),av,hZ,CU hk,av]
   simp only[av,hZ,CU hk]
   rw[gw (by omega) (by omega)]
   have eg:dt (bR (re D n (n+1) (D.length - (j+1)+1)) (D.length - (j+1)) (dP D n (D.length - (j+1))+1)) (D.length - (j+1))=some (dP D n (D.length - (j+1))+1):=aac (CU hk)
   rw[eg,av,eu,getD_some 0 hk,av,aL (cN (by omega))]
   try simp only[av,hZ,eg]
   rw[arN,<-s1,abY,KH,KH,cC,av,aej (by omega)]
   congr 4
   omega
  ·by_cases hk:k=D.length
   ·rw[if_pos hk,hk]
    simp only
    rw[aL (CO (by omega)),Nat.sub_self,amO]
   ·rw[if_neg hk]
    have pR:D.length - (k+1)<D.length:=by omega
    have ek:(D.length:Int) - k - 1=((D.length - (k+1):Nat):Int):=by omega
    have h1:=J3 k (Nat.le_refl _)
    rw[show D.length - k=D.length - (k+1)+1 by omega] at h1
    obtain⟨c1,c2⟩:=Y1 hD pR h1
    have Kd:=(k3.resolve_left hk)
    have hx:dP D n (D.length - (k+1))+1<D.getD (D.length - (k+1)) 0:=by
     rcases Decidable.em (dP D n (D.length - (k+1))+1<D.getD (D.length - (k+1)) 0) with h|h
     ·exact h
     ·exact absurd (c2 h).2 Kd
    obtain⟨s1,s2⟩:=c1 hx
    have tt:=E7 (D.length - (k+1))
    simp only
    rw[ek,show D.length - k=D.length - (k+1)+1 by omega,aR (xu (by omega)),qE (by rw[KH];exact pR),av,hZ,CU pR,av]
    simp only[av,hZ,CU pR]
    rw[gw (by omega) (by omega)]
    have eg:dt (bR (re D n (n+1) (D.length - (k+1)+1)) (D.length - (k+1)) (dP D n (D.length - (k+1))+1)) (D.length - (k+1))=some (dP D n (D.length - (k+1))+1):=aac (CU pR)
    rw[eg,av,eu,getD_some 0 pR,av,aR (df (by omega))]
    rw[<-s1,abY]
    have er:re D n (n+1) (D.length - (k+1))=dm D (n+1):=jo fun q hq=>by
     by_cases h:D.length - (k+1)<=q
     ·rw[if_pos h]
     ·rw[if_neg h,agc hD (by omega) Kd (by omega)]
    rw[er,An (by show aa (dm D (n+1))=aa (dm D n);unfold dm;rw[qa,qa]),av]
    rfl
  ·rw[e0,Nat.sub_zero,amP]
 ·cases h
theorem Kq {D:List Int} {n i:Nat} (hi:i<D.length):(dm D n).getD i 0=dP D n i:=by
 rw[List.getD_eq_getElem?_getD,dm,nz _ hi];rfl
theorem S9 {D:List Int} (hD:km D) {n:Nat} (hn:n<bJ D):∀j,j<=D.length->mP D (dm D n) j=n/bn D j
 |0,_=>by rw[GN,Nat.div_eq_of_lt hn];rfl
 |j+1,hj=>by
  rw[mP,S9 hD hn j (by omega),Kq (by omega),dP,Int.toNat_natCast,qq (by omega),Nat.mul_comm (D.getD j 0).toNat,<-Nat.div_div_eq_div_mul,Nat.mul_comm,Nat.div_add_mod]
theorem S4 {D:List Int} (hD:km D) {n:Nat} (hn:n<bJ D) (hp:bJ D<=1048576):uk (D,dm D n)=some (decide (n+1<bJ D),dm D (n+1)):=by
 have e:=S9 hD hn D.length (Nat.le_refl _)
 rw[uh,Nat.div_one] at e
 simp only[uk,e]
 rw[if_pos ⟨hD,trivial,hn,hp⟩]
theorem aa6 {D:List Int} (hD:km D) (n:Nat):CB D (dm D n)=true:=by
 simp only[CB,Bool.and_eq_true,decide_eq_true_eq]
 refine⟨fc _ _,fun i hi=>?_⟩
 obtain⟨d,d1,d2,d3,d4,d5⟩:=NU hD hi
 rw[Kq hi,dP,d3,d2]
 have:=Nat.mod_lt (n/bn D (i+1)) (show 0<d by omega)
 omega
theorem Le (n:Nat) (f:Nat->Int):eY (bC n f) [f n]=bC (n+1) f:=by
 unfold eY bC
 rw[List.range_succ,List.map_append]
 rfl
theorem NT {m:Int} {l:List aM} (h:e7 (m,l)=true):km (aP l)/\(1<=bJ (aP l)/\bJ (aP l)<=4096)/\(aP l).length<=8/\I6 4096 (aP l)=(bJ (aP l):Int):=by
 obtain⟨_,hl,hp,_,hs⟩:=uC h
 have hd:∀x∈aP l,1<=x/\x<=8:=fun x hx=>by
  obtain⟨i,hi⟩:=List.mem_iff_getElem?.1 hx
  have ff:i<l.length:=by have:=CS hi;rwa[ir] at this
  obtain⟨p,M,e,_,_,h3,_⟩:=hs i ff
  have:=wD l i
  rw[e,List.getD_eq_getElem?_getD,hi] at this
  simp only[Option.getD_some] at this
  omega
 have hI:=Ad (D:=aP l) fun x hx=>(hd x hx).1
 have dU:=F6 (D:=aP l) fun x hx=>(hd x hx).1
 refine⟨⟨by rw[ir];omega,fun x hx=>by have:=hd x hx;omega⟩,⟨dU,by omega⟩,by rw[ir];omega,?_⟩
 unfold I6
 rw[Nr (by decide) _ 0 1 (fun x hx=>(hd x hx).1) (by decide) (by decide),Int.one_mul,hI,Int.min_eq_left (by omega)]
theorem aa5 {D:List Int} (hD:km D):eU (aa D) (0:Int)=dm D 0:=by
 rw[ac2]
 refine jo fun i _=>?_
 simp[dP]
theorem asR {m:Int} {l:List aM} {n:Nat} (hn:n<=1048576):lH (bj (aa (c8 n)) 1) 8=some ():=ti (by simp only[bj,c8,qa,eQ];omega)
theorem ahc (x:Int×List aM) (y:List Int×List Int×List Int) (h:sS x=some y):Mr aC x=some y:=by
 obtain⟨m,l⟩:=x
 simp only[sS,Mk] at h
 split at h
 ·rename_i hs
  rw[<-h]
  obtain⟨hlen,dd⟩:=WX hs
  simp only[Mr]
  rw[show sR (m,l)=some (e7 (m,l)) from if_pos hs,av]
  cases hk:e7 (m,l) with
  |false=>rw[aR (by rfl),if_neg (by simp)]
  |true=>
   rw[aL (by rfl),if_pos rfl]
   obtain⟨hm,hl,_,_,_⟩:=uC hk
   obtain⟨hD,hp,hDl,jQ⟩:=NT hk
   rw[show DV (m,l)=some (aP l) from if_pos hlen,av]
   rw[show ai 0 0 (aa ([]:List Int))=some () from rfl]
   simp only[av,cC]
   rw[eH (fun i=>((aS (aa l),(i:Int)),(m,l),([]:List Int),([]:List Int),([]:List Int),c8 i,aP l,([]:List Int))) (r:=Sum.inl ((m,l),([]:List Int),([]:List Int),([]:List Int),c8 l.length,aP l,([]:List Int))) l.length ?_ ?_ ?_ (dk (by omega))]
   ·rw[fx]
    simp only
    rw[CV (n:=aa (aP l)) (by simp only[aa,eQ];omega),av,abB,cC,av]
    rw[eH (fun n=>((m,l),([]:List Int),([]:List Int),([]:List Int),c8 l.length,aP l,(bC n fun n=>rR m l (dm (aP l) n)),dm (aP l) n)) (r:=lZ m l) (bJ (aP l) - 1) ?_ ?_ ?_ (dk (by omega))]
    ·intro n hn
     simp only[fT,av]
     rw[show yc ((m,l),dm (aP l) n)=some (rR m l (dm (aP l) n)) from if_pos ⟨hk,aa6 hD n⟩]
     simp only[av,Ma,CP,qa,show∀x:Int,aa [x]=1 from fun _=>rfl,cC,show lH (bj n 1) 8=some () from ti (by simp only[bj,eQ];omega)]
     rw[S4 hD (by omega) (by omega),av]
     simp only
     rw[aL (apd (by omega)),show ai 0 (aa (dm (aP l) n)) (aa (dm (aP l) (n+1)))=some () from by unfold dm;exact pL _ _ _,av,Le n fun n=>rR m l (dm (aP l) n)]
    ·simp only[fT,av]
     generalize hq:bJ (aP l) - 1=n
     have hn:bJ (aP l)=n+1:=by omega
     rw[show yc ((m,l),dm (aP l) n)=some (rR m l (dm (aP l) n)) from if_pos ⟨hk,aa6 hD n⟩]
     simp only[av,Ma,CP,qa,show∀x:Int,aa [x]=1 from fun _=>rfl,cC,show lH (bj n 1) 8=some () from ti (by simp only[bj,eQ];omega)]
     rw[S4 hD (by omega) (by omega),av]
     simp only
     rw[aR (apc (by omega)),Le n fun n=>rR m l (dm (aP l) n)]
     simp only[jJ,av]
     rw[show bj n 1=aa (bC (n+1) fun n=>rR m l (dm (aP l) n)) from by rw[qa];rfl,jJ,av]
     simp only[av,lZ,hn]
    ·rw[aa5 hD];rfl
   ·intro i hi
    simp only
    rw[aR (CR hi)]
    simp only[av,Ma,CP,show∀x:Int,aa [x]=1 from fun _=>rfl,cC,asR (m:=m) (l:=l) (show i<=1048576 by omega),fF (show i<=1048577 by omega)]
    rw[show eY (c8 i) [(i:Int)]=c8 (i+1) from Le i _]
   ·simp only
    rw[aL (xv l)]
   ·rfl
 ·cases h
end Go.Am
end
section
namespace Go.Am
def Xz:List Int×List Int->Option Bool:=fun x=>if x.1.length<=1048576/\x.2.length<=1048576 then some (decide (x.1=x.2)) else none
def sT:List Int×List Int->Option Bool:=Xz
def Ig:ao:=[(.one,[.list [.int .i64]]),(.one,[.list [.int .i64]])]
def Ud:ao:=[(.one,[.bool])]
def ani:aQ:=[]
def MF (NN:Nat):((List Int)×(List Int))->(Option Bool):=
 (fun((l0,l1):((List Int)×(List Int)))=>
 ax (gC (aS (aa l0)) (aS (aa l1)))
 (some false)
 (ca (bM NN (fun((l2,l3,i4,i5):((List Int)×((List Int)×(Int×Int))))=>
 ax (bG i5 i4)
 ((eo l2 i5).ab (fun i6=>
 (eo l3 i5).ab (fun i7=>
 ax (gC i6 i7)
 (some (Sum.inr (Sum.inr false)))
 (some (Sum.inl (l2,l3,i4,bA .i64 i5 1))))))
 (some (Sum.inr (Sum.inl ()))))
 (l0,l1,aS (aa l0),(0:Int)))
 (fun _=>
 some true)))
theorem Zg {x y:List Int} (h:x.length=y.length):(x=y)↔∀k,k<x.length->x.getD k 0=y.getD (0+k) 0:=by
 constructor
 ·rintro rfl k _;rw[Nat.zero_add]
 ·intro h1
  apply List.ext_getElem?
  intro k
  by_cases hk:k<x.length
  ·have:=h1 k hk
   rw[Nat.zero_add] at this
   rw[getD_some 0 hk,getD_some 0 (show k<y.length by omega),this]
  ·rw[List.getElem?_eq_none (by omega),List.getElem?_eq_none (by omega)]
theorem ahB (x:List Int×List Int) (y:Bool) (h:sT x=some y):MF aC x=some y:=by
 obtain⟨D,ix⟩:=x
 simp only[sT,Xz] at h
 split at h
 ·rename_i hc
  obtain⟨h1,h2⟩:=hc
  rw[<-h]
  simp only[MF]
  by_cases hl:D.length=ix.length
  ·rw[aL (tT (by simp only[nl,hl]))]
   rw[amJ D (fun(_:Unit) i=>(D,ix,aS (aa D),(i:Int))) (fun _ _=>True) (fun i _ v=>if decide (v=ix.getD i 0)=true then some () else none) (Sum.inr false) (fun _=>Sum.inl ()) ?_ ?_ ?_ (s:=()) trivial ?_ (dk (by omega))]
   ·rw[ZY (fun i v=>decide (v=ix.getD i 0)) 0]
    by_cases hk:∀k,k<D.length->decide (D.getD k 0=ix.getD (0+k) 0)=true
    ·rw[if_pos hk,decide_eq_true ((Zg hl).2 fun k cI=>of_decide_eq_true (hk k cI))];rfl
    ·rw[if_neg hk,decide_eq_false (fun h=>hk fun k cI=>decide_eq_true ((Zg hl).1 h k cI))];rfl
   all_goals try simp only
   ·intro i _ v hv _
    have hi:=CS hv
    rw[aR (vt hv),eu,hv,av,eu,getD_some 0 (show i<ix.length by omega),av]
    by_cases q:v=ix.getD i 0
    ·rw[aL (tT q),if_pos (decide_eq_true q),C0 hv (by omega)]
    ·rw[aR (vu q),if_neg (fun h=>q (of_decide_eq_true h))]
   ·intros;trivial
   ·intro _ _
    rw[aL (xv D)]
   ·rfl
  ·rw[aR (vu (by simp only[nl];omega)),decide_eq_false (fun e=>hl (by rw[e]))]
 ·cases h
end Go.Am
end
section
namespace Go.Am
def j8:Int×Int×Int->Bool:=fun((k,p,n):Int×Int×Int)=>
 if k=1 then decide (p=0/\n=0) else if k=2 then cu p&&decide (n=0) else if k=3\/k=4\/k=5 then decide ((1<=p/\p<=1000000)/\n=0)
 else if k=6 then decide (p=0/\1<=n/\n<=20) else if k=7 then cu p&&decide (1<=n/\n<=6) else if k=8 then cu p&&decide (p≠2/\n=0) else false
def lA:Int×Int×Int->Int:=fun((k,p,n):Int×Int×Int)=>if k=7 then n else if k=8 then 4 else 1
def cg (r:Int×Int×Int):Nat:=(lA r).toNat
def eW:Int×Int×Int->Int:=fun((k,p,n):Int×Int×Int)=>if k=1 then 1 else if k=3\/k=4\/k=5 then p else if k=6 then 2^n.toNat - 1 else p - 1
def vm (t v:Int):Bool:=decide (0<=v/\v<=t)
def rV (r:Int×Int×Int) (x:List Int):Bool:=decide (x.length=cg r)&&x.all (vm (eW r))
def C3:Int×Int×Int->List Int:=fun((k,p,n):Int×Int×Int)=>bR (eU (cg (k,p,n)) 0) 0 (if k=4 then 0 else if k=5\/k=6 then eW (k,p,n) else 1)
def sm:Nat->(Nat->Int)->Int
 |0,_=>0
 |n+1,f=>sm n f+f n
def kW (om:Bool) (x y:Nat->Int) (t i j:Nat):Int:=if i+j=t then x i*y j else if om=true/\i+j=t+4 then -(x i*y j) else 0
def pt (w:Nat) (f:Nat->Int):List Int:=(List.range w).map f
def ef (x:List Int):Nat->Int:=fun i=>x.getD i 0
def yI (p:Int) (om:Bool) (w:Nat) (x y:Nat->Int):List Int:=pt w fun t=>sm w (fun i=>sm w (fun j=>kW om x y t i j))%p
def qg:Int×Int×Int->Int->Int->Int:=fun((k,p,n):Int×Int×Int) a b=>
 if k=1\/k=6 then((a.toNat&&&b.toNat:Nat):Int) else if k=2 then a*b%p else if k=3 then min (a*b) p else if k=4 then min (a+b) p else min a b
def xy (r:Int×Int×Int) (x y:List Int):List Int:=if r.1=7\/r.1=8 then yI r.2.1 (decide (r.1=8)) (cg r) (ef x) (ef y) else[qg r (ef x 0) (ef y 0)]
def AR:Int×Int×Int->Option Bool:=fun r=>some (j8 r)
def v7:Int×Int×Int->Option Int:=fun r=>some (lA r)
def A9:Int×Int×Int->Option Int:=fun r=>if j8 r=true then some (eW r) else none
def A6:(Int×Int×Int)×List Int->Option Bool:=fun((r,x):(Int×Int×Int)×List Int)=>if j8 r=true/\x.length<=9223372036854775806 then some (x.all (vm (eW r))) else none
def HV:ao:=[(.agg,[.int .i64,.int .i64,.int .i64])]
def TX:ao:=[(.one,[.bool])]
def am2:aQ:=[]
def Iv:ao:=[(.agg,[.int .i64,.int .i64,.int .i64])]
def Uq:ao:=[(.one,[.int .i64])]
def anu:aQ:=[]
def Iu:ao:=[(.agg,[.int .i64,.int .i64,.int .i64])]
def Up:ao:=[(.one,[.int .i64])]
def ant:aQ:=[]
def Ik:ao:=[(.agg,[.int .i64,.int .i64,.int .i64]),(.one,[.list [.int .i64]])]
def Uh:ao:=[(.one,[.bool])]
def anm:aQ:=[]
def Mu (NN:Nat):(Int×(Int×Int))->(Option Bool):=
 (fun((i0,i1,i2):(Int×(Int×Int)))=>
 ax (cJ i0 (1:Int))
 (ax (cJ i1 (0:Int))
 (some (cJ i2 (0:Int)))
 (some false))
 (ax (cJ i0 (2:Int))
 ((nE i1).ab (fun b3=>
 ax (b3)
 (some (cJ i2 (0:Int)))
 (some false)))
 (ca (ax (cJ i0 (3:Int))
 (some (Sum.inl ((true,i0),i0,i1,i2)))
 (ax (cJ i0 (4:Int))
 (some (Sum.inl ((true,i0),i0,i1,i2)))
 (some (Sum.inl ((cJ i0 (5:Int),i0),i0,i1,i2)))))
 (fun((b4,i5),i6,i7,i8)=>
 ax (b4)
 (ax (iW (1:Int) i7)
 (ax (iW i7 (1000000:Int))
 (some (cJ i8 (0:Int)))
 (some false))
 (some false))
 (ax (cJ i5 (6:Int))
 (ax (cJ i7 (0:Int))
 (ax (iW (1:Int) i8)
 (some (iW i8 (20:Int)))
 (some false))
 (some false))
 (ax (cJ i5 (7:Int))
 ((nE i7).ab (fun b9=>
 ax (b9)
 (ax (iW (1:Int) i8)
 (some (iW i8 (6:Int)))
 (some false))
 (some false)))
 (ax (cJ i5 (8:Int))
 ((nE i7).ab (fun qC=>
 ax (qC)
 (ax (gC i7 (2:Int))
 (some (cJ i8 (0:Int)))
 (some false))
 (some false)))
 (some false))))))))
def MQ (NN:Nat):(Int×(Int×Int))->(Option Int):=
 (fun((i0,i1,i2):(Int×(Int×Int)))=>
 ax (cJ i0 (7:Int))
 (some i2)
 (ax (cJ i0 (8:Int))
 (some (4:Int))
 (some (1:Int))))
def XH (NN:Nat):(Int×(Int×Int))->(Option Int):=
 (fun((i0,i1,i2):(Int×(Int×Int)))=>
 ax (cJ i0 (1:Int))
 (some (1:Int))
 (ca (ax (cJ i0 (3:Int))
 (some (Sum.inl ((true,i0),i0,i1,i2)))
 (ax (cJ i0 (4:Int))
 (some (Sum.inl ((true,i0),i0,i1,i2)))
 (some (Sum.inl ((cJ i0 (5:Int),i0),i0,i1,i2)))))
 (fun((b3,i4),i5,i6,i7)=>
 ax (b3)
 (some i6)
 (ax (cJ i4 (6:Int))
 ((Ar .i64 (1:Int) i7).ab (fun i8=>
 some (iF .i64 i8 1)))
 (some (iF .i64 i6 1))))))
def MI (NN:Nat):((Int×(Int×Int))×(List Int))->(Option Bool):=
 (fun(((i0,i1,i2),l3):((Int×(Int×Int))×(List Int)))=>
 (A9 (i0,i1,i2)).ab (fun i4=>
 ca (bM NN (fun((i5,l6,i7,i8):(Int×((List Int)×(Int×Int))))=>
 ax (bG i8 i7)
 ((eo l6 i8).ab (fun i9=>
 ax (bG i9 (0:Int))
 (some (Sum.inr (Sum.inr false)))
 (ax (bG i5 i9)
 (some (Sum.inr (Sum.inr false)))
 (some (Sum.inl (i5,l6,i7,bA .i64 i8 1))))))
 (some (Sum.inr (Sum.inl ()))))
 (i4,l3,aS (aa l3),(0:Int)))
 (fun _=>
 some true)))
theorem af0 {α:Type} (a b:Int) (x y:α):ax (cJ a b) x y=if a=b then x else y:=by
 by_cases h:a=b
 ·rw[if_pos h,aR (tg h)]
 ·rw[if_neg h,aL (rW h)]
theorem agv (a b:Int):cJ a b=decide (a=b):=by by_cases h:a=b<;>simp[cJ,h]
theorem amF (a b:Int):iW a b=decide (a<=b):=rfl
theorem YI {α:Type} (p:Prop) [Decidable p] (x y:α):ax (decide p) x y=if p then x else y:=by
 by_cases h:p
 ·rw[if_pos h,aR (decide_eq_true h)]
 ·rw[if_neg h,aL (decide_eq_false h)]
theorem Dh {k p n:Int} (h:j8 (k,p,n)=true):(k=1/\p=0/\n=0)\/(k=2/\cu p=true/\n=0)\/(k=3/\(1<=p/\p<=1000000)/\n=0)\/(k=4/\(1<=p/\p<=1000000)/\n=0)\/(k=5/\(1<=p/\p<=1000000)/\n=0)\/
  (k=6/\p=0/\1<=n/\n<=20)\/(k=7/\cu p=true/\1<=n/\n<=6)\/(k=8/\cu p=true/\p≠2/\n=0):=by
 simp only[j8] at h
 by_cases h1:k=1
 ·rw[if_pos h1] at h;exact .inl ⟨h1,by simpa using h⟩
 rw[if_neg h1] at h
 by_cases h2:k=2
 ·rw[if_pos h2] at h;simp at h;exact .inr (.inl ⟨h2,h⟩)
 rw[if_neg h2] at h
 by_cases h3:k=3\/k=4\/k=5
 ·rw[if_pos h3] at h
  simp only[decide_eq_true_eq] at h
  rcases h3 with h3|h3|h3
  ·exact .inr (.inr (.inl ⟨h3,h⟩))
  ·exact .inr (.inr (.inr (.inl ⟨h3,h⟩)))
  ·exact .inr (.inr (.inr (.inr (.inl ⟨h3,h⟩))))
 rw[if_neg h3] at h
 by_cases h4:k=6
 ·rw[if_pos h4] at h;simp at h;exact .inr (.inr (.inr (.inr (.inr (.inl ⟨h4,h⟩)))))
 rw[if_neg h4] at h
 by_cases h5:k=7
 ·rw[if_pos h5] at h;simp at h;exact .inr (.inr (.inr (.inr (.inr (.inr (.inl ⟨h5,h⟩))))))
 rw[if_neg h5] at h
 by_cases h6:k=8
 ·rw[if_pos h6] at h;simp at h;exact .inr (.inr (.inr (.inr (.inr (.inr (.inr ⟨h6,h⟩))))))
 rw[if_neg h6] at h
 cases h
theorem ahm (x:Int×Int×Int) (y:Bool) (h:AR x=some y):Mu aC x=some y:=by
 obtain⟨k,p,n⟩:=x
 rw[<-h]
 simp only[AR,Mu,j8,nE,av,agv,amF,YI]
 by_cases h1:k=1
 ·rw[if_pos h1,if_pos h1];by_cases hp:p=0<;>by_cases hn:n=0<;>simp[hp,hn]
 rw[if_neg h1,if_neg h1]
 by_cases h2:k=2
 ·rw[if_pos h2,if_pos h2];cases cu p<;>rfl
 rw[if_neg h2,if_neg h2]
 have hd:(if k=3 then some (Sum.inl ((true,k),k,p,n)) else if k=4 then some (Sum.inl ((true,k),k,p,n)) else some (Sum.inl ((decide (k=5),k),k,p,n)):Option (((Bool×Int)×Int×Int×Int)⊕Bool))=some (Sum.inl ((decide (k=3\/k=4\/k=5),k),k,p,n)):=by
  by_cases h3:k=3
  ·simp[h3]
  ·by_cases h4:k=4
   ·simp[h4]
   ·simp[h3,h4]
 rw[hd,fx]
 simp only[YI]
 by_cases h3:k=3\/k=4\/k=5
 ·rw[if_pos h3,if_pos h3]
  by_cases ha:1<=p
  ·by_cases hb:p<=1000000<;>simp[ha,hb]
  ·simp[ha]
 rw[if_neg h3,if_neg h3]
 by_cases h4:k=6
 ·rw[if_pos h4,if_pos h4]
  by_cases ha:p=0
  ·by_cases hb:1<=n<;>simp[ha,hb]
  ·simp[ha]
 rw[if_neg h4,if_neg h4]
 by_cases h5:k=7
 ·rw[if_pos h5,if_pos h5]
  cases cu p
  ·rfl
  ·rw[aR rfl]
   by_cases hb:1<=n<;>simp[hb]
 rw[if_neg h5,if_neg h5]
 by_cases h6:k=8
 ·rw[if_pos h6,if_pos h6]
  cases cu p
  ·rfl
  ·rw[aR rfl,ao2,Bool.true_and]
   by_cases hb:p=2<;>simp[hb,ax]
 rw[if_neg h6,if_neg h6]
theorem ahO (x:Int×Int×Int) (y:Int) (h:v7 x=some y):MQ aC x=some y:=by
 obtain⟨k,p,n⟩:=x
 rw[<-h]
 simp only[v7,MQ,lA,af0]
 by_cases h7:k=7
 ·rw[if_pos h7,if_pos h7]
 ·rw[if_neg h7,if_neg h7];by_cases h8:k=8<;>simp[h8]
theorem arS {n:Int} (h0:0<=n) (h1:n<=60):Ar .i64 1 n=some (2^n.toNat):=by
 obtain⟨m,rfl⟩:=fu h0
 rw[arT (by omega),Int.toNat_natCast]
 congr 1
theorem acz {n:Int} (h0:0<=n) (h1:n<=20):1<=(2:Int)^n.toNat/\(2:Int)^n.toNat<=1048576:=by
 have a:(2:Nat)^n.toNat<=2^20:=Nat.pow_le_pow_right (by decide) (by omega)
 have b:1<=(2:Nat)^n.toNat:=Nat.one_le_two_pow
 have e:(((2:Nat)^n.toNat:Nat):Int)=(2:Int)^n.toNat:=by push_cast;rfl
 rw[<-e]
 omega
theorem ahN (x:Int×Int×Int) (y:Int) (h:A9 x=some y):XH aC x=some y:=by
 obtain⟨k,p,n⟩:=x
 simp only[A9] at h
 split at h
 ·rename_i hr
  rw[<-h]
  rcases Dh hr with⟨rfl,rfl,rfl⟩|⟨rfl,hp,rfl⟩|⟨rfl,hp,rfl⟩|⟨rfl,hp,rfl⟩|⟨rfl,hp,rfl⟩|⟨rfl,rfl,hn⟩|⟨rfl,hp,hn⟩|⟨rfl,hp,oQ,rfl⟩
  ·rfl
  ·have:=eT hp
   exact congrArg some (pq (by omega) (by omega))
  ·rfl
  ·rfl
  ·rfl
  ·have h1:=acz (n:=n) (by omega) hn.2
   show(Ar .i64 1 n).ab _=_
   rw[arS (by omega) (by omega),av,pq (by omega) (by omega)]
   rfl
  ·have:=eT hp
   exact congrArg some (pq (by omega) (by omega))
  ·have:=eT hp
   exact congrArg some (pq (by omega) (by omega))
 ·cases h
theorem asU {r:Int×Int×Int} (h:j8 r=true):0<=eW r/\eW r<=1048576:=by
 obtain⟨k,p,n⟩:=r
 rcases Dh h with⟨rfl,rfl,rfl⟩|⟨rfl,hp,rfl⟩|⟨rfl,hp,rfl⟩|⟨rfl,hp,rfl⟩|⟨rfl,hp,rfl⟩|⟨rfl,rfl,hn⟩|⟨rfl,hp,hn⟩|⟨rfl,hp,oQ,rfl⟩
 ·simp[eW]
 ·have:=eT hp;simp[eW];omega
 ·simp[eW];omega
 ·simp[eW];omega
 ·simp[eW];omega
 ·have h1:=acz (n:=n) (by omega) hn.2
  simp only[eW,Int.reduceEq,reduceIte,or_self]
  omega
 ·have:=eT hp;simp[eW];omega
 ·have:=eT hp;simp[eW];omega
theorem DR {r:Int×Int×Int} (h:j8 r=true):lA r=(cg r:Int)/\1<=cg r/\cg r<=6:=by
 obtain⟨k,p,n⟩:=r
 rcases Dh h with⟨rfl,rfl,rfl⟩|⟨rfl,hp,rfl⟩|⟨rfl,hp,rfl⟩|⟨rfl,hp,rfl⟩|⟨rfl,hp,rfl⟩|⟨rfl,rfl,hn⟩|⟨rfl,hp,hn⟩|⟨rfl,hp,oQ,rfl⟩
 ·simp[cg,lA]
 ·simp[cg,lA]
 ·simp[cg,lA]
 ·simp[cg,lA]
 ·simp[cg,lA]
 ·simp[cg,lA]
 ·simp[cg,lA];omega
 ·simp[cg,lA]
theorem ahF (x:(Int×Int×Int)×List Int) (y:Bool) (h:A6 x=some y):MI aC x=some y:=by
 obtain⟨⟨k,p,n⟩,l⟩:=x
 simp only[A6] at h
 split at h
 ·rename_i hc
  obtain⟨hr,hl⟩:=hc
  rw[<-h]
  have hb:=asU hr
  simp only[MI]
  rw[show A9 (k,p,n)=some (eW (k,p,n)) from if_pos hr,av]
  generalize eW (k,p,n)=t at hb⊢
  rw[abK l (fun i=>(t,l,aS (aa l),(i:Int))) (vm t) (.inr false) (.inl ()) ?_ ?_ ?_ ?_ (dk (by omega))]
  ·cases l.all (vm t)<;>rfl
  ·intro i a ha hb
   rw[aR (vt ha),eu,ha,av]
   simp only[vm,decide_eq_true_eq] at hb
   rw[aL (cN hb.1),aL (cN hb.2),C0 ha (by omega)]
  ·intro i a ha hb
   rw[aR (vt ha),eu,ha,av]
   simp only[vm,decide_eq_false_iff_not] at hb
   by_cases h0:a<0
   ·rw[aR (df h0)]
   ·rw[aL (cN (by omega)),aR (df (by omega))]
  ·rw[aL (xv l)]
  ·rfl
 ·cases h
theorem aqU {w:Nat} {p:Int} (h:w=1):bR (eU w (0:Int)) 0 p=[p]:=by subst h;rfl
theorem asJ {α:Type} {xs:List α} {n:Nat} (h:xs.length=n):dw xs n=some xs:=by subst h;exact jJ xs
theorem GM (w:Nat) (f:Nat->Int):(pt w f).length=w:=by simp[pt]
theorem GL {w j:Nat} (f:Nat->Int) (h:j<w):(pt w f)[j]? =some (f j):=by simp[pt,h]
theorem aes {w:Nat} {f g:Nat->Int} (h:∀j,j<w->f j=g j):pt w f=pt w g:=List.map_congr_left fun j hj=>h j (List.mem_range.1 hj)
theorem asH {w:Nat} (f:Nat->Int) (j:Nat) (v:Int):(pt w f).set j v=pt w (fun i=>if i=j then v else f i):=by
 apply List.ext_getElem?
 intro i
 by_cases hi:i<w
 ·rw[GL _ hi]
  by_cases hj:j=i
  ·subst hj
   rw[List.getElem?_set_self (by rw[GM];exact hi),if_pos rfl]
  ·rw[List.getElem?_set_ne hj,GL _ hi,if_neg (fun e=>hj e.symm)]
 ·rw[List.getElem?_eq_none (by rw[List.length_set,GM];omega),List.getElem?_eq_none (by rw[GM];omega)]
theorem ZW {x:List Int} {j:Nat} (h:j<x.length):x[j]? =some (ef x j):=by
 rw[List.getElem?_eq_getElem h]
 simp[ef,List.getD_eq_getElem?_getD,List.getElem?_eq_getElem h]
theorem Oa {w j:Nat} (f:Nat->Int) (h:j<w):ef (pt w f) j=f j:=by simp[ef,List.getD_eq_getElem?_getD,GL f h]
theorem asF {x:List Int} {w:Nat} (h:x.length=w):pt w (ef x)=x:=by
 subst h
 apply List.ext_getElem?
 intro i
 by_cases hi:i<x.length
 ·rw[GL _ hi,ZW hi]
 ·rw[List.getElem?_eq_none (by rw[GM];omega),List.getElem?_eq_none (by omega)]
theorem asG (w:Nat) (c:Int):eU w c=pt w fun _=>c:=by
 apply List.ext_getElem?
 intro i
 by_cases hi:i<w
 ·rw[GL _ hi];simp[eU,hi]
 ·rw[List.getElem?_eq_none (by simp[eU];omega),List.getElem?_eq_none (by rw[GM];omega)]
theorem Zb {r:Int×Int×Int} {x:List Int} (h:rV r x=true):x.length=cg r:=by
 simp only[rV,Bool.and_eq_true,decide_eq_true_eq] at h;exact h.1
theorem Za {r:Int×Int×Int} {x:List Int} (h:rV r x=true) {j:Nat} (hj:j<cg r):0<=ef x j/\ef x j<=eW r:=by
 simp only[rV,Bool.and_eq_true,decide_eq_true_eq] at h
 have:=List.all_eq_true.1 h.2 (ef x j) (List.mem_of_getElem? (ZW (by rw[h.1];exact hj)))
 simpa[vm] using this
theorem EB {r:Int×Int×Int} {x:List Int} (h:rV r x=true) (hw:cg r=1):x=[ef x 0]/\0<=ef x 0/\ef x 0<=eW r:=by
 have hl:=Zb h
 rw[hw] at hl
 match x,hl with
 |[a],_=>exact⟨rfl,Za h (j:=0) (by omega)⟩
theorem TA {a p:Int} (ha:0<=a) (hp:0<p):iZ a p=some (a%p):=by
 obtain⟨m,rfl⟩:=fu (z:=p) (by omega)
 exact Tz ha (by omega)
theorem j9 {f g:Nat->Int}:∀{n:Nat},(∀i,i<n->f i=g i)->sm n f=sm n g
 |0,_=>rfl
 |n+1,h=>by simp only[sm];rw[j9 (n:=n) (fun i hi=>h i (by omega)),h n (by omega)]
structure Mg (k p:Int) (w:Nat):Prop where
 ck:k=7\/k=8
 cp:2<=p/\p<=1000003
 cw:1<=w/\w<=6
 w8:k=8->w=4
theorem Yp {k p n:Int} (h:j8 (k,p,n)=true) (hk:k=7\/k=8):Mg k p (cg (k,p,n)):=by
 have hw:=DR h
 refine⟨hk,?_,hw.2,fun e=>by subst e;rfl⟩
 rcases Dh h with⟨rfl,rfl,rfl⟩|⟨rfl,hp,rfl⟩|⟨rfl,hp,rfl⟩|⟨rfl,hp,rfl⟩|⟨rfl,hp,rfl⟩|⟨rfl,rfl,hn⟩|⟨rfl,hp,hn⟩|⟨rfl,hp,oQ,rfl⟩
 all_goals first|exact eT hp|(exfalso;omega)
theorem FN {r:Int×Int×Int} {a b:Int} (h:¬(r.1=7\/r.1=8)):xy r [a] [b]=[qg r a b]:=by simp only[xy];rw[if_neg h];rfl
theorem Zc {r:Int×Int×Int} {x y:List Int} (hx:rV r x=true) (hy:rV r y=true) (hw:cg r=1):∃a b,x=[a]/\y=[b]/\(0<=a/\a<=eW r)/\0<=b/\b<=eW r:=
 ⟨_,_,(EB hx hw).1,(EB hy hw).1,(EB hx hw).2,(EB hy hw).2⟩
theorem apk (k p n:Int):C3 (k,p,n)=pt (cg (k,p,n)) fun j=>if j=0 then(if k=4 then 0 else if k=5\/k=6 then eW (k,p,n) else 1) else 0:=by
 simp only[C3]
 rw[asG]
 exact asH _ 0 _
end Go.Am
end
section
namespace Go.Am
def ch:Nat->Nat->Nat
 |_,0=>1
 |0,_+1=>0
 |n+1,k+1=>ch n k+ch n (k+1)
theorem I7:∀{n k:Nat},n<k->ch n k=0
 |0,k+1,_=>by simp[ch]
 |n+1,k+1,h=>by simp[ch,I7 (show n<k by omega),I7 (show n<k+1 by omega)]
theorem Eo (n:Nat):ch n 0=1:=by cases n<;>rfl
theorem Yu:∀n,ch n n=1
 |0=>rfl
 |n+1=>by simp[ch,Yu n,I7 (Nat.lt_succ_self n)]
theorem I8:∀(n k:Nat),(k+1)*ch (n+1) (k+1)=(n+1)*ch n k
 |0,0=>by simp[ch]
 |0,k+1=>by simp[ch]
 |n+1,0=>by
  have h:=I8 n 0
  simp only[Eo] at h⊢
  have e:ch (n+1+1) (0+1)=ch (n+1) 0+ch (n+1) (0+1):=rfl
  rw[e,Eo]
  omega
 |n+1,k+1=>by
  have h1:=I8 n k
  have h2:=I8 n (k+1)
  have e1:ch (n+1+1) (k+1+1)=ch (n+1) (k+1)+ch (n+1) (k+1+1):=rfl
  have e2:ch (n+1) (k+1)=ch n k+ch n (k+1):=rfl
  rw[e1]
  generalize ch (n+1) (k+1+1)=B at*
  generalize ch (n+1) (k+1)=A at*
  generalize ch n k=u at*
  generalize ch n (k+1)=v at*
  subst e2
  grind
def oz (f:Nat->Nat):Nat->Nat
 |0=>0
 |m+1=>oz f m+f m
theorem aeo (n a:Nat):∀m,oz (fun k=>ch (n+1) k*a^k) (m+1)=oz (fun k=>ch n k*a^k) (m+1)+a*oz (fun k=>ch n k*a^k) m
 |0=>by simp[oz,Eo]
 |m+1=>by
  have h:=aeo n a m
  simp only[oz] at h⊢
  have e:ch (n+1) (m+1)=ch n m+ch n (m+1):=rfl
  rw[h,e,Nat.pow_succ]
  grind
theorem Yf (a:Nat):∀n,(a+1)^n=oz (fun k=>ch n k*a^k) (n+1)
 |0=>by simp[oz,Eo]
 |n+1=>by
  rw[aeo]
  have e:oz (fun k=>ch n k*a^k) (n+1+1)=oz (fun k=>ch n k*a^k) (n+1):=by
   show oz _ (n+1)+ch n (n+1)*a^(n+1)=_
   rw[I7 (Nat.lt_succ_self n)];simp
  rw[e,<-Yf a n,Nat.pow_succ]
  grind
theorem aen {p:Nat} {f:Nat->Nat}:∀m,(∀k,0<k->k<=m->p∣f k)->oz f (m+1)%p=f 0%p
 |0,h=>by simp[oz]
 |m+1,h=>by
  have i:=aen m fun k h1 h2=>h k h1 (by omega)
  obtain⟨c,hc⟩:=h (m+1) (by omega) (Nat.le_refl _)
  show(oz f (m+1)+f (m+1))%p=_
  rw[hc,Nat.add_mul_mod_self_left,i]
def yp (p:Nat):Prop:=2<=p/\∀d,d∣p->d=1\/d=p
theorem yp.YM {p a:Nat} (hp:yp p) (h:¬p∣a):Nat.Coprime p a:=by
 have:=hp.2 (Nat.gcd p a) (Nat.gcd_dvd_left p a)
 rcases this with h1|h1
 ·exact h1
 ·exact absurd (h1▸Nat.gcd_dvd_right p a) h
theorem yp.ch {p k:Nat} (hp:yp p) (h1:0<k) (h2:k<p):p∣ch p k:=by
 obtain⟨q,rfl⟩:∃q,p=q+1:=⟨p - 1,by omega⟩
 obtain⟨j,rfl⟩:∃j,k=j+1:=⟨k - 1,by omega⟩
 have hm:=I8 q j
 have hd:(q+1)∣(j+1)*Go.Am.ch (q+1) (j+1):=⟨Go.Am.ch q j,hm⟩
 exact(hp.YM fun h=>absurd (Nat.le_of_dvd (by omega) h) (by omega)).dvd_of_dvd_mul_left hd
theorem ZF {p:Nat} (hp:yp p):∀a,a^p%p=a%p
 |0=>by rw[Nat.zero_pow (by have:=hp.1;omega)]
 |a+1=>by
  rw[Yf]
  show(oz _ p+Go.Am.ch p p*a^p)%p=_
  obtain⟨q,rfl⟩:∃q,p=q+1:=⟨p - 1,by have:=hp.1;omega⟩
  have h:=aen (p:=q+1) (f:=fun k=>Go.Am.ch (q+1) k*a^k) q fun k h1 h2=>Nat.dvd_trans (hp.ch h1 (by omega)) (Nat.dvd_mul_right _ _)
  rw[Yu,Nat.one_mul,Nat.add_mod,h,ZF hp a]
  simp only[Eo,Nat.pow_zero,Nat.mul_one]
  rw[<-Nat.add_mod,Nat.add_comm]
theorem aij {p a:Nat} (hp:yp p) (ha:¬p∣a):a*a^(p - 2)%p=1:=by
 have h2:=hp.1
 have h:=ZF hp a
 have e:a^p=a*(a*a^(p - 2)):=by
  obtain⟨q,rfl⟩:∃q,p=q+2:=⟨p - 2,by omega⟩
  rw[Nat.pow_succ,Nat.pow_succ,Nat.add_sub_cancel]
  rw[Nat.mul_comm a (a^q),Nat.mul_comm a (a^q*a)]
 rw[e] at h
 have JZ:0<a:=by
  rcases Nat.eq_zero_or_pos a with h|h
  ·subst h;exact absurd ⟨0,by simp⟩ ha
  ·exact h
 have hz:0<a*a^(p - 2):=Nat.mul_pos JZ (Nat.pow_pos JZ)
 generalize a*a^(p - 2)=z at h hz⊢
 obtain⟨y,rfl⟩:∃y,z=y+1:=⟨z - 1,by omega⟩
 have hd:p∣a*y:=by
  have e:a*(y+1)=a*y+a:=by rw[Nat.mul_add,Nat.mul_one]
  rw[e] at h
  have:(a*y+a - a)%p=0:=Nat.sub_mod_eq_zero_of_mod_eq h
  rw[Nat.add_sub_cancel] at this
  exact Nat.dvd_of_mod_eq_zero this
 obtain⟨c,rfl⟩:=(hp.YM ha).dvd_of_dvd_mul_left hd
 rw[Nat.add_comm,Nat.add_mul_mod_self_left]
 exact Nat.mod_eq_of_lt (by omega)
end Go.Am
end
section
namespace Go.Am
theorem ak3 {p:Int} (h:cu p=true):yp p.toNat:=by
 have hp:=eT h
 obtain⟨n,rfl⟩:=fu (show 0<=p by omega)
 simp only[Int.toNat_natCast]
 refine⟨by omega,fun d hd=>?_⟩
 rcases Nat.lt_or_ge d 2 with h2|h2
 ·rcases Nat.eq_zero_or_pos d with h0|h0
  ·subst h0
   have:=Nat.eq_zero_of_zero_dvd hd
   omega
  ·exact .inl (by omega)
 ·obtain⟨e,he⟩:=hd
  simp only[cu,Bool.and_eq_true,decide_eq_true_eq,Bool.not_eq_true',List.any_eq_false] at h
  have bZ:∀a b:Nat,2<=a->2<=b->a<=b->n≠a*b:=by
   intro a b ha hb e8 e
   have h1:a*a<=n:=by rw[e];exact Nat.mul_le_mul_left _ e8
   have h3:a<1001:=by
    rcases Nat.lt_or_ge a 1001 with h|h
    ·exact h
    ·have:=Nat.mul_le_mul h h;omega
   refine h.2 a (by simp;omega) ?_
   unfold rS
   have ea:((a:Int))*(a:Int)=((a*a:Nat):Int):=by norm_cast
   simp only[Bool.and_eq_true,decide_eq_true_eq]
   constructor
   ·rw[ea];omega
   ·rw[e];push_cast;exact Int.mul_emod_right _ _
  right
  rcases Nat.lt_or_ge e 2 with h3|h3
  ·have:e=1:=by
    rcases Nat.eq_zero_or_pos e with h0|h0
    ·subst h0;simp at he;omega
    ·omega
   subst this;omega
  ·exfalso
   rcases Nat.le_total d e with y9|y9
   ·exact bZ d e h2 h3 y9 he
   ·exact bZ e d h3 h2 y9 (by rw[he,Nat.mul_comm])
theorem acA (x:Int) (b:Nat):∀m:Nat,(x*x)^m*x^b=x^(2*m+b)
 |0=>by simp
 |m+1=>by
  have ih:=acA x b m
  rw[show 2*(m+1)+b=2*m+b+1+1 by omega,Int.pow_succ,Int.pow_succ (n:=2*m+b+1),Int.pow_succ (n:=2*m+b),<-ih]
  grind
theorem akY {p:Int} (hp:dh p):∀(n:Nat) (out x:Int),ld p out x n%p=out*x^n%p:=by
 intro n
 induction n using Nat.strongRecOn with
 |ind n ih=>
  intro out x
  by_cases h0:n=0
  ·subst h0;rw[QK];simp
  ·rw[QL h0,ih (n/2) (by omega)]
   have e:x^n=(x*x)^(n/2)*x^(n%2):=by
    rw[acA,Nat.div_add_mod]
   rw[e]
   have h1:((x*x%p)^(n/2))%p=((x*x)^(n/2))%p:=by
    have:∀k:Nat,((x*x%p)^k)%p=((x*x)^k)%p:=by
     intro k
     induction k with
     |zero=>simp
     |succ k ih=>rw[Int.pow_succ,Int.pow_succ,Int.mul_emod,ih,Int.emod_emod,<-Int.mul_emod]
    exact this _
   by_cases hb:n%2=1
   ·rw[if_pos hb,hb,Int.mul_emod,h1,Int.emod_emod,<-Int.mul_emod]
    congr 1
    grind
   ·rw[if_neg hb,show n%2=0 by omega,Int.mul_emod,h1,<-Int.mul_emod]
    congr 1
    grind
theorem abe {p x:Int} (bk:cu p=true) (hx:eN p x) (h0:x≠0):x*ld p 1 x (p - 2).toNat%p=1:=by
 have hp:=eT bk
 have bg:dh p:=⟨hp.1,hp.2⟩
 obtain⟨n,rfl⟩:=fu (show 0<=p by omega)
 obtain⟨a,rfl⟩:=fu hx.1
 have hN:=ak3 bk
 simp only[Int.toNat_natCast] at hN
 have ha:¬n∣a:=fun h=>by
  have:=Nat.le_of_dvd (by omega) h
  have:=hx.2
  omega
 have hf:=aij hN ha
 have e:(((n:Int)) - 2).toNat=n - 2:=by omega
 rw[Int.mul_emod,akY bg,e,Int.one_mul,<-Int.mul_emod]
 exact_mod_cast hf
def gE (f g:Nat->Int):Nat->Int
 |0=>0
 |n+1=>gE f g n+f n*g n
theorem aek {p:Int} {f f' g:Nat->Int}:∀n,(∀k,k<n->∃q,f k=f' k+p*q)->∃q,gE f g n=gE f' g n+p*q
 |0,_=>⟨0,by simp[gE]⟩
 |n+1,h=>by
  obtain⟨q,hq⟩:=aek (g:=g) n fun k hk=>h k (by omega)
  obtain⟨q',d9⟩:=h n (by omega)
  exact⟨q+q'*g n,by simp only[gE,hq,d9];grind⟩
theorem WR (f f2 g:Nat->Int) (c:Int):∀n,gE (fun k=>f k+c*f2 k) g n=gE f g n+c*gE f2 g n
 |0=>by simp[gE]
 |n+1=>by simp only[gE,WR f f2 g c n];grind
theorem LQ (f g g2:Nat->Int) (c:Int):∀n,gE f (fun k=>g k - c*g2 k) n=gE f g n - c*gE f g2 n
 |0=>by simp[gE]
 |n+1=>by simp only[gE,LQ f g g2 c n];grind
theorem WS (f g:Nat->Int) (c:Int):∀n,gE (fun k=>f k*c) g n=gE f g n*c
 |0=>by simp[gE]
 |n+1=>by simp only[gE,WS f g c n];grind
theorem WT (f g:Nat->Int) (c:Int):∀n,gE f (fun k=>g k*c) n=gE f g n*c
 |0=>by simp[gE]
 |n+1=>by simp only[gE,WT f g c n];grind
def dl (a b:Nat):Int:=if a=b then 1 else 0
def mn (p:Int) (n:Nat) (E X:aO):Prop:=∀a,a<n->∀b,b<n->∃q,gE (E a) (fun k=>X k b) n=dl a b+p*q
theorem mn.congr {p:Int} {n:Nat} {E E' X:aO} (h:mn p n E X) (he:∀a,a<n->∀k,k<n->∃q,E' a k=E a k+p*q):mn p n E' X:=by
 intro a ha b hb
 obtain⟨q,hq⟩:=h a ha b hb
 obtain⟨q',d9⟩:=aek (p:=p) (f:=E' a) (f':=E a) (g:=fun k=>X k b) n (he a ha)
 exact⟨q+q',by rw[d9,hq];grind⟩
theorem mn.swap {p:Int} {n:Nat} {E X:aO} (h:mn p n E X) {s t:Nat} (hs:s<n) (ht:t<n):∃X',mn p n (c9 E s t) X':=by
 let sw:Nat->Nat:=fun i=>if i=s then t else if i=t then s else i
 have Cl:∀i,i<n->sw i<n:=by
  intro i hi
  show(if i=s then t else if i=t then s else i)<n
  split
  ·exact ht
  ·split
   ·exact hs
   ·exact hi
 have wU:∀i j,sw i=sw j->i=j:=by
  intro i j
  show(if i=s then t else if i=t then s else i)=(if j=s then t else if j=t then s else j)->i=j
  intro h
  repeat' split at h
  all_goals omega
 refine⟨fun k b=>X k (sw b),fun a ha b hb=>?_⟩
 obtain⟨q,hq⟩:=h (sw a) (Cl a ha) (sw b) (Cl b hb)
 refine⟨q,?_⟩
 have e:c9 E s t a=E (sw a):=by
  funext k
  show(if a=s then E t k else if a=t then E s k else E a k)=E (if a=s then t else if a=t then s else a) k
  split
  ·rfl
  ·split<;>rfl
 rw[e,hq]
 congr 1
 unfold dl
 by_cases e8:a=b
 ·subst e8;simp
 ·rw[if_neg e8,if_neg fun h=>e8 (wU _ _ h)]
theorem mn.ary {p inv u:Int} {n:Nat} {E X:aO} (h:mn p n E X) {t:Nat} (ht:t<n) (hu:u*inv%p=1):∃X',mn p n (sI p inv E t) X':=by
 have lL:∃z,u*inv=1+p*z:=⟨u*inv/p,by have:=Int.emod_add_mul_ediv (u*inv) p;omega⟩
 obtain⟨z,hz⟩:=lL
 refine⟨fun k b=>if b=t then X k t*u else X k b,mn.congr (E:=fun a k=>if a=t then E t k*inv else E a k) (fun a ha b hb=>?_) (fun a ha k hk=>?_)⟩
 ·obtain⟨q,hq⟩:=h a ha b hb
  by_cases bU:a=t
  ·subst bU
   by_cases nP:b=a
   ·subst nP
    refine⟨z+q*inv*u,?_⟩
    simp only[if_true]
    rw[WS,WT,hq,dl,if_pos rfl]
    grind
   ·refine⟨q*inv,?_⟩
    simp only[if_true,if_neg nP]
    rw[WS,hq,dl,if_neg (Ne.symm nP)]
    grind
  ·by_cases nP:b=t
   ·subst nP
    refine⟨q*u,?_⟩
    simp only[if_neg bU,if_true]
    rw[WT]
    have:gE (fun k=>E a k) (fun k=>X k b) n=dl a b+p*q:=hq
    rw[this,dl,if_neg bU]
    grind
   ·refine⟨q,?_⟩
    simp only[if_neg bU,if_neg nP]
    exact hq
 ·unfold sI
  by_cases bU:a=t
  ·simp only[bU,if_true]
   refine⟨-(E t k*inv/p),?_⟩
   have:=Int.emod_add_mul_ediv (E t k*inv) p
   have e:p* -(E t k*inv/p)= -(p*(E t k*inv/p)):=Int.mul_neg _ _
   omega
  ·simp only[bU,if_false]
   exact⟨0,by simp⟩
theorem mn.add {p f:Int} {n:Nat} {E E' X:aO} (h:mn p n E X) {m t:Nat} (hm:m<n) (ht:t<n) (Cc:m≠t) (he:∀a,a<n->∀k,k<n->∃q,E' a k=(if a=m then E m k+f*E t k else E a k)+p*q):∃X',mn p n E' X':=by
 refine⟨fun k b=>if b=t then X k t - f*X k m else X k b,mn.congr (E:=fun a k=>if a=m then E m k+f*E t k else E a k) (fun a ha b hb=>?_) he⟩
 obtain⟨q1,h1⟩:=h a ha b hb
 obtain⟨q2,h2⟩:=h t ht b hb
 obtain⟨q3,h3⟩:=h a ha m hm
 obtain⟨q4,h4⟩:=h t ht m hm
 have kq:gE (fun k=>E a k) (fun k=>X k b) n=dl a b+p*q1:=h1
 have BZ:gE (fun k=>E t k) (fun k=>X k b) n=dl t b+p*q2:=h2
 have wN:gE (fun k=>E a k) (fun k=>X k m) n=dl a m+p*q3:=h3
 have h4':gE (fun k=>E t k) (fun k=>X k m) n=dl t m+p*q4:=h4
 have d1:dl t m=0:=if_neg (Ne.symm Cc)
 by_cases yY:a=m
 ·subst yY
  have d2:dl a a=1:=if_pos rfl
  by_cases nP:b=t
  ·subst nP
   have d3:dl a b=0:=if_neg Cc
   have d4:dl b b=1:=if_pos rfl
   refine⟨q1+f*q2 - f*q3 - f*f*q4,?_⟩
   simp only[if_true]
   rw[WR,LQ,LQ,kq,BZ,wN,h4',d1,d2,d3,d4]
   grind
  ·refine⟨q1+f*q2,?_⟩
   have d3:dl t b=0:=if_neg (Ne.symm nP)
   simp only[if_true,if_neg nP]
   rw[WR,kq,BZ,d3]
   grind
 ·by_cases nP:b=t
  ·subst nP
   have d3:dl a m=0:=if_neg yY
   refine⟨q1 - f*q3,?_⟩
   simp only[if_neg yY,if_true]
   rw[LQ,kq,wN,d3]
   grind
  ·refine⟨q1,?_⟩
   simp only[if_neg yY,if_neg nP]
   exact kq
def RK (p:Int) (n:Nat) (s:aO×List Int×Int) (j:Nat):Prop:=
 (∃X,mn p n (fun a k=>s.1 a (n+k)) X)/\∀b,b<j->∀i,s.2.1.length<=i->i<n->s.1 i b=0
theorem RK.step {p:Int} {n:Nat} {s:aO×List Int×Int} {j:Nat} (bk:cu p=true) (hj:j<2*n) (I:RI p n (2*n) s j) (h:RK p n s j):RK p n (kI p n s j) (j+1):=by
 have hp:dh p:=eT bk
 obtain⟨⟨X,hX⟩,hz⟩:=h
 obtain⟨M,L,d⟩:=s
 simp only at hX hz
 by_cases hl:L.length<n
 ·cases hk:qi M j (n - L.length) L.length with
  |none=>
   rw[Tt (s:=(M,L,d)) hl hk]
   refine⟨⟨X,hX⟩,fun b hb i h1 h2=>?_⟩
   by_cases y3:b=j
   ·subst y3;exact K7 hk i h1 (by simp only at h1;omega)
   ·exact hz b (by omega) i h1 h2
  |some k=>
   rw[Tu (s:=(M,L,d)) hl hk]
   simp only
   have hq:=F0 hk
   have zi:k<n:=by omega
   have hM:cT p n (2*n) M:=I.m
   have hx:eN p (M k j):=hM k zi j hj
   have Cl:c9 M L.length k L.length j=M k j:=if_pos rfl
   have hi:=abe bk hx hq.2.2
   generalize PM:ld p 1 (M k j) (p - 2).toNat=inv at hi
   have ajj:pb p M L.length j k=sI p inv (c9 M L.length k) L.length:=by unfold pb;rw[Cl,PM]
   rw[ajj]
   have hS:cT p n (2*n) (c9 M L.length k):=LR hM hl zi
   generalize JV:sI p inv (c9 M L.length k) L.length=M2
   have atm:cT p n (2*n) M2:=by rw[<-JV];exact adm hp hS _
   constructor
   ·obtain⟨X1,hX1⟩:=hX.swap (s:=L.length) (t:=k) hl zi
    obtain⟨X2,hX2⟩:=hX1.ary (inv:=inv) (u:=M k j) hl hi
    have Bu:mn p n (fun a b=>fk p M2 L.length j 0 a (n+b)) X2:=by
     rw[YE,<-JV];exact hX2
    have bZ:∀m,m<=n->∃X',mn p n (fun a b=>fk p M2 L.length j m a (n+b)) X':=by
     intro m
     induction m with
     |zero=>intro _;exact⟨X2,Bu⟩
     |succ m ih=>
      intro hm
      obtain⟨X',hX'⟩:=ih (by omega)
      by_cases Cc:m=L.length
      ·subst Cc
       rw[YG];exact⟨X',hX'⟩
      ·refine hX'.add (f:=p - M2 m j) (m:=m) (t:=L.length) (by omega) hl Cc fun a ha b hb=>?_
       show∃q,fk p M2 L.length j (m+1) a (n+b)=_
       by_cases yY:a=m
       ·subst yY
        rw[if_pos rfl]
        show∃q,fk p M2 L.length j (a+1) a (n+b)=(fk p M2 L.length j a a (n+b)+(p - M2 a j)*fk p M2 L.length j a L.length (n+b))+p*q
        rw[Jh,YH]
        unfold fk
        rw[if_pos ⟨by omega,Cc⟩]
        refine⟨-((M2 a (n+b)+(p - M2 a j)*M2 L.length (n+b))/p),?_⟩
        have e1:=Int.emod_add_mul_ediv (M2 a (n+b)+(p - M2 a j)*M2 L.length (n+b)) p
        have e2:=Int.mul_neg p ((M2 a (n+b)+(p - M2 a j)*M2 L.length (n+b))/p)
        omega
       ·rw[if_neg yY]
        refine⟨0,?_⟩
        show fk p M2 L.length j (m+1) a (n+b)=fk p M2 L.length j m a (n+b)+p*0
        unfold fk
        by_cases hc:a<m/\a≠L.length
        ·rw[if_pos hc,if_pos ⟨by omega,hc.2⟩];simp
        ·rw[if_neg hc,if_neg (by omega)];simp
    exact bZ n (Nat.le_refl _)
   ·intro b hb i h1 h2
    simp only[List.length_append,List.length_cons,List.length_nil] at h1
    show fk p M2 L.length j n i b=0
    unfold fk
    rw[if_pos ⟨h2,by omega⟩]
    have e2:∀c,M2 i c=c9 M L.length k i c:=fun c=>by rw[<-JV];exact if_neg (by omega)
    have e3:∀c,M2 L.length c=M k c*inv%p:=fun c=>by rw[<-JV];show(if L.length=L.length then _ else _)=_;rw[if_pos rfl];congr 2;exact if_pos rfl
    by_cases y3:b=j
    ·subst y3
     rw[e3 b,hi]
     have:M2 i b+(p - M2 i b)*1=p:=by omega
     rw[this];exact Int.emod_self
    ·have Pq:b<j:=by omega
     rw[e3 b,hz b Pq k hq.1 zi,e2 b]
     have:c9 M L.length k i b=0:=by
      unfold c9
      rw[if_neg (by omega)]
      split
      ·exact hz b Pq L.length (Nat.le_refl _) hl
      ·exact hz b Pq i (by omega) h2
     rw[this];simp
 ·unfold kI
  rw[if_neg hl]
  exact⟨⟨X,hX⟩,fun b hb i h1 h2=>by simp only at h1;omega⟩
end Go.Am
end
section
namespace Go.Am
def atc (n:Nat) (M:aO):aO:=fun a b=>if b<n then M a b else dl a (b - n)
def atd (n:Nat) (M:aO):aO:=bB (2*n) (aq n (2*n) (atc n M))
def abd (p:Int) (n:Nat) (M:aO):aO×List Int×Int:=cb p n (atd n M) (2*n)
def ak0 (p:Int) (n:Nat) (M:aO):Prop:=∀i,i<n->(abd p n M).2.1.getD i 0=(i:Int)
instance (p:Int) (n:Nat) (M:aO):Decidable (ak0 p n M):=inferInstanceAs (Decidable (∀i,i<n->(abd p n M).2.1.getD i 0=(i:Int)))
section
variable {p:Int} {n:Nat} {M R:aO} {L:List Int}
end
section
variable {p:Int} {n:Nat} {M R:aO} {L:List Int}
end
end Go.Am
end
section
namespace Go.Am
abbrev jL:=Int×Int×List Int
abbrev Mf:=Int×Int×List Int×List (Int×Int×List Int)×List Int
def L6 (k:Nat) (w:List Int):Prop:=∀c∈w,0<=c/\c<(k:Int)
instance (k:Nat) (w:List Int):Decidable (L6 k w):=inferInstanceAs (Decidable (∀c∈w,0<=c/\c<(k:Int)))
def afp (x:Mf):Bool:=match x with
 |(m,n,a,ms,b)=>cu m&&(decide (0<=n/\n<=24)&&((nB m a&&decide ((a.length:Int)=n))&&((nB m b&&decide ((b.length:Int)=n))&&(decide (1<=ms.length/\ms.length<=4)&&ms.all fun y=>decide (y.1=n/\y.2.1=n/\y.2.2.length=n.toNat*n.toNat)&&nB m y.2.2))))
def acQ (x:Mf×List Int):Prop:=afp x.1=true/\L6 x.1.2.2.2.1.length x.2/\x.2.length<=1048576
instance (x:Mf×List Int):Decidable (acQ x):=by unfold acQ;infer_instance
theorem aq1 {m:Int} {l:List Int}:nB m l=true↔dD m l:=by
 simp only[nB,dD,List.all_eq_true,Ks,decide_eq_true_eq,eN]
structure DT (N:Nat) (p:Int) (n:Nat) (a:List Int) (ms:List jL) (b:List Int):Prop where
 pr:cu p=true
 hn:n<=N
 al:a.length=n
 ap:dD p a
 bl:b.length=n
 bp:dD p b
 l1:1<=ms.length
 l4:ms.length<=4
 hm:∀x∈ms,∃M:aO,x=((n:Int),(n:Int),aq n n M)/\cT p n n M
abbrev aeY:=DT 12
abbrev aeX:=DT 24
theorem DT.p {N:Nat} {p:Int} {n:Nat} {a b:List Int} {ms:List jL} (h:DT N p n a ms b):dh p:=eT h.pr
theorem DT.b {p:Int} {n:Nat} {a b:List Int} {ms:List jL} (h:aeY p n a ms b):aeX p n a ms b:=⟨h.pr,Nat.le_trans h.hn (by omega),h.al,h.ap,h.bl,h.bp,h.l1,h.l4,h.hm⟩
section
variable {p:Int} {n:Nat} {a b:List Int} {ms:List jL}
end
end Go.Am
end
section
namespace Go.Am
section
variable {p:Int} {n m:Nat} {a b a2 b2:List Int} {ms RN:List jL}
end
section
variable {p sg:Int} {n m:Nat} {a b a2 b2:List Int} {ms RN:List jL}
end
end Go.Am
end
section
namespace Go.Am
section
variable {n:Int} {d:List (Int×Int)} {a b:Int}
end
end Go.Am
end
section
namespace Go.Am
def ql (b a:Int) (l:List Int):List Int:=l.map fun x=>if x=b then a else x
def wq (l:List Int) (i:Int):Int:=l.getD i.toNat 0
def xm (n:Nat):List Int:=(List.range n).map fun i=>((i:Nat):Int)
def C9 (s:Nat) (i:Nat) (st:Int×List Int) (e:Int×Int):Int×List Int:=
 if s.testBit i=true/\wq st.2 e.1≠wq st.2 e.2 then(st.1 - 1,ql (wq st.2 e.2) (wq st.2 e.1) st.2) else st
def parts (n:Int) (es:List (Int×Int)) (s:Int):Int×List Int:=BV (C9 s.toNat) 0 (n,xm n.toNat) es
def Rn (s:Nat) (i:Nat) (l:List Int) (e:Int×Int):List Int:=
 if s.testBit i=true then ql (max (wq l e.1) (wq l e.2)) (min (wq l e.1) (wq l e.2)) l else l
def N6 (l:List Int):Int:=((List.range l.length).countP fun i=>l.getD i 0==(i:Int):Nat)
theorem QN (n:Nat):(xm n).length=n:=by simp[xm]
theorem Tx (b a:Int) (l:List Int):(ql b a l).length=l.length:=by simp[ql]
theorem abV (a b:Int):o7 a b=min a b:=by unfold o7;split<;>omega
theorem YO (p:Nat->Bool) (j:Nat):(List.range (j+1)).countP p=(List.range j).countP p+(if p j=true then 1 else 0):=by
 rw[List.range_succ,List.countP_append,List.countP_singleton]
theorem YN (p q:Nat->Bool) (k:Nat):∀n,k<n->(∀i,i<n->i≠k->p i=q i)->p k=true->q k=false->(List.range n).countP p=(List.range n).countP q+1
 |0,h,_,_,_=>by omega
 |n+1,h,P4,h1,h2=>by
  rw[YO,YO]
  by_cases hk:k=n
  ·subst hk
   rw[h1,h2]
   have:(List.range k).countP p=(List.range k).countP q:=List.countP_congr fun i hi=>by
    have:=List.mem_range.1 hi
    rw[P4 i (by omega) (by omega)]
   rw[this]
   simp
  ·rw[YN p q k n (by omega) (fun i hi=>P4 i (by omega)) h1 h2,P4 n (by omega) (by omega)]
   omega
structure D8 (m:Nat) (l:List Int) (c:Int) (q:List Int):Prop where
 ll:l.length=m
 lq:q.length=m
 gu:∀i j:Nat,i<m->j<m->(l.getD i 0=l.getD j 0↔q.getD i 0=q.getD j 0)
 low:∀i:Nat,i<m->0<=l.getD i 0/\l.getD i 0<=(i:Int)/\l.getD (l.getD i 0).toNat 0=l.getD i 0
 jb:N6 l=c
theorem acW {b a:Int} {l:List Int} {i:Nat} (h:i<l.length):(ql b a l).getD i 0=if l.getD i 0=b then a else l.getD i 0:=by
 simp[ql,List.getD,List.getElem?_map,List.getElem?_eq_getElem h]
theorem aqQ (b:Int) (l:List Int):ql b b l=l:=by
 unfold ql
 conv=>rhs;rw[<-List.map_id l]
 refine List.map_congr_left fun x _=>?_
 split
 ·rename_i h;exact h.symm
 ·rfl
theorem abU {b a x y:Int}:((if x=b then a else x)=(if y=b then a else y))↔(x=y\/((x=b\/x=a)/\(y=b\/y=a))):=by
 constructor
 ·intro h;split at h<;>split at h<;>omega
 ·intro h;split<;>split<;>omega
theorem D8.step {m:Nat} {l:List Int} {c:Int} {q:List Int} (h:D8 m l c q) {u v:Nat} (hu:u<m) (hv:v<m) {s i:Nat}:
  D8 m (Rn s i l ((u:Int),(v:Int))) (C9 s i (c,q) ((u:Int),(v:Int))).1 (C9 s i (c,q) ((u:Int),(v:Int))).2:=by
 cases hb:s.testBit i with
 |false=>
  have e1:Rn s i l ((u:Int),(v:Int))=l:=if_neg (by rw[hb];decide)
  have e2:C9 s i (c,q) ((u:Int),(v:Int))=(c,q):=if_neg (fun hh=>by rw[hb] at hh;exact absurd hh.1 (by decide))
  rw[e1,e2]
  exact h
 |true=>
  have ep:q.getD u 0=q.getD v 0->C9 s i (c,q) ((u:Int),(v:Int))=(c,q):=fun h=>if_neg (fun hh=>hh.2 h)
  have en:q.getD u 0≠q.getD v 0->C9 s i (c,q) ((u:Int),(v:Int))=(c - 1,ql (q.getD v 0) (q.getD u 0) q):=fun h=>if_pos ⟨hb,h⟩
  have el:Rn s i l ((u:Int),(v:Int))=ql (max (l.getD u 0) (l.getD v 0)) (min (l.getD u 0) (l.getD v 0)) l:=if_pos hb
  obtain⟨ll,lq,gu,low,jb⟩:=h
  by_cases hq:q.getD u 0=q.getD v 0
  ·have hl:=(gu u v hu hv).2 hq
   rw[ep hq,el,hl,Int.max_self,Int.min_self,aqQ]
   exact⟨ll,lq,gu,low,jb⟩
  ·have hl:l.getD u 0≠l.getD v 0:=fun e=>hq ((gu u v hu hv).1 e)
   rw[en hq,el]
   obtain⟨lu0,lu1,Rw⟩:=low u hu
   obtain⟨lv0,lv1,Rx⟩:=low v hv
   obtain⟨lo,hi,e1,e2,bK,Cj,aja,wX,u5,aat⟩:∃lo hi:Nat,min (l.getD u 0) (l.getD v 0)=(lo:Int)/\max (l.getD u 0) (l.getD v 0)=(hi:Int)/\lo<hi/\
     (∀x:Int,(x=(hi:Int)\/x=(lo:Int))↔(x=l.getD v 0\/x=l.getD u 0))/\lo<m/\l.getD lo 0=(lo:Int)/\l.getD hi 0=(hi:Int)/\hi<m:=by
    obtain⟨a,ha⟩:=fu lu0
    obtain⟨b,hb⟩:=fu lv0
    rw[ha,Int.toNat_natCast] at Rw
    rw[hb,Int.toNat_natCast] at Rx
    rw[ha] at lu1 hl
    rw[hb] at lv1 hl
    rw[ha,hb]
    rcases Nat.lt_or_ge a b with e8|e8
    ·exact⟨a,b,by omega,by omega,e8,fun x=>by omega,by omega,Rw,Rx,by omega⟩
    ·exact⟨b,a,by omega,by omega,by omega,fun x=>by omega,by omega,Rx,Rw,by omega⟩
   rw[e1,e2]
   have gl:∀j,j<m->(ql (hi:Int) (lo:Int) l).getD j 0=if l.getD j 0=(hi:Int) then(lo:Int) else l.getD j 0:=fun j hj=>acW (by omega)
   have gq:∀j,j<m->(ql (q.getD v 0) (q.getD u 0) q).getD j 0=if q.getD j 0=q.getD v 0 then q.getD u 0 else q.getD j 0:=fun j hj=>acW (by omega)
   refine⟨by rw[Tx];exact ll,by rw[Tx];exact lq,?_,?_,?_⟩
   ·intro x y hx hy
    rw[gl x hx,gl y hy,gq x hx,gq y hy,abU,abU,Cj,Cj,gu x y hx hy,gu x u hx hu,gu x v hx hv,gu y u hy hu,gu y v hy hv]
   ·intro x hx
    obtain⟨h0,h1,h2⟩:=low x hx
    rw[gl x hx]
    by_cases Qj:l.getD x 0=(hi:Int)
    ·rw[if_pos Qj]
     refine⟨by omega,by omega,?_⟩
     rw[Int.toNat_natCast,gl lo aja,wX,if_neg (by omega)]
    ·rw[if_neg Qj]
     refine⟨h0,h1,?_⟩
     rw[gl _ (by omega),h2,if_neg Qj]
   ·have hc:=YN (fun j=>l.getD j 0==(j:Int)) (fun j=>(ql (hi:Int) (lo:Int) l).getD j 0==(j:Int)) hi m aat ?_ (by rw[u5];simp) (by rw[gl hi aat,if_pos u5];simp;omega)
    ·unfold N6 at jb⊢
     rw[Tx,ll]
     rw[ll,hc] at jb
     omega
    ·intro j hj aD
     rw[gl j hj]
     by_cases PQ:l.getD j 0=(hi:Int)
     ·rw[if_pos PQ,PQ,Bool.eq_iff_iff]
      simp only[beq_iff_eq]
      constructor
      ·intro h;omega
      ·intro h
       have:lo=j:=by omega
       subst this
       omega
     ·rw[if_neg PQ]
theorem QM {m i:Nat} (h:i<m):(xm m).getD i 0=(i:Int):=by
 simp[xm,List.getD,List.getElem?_map,List.getElem?_range h]
theorem D8.init (m:Nat):D8 m (xm m) (m:Int) (xm m):=by
 refine⟨QN m,QN m,fun _ _ _ _=>Iff.rfl,fun i hi=>?_,?_⟩
 ·rw[QM hi,Int.toNat_natCast,QM hi]
  omega
 ·unfold N6
  rw[QN]
  have:(List.range m).countP (fun i=>(xm m).getD i 0==(i:Int))=(List.range m).length:=by
   rw[List.countP_eq_length]
   intro i hi
   rw[QM (List.mem_range.1 hi)]
   simp
  rw[this,List.length_range]
end Go.Am
end
section
namespace Go.Am
end Go.Am
end
section
namespace Go.Am
def cS (om:Bool) (w:Nat) (x y:Nat->Int) (t:Nat):Int:=sm w (fun i=>sm w (fun j=>kW om x y t i j))
def pc (x y:Nat->Int) (t:Nat):Int:=sm (t+1) (fun i=>x i*y (t - i))
theorem Ds:∀(n:Nat) {f:Nat->Int},(∀i,i<n->f i=0)->sm n f=0
 |0,_,_=>rfl
 |n+1,f,h=>by simp only[sm];rw[Ds n (fun i hi=>h i (by omega)),h n (by omega)];rfl
theorem sK {a:Nat} {f:Nat->Int}:∀(n:Nat),a<n->(∀i,i<n->i≠a->f i=0)->sm n f=f a
 |0,h,_=>by omega
 |n+1,h,hf=>by
  simp only[sm]
  by_cases e:a=n
  ·subst e
   rw[Ds a (fun i hi=>hf i (by omega) (by omega))];omega
  ·rw[sK n (by omega) (fun i hi aD=>hf i (by omega) aD),hf n (by omega) (by omega)];omega
theorem Wl {m:Nat} {f:Nat->Int}:∀(n:Nat),m<=n->(∀i,i<n->m<=i->f i=0)->sm n f=sm m f
 |0,h,_=>by rw[show m=0 by omega]
 |n+1,h,hf=>by
  by_cases e:m=n+1
  ·rw[e]
  ·simp only[sm]
   rw[Wl n (by omega) (fun i hi hm=>hf i (by omega) hm),hf n (by omega) (by omega)];omega
theorem Dr {p:Int} {f g:Nat->Int}:∀{n:Nat},(∀i,i<n->f i%p=g i%p)->sm n f%p=sm n g%p
 |0,_=>rfl
 |n+1,h=>by simp only[sm];rw[Int.add_emod,Dr (n:=n) (fun i hi=>h i (by omega)),h n (by omega),<-Int.add_emod]
theorem Ek {w t:Nat} (x y:Nat->Int) (h:t<w):cS false w x y t=pc x y t:=by
 have gf:∀i,i<w->sm w (fun j=>kW false x y t i j)=if i<=t then x i*y (t - i) else 0:=by
  intro i hi
  split
  ·rename_i wV
   rw[sK (a:=t - i) w (by omega) (fun j hj aD=>by unfold kW;rw[if_neg (by omega),if_neg (by simp)])]
   unfold kW
   rw[if_pos (by omega)]
  ·exact Ds w fun j hj=>by unfold kW;rw[if_neg (by omega),if_neg (by simp)]
 unfold cS pc
 rw[j9 gf,Wl (m:=t+1) w (by omega) (fun i hi hm=>if_neg (by omega))]
 exact j9 fun i hi=>if_pos (by omega)
theorem ao4 {p a b:Int} (e8:a%p=b%p):(-a)%p=(-b)%p:=by
 have:(0 - a)%p=(0 - b)%p:=by rw[Int.sub_emod,e8,<-Int.sub_emod]
 simpa using this
theorem Yk {om:Bool} {w t:Nat} {p:Int} {x x' y y':Nat->Int} (hx:∀i,i<w->x i%p=x' i%p) (hy:∀i,i<w->y i%p=y' i%p):cS om w x y t%p=cS om w x' y' t%p:=by
 refine Dr fun i hi=>Dr fun j hj=>?_
 have hm:(x i*y j)%p=(x' i*y' j)%p:=by rw[Int.mul_emod,hx i hi,hy j hj,<-Int.mul_emod]
 unfold kW
 split
 ·exact hm
 ·split
  ·exact ao4 hm
  ·rfl
theorem Nq {om:Bool} {w t:Nat} {x x' y y':Nat->Int} (hx:∀i,i<w->x i=x' i) (hy:∀i,i<w->y i=y' i):cS om w x y t=cS om w x' y' t:=
 j9 fun i hi=>j9 fun j hj=>by unfold kW;rw[hx i hi,hy j hj]
theorem aqi (x y z:Nat->Int) {t:Nat} (h:t<6):pc (pc x y) z t=pc x (pc y z) t:=by
 match t,h with
 |0,_=>simp only[pc,sm,Nat.reduceSub,Nat.reduceAdd,Nat.zero_add];try grind
 |1,_=>simp only[pc,sm,Nat.reduceSub,Nat.reduceAdd,Nat.zero_add];try grind
 |2,_=>simp only[pc,sm,Nat.reduceSub,Nat.reduceAdd,Nat.zero_add];try grind
 |3,_=>simp only[pc,sm,Nat.reduceSub,Nat.reduceAdd,Nat.zero_add];try grind
 |4,_=>simp only[pc,sm,Nat.reduceSub,Nat.reduceAdd,Nat.zero_add];try grind
 |5,_=>simp only[pc,sm,Nat.reduceSub,Nat.reduceAdd,Nat.zero_add];try grind
theorem yC (x y:Nat->Int):cS true 4 x y 0=x 0*y 0 - x 1*y 3 - x 2*y 2 - x 3*y 1:=by simp[cS,sm,kW];grind
theorem yD (x y:Nat->Int):cS true 4 x y 1=x 0*y 1+x 1*y 0 - x 2*y 3 - x 3*y 2:=by simp[cS,sm,kW];grind
theorem yE (x y:Nat->Int):cS true 4 x y 2=x 0*y 2+x 1*y 1+x 2*y 0 - x 3*y 3:=by simp[cS,sm,kW];grind
theorem yF (x y:Nat->Int):cS true 4 x y 3=x 0*y 3+x 1*y 2+x 2*y 1+x 3*y 0:=by simp[cS,sm,kW]
theorem af2 (x y z:Nat->Int) {t:Nat} (h:t<4):cS true 4 (cS true 4 x y) z t=cS true 4 x (cS true 4 y z) t:=by
 match t,h with
 |0,_=>rw[yC,yC];simp only[yC,yD,yE,yF];grind
 |1,_=>rw[yD,yD];simp only[yC,yD,yE,yF];grind
 |2,_=>rw[yE,yE];simp only[yC,yD,yE,yF];grind
 |3,_=>rw[yF,yF];simp only[yC,yD,yE,yF];grind
theorem afH {k p:Int} {w:Nat} (c:Mg k p w) (x y z:Nat->Int) {t:Nat} (h:t<w):cS (decide (k=8)) w (cS (decide (k=8)) w x y) z t=cS (decide (k=8)) w x (cS (decide (k=8)) w y z) t:=by
 by_cases h8:k=8
 ·obtain rfl:=c.w8 h8
  rw[decide_eq_true h8]
  exact af2 x y z h
 ·rw[decide_eq_false h8]
  have h6:=c.cw
  rw[Nq (x':=pc x y) (y':=z) (fun i hi=>Ek x y hi) (fun _ _=>rfl),Ek _ _ h,Nq (x':=x) (y':=pc y z) (fun _ _=>rfl) (fun i hi=>Ek y z hi),Ek _ _ h]
  exact aqi x y z (by omega)
theorem NO (p:Int) (om:Bool) (w:Nat) (x y:Nat->Int):yI p om w x y=pt w fun t=>cS om w x y t%p:=rfl
theorem Ev {r:Int×Int×Int} (h:r.1=7\/r.1=8) (x y:List Int):xy r x y=yI r.2.1 (decide (r.1=8)) (cg r) (ef x) (ef y):=if_pos h
theorem abW {a b c p:Int} (hp:0<=p) (ha:0<=a) (hb:0<=b) (hc:0<=c):min (min (a*b) p*c) p=min (a*b*c) p:=by
 generalize hm:a*b=m
 by_cases h:m<=p
 ·rw[show min m p=m by omega]
 ·rw[show min m p=p by omega]
  by_cases h0:c=0
  ·subst h0;simp
  ·have h1:p*1<=p*c:=Int.mul_le_mul_of_nonneg_left (by omega) hp
   have h2:p*c<=m*c:=Int.mul_le_mul_of_nonneg_right (by omega) hc
   omega
theorem aeQ {r:Int×Int×Int} (hk:¬(r.1=7\/r.1=8)):cg r=1:=by
 obtain⟨k,p,n⟩:=r
 simp only at hk
 simp only[cg,lA]
 rw[if_neg (by omega),if_neg (by omega)]
 rfl
theorem apl {r:Int×Int×Int} (hr:j8 r=true) (hk:¬(r.1=7\/r.1=8)) {a b c:Int} (ha:0<=a/\a<=eW r) (hb:0<=b/\b<=eW r) (hc:0<=c/\c<=eW r):qg r (qg r a b) c=qg r a (qg r b c):=by
 obtain⟨k,p,n⟩:=r
 simp only at hk
 rcases Dh hr with⟨rfl,rfl,rfl⟩|⟨rfl,hp,rfl⟩|⟨rfl,hp,rfl⟩|⟨rfl,hp,rfl⟩|⟨rfl,hp,rfl⟩|⟨rfl,rfl,hn⟩|⟨rfl,hp,hn⟩|⟨rfl,hp,oQ,rfl⟩
 ·have o:∀u v,qg (1,0,0) u v=((u.toNat&&&v.toNat:Nat):Int):=fun _ _=>rfl
  rw[o,o,o,o,Int.toNat_natCast,Int.toNat_natCast,Nat.and_assoc]
 ·have o:∀u v,qg (2,p,0) u v=u*v%p:=fun _ _=>rfl
  rw[o,o,o,o,Int.mul_emod,Int.emod_emod,<-Int.mul_emod,Int.mul_emod a,Int.emod_emod,<-Int.mul_emod,Int.mul_assoc]
 ·have o:∀u v,qg (3,p,0) u v=min (u*v) p:=fun _ _=>rfl
  rw[o,o,o,o,abW (by omega) ha.1 hb.1 hc.1,Int.mul_comm a (min _ _),abW (by omega) hb.1 hc.1 ha.1,Int.mul_assoc a b c,Int.mul_comm a]
 ·have o:∀u v,qg (4,p,0) u v=min (u+v) p:=fun _ _=>rfl
  rw[o,o,o,o];omega
 ·have o:∀u v,qg (5,p,0) u v=min u v:=fun _ _=>rfl
  rw[o,o,o,o];omega
 ·have o:∀u v,qg (6,0,n) u v=((u.toNat&&&v.toNat:Nat):Int):=fun _ _=>rfl
  rw[o,o,o,o,Int.toNat_natCast,Int.toNat_natCast,Nat.and_assoc]
 ·omega
 ·omega
theorem mul_assoc {r:Int×Int×Int} {x y z:List Int} (hr:j8 r=true) (hx:rV r x=true) (hy:rV r y=true) (hz:rV r z=true):xy r (xy r x y) z=xy r x (xy r y z):=by
 by_cases hk:r.1=7\/r.1=8
 ·obtain⟨k,p,n⟩:=r
  have c:=Yp hr hk
  rw[Ev hk,Ev hk,Ev hk,Ev hk]
  simp only
  refine aes fun t ht=>?_
  show cS (decide (k=8)) (cg (k,p,n)) (ef (yI p (decide (k=8)) (cg (k,p,n)) (ef x) (ef y))) (ef z) t%p=cS (decide (k=8)) (cg (k,p,n)) (ef x) (ef (yI p (decide (k=8)) (cg (k,p,n)) (ef y) (ef z))) t%p
  have e1:cS (decide (k=8)) (cg (k,p,n)) (ef (yI p (decide (k=8)) (cg (k,p,n)) (ef x) (ef y))) (ef z) t%p=cS (decide (k=8)) (cg (k,p,n)) (cS (decide (k=8)) (cg (k,p,n)) (ef x) (ef y)) (ef z) t%p:=
   Yk (fun i hi=>by rw[NO,Oa _ hi,Int.emod_emod]) (fun _ _=>rfl)
  have e2:cS (decide (k=8)) (cg (k,p,n)) (ef x) (ef (yI p (decide (k=8)) (cg (k,p,n)) (ef y) (ef z))) t%p=cS (decide (k=8)) (cg (k,p,n)) (ef x) (cS (decide (k=8)) (cg (k,p,n)) (ef y) (ef z)) t%p:=
   Yk (fun _ _=>rfl) (fun i hi=>by rw[NO,Oa _ hi,Int.emod_emod])
  rw[e1,e2,afH c _ _ _ ht]
 ·have hw:=aeQ hk
  obtain⟨a,b,rfl,rfl,ha,hb⟩:=Zc hx hy hw
  obtain⟨_,c,e,rfl,_,hc⟩:=Zc hx hz hw
  rw[FN hk,FN hk,FN hk,FN hk,apl hr hk ha hb hc]
theorem aio {k p n:Int} (hk:k=7\/k=8) {j:Nat} (hj:j<cg (k,p,n)):ef (C3 (k,p,n)) j=if j=0 then 1 else 0:=by
 rw[apk,Oa _ hj,if_neg (show¬k=4 by omega),if_neg (show¬(k=5\/k=6) by omega)]
theorem afG {k p:Int} {w:Nat} (c:Mg k p w) (u:Nat->Int) (v:Int) {t:Nat} (h:t<w):cS (decide (k=8)) w u (fun j=>if j=0 then v else 0) t=u t*v:=by
 by_cases h8:k=8
 ·obtain rfl:=c.w8 h8
  rw[decide_eq_true h8]
  match t,h with
  |0,_=>rw[yC];simp
  |1,_=>rw[yD];simp
  |2,_=>rw[yE];simp
  |3,_=>rw[yF];simp
 ·rw[decide_eq_false h8,Ek _ _ h]
  unfold pc
  rw[sK (a:=t) (t+1) (by omega) (fun i hi aD=>by simp only;rw[if_neg (by omega),Int.mul_zero])]
  simp only
  rw[if_pos (by omega)]
theorem apm {k p n:Int} (hr:j8 (k,p,n)=true) (hk:¬(k=7\/k=8)) {a:Int} (ha:0<=a/\a<=eW (k,p,n)):qg (k,p,n) a (if k=4 then 0 else if k=5\/k=6 then eW (k,p,n) else 1)=a:=by
 rcases Dh hr with⟨rfl,rfl,rfl⟩|⟨rfl,hp,rfl⟩|⟨rfl,hp,rfl⟩|⟨rfl,hp,rfl⟩|⟨rfl,hp,rfl⟩|⟨rfl,rfl,hn⟩|⟨rfl,hp,hn⟩|⟨rfl,hp,oQ,rfl⟩
 ·have e:eW (1,0,0)=1:=rfl
  have h1:a=0\/a=1:=by omega
  rcases h1 with rfl|rfl<;>decide
 ·have e:eW (2,p,0)=p - 1:=rfl
  have:=eT hp
  show a*1%p=a
  rw[Int.mul_one,Int.emod_eq_of_lt (by omega) (by omega)]
 ·have e:eW (3,p,0)=p:=rfl
  show min (a*1) p=a
  omega
 ·have e:eW (4,p,0)=p:=rfl
  show min (a+0) p=a
  omega
 ·have e:eW (5,p,0)=p:=rfl
  show min a p=a
  omega
 ·have e:eW (6,0,n)=2^n.toNat - 1:=rfl
  have e2:(((2:Nat)^n.toNat:Nat):Int)=(2:Int)^n.toNat:=by push_cast;rfl
  show((a.toNat&&&(2^n.toNat - 1:Int).toNat:Nat):Int)=a
  rw[show(2^n.toNat - 1:Int).toNat=2^n.toNat - 1 by omega,Nat.and_two_pow_sub_one_eq_mod,Nat.mod_eq_of_lt (by omega)]
  omega
 ·omega
 ·omega
theorem mul_one {r:Int×Int×Int} {x:List Int} (hr:j8 r=true) (hx:rV r x=true):xy r x (C3 r)=x:=by
 obtain⟨k,p,n⟩:=r
 by_cases hk:k=7\/k=8
 ·have c:=Yp hr hk
  rw[Ev hk,NO]
  simp only
  have hT:eW (k,p,n)=p - 1:=by
   simp only[eW]
   rw[if_neg (by omega),if_neg (by omega),if_neg (by omega)]
  refine(aes fun t ht=>?_).trans (asF (Zb hx))
  rw[Nq (x':=ef x) (y':=fun j=>if j=0 then 1 else 0) (fun _ _=>rfl) (fun i hi=>aio hk hi),afG c _ _ ht,Int.mul_one]
  have:=Za hx ht
  rw[hT] at this
  exact Int.emod_eq_of_lt this.1 (by omega)
 ·have hw:=aeQ (r:=(k,p,n)) hk
  obtain⟨e,ha⟩:=EB hx hw
  have e1:C3 (k,p,n)=[if k=4 then 0 else if k=5\/k=6 then eW (k,p,n) else 1]:=by simp only[C3];exact aqU hw
  rw[e,e1,FN hk,apm hr hk ha]
end Go.Am
end
section
namespace Go.Am
abbrev Rg:=Int×Int×Int
abbrev T3:=List Int×List Int×List Int
abbrev GY:=Int×List (List Int)
def gF (r:Rg) (t:T3):Bool:=j8 r&&(decide (0<=jp t.1 t.2.1)&&(decide ((t.2.2.length:Int)=jp t.1 t.2.1*lA r)&&t.2.2.all (vm (eW r))))
def Xv:Rg×T3->Option Bool:=fun x=>if x.2.1.length<=1048576/\x.2.2.1.length<=1048576/\x.2.2.2.length<=1048576 then some (gF x.1 x.2) else none
def oE:Rg×T3->Option Bool:=Xv
def Xx:T3->Option T3:=fun x=>if x.1.length<=1048576/\x.2.1.length<=1048576/\x.2.2.length<=1048576 then some x else none
def Yt (R:List (List Int)) (ix:List Int) (i:Nat):Int:=(R.getD i []).getD (ix.getD i 0).toNat 0
def ael (x:GY×List Int):Prop:=(1<=x.1.1/\x.1.1<=12)/\x.2.length<=12/\∀i,i<x.2.length->i<x.1.2.length/\(0<=x.2.getD i 0/\(x.2.getD i 0).toNat<(x.1.2.getD i []).length)/\0<=Yt x.1.2 x.2 i/\Yt x.1.2 x.2 i<=12
instance (x:GY×List Int):Decidable (ael x):=by unfold ael;infer_instance
def acG (x:Rg×T3×Int×List Int):Prop:=j8 x.1=true/\0<=x.2.2.1/\x.2.2.1.toNat*cg x.1+x.2.2.2.length<=x.2.1.2.2.length/\x.2.1.2.2.length<=1048576
instance (x:Rg×T3×Int×List Int):Decidable (acG x):=by unfold acG;infer_instance
def NX (x:Rg×T3×Int):Prop:=j8 x.1=true/\0<=x.2.2/\(x.2.2.toNat+1)*cg x.1<=x.2.1.2.2.length/\x.2.1.2.2.length<=1048576
instance (x:Rg×T3×Int):Decidable (NX x):=by unfold NX;infer_instance
def YL (x:Rg×T3×GY):Prop:=(x.2.1.1.length<=1048576/\x.2.1.2.1.length<=1048576/\x.2.1.2.2.length<=1048576)/\Nu (x.2.1,x.2.2)
instance (x:Rg×T3×GY):Decidable (YL x):=by unfold YL;infer_instance
def H4:ao:=[(.agg,[.int .i64,.int .i64,.int .i64]),(.agg,[.list [.int .i64],.list [.int .i64],.list [.int .i64]])]
def T2:ao:=[(.one,[.bool])]
def am7:aQ:=[]
def Mx (NN:Nat):((Int×(Int×Int))×((List Int)×((List Int)×(List Int))))->(Option Bool):=
 (fun(((i0,i1,i2),l3,l4,l5):((Int×(Int×Int))×((List Int)×((List Int)×(List Int)))))=>
 (AR (i0,i1,i2)).ab (fun b6=>
 ax (dA b6)
 (some false)
 ((AU (l3,l4,l5)).ab (fun i7=>
 ax (gC i7 ((-1:Int)))
 ((v7 (i0,i1,i2)).ab (fun i8=>
 ax (cJ (aS (aa l5)) (cd .i64 i7 i8))
 ((A6 ((i0,i1,i2),l5)).ab (fun b9=>
 some b9))
 (some false)))
 (some false)))))
theorem cz {α β:Type} (x:α) (f:α->Option β):(some x).ab f=f x:=by
 have h:∀o:Option α,o=some x->o.ab f=f x:=by intro o h;subst h;rfl
 exact h _ rfl
theorem DH {r:Rg} {L D A:List Int} (h:gF r (L,D,A)=true):j8 r=true/\(D.length<=12/\(∀x∈D,1<=x/\x<=8))/\jp L D=(bJ D:Int)/\(1<=bJ D/\bJ D<=4096)/\A.length=bJ D*cg r/\km D/\I6 4096 D=(bJ D:Int)/\dr D=(bJ D:Int)/\A.all (vm (eW r))=true:=by
 simp only[gF,Bool.and_eq_true,decide_eq_true_eq] at h
 obtain⟨h1,h2,h3,h4⟩:=h
 have hw:=DR h1
 by_cases ha:nI L D=true/\dr D<=4096
 ·have e:jp L D=dr D:=if_pos ha
  have hd:=Ef ha.1
  have hl:=s0 ha.1
  have hI:=Ad (D:=D) fun x hx=>(hd x hx).1
  have dU:=F6 (D:=D) fun x hx=>(hd x hx).1
  refine⟨h1,⟨by omega,hd⟩,e.trans hI,⟨dU,by omega⟩,?_,⟨by omega,fun x hx=>by have:=hd x hx;omega⟩,?_,hI,h4⟩
  ·rw[e,hI,hw.1] at h3
   exact_mod_cast h3
  ·unfold I6
   rw[Nr (by decide) _ 0 1 (fun x hx=>(hd x hx).1) (by decide) (by decide),Int.one_mul,hI,Int.min_eq_left (by omega)]
 ·have e:jp L D= -1:=if_neg ha
  rw[e] at h2
  exact absurd h2 (by decide)
theorem aeD (L D:List Int):jp L D= -1\/(0<=jp L D/\jp L D<=4096):=by
 unfold jp
 split
 ·rename_i h
  have hd:=Ef h.1
  have hI:=Ad (D:=D) fun x hx=>(hd x hx).1
  right
  omega
 ·exact .inl rfl
theorem asS {L D:List Int} {r:Rg} (h:j8 r=true) (h0:0<=jp L D):cd .i64 (jp L D) (lA r)=jp L D*lA r:=by
 have hw:=DR h
 have h1:jp L D<=4096:=by
  rcases aeD L D with e|e
  ·omega
  ·exact e.2
 have h2:jp L D*lA r<=4096*6:=Int.mul_le_mul h1 (by omega) (by omega) (by decide)
 have h3:0<=jp L D*lA r:=Int.mul_nonneg h0 (by omega)
 exact o9 (by omega) (by omega)
theorem ahr (x:Rg×T3) (y:Bool) (h:oE x=some y):Mx aC x=some y:=by
 obtain⟨⟨k,p,n⟩,L,D,A⟩:=x
 simp only[oE,Xv] at h
 split at h
 ·rename_i hc
  rw[<-h]
  simp only[Mx,AR,cz]
  cases hr:j8 (k,p,n) with
  |false=>rw[aR (b:=dA false) rfl];simp[gF,hr]
  |true=>
   rw[aL (b:=dA true) rfl,show AU (L,D,A)=some (jp L D) from if_pos ⟨hc.1,hc.2.1⟩]
   simp only[cz]
   by_cases h0:0<=jp L D
   ·rw[aR (show gC _ _=true from bne_iff_ne.2 (by omega))]
    simp only[v7,cz]
    rw[asS hr h0,nl]
    by_cases hl:(A.length:Int)=jp L D*lA (k,p,n)
    ·rw[aR (show cJ _ _=true from beq_iff_eq.2 hl),show A6 ((k,p,n),A)=some _ from if_pos ⟨hr,by have:=hc.2.2;omega⟩,cz]
     simp[gF,hr,h0,hl]
    ·rw[aL (show cJ _ _=false from beq_eq_false_iff_ne.2 hl)]
     simp[gF,hr,hl]
   ·have:jp L D= -1:=by rcases aeD L D with e|e<;>omega
    rw[aL (show gC _ _=false by unfold gC;rw[this];rfl)]
    simp[gF,hr,h0]
 ·cases h
end Go.Am
end
section
namespace Go.Am
def AY:T3->Option T3:=Xx
def Ib:ao:=[(.agg,[.list [.int .i64],.list [.int .i64],.list [.int .i64]])]
def Ua:ao:=[(.agg,[.list [.int .i64],.list [.int .i64],.list [.int .i64]])]
def anf:aQ:=[]
def MD (NN:Nat):((List Int)×((List Int)×(List Int)))->(Option ((List Int)×((List Int)×(List Int)))):=
 (fun((l0,l1,l2):((List Int)×((List Int)×(List Int))))=>
 (kj l0).ab (fun l3=>
 (kj l1).ab (fun l4=>
 (kj l2).ab (fun l5=>
 (dw l3 (aa l3)).ab (fun l6=>
 (dw l4 (aa l4)).ab (fun l7=>
 (dw l5 (aa l5)).ab (fun l8=>
 some (l6,l7,l8))))))))
theorem ab3 {a b:Nat} (h:a*b<=1099511627776):cd .i64 (a:Int) (b:Int)=((a*b:Nat):Int):=by
 have e:(a:Int)*(b:Int)=((a*b:Nat):Int):=(Int.natCast_mul a b).symm
 rw[o9 (by omega) (by omega),e]
theorem ahy (x:T3) (y:T3) (h:AY x=some y):MD aC x=some y:=by
 obtain⟨L,D,A⟩:=x
 simp only[AY,Xx] at h
 split at h
 ·rename_i hc
  rw[<-h]
  obtain⟨h1,h2,h3⟩:=hc
  simp only[MD]
  rw[show kj L=some L from if_pos (by omega),show kj D=some D from if_pos (by omega),show kj A=some A from if_pos (by omega)]
  simp only[cz,jJ]
 ·cases h
end Go.Am
end
section
namespace Go.Am
theorem FL {X Y:Type} {f:X->Option (X⊕Y)} (n:Nat) (I:Nat->X->Prop) (Q:Y->Prop)
  (h1:∀i x,i<n->I i x->∃x',f x=some (.inl x')/\I (i+1) x') (h2:∀x,I n x->∃r,f x=some (.inr r)/\Q r) {x0:X} (h0:I 0 x0) {N:Nat} (hN:n<N):∃r,bM N f x0=some r/\Q r:=by
 have bZ:∀(k i:Nat) (x:X),i+k=n->I i x->∀N,k<N->∃r,bM N f x=some r/\Q r:=by
  intro k
  induction k with
  |zero=>
   intro i x hi hx N hN
   obtain⟨N,rfl⟩:∃M,N=M+1:=⟨N - 1,by omega⟩
   have:i=n:=by omega
   subst this
   obtain⟨r,e,q⟩:=h2 x hx
   exact⟨r,by simp only[bM,e],q⟩
  |succ k ih=>
   intro i x hi hx N hN
   obtain⟨N,rfl⟩:∃M,N=M+1:=⟨N - 1,by omega⟩
   obtain⟨x',e,f7⟩:=h1 i x (by omega) hx
   obtain⟨r,e',q⟩:=ih (i+1) x' (by omega) f7 N (by omega)
   exact⟨r,by simp only[bM,e];exact e',q⟩
 exact bZ n 0 x0 (by omega) h0 N hN
abbrev Cu:Type:=List Int×Int×Int
def lC (c:Cu):Prop:=0<=c.2.1/\c.1.length<=1048576
theorem XY (a:Int):0<=qy .i64 a 255/\qy .i64 a 255<=255:=by
 have e:qy .i64 a 255=IntKind.wrap .i64 (((BitVec.ofInt 64 a&&&BitVec.ofInt 64 255).toNat:Nat):Int):=rfl
 have h:(BitVec.ofInt 64 a&&&BitVec.ofInt 64 255).toNat<=255:=by
  rw[BitVec.toNat_and]
  exact Nat.le_trans Nat.and_le_right (by decide)
 rw[e]
 generalize (BitVec.ofInt 64 a&&&BitVec.ofInt 64 255).toNat=m at h
 rw[Xn _ (by omega) (by omega)]
 omega
theorem aiq {α:Type}:ai 0 0 (aa ([]:List α))=some ():=rfl
def IL:ao:=[(.one,[.list [.int .u8]])]
def UI:ao:=[(.ptr,[.list [.int .u8],.int .i64,.int .i64])]
def anK:aQ:=[[some .aG]]
def Ht (NN:Nat):(List Int)->(Option ((List Int)×(Int×Int))):=
 (fun(l0:(List Int))=>
 ca (bM NN (fun((l1,i2,i3):((List Int)×(Int×Int)))=>
 ax (bG i3 (aS (aa l1)))
 (ax (bG i3 (4000:Int))
 ((eo l1 i3).ab (fun i4=>
 some (Sum.inl (l1,qy .i64 (bA .i64 (bA .i64 (cd .i64 i2 131) (yH .i64 i4)) (7:Int)) (1073741823:Int),bA .i64 i3 1))))
 (some (Sum.inr (Sum.inl (l1,i2)))))
 (some (Sum.inr (Sum.inl (l1,i2)))))
 (l0,bA .i64 (55127:Int) (aS (aa l0)),(0:Int)))
 (fun(l5,i6)=>
 some (l5,(0:Int),i6)))
def Bk:(List Int)->(Option ((List Int)×(Int×Int))):=Ht aC
theorem ah6 (x:(List Int)) (z:((List Int)×(Int×Int))) (h:Bk x=some z):Ht aC x=some z:=h
def IW:ao:=[(.one,[.list [.int .u8]]),(.one,[.int .i64])]
def UO:ao:=[(.ptr,[.list [.int .u8],.int .i64,.int .i64])]
def anQ:aQ:=[[some .aG]]
def Hz (NN:Nat):((List Int)×Int)->(Option ((List Int)×(Int×Int))):=
 (fun((l0,i1):((List Int)×Int))=>
 (Bk l0).ab (fun(l2,i3,i4)=>
 some (l2,o7 i1 (aS (aa l0)),qy .i64 (bA .i64 (bA .i64 (cd .i64 i4 31) (cd .i64 i1 7919)) (1:Int)) (1073741823:Int))))
def wc:((List Int)×Int)->(Option ((List Int)×(Int×Int))):=Hz aC
theorem aic (x:((List Int)×Int)) (z:((List Int)×(Int×Int))) (h:wc x=some z):Hz aC x=some z:=h
def IK:ao:=[(.ptr,[.list [.int .u8],.int .i64,.int .i64])]
def UH:ao:=[(.one,[.int .i64]),(.ptr,[.list [.int .u8],.int .i64,.int .i64])]
def anJ:aQ:=[[some .aG]]
def Hs (NN:Nat):((List Int)×(Int×Int))->(Option (Int×((List Int)×(Int×Int)))):=
 (fun((l0,i1,i2):((List Int)×(Int×Int)))=>
 (t7 .i64 (bA .i64 (cd .i64 i2 6364136223846793005) (1442695040888963407:Int)) (33:Int)).ab (fun i3=>
 (t7 .i64 (bA .i64 (cd .i64 i2 6364136223846793005) (1442695040888963407:Int)) (45:Int)).ab (fun i4=>
 ca (ax (bG i1 (aS (aa l0)))
 ((eo l0 i1).ab (fun i5=>
 some (Sum.inl (qy .i64 (bA .i64 (qy .i64 (Xo .i64 i3 i4) (255:Int)) (yH .i64 i5)) (255:Int),l0,bA .i64 i1 1,bA .i64 (cd .i64 i2 6364136223846793005) (1442695040888963407:Int)))))
 (some (Sum.inl (qy .i64 (Xo .i64 i3 i4) (255:Int),l0,i1,bA .i64 (cd .i64 i2 6364136223846793005) (1442695040888963407:Int)))))
 (fun(i6,l7,i8,i9)=>
 some (i6,l7,i8,i9)))))
def wa:((List Int)×(Int×Int))->(Option (Int×((List Int)×(Int×Int)))):=Hs aC
theorem ah5 (x:((List Int)×(Int×Int))) (z:(Int×((List Int)×(Int×Int)))) (h:wa x=some z):Hs aC x=some z:=h
def IJ:ao:=[(.ptr,[.list [.int .u8],.int .i64,.int .i64]),(.one,[.int .i64])]
def UG:ao:=[(.one,[.int .i64]),(.ptr,[.list [.int .u8],.int .i64,.int .i64])]
def anI:aQ:=[[some .aG]]
def Hr (NN:Nat):(((List Int)×(Int×Int))×Int)->(Option (Int×((List Int)×(Int×Int)))):=
 (fun(((l0,i1,i2),i3):(((List Int)×(Int×Int))×Int))=>
 ax (iW i3 (0:Int))
 (some ((0:Int),l0,i1,i2))
 ((wa (l0,i1,i2)).ab (fun(i4,l5,i6,i7)=>
 (iZ i4 i3).ab (fun i8=>
 some (i8,l5,i6,i7)))))
def ul:(((List Int)×(Int×Int))×Int)->(Option (Int×((List Int)×(Int×Int)))):=Hr aC
theorem ah4 (x:(((List Int)×(Int×Int))×Int)) (z:(Int×((List Int)×(Int×Int)))) (h:ul x=some z):Hr aC x=some z:=h
def IM:ao:=[(.ptr,[.list [.int .u8],.int .i64,.int .i64]),(.one,[.int .i64])]
def UJ:ao:=[(.one,[.bool]),(.ptr,[.list [.int .u8],.int .i64,.int .i64])]
def anL:aQ:=[[some .aG]]
def Hu (NN:Nat):(((List Int)×(Int×Int))×Int)->(Option (Bool×((List Int)×(Int×Int)))):=
 (fun(((l0,i1,i2),i3):(((List Int)×(Int×Int))×Int))=>
 (ul ((l0,i1,i2),i3)).ab (fun(i4,l5,i6,i7)=>
 some (cJ i4 (0:Int),l5,i6,i7)))
def wb:(((List Int)×(Int×Int))×Int)->(Option (Bool×((List Int)×(Int×Int)))):=Hu aC
theorem ah7 (x:(((List Int)×(Int×Int))×Int)) (z:(Bool×((List Int)×(Int×Int)))) (h:wb x=some z):Hu aC x=some z:=h
def IP:ao:=[(.ptr,[.list [.int .u8],.int .i64,.int .i64]),(.one,[.list [.int .i64]])]
def UK:ao:=[(.one,[.int .i64]),(.ptr,[.list [.int .u8],.int .i64,.int .i64])]
def anM:aQ:=[[some .aG]]
def Hv (NN:Nat):(((List Int)×(Int×Int))×(List Int))->(Option (Int×((List Int)×(Int×Int)))):=
 (fun(((l0,i1,i2),l3):(((List Int)×(Int×Int))×(List Int)))=>
 (ul ((l0,i1,i2),aS (aa l3))).ab (fun(i4,l5,i6,i7)=>
 (eo l3 i4).ab (fun i8=>
 some (i8,l5,i6,i7))))
def Bl:(((List Int)×(Int×Int))×(List Int))->(Option (Int×((List Int)×(Int×Int)))):=Hv aC
theorem ah8 (x:(((List Int)×(Int×Int))×(List Int))) (z:(Int×((List Int)×(Int×Int)))) (h:Bl x=some z):Hv aC x=some z:=h
def IG:ao:=[(.one,[.list [.int .u8]]),(.one,[.int .i64])]
def UD:ao:=[(.one,[.int .i64])]
def anF:aQ:=[[some .aG]]
def Ho (NN:Nat):((List Int)×Int)->(Option Int):=
 (fun((l0,i1):((List Int)×Int))=>
 (wc (l0,i1)).ab (fun(l2,i3,i4)=>
 (wa (l2,i3,i4)).ab (fun(i5,l6,i7,i8)=>
 (wa (l6,i7,i8)).ab (fun(i9,fy,eF,eA)=>
 some (bA .i64 (cd .i64 (256:Int) i5) i9)))))
def Bi:((List Int)×Int)->(Option Int):=Ho aC
theorem ah0 (x:((List Int)×Int)) (z:Int) (h:Bi x=some z):Ho aC x=some z:=h
def II:ao:=[(.one,[.list [.int .u8]]),(.one,[.int .i64]),(.one,[.int .i64]),(.one,[.int .i64])]
def UF:ao:=[(.one,[.int .i64])]
def anH:aQ:=[[some .aG]]
def Hq (NN:Nat):((List Int)×(Int×(Int×Int)))->(Option Int):=
 (fun((l0,i1,i2,i3):((List Int)×(Int×(Int×Int))))=>
 (Bi (l0,i1)).ab (fun i4=>
 (iZ i4 (bA .i64 (iF .i64 i3 i2) (1:Int))).ab (fun i5=>
 some (bA .i64 i2 i5))))
def yh:((List Int)×(Int×(Int×Int)))->(Option Int):=Hq aC
theorem ah2 (x:((List Int)×(Int×(Int×Int)))) (z:Int) (h:yh x=some z):Hq aC x=some z:=h
def IH:ao:=[(.one,[.list [.int .u8]]),(.one,[.int .i64])]
def UE:ao:=[(.one,[.int .i64])]
def anG:aQ:=[[some .aG]]
def Hp (NN:Nat):((List Int)×Int)->(Option Int):=
 (fun((l0,i1):((List Int)×Int))=>
 (wc (l0,i1)).ab (fun(l2,i3,i4)=>
 (dw (((2:Int)::((3:Int)::((7:Int)::((101:Int)::((1000003:Int)::([]:List Int))))))) 5).ab (fun l5=>
 (Bl ((l2,i3,i4),l5)).ab (fun(i6,l7,i8,i9)=>
 some i6))))
def Bj:((List Int)×Int)->(Option Int):=Hp aC
theorem ah1 (x:((List Int)×Int)) (z:Int) (h:Bj x=some z):Hp aC x=some z:=h
theorem Np (c:Cu) (h:lC c):∃x c',wa c=some (x,c')/\(0<=x/\x<=255)/\lC c':=by
 obtain⟨l,i,k⟩:=c
 obtain⟨h0,h1⟩:=h
 dsimp only at h0 h1
 obtain⟨i,rfl⟩:=fu h0
 obtain⟨s1,e1⟩:∃s,t7 .i64 (bA .i64 (cd .i64 k (6364136223846793005:Int)) (1442695040888963407:Int)) (33:Int)=some s:=⟨_,if_neg (by decide)⟩
 obtain⟨s2,e2⟩:∃s,t7 .i64 (bA .i64 (cd .i64 k (6364136223846793005:Int)) (1442695040888963407:Int)) (45:Int)=some s:=⟨_,if_neg (by decide)⟩
 simp only[wa,Hs]
 rw[e1,e2]
 simp only[Option.ab,Option.bind]
 by_cases hc:i<l.length
 ·rw[aR (df (by unfold aS aa;omega))]
  rw[eu,List.getElem?_eq_getElem hc]
  simp only[ca,Option.bind]
  refine⟨_,_,rfl,XY _,?_,h1⟩
  dsimp only
  rw[gw (by omega) (by omega)]
  omega
 ·rw[aL (cN (by unfold aS aa;omega))]
  simp only[ca,Option.bind]
  exact⟨_,_,rfl,XY _,h0,h1⟩
theorem I2 (c:Cu) (n:Int) (h:lC c) (hn:1<=n):∃x c',ul (c,n)=some (x,c')/\(0<=x/\x<n)/\x<=255/\lC c':=by
 obtain⟨l,i,k⟩:=c
 obtain⟨x,⟨l',i',k'⟩,e,hx,hc⟩:=Np _ h
 simp only[ul,Hr]
 rw[aL (CO (by omega)),e]
 simp only[Option.ab,Option.bind]
 rw[TA hx.1 (by omega)]
 refine⟨_,_,rfl,⟨Int.emod_nonneg _ (by omega),Int.emod_lt_of_pos _ (by omega)⟩,?_,hc⟩
 have:=Int.emod_lt_of_pos x (show 0<n by omega)
 by_cases hl:x<n
 ·rw[Int.emod_eq_of_lt hx.1 hl];omega
 ·omega
theorem Tc (c:Cu) (n:Int) (h:lC c) (hn:1<=n):∃b c',wb (c,n)=some (b,c')/\lC c':=by
 obtain⟨l,i,k⟩:=c
 obtain⟨x,⟨l',i',k'⟩,e,_,_,hc⟩:=I2 _ n h hn
 simp only[wb,Hu]
 rw[e]
 exact⟨_,_,rfl,hc⟩
theorem aqj (c:Cu) (l:List Int) (h:lC c) (h1:l≠[]) (h2:l.length<=100):∃x c',Bl (c,l)=some (x,c')/\x∈l/\lC c':=by
 obtain⟨cl,i,k⟩:=c
 have hl:1<=l.length:=by rcases l with _|⟨a,l⟩<;>simp_all
 obtain⟨x,⟨l',i',k'⟩,e,hx,_,hc⟩:=I2 (cl,i,k) (aS (aa l)) h (by unfold aS aa;omega)
 simp only[Bl,Hv]
 rw[e]
 simp only[Option.ab,Option.bind]
 obtain⟨j,rfl⟩:=fu hx.1
 have hj:j<l.length:=by unfold aS aa at hx;omega
 rw[eu,List.getElem?_eq_getElem hj]
 exact⟨_,_,rfl,List.getElem_mem hj,hc⟩
theorem ao7 (l:List Int) (h:l.length<=1048576):∃c,Bk l=some c/\lC c:=by
 simp only[Bk,Ht]
 generalize hL:bM aC _ _=o
 obtain⟨r,rfl,z,rfl⟩:∃r,o=some r/\∃z,r=Sum.inl (l,z):=by
  rw[<-hL]
  refine FL (min l.length 4000) (fun i (x:List Int×Int×Int)=>x.1=l/\x.2.2=(i:Int)) _ ?_ ?_ ⟨rfl,rfl⟩ (dk (by omega))
  ·intro i x hi hx
   obtain⟨l1,i2,i3⟩:=x
   dsimp only at hx⊢
   obtain⟨rfl,rfl⟩:=hx
   rw[aR (df (by unfold aS aa;omega)),aR (df (by omega)),eu,List.getElem?_eq_getElem (by omega)]
   exact⟨_,rfl,rfl,gw (by omega) (by omega)⟩
  ·intro x hx
   obtain⟨l1,i2,i3⟩:=x
   dsimp only at hx⊢
   obtain⟨rfl,rfl⟩:=hx
   by_cases hc:l1.length<=4000
   ·rw[aL (cN (by unfold aS aa;omega))]
    exact⟨_,rfl,_,rfl⟩
   ·rw[aR (df (by unfold aS aa;omega)),aL (cN (by omega))]
    exact⟨_,rfl,_,rfl⟩
 exact⟨_,rfl,Int.le_refl _,h⟩
theorem Na (l:List Int) (n:Int) (h:l.length<=1048576) (hn:0<=n):∃c,wc (l,n)=some c/\lC c:=by
 obtain⟨⟨l',i',k'⟩,e,hc⟩:=ao7 l h
 simp only[wc,Hz]
 rw[e]
 refine⟨_,rfl,?_,hc.2⟩
 dsimp only
 rw[abV]
 unfold aS aa
 omega
theorem apg (l:List Int) (n:Int) (h:l.length<=1048576) (hn:0<=n):∃x,Bi (l,n)=some x/\(0<=x/\x<=65535):=by
 obtain⟨⟨l',i',k'⟩,e,hc⟩:=Na l n h hn
 obtain⟨x,⟨l1,i1,k1⟩,e1,hx,hc⟩:=Np _ hc
 obtain⟨y,⟨l2,i2,k2⟩,e2,hy,hc⟩:=Np _ hc
 simp only[Bi,Ho]
 rw[e]
 simp only[Option.ab,Option.bind]
 rw[e1]
 simp only[Option.bind]
 rw[e2]
 refine⟨_,rfl,?_⟩
 rw[o9 (by omega) (by omega),gw (by omega) (by omega)]
 omega
theorem adE (l:List Int) (n lo hi:Int) (h:l.length<=1048576) (hn:0<=n) (h0:0<=lo) (h1:lo<=hi) (h2:hi<=1048576):∃x,yh (l,n,lo,hi)=some x/\(lo<=x/\x<=hi):=by
 obtain⟨x,e,hx⟩:=apg l n h hn
 simp only[yh,Hq]
 rw[e]
 simp only[Option.ab,Option.bind]
 rw[pq (by omega) (by omega),gw (by omega) (by omega),TA hx.1 (by omega)]
 have a:=Int.emod_nonneg x (show hi - lo+1≠0 by omega)
 have b:=Int.emod_lt_of_pos x (show 0<hi - lo+1 by omega)
 refine⟨_,rfl,?_⟩
 rw[gw (by omega) (by omega)]
 omega
theorem aqu (l:List Int) (n:Int) (h:l.length<=1048576) (hn:0<=n):∃x,Bj (l,n)=some x/\x∈[(2:Int),3,7,101,1000003]:=by
 obtain⟨⟨l',i',k'⟩,e,hc⟩:=Na l n h hn
 obtain⟨x,⟨l1,i1,k1⟩,e1,hx,hc⟩:=aqj _ [(2:Int),3,7,101,1000003] hc (by simp) (by simp)
 simp only[Bj,Hp]
 rw[e]
 simp only[Option.ab,Option.bind,dw,List.length_cons,List.length_nil,Nat.le_refl,if_true,List.take]
 rw[e1]
 exact⟨_,rfl,hx⟩
end Go.Am
end
section
namespace Go.Am
def abo (x:Int×jL×jL):Prop:=dh x.1/\qc x.2.1/\qc x.2.2/\(x.2.1.1*x.2.2.1<=4096/\x.2.1.2.1*x.2.2.2.1<=4096)/\(x.2.1.1*x.2.2.1)*(x.2.1.2.1*x.2.2.2.1)<=1048576/\dD x.1 x.2.1.2.2/\dD x.1 x.2.2.2.2
instance (x:Int×jL×jL):Decidable (abo x):=by unfold abo;infer_instance
section
variable {p:Int} {r c s d:Nat} {A B:aO}
end
section
variable {p:Int} {n m:Nat} {a b a2 b2:List Int} {ms RN:List jL}
end
end Go.Am
end
section
namespace Go.Am
theorem Y7 (p:Int) (f g:Nat->Int):∀n,ic p f g n=sm n (fun t=>f t*g t)%p
 |0=>by simp[ic,sm]
 |n+1=>by simp only[ic,sm];rw[Y7 p f g n,Int.emod_add_emod]
theorem vL (c:Int) (f:Nat->Int):∀n,sm n (fun t=>c*f t)=c*sm n f
 |0=>by simp[sm]
 |n+1=>by simp only[sm];rw[vL c f n,Int.mul_add]
theorem adJ (c:Int) (f:Nat->Int) (n:Nat):sm n (fun t=>f t*c)=sm n f*c:=by
 rw[Int.mul_comm,<-vL]
 exact j9 fun i _=>Int.mul_comm _ _
theorem LA (f g:Nat->Int):∀n,sm n (fun t=>f t+g t)=sm n f+sm n g
 |0=>by simp[sm]
 |n+1=>by simp only[sm];rw[LA f g n];omega
theorem LB (f:Nat->Nat->Int) (m:Nat):∀n,sm n (fun i=>sm m (fun j=>f i j))=sm m (fun j=>sm n (fun i=>f i j))
 |0=>by simp only[sm];exact(Ds m fun _ _=>rfl).symm
 |n+1=>by simp only[sm];rw[LB f m n,<-LA]
end Go.Am
end
section
namespace Go.Am
abbrev Wd:=List Int
structure BI (p:Int) (n t:Nat) (S:List Wd×List Int) (q:List Wd):Prop where
 dl:S.2.length=S.1.length*n
 dp:dD p S.2
 kn:S.1.length<=n
 qo:∀w∈q,L6 t w/\w.length<=S.1.length
 wo:∀w∈S.1,L6 t w/\w.length<=n
section
variable {p:Int} {n:Nat} {s b:List Int} {ms:List jL}
theorem BI.no {S:List Wd×List Int} {w:Wd} {q:List Wd} (h:BI p n ms.length S (w::q)):BI p n ms.length S q:=⟨h.dl,h.dp,h.kn,fun v hv=>h.qo v (by simp[hv]),h.wo⟩
end
theorem asI {α:Type} {l:List α} {n:Nat} (h:n=l.length):dw l n=some l:=by subst h;unfold dw;rw[if_pos (Nat.le_refl _),List.take_length]
section
variable {p:Int} {n:Nat} {s b:List Int} {ms:List jL}
end
end Go.Am
end
section
namespace Go.Am
section
variable {p:Int} {n:Nat} {s b:List Int} {ms:List jL}
end
end Go.Am
end
section
namespace Go.Am
def adQ (x:Int×jL×jL):Prop:=dh x.1/\(0<=x.2.1.1/\x.2.1.1<=x.2.1.2.1/\x.2.1.2.1<=12)/\(0<=x.2.2.1/\x.2.2.1<=12)/\x.2.2.2.1=x.2.1.2.1/\(x.2.1.2.2.length=x.2.1.1.toNat*x.2.1.2.1.toNat/\x.2.2.2.2.length=x.2.2.1.toNat*x.2.1.2.1.toNat)/\dD x.1 x.2.1.2.2/\dD x.1 x.2.2.2.2
instance (x:Int×jL×jL):Decidable (adQ x):=by unfold adQ;infer_instance
end Go.Am
end
section
namespace Go.Am
end Go.Am
end
section
namespace Go.Am
end Go.Am
end
section
namespace Go.Am
def M9 (p:Int) (M:aO) (i j:Nat):Prop:=(M i j+M j i)%p=0/\(i=j->M i j=0)
instance (p:Int) (M:aO) (i j:Nat):Decidable (M9 p M i j):=by unfold M9;infer_instance
def XX (p:Int) (M:aO) (i:Nat):Prop:=∀j,j<i+1->M9 p M i j
instance (p:Int) (M:aO) (i:Nat):Decidable (XX p M i):=by unfold XX;infer_instance
end Go.Am
end
section
namespace Go.Am
def bI (p a b:Int):Prop:=∃q,a=b+p*q
theorem bI.refl (p a:Int):bI p a a:=⟨0,by simp⟩
theorem BO (p a:Int):bI p (a%p) a:=⟨-(a/p),by have:=Int.emod_add_mul_ediv a p;have e:=Int.mul_neg p (a/p);omega⟩
theorem bI.trans {p a b c:Int} (h:bI p a b) (h':bI p b c):bI p a c:=by
 obtain⟨q,rfl⟩:=h;obtain⟨q',rfl⟩:=h';exact⟨q'+q,by rw[Int.mul_add];omega⟩
theorem bI.symm {p a b:Int} (h:bI p a b):bI p b a:=by
 obtain⟨q,rfl⟩:=h;exact⟨-q,by rw[Int.mul_neg];omega⟩
theorem bI.add {p a b c d:Int} (h:bI p a b) (h':bI p c d):bI p (a+c) (b+d):=by
 obtain⟨q,rfl⟩:=h;obtain⟨q',rfl⟩:=h';exact⟨q+q',by grind⟩
theorem bI.mul {p a b c d:Int} (h:bI p a b) (h':bI p c d):bI p (a*c) (b*d):=by
 obtain⟨q,rfl⟩:=h;obtain⟨q',rfl⟩:=h';exact⟨q*d+b*q'+p*q*q',by grind⟩
theorem Zh {p a b:Int} (h:bI p a b) (ha:eN p a) (hb:eN p b):a=b:=by
 obtain⟨q,hq⟩:=h
 have h1:=ha.1;have h2:=ha.2;have h3:=hb.1;have h4:=hb.2
 have hp:0<p:=by omega
 rcases Int.lt_trichotomy q 0 with h|h|h
 ·have:p*q<=p*(-1):=Int.mul_le_mul_of_nonneg_left (by omega) (by omega)
  omega
 ·subst h;omega
 ·have:p*1<=p*q:=Int.mul_le_mul_of_nonneg_left (by omega) (by omega)
  omega
section
variable {p inv:Int} {n k:Nat} {A:aO}
end
end Go.Am
end
section
namespace Go.Am
section
variable {p:Int} {n:Nat} {M:aO}
end
section
variable {p:Int} {n:Nat} {M:aO}
end
end Go.Am
end
section
namespace Go.Am
end Go.Am
end
section
namespace Go.Am
section
variable {p:Int} {n m:Nat} {a b a2 b2:List Int} {ms RN:List jL}
theorem ads {α:Type} (l r:List α) (v x:α) (k:Nat) (hk:k=l.length):bR (l++v::r) k x=l++x::r:=by
 subst hk
 unfold bR
 rw[List.set_append_right _ _ (Nat.le_refl _),Nat.sub_self]
 rfl
end
end Go.Am
end
section
namespace Go.Am
def ox:Nat->List Int->List Int
 |0,l=>l
 |k+1,l=>if l.getD (k+1) 0<l.getD k 0 then ox k (bR (bR l (k+1) (l.getD k 0)) k (l.getD (k+1) 0)) else l
def fC (l:List Int):Nat->List Int
 |0=>l
 |i+1=>ox i (fC l i)
def G6:List Int->Option (List Int):=fun l=>if l.length<=12 then some (fC l l.length) else none
def DX:Int->Option Int:=fun x=>if 0<=x/\x<=18446744073709551615 then some ((Go.Lib.bitLen x.toNat:Nat):Int) else none
def x6:Int->Option Bool:=fun _=>some false
def DU:Int×Int->Option Bool:=fun x=>some (bG x.1 x.2)
def v9:List Int×Int×Int->Option (List Int):=fun x=>if x.2.1=0/\x.2.2=x.1.length/\x.1.length<=12 then some (fC x.1 x.1.length) else none
def Bg:List Int×Int×Int×Int->Option (List Int):=fun x=>v9 (x.1,x.2.1,x.2.2.1)
def Bf:List Int->Option (List Int):=G6
def Bb:List Int->Option (List Int):=G6
def afc:ao:=[(.one,[.int .u64])]
def ara:ao:=[(.one,[.int .i64])]
def anD:aQ:=[]
def HH:ao:=[(.one,[.int .i64])]
def TK:ao:=[(.one,[.bool])]
def amS:aQ:=[]
def HG:ao:=[(.one,[.int .i64]),(.one,[.int .i64])]
def TJ:ao:=[(.one,[.bool])]
def amR:aQ:=[]
def ID:ao:=[(.one,[.list [.int .i64]]),(.one,[.int .i64]),(.one,[.int .i64])]
def UA:ao:=[(.one,[.list [.int .i64]])]
def KO:aQ:=[[some .ae]]
def IE:ao:=[(.one,[.list [.int .i64]]),(.one,[.int .i64]),(.one,[.int .i64]),(.one,[.int .i64])]
def UB:ao:=[(.one,[.list [.int .i64]])]
def KP:aQ:=[[some .ae]]
def IC:ao:=[(.one,[.list [.int .i64]])]
def Uz:ao:=[(.one,[.list [.int .i64]])]
def KN:aQ:=[[some .ae]]
def Iy:ao:=[(.one,[.list [.int .i64]])]
def Uu:ao:=[(.one,[.list [.int .i64]])]
def anx:aQ:=[]
def Mo (NN:Nat):Int->(Option Bool):=
 (fun(i0:Int)=>
 some (gC i0 i0))
def Mn (NN:Nat):(Int×Int)->(Option Bool):=
 (fun((i0,i1):(Int×Int))=>
 (x6 i0).ab (fun b2=>
 ax (b2)
 ((x6 i1).ab (fun b3=>
 ax (dA b3)
 (some true)
 (some (bG i0 i1))))
 (some (bG i0 i1))))
def MX (NN:Nat):((List Int)×(Int×Int))->(Option (List Int)):=
 (fun((l0,i1,i2):((List Int)×(Int×Int)))=>
 (ai 0 (aa l0) (aa l0)).ab (fun _=>
 bM NN (fun(((i3,i4,i5),l6):((Int×(Int×Int))×(List Int)))=>
 ax (bG i5 i4)
 (ca ((ai 0 (aa l6) (aa l6)).ab (fun _=>
 bM NN (fun(((i7,i8,i9,cG),ct):((Int×(Int×(Int×Int)))×(List Int)))=>
 ax (bG i7 cG)
 ((fj cG (aa ct)).ab (fun QQ=>
 (dt ct (bj 0 QQ)).ab (fun eG=>
 (fj (iF .i64 cG 1) (aa ct)).ab (fun CF=>
 (dt ct (bj 0 CF)).ab (fun ii=>
 (DU (eG,ii)).ab (fun b16=>
 ax (b16)
 ((fj (iF .i64 cG 1) (aa ct)).ab (fun k17=>
 (dt ct (bj 0 k17)).ab (fun fw=>
 (fj cG (aa ct)).ab (fun k19=>
 (dt ct (bj 0 k19)).ab (fun iQ=>
 (fj cG (aa ct)).ab (fun Kx=>
 (dt ct (bj 0 Kx)).ab (fun ij=>
 (fj (iF .i64 cG 1) (aa ct)).ab (fun QS=>
 (dt (bR ct (bj 0 Kx) fw) (bj 0 QS)).ab (fun su=>
 (ai 0 (aa ct) (aa (bR (bR ct (bj 0 Kx) fw) (bj 0 QS) iQ))).ab (fun _=>
 some (Sum.inl ((i7,i8,i9,iF .i64 cG 1),bR (bR ct (bj 0 Kx) fw) (bj 0 QS) iQ))))))))))))
 (((ai 0 (aa ct) (aa ct)).ab (fun _=>
 some (Sum.inl ((i9,i7,i8),ct)))).ab (fun fI=>
 some (Sum.inr fI)))))))))
 (((ai 0 (aa ct) (aa ct)).ab (fun _=>
 some (Sum.inl ((i9,i7,i8),ct)))).ab (fun ik=>
 some (Sum.inr ik))))
 ((i3,i4,i5,i5),l6)))
 (fun((ky,oT,pT),jh)=>
 (ai 0 (aa jh) (aa jh)).ab (fun _=>
 some (Sum.inl ((oT,pT,bA .i64 ky 1),jh)))))
 (((qm (aa l6) (aa l0)).ab (fun _=>
 some l6)).ab (fun nk=>
 some (Sum.inr nk))))
 ((i1,i2,bA .i64 i1 1),l0)))
def MY (NN:Nat):((List Int)×(Int×(Int×Int)))->(Option (List Int)):=
 (fun((l0,i1,i2,i3):((List Int)×(Int×(Int×Int))))=>
 (ai 0 (aa l0) (aa l0)).ab (fun _=>
 bM NN (fun(((i4,i5,i6,b7,b8),l9):((Int×(Int×(Int×(Bool×Bool))))×(List Int)))=>
 ax (iW (iF .i64 i5 i4) (12:Int))
 ((ai 0 (aa l9) (aa l9)).ab (fun _=>
 (v9 (l9,i4,i5)).ab (fun fy=>
 ((qm (aa fy) (aa l0)).ab (fun _=>
 some fy)).ab (fun ct=>
 some (Sum.inr ct)))))
 (ax (cJ i6 (0:Int))
 (none)
 (ca (ax (dA b7)
 (none)
 ((ai 0 (aa l9) (aa l9)).ab (fun _=>
 some (Sum.inl ((b8,b7,iF .i64 i5 i4,i5,i4,i6),l9)))))
 (fun((Ya,Yb,e9,ii,fP,f8),kD)=>
 none))))
 ((i1,i2,i3,true,true),l0)))
def MU (NN:Nat):(List Int)->(Option (List Int)):=
 (fun(l0:(List Int))=>
 (DX (yH .u64 (aS (aa l0)))).ab (fun i1=>
 (ai 0 (aa l0) (aa l0)).ab (fun _=>
 (Bg (l0,(0:Int),aS (aa l0),i1)).ab (fun l2=>
 (qm (aa l2) (aa l0)).ab (fun _=>
 some l2)))))
def MS (NN:Nat):(List Int)->(Option (List Int)):=
 (fun(l0:(List Int))=>
 (kj l0).ab (fun l1=>
 (ai 0 (aa l1) (aa l1)).ab (fun _=>
 (Bf l1).ab (fun l2=>
 (dw l2 (aa l1)).ab (fun l3=>
 some l3)))))
theorem adA:∀(k:Nat) (l:List Int),(ox k l).length=l.length
 |0,_=>rfl
 |k+1,l=>by
  unfold ox
  split
  ·rw[adA k];simp[bR]
  ·rfl
theorem Aw (l:List Int):∀i,(fC l i).length=l.length
 |0=>rfl
 |i+1=>by unfold fC;rw[adA,Aw l i]
theorem adP {l:List Int} {k:Nat} (h:k<l.length):dt l (bj 0 k)=some (l.getD k 0):=by
 rw[hZ]
 show l[k]? =_
 rw[List.getD_eq_getElem?_getD,List.getElem?_eq_getElem h]
 rfl
theorem ar7 {l:List Int} {k:Nat} (v:Int) (h:k+1<l.length):dt (bR l (bj 0 (k+1)) v) (bj 0 k)=some (l.getD k 0):=by
 rw[hZ,hZ]
 show(l.set (k+1) v)[k]? =_
 rw[List.getElem?_set_ne (by omega),List.getD_eq_getElem?_getD,List.getElem?_eq_getElem (by omega)]
 rfl
theorem ar8 {l:List Int} {k:Nat} (v:Int) (h:k+1<l.length):dt (bR l (k+1) v) k=some (l.getD k 0):=by
 have:=ar7 v h
 rwa[hZ,hZ] at this
theorem adO {l:List Int} {k:Nat} (h:k<l.length):fj (k:Int) (aa l)=some k:=qE h
theorem asa {k:Nat} (h:k<=1000):iF .i64 ((k+1:Nat):Int) 1=(k:Int):=by rw[pq (by omega) (by omega)];omega
theorem ar9 {l:List Int} {k:Nat} (h:k+1<l.length):∃p q a b,l=p++a::b::q/\p.length=k/\l.getD k 0=a/\l.getD (k+1) 0=b:=by
 refine⟨l.take k,l.drop (k+2),l[k],l[k+1],?_,by rw[List.length_take];omega,?_,?_⟩
 ·have h1:=List.drop_eq_getElem_cons (l:=l) (i:=k) (by omega)
  have h2:=List.drop_eq_getElem_cons (l:=l) (i:=k+1) (by omega)
  rw[<-h2,<-h1,List.take_append_drop]
 ·rw[List.getD_eq_getElem?_getD,List.getElem?_eq_getElem (by omega)];rfl
 ·rw[List.getD_eq_getElem?_getD,List.getElem?_eq_getElem (by omega)];rfl
theorem adB:∀(k:Nat) (l:List Int),k<l.length->(ox k l).Perm l
 |0,_,_=>List.Perm.refl _
 |k+1,l,h=>by
  unfold ox
  split
  ·refine(adB k _ (by simp[bR];omega)).trans ?_
   obtain⟨p,q,a,b,e,hp,ha,hb⟩:=ar9 (l:=l) (k:=k) h
   rw[ha,hb]
   subst e
   have e1:bR (p++a::b::q) (k+1) a=p++a::a::q:=by
    have:=ads (p++[a]) q b a (k+1) (by simp[hp])
    simpa using this
   rw[e1,ads p (a::q) a b k hp.symm]
   exact(List.Perm.swap a b q).append_left p
  ·exact List.Perm.refl _
theorem adT (l:List Int):∀i,i<=l.length->(fC l i).Perm l
 |0,_=>List.Perm.refl _
 |i+1,h=>by unfold fC;exact(adB i _ (by rw[Aw];omega)).trans (adT l i (by omega))
theorem ag9 (x:Int) (y:Bool) (h:x6 x=some y):Mo aC x=some y:=by
 rw[<-h]
 simp[Mo,x6,gC]
theorem ag8 (x:Int×Int) (y:Bool) (h:DU x=some y):Mn aC x=some y:=by
 obtain⟨a,b⟩:=x
 rw[<-h]
 simp only[Mn,x6,cz]
 rw[aL (by rfl)]
 rfl
theorem ahX (x:List Int×Int×Int) (y:List Int) (h:v9 x=some y):MX aC x=some y:=by
 obtain⟨x,a,b⟩:=x
 simp only[v9] at h
 split at h
 ·rename_i hc
  rw[<-h]
  obtain⟨ha,hb,hl⟩:=hc
  try dsimp only at ha hb hl
  subst ha hb
  simp only[MX,cC,cz]
  rw[gw (by omega) (by omega)]
  have h0:fC x 1=x:=rfl
  by_cases hx:x.length=0
  ·rw[eH (fun i=>(((0:Int),(x.length:Int),(1:Int)),x)) 0 ?a1 ?a2 ?a3 (dk (by omega))]
   case a3=>rfl
   case a2=>
    dsimp only
    rw[aL (cN (by omega)),An rfl,hx]
    rfl
   case a1=>intro i hi;omega
  ·rw[eH (fun i=>(((0:Int),(x.length:Int),((i+1:Nat):Int)),fC x (i+1))) (x.length - 1) ?a1 ?a2 ?a3 (dk (by omega))]
   case a3=>rfl
   case a2=>
    dsimp only
    rw[aL (cN (by omega)),An (by show(fC x _).length=_;rw[Aw];rfl),show x.length - 1+1=x.length by omega]
    rfl
   case a1=>
    intro i hi
    dsimp only
    rw[aR (df (by omega))]
    try simp only[cC,cz]
    have hL:=Aw x (i+1)
    rw[abN (r:=Sum.inl ((((i+1:Nat):Int),(0:Int),(x.length:Int)),ox (i+1) (fC x (i+1)))) (fun m z=>∃l',z=(((0:Int),(x.length:Int),((i+1:Nat):Int),(m:Int)),l')/\l'.length=x.length/\m<x.length/\ox m l'=ox (i+1) (fC x (i+1))) ?b1 (i+1) _ ⟨_,rfl,hL,by omega,rfl⟩ aC (dk (by omega))]
    case b1=>
     rintro m z ⟨l',rfl,h1,h2,h3⟩
     dsimp only
     cases m with
     |zero=>
      left
      rw[aL (cN (by omega))]
      try simp only[cC,cz]
      rw[<-h3]
      rfl
     |succ m=>
      have hm:m<l'.length:=by omega
      have iy:m+1<l'.length:=by omega
      rw[aR (df (by omega)),asa (by omega),adO hm,adO iy]
      simp only[cz,adP hm,adP iy,DU]
      by_cases bK:l'.getD (m+1) 0<l'.getD m 0
      ·right
       rw[aR (df bK)]
       simp only[cz,hZ,ar8 _ iy]
       have e:ox (m+1) l'=ox m (bR (bR l' (m+1) (l'.getD m 0)) m (l'.getD (m+1) 0)):=if_pos bK
       rw[show ai 0 (aa l') (aa (bR (bR l' (m+1) (l'.getD m 0)) m (l'.getD (m+1) 0)))=some () from yW (by simp[aa,bR])]
       try simp only[cz]
       exact⟨m,_,by omega,rfl,_,rfl,by simpa[bR] using h1,by omega,by rw[<-e];exact h3⟩
      ·left
       rw[aL (cN (by omega))]
       try simp only[cC,cz]
       rw[<-h3,show ox (m+1) l'=l' from if_neg bK]
    simp only[ca,Option.bind,cC,cz]
    rw[gw (by omega) (by omega)]
    rfl
 ·cases h
theorem ahY (x:List Int×Int×Int×Int) (y:List Int) (h:Bg x=some y):MY aC x=some y:=by
 obtain⟨x,a,b,oY⟩:=x
 have h':v9 (x,a,b)=some y:=h
 simp only[Bg,v9] at h
 split at h
 ·rename_i hc
  injection h with h
  obtain⟨ha,hb,hl⟩:=hc
  try dsimp only at ha hb hl
  subst ha hb
  simp only[MY,cC,cz]
  rw[eH (fun _=>(((0:Int),(x.length:Int),oY,true,true),x)) 0 ?a1 ?a2 ?a3 (dk (by omega))]
  case a3=>rfl
  case a1=>intro i hi;omega
  case a2=>
   dsimp only
   rw[pq (by omega) (by omega),aR (xu (by omega))]
   try simp only[cC,cz]
   rw[h']
   try simp only[cz]
   rw[An (by rw[<-h];exact Aw x _)]
   try simp only[cz]
 ·cases h
theorem ahW (x:List Int) (y:List Int) (h:Bf x=some y):MU aC x=some y:=by
 simp only[Bf,G6] at h
 split at h
 ·rename_i hl
  rw[<-h]
  simp only[MU,cC]
  have hc:yH .u64 (aS (aa x))=(x.length:Int):=by
   show yH .u64 (x.length:Int)=_
   unfold yH
   simp[IntKind.wrap,IntKind.bits,IntKind.signed]
   omega
  rw[hc,show DX (x.length:Int)=some ((Go.Lib.bitLen ((x.length:Int).toNat):Nat):Int) from if_pos ⟨by omega,by omega⟩]
  try simp only[cz]
  rw[show Bg (x,(0:Int),aS (aa x),_)=some (fC x x.length) from if_pos ⟨rfl,rfl,hl⟩]
  try simp only[cz]
  rw[show qm (aa (fC x x.length)) (aa x)=some () from An (Aw x _)]
  try simp only[cz]
 ·cases h
theorem ahR (x:List Int) (y:List Int) (h:Bb x=some y):MS aC x=some y:=by
 simp only[Bb,G6] at h
 split at h
 ·rename_i hl
  rw[<-h]
  simp only[MS]
  rw[show kj x=some x from if_pos (by omega)]
  simp only[cz,cC]
  rw[show Bf x=some (fC x x.length) from if_pos hl]
  try simp only[cz]
  rw[asJ (n:=aa x) (Aw x _)]
  rfl
 ·cases h
end Go.Am
end
