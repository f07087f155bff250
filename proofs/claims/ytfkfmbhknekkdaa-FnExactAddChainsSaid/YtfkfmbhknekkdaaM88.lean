/- Mx, M1, M4, M5, M11, M22, M6, M7, M8, M9, M23, M24, M25, M31, Fm, M14, M15, M16, M17, M19, M33, M32, M34, M62, M64, M36, M18, M38, M48, M49, M50, M51, M52, M12, M20, M21, M53, M56, M65, M66, M67, M26, M27, M28, M68, M69, M70, M71, M72, M37, M41, M42, M73, M43, M10, M44, M74, M75, M76, M45, M77, M78, M79, M29, M80, M30, M81, M82, M83, M84, M85, M86, M87, M88: parts of the proof. No condition. -/
import Derived.Test.YtfkfmbhknekkdaaMT
import Derived.Lib.BitFns
set_option linter.unusedVariables false
set_option linter.unusedSimpArgs false
set_option linter.unusedSectionVars false
section
namespace Go.Am
def gf (r c:Nat) (M:Nat->Nat->Int):List Int:=(List.range (r*c)).map fun n=>M (n/c) (n%c)
def cV (c:Nat) (l:List Int):Nat->Nat->Int:=fun i j=>l.getD (i*c+j) 0
theorem mw {r c i j:Nat} (hi:i<r) (hj:j<c):i*c+j<r*c:=by
 have:(i+1)*c<=r*c:=Nat.mul_le_mul_right _ hi
 rw[Nat.add_mul] at this
 omega
theorem nq {c i j:Nat} (hj:j<c):(i*c+j)/c=i:=by
 rw[Nat.mul_comm,Nat.mul_add_div (by omega),Nat.div_eq_of_lt hj,Nat.add_zero]
theorem nr {c i j:Nat} (hj:j<c):(i*c+j)%c=j:=by
 rw[Nat.mul_comm,Nat.mul_add_mod,Nat.mod_eq_of_lt hj]
theorem Ko (r c:Nat) (M:Nat->Nat->Int):(gf r c M).length=r*c:=by simp[gf]
theorem Kn {r c i j:Nat} (M:Nat->Nat->Int) (hi:i<r) (hj:j<c):(gf r c M)[i*c+j]? =some (M i j):=by
 unfold gf
 rw[List.getElem?_map,List.getElem?_range (mw hi hj)]
 simp[nq hj,nr hj]
theorem Kp {r c:Nat} {l:List Int} (h:l.length=r*c):gf r c (cV c l)=l:=by
 apply List.ext_getElem?
 intro n
 unfold gf
 simp only[List.getElem?_map]
 by_cases hn:n<r*c
 ·rw[List.getElem?_range hn,List.getElem?_eq_getElem (by omega)]
  simp only[Option.map_some,cV]
  have:=Nat.div_add_mod n c
  rw[Nat.mul_comm] at this
  rw[this,List.getD_eq_getElem?_getD,List.getElem?_eq_getElem (by omega)]
  rfl
 ·rw[List.getElem?_eq_none (by simp;omega),List.getElem?_eq_none (by omega)]
  rfl
theorem Gu {r c i j:Nat} (M:Nat->Nat->Int) (hi:i<r) (hj:j<c):cV c (gf r c M) i j=M i j:=by
 unfold cV
 rw[List.getD_eq_getElem?_getD,Kn M hi hj]
 rfl
theorem VV {i c j:Nat} (hi:i<=1048576) (hc:c<=1048576) (hj:j<=1048576):aP .i64 (dc .i64 (i:Int) (c:Int)) (j:Int)=((i*c+j:Nat):Int):=by
 have h1:i*c<=1048576*1048576:=Nat.mul_le_mul hi hc
 have e:(i:Int)*(c:Int)=((i*c:Nat):Int):=by norm_cast
 rw[dc,Dh (by omega) (by omega),iY (by omega) (by omega),e]
 omega
theorem rm {i c:Nat} (hi:i<=1048576) (hc:c<=1048576):dc .i64 (i:Int) (c:Int)=((i*c:Nat):Int):=by
 have h1:i*c<=1048576*1048576:=Nat.mul_le_mul hi hc
 have e:(i:Int)*(c:Int)=((i*c:Nat):Int):=by norm_cast
 rw[dc,Dh (by omega) (by omega),e]
theorem acH {r c i j:Nat} (M:Nat->Nat->Int) (hi:i<r) (hj:j<c):dP (gf r c M) ((i*c+j:Nat):Int)=some (M i j):=by rw[ft,Kn M hi hj]
theorem qw {i:Nat} (h:i<=1048577):aP .i64 (i:Int) 1=((i+1:Nat):Int):=by rw[iY (by omega) (by omega)];omega
def eC (p:Int):Prop:=2<=p/\p<=1000003
instance (p:Int):Decidable (eC p):=inferInstanceAs (Decidable (2<=p/\p<=1000003))
def fE (p x:Int):Prop:=0<=x/\x<p
instance (p x:Int):Decidable (fE p x):=inferInstanceAs (Decidable (0<=x/\x<p))
theorem Bc {p:Int} (hp:eC p) (a:Int):fE p (a%p):=⟨Int.emod_nonneg _ (by have:=hp.1;omega),Int.emod_lt_of_pos _ (by have:=hp.1;omega)⟩
theorem fE.le {p x:Int} (h:fE p x):0<=x/\x<=p:=⟨h.1,Int.le_of_lt h.2⟩
theorem fE.s {p x:Int} (hp:eC p) (h:fE p x):0<=x/\x<=1000003000000:=⟨h.1,by have:=h.2;have:=hp.2;omega⟩
def tI (p:Int) (f g:Nat->Int):Nat->Int
 |0=>0
 |n+1=>(tI p f g n+f n*g n)%p
theorem aa4 {p:Int} (hp:eC p) (f g:Nat->Int):∀n,fE p (tI p f g n)
 |0=>⟨Int.le_refl _,by have:=hp.1;show(0:Int)<p;omega⟩
 |n+1=>Bc hp _
def Xa (p:Int) (k:Nat) (A B:Nat->Nat->Int):Nat->Nat->Int:=fun i j=>tI p (fun t=>A i t) (fun t=>B t j) k
def dW (p:Int) (r c:Nat) (M:Nat->Nat->Int):Prop:=∀i,i<r->∀j,j<c->fE p (M i j)
def fo (p:Int) (l:List Int):Prop:=∀x∈l,fE p x
instance (p:Int) (l:List Int):Decidable (fo p l):=inferInstanceAs (Decidable (∀x∈l,fE p x))
theorem AM {p:Int} {r c:Nat} {M:Nat->Nat->Int}:fo p (gf r c M)↔dW p r c M:=by
 constructor
 ·intro h i hi j hj
  exact h _ (List.mem_of_getElem? (Kn M hi hj))
 ·intro h x hx
  unfold gf at hx
  obtain⟨n,hn,rfl⟩:=List.mem_map.1 hx
  have hn:=List.mem_range.1 hn
  have hc:0<c:=by
   rcases Nat.eq_zero_or_pos c with h|h
   ·subst h;simp at hn
   ·exact h
  exact h _ ((Nat.div_lt_iff_lt_mul hc).2 hn) _ (Nat.mod_lt _ hc)
def wU (x:Int×Int×List Int):Prop:=(0<=x.1/\x.1<=4096)/\(0<=x.2.1/\x.2.1<=4096)/\(x.2.2.length:Int)=x.1*x.2.1/\x.2.2.length<=1048576
instance (x:Int×Int×List Int):Decidable (wU x):=by unfold wU;infer_instance
end Go.Am
end
section
namespace Go.Am
def nI:Int×Int×Int->Option Bool:=fun((a,b,c):Int×Int×Int)=>some (decide (b<=a/\a<=c))
def D7:ax:=[(.one,[.int .i64]),(.one,[.int .i64]),(.one,[.int .i64])]
def OA:ax:=[(.one,[.bool])]
def ahl:aJ:=[]
def It (NN:Nat):(Int×(Int×Int))->(Option Bool):=
 (fun((i0,i1,i2):(Int×(Int×Int)))=>
 aH (kP i1 i0)
 (some (kP i0 i2))
 (some false))
theorem acv (x:Int×Int×Int) (y:Bool) (h:nI x=some y):It bh x=some y:=by
 obtain⟨a,b,c⟩:=x
 rw[<-h]
 simp only[nI,It,kP]
 by_cases hc:b<=a<;>simp[hc,aH]
end Go.Am
end
section
namespace Go.Am
def nR (n:Int) (i:Nat):Bool:=decide ((i:Int)*i<=n)&&decide (n%(i:Int)=0)
def db (n:Int):Bool:=decide (2<=n/\n<=1000003)&& !((List.range' 2 999).any (nR n))
def xR:Int->Option Bool:=fun(n:Int)=>some (db n)
def xz:Int->Option Bool:=fun(n:Int)=>some (db n)
def Cb (m:Int) (v:Int):Bool:=decide (0<=v/\v<m)
def oL (m:Int) (l:List Int):Bool:=l.all (Cb m)
def xB:Int×List Int->Option Bool:=fun((m,l):Int×List Int)=>if l.length<=1048576 then some (oL m l) else none
def D6:ax:=[(.one,[.int .i64])]
def Oz:ax:=[(.one,[.bool])]
def ahk:aJ:=[]
def Dy:ax:=[(.one,[.int .i64])]
def N2:ax:=[(.one,[.bool])]
def agU:aJ:=[]
def DF:ax:=[(.one,[.int .i64]),(.one,[.list [.int .i64]])]
def N8:ax:=[(.one,[.bool])]
def agZ:aJ:=[]
def Is (NN:Nat):Int->(Option Bool):=
 (fun(i0:Int)=>
 cJ (cv NN (fun((i1,i2):(Int×Int))=>
 aH (kP (dc .i64 i2 i2) i1)
 (aH (kP i1 (1000003:Int))
 ((ru i1 i2).ah (fun i3=>
 aH (gd i3 (0:Int))
 (some (Sum.inr (Sum.inr false)))
 (some (Sum.inl (i1,aP .i64 i2 1)))))
 (some (Sum.inr (Sum.inl i1))))
 (some (Sum.inr (Sum.inl i1))))
 (i0,(2:Int)))
 (fun i4=>
 (nI (i4,(2:Int),(1000003:Int))).ah (fun b5=>
 some b5)))
def HW (NN:Nat):Int->(Option Bool):=
 (fun(i0:Int)=>
 aH (cr i0 (2:Int))
 (some false)
 (aH (cr (1000003:Int) i0)
 (some false)
 (cJ (cv NN (fun((i1,i2):(Int×Int))=>
 aH (kP (dc .i64 i2 i2) i1)
 ((ru i1 i2).ah (fun i3=>
 aH (gd i3 (0:Int))
 (some (Sum.inr (Sum.inr false)))
 (some (Sum.inl (i1,aP .i64 i2 1)))))
 (some (Sum.inr (Sum.inl ()))))
 (i0,(2:Int)))
 (fun _=>
 some true))))
def HZ (NN:Nat):(Int×(List Int))->(Option Bool):=
 (fun((i0,l1):(Int×(List Int)))=>
 cJ (cv NN (fun((i2,l3,i4,i5):(Int×((List Int)×(Int×Int))))=>
 aH (cr i5 i4)
 ((dP l3 i5).ah (fun i6=>
 aH (cr i6 (0:Int))
 (some (Sum.inr (Sum.inr false)))
 (aH (kP i2 i6)
 (some (Sum.inr (Sum.inr false)))
 (some (Sum.inl (i2,l3,i4,aP .i64 i5 1))))))
 (some (Sum.inr (Sum.inl ()))))
 (i0,l1,be (aa l1),(0:Int)))
 (fun _=>
 some true))
theorem nB {a b:Int} (h1: -9223372036854775808<=a*b) (h2:a*b<=9223372036854775807):dc .i64 a b=a*b:=Dh h1 h2
theorem CI {n:Int} {i:Nat} (hn:0<=n) (hi:0<i):ru n (i:Int)=some (n%(i:Int)):=by
 unfold ru
 rw[if_neg (by omega),Int.tmod_eq_emod_of_nonneg hn]
theorem PU {i j:Nat} (h:i<=j):(i:Int)*i<=(j:Int)*j:=by
 have:=Nat.mul_le_mul h h
 exact_mod_cast this
theorem Sj {X Y:Type} {f:X->Option (X⊕(Y⊕Bool))} (n:Int) (mk:Nat->X) (r:Y) (hn:n<=1000003)
  (h1:∀i:Nat,2<=i->i<=1001->(i:Int)*i<=n->n%(i:Int)=0->f (mk i)=some (.inr (.inr false)))
  (h2:∀i:Nat,2<=i->i<=1001->(i:Int)*i<=n->n%(i:Int)≠0->f (mk i)=some (.inl (mk (i+1))))
  (h3:∀i:Nat,2<=i->i<=1001->¬(i:Int)*i<=n->f (mk i)=some (.inr (.inl r))) {x0:X} (hx:x0=mk 2):
  cv bh f x0=some (if(List.range' 2 999).any (nR n)=true then .inr false else .inl r):=by
 subst hx
 have bU:∀(d i:Nat),2<=i->i+d=1001->∀N,d<N->cv N f (mk i)=some (if(List.range' i d).any (nR n)=true then .inr false else .inl r):=by
  intro d
  induction d with
  |zero=>
   intro i hi hd N hN
   obtain⟨N,rfl⟩:∃M,N=M+1:=⟨N - 1,by omega⟩
   have:i=1001:=by omega
   subst this
   rw[cv,h3 1001 (by omega) (by omega) (by omega)]
   rfl
  |succ d ih=>
   intro i hi hd N hN
   obtain⟨N,rfl⟩:∃M,N=M+1:=⟨N - 1,by omega⟩
   rw[List.range'_succ,List.any_cons]
   by_cases eU:(i:Int)*i<=n
   ·by_cases hm:n%(i:Int)=0
    ·rw[cv,h1 i hi (by omega) eU hm]
     simp[nR,eU,hm]
    ·rw[cv,h2 i hi (by omega) eU hm]
     simp only
     rw[ih (i+1) (by omega) (by omega) N (by omega),show nR n i=false by simp[nR,hm],Bool.false_or]
   ·rw[cv,h3 i hi (by omega) eU]
    have:(List.range' (i+1) d).any (nR n)=false:=by
     rw[List.any_eq_false]
     intro j hj
     have:=(List.mem_range'_1.1 hj).1
     have:=PU (show i<=j by omega)
     simp only[nR,Bool.and_eq_true,decide_eq_true_eq,not_and]
     intro h;omega
    simp only
    rw[this]
    simp[nR,eU]
 exact bU 999 2 (by omega) (by omega) bh (f8 (by omega))
theorem z9 {i:Nat} (h:i<=1001):0<=(i:Int)*i/\(i:Int)*i<=1002001:=by
 have h1:=PU h
 have h0:=PU (Nat.zero_le i)
 omega
theorem acu (x:Int) (y:Bool) (h:xR x=some y):Is bh x=some y:=by
 rw[<-h]
 simp only[xR,Is]
 by_cases hx:x<=1000003
 ·rw[Sj x (fun i=>(x,(i:Int))) x hx ?_ ?_ ?_ ?_]
  ·by_cases hd:(List.range' 2 999).any (nR x)=true
   ·rw[if_pos hd,F3,db,hd]
    simp
   ·rw[if_neg hd,lG,db]
    simp only[nI,bL]
    simp[hd]
  all_goals try simp only
  ·intro i h2 hi eU hm
   have hs:=z9 hi
   rw[nB (by omega) (by omega),bF (sR eU),bF (sR hx),CI (by omega) (by omega),bL,bF (tK hm)]
  ·intro i h2 hi eU hm
   have hs:=z9 hi
   rw[nB (by omega) (by omega),bF (sR eU),bF (sR hx),CI (by omega) (by omega),bL,bR (tJ hm),iY (by omega) (by omega)]
   rfl
  ·intro i h2 hi eU
   have hs:=z9 hi
   rw[nB (by omega) (by omega),bR (Cp (by omega))]
  ·rfl
 ·rw[mD (fun i=>(x,(i:Int)+2)) (r:=Sum.inl x) 0 (fun j hj=>by omega) ?_ ?_ (f8 (by omega))]
  ·rw[lG,db]
   simp only[nI,bL]
   have:¬(2<=x/\x<=1000003):=by omega
   simp[this]
  ·simp only
   rw[bF (sR (by rw[nB (by omega) (by omega)];omega)),bR (Cp (by omega))]
  ·rfl
theorem abX (x:Int) (y:Bool) (h:xz x=some y):HW bh x=some y:=by
 rw[<-h]
 simp only[xz,HW]
 by_cases h2:x<2
 ·rw[bF (fK h2),db,decide_eq_false (by omega)];rfl
 rw[bR (eV (by omega))]
 by_cases hx:1000003<x
 ·rw[bF (fK hx),db,decide_eq_false (by omega)];rfl
 rw[bR (eV (by omega))]
 rw[Sj x (fun i=>(x,(i:Int))) () (by omega) ?_ ?_ ?_ ?_]
 ·have hr:(2<=x/\x<=1000003):=by omega
  by_cases hd:(List.range' 2 999).any (nR x)=true
  ·rw[if_pos hd,F3,db,hd]
   simp
  ·rw[if_neg hd,lG,db]
   simp[hd,hr]
 all_goals try simp only
 ·intro i h2 hi eU hm
  have hs:=z9 hi
  rw[nB (by omega) (by omega),bF (sR eU),CI (by omega) (by omega),bL,bF (tK hm)]
 ·intro i h2 hi eU hm
  have hs:=z9 hi
  rw[nB (by omega) (by omega),bF (sR eU),CI (by omega) (by omega),bL,bR (tJ hm),iY (by omega) (by omega)]
  rfl
 ·intro i h2 hi eU
  have hs:=z9 hi
  rw[nB (by omega) (by omega),bR (Cp (by omega))]
 ·rfl
theorem ab3 (x:Int×List Int) (y:Bool) (h:xB x=some y):HZ bh x=some y:=by
 obtain⟨m,l⟩:=x
 simp only[xB] at h
 split at h
 ·rename_i hl
  rw[<-h]
  simp only[HZ]
  rw[Mx (mk:=fun i=>(m,l,be (aa l),(i:Int))) l (Cb m) (Sum.inr false) (Sum.inl ()) ?_ ?_ ?_ ?_ (f8 (by omega))]
  ·unfold oL
   cases l.all (Cb m)<;>rfl
  all_goals try simp only
  ·intro i a ha hp
   have hp:=of_decide_eq_true hp
   rw[bF (iA ha),ft,ha,bL,bR (eV (by omega)),bR (Cp (by omega)),kS ha (by omega)]
  ·intro i a ha hp
   have hp:=of_decide_eq_false hp
   rw[bF (iA ha),ft,ha,bL]
   by_cases h0:a<0
   ·rw[bF (fK h0)]
   ·rw[bR (eV (by omega)),bF (sR (by omega))]
  ·rw[bR (mE l)]
  ·rfl
 ·cases h
theorem e8 {m:Int} (h:db m=true):2<=m/\m<=1000003:=by
 simp only[db,Bool.and_eq_true,decide_eq_true_eq] at h
 exact h.1
end Go.Am
end
section
namespace Go.Am
def gW:List Int->Int
 |[]=>1
 |x::l=>x*gW l
def vF (fS:Int) (_:Nat) (a x:Int):Int:=min (a*x) (fS+1)
def yb (fS:Int) (l:List Int):Int:=qH (vF fS) 0 1 l
def YB (x:Int):Bool:=decide (0<=x/\x<=1048576)
def xS:List Int×Int->Option Int:=fun((l,fS):List Int×Int)=>if(0<=fS/\fS<=1048576)/\l.length<=1048576/\l.all YB=true then some (yb fS l) else none
def D8:ax:=[(.one,[.list [.int .i64]]),(.one,[.int .i64])]
def OB:ax:=[(.one,[.int .i64])]
def ahm:aJ:=[]
def Iu (NN:Nat):((List Int)×Int)->(Option Int):=
 (fun((l0,i1):((List Int)×Int))=>
 cJ (cv NN (fun((i2,i3,l4,i5,i6):(Int×(Int×((List Int)×(Int×Int)))))=>
 aH (cr i6 i5)
 ((dP l4 i6).ah (fun i7=>
 some (Sum.inl (i2,zz (dc .i64 i3 i7) (aP .i64 i2 1),l4,i5,aP .i64 i6 1))))
 (some (Sum.inr (Sum.inl i3))))
 (i1,(1:Int),l0,be (aa l0),(0:Int)))
 (fun i8=>
 some i8))
theorem zD {a x A B:Int} (h0:0<=a) (h1:a<=A) (h2:0<=x) (h3:x<=B):0<=a*x/\a*x<=A*B:=
 ⟨Int.mul_nonneg h0 h2,Int.mul_le_mul h1 h3 h2 (by omega)⟩
theorem acw (x:List Int×Int) (y:Int) (h:xS x=some y):Iu bh x=some y:=by
 obtain⟨l,fS⟩:=x
 simp only[xS] at h
 split at h
 ·rename_i hc
  obtain⟨Fs,hl,hs⟩:=hc
  rw[<-h]
  simp only[Iu]
  rw[agI l (fun(a:Int) i=>(fS,a,l,be (aa l),(i:Int))) (fun _ a=>0<=a/\a<=fS+1) (vF fS) (fun a=>Sum.inl a) ?_ ?_ (s:=1) ⟨by omega,by omega⟩ ?_ (f8 (by omega))]
  ·rfl
  all_goals try simp only
  ·intro i a x hx ha
   have y5:=of_decide_eq_true (List.all_eq_true.1 hs x (List.mem_of_getElem? hx))
   obtain⟨b1,b2⟩:=zD ha.1 (show a<=1048577 by omega) y5.1 y5.2
   rw[bF (iA hx),ft,hx,bL,nB (by omega) (by omega),iY (a:=fS) (by omega) (by omega),agM,kS hx (by omega)]
   refine⟨rfl,?_⟩
   unfold vF
   omega
  ·intro a _
   rw[bR (mE l)]
  ·rfl
 ·cases h
theorem XB:∀{l:List Int},(∀x∈l,1<=x)->1<=gW l
 |[],_=>by simp[gW]
 |x::l,h=>by
  have h1:=h x List.mem_cons_self
  have h2:=XB (l:=l) (fun x hx=>h x (List.mem_cons_of_mem _ hx))
  have:=Int.mul_le_mul h1 h2 (by omega) (by omega)
  simpa[gW] using this
theorem IW {fS:Int} (Fs:0<=fS):∀(l:List Int) (i:Nat) (a:Int),(∀x∈l,1<=x)->1<=a->a<=fS+1->qH (vF fS) i a l=min (a*gW l) (fS+1)
 |[],i,a,_,_,h2=>by simp only[qH,gW,Int.mul_one];omega
 |x::l,i,a,h,h1,h2=>by
  have hx:=h x List.mem_cons_self
  have hp:=XB (l:=l) (fun x hx=>h x (List.mem_cons_of_mem _ hx))
  have hax:=Int.mul_le_mul h1 hx (by omega) (by omega)
  rw[qH,IW Fs l (i+1) _ (fun x hx=>h x (List.mem_cons_of_mem _ hx)) (by unfold vF;omega) (by unfold vF;omega),gW,<-Int.mul_assoc]
  unfold vF
  generalize a*x=c at*
  by_cases hc:c<=fS+1
  ·rw[Int.min_eq_left hc]
  ·have e:min c (fS+1)=fS+1:=by omega
   rw[e]
   have k1:=Int.mul_le_mul_of_nonneg_left hp (show 0<=fS+1 by omega)
   have k2:=Int.mul_le_mul_of_nonneg_left hp (show 0<=c by omega)
   omega
theorem aat {fS:Int} (Fs:0<=fS) {l:List Int} (h:∀x∈l,1<=x):kP (yb fS l) fS=decide (gW l<=fS):=by
 unfold kP yb
 rw[IW Fs l 0 1 h (by omega) (by omega),Int.one_mul]
 by_cases hp:gW l<=fS
 ·rw[decide_eq_true hp,decide_eq_true (by omega)]
 ·rw[decide_eq_false hp,decide_eq_false (by omega)]
end Go.Am
end
section
namespace Go.Am
def fj (l:List Int) (v:Int):Nat:=l.findIdx fun a=>decide (a=v)
def Eh (L D:List Int) (j:Nat):Prop:=(0<=L.getD j 0/\L.getD j 0<=99)/\(1<=D.getD j 0/\D.getD j 0<=8)/\L.getD j 0∉L.take j
instance (L D:List Int) (j:Nat):Decidable (Eh L D j):=by unfold Eh;infer_instance
def aaf (L D:List Int):Bool:=decide (L.length<=12)&&(decide (L.length=D.length)&&decide (∀j,j<L.length->Eh L D j))
def Zl (L D:List Int):Int:=if aaf L D=true/\gW D<=4096 then gW D else -1
def Rx (m:Int) (D:List Int) (R:List (List Int)) (j:Nat):Prop:=((R.getD j []).length:Int)=D.getD j 0/\oL m (R.getD j [])=true
instance (m:Int) (D:List Int) (R:List (List Int)) (j:Nat):Decidable (Rx m D R j):=by unfold Rx;infer_instance
def IY (x:(List Int×List Int×List Int)×Int×List (List Int)):Prop:=(x.1.1.length<=1048576/\x.1.2.1.length<=1048576)/\x.2.2.length<=1048576/\∀l∈x.2.2,l.length<=1048576
instance (x:(List Int×List Int×List Int)×Int×List (List Int)):Decidable (IY x):=by unfold IY;infer_instance
theorem getD_some {α:Type} {l:List α} {j:Nat} (d:α) (h:j<l.length):l[j]? =some (l.getD j d):=by
 simp[List.getD,h]
theorem ai6 {l:List Int} {v:Int} {j:Nat} (h:j<fj l v):l[j]? ≠some v:=by
 intro e
 have hj:j<l.length:=(List.getElem?_eq_some_iff.1 e).1
 have:=List.not_of_lt_findIdx h
 rw[List.getElem?_eq_getElem hj] at e
 simp[Option.some.inj e] at this
theorem Xy {l:List Int} {v:Int} (h:fj l v<l.length):l[fj l v]? =some v:=by
 have:=List.findIdx_getElem (w:=h)
 rw[List.getElem?_eq_getElem h]
 exact congrArg some (of_decide_eq_true this)
theorem ai8 (l:List Int) (v:Int):fj l v<=l.length:=List.findIdx_le_length
def Ri (L D:List Int) (j:Nat):Prop:=Eh L D j/\gW (D.take (j+1))<=4096
instance (L D:List Int) (j:Nat):Decidable (Ri L D j):=by unfold Ri;infer_instance
end Go.Am
end
section
namespace Go.Am
def jo (m:Int) (s:Int×Int×Int×List Int):Bool:=decide (0<=s.1/\s.1<=32)&&(decide (0<=s.2.2.1/\s.2.2.1<=32)&&(decide (1<=s.2.1/\s.2.1<=8)&&(decide ((s.2.2.2.length:Int)=s.1*s.2.1*s.2.2.1)&&oL m s.2.2.2)))
def gB (m:Int) (_:Nat) (b:Int) (s:Int×Int×Int×List Int):Option Int:=if jo m s=true/\s.1=b then some s.2.2.1 else none
def AU (m:Int) (_:Nat) (st:Int×Int) (s:Int×Int×Int×List Int):Option (Int×Int):=if jo m s=true/\s.1=st.1 then some (s.2.2.1,st.2*s.2.1) else none
def bf (l:List (Int×Int×Int×List Int)):List Int:=l.map fun s=>s.2.1
def dS (x:Int×List (Int×Int×Int×List Int)):Bool:=match x with
 |(m,l)=>db m&&(decide (1<=l.length/\l.length<=8)&&(match dG (gB m) 0 1 l with
  |some b=>decide (b=1)&&decide (gW (bf l)<=4096)
  |none=>false))
def oY:Int×List (Int×Int×Int×List Int)->Option (List Int):=fun((m,l):Int×List (Int×Int×Int×List Int))=>if l.length<=1048576 then some (bf l) else none
def vp:Int×Int×Int×Int×List Int->Option Bool:=fun((m,s):Int×Int×Int×Int×List Int)=>if fk s<=1048576 then some (jo m s) else none
def qn:Int×List (Int×Int×Int×List Int)->Option Bool:=fun x=>if dR x<=1048576 then some (dS x) else none
def ql:Int×List (Int×Int×Int×List Int)->Option Bool:=fun x=>if dR x<=1048576 then some (dS x) else none
def Eb:ax:=[(.agg,[.int .i64,.list [.int .i64,.int .i64,.int .i64,.list [.int .i64]]])]
def OE:ax:=[(.one,[.list [.int .i64]])]
def ahp:aJ:=[]
def D5:ax:=[(.agg,[.int .i64,.list [.int .i64,.int .i64,.int .i64,.list [.int .i64]]])]
def Oy:ax:=[(.one,[.bool])]
def ahj:aJ:=[]
def DH:ax:=[(.one,[.int .i64]),(.agg,[.int .i64,.int .i64,.int .i64,.list [.int .i64]])]
def Oa:ax:=[(.one,[.bool])]
def ag1:aJ:=[]
def Dx:ax:=[(.agg,[.int .i64,.list [.int .i64,.int .i64,.int .i64,.list [.int .i64]]])]
def N1:ax:=[(.one,[.bool])]
def agT:aJ:=[]
def Ix (NN:Nat):(Int×(List (Int×(Int×(Int×(List Int))))))->(Option (List Int)):=
 (fun((i0,l1):(Int×(List (Int×(Int×(Int×(List Int)))))))=>
 cJ ((aI 0 0 (aa (([]:List Int)))).ah (fun _=>
 cv NN (fun(((l2,i3,i4),l5):(((List (Int×(Int×(Int×(List Int)))))×(Int×Int))×(List Int)))=>
 aH (cr i4 i3)
 ((dP l2 i4).ah (fun(i6,i7,i8,l9)=>
 (aI 0 (aa l5) (aa l5)).ah (fun _=>
 (d7 ((i7::([]:List Int))) 0 1).ah (fun jG=>
 (tO (bW (aa l5) (aa jG)) 8).ah (fun _=>
 (aI 0 (bW (aa l5) (aa jG)) (aa (g8 l5 jG))).ah (fun _=>
 some (Sum.inl ((l2,i3,aP .i64 i4 1),g8 l5 jG))))))))
 (((aI 0 (aa l5) (aa l5)).ah (fun _=>
 some (Sum.inl l5))).ah (fun uv=>
 some (Sum.inr uv))))
 ((l1,be (aa l1),(0:Int)),([]:List Int))))
 (fun j9=>
 (iT j9 (aa j9)).ah (fun kc=>
 some kc)))
def Ir (NN:Nat):(Int×(List (Int×(Int×(Int×(List Int))))))->(Option Bool):=
 (fun((i0,l1):(Int×(List (Int×(Int×(Int×(List Int)))))))=>
 (xR i0).ah (fun b2=>
 aH (fc b2)
 (some false)
 ((nI (be (aa l1),(1:Int),(8:Int))).ah (fun b3=>
 aH (fc b3)
 (some false)
 (cJ (cv NN (fun(((i4,l5,i6,i7),i8,l9):((Int×((List (Int×(Int×(Int×(List Int)))))×(Int×Int)))×(Int×(List (Int×(Int×(Int×(List Int))))))))=>
 aH (cr i7 i6)
 (cJ ((dP l5 i7).ah (fun(jg,gF,jh,kc)=>
 aH (fb jg i4)
 (some (Sum.inr (Sum.inr (Sum.inr false))))
 ((nI (gF,(1:Int),(8:Int))).ah (fun vE=>
 aH (fc vE)
 (some (Sum.inr (Sum.inr (Sum.inr false))))
 ((nI (jh,(0:Int),(32:Int))).ah (fun b15=>
 aH (fc b15)
 (some (Sum.inr (Sum.inr (Sum.inr false))))
 (aH (fb (be (aa kc)) (dc .i64 (dc .i64 jg gF) jh))
 (some (Sum.inr (Sum.inr (Sum.inr false))))
 (cJ (cv NN (fun(((gR,gm,mn,iP,q8,gG),(ni,zl),mq,j3,jF,uw):(((List (Int×(Int×(Int×(List Int)))))×(Int×(Int×((List Int)×(Int×Int)))))×((Int×(List (Int×(Int×(Int×(List Int))))))×(Int×(Int×(Int×(List Int)))))))=>
 aH (cr gG q8)
 ((dP iP gG).ah (fun q9=>
 (nI (q9,(0:Int),nG .i64 ni 1)).ah (fun b29=>
 aH (fc b29)
 (some (Sum.inr (Sum.inr (Sum.inr (Sum.inr (Sum.inr false))))))
 (some (Sum.inl ((gR,gm,mn,iP,q8,aP .i64 gG 1),(ni,zl),mq,j3,jF,uw))))))
 (some (Sum.inr (Sum.inl ((mn,gR,gm),(ni,zl),mq,j3,jF,uw)))))
 ((l5,i6,i7,kc,be (aa kc),(0:Int)),(i8,l9),jg,gF,jh,kc))
 (fun((wF,l31,mr),(wG,zr),ui,uj,y7,l38)=>
 some (Sum.inl ((wF,y7,l31,mr),wG,zr)))))))))))
 (fun((nk,sO,uz,ra),B8,l44)=>
 some (Sum.inl ((sO,uz,ra,aP .i64 nk 1),B8,l44))))
 (some (Sum.inr (Sum.inl (i4,i8,l9)))))
 (((1:Int),l1,be (aa l1),(0:Int)),i0,l1))
 (fun(np,kO,l47)=>
 aH (gd np (1:Int))
 ((oY (kO,l47)).ah (fun mB=>
 (d7 mB 0 (aa mB)).ah (fun ox=>
 (xS (ox,(4096:Int))).ah (fun wI=>
 some (kP wI (4096:Int))))))
 (some false)))))))
def H5 (NN:Nat):(Int×(Int×(Int×(Int×(List Int)))))->(Option Bool):=
 (fun((i0,i1,i2,i3,l4):(Int×(Int×(Int×(Int×(List Int))))))=>
 aH (cr i1 (0:Int))
 (some false)
 (aH (cr (32:Int) i1)
 (some false)
 (aH (cr i3 (0:Int))
 (some false)
 (aH (cr (32:Int) i3)
 (some false)
 (aH (cr i2 (1:Int))
 (some false)
 (aH (cr (8:Int) i2)
 (some false)
 (aH (gd (be (aa l4)) (dc .i64 (dc .i64 i1 i2) i3))
 ((xB (i0,l4)).ah (fun b5=>
 some b5))
 (some false))))))))
def HV (NN:Nat):(Int×(List (Int×(Int×(Int×(List Int))))))->(Option Bool):=
 (fun((i0,l1):(Int×(List (Int×(Int×(Int×(List Int)))))))=>
 (xz i0).ah (fun b2=>
 aH (fc b2)
 (some false)
 (aH (cr (be (aa l1)) (1:Int))
 (some false)
 (aH (cr (8:Int) (be (aa l1)))
 (some false)
 (cJ (cv NN (fun(((i3,i4,l5,i6,i7),i8,l9):((Int×(Int×((List (Int×(Int×(Int×(List Int)))))×(Int×Int))))×(Int×(List (Int×(Int×(Int×(List Int))))))))=>
 aH (cr i7 i6)
 ((dP l5 i7).ah (fun(jg,gF,jh,kc)=>
 (vp (i8,jg,gF,jh,kc)).ah (fun vE=>
 aH (fc vE)
 (some (Sum.inr (Sum.inr false)))
 (aH (fb jg i3)
 (some (Sum.inr (Sum.inr false)))
 (some (Sum.inl ((jh,dc .i64 i4 gF,l5,i6,aP .i64 i7 1),i8,l9)))))))
 (some (Sum.inr (Sum.inl (i3,i4)))))
 (((1:Int),(1:Int),l1,be (aa l1),(0:Int)),i0,l1))
 (fun(ng,nh)=>
 aH (gd ng (1:Int))
 (some (kP nh (4096:Int)))
 (some false)))))))
theorem SX (x:Int×List (Int×Int×Int×List Int)) (y:List Int) (h:oY x=some y):Ix bh x=some y:=by
 obtain⟨m,l⟩:=x
 simp only[oY] at h
 split at h
 ·rename_i hl
  rw[<-h]
  simp only[Ix]
  rw[show aI 0 0 (aa ([]:List Int))=some () from rfl,bL]
  rw[mD (fun i=>((l,be (aa l),(i:Int)),bf (l.take i))) (r:=Sum.inl (bf l)) l.length ?_ ?_ ?_ (f8 (by omega))]
  ·rw[lG,qg];rfl
  all_goals try simp only
  ·intro j hj
   obtain⟨⟨a,p,c,d⟩,hs⟩:∃e,l[j]? =some e:=⟨_,List.getElem?_eq_getElem hj⟩
   have e1:aa (bf (l.take j))=j:=by simp[aa,bf];omega
   have e2:g8 (bf (l.take j)) [p]=bf (l.take (j+1)):=by simp[g8,bf,List.take_add_one,hs]
   have e3:tO (bW j 1) 8=some ():=JA (by simp only[bW,fL];omega)
   rw[bF (iA hs),ft,hs,bL]
   simp only[e1,cQ,bL,aly,agF,show aa [p]=1 from rfl,e3,kS hs (by omega),e2]
  ·rw[bR (mE l),List.take_length]
   simp only[cQ,bL]
  ·rfl
 ·cases h
theorem ab5 (x:Int×Int×Int×Int×List Int) (y:Bool) (h:vp x=some y):H5 bh x=some y:=by
 obtain⟨m,a,p,c,l⟩:=x
 simp only[vp] at h
 split at h
 ·rename_i hl
  rw[<-h]
  have hl:l.length<=1048576:=hl
  simp only[H5,jo]
  by_cases h1:a<0
  ·rw[bF (fK h1),decide_eq_false (p:=0<=a/\a<=32) (by omega)];rfl
  rw[bR (eV (by omega))]
  by_cases h2:32<a
  ·rw[bF (fK h2),decide_eq_false (p:=0<=a/\a<=32) (by omega)];rfl
  rw[bR (eV (by omega)),decide_eq_true (p:=0<=a/\a<=32) (by omega),Bool.true_and]
  by_cases h3:c<0
  ·rw[bF (fK h3),decide_eq_false (p:=0<=c/\c<=32) (by omega)];rfl
  rw[bR (eV (by omega))]
  by_cases h4:32<c
  ·rw[bF (fK h4),decide_eq_false (p:=0<=c/\c<=32) (by omega)];rfl
  rw[bR (eV (by omega)),decide_eq_true (p:=0<=c/\c<=32) (by omega),Bool.true_and]
  by_cases h5:p<1
  ·rw[bF (fK h5),decide_eq_false (p:=1<=p/\p<=8) (by omega)];rfl
  rw[bR (eV (by omega))]
  by_cases h6:8<p
  ·rw[bF (fK h6),decide_eq_false (p:=1<=p/\p<=8) (by omega)];rfl
  rw[bR (eV (by omega)),decide_eq_true (p:=1<=p/\p<=8) (by omega),Bool.true_and]
  obtain⟨b1,b2⟩:=zD (a:=a) (x:=p) (A:=32) (B:=8) (by omega) (by omega) (by omega) (by omega)
  obtain⟨b3,b4⟩:=zD (a:=a*p) (x:=c) (A:=32*8) (B:=32) (by omega) (by omega) (by omega) (by omega)
  rw[nB (a:=a) (by omega) (by omega),nB (by omega) (by omega),show xB (m,l)=some (oL m l) from if_pos hl]
  by_cases h5:(l.length:Int)=a*p*c
  ·rw[bF (show gd (be (aa l)) _=true from tK h5),decide_eq_true h5];rfl
  ·rw[bR (show gd (be (aa l)) _=false from tJ h5),decide_eq_false h5];rfl
 ·cases h
theorem tc {m a p c:Int} {l:List Int} (h:jo m (a,p,c,l)=true):(0<=a/\a<=32)/\(0<=c/\c<=32)/\(1<=p/\p<=8)/\(l.length:Int)=a*p*c/\oL m l=true:=by
 simp only[jo,Bool.and_eq_true,decide_eq_true_eq] at h
 exact⟨h.1,h.2.1,h.2.2.1,h.2.2.2.1,h.2.2.2.2⟩
theorem RB {m:Int}:∀{l:List (Int×Int×Int×List Int)} {i:Nat} {b c:Int},dG (gB m) i b l=some c->∀x∈bf l,1<=x/\x<=8
 |[],_,_,_,_,x,hx=>by cases hx
 |(a,p,r,d)::l,i,b,c,h,x,hx=>by
  rw[dG] at h
  cases hs:gB m i b (a,p,r,d) with
  |none=>rw[hs] at h;cases h
  |some b'=>
   rw[hs] at h
   simp only[gB] at hs
   split at hs
   ·rename_i hc
    have hp:=(tc hc.1).2.2.1
    rcases List.mem_cons.1 hx with rfl|hx
    ·exact hp
    ·exact RB h x hx
   ·cases hs
theorem Rz {m:Int}:∀(l:List (Int×Int×Int×List Int)) (i:Nat) (b z:Int),dG (AU m) i (b,z) l=(dG (gB m) i b l).map fun c=>(c,z*gW (bf l))
 |[],i,b,z=>by simp[dG,bf,gW]
 |s::l,i,b,z=>by
  rw[dG,dG]
  simp only[AU,gB]
  by_cases hc:jo m s=true/\s.1=b
  ·rw[if_pos hc,if_pos hc]
   simp only
   rw[Rz l (i+1)]
   simp only[bf,List.map_cons,gW,Int.mul_assoc]
  ·rw[if_neg hc,if_neg hc]
   rfl
theorem Ag {m:Int} {l:List (Int×Int×Int×List Int)} (h:dR (m,l)<=1048576):l.length<=1048576/\∀e∈l,fk e<=1048576:=Qg h
theorem ajb {i:Nat} (h:i<=8):(8:Int)^i<=16777216:=by
 have h1:(8:Nat)^i<=16777216:=Nat.le_trans (Nat.pow_le_pow_right (by decide) h) (by decide)
 have h2:((8^i:Nat):Int)=(8:Int)^i:=by norm_cast
 rw[<-h2]
 omega
theorem abW (x:Int×List (Int×Int×Int×List Int)) (y:Bool) (h:ql x=some y):HV bh x=some y:=by
 obtain⟨m,l⟩:=x
 simp only[ql] at h
 split at h
 ·rename_i hl
  rw[<-h]
  obtain⟨hlen,cU⟩:=Ag hl
  simp only[HV,xz,bL,dS]
  cases hp:db m with
  |false=>rfl
  |true=>
   have hm:=e8 hp
   rw[bR (by rfl),Bool.true_and]
   by_cases h2:l.length<1
   ·rw[bF (fK (by have:=nl l;omega)),decide_eq_false (by omega)];rfl
   rw[bR (eV (by have:=nl l;omega))]
   by_cases h3:8<l.length
   ·rw[bF (fK (by have:=nl l;omega)),decide_eq_false (by omega)];rfl
   rw[bR (eV (by have:=nl l;omega)),decide_eq_true (by omega),Bool.true_and]
   rw[Ga l (fun(st:Int×Int) i=>((st.1,st.2,l,be (aa l),(i:Int)),m,l)) (fun i st=>0<=st.2/\st.2<=(8:Int)^i) (AU m) (Sum.inr false) (fun st=>Sum.inl st) ?_ ?_ ?_ (s:=(1,1)) ⟨by decide,by decide⟩ ?_ (f8 (by omega))]
   ·rw[Rz]
    cases hf:dG (gB m) 0 1 l with
    |none=>rfl
    |some c=>
     simp only[Option.map_some,Int.one_mul]
     rw[lG]
     simp only
     by_cases hc:c=1
     ·rw[bF (tK hc),decide_eq_true hc,Bool.true_and];rfl
     ·rw[bR (tJ hc),decide_eq_false hc,Bool.false_and]
   all_goals try simp only
   ·rintro i ⟨b,z⟩ ⟨a,p,c,d⟩ P4 hi hz hs
    simp only[AU] at hs
    split at hs
    ·rename_i hc
     injection hs with hs
     subst hs
     obtain⟨t1,t2,t3,t4,t5⟩:=tc hc.1
     have d8:a=b:=hc.2
     have hi8:i<=8:=by have:=zx hi;omega
     have h8:=ajb hi8
     obtain⟨b1,b2⟩:=zD hz.1 hz.2 (show 0<=p by omega) t3.2
     simp only at b1 b2
     refine⟨?_,b1,?_⟩
     ·rw[bF (iA hi),ft,hi,bL]
      simp only
      rw[show vp (m,a,p,c,d)=some (jo m (a,p,c,d)) from if_pos (cU _ (List.mem_of_getElem? hi)),bL,hc.1,bR (by rfl),bR (oA d8),nB (by omega) (by omega),kS hi (by omega)]
     ·rw[Int.pow_succ];exact b2
    ·cases hs
   ·rintro i ⟨b,z⟩ ⟨a,p,c,d⟩ hi hz hs
    simp only[AU] at hs
    split at hs
    ·cases hs
    ·rename_i hc
     rw[bF (iA hi),ft,hi,bL]
     simp only
     rw[show vp (m,a,p,c,d)=some (jo m (a,p,c,d)) from if_pos (cU _ (List.mem_of_getElem? hi)),bL]
     cases h1:jo m (a,p,c,d) with
     |false=>rw[bF (by rfl)]
     |true=>
      rw[bR (by rfl),bF (pW (fun e=>hc ⟨h1,e⟩))]
   ·rintro⟨b,z⟩ _
    simp only
    rw[bR (mE l)]
   ·rfl
 ·cases h
theorem My {X Y α S:Type} {f:X->Option (X⊕Y)} (es:List α) (mk:S->Nat->X) (I:Nat->S->Prop) (step:Nat->S->α->Option S) (o9:Y) (dA:S->Y)
  (h1:∀i s a,es[i]? =some a->I i s->f (mk s i)=some (match step i s a with|some s'=>.inl (mk s' (i+1))|none=>.inr o9))
  (hI:∀i s a s',es[i]? =some a->I i s->step i s a=some s'->I (i+1) s')
  (h3:∀s,I es.length s->f (mk s es.length)=some (.inr (dA s))) {s:S} (h0:I 0 s) {x0:X} (hx:x0=mk s 0) {N:Nat} (hN:es.length<N):
  cv N f x0=some (match dG step 0 s es with|some s'=>dA s'|none=>o9):=
 Ga es mk I step o9 dA (fun i s a s' ha hi hs=>⟨by rw[h1 i s a ha hi,hs],hI i s a s' ha hi hs⟩) (fun i s a ha hi hs=>by rw[h1 i s a ha hi,hs]) h3 h0 hx hN
theorem aaz {m b a p c:Int} {l:List Int} {i:Nat} (h:jo m (a,p,c,l)=true) (e:a=b):gB m i b (a,p,c,l)=some c:=if_pos ⟨h,e⟩
theorem AV {m b a p c:Int} {l:List Int} {i:Nat} (h:¬(jo m (a,p,c,l)=true/\a=b)):gB m i b (a,p,c,l)=none:=if_neg h
theorem acs (x:Int×List (Int×Int×Int×List Int)) (y:Bool) (h:qn x=some y):Ir bh x=some y:=by
 obtain⟨m,l⟩:=x
 simp only[qn] at h
 split at h
 ·rename_i hl
  rw[<-h]
  obtain⟨hlen,cU⟩:=Ag hl
  simp only[Ir,xR,nI,bL,dS]
  cases hp:db m with
  |false=>rfl
  |true=>
   have hm:=e8 hp
   rw[bR (by rfl),Bool.true_and]
   by_cases h2:1<=l.length/\l.length<=8
   rotate_left
   ·rw[bF (Gs (by have:=nl l;omega)),decide_eq_false h2];rfl
   rw[bR (Gt (by have:=nl l;omega)),decide_eq_true h2,Bool.true_and]
   rw[My l (fun(b:Int) i=>((b,l,be (aa l),(i:Int)),m,l)) (fun i b=>0<=b/\b<=32) (gB m) (Sum.inr false) (fun b=>Sum.inl (b,m,l)) ?_ ?_ ?_ (s:=1) ⟨by decide,by decide⟩ ?_ (f8 (by omega))]
   ·cases hf:dG (gB m) 0 1 l with
    |none=>rfl
    |some c=>
     have hd:=RB hf
     rw[lG]
     simp only
     by_cases hc:c=1
     ·rw[bF (tK hc),decide_eq_true hc,Bool.true_and]
      rw[show oY (m,l)=some (bf l) from if_pos hlen,bL,ti,bL]
      have hsm:(bf l).all YB=true:=List.all_eq_true.2 fun x hx=>decide_eq_true ⟨by have:=hd x hx;omega,by have:=hd x hx;omega⟩
      rw[show xS (bf l,4096)=some (yb 4096 (bf l)) from if_pos ⟨by decide,by simp[bf];omega,hsm⟩,bL,aat (by decide) fun x hx=>(hd x hx).1]
     ·rw[bR (tJ hc),decide_eq_false hc];rfl
   all_goals try simp only
   ·rintro i b ⟨a,p,c,d⟩ hi hb
    have Fi:d.length<=1048576:=cU _ (List.mem_of_getElem? hi)
    rw[bF (iA hi),ft,hi,bL]
    simp only
    by_cases q1:a=b
    rotate_left
    ·rw[bF (pW q1),AV (fun h=>q1 h.2)];rfl
    rw[bR (oA q1)]
    by_cases q2:1<=p/\p<=8
    rotate_left
    ·rw[bF (Gs q2),AV (fun h=>q2 (tc h.1).2.2.1)];rfl
    rw[bR (Gt q2)]
    by_cases q3:0<=c/\c<=32
    rotate_left
    ·rw[bF (Gs q3),AV (fun h=>q3 (tc h.1).2.1)];rfl
    rw[bR (Gt q3)]
    obtain⟨b1,b2⟩:=zD (a:=a) (x:=p) (A:=32) (B:=8) (by omega) (by omega) (by omega) (by omega)
    obtain⟨b3,b4⟩:=zD (a:=a*p) (x:=c) (A:=32*8) (B:=32) (by omega) (by omega) (by omega) (by omega)
    rw[nB (a:=a) (by omega) (by omega),nB (by omega) (by omega)]
    by_cases q4:(d.length:Int)=a*p*c
    rotate_left
    ·rw[bF (show fb (be (aa d)) _=true from pW q4),AV (fun h=>q4 (tc h.1).2.2.2.1)];rfl
    rw[bR (show fb (be (aa d)) _=false from oA q4)]
    rw[Mx (mk:=fun(j:Nat)=>((l,be (aa l),(i:Int),d,be (aa d),(j:Int)),(m,l),a,p,c,d)) d (Cb m) (Sum.inr (Sum.inr (Sum.inr (Sum.inr false)))) (Sum.inl (((i:Int),l,be (aa l)),(m,l),a,p,c,d)) ?_ ?_ ?_ ?_ (f8 (by omega))]
    ·cases hr:d.all (Cb m) with
     |false=>rw[AV (fun h=>by have:=(tc h.1).2.2.2.2;rw[oL,hr] at this;cases this)];rfl
     |true=>
      rw[aaz (by simp only[jo,oL,hr,Bool.and_true,Bool.and_eq_true,decide_eq_true_eq];exact⟨by omega,q3,q2,q4⟩) q1]
      simp only[if_true,lG]
      rw[kS hi (by omega)]
    all_goals try simp only
    ·intro j x hx hp
     have hp:=of_decide_eq_true hp
     rw[bF (iA hx),ft,hx,bL,Ac (by omega) (by omega),bR (Gt (by omega)),kS hx (by omega)]
    ·intro j x hx hp
     have hp:=of_decide_eq_false hp
     rw[bF (iA hx),ft,hx,bL,Ac (by omega) (by omega),bF (Gs (by omega))]
    ·rw[bR (mE d)]
    ·rfl
   ·rintro i b ⟨a,p,c,d⟩ s' hi hb hs
    simp only[gB] at hs
    split at hs
    ·rename_i hc
     injection hs with hs
     subst hs
     exact(tc hc.1).2.1
    ·cases hs
   ·intro b _
    rw[bR (mE l)]
   ·rfl
 ·cases h
end Go.Am
end
section
namespace Go.Am
def Xh (x:Int×Int):Prop:=(0<=x.1/\x.1<=4096)/\(0<=x.2/\x.2<=4096)/\x.1*x.2<=1048576
instance (x:Int×Int):Decidable (Xh x):=by unfold Xh;infer_instance
def di (M:Nat->Nat->Int) (a b:Nat):Nat->Nat->Int:=fun i j=>if i=a then M b j else if i=b then M a j else M i j
def oC (M:Nat->Nat->Int) (j:Nat):Nat->Nat->Option Nat
 |0,_=>none
 |d+1,k=>if M k j=0 then oC M j d (k+1) else some k
def pQ (p out x:Int) (n:Nat):Int:=if h:n=0 then out else pQ p (if n%2=1 then out*x%p else out) (x*x%p) (n/2)
termination_by n
decreasing_by omega
def rG (M:Nat->Nat->Int):Nat->Nat->Int:=fun i j=>M j i
def Xb (x:Int×(Int×Int×List Int)×(Int×Int×List Int)):Prop:=eC x.1/\wU x.2.1/\wU x.2.2/\x.2.1.2.1=x.2.2.1/\x.2.1.1*x.2.2.2.1<=1048576/\fo x.1 x.2.1.2.2/\fo x.1 x.2.2.2.2
instance (x:Int×(Int×Int×List Int)×(Int×Int×List Int)):Decidable (Xb x):=by unfold Xb;infer_instance
theorem Gz {M:Nat->Nat->Int} {j q:Nat}:∀{d k:Nat},oC M j d k=some q->k<=q/\q<k+d/\M q j≠0
 |0,k,h=>by cases h
 |d+1,k,h=>by
  simp only[oC] at h
  split at h
  ·have:=Gz h
   exact⟨by omega,by omega,this.2.2⟩
  ·rename_i h0
   injection h with h
   subst h
   exact⟨by omega,by omega,h0⟩
theorem afh (p out x:Int):pQ p out x 0=out:=by rw[pQ];rfl
theorem afj {n:Nat} (h:n≠0) (p out x:Int):pQ p out x n=pQ p (if n%2=1 then out*x%p else out) (x*x%p) (n/2):=by
 rw[pQ,dif_neg h]
end Go.Am
end
section
namespace Go.Am
def YG (x:Int×Int×Int):Prop:=db x.1=true/\(1<=x.2.1/\x.2.1<=8)/\(1<=x.2.2/\x.2.2<=8)
instance (x:Int×Int×Int):Decidable (YG x):=by unfold YG;infer_instance
theorem o8 {x y:Nat} (h:x+y<=1099511627776):aP .i64 (x:Int) (y:Int)=((x+y:Nat):Int):=by
 rw[iY (by omega) (by omega)]
 omega
end Go.Am
end
section
namespace Go.Am
abbrev aV:=Nat->Nat->Int
def s8 (p inv:Int) (M:aV) (t:Nat):aV:=fun a b=>if a=t then M t b*inv%p else M a b
def fZ (p:Int) (M:aV) (t j n:Nat):aV:=fun a b=>if a<n/\a≠t then(M a b+(p - M a j)*M t b)%p else M a b
def rr (p:Int) (M:aV) (t j k:Nat):aV:=s8 p (pQ p 1 (di M t k t j) (p - 2).toNat) (di M t k) t
def NM (p:Int) (M:aV) (t j k:Nat) (d:Int):Int:=(if k=t then d else(p - d)%p)*di M t k t j%p
def kU (p:Int) (r:Nat) (s:aV×List Int×Int) (j:Nat):aV×List Int×Int:=
 if s.2.1.length<r then
  match oC s.1 j (r - s.2.1.length) s.2.1.length with
  |none=>s
  |some k=>(fZ p (rr p s.1 s.2.1.length j k) s.2.1.length j r,s.2.1++[(j:Int)],NM p s.1 s.2.1.length j k s.2.2)
 else s
def cE (p:Int) (r:Nat) (M:aV):Nat->aV×List Int×Int
 |0=>(M,[],1)
 |j+1=>kU p r (cE p r M j) j
def XQ (x:Int×Int×Int×List Int):Prop:=eC x.1/\wU x.2/\fo x.1 x.2.2.2
instance (x:Int×Int×Int×List Int):Decidable (XQ x):=by unfold XQ;infer_instance
def w5 (x:Int×Int×Int×List Int):aV×List Int×Int:=cE x.1 x.2.1.toNat (cV x.2.2.1.toNat x.2.2.2) x.2.2.1.toNat
theorem Qc {p:Int} {r c:Nat} {M:aV} (hM:dW p r c M) {a b:Nat} (ha:a<r) (hb:b<r):dW p r c (di M a b):=by
 intro i hi j hj
 unfold di
 split
 ·exact hM b hb j hj
 ·split
  ·exact hM a ha j hj
  ·exact hM i hi j hj
theorem Yj {p inv:Int} {r c:Nat} {M:aV} (hp:eC p) (hM:dW p r c M) (t:Nat):dW p r c (s8 p inv M t):=by
 intro i hi j hj
 unfold s8
 split
 ·exact Bc hp _
 ·exact hM i hi j hj
theorem aaG {p:Int} {r c:Nat} {M:aV} (hp:eC p) (hM:dW p r c M) (t k n:Nat):dW p r c (fZ p M t k n):=by
 intro i hi j hj
 unfold fZ
 split
 ·exact Bc hp _
 ·exact hM i hi j hj
theorem ail {p:Int} (hp:eC p):fE p 1:=⟨by omega,by have:=hp.1;omega⟩
theorem ai5 {p:Int} {r c:Nat} {M:aV} (hp:eC p) (hM:dW p r c M) {t k:Nat} (ht:t<r) (hk:k<r) (j:Nat):dW p r c (rr p M t j k):=Yj hp (Qc hM ht hk) t
structure RI (p:Int) (r c:Nat) (s:aV×List Int×Int) (j:Nat):Prop where
 m:dW p r c s.1
 l:s.2.1.length<=r
 lj:s.2.1.length<=j
 d:fE p s.2.2
 e:∀x∈s.2.1,0<=x/\x<(j:Int)
theorem RI.step {p:Int} {r c:Nat} {s:aV×List Int×Int} {j:Nat} (hp:eC p) (h:RI p r c s j):RI p r c (kU p r s j) (j+1):=by
 have eI:RI p r c s (j+1):=⟨h.m,h.l,by have:=h.lj;omega,h.d,fun x hx=>by have:=h.e x hx;omega⟩
 unfold kU
 split
 ·rename_i hl
  split
  ·exact eI
  ·rename_i k hk
   have hq:=Gz hk
   refine⟨aaG hp (ai5 hp h.m hl (by omega) j) _ _ _,?_,?_,Bc hp _,?_⟩
   ·simp only[List.length_append,List.length_cons,List.length_nil];omega
   ·have:=h.lj
    simp only[List.length_append,List.length_cons,List.length_nil];omega
   ·intro x hx
    simp only[List.mem_append,List.mem_singleton] at hx
    rcases hx with hx|rfl
    ·have:=h.e x hx;omega
    ·omega
 ·exact eI
theorem oG {p:Int} {r c:Nat} {M:aV} (hp:eC p) (hM:dW p r c M):∀j,RI p r c (cE p r M j) j
 |0=>⟨hM,Nat.zero_le _,Nat.le_refl 0,ail hp,fun x hx=>absurd hx (List.not_mem_nil)⟩
 |j+1=>(oG hp hM j).step hp
theorem aaF {p:Int} (M:aV) (t j:Nat):fZ p M t j 0=M:=by funext a b;exact if_neg (by omega)
theorem aaH {p:Int} (M:aV) (t j n b:Nat):fZ p M t j n n b=M n b:=if_neg (by omega)
theorem aaJ {p:Int} (M:aV) (t j n b:Nat):fZ p M t j n t b=M t b:=if_neg (by omega)
theorem aaI {p:Int} (M:aV) (t j:Nat):fZ p M t j (t+1)=fZ p M t j t:=by
 funext a b
 unfold fZ
 by_cases h:a<t
 ·rw[if_pos (by omega),if_pos (by omega)]
 ·rw[if_neg (by omega),if_neg (by omega)]
theorem NF {M:aV} {j:Nat}:∀{d k:Nat},oC M j d k=none->∀i,k<=i->i<k+d->M i j=0
 |0,k,_,i,h1,h2=>by omega
 |d+1,k,h,i,h1,h2=>by
  simp only[oC] at h
  split at h
  ·rename_i h0
   by_cases hi:i=k
   ·rw[hi];exact h0
   ·exact NF h i (by omega) (by omega)
  ·cases h
theorem Xx {M:aV} {j q:Nat}:∀{d k:Nat},oC M j d k=some q->∀i,k<=i->i<q->M i j=0
 |0,k,h,i,h1,h2=>by cases h
 |d+1,k,h,i,h1,h2=>by
  simp only[oC] at h
  split at h
  ·rename_i h0
   by_cases hi:i=k
   ·rw[hi];exact h0
   ·exact Xx h i (by omega) h2
  ·have:=Option.some.inj h;omega
theorem XR {p:Int} {r:Nat} {s:aV×List Int×Int} {j:Nat} (hl:s.2.1.length<r) (h:oC s.1 j (r - s.2.1.length) s.2.1.length=none):kU p r s j=s:=by
 unfold kU
 rw[if_pos hl,h]
theorem XS {p:Int} {r:Nat} {s:aV×List Int×Int} {j k:Nat} (hl:s.2.1.length<r) (h:oC s.1 j (r - s.2.1.length) s.2.1.length=some k):
  kU p r s j=(fZ p (rr p s.1 s.2.1.length j k) s.2.1.length j r,s.2.1++[(j:Int)],NM p s.1 s.2.1.length j k s.2.2):=by
 unfold kU
 rw[if_pos hl,h]
section
variable {p:Int} {r c:Nat} {M0:aV}
end
section
variable {p:Int} {r c:Nat} {M0:aV}
end
end Go.Am
end
section
namespace Go.Am
def Xw (M:aV) (L:List Int):aV:=fun i t=>M i (L.getD t 0).toNat
def SY (x:Int×Int×Int×List Int):(Int×Int×List Int)×(Int×Int×List Int):=
  ((x.2.1,((w5 x).2.1.length:Int),gf x.2.1.toNat (w5 x).2.1.length (Xw (cV x.2.2.1.toNat x.2.2.2) (w5 x).2.1)),
   (((w5 x).2.1.length:Int),x.2.2.1,(gf x.2.1.toNat x.2.2.1.toNat (w5 x).1).take ((w5 x).2.1.length*x.2.2.1.toNat)))
theorem ai4 {L:List Int} {c t:Nat} (hL:∀x∈L,0<=x/\x<(c:Int)) (ht:t<L.length):eZ L t=some (((L.getD t 0).toNat:Nat):Int)/\(L.getD t 0).toNat<c:=by
 have h:=hL L[t] (List.getElem_mem ht)
 have e:L.getD t 0=L[t]:=by simp[List.getD,ht]
 rw[e]
 refine⟨?_,by omega⟩
 show L[t]? =_
 rw[List.getElem?_eq_getElem ht,Int.toNat_of_nonneg h.1]
section
variable {p:Int} {r c:Nat} {M R:aV} {L:List Int}
end
end Go.Am
end
section
namespace Go.Am
abbrev aR:=Int×Int×Int×List Int
def bP:aR:=(0,0,0,[])
def Yw (s:aR):aV:=cV s.2.2.1.toNat s.2.2.2
def uZ (s:aR) (v:Nat):aV:=fun i j=>Yw s (i*s.2.1.toNat+v) j
def eu (l:List aR):Nat->Nat
 |0=>1
 |i+1=>(l.getD i bP).2.2.1.toNat
def zQ (m:Int) (R:Nat->Int) (s:aR) (v:Nat):Nat->Int:=fun j=>tI m R (fun t=>uZ s v t j) s.1.toNat
def X6 (m:Int) (l:List aR) (ix:List Int):Nat->(Nat->Int)
 |0=>fun _=>1
 |i+1=>zQ m (X6 m l ix i) (l.getD i bP) (ix.getD i 0).toNat
def aaA (m:Int) (l:List aR) (ix:List Int):Int:=X6 m l ix l.length 0
def G6 (s:aR):Prop:=(0<=s.1/\s.1<=64)/\(0<=s.2.1/\s.2.1<=64)/\(0<=s.2.2.1/\s.2.2.1<=64)/\(s.2.2.2.length:Int)=s.1*s.2.1*s.2.2.1
instance (s:aR):Decidable (G6 s):=by unfold G6;infer_instance
def vo:Int×List aR->Option (List Int):=oY
def vm:aR×Int×Int×Int->Option Int:=fun x=>
 if G6 x.1/\(0<=x.2.1/\x.2.1<x.1.1)/\(0<=x.2.2.1/\x.2.2.1<x.1.2.1)/\(0<=x.2.2.2/\x.2.2.2<x.1.2.2.1) then some (uZ x.1 x.2.2.1.toNat x.2.1.toNat x.2.2.2.toNat) else none
def DD:ax:=[(.agg,[.int .i64,.list [.int .i64,.int .i64,.int .i64,.list [.int .i64]]])]
def N6:ax:=[(.one,[.list [.int .i64]])]
def agX:aJ:=[]
def Dz:ax:=[(.agg,[.int .i64,.int .i64,.int .i64,.list [.int .i64]]),(.one,[.int .i64]),(.one,[.int .i64]),(.one,[.int .i64])]
def N3:ax:=[(.one,[.int .i64])]
def agV:aJ:=[]
def QG (NN:Nat):(Int×(List (Int×(Int×(Int×(List Int))))))->(Option (List Int)):=
 (fun((i0,l1):(Int×(List (Int×(Int×(Int×(List Int)))))))=>
 cJ ((aI 0 0 (aa (([]:List Int)))).ah (fun _=>
 cv NN (fun(((l2,i3,i4),l5):(((List (Int×(Int×(Int×(List Int)))))×(Int×Int))×(List Int)))=>
 aH (cr i4 i3)
 ((dP l2 i4).ah (fun(i6,i7,i8,l9)=>
 (aI 0 (aa l5) (aa l5)).ah (fun _=>
 (d7 ((i7::([]:List Int))) 0 1).ah (fun jG=>
 (tO (bW (aa l5) (aa jG)) 8).ah (fun _=>
 (aI 0 (bW (aa l5) (aa jG)) (aa (g8 l5 jG))).ah (fun _=>
 some (Sum.inl ((l2,i3,aP .i64 i4 1),g8 l5 jG))))))))
 (((aI 0 (aa l5) (aa l5)).ah (fun _=>
 some (Sum.inl l5))).ah (fun uv=>
 some (Sum.inr uv))))
 ((l1,be (aa l1),(0:Int)),([]:List Int))))
 (fun j9=>
 (iT j9 (aa j9)).ah (fun kc=>
 some kc)))
def HX (NN:Nat):((Int×(Int×(Int×(List Int))))×(Int×(Int×Int)))->(Option Int):=
 (fun(((i0,i1,i2,l3),i4,i5,i6):((Int×(Int×(Int×(List Int))))×(Int×(Int×Int))))=>
 (dP l3 (aP .i64 (dc .i64 (aP .i64 (dc .i64 i4 i1) i5) i2) i6)).ah (fun i7=>
 some i7))
def bd (b:Int) (l:List aR):Nat->Int
 |0=>b
 |k+1=>(l.getD k bP).2.2.1
theorem IZ {m:Int}:∀(l:List aR) (i:Nat) (b c:Int),dG (gB m) i b l=some c↔((∀k,k<l.length->jo m (l.getD k bP)=true/\(l.getD k bP).1=bd b l k)/\c=bd b l l.length)
 |[],i,b,c=>by
  simp only[dG,bd,List.length_nil]
  exact⟨fun h=>⟨fun k hk=>absurd hk (Nat.not_lt_zero k),(Option.some.inj h).symm⟩,fun h=>by rw[h.2]⟩
 |s::l,i,b,c=>by
  have bU:∀k,bd b (s::l) (k+1)=bd s.2.2.1 l k:=fun k=>by cases k<;>rfl
  rw[dG]
  by_cases hs:jo m s=true/\s.1=b
  ·rw[show gB m i b s=some s.2.2.1 from if_pos hs]
   try simp only
   rw[IZ l (i+1) s.2.2.1 c]
   constructor
   ·rintro⟨h1,h2⟩
    refine⟨fun k hk=>?_,h2.trans (bU _).symm⟩
    cases k with
    |zero=>exact hs
    |succ k=>rw[bU];exact h1 k (by simpa using hk)
   ·rintro⟨h1,h2⟩
    exact⟨fun k hk=>by rw[<-bU];exact h1 (k+1) (by simpa using hk),h2.trans (bU _)⟩
  ·rw[show gB m i b s=none from if_neg hs]
   constructor
   ·intro h;cases h
   ·rintro⟨h1,_⟩
    exact absurd (h1 0 (by simp)) hs
theorem IL (l:List aR) (k:Nat):(bd 1 l k).toNat=eu l k:=by cases k<;>rfl
theorem En {m:Int} {l:List aR} (h:dS (m,l)=true):eC m/\(1<=l.length/\l.length<=8)/\gW (bf l)<=4096/\eu l l.length=1/\
  ∀i,i<l.length->∃(p:Nat) (M:aV),l.getD i bP=((eu l i:Int),(p:Int),(eu l (i+1):Int),gf (eu l i*p) (eu l (i+1)) M)/\eu l i<=32/\eu l (i+1)<=32/\(1<=p/\p<=8)/\
   dW m (eu l i*p) (eu l (i+1)) M/\M=cV (eu l (i+1)) (gf (eu l i*p) (eu l (i+1)) M):=by
 simp only[dS,Bool.and_eq_true,decide_eq_true_eq] at h
 obtain⟨hp,hl,h⟩:=h
 cases hf:dG (gB m) 0 1 l with
 |none=>rw[hf] at h;cases h
 |some c=>
  rw[hf] at h
  simp only[Bool.and_eq_true,decide_eq_true_eq] at h
  obtain⟨h1,h2⟩:=(IZ l 0 1 c).1 hf
  have hm:=e8 hp
  refine⟨hm,hl,h.2,by rw[<-IL,<-h2,h.1];rfl,fun i hi=>?_⟩
  obtain⟨s1,s2⟩:=h1 i hi
  have e2:(l.getD i bP).2.2.1=bd 1 l (i+1):=rfl
  generalize hs:l.getD i bP=s at*
  obtain⟨a,p,c',d⟩:=s
  obtain⟨t1,t2,t3,t4,t5⟩:=tc s1
  simp only at s2 e2
  obtain⟨p,rfl⟩:=kj (show 0<=p by omega)
  have ea:a=(eu l i:Int):=by rw[<-IL,<-s2];omega
  have ec:c'=(eu l (i+1):Int):=by rw[<-IL,<-e2];omega
  subst ea ec
  have el:d.length=eu l i*p*eu l (i+1):=by
   have:((eu l i:Int)*(p:Int)*(eu l (i+1):Int))=((eu l i*p*eu l (i+1):Nat):Int):=by norm_cast
   rw[this] at t4;exact_mod_cast t4
  have eg:=Kp (r:=eu l i*p) (c:=eu l (i+1)) el
  refine⟨p,cV (eu l (i+1)) d,by rw[eg],by omega,by omega,by omega,?_,by rw[eg]⟩
  rw[<-AM,eg]
  intro x hx
  exact of_decide_eq_true (List.all_eq_true.1 t5 x hx)
theorem EJ (l:List aR) (i:Nat):(bf l).getD i 0=(l.getD i bP).2.1:=by
 simp only[bf,List.getD_eq_getElem?_getD,List.getElem?_map]
 cases l[i]? <;>rfl
theorem jW (l:List aR):(bf l).length=l.length:=by simp[bf]
theorem akz {s:aR} (h:G6 s):∃(a p c:Nat) (M:aV),s=((a:Int),(p:Int),(c:Int),gf (a*p) c M)/\a<=64/\p<=64/\c<=64/\M=cV c (gf (a*p) c M):=by
 obtain⟨a,p,c,d⟩:=s
 obtain⟨h1,h2,h3,h4⟩:=h
 simp only at h1 h2 h3 h4
 obtain⟨a,rfl⟩:=kj h1.1
 obtain⟨p,rfl⟩:=kj h2.1
 obtain⟨c,rfl⟩:=kj h3.1
 have el:d.length=a*p*c:=by
  have:((a:Int)*(p:Int)*(c:Int))=((a*p*c:Nat):Int):=by norm_cast
  rw[this] at h4;exact_mod_cast h4
 have eg:=Kp (r:=a*p) (c:=c) el
 exact⟨a,p,c,cV c d,by rw[eg],by omega,by omega,by omega,by rw[eg]⟩
theorem akA {a p c:Nat} {M:aV} (e:M=cV c (gf (a*p) c M)) (v:Nat):uZ ((a:Int),(p:Int),(c:Int),gf (a*p) c M) v=fun i j=>M (i*p+v) j:=by
 funext i j
 simp only[uZ,Yw,Int.toNat_natCast]
 rw[<-e]
theorem abY (x:aR×Int×Int×Int) (y:Int) (h:vm x=some y):HX bh x=some y:=by
 obtain⟨s,i,v,j⟩:=x
 simp only[vm] at h
 split at h
 ·rename_i hc
  obtain⟨hs,hi,hv,hj⟩:=hc
  obtain⟨a,p,c,M,rfl,ha,hp,hc,eM⟩:=akz hs
  obtain⟨i,rfl⟩:=kj hi.1
  obtain⟨v,rfl⟩:=kj hv.1
  obtain⟨j,rfl⟩:=kj hj.1
  rw[<-h,akA eM]
  simp only[Int.toNat_natCast,HX]
  have hi':i<a:=by have:=hi.2;simp only at this;omega
  have eO:v<p:=by have:=hv.2;simp only at this;omega
  have jd:j<c:=by have:=hj.2;simp only at this;omega
  have hk:=mw hi' eO
  have hap:a*p<=64*64:=Nat.mul_le_mul ha hp
  rw[VV (by omega) (by omega) (by omega),VV (by omega) (by omega) (by omega),acH M hk jd,bL]
 ·cases h
def gY (n:Nat) (f:Nat->Int):List Int:=(List.range n).map f
theorem qc (n:Nat) (f:Nat->Int):(gY n f).length=n:=by simp[gY]
theorem uT {n j:Nat} (f:Nat->Int) (h:j<n):(gY n f)[j]? =some (f j):=by simp[gY,List.getElem?_range h]
theorem X0 {n:Nat} {f g:Nat->Int} (h:∀j,j<n->f j=g j):gY n f=gY n g:=List.map_congr_left fun j hj=>h j (List.mem_range.1 hj)
theorem ajO {n j:Nat} (f:Nat->Int) (x:Int):cM (gY n f) j x=gY n (fun q=>if q=j then x else f q):=by
 unfold cM
 apply List.ext_getElem?
 intro k
 rw[List.getElem?_set,qc]
 by_cases hk:k<n
 ·rw[uT _ hk,uT _ hk]
  by_cases e:j=k
  ·subst e;simp[hk]
  ·rw[if_neg e];simp[show¬k=j from fun h=>e h.symm]
 ·rw[List.getElem?_eq_none (by rw[qc];omega),List.getElem?_eq_none (by rw[qc];omega)]
  by_cases e:j=k
  ·subst e;simp[hk]
  ·simp[e]
theorem WJ (n:Nat) (f:Nat->Int):aa (gY n f)=n:=qc n f
theorem acG (n:Nat) (f g:Nat->Int):aI 0 (aa (gY n f)) (aa (gY n g))=some ():=by rw[WJ,WJ];exact cQ n
theorem Ke {α:Type} (P:Nat->α->Bool) (d:α):∀(l:List α) (i:Nat),dG (fun i (_:Unit) a=>if P i a=true then some () else none) i () l=if(∀k,k<l.length->P (i+k) (l.getD k d)=true) then some () else none
 |[],i=>by simp[dG]
 |a::l,i=>by
  rw[dG]
  by_cases h:P i a=true
  ·rw[if_pos h]
   try simp only
   rw[Ke P d l (i+1)]
   have:(∀k,k<l.length->P (i+1+k) (l.getD k d)=true)↔(∀k,k<(a::l).length->P (i+k) ((a::l).getD k d)=true):=by
    constructor
    ·intro h1 k hk
     cases k with
     |zero=>exact h
     |succ k=>have:=h1 k (by simpa using hk);rw[show i+(k+1)=i+1+k by omega];exact this
    ·intro h1 k hk
     have:=h1 (k+1) (by simpa using hk)
     rw[show i+(k+1)=i+1+k by omega] at this
     exact this
   by_cases hc:∀k,k<l.length->P (i+1+k) (l.getD k d)=true
   ·rw[if_pos hc,if_pos (this.1 hc)]
   ·rw[if_neg hc,if_neg (fun h2=>hc (this.2 h2))]
  ·rw[if_neg h,if_neg (fun h1=>h (h1 0 (by simp)))]
theorem ab1 (x:Int×List (Int×Int×Int×List Int)) (y:List Int) (h:vo x=some y):QG bh x=some y:=by
 have h0:=SX x y h
 exact h0
theorem map_take {α:Type} (g:α->Int) {L:List α} {j:Nat} {x:α} (h:L[j]? =some x):g8 ((L.take j).map g) [g x]=(L.take (j+1)).map g:=by
 simp[g8,List.take_add_one,h]
end Go.Am
end
section
namespace Go.Am
def fy:List Int->Nat
 |[]=>1
 |x::l=>x.toNat*fy l
def bN (D:List Int) (i:Nat):Nat:=fy (D.drop i)
def vQ (D:List Int) (n i:Nat):Int:=((n/bN D (i+1)%(D.getD i 0).toNat:Nat):Int)
def wJ (D:List Int) (n:Nat):List Int:=gY D.length (vQ D n)
def sT (D ix:List Int):Nat->Nat
 |0=>0
 |j+1=>sT D ix j*(D.getD j 0).toNat+(ix.getD j 0).toNat
def A7 (D:List Int):Prop:=D.length<=1048576/\∀x∈D,1<=x/\x<=1048576
instance (D:List Int):Decidable (A7 D):=by unfold A7;infer_instance
def akr (n:Nat):List Int:=gY n fun i=>(i:Int)
def Qm (m:Int) (l:List aR):List Int×List Int×List Int:=(akr l.length,bf l,gY (fy (bf l)) fun n=>aaA m l (wJ (bf l) n))
theorem vf {D:List Int} {i:Nat} (hi:i<D.length):bN D i=(D.getD i 0).toNat*bN D (i+1):=by
 unfold bN
 rw[drop_cons (getD_some 0 hi),fy]
theorem Ah (D:List Int):bN D D.length=1:=by simp[bN,fy]
theorem ak5 (D:List Int):bN D 0=fy D:=rfl
theorem XC:∀{D:List Int},(∀x∈D,1<=x)->0<fy D
 |[],_=>Nat.one_pos
 |x::l,h=>by
  have h1:=h x List.mem_cons_self
  exact Nat.mul_pos (by omega) (XC fun y hy=>h y (List.mem_cons_of_mem _ hy))
theorem GC:∀{D:List Int},(∀x∈D,1<=x)->gW D=(fy D:Int)
 |[],_=>rfl
 |x::l,h=>by
  have h1:=h x List.mem_cons_self
  rw[gW,fy,GC fun y hy=>h y (List.mem_cons_of_mem _ hy)]
  obtain⟨x,rfl⟩:=kj (show 0<=x by omega)
  simp
theorem afc {D:List Int} {n i:Nat} (hi:i<D.length):(wJ D n).getD i 0=vQ D n i:=by
 rw[List.getD_eq_getElem?_getD,wJ,uT _ hi];rfl
theorem Si {m:Int} {l:List aR} (h:dS (m,l)=true):A7 (bf l)/\(1<=fy (bf l)/\fy (bf l)<=4096)/\(bf l).length<=8/\yb 4096 (bf l)=(fy (bf l):Int):=by
 obtain⟨_,hl,hp,_,hs⟩:=En h
 have hd:∀x∈bf l,1<=x/\x<=8:=fun x hx=>by
  obtain⟨i,hi⟩:=List.mem_iff_getElem?.1 hx
  have ez:i<l.length:=by have:=zx hi;rwa[jW] at this
  obtain⟨p,M,e,_,_,h3,_⟩:=hs i ez
  have:=EJ l i
  rw[e,List.getD_eq_getElem?_getD,hi] at this
  simp only[Option.getD_some] at this
  omega
 have hI:=GC (D:=bf l) fun x hx=>(hd x hx).1
 have dU:=XC (D:=bf l) fun x hx=>(hd x hx).1
 refine⟨⟨by rw[jW];omega,fun x hx=>by have:=hd x hx;omega⟩,⟨dU,by omega⟩,by rw[jW];omega,?_⟩
 unfold yb
 rw[IW (by decide) _ 0 1 (fun x hx=>(hd x hx).1) (by decide) (by decide),Int.one_mul,hI,Int.min_eq_left (by omega)]
end Go.Am
end
section
namespace Go.Am
def tq:List Int×List Int->Option Bool:=fun x=>if x.1.length<=1048576/\x.2.length<=1048576 then some (decide (x.1=x.2)) else none
def xA:List Int×List Int->Option Bool:=tq
def nO (x y:Int×List aR):Bool:=dS x&&(dS y&&(decide (x.1=y.1)&&decide (bf x.2=bf y.2)))
def tr:(Int×List aR)×(Int×List aR)->Option Bool:=fun x=>if dR x.1<=1048576/\dR x.2<=1048576 then some (nO x.1 x.2) else none
def xC:(Int×List aR)×(Int×List aR)->Option Bool:=tr
def D9:ax:=[(.one,[.list [.int .i64]]),(.one,[.list [.int .i64]])]
def OC:ax:=[(.one,[.bool])]
def ahn:aJ:=[]
def DE:ax:=[(.one,[.list [.int .i64]]),(.one,[.list [.int .i64]])]
def N7:ax:=[(.one,[.bool])]
def agY:aJ:=[]
def Ea:ax:=[(.agg,[.int .i64,.list [.int .i64,.int .i64,.int .i64,.list [.int .i64]]]),(.agg,[.int .i64,.list [.int .i64,.int .i64,.int .i64,.list [.int .i64]]])]
def OD:ax:=[(.one,[.bool])]
def aho:aJ:=[]
def DG:ax:=[(.agg,[.int .i64,.list [.int .i64,.int .i64,.int .i64,.list [.int .i64]]]),(.agg,[.int .i64,.list [.int .i64,.int .i64,.int .i64,.list [.int .i64]]])]
def N9:ax:=[(.one,[.bool])]
def ag0:aJ:=[]
def Iv (NN:Nat):((List Int)×(List Int))->(Option Bool):=
 (fun((l0,l1):((List Int)×(List Int)))=>
 cJ (cv NN (fun((l2,l3,l4,i5,i6):((List Int)×((List Int)×((List Int)×(Int×Int)))))=>
 aH (cr i6 i5)
 ((dP l4 i6).ah (fun i7=>
 aH (kP (be (aa l3)) i6)
 (some (Sum.inr (Sum.inr false)))
 ((dP l3 i6).ah (fun i8=>
 aH (fb i8 i7)
 (some (Sum.inr (Sum.inr false)))
 (some (Sum.inl (l2,l3,l4,i5,aP .i64 i6 1)))))))
 (some (Sum.inr (Sum.inl (l2,l3)))))
 (l0,l1,l0,be (aa l0),(0:Int)))
 (fun(l9,jG)=>
 some (gd (be (aa l9)) (be (aa jG)))))
def HY (NN:Nat):((List Int)×(List Int))->(Option Bool):=
 (fun((l0,l1):((List Int)×(List Int)))=>
 aH (fb (be (aa l0)) (be (aa l1)))
 (some false)
 (cJ (cv NN (fun((l2,l3,i4,i5):((List Int)×((List Int)×(Int×Int))))=>
 aH (cr i5 i4)
 ((dP l2 i5).ah (fun i6=>
 (dP l3 i5).ah (fun i7=>
 aH (fb i6 i7)
 (some (Sum.inr (Sum.inr false)))
 (some (Sum.inl (l2,l3,i4,aP .i64 i5 1))))))
 (some (Sum.inr (Sum.inl ()))))
 (l0,l1,be (aa l0),(0:Int)))
 (fun _=>
 some true)))
def Iw (NN:Nat):((Int×(List (Int×(Int×(Int×(List Int))))))×(Int×(List (Int×(Int×(Int×(List Int)))))))->(Option Bool):=
 (fun(((i0,l1),i2,l3):((Int×(List (Int×(Int×(Int×(List Int))))))×(Int×(List (Int×(Int×(Int×(List Int))))))))=>
 (qn (i0,l1)).ah (fun b4=>
 aH (b4)
 ((qn (i2,l3)).ah (fun b5=>
 aH (b5)
 (aH (gd i0 i2)
 ((oY (i0,l1)).ah (fun l6=>
 (oY (i2,l3)).ah (fun l7=>
 (d7 l6 0 (aa l6)).ah (fun l8=>
 (d7 l7 0 (aa l7)).ah (fun l9=>
 (tq (l8,l9)).ah (fun mV=>
 some mV))))))
 (some false))
 (some false)))
 (some false)))
def H4 (NN:Nat):((Int×(List (Int×(Int×(Int×(List Int))))))×(Int×(List (Int×(Int×(Int×(List Int)))))))->(Option Bool):=
 (fun(((i0,l1),i2,l3):((Int×(List (Int×(Int×(Int×(List Int))))))×(Int×(List (Int×(Int×(Int×(List Int))))))))=>
 (ql (i0,l1)).ah (fun b4=>
 aH (b4)
 ((ql (i2,l3)).ah (fun b5=>
 aH (b5)
 (aH (gd i0 i2)
 ((vo (i0,l1)).ah (fun l6=>
 (vo (i2,l3)).ah (fun l7=>
 (d7 l6 0 (aa l6)).ah (fun l8=>
 (d7 l7 0 (aa l7)).ah (fun l9=>
 (xA (l8,l9)).ah (fun mV=>
 some mV))))))
 (some false))
 (some false)))
 (some false)))
theorem EP {x y:List Int} (h:x.length=y.length):(x=y)↔∀k,k<x.length->x.getD k 0=y.getD (0+k) 0:=by
 constructor
 ·rintro rfl k _;rw[Nat.zero_add]
 ·intro h1
  apply List.ext_getElem?
  intro k
  by_cases hk:k<x.length
  ·have:=h1 k hk
   rw[Nat.zero_add] at this
   rw[getD_some 0 hk,getD_some 0 (show k<y.length by omega),this]
  ·rw[List.getElem?_eq_none (by omega),List.getElem?_eq_none (by omega)]
theorem ab2 (x:List Int×List Int) (y:Bool) (h:xA x=some y):HY bh x=some y:=by
 obtain⟨D,ix⟩:=x
 simp only[xA,tq] at h
 split at h
 ·rename_i hc
  obtain⟨h1,h2⟩:=hc
  rw[<-h]
  simp only[HY]
  by_cases hl:D.length=ix.length
  ·rw[bR (oA (by simp only[nl,hl]))]
   rw[My D (fun(_:Unit) i=>(D,ix,be (aa D),(i:Int))) (fun _ _=>True) (fun i _ v=>if decide (v=ix.getD i 0)=true then some () else none) (Sum.inr false) (fun _=>Sum.inl ()) ?_ ?_ ?_ (s:=()) trivial ?_ (f8 (by omega))]
   ·rw[Ke (fun i v=>decide (v=ix.getD i 0)) 0]
    by_cases hk:∀k,k<D.length->decide (D.getD k 0=ix.getD (0+k) 0)=true
    ·rw[if_pos hk,decide_eq_true ((EP hl).2 fun k cC=>of_decide_eq_true (hk k cC))];rfl
    ·rw[if_neg hk,decide_eq_false (fun h=>hk fun k cC=>decide_eq_true ((EP hl).1 h k cC))];rfl
   all_goals try simp only
   ·intro i _ v hv _
    have hi:=zx hv
    rw[bF (iA hv),ft,hv,bL,ft,getD_some 0 (show i<ix.length by omega),bL]
    by_cases q:v=ix.getD i 0
    ·rw[bR (oA q),if_pos (decide_eq_true q),kS hv (by omega)]
    ·rw[bF (pW q),if_neg (fun h=>q (of_decide_eq_true h))]
   ·intros;trivial
   ·intro _ _
    rw[bR (mE D)]
   ·rfl
  ·rw[bF (pW (by simp only[nl];omega)),decide_eq_false (fun e=>hl (by rw[e]))]
 ·cases h
theorem acx (x:List Int×List Int) (y:Bool) (h:tq x=some y):Iv bh x=some y:=by
 obtain⟨D,ix⟩:=x
 simp only[tq] at h
 split at h
 ·rename_i hc
  obtain⟨h1,h2⟩:=hc
  rw[<-h]
  simp only[Iv]
  rw[My D (fun(_:Unit) i=>(D,ix,D,be (aa D),(i:Int))) (fun _ _=>True) (fun i _ v=>if(decide (i<ix.length)&&decide (v=ix.getD i 0))=true then some () else none) (Sum.inr false) (fun _=>Sum.inl (D,ix)) ?_ ?_ ?_ (s:=()) trivial ?_ (f8 (by omega))]
  ·rw[Ke (fun i v=>decide (i<ix.length)&&decide (v=ix.getD i 0)) 0]
   by_cases hl:D.length=ix.length
   ·by_cases hk:∀k,k<D.length->(decide (0+k<ix.length)&&decide (D.getD k 0=ix.getD (0+k) 0))=true
    ·rw[if_pos hk,decide_eq_true ((EP hl).2 fun k cC=>by have:=hk k cC;simp only[Bool.and_eq_true,decide_eq_true_eq] at this;exact this.2)]
     simp only[lG]
     rw[tK (by simp only[nl,hl])]
    ·rw[if_neg hk,decide_eq_false (fun h=>hk fun k cC=>by simp only[Bool.and_eq_true,decide_eq_true_eq];exact⟨by omega,(EP hl).1 h k cC⟩)];rfl
   ·rw[decide_eq_false (fun e=>hl (by rw[e]))]
    split
    ·simp only[lG]
     rw[tJ (by simp only[nl];omega)]
    ·rfl
  all_goals try simp only
  ·intro i _ v hv _
   have hi:=zx hv
   rw[bF (iA hv),ft,hv,bL]
   by_cases hk:i<ix.length
   ·rw[bR (Cp (by rw[nl];omega)),ft,getD_some 0 hk,bL]
    by_cases q:v=ix.getD i 0
    ·rw[bR (oA q.symm),if_pos (by rw[decide_eq_true hk,decide_eq_true q];rfl),kS hv (by omega)]
    ·rw[bF (pW (fun e=>q e.symm)),if_neg (by rw[decide_eq_true hk,decide_eq_false q];simp)]
   ·rw[bF (sR (by rw[nl];omega)),if_neg (by rw[decide_eq_false hk];simp)]
  ·intros;trivial
  ·intro _ _
   rw[bR (mE D)]
  ·rfl
 ·cases h
theorem acy (x:(Int×List aR)×(Int×List aR)) (y:Bool) (h:tr x=some y):Iw bh x=some y:=by
 obtain⟨⟨m,l⟩,m',l'⟩:=x
 simp only[tr] at h
 split at h
 ·rename_i hc
  obtain⟨h1,h2⟩:=hc
  rw[<-h]
  have hl:=(Ag h1).1
  have cT:=(Ag h2).1
  simp only[Iw,nO]
  rw[show qn (m,l)=some (dS (m,l)) from if_pos h1,bL]
  cases dS (m,l) with
  |false=>rfl
  |true=>
   rw[bF (by rfl),show qn (m',l')=some (dS (m',l')) from if_pos h2,bL]
   cases dS (m',l') with
   |false=>rfl
   |true=>
    rw[bF (by rfl)]
    by_cases e:m=m'
    ·rw[bF (tK e),show oY (m,l)=some (bf l) from if_pos hl,bL,show oY (m',l')=some (bf l') from if_pos cT,bL,ti,bL,ti,bL,
      show tq (bf l,bf l')=some (decide (bf l=bf l')) from if_pos ⟨by rw[jW];exact hl,by rw[jW];exact cT⟩,bL,decide_eq_true e]
     rfl
    ·rw[bR (tJ e),decide_eq_false e];rfl
 ·cases h
theorem ab4 (x:(Int×List aR)×(Int×List aR)) (y:Bool) (h:xC x=some y):H4 bh x=some y:=by
 obtain⟨⟨m,l⟩,m',l'⟩:=x
 simp only[xC,tr] at h
 split at h
 ·rename_i hc
  obtain⟨h1,h2⟩:=hc
  rw[<-h]
  have hl:=(Ag h1).1
  have cT:=(Ag h2).1
  simp only[H4,nO]
  rw[show ql (m,l)=some (dS (m,l)) from if_pos h1,bL]
  cases dS (m,l) with
  |false=>rfl
  |true=>
   rw[bF (by rfl),show ql (m',l')=some (dS (m',l')) from if_pos h2,bL]
   cases dS (m',l') with
   |false=>rfl
   |true=>
    rw[bF (by rfl)]
    by_cases e:m=m'
    ·rw[bF (tK e),show vo (m,l)=some (bf l) from if_pos hl,bL,show vo (m',l')=some (bf l') from if_pos cT,bL,ti,bL,ti,bL,
      show xA (bf l,bf l')=some (decide (bf l=bf l')) from if_pos ⟨by rw[jW];exact hl,by rw[jW];exact cT⟩,bL,decide_eq_true e]
     rfl
    ·rw[bR (tJ e),decide_eq_false e];rfl
 ·cases h
end Go.Am
end
section
namespace Go.Am
def qb:Int×Int×Int->Bool:=fun((k,p,n):Int×Int×Int)=>
 if k=1 then decide (p=0/\n=0) else if k=2 then db p&&decide (n=0) else if k=3\/k=4\/k=5 then decide ((1<=p/\p<=1000000)/\n=0)
 else if k=6 then decide (p=0/\1<=n/\n<=20) else if k=7 then db p&&decide (1<=n/\n<=6) else if k=8 then db p&&decide (p≠2/\n=0) else false
def oV:Int×Int×Int->Int:=fun((k,p,n):Int×Int×Int)=>if k=7 then n else if k=8 then 4 else 1
def dZ (r:Int×Int×Int):Nat:=(oV r).toNat
def ij:Int×Int×Int->Int:=fun((k,p,n):Int×Int×Int)=>if k=1 then 1 else if k=3\/k=4\/k=5 then p else if k=6 then 2^n.toNat - 1 else p - 1
def LG (t v:Int):Bool:=decide (0<=v/\v<=t)
def pk (r:Int×Int×Int) (x:List Int):Bool:=decide (x.length=dZ r)&&x.all (LG (ij r))
def zH:Int×Int×Int->List Int:=fun((k,p,n):Int×Int×Int)=>cM (fz (dZ (k,p,n)) 0) 0 (if k=4 then 0 else if k=5\/k=6 then ij (k,p,n) else 1)
def sm:Nat->(Nat->Int)->Int
 |0,_=>0
 |n+1,f=>sm n f+f n
def kW (om:Bool) (x y:Nat->Int) (t i j:Nat):Int:=if i+j=t then x i*y j else if om=true/\i+j=t+4 then -(x i*y j) else 0
def mL (w:Nat) (f:Nat->Int):List Int:=(List.range w).map f
def dK (x:List Int):Nat->Int:=fun i=>x.getD i 0
def vO (p:Int) (om:Bool) (w:Nat) (x y:Nat->Int):List Int:=mL w fun t=>sm w (fun i=>sm w (fun j=>kW om x y t i j))%p
def nC:Int×Int×Int->Int->Int->Int:=fun((k,p,n):Int×Int×Int) a b=>
 if k=1\/k=6 then((a.toNat&&&b.toNat:Nat):Int) else if k=2 then a*b%p else if k=3 then min (a*b) p else if k=4 then min (a+b) p else min a b
def uB (r:Int×Int×Int) (x y:List Int):List Int:=if r.1=7\/r.1=8 then vO r.2.1 (decide (r.1=8)) (dZ r) (dK x) (dK y) else[nC r (dK x 0) (dK y 0)]
theorem yp (a b:Int):gd a b=decide (a=b):=by by_cases h:a=b<;>simp[gd,h]
theorem GJ {k p n:Int} (h:qb (k,p,n)=true):(k=1/\p=0/\n=0)\/(k=2/\db p=true/\n=0)\/(k=3/\(1<=p/\p<=1000000)/\n=0)\/(k=4/\(1<=p/\p<=1000000)/\n=0)\/(k=5/\(1<=p/\p<=1000000)/\n=0)\/
  (k=6/\p=0/\1<=n/\n<=20)\/(k=7/\db p=true/\1<=n/\n<=6)\/(k=8/\db p=true/\p≠2/\n=0):=by
 simp only[qb] at h
 by_cases h1:k=1
 ·rw[if_pos h1] at h;exact .inl ⟨h1,by simpa using h⟩
 rw[if_neg h1] at h
 by_cases h2:k=2
 ·rw[if_pos h2] at h;simp at h;exact .inr (.inl ⟨h2,h⟩)
 rw[if_neg h2] at h
 by_cases h3:k=3\/k=4\/k=5
 ·rw[if_pos h3] at h
  simp only[decide_eq_true_eq] at h
  rcases h3 with h3|h3|h3
  ·exact .inr (.inr (.inl ⟨h3,h⟩))
  ·exact .inr (.inr (.inr (.inl ⟨h3,h⟩)))
  ·exact .inr (.inr (.inr (.inr (.inl ⟨h3,h⟩))))
 rw[if_neg h3] at h
 by_cases h4:k=6
 ·rw[if_pos h4] at h;simp at h;exact .inr (.inr (.inr (.inr (.inr (.inl ⟨h4,h⟩)))))
 rw[if_neg h4] at h
 by_cases h5:k=7
 ·rw[if_pos h5] at h;simp at h;exact .inr (.inr (.inr (.inr (.inr (.inr (.inl ⟨h5,h⟩))))))
 rw[if_neg h5] at h
 by_cases h6:k=8
 ·rw[if_pos h6] at h;simp at h;exact .inr (.inr (.inr (.inr (.inr (.inr (.inr ⟨h6,h⟩))))))
 rw[if_neg h6] at h
 cases h
theorem alv {r:Int×Int×Int} (h:qb r=true):oV r=(dZ r:Int)/\1<=dZ r/\dZ r<=6:=by
 obtain⟨k,p,n⟩:=r
 rcases GJ h with⟨rfl,rfl,rfl⟩|⟨rfl,hp,rfl⟩|⟨rfl,hp,rfl⟩|⟨rfl,hp,rfl⟩|⟨rfl,hp,rfl⟩|⟨rfl,rfl,hn⟩|⟨rfl,hp,hn⟩|⟨rfl,hp,tZ,rfl⟩
 ·simp[dZ,oV]
 ·simp[dZ,oV]
 ·simp[dZ,oV]
 ·simp[dZ,oV]
 ·simp[dZ,oV]
 ·simp[dZ,oV]
 ·simp[dZ,oV];omega
 ·simp[dZ,oV]
theorem ajG {w:Nat} {p:Int} (h:w=1):cM (fz w (0:Int)) 0 p=[p]:=by subst h;rfl
theorem C9 (w:Nat) (f:Nat->Int):(mL w f).length=w:=by simp[mL]
theorem C8 {w j:Nat} (f:Nat->Int) (h:j<w):(mL w f)[j]? =some (f j):=by simp[mL,h]
theorem Y9 {w:Nat} {f g:Nat->Int} (h:∀j,j<w->f j=g j):mL w f=mL w g:=List.map_congr_left fun j hj=>h j (List.mem_range.1 hj)
theorem ak4 {w:Nat} (f:Nat->Int) (j:Nat) (v:Int):(mL w f).set j v=mL w (fun i=>if i=j then v else f i):=by
 apply List.ext_getElem?
 intro i
 by_cases hi:i<w
 ·rw[C8 _ hi]
  by_cases hj:j=i
  ·subst hj
   rw[List.getElem?_set_self (by rw[C9];exact hi),if_pos rfl]
  ·rw[List.getElem?_set_ne hj,C8 _ hi,if_neg (fun e=>hj e.symm)]
 ·rw[List.getElem?_eq_none (by rw[List.length_set,C9];omega),List.getElem?_eq_none (by rw[C9];omega)]
theorem Tm {x:List Int} {j:Nat} (h:j<x.length):x[j]? =some (dK x j):=by
 rw[List.getElem?_eq_getElem h]
 simp[dK,List.getD_eq_getElem?_getD,List.getElem?_eq_getElem h]
theorem JF {w j:Nat} (f:Nat->Int) (h:j<w):dK (mL w f) j=f j:=by simp[dK,List.getD_eq_getElem?_getD,C8 f h]
theorem ak2 {x:List Int} {w:Nat} (h:x.length=w):mL w (dK x)=x:=by
 subst h
 apply List.ext_getElem?
 intro i
 by_cases hi:i<x.length
 ·rw[C8 _ hi,Tm hi]
 ·rw[List.getElem?_eq_none (by rw[C9];omega),List.getElem?_eq_none (by omega)]
theorem ak3 (w:Nat) (c:Int):fz w c=mL w fun _=>c:=by
 apply List.ext_getElem?
 intro i
 by_cases hi:i<w
 ·rw[C8 _ hi];simp[fz,hi]
 ·rw[List.getElem?_eq_none (by simp[fz];omega),List.getElem?_eq_none (by rw[C9];omega)]
theorem Sr {r:Int×Int×Int} {x:List Int} (h:pk r x=true):x.length=dZ r:=by
 simp only[pk,Bool.and_eq_true,decide_eq_true_eq] at h;exact h.1
theorem Sq {r:Int×Int×Int} {x:List Int} (h:pk r x=true) {j:Nat} (hj:j<dZ r):0<=dK x j/\dK x j<=ij r:=by
 simp only[pk,Bool.and_eq_true,decide_eq_true_eq] at h
 have:=List.all_eq_true.1 h.2 (dK x j) (List.mem_of_getElem? (Tm (by rw[h.1];exact hj)))
 simpa[LG] using this
theorem Bb {r:Int×Int×Int} {x:List Int} (h:pk r x=true) (hw:dZ r=1):x=[dK x 0]/\0<=dK x 0/\dK x 0<=ij r:=by
 have hl:=Sr h
 rw[hw] at hl
 match x,hl with
 |[a],_=>exact⟨rfl,Sq h (j:=0) (by omega)⟩
theorem NS {a p:Int} (ha:0<=a) (hp:0<p):ru a p=some (a%p):=by
 obtain⟨m,rfl⟩:=kj (z:=p) (by omega)
 exact CI ha (by omega)
theorem kZ {f g:Nat->Int}:∀{n:Nat},(∀i,i<n->f i=g i)->sm n f=sm n g
 |0,_=>rfl
 |n+1,h=>by simp only[sm];rw[kZ (n:=n) (fun i hi=>h i (by omega)),h n (by omega)]
structure HS (k p:Int) (w:Nat):Prop where
 ck:k=7\/k=8
 cp:2<=p/\p<=1000003
 cw:1<=w/\w<=6
 w8:k=8->w=4
theorem Rw {k p n:Int} (h:qb (k,p,n)=true) (hk:k=7\/k=8):HS k p (dZ (k,p,n)):=by
 have hw:=alv h
 refine⟨hk,?_,hw.2,fun e=>by subst e;rfl⟩
 rcases GJ h with⟨rfl,rfl,rfl⟩|⟨rfl,hp,rfl⟩|⟨rfl,hp,rfl⟩|⟨rfl,hp,rfl⟩|⟨rfl,hp,rfl⟩|⟨rfl,rfl,hn⟩|⟨rfl,hp,hn⟩|⟨rfl,hp,tZ,rfl⟩
 all_goals first|exact e8 hp|(exfalso;omega)
theorem Ct {r:Int×Int×Int} {a b:Int} (h:¬(r.1=7\/r.1=8)):uB r [a] [b]=[nC r a b]:=by simp only[uB];rw[if_neg h];rfl
theorem Ss {r:Int×Int×Int} {x y:List Int} (hx:pk r x=true) (hy:pk r y=true) (hw:dZ r=1):∃a b,x=[a]/\y=[b]/\(0<=a/\a<=ij r)/\0<=b/\b<=ij r:=
 ⟨_,_,(Bb hx hw).1,(Bb hy hw).1,(Bb hx hw).2,(Bb hy hw).2⟩
theorem aik (k p n:Int):zH (k,p,n)=mL (dZ (k,p,n)) fun j=>if j=0 then(if k=4 then 0 else if k=5\/k=6 then ij (k,p,n) else 1) else 0:=by
 simp only[zH]
 rw[ak3]
 exact ak4 _ 0 _
end Go.Am
end
section
namespace Go.Am
def ch:Nat->Nat->Nat
 |_,0=>1
 |0,_+1=>0
 |n+1,k+1=>ch n k+ch n (k+1)
theorem El:∀{n k:Nat},n<k->ch n k=0
 |0,k+1,_=>by simp[ch]
 |n+1,k+1,h=>by simp[ch,El (show n<k by omega),El (show n<k+1 by omega)]
theorem AW (n:Nat):ch n 0=1:=by cases n<;>rfl
theorem RE:∀n,ch n n=1
 |0=>rfl
 |n+1=>by simp[ch,RE n,El (Nat.lt_succ_self n)]
theorem Em:∀(n k:Nat),(k+1)*ch (n+1) (k+1)=(n+1)*ch n k
 |0,0=>by simp[ch]
 |0,k+1=>by simp[ch]
 |n+1,0=>by
  have h:=Em n 0
  simp only[AW] at h⊢
  have e:ch (n+1+1) (0+1)=ch (n+1) 0+ch (n+1) (0+1):=rfl
  rw[e,AW]
  omega
 |n+1,k+1=>by
  have h1:=Em n k
  have h2:=Em n (k+1)
  have e1:ch (n+1+1) (k+1+1)=ch (n+1) (k+1)+ch (n+1) (k+1+1):=rfl
  have e2:ch (n+1) (k+1)=ch n k+ch n (k+1):=rfl
  rw[e1]
  generalize ch (n+1) (k+1+1)=B at*
  generalize ch (n+1) (k+1)=A at*
  generalize ch n k=u at*
  generalize ch n (k+1)=v at*
  subst e2
  grind
def lP (f:Nat->Nat):Nat->Nat
 |0=>0
 |m+1=>lP f m+f m
theorem Y5 (n a:Nat):∀m,lP (fun k=>ch (n+1) k*a^k) (m+1)=lP (fun k=>ch n k*a^k) (m+1)+a*lP (fun k=>ch n k*a^k) m
 |0=>by simp[lP,AW]
 |m+1=>by
  have h:=Y5 n a m
  simp only[lP] at h⊢
  have e:ch (n+1) (m+1)=ch n m+ch n (m+1):=rfl
  rw[h,e,Nat.pow_succ]
  grind
theorem Ro (a:Nat):∀n,(a+1)^n=lP (fun k=>ch n k*a^k) (n+1)
 |0=>by simp[lP,AW]
 |n+1=>by
  rw[Y5]
  have e:lP (fun k=>ch n k*a^k) (n+1+1)=lP (fun k=>ch n k*a^k) (n+1):=by
   show lP _ (n+1)+ch n (n+1)*a^(n+1)=_
   rw[El (Nat.lt_succ_self n)];simp
  rw[e,<-Ro a n,Nat.pow_succ]
  grind
theorem Y4 {p:Nat} {f:Nat->Nat}:∀m,(∀k,0<k->k<=m->p∣f k)->lP f (m+1)%p=f 0%p
 |0,h=>by simp[lP]
 |m+1,h=>by
  have i:=Y4 m fun k h1 h2=>h k h1 (by omega)
  obtain⟨c,hc⟩:=h (m+1) (by omega) (Nat.le_refl _)
  show(lP f (m+1)+f (m+1))%p=_
  rw[hc,Nat.add_mul_mod_self_left,i]
def vw (p:Nat):Prop:=2<=p/\∀d,d∣p->d=1\/d=p
theorem vw.R3 {p a:Nat} (hp:vw p) (h:¬p∣a):Nat.Coprime p a:=by
 have:=hp.2 (Nat.gcd p a) (Nat.gcd_dvd_left p a)
 rcases this with h1|h1
 ·exact h1
 ·exact absurd (h1▸Nat.gcd_dvd_right p a) h
theorem vw.ch {p k:Nat} (hp:vw p) (h1:0<k) (h2:k<p):p∣ch p k:=by
 obtain⟨q,rfl⟩:∃q,p=q+1:=⟨p - 1,by omega⟩
 obtain⟨j,rfl⟩:∃j,k=j+1:=⟨k - 1,by omega⟩
 have hm:=Em q j
 have hd:(q+1)∣(j+1)*Go.Am.ch (q+1) (j+1):=⟨Go.Am.ch q j,hm⟩
 exact(hp.R3 fun h=>absurd (Nat.le_of_dvd (by omega) h) (by omega)).dvd_of_dvd_mul_left hd
theorem S0 {p:Nat} (hp:vw p):∀a,a^p%p=a%p
 |0=>by rw[Nat.zero_pow (by have:=hp.1;omega)]
 |a+1=>by
  rw[Ro]
  show(lP _ p+Go.Am.ch p p*a^p)%p=_
  obtain⟨q,rfl⟩:∃q,p=q+1:=⟨p - 1,by have:=hp.1;omega⟩
  have h:=Y4 (p:=q+1) (f:=fun k=>Go.Am.ch (q+1) k*a^k) q fun k h1 h2=>Nat.dvd_trans (hp.ch h1 (by omega)) (Nat.dvd_mul_right _ _)
  rw[RE,Nat.one_mul,Nat.add_mod,h,S0 hp a]
  simp only[AW,Nat.pow_zero,Nat.mul_one]
  rw[<-Nat.add_mod,Nat.add_comm]
theorem acC {p a:Nat} (hp:vw p) (ha:¬p∣a):a*a^(p - 2)%p=1:=by
 have h2:=hp.1
 have h:=S0 hp a
 have e:a^p=a*(a*a^(p - 2)):=by
  obtain⟨q,rfl⟩:∃q,p=q+2:=⟨p - 2,by omega⟩
  rw[Nat.pow_succ,Nat.pow_succ,Nat.add_sub_cancel]
  rw[Nat.mul_comm a (a^q),Nat.mul_comm a (a^q*a)]
 rw[e] at h
 have Fe:0<a:=by
  rcases Nat.eq_zero_or_pos a with h|h
  ·subst h;exact absurd ⟨0,by simp⟩ ha
  ·exact h
 have hz:0<a*a^(p - 2):=Nat.mul_pos Fe (Nat.pow_pos Fe)
 generalize a*a^(p - 2)=z at h hz⊢
 obtain⟨y,rfl⟩:∃y,z=y+1:=⟨z - 1,by omega⟩
 have hd:p∣a*y:=by
  have e:a*(y+1)=a*y+a:=by rw[Nat.mul_add,Nat.mul_one]
  rw[e] at h
  have:(a*y+a - a)%p=0:=Nat.sub_mod_eq_zero_of_mod_eq h
  rw[Nat.add_sub_cancel] at this
  exact Nat.dvd_of_mod_eq_zero this
 obtain⟨c,rfl⟩:=(hp.R3 ha).dvd_of_dvd_mul_left hd
 rw[Nat.add_comm,Nat.add_mul_mod_self_left]
 exact Nat.mod_eq_of_lt (by omega)
end Go.Am
end
section
namespace Go.Am
theorem afm {p:Int} (h:db p=true):vw p.toNat:=by
 have hp:=e8 h
 obtain⟨n,rfl⟩:=kj (show 0<=p by omega)
 simp only[Int.toNat_natCast]
 refine⟨by omega,fun d hd=>?_⟩
 rcases Nat.lt_or_ge d 2 with h2|h2
 ·rcases Nat.eq_zero_or_pos d with h0|h0
  ·subst h0
   have:=Nat.eq_zero_of_zero_dvd hd
   omega
  ·exact .inl (by omega)
 ·obtain⟨e,he⟩:=hd
  simp only[db,Bool.and_eq_true,decide_eq_true_eq,Bool.not_eq_true',List.any_eq_false] at h
  have bU:∀a b:Nat,2<=a->2<=b->a<=b->n≠a*b:=by
   intro a b ha hb d8 e
   have h1:a*a<=n:=by rw[e];exact Nat.mul_le_mul_left _ d8
   have h3:a<1001:=by
    rcases Nat.lt_or_ge a 1001 with h|h
    ·exact h
    ·have:=Nat.mul_le_mul h h;omega
   refine h.2 a (by simp;omega) ?_
   unfold nR
   have ea:((a:Int))*(a:Int)=((a*a:Nat):Int):=by norm_cast
   simp only[Bool.and_eq_true,decide_eq_true_eq]
   constructor
   ·rw[ea];omega
   ·rw[e];push_cast;exact Int.mul_emod_right _ _
  right
  rcases Nat.lt_or_ge e 2 with h3|h3
  ·have:e=1:=by
    rcases Nat.eq_zero_or_pos e with h0|h0
    ·subst h0;simp at he;omega
    ·omega
   subst this;omega
  ·exfalso
   rcases Nat.le_total d e with KB|KB
   ·exact bU d e h2 h3 KB he
   ·exact bU e d h3 h2 KB (by rw[he,Nat.mul_comm])
theorem XA (x:Int) (b:Nat):∀m:Nat,(x*x)^m*x^b=x^(2*m+b)
 |0=>by simp
 |m+1=>by
  have ih:=XA x b m
  rw[show 2*(m+1)+b=2*m+b+1+1 by omega,Int.pow_succ,Int.pow_succ (n:=2*m+b+1),Int.pow_succ (n:=2*m+b),<-ih]
  grind
theorem afi {p:Int} (hp:eC p):∀(n:Nat) (out x:Int),pQ p out x n%p=out*x^n%p:=by
 intro n
 induction n using Nat.strongRecOn with
 |ind n ih=>
  intro out x
  by_cases h0:n=0
  ·subst h0;rw[afh];simp
  ·rw[afj h0,ih (n/2) (by omega)]
   have e:x^n=(x*x)^(n/2)*x^(n%2):=by
    rw[XA,Nat.div_add_mod]
   rw[e]
   have h1:((x*x%p)^(n/2))%p=((x*x)^(n/2))%p:=by
    have:∀k:Nat,((x*x%p)^k)%p=((x*x)^k)%p:=by
     intro k
     induction k with
     |zero=>simp
     |succ k ih=>rw[Int.pow_succ,Int.pow_succ,Int.mul_emod,ih,Int.emod_emod,<-Int.mul_emod]
    exact this _
   by_cases hb:n%2=1
   ·rw[if_pos hb,hb,Int.mul_emod,h1,Int.emod_emod,<-Int.mul_emod]
    congr 1
    grind
   ·rw[if_neg hb,show n%2=0 by omega,Int.mul_emod,h1,<-Int.mul_emod]
    congr 1
    grind
theorem V4 {p x:Int} (bE:db p=true) (hx:fE p x) (h0:x≠0):x*pQ p 1 x (p - 2).toNat%p=1:=by
 have hp:=e8 bE
 have aX:eC p:=⟨hp.1,hp.2⟩
 obtain⟨n,rfl⟩:=kj (show 0<=p by omega)
 obtain⟨a,rfl⟩:=kj hx.1
 have hN:=afm bE
 simp only[Int.toNat_natCast] at hN
 have ha:¬n∣a:=fun h=>by
  have:=Nat.le_of_dvd (by omega) h
  have:=hx.2
  omega
 have hf:=acC hN ha
 have e:(((n:Int)) - 2).toNat=n - 2:=by omega
 rw[Int.mul_emod,afi aX,e,Int.one_mul,<-Int.mul_emod]
 exact_mod_cast hf
def fF (f g:Nat->Int):Nat->Int
 |0=>0
 |n+1=>fF f g n+f n*g n
theorem Y2 {p:Int} {f f' g:Nat->Int}:∀n,(∀k,k<n->∃q,f k=f' k+p*q)->∃q,fF f g n=fF f' g n+p*q
 |0,_=>⟨0,by simp[fF]⟩
 |n+1,h=>by
  obtain⟨q,hq⟩:=Y2 (g:=g) n fun k hk=>h k (by omega)
  obtain⟨q',dB⟩:=h n (by omega)
  exact⟨q+q'*g n,by simp only[fF,hq,dB];grind⟩
theorem P7 (f f2 g:Nat->Int) (c:Int):∀n,fF (fun k=>f k+c*f2 k) g n=fF f g n+c*fF f2 g n
 |0=>by simp[fF]
 |n+1=>by simp only[fF,P7 f f2 g c n];grind
theorem Hv (f g g2:Nat->Int) (c:Int):∀n,fF f (fun k=>g k - c*g2 k) n=fF f g n - c*fF f g2 n
 |0=>by simp[fF]
 |n+1=>by simp only[fF,Hv f g g2 c n];grind
theorem P8 (f g:Nat->Int) (c:Int):∀n,fF (fun k=>f k*c) g n=fF f g n*c
 |0=>by simp[fF]
 |n+1=>by simp only[fF,P8 f g c n];grind
theorem P9 (f g:Nat->Int) (c:Int):∀n,fF f (fun k=>g k*c) n=fF f g n*c
 |0=>by simp[fF]
 |n+1=>by simp only[fF,P9 f g c n];grind
def dl (a b:Nat):Int:=if a=b then 1 else 0
def jQ (p:Int) (n:Nat) (E X:aV):Prop:=∀a,a<n->∀b,b<n->∃q,fF (E a) (fun k=>X k b) n=dl a b+p*q
theorem jQ.congr {p:Int} {n:Nat} {E E' X:aV} (h:jQ p n E X) (he:∀a,a<n->∀k,k<n->∃q,E' a k=E a k+p*q):jQ p n E' X:=by
 intro a ha b hb
 obtain⟨q,hq⟩:=h a ha b hb
 obtain⟨q',dB⟩:=Y2 (p:=p) (f:=E' a) (f':=E a) (g:=fun k=>X k b) n (he a ha)
 exact⟨q+q',by rw[dB,hq];grind⟩
theorem jQ.swap {p:Int} {n:Nat} {E X:aV} (h:jQ p n E X) {s t:Nat} (hs:s<n) (ht:t<n):∃X',jQ p n (di E s t) X':=by
 let sw:Nat->Nat:=fun i=>if i=s then t else if i=t then s else i
 have yW:∀i,i<n->sw i<n:=by
  intro i hi
  show(if i=s then t else if i=t then s else i)<n
  split
  ·exact ht
  ·split
   ·exact hs
   ·exact hi
 have tS:∀i j,sw i=sw j->i=j:=by
  intro i j
  show(if i=s then t else if i=t then s else i)=(if j=s then t else if j=t then s else j)->i=j
  intro h
  repeat' split at h
  all_goals omega
 refine⟨fun k b=>X k (sw b),fun a ha b hb=>?_⟩
 obtain⟨q,hq⟩:=h (sw a) (yW a ha) (sw b) (yW b hb)
 refine⟨q,?_⟩
 have e:di E s t a=E (sw a):=by
  funext k
  show(if a=s then E t k else if a=t then E s k else E a k)=E (if a=s then t else if a=t then s else a) k
  split
  ·rfl
  ·split<;>rfl
 rw[e,hq]
 congr 1
 unfold dl
 by_cases d8:a=b
 ·subst d8;simp
 ·rw[if_neg d8,if_neg fun h=>d8 (tS _ _ h)]
theorem jQ.akh {p inv u:Int} {n:Nat} {E X:aV} (h:jQ p n E X) {t:Nat} (ht:t<n) (hu:u*inv%p=1):∃X',jQ p n (s8 p inv E t) X':=by
 have jD:∃z,u*inv=1+p*z:=⟨u*inv/p,by have:=Int.emod_add_mul_ediv (u*inv) p;omega⟩
 obtain⟨z,hz⟩:=jD
 refine⟨fun k b=>if b=t then X k t*u else X k b,jQ.congr (E:=fun a k=>if a=t then E t k*inv else E a k) (fun a ha b hb=>?_) (fun a ha k hk=>?_)⟩
 ·obtain⟨q,hq⟩:=h a ha b hb
  by_cases bK:a=t
  ·subst bK
   by_cases lv:b=a
   ·subst lv
    refine⟨z+q*inv*u,?_⟩
    simp only[if_true]
    rw[P8,P9,hq,dl,if_pos rfl]
    grind
   ·refine⟨q*inv,?_⟩
    simp only[if_true,if_neg lv]
    rw[P8,hq,dl,if_neg (Ne.symm lv)]
    grind
  ·by_cases lv:b=t
   ·subst lv
    refine⟨q*u,?_⟩
    simp only[if_neg bK,if_true]
    rw[P9]
    have:fF (fun k=>E a k) (fun k=>X k b) n=dl a b+p*q:=hq
    rw[this,dl,if_neg bK]
    grind
   ·refine⟨q,?_⟩
    simp only[if_neg bK,if_neg lv]
    exact hq
 ·unfold s8
  by_cases bK:a=t
  ·simp only[bK,if_true]
   refine⟨-(E t k*inv/p),?_⟩
   have:=Int.emod_add_mul_ediv (E t k*inv) p
   have e:p* -(E t k*inv/p)= -(p*(E t k*inv/p)):=Int.mul_neg _ _
   omega
  ·simp only[bK,if_false]
   exact⟨0,by simp⟩
theorem jQ.add {p f:Int} {n:Nat} {E E' X:aV} (h:jQ p n E X) {m t:Nat} (hm:m<n) (ht:t<n) (yR:m≠t) (he:∀a,a<n->∀k,k<n->∃q,E' a k=(if a=m then E m k+f*E t k else E a k)+p*q):∃X',jQ p n E' X':=by
 refine⟨fun k b=>if b=t then X k t - f*X k m else X k b,jQ.congr (E:=fun a k=>if a=m then E m k+f*E t k else E a k) (fun a ha b hb=>?_) he⟩
 obtain⟨q1,h1⟩:=h a ha b hb
 obtain⟨q2,h2⟩:=h t ht b hb
 obtain⟨q3,h3⟩:=h a ha m hm
 obtain⟨q4,h4⟩:=h t ht m hm
 have iH:fF (fun k=>E a k) (fun k=>X k b) n=dl a b+p*q1:=h1
 have yC:fF (fun k=>E t k) (fun k=>X k b) n=dl t b+p*q2:=h2
 have yD:fF (fun k=>E a k) (fun k=>X k m) n=dl a m+p*q3:=h3
 have h4':fF (fun k=>E t k) (fun k=>X k m) n=dl t m+p*q4:=h4
 have d1:dl t m=0:=if_neg (Ne.symm yR)
 by_cases v7:a=m
 ·subst v7
  have d2:dl a a=1:=if_pos rfl
  by_cases lv:b=t
  ·subst lv
   have d3:dl a b=0:=if_neg yR
   have d4:dl b b=1:=if_pos rfl
   refine⟨q1+f*q2 - f*q3 - f*f*q4,?_⟩
   simp only[if_true]
   rw[P7,Hv,Hv,iH,yC,yD,h4',d1,d2,d3,d4]
   grind
  ·refine⟨q1+f*q2,?_⟩
   have d3:dl t b=0:=if_neg (Ne.symm lv)
   simp only[if_true,if_neg lv]
   rw[P7,iH,yC,d3]
   grind
 ·by_cases lv:b=t
  ·subst lv
   have d3:dl a m=0:=if_neg v7
   refine⟨q1 - f*q3,?_⟩
   simp only[if_neg v7,if_true]
   rw[Hv,iH,yD,d3]
   grind
  ·refine⟨q1,?_⟩
   simp only[if_neg v7,if_neg lv]
   exact iH
def RK (p:Int) (n:Nat) (s:aV×List Int×Int) (j:Nat):Prop:=
 (∃X,jQ p n (fun a k=>s.1 a (n+k)) X)/\∀b,b<j->∀i,s.2.1.length<=i->i<n->s.1 i b=0
theorem RK.step {p:Int} {n:Nat} {s:aV×List Int×Int} {j:Nat} (bE:db p=true) (hj:j<2*n) (I:RI p n (2*n) s j) (h:RK p n s j):RK p n (kU p n s j) (j+1):=by
 have hp:eC p:=e8 bE
 obtain⟨⟨X,hX⟩,hz⟩:=h
 obtain⟨M,L,d⟩:=s
 simp only at hX hz
 by_cases hl:L.length<n
 ·cases hk:oC M j (n - L.length) L.length with
  |none=>
   rw[XR (s:=(M,L,d)) hl hk]
   refine⟨⟨X,hX⟩,fun b hb i h1 h2=>?_⟩
   by_cases v8:b=j
   ·subst v8;exact NF hk i h1 (by simp only at h1;omega)
   ·exact hz b (by omega) i h1 h2
  |some k=>
   rw[XS (s:=(M,L,d)) hl hk]
   simp only
   have hq:=Gz hk
   have wq:k<n:=by omega
   have hM:dW p n (2*n) M:=I.m
   have hx:fE p (M k j):=hM k wq j hj
   have yW:di M L.length k L.length j=M k j:=if_pos rfl
   have hi:=V4 bE hx hq.2.2
   generalize ac2:pQ p 1 (M k j) (p - 2).toNat=inv at hi
   have adk:rr p M L.length j k=s8 p inv (di M L.length k) L.length:=by unfold rr;rw[yW,ac2]
   rw[adk]
   have hS:dW p n (2*n) (di M L.length k):=Qc hM hl wq
   generalize yE:s8 p inv (di M L.length k) L.length=M2
   have alI:dW p n (2*n) M2:=by rw[<-yE];exact Yj hp hS _
   constructor
   ·obtain⟨X1,hX1⟩:=hX.swap (s:=L.length) (t:=k) hl wq
    obtain⟨X2,hX2⟩:=hX1.akh (inv:=inv) (u:=M k j) hl hi
    have xZ:jQ p n (fun a b=>fZ p M2 L.length j 0 a (n+b)) X2:=by
     rw[aaF,<-yE];exact hX2
    have bU:∀m,m<=n->∃X',jQ p n (fun a b=>fZ p M2 L.length j m a (n+b)) X':=by
     intro m
     induction m with
     |zero=>intro _;exact⟨X2,xZ⟩
     |succ m ih=>
      intro hm
      obtain⟨X',TN⟩:=ih (by omega)
      by_cases yR:m=L.length
      ·subst yR
       rw[aaI];exact⟨X',TN⟩
      ·refine TN.add (f:=p - M2 m j) (m:=m) (t:=L.length) (by omega) hl yR fun a ha b hb=>?_
       show∃q,fZ p M2 L.length j (m+1) a (n+b)=_
       by_cases v7:a=m
       ·subst v7
        rw[if_pos rfl]
        show∃q,fZ p M2 L.length j (a+1) a (n+b)=(fZ p M2 L.length j a a (n+b)+(p - M2 a j)*fZ p M2 L.length j a L.length (n+b))+p*q
        rw[aaH,aaJ]
        unfold fZ
        rw[if_pos ⟨by omega,yR⟩]
        refine⟨-((M2 a (n+b)+(p - M2 a j)*M2 L.length (n+b))/p),?_⟩
        have e1:=Int.emod_add_mul_ediv (M2 a (n+b)+(p - M2 a j)*M2 L.length (n+b)) p
        have e2:=Int.mul_neg p ((M2 a (n+b)+(p - M2 a j)*M2 L.length (n+b))/p)
        omega
       ·rw[if_neg v7]
        refine⟨0,?_⟩
        show fZ p M2 L.length j (m+1) a (n+b)=fZ p M2 L.length j m a (n+b)+p*0
        unfold fZ
        by_cases hc:a<m/\a≠L.length
        ·rw[if_pos hc,if_pos ⟨by omega,hc.2⟩];simp
        ·rw[if_neg hc,if_neg (by omega)];simp
    exact bU n (Nat.le_refl _)
   ·intro b hb i h1 h2
    simp only[List.length_append,List.length_cons,List.length_nil] at h1
    show fZ p M2 L.length j n i b=0
    unfold fZ
    rw[if_pos ⟨h2,by omega⟩]
    have e2:∀c,M2 i c=di M L.length k i c:=fun c=>by rw[<-yE];exact if_neg (by omega)
    have e3:∀c,M2 L.length c=M k c*inv%p:=fun c=>by rw[<-yE];show(if L.length=L.length then _ else _)=_;rw[if_pos rfl];congr 2;exact if_pos rfl
    by_cases v8:b=j
    ·subst v8
     rw[e3 b,hi]
     have:M2 i b+(p - M2 i b)*1=p:=by omega
     rw[this];exact Int.emod_self
    ·have Kv:b<j:=by omega
     rw[e3 b,hz b Kv k hq.1 wq,e2 b]
     have:di M L.length k i b=0:=by
      unfold di
      rw[if_neg (by omega)]
      split
      ·exact hz b Kv L.length (Nat.le_refl _) hl
      ·exact hz b Kv i (by omega) h2
     rw[this];simp
 ·unfold kU
  rw[if_neg hl]
  exact⟨⟨X,hX⟩,fun b hb i h1 h2=>by simp only at h1;omega⟩
end Go.Am
end
section
namespace Go.Am
def alw (n:Nat) (M:aV):aV:=fun a b=>if b<n then M a b else dl a (b - n)
def alx (n:Nat) (M:aV):aV:=cV (2*n) (gf n (2*n) (alw n M))
def V3 (p:Int) (n:Nat) (M:aV):aV×List Int×Int:=cE p n (alx n M) (2*n)
def afk (p:Int) (n:Nat) (M:aV):Prop:=∀i,i<n->(V3 p n M).2.1.getD i 0=(i:Int)
instance (p:Int) (n:Nat) (M:aV):Decidable (afk p n M):=inferInstanceAs (Decidable (∀i,i<n->(V3 p n M).2.1.getD i 0=(i:Int)))
section
variable {p:Int} {n:Nat} {M R:aV} {L:List Int}
end
section
variable {p:Int} {n:Nat} {M R:aV} {L:List Int}
end
end Go.Am
end
section
namespace Go.Am
abbrev iq:=Int×Int×List Int
abbrev HQ:=Int×Int×List Int×List (Int×Int×List Int)×List Int
def HH (k:Nat) (w:List Int):Prop:=∀c∈w,0<=c/\c<(k:Int)
instance (k:Nat) (w:List Int):Decidable (HH k w):=inferInstanceAs (Decidable (∀c∈w,0<=c/\c<(k:Int)))
def aae (x:HQ):Bool:=match x with
 |(m,n,a,ms,b)=>db m&&(decide (0<=n/\n<=24)&&((oL m a&&decide ((a.length:Int)=n))&&((oL m b&&decide ((b.length:Int)=n))&&(decide (1<=ms.length/\ms.length<=4)&&ms.all fun y=>decide (y.1=n/\y.2.1=n/\y.2.2.length=n.toNat*n.toNat)&&oL m y.2.2))))
def XN (x:HQ×List Int):Prop:=aae x.1=true/\HH x.1.2.2.2.1.length x.2/\x.2.length<=1048576
instance (x:HQ×List Int):Decidable (XN x):=by unfold XN;infer_instance
structure Aw (N:Nat) (p:Int) (n:Nat) (a:List Int) (ms:List iq) (b:List Int):Prop where
 pr:db p=true
 hn:n<=N
 al:a.length=n
 ap:fo p a
 bl:b.length=n
 bp:fo p b
 l1:1<=ms.length
 l4:ms.length<=4
 hm:∀x∈ms,∃M:aV,x=((n:Int),(n:Int),gf n n M)/\dW p n n M
abbrev ZJ:=Aw 12
abbrev ZI:=Aw 24
theorem Aw.p {N:Nat} {p:Int} {n:Nat} {a b:List Int} {ms:List iq} (h:Aw N p n a ms b):eC p:=e8 h.pr
theorem Aw.b {p:Int} {n:Nat} {a b:List Int} {ms:List iq} (h:ZJ p n a ms b):ZI p n a ms b:=⟨h.pr,Nat.le_trans h.hn (by omega),h.al,h.ap,h.bl,h.bp,h.l1,h.l4,h.hm⟩
section
variable {p:Int} {n:Nat} {a b:List Int} {ms:List iq}
end
end Go.Am
end
section
namespace Go.Am
section
variable {p:Int} {n m:Nat} {a b a2 b2:List Int} {ms MJ:List iq}
end
section
variable {p sg:Int} {n m:Nat} {a b a2 b2:List Int} {ms MJ:List iq}
end
end Go.Am
end
section
namespace Go.Am
section
variable {n:Int} {d:List (Int×Int)} {a b:Int}
end
end Go.Am
end
section
namespace Go.Am
def nD (b a:Int) (l:List Int):List Int:=l.map fun x=>if x=b then a else x
def tC (l:List Int) (i:Int):Int:=l.getD i.toNat 0
def uq (n:Nat):List Int:=(List.range n).map fun i=>((i:Nat):Int)
def zJ (s:Nat) (i:Nat) (st:Int×List Int) (e:Int×Int):Int×List Int:=
 if s.testBit i=true/\tC st.2 e.1≠tC st.2 e.2 then(st.1 - 1,nD (tC st.2 e.2) (tC st.2 e.1) st.2) else st
def parts (n:Int) (es:List (Int×Int)) (s:Int):Int×List Int:=qH (zJ s.toNat) 0 (n,uq n.toNat) es
def Mp (s:Nat) (i:Nat) (l:List Int) (e:Int×Int):List Int:=
 if s.testBit i=true then nD (max (tC l e.1) (tC l e.2)) (min (tC l e.1) (tC l e.2)) l else l
def JB (l:List Int):Int:=((List.range l.length).countP fun i=>l.getD i 0==(i:Int):Nat)
theorem LR (n:Nat):(uq n).length=n:=by simp[uq]
theorem NR (b a:Int) (l:List Int):(nD b a l).length=l.length:=by simp[nD]
theorem R5 (p:Nat->Bool) (j:Nat):(List.range (j+1)).countP p=(List.range j).countP p+(if p j=true then 1 else 0):=by
 rw[List.range_succ,List.countP_append,List.countP_singleton]
theorem R4 (p q:Nat->Bool) (k:Nat):∀n,k<n->(∀i,i<n->i≠k->p i=q i)->p k=true->q k=false->(List.range n).countP p=(List.range n).countP q+1
 |0,h,_,_,_=>by omega
 |n+1,h,K5,h1,h2=>by
  rw[R5,R5]
  by_cases hk:k=n
  ·subst hk
   rw[h1,h2]
   have:(List.range k).countP p=(List.range k).countP q:=List.countP_congr fun i hi=>by
    have:=List.mem_range.1 hi
    rw[K5 i (by omega) (by omega)]
   rw[this]
   simp
  ·rw[R4 p q k n (by omega) (fun i hi=>K5 i (by omega)) h1 h2,K5 n (by omega) (by omega)]
   omega
structure AD (m:Nat) (l:List Int) (c:Int) (q:List Int):Prop where
 ll:l.length=m
 lq:q.length=m
 fA:∀i j:Nat,i<m->j<m->(l.getD i 0=l.getD j 0↔q.getD i 0=q.getD j 0)
 low:∀i:Nat,i<m->0<=l.getD i 0/\l.getD i 0<=(i:Int)/\l.getD (l.getD i 0).toNat 0=l.getD i 0
 bm:JB l=c
theorem XV {b a:Int} {l:List Int} {i:Nat} (h:i<l.length):(nD b a l).getD i 0=if l.getD i 0=b then a else l.getD i 0:=by
 simp[nD,List.getD,List.getElem?_map,List.getElem?_eq_getElem h]
theorem ajD (b:Int) (l:List Int):nD b b l=l:=by
 unfold nD
 conv=>rhs;rw[<-List.map_id l]
 refine List.map_congr_left fun x _=>?_
 split
 ·rename_i h;exact h.symm
 ·rfl
theorem W5 {b a x y:Int}:((if x=b then a else x)=(if y=b then a else y))↔(x=y\/((x=b\/x=a)/\(y=b\/y=a))):=by
 constructor
 ·intro h;split at h<;>split at h<;>omega
 ·intro h;split<;>split<;>omega
theorem AD.step {m:Nat} {l:List Int} {c:Int} {q:List Int} (h:AD m l c q) {u v:Nat} (hu:u<m) (hv:v<m) {s i:Nat}:
  AD m (Mp s i l ((u:Int),(v:Int))) (zJ s i (c,q) ((u:Int),(v:Int))).1 (zJ s i (c,q) ((u:Int),(v:Int))).2:=by
 cases hb:s.testBit i with
 |false=>
  have e1:Mp s i l ((u:Int),(v:Int))=l:=if_neg (by rw[hb];decide)
  have e2:zJ s i (c,q) ((u:Int),(v:Int))=(c,q):=if_neg (fun hh=>by rw[hb] at hh;exact absurd hh.1 (by decide))
  rw[e1,e2]
  exact h
 |true=>
  have ep:q.getD u 0=q.getD v 0->zJ s i (c,q) ((u:Int),(v:Int))=(c,q):=fun h=>if_neg (fun hh=>hh.2 h)
  have en:q.getD u 0≠q.getD v 0->zJ s i (c,q) ((u:Int),(v:Int))=(c - 1,nD (q.getD v 0) (q.getD u 0) q):=fun h=>if_pos ⟨hb,h⟩
  have el:Mp s i l ((u:Int),(v:Int))=nD (max (l.getD u 0) (l.getD v 0)) (min (l.getD u 0) (l.getD v 0)) l:=if_pos hb
  obtain⟨ll,lq,fA,low,bm⟩:=h
  by_cases hq:q.getD u 0=q.getD v 0
  ·have hl:=(fA u v hu hv).2 hq
   rw[ep hq,el,hl,Int.max_self,Int.min_self,ajD]
   exact⟨ll,lq,fA,low,bm⟩
  ·have hl:l.getD u 0≠l.getD v 0:=fun e=>hq ((fA u v hu hv).1 e)
   rw[en hq,el]
   obtain⟨lu0,lu1,Mz⟩:=low u hu
   obtain⟨lv0,lv1,MA⟩:=low v hv
   obtain⟨lo,hi,e1,e2,bB,ua,ac8,pG,sA,T6⟩:∃lo hi:Nat,min (l.getD u 0) (l.getD v 0)=(lo:Int)/\max (l.getD u 0) (l.getD v 0)=(hi:Int)/\lo<hi/\
     (∀x:Int,(x=(hi:Int)\/x=(lo:Int))↔(x=l.getD v 0\/x=l.getD u 0))/\lo<m/\l.getD lo 0=(lo:Int)/\l.getD hi 0=(hi:Int)/\hi<m:=by
    obtain⟨a,ha⟩:=kj lu0
    obtain⟨b,hb⟩:=kj lv0
    rw[ha,Int.toNat_natCast] at Mz
    rw[hb,Int.toNat_natCast] at MA
    rw[ha] at lu1 hl
    rw[hb] at lv1 hl
    rw[ha,hb]
    rcases Nat.lt_or_ge a b with d8|d8
    ·exact⟨a,b,by omega,by omega,d8,fun x=>by omega,by omega,Mz,MA,by omega⟩
    ·exact⟨b,a,by omega,by omega,by omega,fun x=>by omega,by omega,MA,Mz,by omega⟩
   rw[e1,e2]
   have gl:∀j,j<m->(nD (hi:Int) (lo:Int) l).getD j 0=if l.getD j 0=(hi:Int) then(lo:Int) else l.getD j 0:=fun j hj=>XV (by omega)
   have gq:∀j,j<m->(nD (q.getD v 0) (q.getD u 0) q).getD j 0=if q.getD j 0=q.getD v 0 then q.getD u 0 else q.getD j 0:=fun j hj=>XV (by omega)
   refine⟨by rw[NR];exact ll,by rw[NR];exact lq,?_,?_,?_⟩
   ·intro x y hx hy
    rw[gl x hx,gl y hy,gq x hx,gq y hy,W5,W5,ua,ua,fA x y hx hy,fA x u hx hu,fA x v hx hv,fA y u hy hu,fA y v hy hv]
   ·intro x hx
    obtain⟨h0,h1,h2⟩:=low x hx
    rw[gl x hx]
    by_cases Lj:l.getD x 0=(hi:Int)
    ·rw[if_pos Lj]
     refine⟨by omega,by omega,?_⟩
     rw[Int.toNat_natCast,gl lo ac8,pG,if_neg (by omega)]
    ·rw[if_neg Lj]
     refine⟨h0,h1,?_⟩
     rw[gl _ (by omega),h2,if_neg Lj]
   ·have hc:=R4 (fun j=>l.getD j 0==(j:Int)) (fun j=>(nD (hi:Int) (lo:Int) l).getD j 0==(j:Int)) hi m T6 ?_ (by rw[sA];simp) (by rw[gl hi T6,if_pos sA];simp;omega)
    ·unfold JB at bm⊢
     rw[NR,ll]
     rw[ll,hc] at bm
     omega
    ·intro j hj av
     rw[gl j hj]
     by_cases KN:l.getD j 0=(hi:Int)
     ·rw[if_pos KN,KN,Bool.eq_iff_iff]
      simp only[beq_iff_eq]
      constructor
      ·intro h;omega
      ·intro h
       have:lo=j:=by omega
       subst this
       omega
     ·rw[if_neg KN]
theorem LQ {m i:Nat} (h:i<m):(uq m).getD i 0=(i:Int):=by
 simp[uq,List.getD,List.getElem?_map,List.getElem?_range h]
theorem AD.init (m:Nat):AD m (uq m) (m:Int) (uq m):=by
 refine⟨LR m,LR m,fun _ _ _ _=>Iff.rfl,fun i hi=>?_,?_⟩
 ·rw[LQ hi,Int.toNat_natCast,LQ hi]
  omega
 ·unfold JB
  rw[LR]
  have:(List.range m).countP (fun i=>(uq m).getD i 0==(i:Int))=(List.range m).length:=by
   rw[List.countP_eq_length]
   intro i hi
   rw[LQ (List.mem_range.1 hi)]
   simp
  rw[this,List.length_range]
end Go.Am
end
section
namespace Go.Am
end Go.Am
end
section
namespace Go.Am
def cS (om:Bool) (w:Nat) (x y:Nat->Int) (t:Nat):Int:=sm w (fun i=>sm w (fun j=>kW om x y t i j))
def pc (x y:Nat->Int) (t:Nat):Int:=sm (t+1) (fun i=>x i*y (t - i))
theorem zZ:∀(n:Nat) {f:Nat->Int},(∀i,i<n->f i=0)->sm n f=0
 |0,_,_=>rfl
 |n+1,f,h=>by simp only[sm];rw[zZ n (fun i hi=>h i (by omega)),h n (by omega)];rfl
theorem te {a:Nat} {f:Nat->Int}:∀(n:Nat),a<n->(∀i,i<n->i≠a->f i=0)->sm n f=f a
 |0,h,_=>by omega
 |n+1,h,hf=>by
  simp only[sm]
  by_cases e:a=n
  ·subst e
   rw[zZ a (fun i hi=>hf i (by omega) (by omega))];omega
  ·rw[te n (by omega) (fun i hi av=>hf i (by omega) av),hf n (by omega) (by omega)];omega
theorem PM {m:Nat} {f:Nat->Int}:∀(n:Nat),m<=n->(∀i,i<n->m<=i->f i=0)->sm n f=sm m f
 |0,h,_=>by rw[show m=0 by omega]
 |n+1,h,hf=>by
  by_cases e:m=n+1
  ·rw[e]
  ·simp only[sm]
   rw[PM n (by omega) (fun i hi hm=>hf i (by omega) hm),hf n (by omega) (by omega)];omega
theorem zY {p:Int} {f g:Nat->Int}:∀{n:Nat},(∀i,i<n->f i%p=g i%p)->sm n f%p=sm n g%p
 |0,_=>rfl
 |n+1,h=>by simp only[sm];rw[Int.add_emod,zY (n:=n) (fun i hi=>h i (by omega)),h n (by omega),<-Int.add_emod]
theorem AR {w t:Nat} (x y:Nat->Int) (h:t<w):cS false w x y t=pc x y t:=by
 have fu:∀i,i<w->sm w (fun j=>kW false x y t i j)=if i<=t then x i*y (t - i) else 0:=by
  intro i hi
  split
  ·rename_i tT
   rw[te (a:=t - i) w (by omega) (fun j hj av=>by unfold kW;rw[if_neg (by omega),if_neg (by simp)])]
   unfold kW
   rw[if_pos (by omega)]
  ·exact zZ w fun j hj=>by unfold kW;rw[if_neg (by omega),if_neg (by simp)]
 unfold cS pc
 rw[kZ fu,PM (m:=t+1) w (by omega) (fun i hi hm=>if_neg (by omega))]
 exact kZ fun i hi=>if_pos (by omega)
theorem ah7 {p a b:Int} (d8:a%p=b%p):(-a)%p=(-b)%p:=by
 have:(0 - a)%p=(0 - b)%p:=by rw[Int.sub_emod,d8,<-Int.sub_emod]
 simpa using this
theorem Ru {om:Bool} {w t:Nat} {p:Int} {x x' y y':Nat->Int} (hx:∀i,i<w->x i%p=x' i%p) (hy:∀i,i<w->y i%p=y' i%p):cS om w x y t%p=cS om w x' y' t%p:=by
 refine zY fun i hi=>zY fun j hj=>?_
 have hm:(x i*y j)%p=(x' i*y' j)%p:=by rw[Int.mul_emod,hx i hi,hy j hj,<-Int.mul_emod]
 unfold kW
 split
 ·exact hm
 ·split
  ·exact ah7 hm
  ·rfl
theorem IV {om:Bool} {w t:Nat} {x x' y y':Nat->Int} (hx:∀i,i<w->x i=x' i) (hy:∀i,i<w->y i=y' i):cS om w x y t=cS om w x' y' t:=
 kZ fun i hi=>kZ fun j hj=>by unfold kW;rw[hx i hi,hy j hj]
theorem ai3 (x y z:Nat->Int) {t:Nat} (h:t<6):pc (pc x y) z t=pc x (pc y z) t:=by
 match t,h with
 |0,_=>simp only[pc,sm,Nat.reduceSub,Nat.reduceAdd,Nat.zero_add];try grind
 |1,_=>simp only[pc,sm,Nat.reduceSub,Nat.reduceAdd,Nat.zero_add];try grind
 |2,_=>simp only[pc,sm,Nat.reduceSub,Nat.reduceAdd,Nat.zero_add];try grind
 |3,_=>simp only[pc,sm,Nat.reduceSub,Nat.reduceAdd,Nat.zero_add];try grind
 |4,_=>simp only[pc,sm,Nat.reduceSub,Nat.reduceAdd,Nat.zero_add];try grind
 |5,_=>simp only[pc,sm,Nat.reduceSub,Nat.reduceAdd,Nat.zero_add];try grind
theorem vJ (x y:Nat->Int):cS true 4 x y 0=x 0*y 0 - x 1*y 3 - x 2*y 2 - x 3*y 1:=by simp[cS,sm,kW];grind
theorem vK (x y:Nat->Int):cS true 4 x y 1=x 0*y 1+x 1*y 0 - x 2*y 3 - x 3*y 2:=by simp[cS,sm,kW];grind
theorem vL (x y:Nat->Int):cS true 4 x y 2=x 0*y 2+x 1*y 1+x 2*y 0 - x 3*y 3:=by simp[cS,sm,kW];grind
theorem vM (x y:Nat->Int):cS true 4 x y 3=x 0*y 3+x 1*y 2+x 2*y 1+x 3*y 0:=by simp[cS,sm,kW]
theorem aaN (x y z:Nat->Int) {t:Nat} (h:t<4):cS true 4 (cS true 4 x y) z t=cS true 4 x (cS true 4 y z) t:=by
 match t,h with
 |0,_=>rw[vJ,vJ];simp only[vJ,vK,vL,vM];grind
 |1,_=>rw[vK,vK];simp only[vJ,vK,vL,vM];grind
 |2,_=>rw[vL,vL];simp only[vJ,vK,vL,vM];grind
 |3,_=>rw[vM,vM];simp only[vJ,vK,vL,vM];grind
theorem aas {k p:Int} {w:Nat} (c:HS k p w) (x y z:Nat->Int) {t:Nat} (h:t<w):cS (decide (k=8)) w (cS (decide (k=8)) w x y) z t=cS (decide (k=8)) w x (cS (decide (k=8)) w y z) t:=by
 by_cases h8:k=8
 ·obtain rfl:=c.w8 h8
  rw[decide_eq_true h8]
  exact aaN x y z h
 ·rw[decide_eq_false h8]
  have h6:=c.cw
  rw[IV (x':=pc x y) (y':=z) (fun i hi=>AR x y hi) (fun _ _=>rfl),AR _ _ h,IV (x':=x) (y':=pc y z) (fun _ _=>rfl) (fun i hi=>AR y z hi),AR _ _ h]
  exact ai3 x y z (by omega)
theorem Je (p:Int) (om:Bool) (w:Nat) (x y:Nat->Int):vO p om w x y=mL w fun t=>cS om w x y t%p:=rfl
theorem AZ {r:Int×Int×Int} (h:r.1=7\/r.1=8) (x y:List Int):uB r x y=vO r.2.1 (decide (r.1=8)) (dZ r) (dK x) (dK y):=if_pos h
theorem W6 {a b c p:Int} (hp:0<=p) (ha:0<=a) (hb:0<=b) (hc:0<=c):min (min (a*b) p*c) p=min (a*b*c) p:=by
 generalize hm:a*b=m
 by_cases h:m<=p
 ·rw[show min m p=m by omega]
 ·rw[show min m p=p by omega]
  by_cases h0:c=0
  ·subst h0;simp
  ·have h1:p*1<=p*c:=Int.mul_le_mul_of_nonneg_left (by omega) hp
   have h2:p*c<=m*c:=Int.mul_le_mul_of_nonneg_right (by omega) hc
   omega
theorem ZA {r:Int×Int×Int} (hk:¬(r.1=7\/r.1=8)):dZ r=1:=by
 obtain⟨k,p,n⟩:=r
 simp only at hk
 simp only[dZ,oV]
 rw[if_neg (by omega),if_neg (by omega)]
 rfl
theorem aim {r:Int×Int×Int} (hr:qb r=true) (hk:¬(r.1=7\/r.1=8)) {a b c:Int} (ha:0<=a/\a<=ij r) (hb:0<=b/\b<=ij r) (hc:0<=c/\c<=ij r):nC r (nC r a b) c=nC r a (nC r b c):=by
 obtain⟨k,p,n⟩:=r
 simp only at hk
 rcases GJ hr with⟨rfl,rfl,rfl⟩|⟨rfl,hp,rfl⟩|⟨rfl,hp,rfl⟩|⟨rfl,hp,rfl⟩|⟨rfl,hp,rfl⟩|⟨rfl,rfl,hn⟩|⟨rfl,hp,hn⟩|⟨rfl,hp,tZ,rfl⟩
 ·have o:∀u v,nC (1,0,0) u v=((u.toNat&&&v.toNat:Nat):Int):=fun _ _=>rfl
  rw[o,o,o,o,Int.toNat_natCast,Int.toNat_natCast,Nat.and_assoc]
 ·have o:∀u v,nC (2,p,0) u v=u*v%p:=fun _ _=>rfl
  rw[o,o,o,o,Int.mul_emod,Int.emod_emod,<-Int.mul_emod,Int.mul_emod a,Int.emod_emod,<-Int.mul_emod,Int.mul_assoc]
 ·have o:∀u v,nC (3,p,0) u v=min (u*v) p:=fun _ _=>rfl
  rw[o,o,o,o,W6 (by omega) ha.1 hb.1 hc.1,Int.mul_comm a (min _ _),W6 (by omega) hb.1 hc.1 ha.1,Int.mul_assoc a b c,Int.mul_comm a]
 ·have o:∀u v,nC (4,p,0) u v=min (u+v) p:=fun _ _=>rfl
  rw[o,o,o,o];omega
 ·have o:∀u v,nC (5,p,0) u v=min u v:=fun _ _=>rfl
  rw[o,o,o,o];omega
 ·have o:∀u v,nC (6,0,n) u v=((u.toNat&&&v.toNat:Nat):Int):=fun _ _=>rfl
  rw[o,o,o,o,Int.toNat_natCast,Int.toNat_natCast,Nat.and_assoc]
 ·omega
 ·omega
theorem mul_assoc {r:Int×Int×Int} {x y z:List Int} (hr:qb r=true) (hx:pk r x=true) (hy:pk r y=true) (hz:pk r z=true):uB r (uB r x y) z=uB r x (uB r y z):=by
 by_cases hk:r.1=7\/r.1=8
 ·obtain⟨k,p,n⟩:=r
  have c:=Rw hr hk
  rw[AZ hk,AZ hk,AZ hk,AZ hk]
  simp only
  refine Y9 fun t ht=>?_
  show cS (decide (k=8)) (dZ (k,p,n)) (dK (vO p (decide (k=8)) (dZ (k,p,n)) (dK x) (dK y))) (dK z) t%p=cS (decide (k=8)) (dZ (k,p,n)) (dK x) (dK (vO p (decide (k=8)) (dZ (k,p,n)) (dK y) (dK z))) t%p
  have e1:cS (decide (k=8)) (dZ (k,p,n)) (dK (vO p (decide (k=8)) (dZ (k,p,n)) (dK x) (dK y))) (dK z) t%p=cS (decide (k=8)) (dZ (k,p,n)) (cS (decide (k=8)) (dZ (k,p,n)) (dK x) (dK y)) (dK z) t%p:=
   Ru (fun i hi=>by rw[Je,JF _ hi,Int.emod_emod]) (fun _ _=>rfl)
  have e2:cS (decide (k=8)) (dZ (k,p,n)) (dK x) (dK (vO p (decide (k=8)) (dZ (k,p,n)) (dK y) (dK z))) t%p=cS (decide (k=8)) (dZ (k,p,n)) (dK x) (cS (decide (k=8)) (dZ (k,p,n)) (dK y) (dK z)) t%p:=
   Ru (fun _ _=>rfl) (fun i hi=>by rw[Je,JF _ hi,Int.emod_emod])
  rw[e1,e2,aas c _ _ _ ht]
 ·have hw:=ZA hk
  obtain⟨a,b,rfl,rfl,ha,hb⟩:=Ss hx hy hw
  obtain⟨_,c,e,rfl,_,hc⟩:=Ss hx hz hw
  rw[Ct hk,Ct hk,Ct hk,Ct hk,aim hr hk ha hb hc]
theorem acE {k p n:Int} (hk:k=7\/k=8) {j:Nat} (hj:j<dZ (k,p,n)):dK (zH (k,p,n)) j=if j=0 then 1 else 0:=by
 rw[aik,JF _ hj,if_neg (show¬k=4 by omega),if_neg (show¬(k=5\/k=6) by omega)]
theorem aar {k p:Int} {w:Nat} (c:HS k p w) (u:Nat->Int) (v:Int) {t:Nat} (h:t<w):cS (decide (k=8)) w u (fun j=>if j=0 then v else 0) t=u t*v:=by
 by_cases h8:k=8
 ·obtain rfl:=c.w8 h8
  rw[decide_eq_true h8]
  match t,h with
  |0,_=>rw[vJ];simp
  |1,_=>rw[vK];simp
  |2,_=>rw[vL];simp
  |3,_=>rw[vM];simp
 ·rw[decide_eq_false h8,AR _ _ h]
  unfold pc
  rw[te (a:=t) (t+1) (by omega) (fun i hi av=>by simp only;rw[if_neg (by omega),Int.mul_zero])]
  simp only
  rw[if_pos (by omega)]
theorem ain {k p n:Int} (hr:qb (k,p,n)=true) (hk:¬(k=7\/k=8)) {a:Int} (ha:0<=a/\a<=ij (k,p,n)):nC (k,p,n) a (if k=4 then 0 else if k=5\/k=6 then ij (k,p,n) else 1)=a:=by
 rcases GJ hr with⟨rfl,rfl,rfl⟩|⟨rfl,hp,rfl⟩|⟨rfl,hp,rfl⟩|⟨rfl,hp,rfl⟩|⟨rfl,hp,rfl⟩|⟨rfl,rfl,hn⟩|⟨rfl,hp,hn⟩|⟨rfl,hp,tZ,rfl⟩
 ·have e:ij (1,0,0)=1:=rfl
  have h1:a=0\/a=1:=by omega
  rcases h1 with rfl|rfl<;>decide
 ·have e:ij (2,p,0)=p - 1:=rfl
  have:=e8 hp
  show a*1%p=a
  rw[Int.mul_one,Int.emod_eq_of_lt (by omega) (by omega)]
 ·have e:ij (3,p,0)=p:=rfl
  show min (a*1) p=a
  omega
 ·have e:ij (4,p,0)=p:=rfl
  show min (a+0) p=a
  omega
 ·have e:ij (5,p,0)=p:=rfl
  show min a p=a
  omega
 ·have e:ij (6,0,n)=2^n.toNat - 1:=rfl
  have e2:(((2:Nat)^n.toNat:Nat):Int)=(2:Int)^n.toNat:=by push_cast;rfl
  show((a.toNat&&&(2^n.toNat - 1:Int).toNat:Nat):Int)=a
  rw[show(2^n.toNat - 1:Int).toNat=2^n.toNat - 1 by omega,Nat.and_two_pow_sub_one_eq_mod,Nat.mod_eq_of_lt (by omega)]
  omega
 ·omega
 ·omega
theorem mul_one {r:Int×Int×Int} {x:List Int} (hr:qb r=true) (hx:pk r x=true):uB r x (zH r)=x:=by
 obtain⟨k,p,n⟩:=r
 by_cases hk:k=7\/k=8
 ·have c:=Rw hr hk
  rw[AZ hk,Je]
  simp only
  have hT:ij (k,p,n)=p - 1:=by
   simp only[ij]
   rw[if_neg (by omega),if_neg (by omega),if_neg (by omega)]
  refine(Y9 fun t ht=>?_).trans (ak2 (Sr hx))
  rw[IV (x':=dK x) (y':=fun j=>if j=0 then 1 else 0) (fun _ _=>rfl) (fun i hi=>acE hk hi),aar c _ _ ht,Int.mul_one]
  have:=Sq hx ht
  rw[hT] at this
  exact Int.emod_eq_of_lt this.1 (by omega)
 ·have hw:=ZA (r:=(k,p,n)) hk
  obtain⟨e,ha⟩:=Bb hx hw
  have e1:zH (k,p,n)=[if k=4 then 0 else if k=5\/k=6 then ij (k,p,n) else 1]:=by simp only[zH];exact ajG hw
  rw[e,e1,Ct hk,ain hr hk ha]
end Go.Am
end
section
namespace Go.Am
abbrev Rg:=Int×Int×Int
abbrev T3:=List Int×List Int×List Int
abbrev Dk:=Int×List (List Int)
def ald (r:Rg) (t:T3):Bool:=qb r&&(decide (0<=Zl t.1 t.2.1)&&(decide ((t.2.2.length:Int)=Zl t.1 t.2.1*oV r)&&t.2.2.all (LG (ij r))))
def RD (R:List (List Int)) (ix:List Int) (i:Nat):Int:=(R.getD i []).getD (ix.getD i 0).toNat 0
def Y3 (x:Dk×List Int):Prop:=(1<=x.1.1/\x.1.1<=12)/\x.2.length<=12/\∀i,i<x.2.length->i<x.1.2.length/\(0<=x.2.getD i 0/\(x.2.getD i 0).toNat<(x.1.2.getD i []).length)/\0<=RD x.1.2 x.2 i/\RD x.1.2 x.2 i<=12
instance (x:Dk×List Int):Decidable (Y3 x):=by unfold Y3;infer_instance
def XE (x:Rg×T3×Int×List Int):Prop:=qb x.1=true/\0<=x.2.2.1/\x.2.2.1.toNat*dZ x.1+x.2.2.2.length<=x.2.1.2.2.length/\x.2.1.2.2.length<=1048576
instance (x:Rg×T3×Int×List Int):Decidable (XE x):=by unfold XE;infer_instance
def Sv (x:Rg×T3×Int):Prop:=qb x.1=true/\0<=x.2.2/\(x.2.2.toNat+1)*dZ x.1<=x.2.1.2.2.length/\x.2.1.2.2.length<=1048576
instance (x:Rg×T3×Int):Decidable (Sv x):=by unfold Sv;infer_instance
def R0 (x:Rg×T3×Dk):Prop:=(x.2.1.1.length<=1048576/\x.2.1.2.1.length<=1048576/\x.2.1.2.2.length<=1048576)/\IY (x.2.1,x.2.2)
instance (x:Rg×T3×Dk):Decidable (R0 x):=by unfold R0;infer_instance
end Go.Am
end
section
namespace Go.Am
theorem uk {α:Type} {a b:Prop} [Decidable a] [Decidable b] (h:a↔b) (x y:α):(if a then x else y)=if b then x else y:=by simp only[h]
end Go.Am
end
section
namespace Go.Am
theorem Tv {α:Type} (l:List α) (x:α):aI 0 (bW (aa l) (aa [x])) (aa (g8 l [x]))=some ():=by
 rw[show aa (g8 l [x])=bW (aa l) (aa [x]) by simp[bW,aa,g8]];exact cQ _
end Go.Am
end
section
namespace Go.Am
def We (x:Int×iq×iq):Prop:=eC x.1/\wU x.2.1/\wU x.2.2/\(x.2.1.1*x.2.2.1<=4096/\x.2.1.2.1*x.2.2.2.1<=4096)/\(x.2.1.1*x.2.2.1)*(x.2.1.2.1*x.2.2.2.1)<=1048576/\fo x.1 x.2.1.2.2/\fo x.1 x.2.2.2.2
instance (x:Int×iq×iq):Decidable (We x):=by unfold We;infer_instance
section
variable {p:Int} {r c s d:Nat} {A B:aV}
end
section
variable {p:Int} {n m:Nat} {a b a2 b2:List Int} {ms MJ:List iq}
end
end Go.Am
end
section
namespace Go.Am
theorem Sn (p:Int) (f g:Nat->Int):∀n,tI p f g n=sm n (fun t=>f t*g t)%p
 |0=>by simp[tI,sm]
 |n+1=>by simp only[tI,sm];rw[Sn p f g n,Int.emod_add_emod]
theorem xi (c:Int) (f:Nat->Int):∀n,sm n (fun t=>c*f t)=c*sm n f
 |0=>by simp[sm]
 |n+1=>by simp only[sm];rw[xi c f n,Int.mul_add]
theorem Yz (c:Int) (f:Nat->Int) (n:Nat):sm n (fun t=>f t*c)=sm n f*c:=by
 rw[Int.mul_comm,<-xi]
 exact kZ fun i _=>Int.mul_comm _ _
theorem Ha (f g:Nat->Int):∀n,sm n (fun t=>f t+g t)=sm n f+sm n g
 |0=>by simp[sm]
 |n+1=>by simp only[sm];rw[Ha f g n];omega
theorem PN (f:Nat->Nat->Int) (m:Nat):∀n,sm n (fun i=>sm m (fun j=>f i j))=sm m (fun j=>sm n (fun i=>f i j))
 |0=>by simp only[sm];exact(zZ m fun _ _=>rfl).symm
 |n+1=>by simp only[sm];rw[PN f m n,<-Ha]
end Go.Am
end
section
namespace Go.Am
abbrev Wd:=List Int
structure BI (p:Int) (n t:Nat) (S:List Wd×List Int) (q:List Wd):Prop where
 dl:S.2.length=S.1.length*n
 dp:fo p S.2
 kn:S.1.length<=n
 qo:∀w∈q,HH t w/\w.length<=S.1.length
 wo:∀w∈S.1,HH t w/\w.length<=n
section
variable {p:Int} {n:Nat} {s b:List Int} {ms:List iq}
theorem BI.no {S:List Wd×List Int} {w:Wd} {q:List Wd} (h:BI p n ms.length S (w::q)):BI p n ms.length S q:=⟨h.dl,h.dp,h.kn,fun v hv=>h.qo v (by simp[hv]),h.wo⟩
end
section
variable {p:Int} {n:Nat} {s b:List Int} {ms:List iq}
end
end Go.Am
end
section
namespace Go.Am
section
variable {p:Int} {n:Nat} {s b:List Int} {ms:List iq}
end
end Go.Am
end
section
namespace Go.Am
def YF (x:Int×iq×iq):Prop:=eC x.1/\(0<=x.2.1.1/\x.2.1.1<=x.2.1.2.1/\x.2.1.2.1<=12)/\(0<=x.2.2.1/\x.2.2.1<=12)/\x.2.2.2.1=x.2.1.2.1/\(x.2.1.2.2.length=x.2.1.1.toNat*x.2.1.2.1.toNat/\x.2.2.2.2.length=x.2.2.1.toNat*x.2.1.2.1.toNat)/\fo x.1 x.2.1.2.2/\fo x.1 x.2.2.2.2
instance (x:Int×iq×iq):Decidable (YF x):=by unfold YF;infer_instance
end Go.Am
end
section
namespace Go.Am
end Go.Am
end
section
namespace Go.Am
end Go.Am
end
section
namespace Go.Am
def IG (p:Int) (M:aV) (i j:Nat):Prop:=(M i j+M j i)%p=0/\(i=j->M i j=0)
instance (p:Int) (M:aV) (i j:Nat):Decidable (IG p M i j):=by unfold IG;infer_instance
def Q7 (p:Int) (M:aV) (i:Nat):Prop:=∀j,j<i+1->IG p M i j
instance (p:Int) (M:aV) (i:Nat):Decidable (Q7 p M i):=by unfold Q7;infer_instance
end Go.Am
end
section
namespace Go.Am
def bO (p a b:Int):Prop:=∃q,a=b+p*q
theorem bO.refl (p a:Int):bO p a a:=⟨0,by simp⟩
theorem yq (p a:Int):bO p (a%p) a:=⟨-(a/p),by have:=Int.emod_add_mul_ediv a p;have e:=Int.mul_neg p (a/p);omega⟩
theorem bO.trans {p a b c:Int} (h:bO p a b) (h':bO p b c):bO p a c:=by
 obtain⟨q,rfl⟩:=h;obtain⟨q',rfl⟩:=h';exact⟨q'+q,by rw[Int.mul_add];omega⟩
theorem bO.symm {p a b:Int} (h:bO p a b):bO p b a:=by
 obtain⟨q,rfl⟩:=h;exact⟨-q,by rw[Int.mul_neg];omega⟩
theorem bO.add {p a b c d:Int} (h:bO p a b) (h':bO p c d):bO p (a+c) (b+d):=by
 obtain⟨q,rfl⟩:=h;obtain⟨q',rfl⟩:=h';exact⟨q+q',by grind⟩
theorem bO.mul {p a b c d:Int} (h:bO p a b) (h':bO p c d):bO p (a*c) (b*d):=by
 obtain⟨q,rfl⟩:=h;obtain⟨q',rfl⟩:=h';exact⟨q*d+b*q'+p*q*q',by grind⟩
section
variable {p inv:Int} {n k:Nat} {A:aV}
end
end Go.Am
end
section
namespace Go.Am
section
variable {p:Int} {n:Nat} {M:aV}
end
section
variable {p:Int} {n:Nat} {M:aV}
end
end Go.Am
end
section
namespace Go.Am
end Go.Am
end
section
namespace Go.Am
section
variable {p:Int} {n m:Nat} {a b a2 b2:List Int} {ms MJ:List iq}
end
end Go.Am
end
section
namespace Go.Am
def Yv:Nat->List Int->List Int
 |0,l=>l
 |k+1,l=>if l.getD (k+1) 0<l.getD k 0 then Yv k (cM (cM l (k+1) (l.getD k 0)) k (l.getD (k+1) 0)) else l
def YH (l:List Int):Nat->List Int
 |0=>l
 |i+1=>Yv i (YH l i)
end Go.Am
end
section
namespace Go.Am
def sN (f:Nat->Nat):Nat->Nat
 |0=>0
 |q+1=>sN f q+f q
def NE (L D S:List Int):List Int:=gY S.length fun i=>D.getD (fj L (S.getD i 0)) 0
def gP (L D S:List Int) (n:Nat) (v:Int):Nat:=(vQ (NE L D S) n (fj S v)).toNat*bN D (fj L v+1)
def Xn (L D S:List Int) (n:Nat):Nat:=sN (fun i=>gP L D S n (S.getD i 0)) S.length
def Xv (x:Rg×T3×List Int):Prop:=ald x.1 x.2.1=true/\x.2.2=YH x.2.1.1 x.2.1.1.length
instance (x:Rg×T3×List Int):Decidable (Xv x):=by unfold Xv;infer_instance
def Hd (l:List Int) (b:Int):Prop:=l.length<=12/\∀x∈l,0<=x/\x<=b
instance (l:List Int) (b:Int):Decidable (Hd l b):=by unfold Hd;infer_instance
def PO (l:List Int) (b:Int):Prop:=l.length<=24/\∀x∈l,0<=x/\x<=b
instance (l:List Int) (b:Int):Decidable (PO l b):=by unfold PO;infer_instance
theorem Hd.m {l:List Int} {b:Int} (h:Hd l b):PO l b:=⟨Nat.le_trans h.1 (by decide),h.2⟩
def Hu (L D S:List Int):List Int:=gY S.length fun i=>if fj L (S.getD i 0)<L.length then((bN D (fj L (S.getD i 0)+1):Nat):Int) else 0
theorem GO {f g:Nat->Nat}:∀q,(∀i,i<q->f i=g i)->sN f q=sN g q
 |0,_=>rfl
 |q+1,h=>by simp only[sN];rw[GO q fun i hi=>h i (by omega),h q (by omega)]
theorem Yd (g:Int->Nat) (l:List Int):∀q,q<=l.length->sN (fun i=>g (l.getD i 0)) q=((l.take q).map g).sum
 |0,_=>by simp[sN]
 |q+1,h=>by
  simp only[sN]
  rw[Yd g l q (by omega),List.take_succ_eq_append_getElem (by omega),List.map_append,List.sum_append_nat,List.getD_eq_getElem?_getD,List.getElem?_eq_getElem (by omega)]
  simp
theorem GP (g:Int->Nat) (l:List Int):sN (fun i=>g (l.getD i 0)) l.length=(l.map g).sum:=by
 rw[Yd g l _ (Nat.le_refl _),List.take_length]
theorem aka {S L:List Int} (h:S.Perm L) (g:Int->Nat):sN (fun i=>g (S.getD i 0)) S.length=sN (fun i=>g (L.getD i 0)) L.length:=by
 rw[GP,GP]
 exact(h.map g).sum_nat
theorem GA {l:List Int} {v:Int} (h:v∈l):fj l v<l.length:=by
 refine Nat.lt_of_le_of_ne (ai8 l v) fun e=>?_
 obtain⟨i,hi⟩:=List.getElem?_of_mem h
 have hl:=(List.getElem?_eq_some_iff.1 hi).1
 exact ai6 (by omega) hi
theorem Xz {l:List Int} {v:Int} (h:v∈l):l.getD (fj l v) 0=v:=by
 rw[List.getD_eq_getElem?_getD,Xy (GA h)]
 rfl
theorem sk {l:List Int} {i:Nat} (h:i<l.length):l.getD i 0∈l:=by
 rw[List.getD_eq_getElem?_getD,List.getElem?_eq_getElem h]
 exact List.getElem_mem h
theorem CF {l:List Int} (hn:l.Nodup) {i:Nat} (h:i<l.length):fj l (l.getD i 0)=i:=by
 have hm:=sk h
 have h1:=GA hm
 have h2:=Xy h1
 rw[List.getElem?_eq_getElem h1] at h2
 have e:l[fj l (l.getD i 0)]=l[i]:=by
  injection h2 with h2
  rw[h2,List.getD_eq_getElem?_getD,List.getElem?_eq_getElem h]
  rfl
 exact(List.getElem_inj hn).1 e
structure AE (L D S:List Int):Prop where
 p:S.Perm L
 nL:L.Nodup
 nS:S.Nodup
 len:L.length=D.length
 j9:L.length<=12
 qE:∀x∈D,1<=x/\x<=8
section
variable {L D S:List Int} (I:AE L D S)
include I
theorem AE.inv {q k:Nat} (hq:q<S.length) (hk:k<L.length):fj L (S.getD q 0)=k↔fj S (L.getD k 0)=q:=by
 have m1:S.getD q 0∈L:=I.p.mem_iff.1 (sk hq)
 have m2:L.getD k 0∈S:=I.p.mem_iff.2 (sk hk)
 constructor
 ·intro e
  have:=Xz m1
  rw[e] at this
  rw[this,CF I.nS hq]
 ·intro e
  have:=Xz m2
  rw[e] at this
  rw[this,CF I.nL hk]
theorem AE.A7:A7 D:=⟨by have:=I.len;have:=I.j9;omega,fun x hx=>by have:=I.qE x hx;omega⟩
omit I in
omit I in
def Gv (L D S:List Int) (n:Nat):List Int:=gY D.length fun k=>vQ (NE L D S) n (fj S (L.getD k 0))
omit I in
theorem Xk {D ix:List Int} (h:∀k,k<D.length->(ix.getD k 0).toNat<(D.getD k 0).toNat):∀j,j<=D.length->(sT D ix j+1)*bN D j<=fy D
 |0,_=>by simp[sT,bN]
 |j+1,hj=>by
  have ih:=Xk h j (by omega)
  have hk:=h j (by omega)
  rw[vf (by omega),<-Nat.mul_assoc] at ih
  refine Nat.le_trans (Nat.mul_le_mul_right _ ?_) ih
  simp only[sT]
  rw[Nat.add_mul,Nat.one_mul]
  omega
omit I in
theorem Nz {D ix:List Int}:∀j,j<=D.length->sT D ix j*bN D j=sN (fun k=>(ix.getD k 0).toNat*bN D (k+1)) j
 |0,_=>by simp[sT,sN]
 |j+1,hj=>by
  simp only[sT,sN]
  rw[<-Nz j (by omega),vf (i:=j) (by omega),Nat.add_mul,Nat.mul_assoc]
theorem AE.aij (n:Nat) {k:Nat} (hk:k<D.length):(Gv L D S n).getD k 0=vQ (NE L D S) n (fj S (L.getD k 0)):=by
 unfold Gv
 rw[List.getD_eq_getElem?_getD,uT _ hk]
 rfl
theorem AE.off (n:Nat):sT D (Gv L D S n) D.length=Xn L D S n:=by
 have h1:=Nz (D:=D) (ix:=Gv L D S n) D.length (Nat.le_refl _)
 rw[Ah,Nat.mul_one] at h1
 rw[h1]
 unfold Xn
 rw[aka I.p (gP L D S n),I.len]
 refine GO _ fun k hk=>?_
 rw[I.aij n hk]
 unfold gP
 rw[CF I.nL (by have:=I.len;omega)]
end
end Go.Am
end
section
namespace Go.Am
theorem vY {l:List Int} {i:Nat} (h:i<l.length):l[i]? =some (l.getD i 0):=by
 rw[List.getD_eq_getElem?_getD,List.getElem?_eq_getElem h]
 rfl
theorem ajF (n:Nat):fz n (0:Int)=gY n fun _=>0:=by
 apply List.ext_getElem?
 intro i
 by_cases hi:i<n
 ·rw[uT _ hi]
  show(List.replicate n (0:Int))[i]? =_
  rw[List.getElem?_replicate,if_pos hi]
 ·rw[List.getElem?_eq_none (by show(List.replicate n (0:Int)).length<=i;simp;omega),List.getElem?_eq_none (by rw[qc];omega)]
end Go.Am
end
section
namespace Go.Am
def g9 (m:Int) (r c:Nat) (d:List Int):Nat:=(cE m r (cV c d) c).2.1.length
def m4 (m:Int) (r c:Nat) (d:List Int):List Int:=gf r (g9 m r c d) (Xw (cV c d) (cE m r (cV c d) c).2.1)
def sd (m:Int) (r c:Nat) (d:List Int):List Int:=gf (g9 m r c d) c (cE m r (cV c d) c).1
def YC (s:aR):Prop:=(0<=s.1/\s.1<=4096)/\(0<=s.2.1/\s.2.1<=4096)/\(0<=s.2.2.1/\s.2.2.1<=4096)
instance (s:aR):Decidable (YC s):=by unfold YC;infer_instance
theorem vB {m:Int} {r c:Nat} {d:List Int} (hl:d.length=r*c) (h:fo m d):dW m r c (cV c d):=by
 rw[<-AM,Kp hl];exact h
theorem alc {r c k:Nat} (M:aV) (hk:k<=r):(gf r c M).take (k*c)=gf k c M:=by
 unfold gf
 rw[<-List.map_take,List.take_range,Nat.min_eq_left (Nat.mul_le_mul_right _ hk)]
theorem SZ {m:Int} {r c:Nat} {d:List Int} (hm:eC m) (hl:d.length=r*c) (hd:fo m d):
  SY (m,(r:Int),(c:Int),d)=(((r:Int),(g9 m r c d:Int),m4 m r c d),((g9 m r c d:Int),(c:Int),sd m r c d))/\g9 m r c d<=r/\g9 m r c d<=c/\
  (m4 m r c d).length=r*g9 m r c d/\fo m (m4 m r c d)/\(sd m r c d).length=g9 m r c d*c/\fo m (sd m r c d):=by
 have hM:=vB hl hd
 have hI:=oG hm hM (r:=r) (c:=c) c
 have h1:g9 m r c d<=r:=hI.l
 refine⟨?_,h1,hI.lj,Ko _ _ _,?_,Ko _ _ _,?_⟩
 ·simp only[SY,w5,Int.toNat_natCast]
  rw[alc _ hI.l]
  rfl
 ·unfold m4
  rw[AM]
  intro i hi t ht
  exact hM i hi _ (ai4 hI.e ht).2
 ·unfold sd
  rw[AM]
  exact fun i hi j hj=>hI.m i (by omega) j hj
theorem akB {m:Int} {s:aR} (h:jo m s=true):∃(b p c:Nat) (d:List Int),s=((b:Int),(p:Int),(c:Int),d)/\b<=32/\c<=32/\(1<=p/\p<=8)/\d.length=b*p*c/\fo m d:=by
 obtain⟨a,p,c,d⟩:=s
 obtain⟨t1,t2,t3,t4,t5⟩:=tc h
 obtain⟨a,rfl⟩:=kj t1.1
 obtain⟨p,rfl⟩:=kj (show 0<=p by omega)
 obtain⟨c,rfl⟩:=kj t2.1
 refine⟨a,p,c,d,rfl,by omega,by omega,by omega,?_,fun x hx=>of_decide_eq_true (List.all_eq_true.1 t5 x hx)⟩
 have:((a:Int)*(p:Int)*(c:Int))=((a*p*c:Nat):Int):=by norm_cast
 rw[this] at t4;exact_mod_cast t4
theorem G7 {m:Int} {b p c:Nat} {d:List Int} (hb:b<=32) (hc:c<=32) (hp:1<=p/\p<=8) (hl:d.length=b*p*c) (hd:fo m d):jo m ((b:Int),(p:Int),(c:Int),d)=true:=by
 have d9:oL m d=true:=List.all_eq_true.2 fun x hx=>decide_eq_true (hd x hx)
 have e3:(d.length:Int)=(b:Int)*(p:Int)*(c:Int):=by rw[hl];norm_cast
 simp only[jo,d9,e3,decide_true,Bool.and_true,Bool.and_eq_true,decide_eq_true_eq]
 omega
def Tb (m:Int) (L:List aR):Prop:=(∀k,k<L.length->jo m (L.getD k bP)=true)/\∀k,k+1<L.length->(L.getD (k+1) bP).1=(L.getD k bP).2.2.1
theorem Tc {m:Int} {l:List aR} (h:dS (m,l)=true):Tb m l:=by
 obtain⟨hm,hl,_,_,hs⟩:=En h
 refine⟨fun k hk=>?_,fun k hk=>?_⟩
 ·obtain⟨p,M,e,h1,h2,h3,h4,h5⟩:=hs k hk
  rw[e]
  exact G7 h1 h2 h3 (Ko _ _ _) (AM.2 h4)
 ·obtain⟨p,M,e,_⟩:=hs k (by omega)
  obtain⟨p',M',e',_⟩:=hs (k+1) hk
  rw[e,e']
end Go.Am
end
section
namespace Go.Am
def Rp (m:Int) (s t:aR) (x:Int×Int×List Int):Prop:=x.1=s.2.1*t.2.1/\x.2.1=s.2.1*t.2.1/\s.1*s.2.1<=64/\t.2.1*t.2.2.1<=64
instance (m:Int) (s t:aR) (x:Int×Int×List Int):Decidable (Rp m s t x):=by unfold Rp;infer_instance
end Go.Am
end
section
namespace Go.Am
section
variable {A1 A2 A3 A4 A5 X Y Z T ρ:Type}
end
section
variable {p:Int} {n:Nat} {a b:List Int} {ms:List iq} {N k:Nat}
end
section
variable {p:Int} {n:Nat} {a b:List Int} {ms:List iq} {N k:Nat}
end
end Go.Am
end
section
namespace Go.Am
end Go.Am
end
section
namespace Go.Am
end Go.Am
end
section
namespace Go.Am
abbrev kq:=Nat×List Int×List aR
def cK (m:Int) (D:List Int) (i:Nat) (st:kq):Nat:=g9 m (st.1*(D.getD i 0).toNat) (bN D (i+1)) st.2.1
def rW (m:Int) (D:List Int) (i:Nat) (st:kq):kq:=
 (cK m D i st,sd m (st.1*(D.getD i 0).toNat) (bN D (i+1)) st.2.1,st.2.2++[((st.1:Int),D.getD i 0,(cK m D i st:Int),m4 m (st.1*(D.getD i 0).toNat) (bN D (i+1)) st.2.1)])
def AQ (D:List Int) (i:Nat) (st:kq):Bool:=decide (st.1*(D.getD i 0).toNat<=64/\bN D (i+1)<=64)
def Jc (m:Int) (D:List Int) (i:Nat) (st:kq) (_:Nat):Option kq:=if AQ D i st=true then(if cK m D i st<=32 then some (rW m D i st) else none) else none
def wS (D:List Int) (st:kq):List aR:=st.2.2++[((st.1:Int),D.getD (D.length - 1) 0,1,st.2.1)]
structure rI (m:Int) (D A:List Int):Prop where
 pr:db m=true
 l1:1<=D.length
 l8:D.length<=8
 qE:∀x∈D,1<=x/\x<=8
 pn:fy D<=4096
 len:A.length=fy D
 el:fo m A
structure qp (m:Int) (D:List Int) (i:Nat) (st:kq):Prop where
 left:st.1<=64
 len:st.2.1.length=st.1*bN D i
 el:fo m st.2.1
 bm:st.2.2.length=i
 sz:gI st.2.2<=i*5000
theorem ak1 (L:List aR) (s:aR):gI (L++[s])=gI L+1+s.2.2.2.length:=by
 simp only[gI,List.length_append,List.map_append,List.sum_append_nat,List.length_cons,List.length_nil,List.map_cons,List.map_nil,List.sum_cons,List.sum_nil]
 show _=_+1+fk s
 omega
theorem qp.rc {m:Int} {D A:List Int} (h:rI m D A) {i:Nat} (hi:i<D.length - 1) {st:kq} (I:qp m D i st):st.2.1.length=st.1*(D.getD i 0).toNat*bN D (i+1):=by
 rw[I.len,vf (by omega),Nat.mul_assoc]
theorem qp.next {m:Int} {D A:List Int} (h:rI m D A) {i:Nat} (hi:i<D.length - 1) {st:kq} (I:qp m D i st) (hf:AQ D i st=true):qp m D (i+1) (rW m D i st):=by
 have hf:=of_decide_eq_true hf
 obtain⟨_,f1,f2,f3,f4,f5,f6⟩:=SZ (e8 h.pr) (qp.rc h hi I) I.el
 refine⟨by show g9 _ _ _ _<=64;omega,f5,f6,by show(st.2.2++[_]).length=_;rw[List.length_append,I.bm];rfl,?_⟩
 show gI (st.2.2++[_])<=_
 rw[ak1]
 show gI st.2.2+1+(m4 _ _ _ _).length<=_
 rw[f3]
 have h1:st.1*(D.getD i 0).toNat*g9 m (st.1*(D.getD i 0).toNat) (bN D (i+1)) st.2.1<=64*64:=Nat.mul_le_mul hf.1 (by omega)
 have:=I.sz
 omega
structure vr (m:Int) (D:List Int) (i:Nat) (st:kq):Prop where
 s:qp m D i st
 left:st.1<=32
 ch:dG (gB m) 0 1 st.2.2=some (st.1:Int)
 A6:bf st.2.2=D.take i
theorem E8 {S α:Type} (step:Nat->S->α->Option S) (a:α):∀(l:List α) (i:Nat) (s:S),dG step i s (l++[a])=match dG step i s l with|some s'=>step (i+l.length) s' a|none=>none
 |[],i,s=>by
  simp only[List.nil_append,dG,List.length_nil,Nat.add_zero]
  cases step i s a<;>rfl
 |b::l,i,s=>by
  simp only[List.cons_append,dG]
  cases step i s b with
  |none=>rfl
  |some s1=>
   simp only
   rw[E8 step a l (i+1) s1,List.length_cons,show i+1+l.length=i+(l.length+1) by omega]
theorem Sh {m:Int} {D A:List Int} (h:rI m D A) {i:Nat} (hi:i<D.length):∃d:Nat,D.getD i 0=(d:Int)/\(D.getD i 0).toNat=d/\1<=d/\d<=8:=by
 have:=h.qE _ (sk hi)
 exact⟨(D.getD i 0).toNat,by omega,rfl,by omega,by omega⟩
theorem vr.next {m:Int} {D A:List Int} (h:rI m D A) {i:Nat} (hi:i<D.length - 1) {st:kq} (I:vr m D i st) (hf:AQ D i st=true) (hk:cK m D i st<=32):vr m D (i+1) (rW m D i st):=by
 have hs:=qp.next h hi I.s hf
 obtain⟨d,d1,d2,d3,d4⟩:=Sh h (i:=i) (by omega)
 obtain⟨_,f1,f2,f3,f4,f5,f6⟩:=SZ (e8 h.pr) (qp.rc h hi I.s) I.s.el
 refine⟨hs,hk,?_,?_⟩
 ·show dG (gB m) 0 1 (st.2.2++[_])=some ((cK m D i st:Nat):Int)
  rw[E8,I.ch]
  show gB m _ _ _=_
  refine if_pos ⟨?_,rfl⟩
  have Ju:(m4 m (st.1*(D.getD i 0).toNat) (bN D (i+1)) st.2.1).length=st.1*(D.getD i 0).toNat*cK m D i st:=f3
  generalize m4 m (st.1*(D.getD i 0).toNat) (bN D (i+1)) st.2.1=fa at Ju f4⊢
  rw[d2] at Ju
  rw[d1]
  exact G7 I.left hk ⟨d3,d4⟩ Ju f4
 ·show bf (st.2.2++[_])=_
  unfold bf
  rw[List.map_append]
  show bf st.2.2++[D.getD i 0]=_
  rw[I.A6,List.take_add_one,vY (by omega)]
  rfl
theorem vr.fin {m:Int} {D A:List Int} (h:rI m D A) {st:kq} (I:vr m D (D.length - 1) st):dS (m,wS D st)=true:=by
 have l1:=h.l1
 obtain⟨d,d1,d2,d3,d4⟩:=Sh h (i:=D.length - 1) (by omega)
 have hlen:=I.s.len
 rw[vf (by omega),show D.length - 1+1=D.length by omega,Ah,Nat.mul_one,d2] at hlen
 have BC:=I.s.bm
 have dh:dG (gB m) 0 1 (wS D st)=some 1:=by
  unfold wS
  rw[E8,I.ch]
  show gB m _ _ _=_
  refine if_pos ⟨?_,rfl⟩
  rw[d1]
  exact G7 (c:=1) I.left (by omega) ⟨d3,d4⟩ (by rw[hlen,Nat.mul_one]) I.s.el
 have Fh:bf (wS D st)=D:=by
  unfold wS bf
  rw[List.map_append]
  show bf st.2.2++[D.getD (D.length - 1) 0]=_
  rw[I.A6]
  have:=List.take_add_one (l:=D) (i:=D.length - 1)
  rw[show D.length - 1+1=D.length by omega,List.take_length,vY (by omega)] at this
  exact this.symm
 have hp:gW D<=4096:=by
  rw[GC fun x hx=>(h.qE x hx).1]
  have:=h.pn
  omega
 have hll:(wS D st).length=D.length:=by
  unfold wS
  rw[List.length_append,BC]
  show D.length - 1+1=_
  omega
 simp only[dS,h.pr,dh,Fh,hll,Bool.true_and]
 rw[decide_eq_true ⟨l1,h.l8⟩,decide_eq_true hp]
 rfl
end Go.Am
end
section
namespace Go.Am
end Go.Am
end
section
namespace Go.Am
end Go.Am
end
section
namespace Go.Am
end Go.Am
end
section
namespace Go.Am
structure AF (p:Int) (r:Nat) (M N:aV) (t k j:Nat) (inv:Int):Prop where
 tk:t<=k
 kr:k<r
 ne:M k j≠0
 one:M k j*inv%p=1
 nt:∀b,N t b=M k b*inv%p
 na:∀a,a<r->a≠t->∀b,N a b=(di M t k a b+(p - di M t k a j)*N t b)%p
 first:∀i,t<=i->i<k->M i j=0
theorem NO {p:Int} {r c:Nat} {s:aV×List Int×Int} {j:Nat} (bE:db p=true) (I:RI p r c s j) (hj:j<c):
  (kU p r s j=s/\∀i,s.2.1.length<=i->i<r->s.1 i j=0)\/
   ∃k N inv,kU p r s j=(N,s.2.1++[(j:Int)],NM p s.1 s.2.1.length j k s.2.2)/\AF p r s.1 N s.2.1.length k j inv/\s.2.1.length<r:=by
 have hp:eC p:=e8 bE
 by_cases hl:s.2.1.length<r
 ·cases hk:oC s.1 j (r - s.2.1.length) s.2.1.length with
  |none=>exact .inl ⟨XR hl hk,fun i h1 h2=>NF hk i h1 (by omega)⟩
  |some k=>
   have hq:=Gz hk
   have wq:k<r:=by omega
   have hx:fE p (s.1 k j):=I.m k wq j hj
   have hi:=V4 bE hx hq.2.2
   have yW:di s.1 s.2.1.length k s.2.1.length j=s.1 k j:=if_pos rfl
   refine .inr ⟨k,_,pQ p 1 (s.1 k j) (p - 2).toNat,XS hl hk,⟨hq.1,wq,hq.2.2,hi,fun b=>?_,fun a ha bK b=>?_,Xx hk⟩,hl⟩
   ·unfold fZ
    rw[if_neg (by omega)]
    unfold rr s8
    rw[if_pos rfl,yW]
    congr 2
    exact if_pos rfl
   ·have e1:∀y,rr p s.1 s.2.1.length j k a y=di s.1 s.2.1.length k a y:=fun y=>by unfold rr s8;rw[if_neg bK]
    show fZ p _ _ _ _ a b=_
    rw[show fZ p (rr p s.1 s.2.1.length j k) s.2.1.length j r s.2.1.length b=rr p s.1 s.2.1.length j k s.2.1.length b from if_neg (by omega)]
    unfold fZ
    rw[if_pos ⟨ha,bK⟩,e1,e1]
 ·refine .inl ⟨by unfold kU;rw[if_neg hl],fun i h1 h2=>by omega⟩
def pv (L:List Int) (i:Nat):Nat:=(L.getD i 0).toNat
theorem NK {L:List Int} {x:Int} {i:Nat} (h:i<L.length):pv (L++[x]) i=pv L i:=by
 unfold pv
 rw[List.getD_eq_getElem?_getD,List.getD_eq_getElem?_getD,List.getElem?_append_left h]
theorem wX {L:List Int} {j:Nat}:pv (L++[(j:Int)]) L.length=j:=by
 unfold pv
 rw[List.getD_eq_getElem?_getD,List.getElem?_append_right (Nat.le_refl _),Nat.sub_self]
 rfl
structure RF (r:Nat) (s:aV×List Int×Int) (j:Nat):Prop where
 lt:∀i,i<s.2.1.length->pv s.2.1 i<j
 mono:∀i i',i<i'->i'<s.2.1.length->pv s.2.1 i<pv s.2.1 i'
 one:∀i,i<s.2.1.length->s.1 i (pv s.2.1 i)=1
 bw:∀i,i<s.2.1.length->∀a,a<r->a≠i->s.1 a (pv s.2.1 i)=0
 low:∀i,i<s.2.1.length->∀b,b<pv s.2.1 i->s.1 i b=0
 zero:∀i,s.2.1.length<=i->i<r->∀b,b<j->s.1 i b=0
theorem RF.step {p:Int} {r c:Nat} {s:aV×List Int×Int} {j:Nat} (bE:db p=true) (I:RI p r c s j) (hj:j<c) (h:RF r s j):RF r (kU p r s j) (j+1):=by
 have hp:eC p:=e8 bE
 rcases NO bE I hj with⟨e,hz⟩|⟨k,N,inv,e,P,hl⟩
 ·rw[e]
  refine⟨fun i hi=>by have:=h.lt i hi;omega,h.mono,h.one,h.bw,h.low,fun i h1 h2 b hb=>?_⟩
  by_cases v8:b=j
  ·rw[v8];exact hz i h1 h2
  ·exact h.zero i h1 h2 b (by omega)
 ·rw[e]
  obtain⟨M,L,d⟩:=s
  obtain⟨tk,kr,ne,one,nt,na,first⟩:=P
  dsimp only at tk kr ne one nt na first hl e⊢
  have bB:∀i,i<L.length->pv L i<j:=h.lt
  have yU:∀i,i<L.length->pv (L++[(j:Int)]) i=pv L i:=fun i hi=>NK hi
  have wz:=hp.1
  have Nw:∀b,b<j->N L.length b=0:=fun b hb=>by
   rw[nt,show M k b=0 from h.zero k tk kr b hb,Int.zero_mul,Int.zero_emod]
  have Ny:N L.length j=1:=by rw[nt];exact one
  have eQ:∀a,a<r->a≠L.length->∀b,b<j->N a b=di M L.length k a b:=fun a ha bK b hb=>by
   rw[na a ha bK,Nw b hb,Int.mul_zero,Int.add_zero]
   have hs:fE p (di M L.length k a b):=Qc I.m hl kr a ha b (by omega)
   exact Int.emod_eq_of_lt hs.1 hs.2
  have Qu:∀i,i<L.length->∀b,di M L.length k i b=M i b:=fun i hi b=>by
   unfold di;rw[if_neg (by omega),if_neg (by omega)]
  have WW:∀a,L.length<=a->a<r->∀b,b<j->di M L.length k a b=0:=fun a h1 h2 b hb=>by
   unfold di
   split
   ·exact h.zero k tk kr b hb
   ·split
    ·exact h.zero _ (Nat.le_refl _) hl b hb
    ·exact h.zero a h1 h2 b hb
  refine⟨?_,?_,?_,?_,?_,?_⟩<;>dsimp only
  ·intro i hi
   simp only[List.length_append,List.length_cons,List.length_nil] at hi
   by_cases ez:i<L.length
   ·rw[yU i ez];have:=bB i ez;omega
   ·rw[show i=L.length by omega,wX];omega
  ·intro i i' h1 h2
   simp only[List.length_append,List.length_cons,List.length_nil] at h2
   rw[yU i (by omega)]
   by_cases ez:i'<L.length
   ·rw[yU i' ez];exact h.mono i i' h1 ez
   ·rw[show i'=L.length by omega,wX];exact bB i (by omega)
  ·intro i hi
   simp only[List.length_append,List.length_cons,List.length_nil] at hi
   by_cases ez:i<L.length
   ·rw[yU i ez,eQ i (by omega) (by omega) _ (bB i ez),Qu i ez];exact h.one i ez
   ·rw[show i=L.length by omega,wX];exact Ny
  ·intro i hi a ha hai
   simp only[List.length_append,List.length_cons,List.length_nil] at hi
   by_cases ez:i<L.length
   ·rw[yU i ez]
    by_cases bK:a=L.length
    ·rw[bK];exact Nw _ (bB i ez)
    ·rw[eQ a ha bK _ (bB i ez)]
     by_cases sn:a<L.length
     ·rw[Qu a sn];exact h.bw i ez a ha hai
     ·exact WW a (by omega) ha _ (bB i ez)
   ·have Fo:i=L.length:=by omega
    rw[Fo,wX]
    rw[na a ha (by omega),Ny,Int.mul_one]
    rw[show di M L.length k a j+(p - di M L.length k a j)=p by omega]
    exact Int.emod_self
  ·intro i hi b hb
   simp only[List.length_append,List.length_cons,List.length_nil] at hi
   by_cases ez:i<L.length
   ·rw[yU i ez] at hb
    have hlj:=bB i ez
    rw[eQ i (by omega) (by omega) _ (by omega),Qu i ez]
    exact h.low i ez b hb
   ·have Fo:i=L.length:=by omega
    rw[Fo,wX] at hb
    rw[Fo]
    exact Nw b hb
  ·intro i h1 h2 b hb
   simp only[List.length_append,List.length_cons,List.length_nil] at h1
   by_cases v8:b=j
   ·rw[v8,na i h2 (by omega),Ny,Int.mul_one]
    rw[show di M L.length k i j+(p - di M L.length k i j)=p by omega]
    exact Int.emod_self
   ·rw[eQ i h2 (by omega) b (by omega)]
    exact WW i (by omega) h2 b (by omega)
theorem w4 {p:Int} {r c:Nat} {M:aV} (bE:db p=true) (hM:dW p r c M):∀j,j<=c->RF r (cE p r M j) j
 |0,_=>⟨fun i hi=>absurd hi (Nat.not_lt_zero i),fun i i' _ hi=>absurd hi (Nat.not_lt_zero i'),fun i hi=>absurd hi (Nat.not_lt_zero i),fun i hi=>absurd hi (Nat.not_lt_zero i),fun i hi=>absurd hi (Nat.not_lt_zero i),fun i _ _ b hb=>absurd hb (Nat.not_lt_zero b)⟩
 |j+1,hj=>RF.step bE (oG (e8 bE) hM j) (by omega) (w4 bE hM j (by omega))
def Sp (p:Int) (r c:Nat) (M:aV) (x:Nat->Int):Prop:=∃y:Nat->Int,∀b,b<c->x b%p=sm r (fun i=>y i*M i b)%p
theorem kt {p:Int} {r c:Nat} {M:aV} {i:Nat} (hi:i<r):Sp p r c M (M i):=
 ⟨fun k=>if k=i then 1 else 0,fun b _=>by
  have e:sm r (fun k=>(if k=i then 1 else 0)*M k b)=M i b:=by
   rw[te (a:=i) r hi (fun k _ av=>by simp[av])]
   simp
  exact congrArg (·%p) e.symm⟩
theorem tw {p:Int} {r c:Nat} {M:aV} {x x':Nat->Int} (h:Sp p r c M x) (e:∀b,b<c->x' b%p=x b%p):Sp p r c M x':=by
 obtain⟨y,hy⟩:=h
 exact⟨y,fun b hb=>(e b hb).trans (hy b hb)⟩
theorem IA {p:Int} {r c:Nat} {M:aV} {x x':Nat->Int} (f:Int) (h:Sp p r c M x) (h':Sp p r c M x'):Sp p r c M (fun b=>x b+f*x' b):=by
 obtain⟨y,hy⟩:=h
 obtain⟨y',hy'⟩:=h'
 refine⟨fun i=>y i+f*y' i,fun b hb=>?_⟩
 have e:sm r (fun i=>(y i+f*y' i)*M i b)=sm r (fun i=>y i*M i b)+f*sm r (fun i=>y' i*M i b):=by
  rw[<-xi,<-Ha]
  exact kZ fun i _=>by rw[Int.add_mul,Int.mul_assoc]
 rw[e,Int.add_emod,Int.mul_emod,hy b hb,hy' b hb,<-Int.mul_emod,<-Int.add_emod]
theorem ZX {p:Int} {r c:Nat} {M:aV}:Sp p r c M (fun _=>0):=⟨fun _=>0,fun b _=>by rw[zZ r fun i _=>Int.zero_mul _]⟩
theorem QQ {p:Int} {r c:Nat} {M:aV} {x:Nat->Int} (f:Int) (h:Sp p r c M x):Sp p r c M (fun b=>x b*f):=
 tw (IA f ZX h) fun b _=>by rw[Int.zero_add,Int.mul_comm]
theorem nK {p:Int} {r r' c:Nat} {M N:aV} (h:∀i,i<r'->Sp p r c M (N i)) {x:Nat->Int} (hx:Sp p r' c N x):Sp p r c M x:=by
 obtain⟨y,hy⟩:=hx
 have h':∀i,∃y:Nat->Int,i<r'->∀b,b<c->N i b%p=sm r (fun k=>y k*M k b)%p:=by
  intro i
  by_cases hi:i<r'
  ·obtain⟨y,hy⟩:=h i hi
   exact⟨y,fun _=>hy⟩
  ·exact⟨fun _=>0,fun hi'=>absurd hi' hi⟩
 obtain⟨Y,hY⟩:=Classical.axiomOfChoice h'
 refine⟨fun k=>sm r' (fun i=>y i*Y i k),fun b hb=>?_⟩
 rw[hy b hb]
 have e:sm r (fun k=>sm r' (fun i=>y i*Y i k)*M k b)=sm r' (fun i=>y i*sm r (fun k=>Y i k*M k b)):=by
  rw[kZ (g:=fun k=>sm r' (fun i=>y i*Y i k*M k b)) fun k _=>(Yz (M k b) _ r').symm]
  rw[PN]
  exact kZ fun i _=>by rw[<-xi];exact kZ fun k _=>Int.mul_assoc _ _ _
 rw[e]
 exact zY fun i hi=>by rw[Int.mul_emod,hY i hi b hb,<-Int.mul_emod]
theorem AF.span {p:Int} {r c:Nat} {M N:aV} {t k j:Nat} {inv:Int} (h:AF p r M N t k j inv) (ht:t<r) (hj:j<c) (x:Nat->Int):Sp p r c N x↔Sp p r c M x:=by
 obtain⟨tk,kr,ne,one,nt,na,_⟩:=h
 have sw:∀a,a<r->Sp p r c M (di M t k a):=by
  intro a ha
  unfold di
  by_cases h1:a=t
  ·simp only[h1,if_true];exact kt kr
  ·by_cases h2:a=k
   ·simp only[h2]
    by_cases h3:k=t
    ·simp only[h3,if_true];exact kt ht
    ·simp only[if_neg h3,if_true];exact kt ht
   ·simp only[if_neg h1,if_neg h2];exact kt ha
 have TI:Sp p r c M (N t):=tw (QQ inv (kt kr)) fun b _=>by rw[nt,Int.emod_emod_of_dvd _ (Int.dvd_refl p)]
 constructor
 ·refine nK fun a ha=>?_
  by_cases bK:a=t
  ·rw[bK];exact TI
  ·exact tw (IA (p - di M t k a j) (sw a ha) TI) fun b _=>by rw[na a ha bK,Int.emod_emod_of_dvd _ (Int.dvd_refl p)]
 ·
  have hk:Sp p r c N (M k):=tw (QQ (M k j) (kt ht)) fun b _=>by
   rw[nt,Int.mul_emod,Int.emod_emod_of_dvd _ (Int.dvd_refl p),<-Int.mul_emod]
   rw[show M k b*inv*M k j=M k b*(M k j*inv) by rw[Int.mul_assoc,Int.mul_comm inv]]
   rw[Int.mul_emod,one,Int.mul_one,Int.emod_emod_of_dvd _ (Int.dvd_refl p)]
  have hs:∀a,a<r->Sp p r c N (di M t k a):=by
   intro a ha
   by_cases bK:a=t
   ·have e:di M t k a=M k:=by unfold di;funext b;rw[if_pos bK]
    rw[e];exact hk
   ·refine tw (IA (di M t k a j) (kt ha) (kt ht)) fun b _=>?_
    rw[na a ha bK,Int.emod_add_emod]
    rw[show di M t k a b+(p - di M t k a j)*N t b+di M t k a j*N t b=di M t k a b+p*N t b by grind]
    rw[Int.add_mul_emod_self_left]
  refine nK fun a ha=>?_
  by_cases bK:a=t
  ·have e:M a=di M t k k:=by
    unfold di;funext b
    by_cases KR:k=t
    ·rw[if_pos KR,bK,KR]
    ·rw[if_neg KR,if_pos rfl,bK]
   rw[e];exact hs k kr
  ·by_cases TO:a=k
   ·rw[TO];exact hk
   ·have e:M a=di M t k a:=by unfold di;funext b;rw[if_neg bK,if_neg TO]
    rw[e];exact hs a ha
theorem GF {p:Int} {r c:Nat} {M:aV} (bE:db p=true) (hM:dW p r c M) (x:Nat->Int):∀j,j<=c->(Sp p r c (cE p r M j).1 x↔Sp p r c M x)
 |0,_=>Iff.rfl
 |j+1,hj=>by
  rw[<-GF bE hM x j (by omega)]
  show Sp p r c (kU p r (cE p r M j) j).1 x↔_
  rcases NO bE (oG (e8 bE) hM j) (show j<c by omega) with⟨e,_⟩|⟨k,N,inv,e,P,hl⟩
  ·rw[e]
  ·rw[e];exact P.span hl (by omega) x
def ZR (p:Int) (x:Nat->Int) (j:Nat):Prop:=(∀b,b<j->x b%p=0)/\x j%p≠0
theorem NG {p:Int} {r c:Nat} {M:aV} (bE:db p=true) (hM:dW p r c M) {j:Nat} (hj:j<c):
  (∃x,Sp p r c M x/\ZR p x j)↔∃i,i<(cE p r M c).2.1.length/\pv (cE p r M c).2.1 i=j:=by
 have hp:eC p:=e8 bE
 have wz:=hp.1
 have R:=w4 bE hM c (Nat.le_refl c)
 have I:=oG hp hM c
 have Lb:=fun x=>GF bE hM x c (Nat.le_refl c)
 generalize cE p r M c=s at R I Lb
 constructor
 ·rintro⟨x,hx,h0,h1⟩
  obtain⟨y,hy⟩:=(Lb x).2 hx
  have bU:∀i,i<s.2.1.length->x (pv s.2.1 i)%p=y i%p:=by
   intro i hi
   rw[hy _ (R.lt i hi),te (a:=i) r (by have:=I.l;omega) fun a ha av=>by rw[R.bw i hi a ha av,Int.mul_zero]]
   rw[R.one i hi,Int.mul_one]
  rw[hy j hj] at h1
  apply Classical.byContradiction
  intro cq
  apply h1
  rw[show(0:Int)=sm r (fun _=>0)%p by rw[zZ r fun _ _=>rfl,Int.zero_emod]]
  refine zY fun i hi=>?_
  by_cases ez:i<s.2.1.length
  ·rcases Nat.lt_trichotomy (pv s.2.1 i) j with h|h|h
   ·have hz:y i%p=0:=by rw[<-bU i ez];exact h0 _ h
    rw[Int.mul_emod,hz,Int.zero_mul]
   ·exact absurd ⟨i,ez,h⟩ cq
   ·rw[R.low i ez j h,Int.mul_zero]
  ·rw[R.zero i (by omega) hi j hj,Int.mul_zero]
 ·rintro⟨i,hi,rfl⟩
  refine⟨s.1 i,(Lb _).1 (kt (by have:=I.l;omega)),fun b hb=>by rw[R.low i hi b hb,Int.zero_emod],?_⟩
  rw[R.one i hi,Int.emod_eq_of_lt (by decide) (by omega)]
  decide
def ur (L:List Int) (j:Nat):Bool:=(List.range L.length).any fun i=>pv L i==j
theorem wN {L:List Int} {j:Nat}:ur L j=true↔∃i,i<L.length/\pv L i=j:=by
 simp only[ur,List.any_eq_true,List.mem_range,beq_iff_eq]
theorem EF (P:Nat->Bool) (j:Nat):(List.range (j+1)).countP P=(List.range j).countP P+(if P j=true then 1 else 0):=by
 rw[List.range_succ,List.countP_append]
 simp[List.countP_cons]
theorem EG {p:Int} {r c:Nat} {M:aV} (bE:db p=true) (hM:dW p r c M):∀j,j<=c->(List.range j).countP (ur (cE p r M j).2.1)=(cE p r M j).2.1.length
 |0,_=>rfl
 |j+1,hj=>by
  have ih:=EG bE hM j (by omega)
  have R:=w4 bE hM j (by omega)
  show(List.range (j+1)).countP (ur (kU p r (cE p r M j) j).2.1)=(kU p r (cE p r M j) j).2.1.length
  rw[EF]
  rcases NO bE (oG (e8 bE) hM j) (show j<c by omega) with⟨e,_⟩|⟨k,N,inv,e,P,hl⟩
  ·rw[e,ih]
   have:ur (cE p r M j).2.1 j=false:=by
    rw[Bool.eq_false_iff]
    intro h
    obtain⟨i,hi,he⟩:=wN.1 h
    have:=R.lt i hi
    omega
   rw[this]
   simp
  ·rw[e]
   dsimp only
   have h1:ur ((cE p r M j).2.1++[(j:Int)]) j=true:=wN.2 ⟨_,by simp,wX⟩
   have h2:(List.range j).countP (ur ((cE p r M j).2.1++[(j:Int)]))=(List.range j).countP (ur (cE p r M j).2.1):=by
    refine List.countP_congr fun b hb=>?_
    have hb:=List.mem_range.1 hb
    rw[wN,wN]
    constructor
    ·rintro⟨i,hi,he⟩
     simp only[List.length_append,List.length_cons,List.length_nil] at hi
     by_cases ez:i<(cE p r M j).2.1.length
     ·rw[NK ez] at he;exact⟨i,ez,he⟩
     ·rw[show i=(cE p r M j).2.1.length by omega,wX] at he;omega
    ·rintro⟨i,hi,he⟩
     exact⟨i,by simp only[List.length_append];omega,by rw[NK hi];exact he⟩
   rw[h1,h2,ih]
   simp
theorem R7 {P Q:Nat->Bool}:∀n,(∀i,i<n->P i=true->Q i=true)->(List.range n).countP P<=(List.range n).countP Q
 |0,_=>Nat.le_refl _
 |n+1,h=>by
  rw[EF,EF]
  have:=R7 n fun i hi=>h i (by omega)
  cases hP:P n with
  |false=>simp;omega
  |true=>rw[h n (by omega) hP];omega
theorem uO {p:Int} {r r' c:Nat} {M M':aV} (bE:db p=true) (hM:dW p r c M) (lr:dW p r' c M') (h:∀x,Sp p r c M x->Sp p r' c M' x):
  (cE p r M c).2.1.length<=(cE p r' M' c).2.1.length:=by
 rw[<-EG bE hM c (Nat.le_refl c),<-EG bE lr c (Nat.le_refl c)]
 refine R7 c fun j hj hP=>?_
 obtain⟨x,hx,hl⟩:=(NG bE hM hj).2 (wN.1 hP)
 exact wN.2 ((NG bE lr hj).1 ⟨x,h x hx,hl⟩)
end Go.Am
end
section
namespace Go.Am
end Go.Am
end
section
namespace Go.Am
structure Ax (p:Int) (D:List Int) (j:Nat) (left:Nat) (L:List aR):Prop where
 lf:left<=4
 fin:j=D.length->left=1
 bm:L.length=j
 A6:bf L=D.take j
 ch:dG (gB p) 0 1 L=some (left:Int)
 b4:∀s∈L,s.2.2.1<=4
theorem Ax.next {p:Int} {D:List Int} {j left right:Nat} {L:List aR} {d:List Int} (I:Ax p D j left L) (hj:j<D.length) (hd:∀v∈D,1<=v/\v<=3) (hr:right<=4) (hf:j+1=D.length->right=1)
  (hl:d.length=left*(D.getD j 0).toNat*right) (ha:fo p d):Ax p D (j+1) right (L++[((left:Int),D.getD j 0,(right:Int),d)]):=by
 have hv:=hd _ (sk hj)
 have alL:=I.lf
 refine⟨hr,hf,by rw[List.length_append,I.bm];rfl,?_,?_,?_⟩
 ·unfold bf
  rw[List.map_append]
  show bf L++[D.getD j 0]=_
  rw[I.A6,List.take_add_one,vY hj]
  rfl
 ·rw[E8,I.ch]
  show gB p _ _ _=_
  refine if_pos ⟨?_,rfl⟩
  obtain⟨e,he⟩:∃e:Nat,D.getD j 0=(e:Int):=⟨(D.getD j 0).toNat,by omega⟩
  rw[he] at hl hv⊢
  rw[Int.toNat_natCast] at hl
  exact G7 (by omega) (by omega) ⟨by omega,by omega⟩ hl ha
 ·intro s hs
  rcases List.mem_append.1 hs with h|h
  ·exact I.b4 s h
  ·rw[List.mem_singleton] at h
   subst h
   show(right:Int)<=4
   omega
theorem Ax.ok {p:Int} {D:List Int} {left:Nat} {L:List aR} (I:Ax p D D.length left L) (hp:db p=true) (hl:1<=D.length/\D.length<=4) (hd:∀v∈D,1<=v/\v<=3):dS (p,L)=true/\bf L=D:=by
 have Fh:bf L=D:=by rw[I.A6,List.take_length]
 have h1:=I.fin rfl
 subst h1
 have bE:gW D<=4096:=by
  rw[GC fun x hx=>(hd x hx).1]
  have:∀(l:List Int),(∀v∈l,1<=v/\v<=3)->fy l<=3^l.length:=by
   intro l
   induction l with
   |nil=>intro _;decide
   |cons a l ih=>
    intro h
    have ha:=h a (by simp)
    have:=Nat.mul_le_mul (show a.toNat<=3 by omega) (ih fun v hv=>h v (by simp[hv]))
    simp only[fy,List.length_cons,Nat.pow_succ]
    omega
  have h2:=this D hd
  have h3:3^D.length<=3^4:=Nat.pow_le_pow_right (by decide) hl.2
  omega
 refine⟨?_,Fh⟩
 simp only[dS,hp,I.ch,Fh,I.bm,Bool.true_and]
 rw[decide_eq_true ⟨hl.1,by omega⟩,decide_eq_true bE]
 rfl
end Go.Am
end
section
namespace Go.Am
def d2 (a b c d:Int):Int:=a*d - b*c
def d3 (a b c d e f g h i:Int):Int:=a*d2 e f h i - b*d2 d f g i+c*d2 d e g h
theorem bO.sub {p a b c d:Int} (h:bO p a b) (h':bO p c d):bO p (a - c) (b - d):=by
 obtain⟨q,rfl⟩:=h;obtain⟨q',rfl⟩:=h';exact⟨q - q',by grind⟩
end Go.Am
end
section
namespace Go.Am
section
variable {p:Int} {n:Nat} {M0:aV}
end
end Go.Am
end
section
namespace Go.Am
def zC (n:Nat) (X Y:aV):aV:=fun a b=>sm n (fun i=>X a i*Y i b)
theorem nV {p a b:Int}:bO p a b↔a%p=b%p:=by
 constructor
 ·rintro⟨q,rfl⟩;exact Int.add_mul_emod_self_left b p q
 ·intro h;exact((yq p a).symm).trans (by rw[h];exact yq p b)
theorem lY {p:Int} {f g:Nat->Int} {n:Nat} (h:∀i,i<n->bO p (f i) (g i)):bO p (sm n f) (sm n g):=nV.2 (zY fun i hi=>nV.1 (h i hi))
structure ZV (p:Int) (n:Nat) (A B:aV) (t k:Nat) (inv:Int) (f:Nat->Int):Prop where
 bt:∀b,b<n->bO p (B t b) (inv*A k b)
 ba:∀a,a<n->a≠t->∀b,b<n->bO p (B a b) (di A t k a b+f a*B t b)
theorem AF.zQ {p:Int} {n:Nat} {M N:aV} {t k j:Nat} {inv:Int} (P:AF p n M N t k j inv) (Y:aV):ZV p n (zC n M Y) (zC n N Y) t k inv (fun a=>p - di M t k a j):=by
 constructor
 ·intro b _
  unfold zC
  rw[<-xi]
  refine lY fun i _=>?_
  rw[P.nt i]
  refine(bO.mul (yq p _) (bO.refl p (Y i b))).trans ?_
  exact⟨0,by grind⟩
 ·intro a ha bK b _
  have e:di (zC n M Y) t k a b=sm n (fun i=>di M t k a i*Y i b):=by
   unfold di zC
   split
   ·rfl
   ·split<;>rfl
  rw[e]
  unfold zC
  rw[<-xi,<-Ha]
  refine lY fun i _=>?_
  rw[P.na a ha bK i]
  refine(bO.mul (yq p _) (bO.refl p (Y i b))).trans ?_
  exact⟨0,by grind⟩
theorem R6 {P:Nat->Bool}:∀n,(List.range n).countP P=n↔∀i,i<n->P i=true
 |0=>by simp
 |n+1=>by
  rw[EF]
  have h:=R6 (P:=P) n
  have eU:(List.range n).countP P<=n:=by have:=List.countP_le_length (p:=P) (l:=List.range n);simpa using this
  constructor
  ·intro hh
   cases hP:P n with
   |false=>rw[hP] at hh;simp at hh;omega
   |true=>
    rw[hP] at hh
    simp only[if_true] at hh
    have:=h.1 (by omega)
    intro i hi
    by_cases fu:i=n
    ·rw[fu];exact hP
    ·exact this i (by omega)
  ·intro hh
   rw[hh n (by omega),h.2 fun i hi=>hh i (by omega)]
   simp
theorem ahq (p:Int) (k:Nat) (A B:aV) (i j:Nat):bO p (Xa p k A B i j) (sm k (fun t=>A i t*B t j)):=by
 unfold Xa
 rw[Sn]
 exact yq _ _
theorem X8 {p:Int} {r c:Nat} {M:aV} (bE:db p=true) (hM:dW p r c M) {i j:Nat} (hi:i<r) (hj:j<c):
  bO p (sm (cE p r M c).2.1.length (fun t=>M i (pv (cE p r M c).2.1 t)*(cE p r M c).1 t j)) (M i j):=by
 have hp:eC p:=e8 bE
 have R:=w4 bE hM c (Nat.le_refl c)
 have I:=oG hp hM c
 obtain⟨y,hy⟩:=(GF bE hM (M i) c (Nat.le_refl c)).2 (kt hi)
 generalize cE p r M c=s at R I hy
 have bU:∀t,t<s.2.1.length->bO p (M i (pv s.2.1 t)) (y t):=fun t ht=>by
  refine nV.2 ?_
  rw[hy _ (R.lt t ht),te (a:=t) r (by have:=I.l;omega) fun a ha av=>by rw[R.bw t ht a ha av,Int.mul_zero]]
  rw[R.one t ht,Int.mul_one]
 have e1:bO p (sm s.2.1.length (fun t=>M i (pv s.2.1 t)*s.1 t j)) (sm s.2.1.length (fun t=>y t*s.1 t j)):=lY fun t ht=>bO.mul (bU t ht) (bO.refl _ _)
 refine e1.trans (nV.2 ?_)
 rw[hy j hj,PM (m:=s.2.1.length) r I.l fun a ha hla=>by rw[R.zero a hla ha j hj,Int.mul_zero]]
theorem Zm {p:Int} {r c:Nat} {M:aV} (bE:db p=true) (hM:dW p r c M):(cE p c (rG M) r).2.1.length<=(cE p r M c).2.1.length:=by
 have hp:eC p:=e8 bE
 have R:=w4 bE hM c (Nat.le_refl c)
 have hT:dW p c r (rG M):=fun j hj i hi=>hM i hi j hj
 have hB:dW p (cE p r M c).2.1.length r (fun t i=>M i (pv (cE p r M c).2.1 t)):=fun t ht i hi=>hM i hi _ (R.lt t ht)
 refine Nat.le_trans (uO bE hT hB fun x hx=>nK (fun j hj=>?_) hx) (oG hp hB r).l
 refine⟨fun t=>(cE p r M c).1 t j,fun i hi=>?_⟩
 show M i j%p=_
 rw[<-nV.1 (X8 bE hM hi hj)]
 congr 1
 exact kZ fun t _=>Int.mul_comm _ _
theorem alf {p:Int} {r c:Nat} {M:aV} (bE:db p=true) (hM:dW p r c M):(cE p c (rG M) r).2.1.length=(cE p r M c).2.1.length:=
 Nat.le_antisymm (Zm bE hM) (Zm (M:=rG M) bE (fun j hj i hi=>hM i hi j hj))
end Go.Am
end
section
namespace Go.Am
theorem Hc (N k:Nat) (y g:Nat->Int) (L:aV):sm N (fun u=>y u*sm k (fun t=>L u t*g t))=sm k (fun t=>sm N (fun u=>y u*L u t)*g t):=by
 have e1:sm N (fun u=>y u*sm k (fun t=>L u t*g t))=sm N (fun u=>sm k (fun t=>y u*L u t*g t)):=kZ fun u _=>by
  rw[<-xi]
  exact kZ fun t _=>by rw[Int.mul_assoc]
 rw[e1,PN]
 exact kZ fun t _=>by rw[Yz]
theorem aa5 (p:Int) (f g:Nat->Int) (n:Nat):bO p (tI p f g n) (sm n (fun t=>f t*g t)):=ahq p n (fun _=>f) (fun t _=>g t) 0 0
theorem YA {k t:Nat} (g:Nat->Int) (ht:t<k):sm k (fun b=>(if b=t then(1:Int) else 0)*g b)=g t:=by
 rw[te (a:=t) k ht (fun i _ av=>by simp[av])]
 simp
theorem Jm {p a b:Int} (h:a=b):bO p a b:=h▸bO.refl p a
theorem EQ {p a:Int}:bO p (a%p) a:=yq p a
def LI (m:Int) (N k:Nat) (L:aV):Prop:=∀x:Nat->Int,Sp m N k L x
def oh:aV:=fun a b=>if b=a then 1 else 0
theorem ZW {m:Int} {k:Nat} (x:Nat->Int):Sp m k k oh x:=⟨x,fun b hb=>by
 have:sm k (fun i=>x i*oh i b)=x b:=by
  rw[te (a:=b) k hb (fun i _ av=>by unfold oh;rw[if_neg (fun h=>av h.symm),Int.mul_zero])]
  unfold oh
  rw[if_pos rfl,Int.mul_one]
 rw[this]⟩
theorem ZQ {m:Int} {N k:Nat} {L:aV} (h:∀t,t<k->∃i,i<N/\∀b,b<k->oh t b%m=L i b%m):LI m N k L:=fun x=>
 nK (fun t ht=>by
  obtain⟨i,hi,e⟩:=h t ht
  exact tw (kt hi) e) (ZW x)
theorem ZP {m:Int} {N k N' k' K:Nat} {L A L':aV} (hL:LI m N k L) (hA:LI m K k' A)
  (h:∀a,a<K->∃(t:Nat) (φ ψ:Nat->Nat),t<k/\ψ t=a/\(∀u,u<N->φ u<N')/\∀u,u<N->∀b,b<k'->bO m (L' (φ u) b) (sm k (fun t=>L u t*A (ψ t) b))):LI m N' k' L':=fun x=>by
 refine nK (fun a ha=>?_) (hA x)
 obtain⟨t,φ,ψ,ht,hψ,hφ,e⟩:=h a ha
 refine nK (N:=fun u=>L' (φ u)) (r':=N) (fun u hu=>kt (hφ u hu)) ?_
 obtain⟨y,hy⟩:=hL (fun b=>if b=t then 1 else 0)
 refine⟨y,fun b hb=>nV.1 (bO.symm ?_)⟩
 refine(lY fun u hu=>bO.mul (bO.refl _ (y u)) (e u hu b hb)).trans ?_
 rw[Hc]
 refine(lY fun q hq=>bO.mul (nV.2 (hy q hq).symm) (bO.refl _ (A (ψ q) b))).trans ?_
 rw[YA (fun q=>A (ψ q) b) ht,hψ]
 exact bO.refl _ _
theorem VU {m:Int} (hm:eC m) (k:Nat):dW m k k oh:=fun a _ b _=>by
 have:=hm.1
 unfold oh fE
 split<;>omega
theorem ajx {m:Int} {k:Nat} (bE:db m=true):(cE m k oh k).2.1.length=k:=by
 have hm:=e8 bE
 have h2:=hm.1
 have hI:=VU hm k
 rw[<-EG bE hI k (Nat.le_refl k)]
 refine(R6 k).2 fun j hj=>wN.2 ((NG bE hI hj).1 ⟨oh j,kt hj,fun b hb=>?_,?_⟩)
 ·unfold oh
  rw[if_neg (by omega)]
  exact Int.zero_emod _
 ·unfold oh
  rw[if_pos rfl,Int.emod_eq_of_lt (by omega) (by omega)]
  decide
theorem aju {m:Int} {N k:Nat} {L:aV} (bE:db m=true) (hL:dW m N k L) (h:LI m N k L):(cE m N L k).2.1.length=k:=by
 have hm:=e8 bE
 refine Nat.le_antisymm (oG hm hL k).lj ?_
 have:=uO bE (VU hm k) hL fun x _=>h x
 rwa[ajx bE] at this
theorem ZO {m:Int} {N k:Nat} {L L':aV} (h:LI m N k L) (e:∀u,u<N->∀b,b<k->bO m (L' u b) (L u b)):LI m N k L':=fun x=>by
 obtain⟨y,hy⟩:=h x
 refine⟨y,fun b hb=>(hy b hb).trans (nV.1 (lY fun u hu=>bO.mul (bO.refl _ _) (e u hu b hb).symm))⟩
theorem ajv {m:Int} {N k c:Nat} {U L R:aV} (bE:db m=true) (hU:dW m N c U) (hL:LI m N k L) (hR:LI m c k (rG R)) (h:∀u,u<N->∀w,w<c->bO m (U u w) (sm k (fun t=>L u t*R t w))):
  (cE m N U c).2.1.length=k:=by
 have hm:=e8 bE
 have h2:=hm.1
 let R':aV:=fun t w=>R t w%m
 have v5:dW m k c R':=fun t _ w _=>⟨Int.emod_nonneg _ (by omega),Int.emod_lt_of_pos _ (by omega)⟩
 have hT:dW m c k (rG R'):=fun w hw t ht=>v5 t ht w hw
 have k1:(cE m c (rG R') k).2.1.length=k:=aju bE hT (ZO hR fun w _ t _=>EQ)
 rw[alf bE v5] at k1
 refine Nat.le_antisymm ?_ ?_
 ·refine Nat.le_trans (uO bE hU v5 fun x hx=>nK (fun u hu=>?_) hx) (Nat.le_of_eq k1)
  refine⟨fun t=>L u t,fun w hw=>?_⟩
  refine nV.1 ((h u hu w hw).trans (lY fun t _=>bO.mul (bO.refl _ _) EQ.symm))
 ·rw[<-k1]
  refine(uO bE v5 hU fun x hx=>nK (fun t ht=>?_) hx)
  obtain⟨y,hy⟩:=hL (fun b=>if b=t then 1 else 0)
  refine⟨y,fun w hw=>nV.1 (bO.symm ?_)⟩
  refine(lY fun u hu=>bO.mul (bO.refl _ (y u)) (h u hu w hw)).trans ?_
  rw[Hc]
  refine(lY fun q hq=>bO.mul (nV.2 (hy q hq).symm) (bO.refl _ (R q w))).trans ?_
  rw[YA (fun q=>R q w) ht]
  exact EQ.symm
theorem ajy {m:Int} {N k c:Nat} {U L R:aV} (bE:db m=true) (hU:dW m N c U) (h:∀u,u<N->∀w,w<c->bO m (U u w) (sm k (fun t=>L u t*R t w))):(cE m N U c).2.1.length<=k:=by
 have hm:=e8 bE
 have h2:=hm.1
 have v5:dW m k c (fun t w=>R t w%m):=fun t _ w _=>⟨Int.emod_nonneg _ (by omega),Int.emod_lt_of_pos _ (by omega)⟩
 refine Nat.le_trans (uO bE hU v5 fun x hx=>nK (fun u hu=>?_) hx) (oG hm v5 c).l
 refine⟨fun t=>L u t,fun w hw=>nV.1 ((h u hu w hw).trans (lY fun t _=>bO.mul (bO.refl _ _) EQ.symm))⟩
theorem acB {m:Int} {r c:Nat} {d:List Int} (bE:db m=true) (hl:d.length=r*c) (hd:fo m d) {i j:Nat} (hi:i<r) (hj:j<c):
  bO m (cV c d i j) (sm (g9 m r c d) (fun t=>cV (g9 m r c d) (m4 m r c d) i t*cV c (sd m r c d) t j)):=by
 have hM:=vB hl hd
 refine(X8 bE hM hi hj).symm.trans (lY fun t ht=>?_)
 have h1:cV (g9 m r c d) (m4 m r c d) i t=cV c d i (pv (cE m r (cV c d) c).2.1 t):=Gu _ hi ht
 have h2:cV c (sd m r c d) t j=(cE m r (cV c d) c).1 t j:=Gu _ ht hj
 rw[h1,h2]
 exact bO.refl _ _
theorem acz {m:Int} {r c:Nat} {d:List Int} (bE:db m=true) (hl:d.length=r*c) (hd:fo m d):LI m r (g9 m r c d) (cV (g9 m r c d) (m4 m r c d)):=fun x=>by
 have hM:=vB hl hd
 have R:=w4 bE hM c (Nat.le_refl c)
 have I:=oG (e8 bE) hM c
 have hs:Sp m r c (cE m r (cV c d) c).1 (fun b=>sm (g9 m r c d) (fun s=>x s*(cE m r (cV c d) c).1 s b)):=by
  refine nK (N:=(cE m r (cV c d) c).1) (r':=g9 m r c d) (fun i hi=>kt (Nat.lt_of_lt_of_le hi I.l)) ⟨x,fun b _=>rfl⟩
 obtain⟨y,hy⟩:=(GF bE hM _ c (Nat.le_refl c)).1 hs
 refine⟨y,fun t ht=>?_⟩
 have e1:=hy (pv (cE m r (cV c d) c).2.1 t) (R.lt t ht)
 have e2:sm (g9 m r c d) (fun s=>x s*(cE m r (cV c d) c).1 s (pv (cE m r (cV c d) c).2.1 t))=x t:=by
  rw[te (a:=t) _ ht (fun s hs av=>by rw[R.bw t ht s (Nat.lt_of_lt_of_le hs I.l) av,Int.mul_zero]),R.one t ht,Int.mul_one]
 have e1:=(congrArg (·%m) e2).symm.trans e1
 refine Eq.trans e1 ?_
 congr 1
 refine kZ fun i hi=>?_
 have h1:cV (g9 m r c d) (m4 m r c d) i t=cV c d i (pv (cE m r (cV c d) c).2.1 t):=Gu _ hi ht
 rw[h1]
theorem acA {m:Int} {r c:Nat} {d:List Int} (bE:db m=true) (hl:d.length=r*c) (hd:fo m d):LI m c (g9 m r c d) (rG (cV c (sd m r c d))):=by
 have hM:=vB hl hd
 have R:=w4 bE hM c (Nat.le_refl c)
 have I:=oG (e8 bE) hM c
 refine ZQ fun t ht=>⟨_,R.lt t ht,fun b hb=>?_⟩
 have h2:rG (cV c (sd m r c d)) (pv (cE m r (cV c d) c).2.1 t) b=(cE m r (cV c d) c).1 b (pv (cE m r (cV c d) c).2.1 t):=Gu _ hb (R.lt t ht)
 rw[h2]
 unfold oh
 by_cases h:b=t
 ·rw[if_pos h,h,R.one t ht]
 ·rw[if_neg h,R.bw t ht b (Nat.lt_of_lt_of_le hb I.l) h]
theorem Xl (c p:Nat) (l:List Int) (a v j:Nat):cV c l (a*p+v) j=cV (p*c) l a (v*c+j):=by
 unfold cV
 congr 1
 rw[Nat.add_mul,Nat.mul_assoc,Nat.add_assoc]
def lN (m:Int) (l:List aR) (D:List Int):Nat->Nat->Nat->Int
 |0,_=>fun _=>1
 |i+1,u=>zQ m (lN m l D i (u/(D.getD i 0).toNat)) (l.getD i bP) (u%(D.getD i 0).toNat)
def rL:List aR->aV
 |[]=>fun _ _=>1
 |s::l=>fun t w=>sm s.2.2.1.toNat (fun j=>uZ s (w/fy (bf l)) t j*rL l j (w%fy (bf l)))
theorem Mo {m:Int} (hm:eC m) (l:List aR) (D:List Int):∀i u j,fE m (lN m l D i u j)
 |0,_,_=>by have:=hm.1;exact⟨by show(0:Int)<=1;decide,by show(1:Int)<m;omega⟩
 |i+1,_,_=>aa4 hm _ _ _
theorem WG {m:Int} {l:List aR} {D:List Int} {i u v j:Nat} (hv:v<(D.getD i 0).toNat):
  bO m (lN m l D (i+1) (u*(D.getD i 0).toNat+v) j) (sm (l.getD i bP).1.toNat (fun t=>lN m l D i u t*uZ (l.getD i bP) v t j)):=by
 show bO m (zQ m (lN m l D i ((u*(D.getD i 0).toNat+v)/(D.getD i 0).toNat)) _ ((u*(D.getD i 0).toNat+v)%(D.getD i 0).toNat) j) _
 rw[nq hv,nr hv]
 exact aa5 _ _ _ _
theorem WE {m:Int} {l l':List aR} {D:List Int}:∀i,(∀k,k<i->l.getD k bP=l'.getD k bP)->lN m l D i=lN m l' D i
 |0,_=>rfl
 |i+1,h=>by
  funext u
  show zQ m (lN m l D i _) _ _=zQ m (lN m l' D i _) _ _
  rw[WE i (fun k hk=>h k (by omega)),h i (by omega)]
def xu (m:Int) (l:List aR) (n:Nat):Int:=lN m l (bf l) l.length n 0
structure Ch (m:Int) (D:List Int) (L:List aR):Prop where
 fit:Tb m L
 qE:bf L=D
 len:1<=L.length
 fst:(L.getD 0 bP).1=1
 kQ:(L.getD (L.length - 1) bP).2.2.1=1
theorem Ch.left {m:Int} {D:List Int} {L:List aR} (h:Ch m D L):∀{k:Nat},k<L.length->(L.getD k bP).1.toNat=eu L k
 |0,_=>by rw[h.fst];rfl
 |k+1,hk=>by rw[h.fit.2 k hk];rfl
theorem Ch.Sk {m:Int} {D:List Int} {L:List aR} (h:Ch m D L):D.length=L.length:=by rw[<-h.qE];exact jW L
theorem Ch.last {m:Int} {D:List Int} {L:List aR} (h:Ch m D L):eu L L.length=1:=by
 have:=h.len
 have e:L.length=L.length - 1+1:=by omega
 rw[e]
 show(L.getD (L.length - 1) bP).2.2.1.toNat=1
 rw[h.kQ]
 rfl
theorem aa8 (L:List aR) (k:Nat):fy (bf (L.drop k))=bN (bf L) k:=by
 unfold bN bf
 rw[List.map_drop]
theorem aa9 {L:List aR} {k:Nat} (hk:k<L.length):L.drop k=L.getD k bP::L.drop (k+1):=by
 rw[List.drop_eq_getElem_cons hk]
 congr 1
 rw[List.getD_eq_getElem?_getD,List.getElem?_eq_getElem hk]
 rfl
theorem ajs {m:Int} {D:List Int} {L:List aR} (h:Ch m D L) {i t v w:Nat} (hi:i<L.length) (hw:w<bN D (i+1)):
  rL (L.drop i) t (v*bN D (i+1)+w)=sm (eu L (i+1)) (fun j=>uZ (L.getD i bP) v t j*rL (L.drop (i+1)) j w):=by
 rw[aa9 hi]
 show sm _ (fun j=>uZ (L.getD i bP) ((v*bN D (i+1)+w)/fy (bf (L.drop (i+1)))) t j*rL (L.drop (i+1)) j ((v*bN D (i+1)+w)%fy (bf (L.drop (i+1)))))=_
 rw[aa8,h.qE,nq hw,nr hw]
 rfl
theorem Ch.split {m:Int} {D:List Int} {L:List aR} (h:Ch m D L):∀(q i:Nat),i+q=L.length->∀u w,w<bN D i->
  bO m (lN m L D L.length (u*bN D i+w) 0) (sm (eu L i) (fun t=>lN m L D i u t*rL (L.drop i) t w))
 |0,i,hi,u,w,hw=>by
  have hi:i=L.length:=hi
  subst hi
  have e:bN D L.length=1:=by rw[<-h.Sk];exact Ah D
  rw[e] at hw⊢
  have:w=0:=by omega
  subst this
  rw[h.last,List.drop_length,Nat.mul_one,Nat.add_zero]
  refine Jm ?_
  show _=0+_*1
  rw[Int.mul_one,Int.zero_add]
 |q+1,i,hi,u,w,hw=>by
  have ez:i<L.length:=by omega
  have ih:=Ch.split h q (i+1) (by omega)
  rw[vf (by rw[h.Sk];exact ez)] at hw⊢
  have hP:0<bN D (i+1):=by
   rcases Nat.eq_zero_or_pos (bN D (i+1)) with h0|h0
   ·rw[h0,Nat.mul_zero] at hw;omega
   ·exact h0
  have hv:w/bN D (i+1)<(D.getD i 0).toNat:=Nat.div_lt_of_lt_mul (by rw[Nat.mul_comm];exact hw)
  have hr:w%bN D (i+1)<bN D (i+1):=Nat.mod_lt _ hP
  have ew:w=w/bN D (i+1)*bN D (i+1)+w%bN D (i+1):=by rw[Nat.mul_comm];exact(Nat.div_add_mod _ _).symm
  generalize w/bN D (i+1)=v at hv ew
  generalize w%bN D (i+1)=w' at hr ew
  subst ew
  have e:u*((D.getD i 0).toNat*bN D (i+1))+(v*bN D (i+1)+w')=(u*(D.getD i 0).toNat+v)*bN D (i+1)+w':=by
   rw[Nat.add_mul,Nat.mul_assoc,Nat.add_assoc]
  rw[e]
  refine(ih _ _ hr).trans ?_
  refine(lY fun j _=>bO.mul (WG hv) (bO.refl _ _)).trans (Jm ?_)
  rw[h.left ez,<-Hc]
  exact kZ fun t _=>by rw[ajs h ez hr]
def Zp (m:Int) (L:List aR) (D:List Int) (i:Nat):aV:=fun u w=>lN m L D L.length (u*bN D i+w) 0
theorem Ch.uO {m:Int} {D:List Int} {L:List aR} (h:Ch m D L) (bE:db m=true) {i:Nat} (hi:i<=L.length) (N:Nat):(cE m N (Zp m L D i) (bN D i)).2.1.length<=eu L i:=
 ajy bE (fun _ _ _ _=>Mo (e8 bE) _ _ _ _ _) fun u _ w hw=>Ch.split h (L.length - i) i (by omega) u w hw
def kJ (D:List Int):Nat->Nat
 |0=>1
 |i+1=>kJ D i*(D.getD i 0).toNat
theorem head_tail (D:List Int):∀i,i<=D.length->kJ D i*bN D i=fy D
 |0,_=>by rw[ak5];exact Nat.one_mul _
 |i+1,hi=>by
  rw[<-head_tail D i (by omega),vf (show i<D.length by omega),<-Nat.mul_assoc]
  rfl
end Go.Am
end
section
namespace Go.Am
def oS (D A:List Int) (i:Nat):aV:=cV (bN D i) A
structure tt (m:Int) (D A:List Int) (i:Nat) (st:kq):Prop where
 c:vr m D i st
 b4:st.1<=4
 val:∀u,u<kJ D i->∀w,w<bN D i->bO m (oS D A i u w) (sm st.1 (fun t=>lN m st.2.2 D i u t*cV (bN D i) st.2.1 t w))
 li:LI m (kJ D i) st.1 (lN m st.2.2 D i)
 rk:∀k,k<i->(cE m (kJ D (k+1)) (oS D A (k+1)) (bN D (k+1))).2.1.length=((st.2.2.getD k bP).2.2.1).toNat
theorem Tz {l l':List aR} {k:Nat} (h:k<l.length):(l++l').getD k bP=l.getD k bP:=by
 rw[List.getD_eq_getElem?_getD,List.getD_eq_getElem?_getD,List.getElem?_append_left h]
theorem TA {l:List aR} {s:aR} {k:Nat} (h:l.length=k):(l++[s]).getD k bP=s:=by
 rw[List.getD_eq_getElem?_getD,List.getElem?_append_right (by omega),h,Nat.sub_self]
 rfl
theorem z8 {d u N:Nat} (hu:u<N*d):∃u' v,u=u'*d+v/\u'<N/\v<d:=by
 have hd:0<d:=by
  rcases Nat.eq_zero_or_pos d with h|h
  ·rw[h,Nat.mul_zero] at hu;omega
  ·exact h
 exact⟨u/d,u%d,by rw[Nat.mul_comm];exact(Nat.div_add_mod _ _).symm,Nat.div_lt_of_lt_mul (by rw[Nat.mul_comm];exact hu),Nat.mod_lt _ hd⟩
theorem Zo {m:Int} {D A:List Int} (h:rI m D A) {i:Nat} (hi:i<=D.length):dW m (kJ D i) (bN D i) (oS D A i):=
 vB (by rw[h.len,head_tail D i hi]) h.el
theorem YE {m:Int} {D:List Int} {l:List aR} {a k i u v z:Nat} {fa:List Int} (hl:l.length=i) (hv:v<(D.getD i 0).toNat):
  bO m (lN m (l++[((a:Int),D.getD i 0,(k:Int),fa)]) D (i+1) (u*(D.getD i 0).toNat+v) z) (sm a (fun t=>lN m l D i u t*cV k fa (t*(D.getD i 0).toNat+v) z)):=by
 refine(WG hv).trans (Jm ?_)
 rw[TA hl,WE (l:=l++[((a:Int),D.getD i 0,(k:Int),fa)]) (l':=l) i (fun q hq=>Tz (by omega))]
 rfl
theorem tt.next {m:Int} {D A:List Int} (h:rI m D A) (BD:∀x∈D,x<=3) (hn:D.length<=4) {i:Nat} (hi:i<D.length - 1)
  (hr:(cE m (kJ D (i+1)) (oS D A (i+1)) (bN D (i+1))).2.1.length<=4) {st:kq} (I:tt m D A i st):AQ D i st=true/\cK m D i st<=4/\tt m D A (i+1) (rW m D i st):=by
 have hi':i<D.length:=by omega
 have h3:(D.getD i 0).toNat<=3:=by have:=BD _ (sk hi');omega
 have pL:=qp.rc h (by omega) I.c.s
 have bE:=h.pr
 have fJ:AQ D i st=true:=by
  refine decide_eq_true ⟨Nat.le_trans (Nat.mul_le_mul I.b4 h3) (by decide),?_⟩
  have bU:∀q i,i+q=D.length->1<=i->bN D i<=3^q:=by
   intro q
   induction q with
   |zero=>intro i hi _;have:i=D.length:=hi;subst this;rw[Ah];decide
   |succ q ih=>
    intro i hi h1
    rw[vf (by omega),Nat.pow_succ,Nat.mul_comm]
    have h3:(D.getD i 0).toNat<=3:=by have:=BD _ (sk (l:=D) (i:=i) (by omega));omega
    exact Nat.mul_le_mul (ih (i+1) (by omega) (by omega)) h3
  have:=bU (D.length - (i+1)) (i+1) (by omega) (by omega)
  have h4:3^(D.length - (i+1))<=3^3:=Nat.pow_le_pow_right (by decide) (by omega)
  have:(3:Nat)^3=27:=by decide
  omega
 have hN:kJ D (i+1)=kJ D i*(D.getD i 0).toNat:=rfl
 have hT:bN D i=(D.getD i 0).toNat*bN D (i+1):=vf hi'
 have BC:=I.c.s.bm
 have Zu:∀u,u<kJ D (i+1)->∀w,w<bN D (i+1)->bO m (oS D A (i+1) u w) (sm (cK m D i st) (fun t=>lN m (rW m D i st).2.2 D (i+1) u t*cV (bN D (i+1)) (rW m D i st).2.1 t w)):=by
  intro u hu w hw
  obtain⟨u',v,rfl,jD,hv⟩:=z8 hu
  have e1:oS D A (i+1) (u'*(D.getD i 0).toNat+v) w=oS D A i u' (v*bN D (i+1)+w):=by
   unfold oS
   rw[Xl,<-hT]
  rw[e1]
  have hw2:v*bN D (i+1)+w<bN D i:=by rw[hT];exact mw hv hw
  refine(I.val u' jD _ hw2).trans ?_
  have e2:∀t,t<st.1->bO m (cV (bN D i) st.2.1 t (v*bN D (i+1)+w)) (sm (cK m D i st) (fun z=>cV (cK m D i st) (m4 m (st.1*(D.getD i 0).toNat) (bN D (i+1)) st.2.1) (t*(D.getD i 0).toNat+v) z*cV (bN D (i+1)) (rW m D i st).2.1 z w)):=by
   intro t ht
   rw[hT,<-Xl]
   exact acB bE pL I.c.s.el (mw ht hv) hw
  refine(lY fun t ht=>bO.mul (bO.refl _ _) (e2 t ht)).trans ?_
  rw[Hc]
  exact lY fun z _=>bO.mul (YE BC hv).symm (bO.refl _ _)
 have WK:LI m (kJ D (i+1)) (cK m D i st) (lN m (rW m D i st).2.2 D (i+1)):=by
  refine ZP I.li (acz bE pL I.c.s.el) fun a ha=>?_
  obtain⟨t,v,rfl,ht,hv⟩:=z8 ha
  refine⟨t,fun u=>u*(D.getD i 0).toNat+v,fun t=>t*(D.getD i 0).toNat+v,ht,rfl,fun u hu=>mw hu hv,fun u hu b hb=>YE BC hv⟩
 have hk:(cE m (kJ D (i+1)) (oS D A (i+1)) (bN D (i+1))).2.1.length=cK m D i st:=
  ajv bE (Zo h (by omega)) WK (acA bE pL I.c.s.el) Zu
 have T8:cK m D i st<=4:=by omega
 refine⟨fJ,T8,vr.next h hi I.c fJ (by omega),T8,Zu,WK,fun k cC=>?_⟩
 by_cases wk:k<i
 ·rw[I.rk k wk]
  show _=((st.2.2++[_]).getD k bP).2.2.1.toNat
  rw[Tz (by omega)]
 ·have:k=i:=by omega
  subst this
  rw[hk]
  show _=((st.2.2++[_]).getD k bP).2.2.1.toNat
  rw[TA BC]
  rfl
theorem tt.run {m:Int} {D A:List Int} (h:rI m D A) (BD:∀x∈D,x<=3) (hn:D.length<=4)
  (hr:∀i,i<D.length - 1->(cE m (kJ D (i+1)) (oS D A (i+1)) (bN D (i+1))).2.1.length<=4):∀(es:List Nat) (i:Nat) (st:kq),i+es.length=D.length - 1->tt m D A i st->
  ∃P4,dG (Jc m D) i st es=some P4/\tt m D A (D.length - 1) P4
 |[],i,st,hi,I=>by
  rw[List.length_nil,Nat.add_zero] at hi
  subst hi
  exact⟨st,rfl,I⟩
 |e::es,i,st,hi,I=>by
  rw[List.length_cons] at hi
  obtain⟨h1,h2,h3⟩:=tt.next h BD hn (i:=i) (by omega) (hr i (by omega)) I
  simp only[dG]
  rw[show Jc m D i st e=some (rW m D i st) by unfold Jc;rw[if_pos h1,if_pos (by omega)]]
  exact tt.run h BD hn hr es (i+1) _ (by omega) h3
end Go.Am
end
section
namespace Go.Am
def Bd (L:List aR):Prop:=∀k,k<L.length->(L.getD k bP).1.toNat<=4/\(L.getD k bP).2.1.toNat<=3/\(L.getD k bP).2.2.1.toNat<=4
structure Two (m:Int) (D:List Int) (L L':List aR) (i:Nat):Prop where
 len:L'.length=L.length
 ch:Ch m D L'
 bd:∀k,k<=L.length->k≠i+1->eu L' k=eu L k
 val:∀k,k<=L.length->k≠i+1->∀u j,j<eu L k->lN m L' D k u j=lN m L D k u j
 b4:Bd L'
structure ZL (m:Int) (D:List Int) (l L:List aR) (i:Nat):Prop where
 ch:Ch m D L
 len:L.length=l.length
 b4:Bd L
 val:∀u,lN m L D l.length u 0=lN m l D l.length u 0
 li:∀k,k<=i->LI m (kJ D k) (eu L k) (lN m L D k)
structure BwI (m:Int) (D:List Int) (l L:List aR) (i:Nat):Prop where
 f:ZL m D l L (l.length - 1)
 ri:∀k,i<k->k<=l.length->LI m (bN D k) (eu L k) (rG (rL (L.drop k)))
theorem Ch.of {m:Int} {l:List aR} (h:dS (m,l)=true):Ch m (bf l) l:=by
 obtain⟨_,⟨h1,h8⟩,_,hb,hs⟩:=En h
 refine⟨Tc h,rfl,h1,?_,?_⟩
 ·obtain⟨p,M,e,_⟩:=hs 0 (by omega)
  rw[e]
  rfl
 ·obtain⟨p,M,e,_⟩:=hs (l.length - 1) (by omega)
  have e1:l.length - 1+1=l.length:=by omega
  rw[e,e1,hb]
  rfl
theorem Ch.ok {m:Int} {D:List Int} {L:List aR} (h:Ch m D L) (bE:db m=true) (h8:L.length<=8) (hp:gW D<=4096):dS (m,L)=true:=by
 have dh:dG (gB m) 0 1 L=some 1:=by
  refine(IZ L 0 1 1).2 ⟨fun k hk=>⟨h.fit.1 k hk,?_⟩,?_⟩
  ·cases k with
   |zero=>exact h.fst
   |succ k=>exact h.fit.2 k hk
  ·have:=h.len
   rw[show L.length=L.length - 1+1 by omega]
   exact h.kQ.symm
 simp only[dS,bE,dh,h.qE,Bool.true_and]
 rw[decide_eq_true ⟨h.len,h8⟩,decide_eq_true hp]
 rfl
theorem rZ {m:Int} {l:List aR} (h:dS (m,l)=true):db m=true/\l.length<=8/\gW (bf l)<=4096:=by
 obtain⟨_,h8,hp,_⟩:=En h
 refine⟨?_,h8.2,hp⟩
 simp only[dS,Bool.and_eq_true] at h
 exact h.1
end Go.Am
end
section
namespace Go.Am
theorem ajw {p:Int} {r c:Nat} {A B:aV} (bE:db p=true) (hA:dW p r c A) (hB:dW p r c B) (h:∀a,a<r->∀b,b<c->A a b=B a b):(cE p r A c).2.1.length=(cE p r B c).2.1.length:=by
 apply Nat.le_antisymm
 ·exact uO bE hA hB fun x hx=>nK (fun i hi=>tw (kt hi) fun b hb=>by rw[h i hi b hb]) hx
 ·exact uO bE hB hA fun x hx=>nK (fun i hi=>tw (kt hi) fun b hb=>by rw[h i hi b hb]) hx
end Go.Am
end
section
namespace Go.Am
theorem bX {α β:Type} (x:α) (f:α->Option β):(some x).ah f=f x:=by
 have h:∀o:Option α,o=some x->o.ah f=f x:=by intro o h;subst h;rfl
 exact h _ rfl
theorem Ja {α:Type} (x y:α):aH true x y=x:=rfl
theorem vI {α:Type} (x y:α):aH false x y=y:=rfl
theorem ale {m:Int} {L:List aR} (h:dS (m,L)=true):(Qm m L).1.length=L.length/\(Qm m L).2.1.length=L.length/\(Qm m L).2.2.length=fy (bf L)/\L.length<=8/\fy (bf L)<=4096:=by
 obtain⟨_,⟨_,hp⟩,h8,_⟩:=Si h
 rw[jW] at h8
 exact⟨qc _ _,jW L,qc _ _,h8,hp⟩
structure DC (p:Int) (L:List aR):Prop where
 ok:dS (p,L)=true
 b4:Bd L
 n4:L.length<=4
theorem DC.pr {p:Int} {L:List aR} (h:DC p L):db p=true:=(rZ h.ok).1
theorem DC.d3 {p:Int} {L:List aR} (h:DC p L):∀x∈bf L,1<=x/\x<=3:=fun x hx=>by
 obtain⟨hG,_⟩:=Si h.ok
 obtain⟨k,hk,e⟩:=List.mem_iff_getElem.1 hx
 have e2:(bf L).getD k 0=x:=by rw[List.getD_eq_getElem?_getD,List.getElem?_eq_getElem hk];exact e
 rw[EJ] at e2
 rw[jW] at hk
 have:=(h.b4 k hk).2.1
 have:=(hG.2 x hx).1
 omega
theorem DC.len {p:Int} {L:List aR} (h:DC p L):1<=L.length:=(Ch.of h.ok).len
theorem aln {p:Int} (hp:db p=true) (L:List aR) (n:Nat):fE p (xu p L n):=Mo (e8 hp) _ _ _ _ _
theorem ajT {p:Int} {n:Nat} {f:Nat->Int} (h:∀k,fE p (f k)):fo p (gY n f):=fun x hx=>by
 unfold gY at hx
 obtain⟨k,_,rfl⟩:=List.mem_map.1 hx
 exact h k
theorem DC.da {p:Int} {L:List aR} (h:DC p L):rI p (bf L) (gY (fy (bf L)) (xu p L)):=by
 have n4:=h.n4
 have l1:=h.len
 obtain⟨_,_,_,_,hP⟩:=ale h.ok
 refine⟨h.pr,by rw[jW];exact l1,by rw[jW];omega,fun x hx=>?_,hP,qc _ _,ajT fun k=>aln h.pr L k⟩
 have:=h.d3 x hx
 omega
theorem DC.iU {p:Int} {L:List aR} (h:DC p L) {i:Nat} (hi:i<=L.length):
  (cE p (kJ (bf L) i) (oS (bf L) (gY (fy (bf L)) (xu p L)) i) (bN (bf L) i)).2.1.length=(cE p (kJ (bf L) i) (Zp p L (bf L) i) (bN (bf L) i)).2.1.length:=by
 refine ajw h.pr (Zo h.da (by rw[jW];exact hi)) (fun _ _ _ _=>Mo (e8 h.pr) _ _ _ _ _) fun u hu w hw=>?_
 have hn:u*bN (bf L) i+w<fy (bf L):=by
  rw[<-head_tail (bf L) i (by rw[jW];exact hi)]
  exact mw hu hw
 unfold oS cV
 rw[List.getD_eq_getElem?_getD,uT _ hn]
 rfl
end Go.Am
end
section
namespace Go.Am
structure Opd (m:Int) (L L':List aR) (k P:Nat) (X:List Int):Prop where
 ok:dS (m,L')=true
 qE:bf L'=bf L
 bd:∀i,i<=L.length->i≠k+1->eu L' i=eu L i
 val:∀u r w,r<P->w<bN (bf L) (k+2)->bO m (xu m L' ((u*P+r)*bN (bf L) (k+2)+w)) (sm P (fun q=>cV P X r q*xu m L ((u*P+q)*bN (bf L) (k+2)+w)))
end Go.Am
end
section
namespace Go.Am
theorem ai7 {f:List Int} {v:Int} (h:fj f v<f.length):f[fj f v]? =some v:=by
 rw[List.getElem?_eq_getElem h]
 have:=List.findIdx_getElem (w:=h)
 congr 1
 exact of_decide_eq_true this
end Go.Am
end
section
namespace Go.Am
theorem sj {α:Type}:aI 0 0 (aa ([]:List α))=some ():=cQ 0
section
variable {m:Int} {L K R:Nat} {X:aV} {d:List Int}
end
theorem Q9 {m:Int} {l:List aR} {k:Nat} (hc:dS (m,l)=true) (hk:k<l.length):∃(L K R:Nat) (d:List Int),l[k]? =some ((L:Int),(K:Int),(R:Int),d)/\l.getD k bP=((L:Int),(K:Int),(R:Int),d)/\
  L<=32/\R<=32/\(1<=K/\K<=8)/\d.length=L*K*R/\fo m d:=by
 obtain⟨L,K,R,d,e,h1,h2,h3,h4,h5⟩:=akB ((Tc hc).1 k hk)
 refine⟨L,K,R,d,?_,e,h1,h2,h3,h4,h5⟩
 rw[getD_some bP hk,e]
end Go.Am
end
section
namespace Go.Am
theorem ai9 {l:List Int} {v:Int}:fj l v<l.length↔v∈l:=by
 constructor
 ·intro h
  exact List.mem_of_getElem? (ai7 h)
 ·exact GA
end Go.Am
end
section
namespace Go.Am
end Go.Am
end
section
namespace Go.Am
structure Ops (m:Int) (L L':List aR) (k P:Nat) (X:List Int):Prop where
 ok:dS (m,L')=true
 qE:bf L'=bf L
 val:∀u r w,r<P->w<bN (bf L) (k+1)->bO m (xu m L' ((u*P+r)*bN (bf L) (k+1)+w)) (sm P (fun q=>cV P X r q*xu m L ((u*P+q)*bN (bf L) (k+1)+w)))
end Go.Am
end
section
namespace Go.Am
def CC (D ix:List Int):Nat:=sT D ix D.length
def yl (J I:List Int) (v:Int):Int:=I.getD (fj J v) 0
theorem akX {L J:List Int} (hL:L.Nodup) (hJ:J.Nodup) (hs:∀v∈L,v∈J) {g:Int->Nat} (h0:∀v,v∉L->g v=0):(J.map g).sum=(L.map g).sum:=by
 have h1:∀l:List Int,(l.map g).sum=((l.filter fun v=>decide (v∈L)).map g).sum:=by
  intro l
  induction l with
  |nil=>rfl
  |cons a l ih=>
   by_cases hc:a∈L
   ·rw[List.filter_cons_of_pos (by simpa using hc),List.map_cons,List.sum_cons,List.map_cons,List.sum_cons,ih]
   ·rw[List.filter_cons_of_neg (by simpa using hc),List.map_cons,List.sum_cons,ih,h0 a hc,Nat.zero_add]
 rw[h1 J]
 refine List.Perm.sum_nat (List.Perm.map g ((List.perm_ext_iff_of_nodup (hJ.filter _) hL).2 fun v=>?_))
 rw[List.mem_filter]
 exact⟨fun h=>by simpa using h.2,fun h=>⟨hs v h,by simpa using h⟩⟩
def EK (L D J I:List Int):Nat:=sN (fun i=>(I.getD i 0).toNat*((Hu L D J).getD i 0).toNat) (Hu L D J).length
theorem aa6 {L D J I:List Int} (hL:L.Nodup) (hJ:J.Nodup) (hs:∀v∈L,v∈J) (hl:L.length=D.length) (hI:I.length=J.length):EK L D J I=CC D (L.map (yl J I)):=by
 have hlen:(Hu L D J).length=J.length:=qc _ _
 let g:Int->Nat:=fun v=>(yl J I v).toNat*(if fj L v<L.length then bN D (fj L v+1) else 0)
 have e1:EK L D J I=(J.map g).sum:=by
  unfold EK
  rw[hlen,<-GP g J]
  refine GO _ fun i hi=>?_
  show _=(I.getD (fj J (J.getD i 0)) 0).toNat*_
  rw[CF hJ hi]
  congr 1
  unfold Hu
  rw[List.getD_eq_getElem?_getD,uT _ hi]
  show(if fj L (J.getD i 0)<L.length then((bN D (fj L (J.getD i 0)+1):Nat):Int) else 0).toNat=_
  split
  ·exact Int.toNat_natCast _
  ·rfl
 have e2:CC D (L.map (yl J I))=(L.map g).sum:=by
  unfold CC
  have:=Nz (D:=D) (ix:=L.map (yl J I)) D.length (Nat.le_refl _)
  rw[Ah,Nat.mul_one] at this
  rw[this,<-GP g L,<-hl]
  refine GO _ fun i hi=>?_
  show _=(yl J I (L.getD i 0)).toNat*(if fj L (L.getD i 0)<L.length then bN D (fj L (L.getD i 0)+1) else 0)
  rw[CF hL hi,if_pos hi]
  congr 1
  rw[List.getD_eq_getElem?_getD,List.getElem?_map,vY hi]
  rfl
 rw[e1,e2]
 refine akX hL hJ hs fun v hv=>?_
 show _*_=0
 rw[if_neg fun h=>hv (ai9.1 h),Nat.mul_zero]
theorem aih {D ix:List Int} (h:∀k,k<D.length->(ix.getD k 0).toNat<(D.getD k 0).toNat):CC D ix<fy D:=by
 have:=Xk h D.length (Nat.le_refl _)
 rw[Ah,Nat.mul_one] at this
 unfold CC
 omega
end Go.Am
end
section
namespace Go.Am
structure Sub (L D J DJ:List Int):Prop where
 nL:L.Nodup
 nJ:J.Nodup
 s:∀v∈L,v∈J
 l:L.length=D.length
 lJ:DJ.length=J.length
 d:∀i,i<L.length->DJ.getD (fj J (L.getD i 0)) 0=D.getD i 0
 pos:∀x∈DJ,1<=x
theorem Sub.lt {L D J DJ:List Int} (h:Sub L D J DJ) (k:Nat):EK L D J (wJ DJ k)<fy D:=by
 have hl:(wJ DJ k).length=J.length:=by unfold wJ;rw[qc,h.lJ]
 rw[aa6 h.nL h.nJ h.s h.l hl]
 refine aih fun i hi=>?_
 have hi':i<L.length:=by have:=h.l;omega
 have hp:fj J (L.getD i 0)<DJ.length:=by rw[h.lJ];exact GA (h.s _ (sk hi'))
 have e:(L.map (yl J (wJ DJ k))).getD i 0=vQ DJ k (fj J (L.getD i 0)):=by
  rw[List.getD_eq_getElem?_getD,List.getElem?_map,vY hi']
  exact afc hp
 rw[e,<-h.d i hi']
 unfold vQ
 rw[Int.toNat_natCast]
 refine Nat.mod_lt _ ?_
 have:=h.pos _ (sk hp)
 omega
theorem ak6 {α:Type} {xs:List α} {n:Nat} (h:xs.length=n):iT xs n=some xs:=by
 subst h
 exact qg xs
end Go.Am
end
section
namespace Go.Am
theorem aaU {T e u w v u0 w0 v0:Nat} (hw:w<T) (hv:v<e) (Uy:w0<T) (pO:v0<e) (h:(u*T+w)*e+v=(u0*T+w0)*e+v0):u=u0/\w=w0/\v=v0:=by
 have h1:u*T+w=u0*T+w0:=by rw[<-nq (i:=u*T+w) hv,h,nq pO]
 have h2:v=v0:=by rw[<-nr (i:=u*T+w) hv,h,nr pO]
 exact⟨by rw[<-nq (i:=u) hw,h1,nq Uy],by rw[<-nr (i:=u) hw,h1,nr Uy],h2⟩
structure QC (S1:List Int) (a:Int) (S2:List Int) (b:Int):Prop where
 nd:(S1++a::S2++[b]).Nodup
theorem QC.parts {S1 S2:List Int} {a b:Int} (h:QC S1 a S2 b):(S1++a::S2).Nodup/\(S1++S2++[b]).Nodup/\a∉S1/\a∉S2/\b∉S1/\b∉S2/\a≠b/\(S1++S2++[a]).Nodup:=by
 have h:=h.nd
 simp only[List.nodup_append,List.nodup_cons,List.mem_append,List.mem_cons,List.not_mem_nil,or_false,List.nodup_nil] at h⊢
 grind
end Go.Am
end
section
namespace Go.Am
end Go.Am
end
section
namespace Go.Am
def cI (L K R:Nat) (M:Nat->Nat->Nat->Int):List Int:=gY (L*K*R) fun q=>M (q/R/K) (q/R%K) (q%R)
theorem Fa (L K R:Nat) (M:Nat->Nat->Nat->Int):(cI L K R M).length=L*K*R:=qc _ _
theorem Cq (L K R:Nat) (M:Nat->Nat->Nat->Int):aa (cI L K R M)=L*K*R:=Fa L K R M
theorem Ee {L K R I v J:Nat} (hI:I<L) (hv:v<K) (hJ:J<R):(I*K+v)*R+J<L*K*R:=mw (mw hI hv) hJ
theorem Kl {L K R I v J:Nat} (M:Nat->Nat->Nat->Int) (hI:I<L) (hv:v<K) (hJ:J<R):(cI L K R M)[(I*K+v)*R+J]? =some (M I v J):=by
 unfold cI
 rw[uT _ (Ee hI hv hJ),nq hJ,nr hJ,nq hv,nr hv]
theorem n3 {L K R:Nat} {M M':Nat->Nat->Nat->Int} (h:∀I v J,I<L->v<K->J<R->M I v J=M' I v J):cI L K R M=cI L K R M':=X0 fun q hq=>by
 obtain⟨q',J,rfl,dB,hJ⟩:=z8 hq
 obtain⟨I,v,rfl,hI,hv⟩:=z8 dB
 rw[nq hJ,nr hJ,nq hv,nr hv]
 exact h I v J hI hv hJ
def Al (M:Nat->Nat->Nat->Int) (I v J:Nat) (x:Int):Nat->Nat->Nat->Int:=fun a b c=>if a=I/\b=v/\c=J then x else M a b c
theorem Km {L K R I v J:Nat} (M:Nat->Nat->Nat->Int) (x:Int) (hI:I<L) (hv:v<K) (hJ:J<R):cM (cI L K R M) ((I*K+v)*R+J) x=cI L K R (Al M I v J x):=by
 unfold cI
 rw[ajO]
 refine X0 fun q hq=>?_
 obtain⟨q',c,rfl,dB,hc⟩:=z8 hq
 obtain⟨a,b,rfl,ha,hb⟩:=z8 dB
 rw[nq hc,nr hc,nq hb,nr hb]
 unfold Al
 by_cases e:a=I/\b=v/\c=J
 ·obtain⟨rfl,rfl,rfl⟩:=e
  rw[if_pos rfl,if_pos ⟨rfl,rfl,rfl⟩]
 ·rw[if_neg e,if_neg fun h=>e (aaU hb hc hv hJ h)]
theorem XW (L K R:Nat):fz (L*K*R) (0:Int)=cI L K R fun _ _ _=>0:=ajF _
theorem Kj (L K R:Nat) (M M':Nat->Nat->Nat->Int):aI 0 (aa (cI L K R M)) (aa (cI L K R M'))=some ():=acG _ _ _
theorem Du {a b:Nat} (h:a+b<=1099511627776):aP .i64 (a:Int) (b:Int)=((a+b:Nat):Int):=by
 rw[iY (by omega) (by omega)]
 omega
def jl (p:Int) (dn ac tL tR:Nat) (T M:Nat->Nat->Nat->Int):Nat->Nat->Nat->Int:=fun I v J=>
 if dn<=I/\I<dn+tL/\ac<=J/\J<ac+tR then(M I v J+T (I - dn) v (J - ac))%p else M I v J
def jm (p:Int) (dn ac tR i v j:Nat) (T M:Nat->Nat->Nat->Int):Nat->Nat->Nat->Int:=fun I w J=>
 if dn<=I/\ac<=J/\J<ac+tR/\(I<dn+i\/(I=dn+i/\(w<v\/(w=v/\J<ac+j)))) then(M I w J+T (I - dn) w (J - ac))%p else M I w J
theorem ajn {p:Int} {dn ac tR i v j:Nat} {T M:Nat->Nat->Nat->Int}:jm p dn ac tR i v j T M (dn+i) v (ac+j)=M (dn+i) v (ac+j):=if_neg (by omega)
theorem ajq {p:Int} {L K R dn ac tR i v j:Nat} {T M:Nat->Nat->Nat->Int} (hj:j<tR):
  cI L K R (Al (jm p dn ac tR i v j T M) (dn+i) v (ac+j) ((M (dn+i) v (ac+j)+T i v j)%p))=cI L K R (jm p dn ac tR i v (j+1) T M):=n3 fun a b c _ _ _=>by
 unfold Al
 by_cases e:a=dn+i/\b=v/\c=ac+j
 ·obtain⟨rfl,rfl,rfl⟩:=e
  rw[if_pos ⟨rfl,rfl,rfl⟩]
  unfold jm
  rw[if_pos (by omega),Nat.add_sub_cancel_left,Nat.add_sub_cancel_left]
 ·rw[if_neg e]
  unfold jm
  exact uk ⟨fun h=>by omega,fun h=>by omega⟩ _ _
theorem ajr {p:Int} {L K R dn ac tR i v:Nat} {T M:Nat->Nat->Nat->Int}:cI L K R (jm p dn ac tR i v tR T M)=cI L K R (jm p dn ac tR i (v+1) 0 T M):=n3 fun a b c _ _ _=>by
 unfold jm
 exact uk ⟨fun h=>by omega,fun h=>by omega⟩ _ _
theorem ajp {p:Int} {L K R dn ac tR i:Nat} {T M:Nat->Nat->Nat->Int}:cI L K R (jm p dn ac tR i K 0 T M)=cI L K R (jm p dn ac tR (i+1) 0 0 T M):=n3 fun a b c _ hb _=>by
 unfold jm
 exact uk ⟨fun h=>by omega,fun h=>by omega⟩ _ _
theorem ajm {p:Int} {L K R dn ac tR:Nat} {T M:Nat->Nat->Nat->Int}:cI L K R (jm p dn ac tR 0 0 0 T M)=cI L K R M:=n3 fun a b c _ hb _=>by
 unfold jm
 exact if_neg (by omega)
theorem ajo {p:Int} {L K R dn ac tL tR:Nat} {T M:Nat->Nat->Nat->Int}:cI L K R (jm p dn ac tR tL 0 0 T M)=cI L K R (jl p dn ac tL tR T M):=n3 fun a b c _ hb _=>by
 unfold jm jl
 exact uk ⟨fun h=>by omega,fun h=>by omega⟩ _ _
def DB:ax:=[(.agg,[.int .i64,.int .i64,.int .i64,.list [.int .i64]]),(.one,[.int .i64]),(.one,[.int .i64]),(.ptr,[.int .i64,.int .i64,.int .i64,.list [.int .i64]]),(.ptr,[.int .i64])]
def N5:ax:=[(.one,[.list [.int .i64]])]
def Gg:aJ:=[[],[],[],[none,none,none,some .aj]]
def Dp (NN:Nat):((Int×(Int×(Int×(List Int))))×(Int×(Int×((Int×(Int×(Int×(List Int))))×Int))))->(Option (List Int)):=
 (fun(((i0,i1,i2,l3),i4,i5,(i6,i7,i8,l9),jg):((Int×(Int×(Int×(List Int))))×(Int×(Int×((Int×(Int×(Int×(List Int))))×Int)))))=>
 (aI 0 (aa l9) (aa l9)).ah (fun _=>
 cv NN (fun(((gF,jh,(jE,qY,ng,gR),gm,mn),iP,q8,gG,ni,zl):((Int×(Int×((Int×(Int×(Int×(List Int))))×(Int×Int))))×((List Int)×(Int×(Int×(Int×(List Int)))))))=>
 aH (cr mn q8)
 (cJ ((aI 0 (aa iP) (aa iP)).ah (fun _=>
 cv NN (fun(((mq,j3,(jF,uh,q9,nw),wF,nj,mr),kf,wH,ui,uj,F6):((Int×(Int×((Int×(Int×(Int×(List Int))))×(Int×(Int×Int)))))×((List Int)×(Int×(Int×(Int×(List Int)))))))=>
 aH (cr mr ui)
 (cJ ((aI 0 (aa kf) (aa kf)).ah (fun _=>
 cv NN (fun(((sM,nk,(sO,FM,ra,WB),rb,np,kO,j4),mB,Ls,wI,FN,sQ):((Int×(Int×((Int×(Int×(Int×(List Int))))×(Int×(Int×(Int×Int))))))×((List Int)×(Int×(Int×(Int×(List Int)))))))=>
 aH (cr j4 FN)
 ((iG (aP .i64 (aP .i64 (dc .i64 (aP .i64 (dc .i64 (aP .i64 sM np) FM) kO) ra) nk) j4) (aa mB)).ah (fun k53=>
 (eZ mB (bW 0 k53)).ah (fun B9=>
 (vm ((Ls,wI,FN,sQ),np,kO,j4)).ah (fun Lt=>
 (ru (aP .i64 B9 Lt) rb).ah (fun FO=>
 (iG (aP .i64 (aP .i64 (dc .i64 (aP .i64 (dc .i64 (aP .i64 sM np) FM) kO) ra) nk) j4) (aa mB)).ah (fun LY=>
 (eZ mB (bW 0 LY)).ah (fun VP=>
 (aI 0 (aa mB) (aa (cM mB (bW 0 LY) FO))).ah (fun _=>
 some (Sum.inl ((sM,nk,(sO,FM,ra,WB),rb,np,kO,aP .i64 j4 1),cM mB (bW 0 LY) FO,Ls,wI,FN,sQ))))))))))
 (((aI 0 (aa mB) (aa mB)).ah (fun _=>
 some (Sum.inl ((kO,sM,nk,(sO,FM,ra,WB),rb,np),mB,Ls,wI,FN,sQ)))).ah (fun Mk=>
 some (Sum.inr Mk))))
 ((mq,j3,(jF,uh,q9,nw),wF,nj,mr,(0:Int)),kf,wH,ui,uj,F6)))
 (fun((Lu,FQ,Lv,(Lw,i64,Lx,l66),i67,Ly),Ml,Lz,i71,Ca,l73)=>
 (aI 0 (aa Ml) (aa Ml)).ah (fun _=>
 some (Sum.inl ((FQ,Lv,(Lw,i64,Lx,l66),i67,Ly,aP .i64 Lu 1),Ml,Lz,i71,Ca,l73)))))
 (((aI 0 (aa kf) (aa kf)).ah (fun _=>
 some (Sum.inl ((nj,mq,j3,(jF,uh,q9,nw),wF),kf,wH,ui,uj,F6)))).ah (fun l74=>
 some (Sum.inr l74))))
 ((gF,jh,(jE,qY,ng,gR),gm,mn,(0:Int)),iP,q8,gG,ni,zl)))
 (fun((i75,i76,i77,(i78,FR,LC,l81),FT),zv,FU,FV,FW,F8)=>
 (aI 0 (aa zv) (aa zv)).ah (fun _=>
 some (Sum.inl ((i76,i77,(i78,FR,LC,l81),FT,aP .i64 i75 1),zv,FU,FV,FW,F8)))))
 (((w7 (aa iP) (aa l9)).ah (fun _=>
 some iP)).ah (fun l88=>
 some (Sum.inr l88))))
 ((i4,i5,(i6,i7,i8,l9),jg,(0:Int)),l9,i0,i1,i2,l3)))
def rJ:((Int×(Int×(Int×(List Int))))×(Int×(Int×((Int×(Int×(Int×(List Int))))×Int))))->(Option (List Int)):=Dp bh
theorem ab0 (x:((Int×(Int×(Int×(List Int))))×(Int×(Int×((Int×(Int×(Int×(List Int))))×Int))))) (z:(List Int)) (h:rJ x=some z):Dp bh x=some z:=h
def fq (K R:Nat) (d:List Int):Nat->Nat->Nat->Int:=fun i v j=>cV R d (i*K+v) j
set_option maxHeartbeats 1000000 in
theorem Q3 {p:Int} {L K R dn ac tL tR:Nat} {M:Nat->Nat->Nat->Int} {td:List Int} (hp:eC p) (hL:L<=64) (hK:K<=64) (hR:R<=64) (mb:dn+tL<=L) (hac:ac+tR<=R) (Ur:td.length=tL*K*tR) (hT:fo p td)
  (hM:∀I v J,0<=M I v J/\M I v J<=1048576):
  rJ (((tL:Int),(K:Int),(tR:Int),td),(dn:Int),(ac:Int),((L:Int),(K:Int),(R:Int),cI L K R M),p)=some (cI L K R (jl p dn ac tL tR (fq K tR td) M)):=by
 have h2:=hp.1
 have h3:=hp.2
 have bK:∀i v j,i<tL->v<K->j<tR->vm (((tL:Int),(K:Int),(tR:Int),td),(i:Int),(v:Int),(j:Int))=some (fq K tR td i v j)/\fE p (fq K tR td i v j):=by
  intro i v j hi hv hj
  refine⟨?_,?_⟩
  ·have:=show vm (((tL:Int),(K:Int),(tR:Int),td),(i:Int),(v:Int),(j:Int))=_ from if_pos ⟨⟨⟨by show(0:Int)<=(tL:Int);omega,by show(tL:Int)<=64;omega⟩,⟨by show(0:Int)<=(K:Int);omega,by show(K:Int)<=64;omega⟩,⟨by show(0:Int)<=(tR:Int);omega,by show(tR:Int)<=64;omega⟩,by
    show(td.length:Int)=(tL:Int)*(K:Int)*(tR:Int)
    rw[Ur];norm_cast⟩,⟨by show(0:Int)<=(i:Int);omega,by show(i:Int)<(tL:Int);omega⟩,⟨by show(0:Int)<=(v:Int);omega,by show(v:Int)<(K:Int);omega⟩,⟨by show(0:Int)<=(j:Int);omega,by show(j:Int)<(tR:Int);omega⟩⟩
   rw[this]
   rfl
  ·have:=vB (r:=tL*K) (c:=tR) Ur hT (i*K+v) (mw hi hv) j hj
   exact this
 simp only[rJ,Dp]
 try simp only[cQ,bX]
 have eH:∀i v j,i<tL->v<K->j<tR->aP .i64 (aP .i64 (dc .i64 (aP .i64 (dc .i64 (aP .i64 (dn:Int) (i:Int)) (K:Int)) (v:Int)) (R:Int)) (ac:Int)) (j:Int)=((((dn+i)*K+v)*R+(ac+j):Nat):Int):=by
  intro i v j hi hv hj
  have b1:(dn+i)*K<=64*64:=Nat.mul_le_mul (by omega) hK
  have b2:((dn+i)*K+v)*R<=(64*64+64)*64:=Nat.mul_le_mul (by omega) hR
  rw[Du (by omega),rm (by omega) (by omega),Du (by omega),rm (by omega) (by omega),Du (by omega),Du (by omega),Nat.add_assoc]
 refine mD (fun i=>(((dn:Int),(ac:Int),((L:Int),(K:Int),(R:Int),cI L K R M),p,(i:Int)),cI L K R (jm p dn ac tR i 0 0 (fq K tR td) M),(tL:Int),(K:Int),(tR:Int),td)) tL ?a1 ?a2 ?a3 (f8 (by omega))
 case a1=>
  intro i hi
  dsimp only
  rw[bF (fK (by omega))]
  try simp only[cQ,bX]
  rw[mD (fun v=>(((dn:Int),(ac:Int),((L:Int),(K:Int),(R:Int),cI L K R M),p,(i:Int),(v:Int)),cI L K R (jm p dn ac tR i v 0 (fq K tR td) M),(tL:Int),(K:Int),(tR:Int),td)) K ?b1 ?b2 ?b3 (f8 (by omega))]
  case b1=>
   intro v hv
   dsimp only
   rw[bF (fK (by omega))]
   try simp only[cQ,bX]
   rw[mD (fun j=>(((dn:Int),(ac:Int),((L:Int),(K:Int),(R:Int),cI L K R M),p,(i:Int),(v:Int),(j:Int)),cI L K R (jm p dn ac tR i v j (fq K tR td) M),(tL:Int),(K:Int),(tR:Int),td)) tR ?c1 ?c2 ?c3 (f8 (by omega))]
   case c1=>
    intro j hj
    dsimp only
    have bB:=Ee (L:=L) (K:=K) (R:=R) (I:=dn+i) (v:=v) (J:=ac+j) (by omega) hv (by omega)
    obtain⟨q1,q2⟩:=bK i v j hi hv hj
    unfold fE at q2
    have hm:=hM (dn+i) v (ac+j)
    rw[bF (fK (by omega)),eH i v j hi hv hj,Ev (by show _<(cI L K R _).length;rw[Fa];exact bB)]
    try simp only[bX]
    rw[vA,show eZ (cI L K R (jm p dn ac tR i v j (fq K tR td) M)) (((dn+i)*K+v)*R+(ac+j))=some (M (dn+i) v (ac+j)) from(Kl _ (by omega) hv (by omega)).trans (by rw[ajn])]
    try simp only[bX]
    rw[q1]
    try simp only[bX]
    rw[iY (by omega) (by omega),NS (by omega) (by omega)]
    try simp only[bX]
    rw[Km _ _ (by omega) hv (by omega),ajq hj,Kj]
    try simp only[bX]
    rw[qw (by omega)]
   case c2=>
    dsimp only
    rw[bR (eV (by omega))]
    try simp only[cQ,bX]
    try rfl
   case c3=>rfl
   simp only[cJ,Option.bind]
   try simp only[cQ,bX]
   rw[ajr,qw (by omega)]
  case b2=>
   dsimp only
   rw[bR (eV (by omega))]
   try simp only[cQ,bX]
   try rfl
  case b3=>rfl
  simp only[cJ,Option.bind]
  try simp only[cQ,bX]
  rw[ajp,qw (by omega)]
 case a2=>
  dsimp only
  rw[bR (eV (by omega)),GQ (by rw[Cq,Cq])]
  try simp only[cQ,bX]
  rw[ajo]
 case a3=>rw[ajm];rfl
end Go.Am
end
section
namespace Go.Am
def DA:ax:=[(.one,[.int .i64]),(.agg,[.int .i64,.int .i64,.int .i64,.list [.int .i64]]),(.agg,[.int .i64,.int .i64,.int .i64,.list [.int .i64]]),(.one,[.bool]),(.one,[.bool])]
def N4:ax:=[(.agg,[.int .i64,.int .i64,.int .i64,.list [.int .i64]])]
def agW:aJ:=[]
def Dn (NN:Nat):(Int×((Int×(Int×(Int×(List Int))))×((Int×(Int×(Int×(List Int))))×(Bool×Bool))))->(Option (Int×(Int×(Int×(List Int))))):=
 (fun((i0,(i1,i2,i3,l4),(i5,i6,i7,l8),b9,mV):(Int×((Int×(Int×(Int×(List Int))))×((Int×(Int×(Int×(List Int))))×(Bool×Bool)))))=>
 cJ (aH (b9)
 ((aI 0 0 (aa (([]:List Int)))).ah (fun _=>
 (aI 0 0 (aa (([]:List Int)))).ah (fun _=>
 some (Sum.inl ((mV,(0:Int),i3),i0,(i1,i2,i3,l4),(i5,i6,i7,l8),((0:Int),(0:Int),(0:Int)),((1:Int),i2,aP .i64 i3 i7),([]:List Int),([]:List Int))))))
 ((aI 0 0 (aa (([]:List Int)))).ah (fun _=>
 (aI 0 0 (aa (([]:List Int)))).ah (fun _=>
 some (Sum.inl ((mV,i1,i3),i0,(i1,i2,i3,l4),(i5,i6,i7,l8),((0:Int),(0:Int),(0:Int)),(aP .i64 i1 i5,i2,aP .i64 i3 i7),([]:List Int),([]:List Int)))))))
 (fun((b11,jh,jE),qY,(ng,nh,gm,nv),(qZ,q8,gG,ov),(ug,mq,j3),(jF,uh,q9),nw,pS)=>
 cJ (aH (b11)
 ((aI 0 (aa nw) (aa nw)).ah (fun _=>
 (aI 0 (aa pS) (aa pS)).ah (fun _=>
 some (Sum.inl ((jh,(0:Int)),qY,(ng,nh,gm,nv),(qZ,q8,gG,ov),(ug,mq,j3),(jF,uh,(1:Int)),nw,pS)))))
 ((aI 0 (aa nw) (aa nw)).ah (fun _=>
 (aI 0 (aa pS) (aa pS)).ah (fun _=>
 some (Sum.inl ((jh,jE),qY,(ng,nh,gm,nv),(qZ,q8,gG,ov),(ug,mq,j3),(jF,uh,q9),nw,pS))))))
 (fun((nj,mr),wG,(wH,ui,uj,F6),(sM,nk,sO,uz),(ra,B8,rb),(np,kO,j4),mB,ox)=>
 (pV (dc .i64 (dc .i64 np kO) j4) (dc .i64 (dc .i64 np kO) j4) 8).ah (fun pR=>
 (aI 0 pR (aa (fz pR (0:Int)))).ah (fun _=>
 (rJ ((wH,ui,uj,F6),(0:Int),(0:Int),(np,kO,j4,fz pR (0:Int)),wG)).ah (fun lH=>
 (aI 0 pR (aa lH)).ah (fun _=>
 (rJ ((sM,nk,sO,uz),nj,mr,(np,kO,j4,lH),wG)).ah (fun sQ=>
 (iT sQ pR).ah (fun wR=>
 some (np,kO,j4,wR))))))))))
def vn:(Int×((Int×(Int×(Int×(List Int))))×((Int×(Int×(Int×(List Int))))×(Bool×Bool))))->(Option (Int×(Int×(Int×(List Int))))):=Dn bh
theorem abZ (x:(Int×((Int×(Int×(Int×(List Int))))×((Int×(Int×(Int×(List Int))))×(Bool×Bool))))) (z:(Int×(Int×(Int×(List Int))))) (h:vn x=some z):Dn bh x=some z:=h
def AL (p:Int) (dn ac L1 R1 L2 R2 K:Nat) (d1 d2:List Int):Nat->Nat->Nat->Int:=jl p dn ac L2 R2 (fq K R2 d2) (jl p 0 0 L1 R1 (fq K R1 d1) fun _ _ _=>0)
def iW (p:Int) (x y:aR) (fst kQ:Bool):aR:=
 let L1:=x.1.toNat;let K:=x.2.1.toNat;let R1:=x.2.2.1.toNat;let L2:=y.1.toNat;let R2:=y.2.2.1.toNat
 let LO:=if fst=true then 1 else L1+L2
 let RO:=if kQ=true then 1 else R1+R2
 ((LO:Int),(K:Int),(RO:Int),cI LO K RO (AL p (if fst=true then 0 else L1) (if kQ=true then 0 else R1) L1 R1 L2 R2 K x.2.2.2 y.2.2.2))
def gK (x y:Int×List aR):List aR:=(List.range x.2.length).map fun k=>iW x.1 (x.2.getD k bP) (y.2.getD k bP) (decide (k=0)) (decide (k+1=x.2.length))
def AJ (x y:Int×List aR):(Int×List aR)×Bool:=if nO x y=true then(if dS (x.1,gK x y)=true then((x.1,gK x y),true) else((0,[]),false)) else((0,[]),false)
def tp:(Int×List aR)×(Int×List aR)->Option ((Int×List aR)×Bool):=fun x=>if dR x.1<=1048576/\dR x.2<=1048576 then some (AJ x.1 x.2) else none
def vl:(Int×List aR)×(Int×List aR)->Option ((Int×List aR)×Bool):=tp
def Dw:ax:=[(.agg,[.int .i64,.list [.int .i64,.int .i64,.int .i64,.list [.int .i64]]]),(.agg,[.int .i64,.list [.int .i64,.int .i64,.int .i64,.list [.int .i64]]])]
def N0:ax:=[(.agg,[.int .i64,.list [.int .i64,.int .i64,.int .i64,.list [.int .i64]]]),(.one,[.bool])]
def agS:aJ:=[]
def HU (NN:Nat):((Int×(List (Int×(Int×(Int×(List Int))))))×(Int×(List (Int×(Int×(Int×(List Int)))))))->(Option ((Int×(List (Int×(Int×(Int×(List Int))))))×Bool)):=
 (fun(((i0,l1),i2,l3):((Int×(List (Int×(Int×(Int×(List Int))))))×(Int×(List (Int×(Int×(Int×(List Int))))))))=>
 (xC ((i0,l1),i2,l3)).ah (fun b4=>
 aH (fc b4)
 (some (((0:Int),([]:List (Int×(Int×(Int×(List Int)))))),false))
 (cJ ((aI 0 0 (aa (([]:List (Int×(Int×(Int×(List Int)))))))).ah (fun _=>
 (aI 0 0 (aa (([]:List (Int×(Int×(Int×(List Int)))))))).ah (fun _=>
 cv NN (fun(((l5,i6,i7),(i8,l9),(jg,uv),jh,jE,nu,ji):(((List (Int×(Int×(Int×(List Int)))))×(Int×Int))×((Int×(List (Int×(Int×(Int×(List Int))))))×((Int×(List (Int×(Int×(Int×(List Int))))))×(Int×(Int×((List (Int×(Int×(Int×(List Int)))))×(List (Int×(Int×(Int×(List Int))))))))))))=>
 aH (cr i7 i6)
 ((dP l5 i7).ah (fun(nh,gm,mn,iP)=>
 (dP uv i7).ah (fun(q8,gG,ni,zl)=>
 (vn (i8,(nh,gm,mn,iP),(q8,gG,ni,zl),gd i7 (0:Int),gd i7 (nG .i64 (be (aa l9)) (1:Int)))).ah (fun(mq,j3,jF,uw)=>
 (iT uw (aa uw)).ah (fun rh=>
 (aI 0 (aa ji) (aa ji)).ah (fun _=>
 (aI 0 1 (aa (((mq,j3,jF,rh)::([]:List (Int×(Int×(Int×(List Int))))))))).ah (fun _=>
 (tO (bW (aa ji) (aa (((mq,j3,jF,rh)::([]:List (Int×(Int×(Int×(List Int))))))))) 48).ah (fun _=>
 (aI 0 (aa nu) (aa nu)).ah (fun _=>
 (aI 0 (bW (aa ji) (aa (((mq,j3,jF,rh)::([]:List (Int×(Int×(Int×(List Int))))))))) (aa (g8 ji (((mq,j3,jF,rh)::([]:List (Int×(Int×(Int×(List Int)))))))))).ah (fun _=>
 some (Sum.inl ((l5,i6,aP .i64 i7 1),(i8,l9),(jg,uv),jh,jE,nu,g8 ji (((mq,j3,jF,rh)::([]:List (Int×(Int×(Int×(List Int)))))))))))))))))))
 (((aI 0 (aa nu) (aa nu)).ah (fun _=>
 (aI 0 (aa ji) (aa ji)).ah (fun _=>
 some (Sum.inl (jh,jE,nu,ji))))).ah (fun nw=>
 some (Sum.inr nw))))
 ((l1,be (aa l1),(0:Int)),(i0,l1),(i2,l3),(0:Int),i0,([]:List (Int×(Int×(Int×(List Int))))),([]:List (Int×(Int×(Int×(List Int)))))))))
 (fun(wF,nj,l32,kf)=>
 (d7 kf 0 (aa kf)).ah (fun zr=>
 (ql (nj,zr)).ah (fun b35=>
 aH (fc b35)
 (some (((0:Int),([]:List (Int×(Int×(Int×(List Int)))))),false))
 ((iT kf (aa kf)).ah (fun F5=>
 some ((nj,F5),true)))))))))
theorem QX {p:Int} {L K R:Nat} {d:List Int} (hl:d.length=L*K*R) (hd:fo p d) {i v j:Nat} (hi:i<L) (hv:v<K) (hj:j<R):fE p (fq K R d i v j):=
 vB (r:=L*K) (c:=R) hl hd (i*K+v) (mw hi hv) j hj
theorem QY {p:Int} (hp:eC p) {dn ac L R:Nat} {T M:Nat->Nat->Nat->Int} (h:∀I v J,fE p (M I v J)):∀I v J,fE p (jl p dn ac L R T M I v J):=fun I v J=>by
 unfold jl
 split
 ·exact Bc hp _
 ·exact h I v J
theorem Q0 {p:Int} (hp:eC p):fE p 0:=by
 have:=hp.1
 exact⟨Int.le_refl 0,by omega⟩
theorem Z1 {p:Int} (hp:eC p) {x:Int} (h:fE p x):0<=x/\x<=1048576:=by
 have h1:=h.1;have h2:=h.2;have:=hp.2
 omega
structure QV (p:Int) (x y:aR) (fst kQ:Bool):Prop where
 ex:∃(L1 L2 K R1 R2:Nat) (d1 d2:List Int),x=((L1:Int),(K:Int),(R1:Int),d1)/\y=((L2:Int),(K:Int),(R2:Int),d2)/\L1<=32/\L2<=32/\(1<=K/\K<=8)/\R1<=32/\R2<=32/\d1.length=L1*K*R1/\d2.length=L2*K*R2/\fo p d1/\fo p d2/\
  (fst=true->L1=1/\L2=1)/\(kQ=true->R1=1/\R2=1)
theorem IC {p:Int} (hp:eC p) {x y:aR} {fst kQ:Bool} (h:QV p x y fst kQ):vn (p,x,y,fst,kQ)=some (iW p x y fst kQ)/\(iW p x y fst kQ).2.2.2.length<=32768:=by
  obtain⟨L1,L2,K,R1,R2,d1,d2,rfl,rfl,h1,h2,h3,h4,h5,h6,h7,h8,h9,hf,hl⟩:=h.ex
  have fin:∀(LO RO dn ac:Nat),L1<=LO->R1<=RO->dn+L2<=LO->ac+R2<=RO->LO<=64->RO<=64->
      ((pV (dc .i64 (dc .i64 (LO:Int) (K:Int)) (RO:Int)) (dc .i64 (dc .i64 (LO:Int) (K:Int)) (RO:Int)) 8).ah fun(pR:Nat)=>
            (aI 0 pR (aa (fz pR (0:Int)))).ah fun(_:Unit)=>
              (rJ (((L1:Int),(K:Int),(R1:Int),d1),(0:Int),(0:Int),((LO:Int),(K:Int),(RO:Int),fz pR (0:Int)),p)).ah fun(lH:(List Int))=>
                (aI 0 pR (aa lH)).ah fun(_:Unit)=>
                  (rJ (((L2:Int),(K:Int),(R2:Int),d2),(dn:Int),(ac:Int),((LO:Int),(K:Int),(RO:Int),lH),p)).ah fun(sQ:(List Int))=>
                    (iT sQ pR).ah fun(wR:(List Int))=>
                      some ((LO:Int),(K:Int),(RO:Int),wR))=some ((LO:Int),(K:Int),(RO:Int),cI LO K RO (AL p dn ac L1 R1 L2 R2 K d1 d2)):=by
    intro LO RO dn ac a1 a2 a3 a4 a5 a6
    have b1:LO*K<=64*8:=Nat.mul_le_mul a5 h3.2
    have b2:LO*K*RO<=64*8*64:=Nat.mul_le_mul b1 a6
    rw[rm (by omega) (by omega),rm (by omega) (by omega),show pV ((LO*K*RO:Nat):Int) ((LO*K*RO:Nat):Int) 8=some (LO*K*RO) from Gd (by simp only[fL];omega)]
    try simp only[bX]
    rw[show aI 0 (LO*K*RO) (aa (fz (LO*K*RO) (0:Int)))=some () from Tw (by simp[aa,fz])]
    try simp only[bX]
    have e1:=Q3 (p:=p) (L:=LO) (K:=K) (R:=RO) (dn:=0) (ac:=0) (tL:=L1) (tR:=R1) (M:=fun _ _ _=>0) (td:=d1) hp a5 (by omega) a6 (by omega) (by omega) h6 h8 (fun _ _ _=>⟨by decide,by decide⟩)
    rw[show((0:Nat):Int)=0 from rfl] at e1
    rw[XW,e1]
    try simp only[bX]
    rw[show aI 0 (LO*K*RO) (aa (cI LO K RO (jl p 0 0 L1 R1 (fq K R1 d1) fun _ _ _=>0)))=some () from by rw[Cq];exact cQ _]
    try simp only[bX]
    rw[Q3 hp a5 (by omega) a6 a3 a4 h7 h9 (fun I v J=>Z1 hp (QY hp (fun _ _ _=>Q0 hp) I v J))]
    try simp only[bX]
    rw[ak6 (Fa _ _ _ _)]
    rfl
  have hlen:∀LO RO M,LO<=64->RO<=64->(cI LO K RO M).length<=32768:=fun LO RO M a5 a6=>by
    rw[Fa]
    have b1:LO*K<=64*8:=Nat.mul_le_mul a5 h3.2
    have b2:LO*K*RO<=64*8*64:=Nat.mul_le_mul b1 a6
    omega
  simp only[vn,Dn,iW,Int.toNat_natCast]
  try simp only[sj,bX]
  rw[o8 (by omega),o8 (by omega)]
  cases fst with
  |true=>
   obtain⟨rfl,rfl⟩:=hf rfl
   rw[Ja]
   simp only[cJ,Option.bind]
   cases kQ with
   |true=>
    obtain⟨rfl,rfl⟩:=hl rfl
    rw[Ja]
    try simp only[cQ,bX,cJ,Option.bind]
    refine⟨?_,hlen _ _ _ (by decide) (by decide)⟩
    exact fin 1 1 0 0 (by omega) (by omega) (by omega) (by omega) (by omega) (by omega)
   |false=>
    rw[vI]
    try simp only[cQ,bX,cJ,Option.bind]
    refine⟨?_,hlen _ _ _ (by decide) (by simp;omega)⟩
    exact fin 1 (R1+R2) 0 R1 (by omega) (by omega) (by omega) (by omega) (by omega) (by omega)
  |false=>
   rw[vI]
   simp only[cJ,Option.bind]
   cases kQ with
   |true=>
    obtain⟨rfl,rfl⟩:=hl rfl
    rw[Ja]
    try simp only[cQ,bX,cJ,Option.bind]
    refine⟨?_,hlen _ _ _ (by simp;omega) (by decide)⟩
    exact fin (L1+L2) 1 L1 0 (by omega) (by omega) (by omega) (by omega) (by omega) (by omega)
   |false=>
    rw[vI]
    try simp only[cQ,bX,cJ,Option.bind]
    refine⟨?_,hlen _ _ _ (by simp;omega) (by simp;omega)⟩
    exact fin (L1+L2) (R1+R2) L1 R1 (by omega) (by omega) (by omega) (by omega) (by omega) (by omega)
theorem AK {x y:Int×List aR} (h:nO x y=true):dS x=true/\dS y=true/\x.1=y.1/\bf x.2=bf y.2:=by
 unfold nO at h
 simp only[Bool.and_eq_true,decide_eq_true_eq] at h
 exact⟨h.1,h.2.1,h.2.2.1,h.2.2.2⟩
theorem Dt {x y:Int×List aR} (h:nO x y=true) {k:Nat} (hk:k<x.2.length):QV x.1 (x.2.getD k bP) (y.2.getD k bP) (decide (k=0)) (decide (k+1=x.2.length))/\y.2.length=x.2.length:=by
 obtain⟨h1,h2,hp,hd⟩:=AK h
 obtain⟨p,l⟩:=x
 obtain⟨p',l'⟩:=y
 have hp:p=p':=hp
 subst hp
 have hd:bf l=bf l':=hd
 have hlen:l'.length=l.length:=by rw[<-jW,<-hd,jW]
 have hk:k<l.length:=hk
 refine⟨⟨?_⟩,hlen⟩
 obtain⟨L1,K,R1,d1,_,e1,a1,a2,a3,a4,a5⟩:=Q9 h1 hk
 obtain⟨L2,K2,R2,d2,_,e2,b1,b2,b3,b4,b5⟩:=Q9 h2 (show k<l'.length by omega)
 have hK:K2=K:=by
  have q1:=EJ l k
  have q2:=EJ l' k
  rw[hd,q2,e1,e2] at q1
  have q1:(K2:Int)=(K:Int):=q1
  omega
 subst hK
 have c1:=Ch.of h1
 have c2:=Ch.of h2
 refine⟨L1,L2,K2,R1,R2,d1,d2,e1,e2,a1,b1,a3,a2,b2,a4,b4,a5,b5,fun hf=>?_,fun hl=>?_⟩
 ·have Fq:=of_decide_eq_true hf
  subst Fq
  have q1:=c1.fst
  have q2:=c2.fst
  rw[e1] at q1
  rw[e2] at q2
  have q1:(L1:Int)=1:=q1
  have q2:(L2:Int)=1:=q2
  omega
 ·have wm:k+1=l.length:=of_decide_eq_true hl
  have q1:=c1.kQ
  have q2:=c2.kQ
  rw[show l.length - 1=k by omega,e1] at q1
  rw[show l'.length - 1=k by omega,e2] at q2
  have q1:(R1:Int)=1:=q1
  have q2:(R2:Int)=1:=q2
  omega
theorem QW {x y:Int×List aR} (h:nO x y=true):dR (x.1,gK x y)<=1048576:=by
 obtain⟨h1,_⟩:=AK h
 have h8:=(rZ (m:=x.1) (l:=x.2) h1).2.1
 have hp:eC x.1:=e8 (rZ (m:=x.1) (l:=x.2) h1).1
 show(gK x y).length+((gK x y).map fk).sum<=_
 have hl:(gK x y).length=x.2.length:=by unfold gK;simp
 have bU:∀l:List aR,(∀e∈l,fk e<=32768)->(l.map fk).sum<=l.length*32768:=by
  intro l
  induction l with
  |nil=>intro _;simp
  |cons a l ih=>
   intro hl
   have h1:=hl a List.mem_cons_self
   have h2:=ih fun e he=>hl e (List.mem_cons_of_mem _ he)
   rw[List.map_cons,List.sum_cons,List.length_cons,Nat.add_mul]
   omega
 have:=bU (gK x y) fun e he=>by
  unfold gK at he
  obtain⟨k,hk,rfl⟩:=List.mem_map.1 he
  exact(IC hp (Dt h (List.mem_range.1 hk)).1).2
 rw[hl] at this⊢
 omega
theorem QZ {α:Type} (f:Nat->α) (n:Nat):g8 ((List.range n).map f) (f n::[])=(List.range (n+1)).map f:=by
 rw[List.range_succ,List.map_append]
 rfl
theorem abV (x:(Int×List aR)×(Int×List aR)) (z:(Int×List aR)×Bool) (h:vl x=some z):HU bh x=some z:=by
 obtain⟨⟨p,l⟩,p',l'⟩:=x
 simp only[vl,tp] at h
 split at h
 rotate_left
 ·cases h
 ·rename_i bo
  injection h with h
  subst h
  simp only[HU]
  rw[show xC ((p,l),(p',l'))=some (nO (p,l) (p',l')) from if_pos bo]
  try simp only[bX]
  unfold AJ
  cases sn:nO (p,l) (p',l') with
  |false=>rfl
  |true=>
   rw[if_pos rfl,show fc true=false from rfl,vI]
   obtain⟨h1,h2,hp,hd⟩:=AK sn
   have yT:eC p:=e8 (rZ h1).1
   have h8:=(rZ h1).2.1
   try simp only[sj,bX]
   rw[mD (fun k=>((l,(l.length:Int),(k:Int)),(p,l),(p',l'),(0:Int),p,([]:List aR),(List.range k).map fun k=>iW p (l.getD k bP) (l'.getD k bP) (decide (k=0)) (decide (k+1=l.length)))) l.length ?a1 ?a2 ?a3 (f8 (by omega))]
   case a1=>
    intro k hk
    dsimp only
    obtain⟨ht,cT⟩:=Dt sn hk
    have cT:l'.length=l.length:=cT
    obtain⟨e1,e2⟩:=IC yT ht
    rw[bF (fK (by omega)),ft,getD_some bP hk,ft,getD_some bP (show k<l'.length by omega)]
    try simp only[bX]
    have ef:gd (k:Int) 0=decide (k=0):=by rw[yp];exact decide_eq_decide.2 (by omega)
    have el:gd (k:Int) (nG .i64 (be (aa l)) 1)=decide (k+1=l.length):=by
     rw[Ac (by unfold be aa;omega) (by unfold be aa;omega),yp]
     exact decide_eq_decide.2 (by unfold be aa;omega)
    have e1:vn (p,((l.getD k bP).1,(l.getD k bP).2.1,(l.getD k bP).2.2.1,(l.getD k bP).2.2.2),((l'.getD k bP).1,(l'.getD k bP).2.1,(l'.getD k bP).2.2.1,(l'.getD k bP).2.2.2),decide (k=0),decide (k+1=l.length))=some (iW p (l.getD k bP) (l'.getD k bP) (decide (k=0)) (decide (k+1=l.length))):=e1
    rw[ef,el,e1]
    try simp only[bX,qg,cQ]
    rw[show aI 0 1 (aa (((iW p (l.getD k bP) (l'.getD k bP) (decide (k=0)) (decide (k+1=l.length))).1,(iW p (l.getD k bP) (l'.getD k bP) (decide (k=0)) (decide (k+1=l.length))).2.1,(iW p (l.getD k bP) (l'.getD k bP) (decide (k=0)) (decide (k+1=l.length))).2.2.1,(iW p (l.getD k bP) (l'.getD k bP) (decide (k=0)) (decide (k+1=l.length))).2.2.2)::([]:List aR)))=some () from rfl]
    try simp only[bX]
    rw[JA (by simp only[bW,aa,List.length_map,List.length_range,List.length_cons,List.length_nil,fL];omega)]
    try simp only[bX,sj,cQ]
    rw[Tv]
    try simp only[bX]
    rw[qw (by omega),<-QZ]
   case a2=>
    dsimp only
    rw[bR (eV (by omega))]
    try simp only[cQ,bX]
    try rfl
   case a3=>rfl
   simp only[cJ,Option.bind]
   try simp only[bX,ti]
   have eG:ql (p,gK (p,l) (p',l'))=some (dS (p,gK (p,l) (p',l'))):=if_pos (QW sn)
   rw[show((List.range l.length).map fun k=>iW p (l.getD k bP) (l'.getD k bP) (decide (k=0)) (decide (k+1=l.length)))=gK (p,l) (p',l') from rfl,eG]
   try simp only[bX]
   cases dS (p,gK (p,l) (p',l')) with
   |false=>rfl
   |true=>
    rw[show fc true=false from rfl,vI,qg]
    rfl
end Go.Am
end
section
namespace Go.Am
def D4:ax:=[(.agg,[.int .i64,.list [.int .i64,.int .i64,.int .i64,.list [.int .i64]]]),(.agg,[.int .i64,.list [.int .i64,.int .i64,.int .i64,.list [.int .i64]]])]
def Ox:ax:=[(.agg,[.int .i64,.list [.int .i64,.int .i64,.int .i64,.list [.int .i64]]]),(.one,[.bool])]
def ahi:aJ:=[]
def Iq (NN:Nat):((Int×(List (Int×(Int×(Int×(List Int))))))×(Int×(List (Int×(Int×(Int×(List Int)))))))->(Option ((Int×(List (Int×(Int×(Int×(List Int))))))×Bool)):=
 (fun(((i0,l1),i2,l3):((Int×(List (Int×(Int×(Int×(List Int))))))×(Int×(List (Int×(Int×(Int×(List Int))))))))=>
 (tr ((i0,l1),i2,l3)).ah (fun b4=>
 aH (fc b4)
 (some (((0:Int),([]:List (Int×(Int×(Int×(List Int)))))),false))
 (cJ ((aI 0 0 (aa (([]:List (Int×(Int×(Int×(List Int)))))))).ah (fun _=>
 (aI 0 0 (aa (([]:List (Int×(Int×(Int×(List Int)))))))).ah (fun _=>
 cv NN (fun(((i5,l6,i7,i8),(i9,jG),(gF,j9),jE,qY,ji,gR):((Int×((List (Int×(Int×(Int×(List Int)))))×(Int×Int)))×((Int×(List (Int×(Int×(Int×(List Int))))))×((Int×(List (Int×(Int×(Int×(List Int))))))×(Int×(Int×((List (Int×(Int×(Int×(List Int)))))×(List (Int×(Int×(Int×(List Int))))))))))))=>
 aH (cr i8 i7)
 (cJ ((dP l6 i8).ah (fun(gm,mn,qZ,sP)=>
 (dP j9 i8).ah (fun(gG,ni,ug,Cl)=>
 cJ (aH (gd i8 (0:Int))
 ((aI 0 (aa ji) (aa ji)).ah (fun _=>
 (aI 0 (aa gR) (aa gR)).ah (fun _=>
 (aI 0 0 (aa (([]:List Int)))).ah (fun _=>
 some (Sum.inl ((i8,i7,l6,i5,i8,qZ,(0:Int)),(i9,jG),(gF,j9),jE,qY,(gm,mn,qZ,sP),(gG,ni,ug,Cl),((1:Int),mn,aP .i64 qZ ug),ji,gR,([]:List Int)))))))
 ((aI 0 (aa ji) (aa ji)).ah (fun _=>
 (aI 0 (aa gR) (aa gR)).ah (fun _=>
 (aI 0 0 (aa (([]:List Int)))).ah (fun _=>
 some (Sum.inl ((i8,i7,l6,i5,i8,qZ,gm),(i9,jG),(gF,j9),jE,qY,(gm,mn,qZ,sP),(gG,ni,ug,Cl),(aP .i64 gm gG,mn,aP .i64 qZ ug),ji,gR,([]:List Int))))))))
 (fun((j3,jF,uw,q9,FL,wF,nj),(mr,kf),(wH,F4),uj,y7,(sM,nk,sO,uz),(ra,B8,rb,Co),(kO,j4,Lr),ox,zu,lH)=>
 cJ (aH (gd j3 q9)
 ((aI 0 (aa ox) (aa ox)).ah (fun _=>
 (aI 0 (aa zu) (aa zu)).ah (fun _=>
 (aI 0 (aa lH) (aa lH)).ah (fun _=>
 some (Sum.inl ((jF,uw,q9,FL,(0:Int),nj),(mr,kf),(wH,F4),uj,y7,(sM,nk,sO,uz),(ra,B8,rb,Co),(kO,j4,(1:Int)),ox,zu,lH))))))
 ((aI 0 (aa ox) (aa ox)).ah (fun _=>
 (aI 0 (aa zu) (aa zu)).ah (fun _=>
 (aI 0 (aa lH) (aa lH)).ah (fun _=>
 some (Sum.inl ((jF,uw,q9,FL,wF,nj),(mr,kf),(wH,F4),uj,y7,(sM,nk,sO,uz),(ra,B8,rb,Co),(kO,j4,Lr),ox,zu,lH)))))))
 (fun((i52,wR,B9,Lt,FO,i57),(VP,Mk),(Lu,l61),Lv,Lw,(i64,Lx,i66,l67),(Ly,i69,Lz,l71),(Ca,LA,LB),Mm,Mn,l77)=>
 (pV (dc .i64 (dc .i64 Ca LA) LB) (dc .i64 (dc .i64 Ca LA) LB) 8).ah (fun LZ=>
 cJ ((aI 0 (aa Mm) (aa Mm)).ah (fun _=>
 (aI 0 (aa Mn) (aa Mn)).ah (fun _=>
 (aI 0 LZ (aa (fz LZ (0:Int)))).ah (fun _=>
 cv NN (fun(((FR,LC,i81,FT,zv,FU,FV),(FW,F8),(VQ,WD),VR,VS,(i92,VT,i94,l95),(i96,i97,i98,l99),(UH,UI,UJ),zd,ze,zf):((Int×(Int×(Int×(Int×((List (Int×(Int×(Int×(List Int)))))×(Int×Int))))))×((Int×(List (Int×(Int×(Int×(List Int))))))×((Int×(List (Int×(Int×(Int×(List Int))))))×(Int×(Int×((Int×(Int×(Int×(List Int))))×((Int×(Int×(Int×(List Int))))×((Int×(Int×Int))×((List (Int×(Int×(Int×(List Int)))))×((List (Int×(Int×(Int×(List Int)))))×(List Int))))))))))))=>
 aH (cr FT VT)
 (cJ (cJ ((aI 0 (aa zd) (aa zd)).ah (fun _=>
 (aI 0 (aa ze) (aa ze)).ah (fun _=>
 (aI 0 (aa zf) (aa zf)).ah (fun _=>
 cv NN (fun(((UK,UL,UM,UN,UO,Wh,UP,UQ),(UR,Wi),(US,Wj),UT,UU,(Ll,UW,UX,Wk),(UY,UZ,U0,Wl),(U1,U2,U3),zg,zh,zi):((Int×(Int×(Int×(Int×(Int×((List (Int×(Int×(Int×(List Int)))))×(Int×Int)))))))×((Int×(List (Int×(Int×(Int×(List Int))))))×((Int×(List (Int×(Int×(Int×(List Int))))))×(Int×(Int×((Int×(Int×(Int×(List Int))))×((Int×(Int×(Int×(List Int))))×((Int×(Int×Int))×((List (Int×(Int×(Int×(List Int)))))×((List (Int×(Int×(Int×(List Int)))))×(List Int))))))))))))=>
 aH (cr UO Ll)
 (cJ ((aI 0 (aa zg) (aa zg)).ah (fun _=>
 (aI 0 (aa zh) (aa zh)).ah (fun _=>
 (aI 0 (aa zi) (aa zi)).ah (fun _=>
 cv NN (fun(((U4,U5,U6,BZ,B0,B1,Wm,U7,U8),(Lm,Wn),(U9,Wo),Va,Vb,(Vc,Ln,FD,L3),(Vd,Ve,Vf,Wp),(Vg,FE,FF),zj,zk,rf):((Int×(Int×(Int×(Int×(Int×(Int×((List (Int×(Int×(Int×(List Int)))))×(Int×Int))))))))×((Int×(List (Int×(Int×(Int×(List Int))))))×((Int×(List (Int×(Int×(Int×(List Int))))))×(Int×(Int×((Int×(Int×(Int×(List Int))))×((Int×(Int×(Int×(List Int))))×((Int×(Int×Int))×((List (Int×(Int×(Int×(List Int)))))×((List (Int×(Int×(Int×(List Int)))))×(List Int))))))))))))=>
 aH (cr B1 FD)
 ((iG (aP .i64 (dc .i64 (aP .i64 (dc .i64 B0 FE) BZ) FF) B1) (aa rf)).ah (fun afn=>
 (eZ rf (bW 0 afn)).ah (fun adC=>
 (dP L3 (aP .i64 (dc .i64 (aP .i64 (dc .i64 B0 Ln) BZ) FD) B1)).ah (fun adD=>
 (ru (aP .i64 adC adD) Lm).ah (fun Vh=>
 (iG (aP .i64 (dc .i64 (aP .i64 (dc .i64 B0 FE) BZ) FF) B1) (aa rf)).ah (fun LW=>
 (eZ rf (bW 0 LW)).ah (fun alQ=>
 (aI 0 (aa zj) (aa zj)).ah (fun _=>
 (aI 0 (aa zk) (aa zk)).ah (fun _=>
 (aI 0 (aa rf) (aa (cM rf (bW 0 LW) Vh))).ah (fun _=>
 some (Sum.inl ((U4,U5,U6,BZ,B0,aP .i64 B1 1,Wm,U7,U8),(Lm,Wn),(U9,Wo),Va,Vb,(Vc,Ln,FD,L3),(Vd,Ve,Vf,Wp),(Vg,FE,FF),zj,zk,cM rf (bW 0 LW) Vh))))))))))))
 (((aI 0 (aa zj) (aa zj)).ah (fun _=>
 (aI 0 (aa zk) (aa zk)).ah (fun _=>
 (aI 0 (aa rf) (aa rf)).ah (fun _=>
 some (Sum.inl ((B0,U4,U5,U6,BZ,Wm,U7,U8),(Lm,Wn),(U9,Wo),Va,Vb,(Vc,Ln,FD,L3),(Vd,Ve,Vf,Wp),(Vg,FE,FF),zj,zk,rf)))))).ah (fun af4=>
 some (Sum.inr af4))))
 ((UK,UL,UM,UN,UO,(0:Int),Wh,UP,UQ),(UR,Wi),(US,Wj),UT,UU,(Ll,UW,UX,Wk),(UY,UZ,U0,Wl),(U1,U2,U3),zg,zh,zi)))))
 (fun((adE,adF,adG,adH,adI,af5,adJ,adK),(adL,af6),(adM,af7),adN,adO,(adP,adQ,adR,af8),(adS,adT,adU,af9),(adV,adW,adX),L4,L5,L6)=>
 (aI 0 (aa L4) (aa L4)).ah (fun _=>
 (aI 0 (aa L5) (aa L5)).ah (fun _=>
 (aI 0 (aa L6) (aa L6)).ah (fun _=>
 some (Sum.inl ((adF,adG,adH,adI,aP .i64 adE 1,af5,adJ,adK),(adL,af6),(adM,af7),adN,adO,(adP,adQ,adR,af8),(adS,adT,adU,af9),(adV,adW,adX),L4,L5,L6)))))))
 (((aI 0 (aa zg) (aa zg)).ah (fun _=>
 (aI 0 (aa zh) (aa zh)).ah (fun _=>
 (aI 0 (aa zi) (aa zi)).ah (fun _=>
 some (Sum.inl ((UQ,UP,Wh,UM,UL,UK,UN),(UR,Wi),(US,Wj),UT,UU,(Ll,UW,UX,Wk),(UY,UZ,U0,Wl),(U1,U2,U3),zg,zh,zi)))))).ah (fun aga=>
 some (Sum.inr aga))))
 ((FR,LC,i81,FT,(0:Int),zv,FU,FV),(FW,F8),(VQ,WD),VR,VS,(i92,VT,i94,l95),(i96,i97,i98,l99),(UH,UI,UJ),zd,ze,zf)))))
 (fun((adY,adZ,agb,ad0,ad3,ad4,ad5),(ad6,agc),(ad7,agd),ad8,ad9,(aea,aeb,aec,age),(aed,aee,aef,agf),(aeg,aeh,aei),L7,L8,L9)=>
 (aI 0 (aa L7) (aa L7)).ah (fun _=>
 (aI 0 (aa L8) (aa L8)).ah (fun _=>
 (aI 0 (aa L9) (aa L9)).ah (fun _=>
 cv NN (fun(((Vj,Vk,Vl,Vm,Vn,Wr,Vo,Vp),(Vq,Ws),(Vr,Wt),Vs,Vt,(Vu,Vv,Vw,Wu),(Lo,Vx,Vy,Wv),(Vz,VA,VB),zm,zn,zo):((Int×(Int×(Int×(Int×(Int×((List (Int×(Int×(Int×(List Int)))))×(Int×Int)))))))×((Int×(List (Int×(Int×(Int×(List Int))))))×((Int×(List (Int×(Int×(Int×(List Int))))))×(Int×(Int×((Int×(Int×(Int×(List Int))))×((Int×(Int×(Int×(List Int))))×((Int×(Int×Int))×((List (Int×(Int×(Int×(List Int)))))×((List (Int×(Int×(Int×(List Int)))))×(List Int))))))))))))=>
 aH (cr Vn Lo)
 (cJ ((aI 0 (aa zm) (aa zm)).ah (fun _=>
 (aI 0 (aa zn) (aa zn)).ah (fun _=>
 (aI 0 (aa zo) (aa zo)).ah (fun _=>
 cv NN (fun(((VC,FG,FH,B2,B3,B4,Ww,VD,VE),(Lp,Wx),(VF,Wy),VG,VH,(VI,VJ,VK,Wz),(VL,Lq,FI,Ma),(VM,FJ,FK),zp,zq,rj):((Int×(Int×(Int×(Int×(Int×(Int×((List (Int×(Int×(Int×(List Int)))))×(Int×Int))))))))×((Int×(List (Int×(Int×(Int×(List Int))))))×((Int×(List (Int×(Int×(Int×(List Int))))))×(Int×(Int×((Int×(Int×(Int×(List Int))))×((Int×(Int×(Int×(List Int))))×((Int×(Int×Int))×((List (Int×(Int×(Int×(List Int)))))×((List (Int×(Int×(Int×(List Int)))))×(List Int))))))))))))=>
 aH (cr B4 FI)
 ((iG (aP .i64 (aP .i64 (dc .i64 (aP .i64 (dc .i64 (aP .i64 B3 FG) FJ) B2) FK) B4) FH) (aa rj)).ah (fun afo=>
 (eZ rj (bW 0 afo)).ah (fun aej=>
 (dP Ma (aP .i64 (dc .i64 (aP .i64 (dc .i64 B3 Lq) B2) FI) B4)).ah (fun aek=>
 (ru (aP .i64 aej aek) Lp).ah (fun VN=>
 (iG (aP .i64 (aP .i64 (dc .i64 (aP .i64 (dc .i64 (aP .i64 B3 FG) FJ) B2) FK) B4) FH) (aa rj)).ah (fun LX=>
 (eZ rj (bW 0 LX)).ah (fun alR=>
 (aI 0 (aa zp) (aa zp)).ah (fun _=>
 (aI 0 (aa zq) (aa zq)).ah (fun _=>
 (aI 0 (aa rj) (aa (cM rj (bW 0 LX) VN))).ah (fun _=>
 some (Sum.inl ((VC,FG,FH,B2,B3,aP .i64 B4 1,Ww,VD,VE),(Lp,Wx),(VF,Wy),VG,VH,(VI,VJ,VK,Wz),(VL,Lq,FI,Ma),(VM,FJ,FK),zp,zq,cM rj (bW 0 LX) VN))))))))))))
 (((aI 0 (aa zp) (aa zp)).ah (fun _=>
 (aI 0 (aa zq) (aa zq)).ah (fun _=>
 (aI 0 (aa rj) (aa rj)).ah (fun _=>
 some (Sum.inl ((B3,VC,FG,FH,B2,Ww,VD,VE),(Lp,Wx),(VF,Wy),VG,VH,(VI,VJ,VK,Wz),(VL,Lq,FI,Ma),(VM,FJ,FK),zp,zq,rj)))))).ah (fun agh=>
 some (Sum.inr agh))))
 ((Vj,Vk,Vl,Vm,Vn,(0:Int),Wr,Vo,Vp),(Vq,Ws),(Vr,Wt),Vs,Vt,(Vu,Vv,Vw,Wu),(Lo,Vx,Vy,Wv),(Vz,VA,VB),zm,zn,zo)))))
 (fun((ael,aem,aen,aeo,aep,agi,aeq,aer),(aes,agj),(aet,agk),aeu,aev,(aew,aex,aey,agl),(aez,aeA,aeB,agm),(aeC,aeD,aeE),Mb,Mc,Md)=>
 (aI 0 (aa Mb) (aa Mb)).ah (fun _=>
 (aI 0 (aa Mc) (aa Mc)).ah (fun _=>
 (aI 0 (aa Md) (aa Md)).ah (fun _=>
 some (Sum.inl ((aem,aen,aeo,aep,aP .i64 ael 1,agi,aeq,aer),(aes,agj),(aet,agk),aeu,aev,(aew,aex,aey,agl),(aez,aeA,aeB,agm),(aeC,aeD,aeE),Mb,Mc,Md)))))))
 (((aI 0 (aa zm) (aa zm)).ah (fun _=>
 (aI 0 (aa zn) (aa zn)).ah (fun _=>
 (aI 0 (aa zo) (aa zo)).ah (fun _=>
 some (Sum.inl ((Vm,Vj,Vk,Vl,Wr,Vo,Vp),(Vq,Ws),(Vr,Wt),Vs,Vt,(Vu,Vv,Vw,Wu),(Lo,Vx,Vy,Wv),(Vz,VA,VB),zm,zn,zo)))))).ah (fun agn=>
 some (Sum.inr agn))))
 ((ad4,ad3,ad0,ad5,(0:Int),agb,adZ,adY),(ad6,agc),(ad7,agd),ad8,ad9,(aea,aeb,aec,age),(aed,aee,aef,agf),(aeg,aeh,aei),L7,L8,L9))))))
 (fun((aeF,aeG,aeH,aeI,ago,aeJ,aeK),(aeL,agp),(aeM,agq),aeN,aeO,(aeP,aeQ,aeR,agr),(aeS,aeT,aeU,ags),(aeV,aeW,aeX),Me,Mf,Mg)=>
 (aI 0 (aa Me) (aa Me)).ah (fun _=>
 (aI 0 (aa Mf) (aa Mf)).ah (fun _=>
 (aI 0 (aa Mg) (aa Mg)).ah (fun _=>
 some (Sum.inl ((aeG,aeH,aeI,aP .i64 aeF 1,ago,aeJ,aeK),(aeL,agp),(aeM,agq),aeN,aeO,(aeP,aeQ,aeR,agr),(aeS,aeT,aeU,ags),(aeV,aeW,aeX),Me,Mf,Mg)))))))
 (((aI 0 (aa zd) (aa zd)).ah (fun _=>
 (aI 0 (aa ze) (aa ze)).ah (fun _=>
 (aI 0 (aa zf) (aa zf)).ah (fun _=>
 some (Sum.inl ((FV,FR,zv,FU),(FW,F8),(VQ,WD),VR,VS,(UH,UI,UJ),zd,ze,zf)))))).ah (fun agt=>
 some (Sum.inr agt))))
 ((B9,i57,FO,(0:Int),wR,i52,Lt),(VP,Mk),(Lu,l61),Lv,Lw,(i64,Lx,i66,l67),(Ly,i69,Lz,l71),(Ca,LA,LB),Mm,Mn,fz LZ (0:Int))))))
 (fun((aeY,aeZ,agu,ae0),(ae1,agv),(ae2,agw),ae3,ae4,(B5,B6,B7),Mh,zt,WA)=>
 (iT WA (aa WA)).ah (fun Cm=>
 (aI 0 (aa zt) (aa zt)).ah (fun _=>
 (aI 0 1 (aa (((B5,B6,B7,Cm)::([]:List (Int×(Int×(Int×(List Int))))))))).ah (fun _=>
 (tO (bW (aa zt) (aa (((B5,B6,B7,Cm)::([]:List (Int×(Int×(Int×(List Int))))))))) 48).ah (fun _=>
 (aI 0 (aa Mh) (aa Mh)).ah (fun _=>
 (aI 0 (bW (aa zt) (aa (((B5,B6,B7,Cm)::([]:List (Int×(Int×(Int×(List Int))))))))) (aa (g8 zt (((B5,B6,B7,Cm)::([]:List (Int×(Int×(Int×(List Int)))))))))).ah (fun _=>
 some (Sum.inl ((aeY,aeZ,agu,ae0),(ae1,agv),(ae2,agw),ae3,ae4,Mh,g8 zt (((B5,B6,B7,Cm)::([]:List (Int×(Int×(Int×(List Int))))))))))))))))))))))
 (fun((ae5,ae6,agx,ae7),(ae8,agy),(ae9,agz),afa,afb,Mi,Mj)=>
 (aI 0 (aa Mi) (aa Mi)).ah (fun _=>
 (aI 0 (aa Mj) (aa Mj)).ah (fun _=>
 some (Sum.inl ((ae6,agx,ae7,aP .i64 ae5 1),(ae8,agy),(ae9,agz),afa,afb,Mi,Mj))))))
 (((aI 0 (aa ji) (aa ji)).ah (fun _=>
 (aI 0 (aa gR) (aa gR)).ah (fun _=>
 some (Sum.inl (jE,qY,ji,gR))))).ah (fun agA=>
 some (Sum.inr agA))))
 ((nG .i64 (be (aa l1)) (1:Int),l1,be (aa l1),(0:Int)),(i0,l1),(i2,l3),(0:Int),i0,([]:List (Int×(Int×(Int×(List Int))))),([]:List (Int×(Int×(Int×(List Int)))))))))
 (fun(alS,VO,alT,F7)=>
 (d7 F7 0 (aa F7)).ah (fun agB=>
 (qn (VO,agB)).ah (fun aag=>
 aH (fc aag)
 (some (((0:Int),([]:List (Int×(Int×(Int×(List Int)))))),false))
 ((iT F7 (aa F7)).ah (fun agC=>
 some ((VO,agC),true)))))))))
theorem RW {α:Type} {c:Bool} {x y z:α} (h1:c=true->x=z) (h2:c=false->y=z):aH c x y=z:=by
 cases c with
 |true=>exact h1 rfl
 |false=>exact h2 rfl
def ii (dn ac tR v i j:Nat) (p:Int) (T A S:Nat->Nat->Nat->Int):Nat->Nat->Nat->Int:=fun I w J=>
 if w<v then S I w J else if w=v then(if dn<=I/\ac<=J/\J<ac+tR/\(I<dn+i\/(I=dn+i/\J<ac+j)) then(A I w J+T (I - dn) w (J - ac))%p else A I w J) else 0
theorem X3 {p:Int} {dn ac tR v i j:Nat} {T A S:Nat->Nat->Nat->Int}:ii dn ac tR v i j p T A S (dn+i) v (ac+j)=A (dn+i) v (ac+j):=by
 unfold ii
 rw[if_neg (by omega),if_pos rfl,if_neg (by omega)]
theorem X5 {p:Int} {L K R dn ac tR v i j:Nat} {T A S:Nat->Nat->Nat->Int} (hj:j<tR):
  cI L K R (Al (ii dn ac tR v i j p T A S) (dn+i) v (ac+j) ((A (dn+i) v (ac+j)+T i v j)%p))=cI L K R (ii dn ac tR v i (j+1) p T A S):=n3 fun a b c _ _ _=>by
 unfold Al
 by_cases e:a=dn+i/\b=v/\c=ac+j
 ·obtain⟨rfl,rfl,rfl⟩:=e
  rw[if_pos ⟨rfl,rfl,rfl⟩]
  unfold ii
  rw[if_neg (by omega),if_pos rfl,if_pos (by omega),Nat.add_sub_cancel_left,Nat.add_sub_cancel_left]
 ·rw[if_neg e]
  unfold ii
  by_cases h1:b<v
  ·rw[if_pos h1,if_pos h1]
  ·rw[if_neg h1,if_neg h1]
   by_cases h2:b=v
   ·rw[if_pos h2,if_pos h2]
    exact uk ⟨fun h=>by omega,fun h=>by omega⟩ _ _
   ·rw[if_neg h2,if_neg h2]
theorem X4 {p:Int} {L K R dn ac tR v i:Nat} {T A S:Nat->Nat->Nat->Int}:cI L K R (ii dn ac tR v i tR p T A S)=cI L K R (ii dn ac tR v (i+1) 0 p T A S):=n3 fun a b c _ _ _=>by
 unfold ii
 by_cases h1:b<v
 ·rw[if_pos h1,if_pos h1]
 ·rw[if_neg h1,if_neg h1]
  by_cases h2:b=v
  ·rw[if_pos h2,if_pos h2]
   exact uk ⟨fun h=>by omega,fun h=>by omega⟩ _ _
  ·rw[if_neg h2,if_neg h2]
def w6 (v:Nat) (S:Nat->Nat->Nat->Int):Nat->Nat->Nat->Int:=fun I w J=>if w<v then S I w J else 0
theorem ajM {p:Int} {L K R tR v:Nat} {T S:Nat->Nat->Nat->Int}:cI L K R (w6 v S)=cI L K R (ii 0 0 tR v 0 0 p T (fun _ _ _=>0) S):=n3 fun a b c _ _ _=>by
 unfold w6 ii
 by_cases h1:b<v
 ·rw[if_pos h1,if_pos h1]
 ·rw[if_neg h1,if_neg h1]
  by_cases h2:b=v
  ·rw[if_pos h2,if_neg (by omega)]
  ·rw[if_neg h2]
theorem ajP {p:Int} {L K R L1 R1 dn ac R2 v:Nat} {T T2 S:Nat->Nat->Nat->Int}:cI L K R (ii 0 0 R1 v L1 0 p T (fun _ _ _=>0) S)=cI L K R (ii dn ac R2 v 0 0 p T2 (jl p 0 0 L1 R1 T fun _ _ _=>0) S):=n3 fun a b c _ _ _=>by
 unfold ii
 by_cases h1:b<v
 ·rw[if_pos h1,if_pos h1]
 ·rw[if_neg h1,if_neg h1]
  by_cases h2:b=v
  ·rw[if_pos h2,if_pos h2,if_neg (show¬(dn<=a/\ac<=c/\c<ac+R2/\(a<dn+0\/(a=dn+0/\c<ac+0))) by omega)]
   unfold jl
   exact uk ⟨fun h=>by omega,fun h=>by omega⟩ _ _
  ·rw[if_neg h2,if_neg h2]
theorem ajQ {p:Int} {L K R dn ac L2 R2 v:Nat} {T A:Nat->Nat->Nat->Int}:cI L K R (ii dn ac R2 v L2 0 p T A (jl p dn ac L2 R2 T A))=cI L K R (w6 (v+1) (jl p dn ac L2 R2 T A)):=n3 fun a b c _ _ _=>by
 unfold ii w6
 by_cases h1:b<v
 ·rw[if_pos h1,if_pos (show b<v+1 by omega)]
 ·rw[if_neg h1]
  by_cases h2:b=v
  ·rw[if_pos h2,if_pos (show b<v+1 by omega)]
   unfold jl
   exact uk ⟨fun h=>by omega,fun h=>by omega⟩ _ _
  ·rw[if_neg h2,if_neg (show¬b<v+1 by omega)]
theorem ajK {L K R:Nat} {S:Nat->Nat->Nat->Int}:cI L K R (w6 0 S)=cI L K R fun _ _ _=>0:=n3 fun a b c _ _ _=>if_neg (by omega)
theorem ajL {L K R:Nat} {S:Nat->Nat->Nat->Int}:cI L K R (w6 K S)=cI L K R S:=n3 fun a b c _ hb _=>if_pos hb
set_option maxHeartbeats 4000000 in
theorem acr (x:(Int×List aR)×(Int×List aR)) (z:(Int×List aR)×Bool) (h:tp x=some z):Iq bh x=some z:=by
 obtain⟨⟨p,l⟩,p',l'⟩:=x
 simp only[tp] at h
 split at h
 rotate_left
 ·cases h
 ·rename_i bo
  injection h with h
  subst h
  simp only[Iq]
  rw[show tr ((p,l),(p',l'))=some (nO (p,l) (p',l')) from if_pos bo]
  try simp only[bX]
  unfold AJ
  cases sn:nO (p,l) (p',l') with
  |false=>rfl
  |true=>
   rw[if_pos rfl,show fc true=false from rfl,vI]
   obtain⟨h1,h2,hp,hd⟩:=AK sn
   have yT:eC p:=e8 (rZ h1).1
   have tZ:=yT.1
   have hp3:=yT.2
   have h8:=(rZ h1).2.1
   try simp only[sj,bX]
   rw[show nG .i64 (be (aa l)) 1=(l.length:Int) - 1 from Ac (by unfold be aa;omega) (by unfold be aa;omega)]
   rw[mD (fun k=>(((l.length:Int) - 1,l,(l.length:Int),(k:Int)),(p,l),(p',l'),(0:Int),p,([]:List aR),(List.range k).map fun k=>iW p (l.getD k bP) (l'.getD k bP) (decide (k=0)) (decide (k+1=l.length)))) l.length ?a1 ?a2 ?a3 (f8 (by omega))]
   case a1=>
    intro k hk
    dsimp only
    obtain⟨ht,cT⟩:=Dt sn hk
    have cT:l'.length=l.length:=cT
    rw[bF (fK (by omega)),ft,getD_some bP hk,ft,getD_some bP (show k<l'.length by omega)]
    try simp only[bX]
    obtain⟨L1,L2,K,R1,R2,d1,d2,ex,ey,c1,c2,c3,c4,c5,c6,c7,c8,c9,cf,cl⟩:=ht.ex
    have ex:l.getD k bP=((L1:Int),(K:Int),(R1:Int),d1):=ex
    have ey:l'.getD k bP=((L2:Int),(K:Int),(R2:Int),d2):=ey
    rw[ex,ey]
    obtain⟨LO,dn,hL⟩:∃LO dn:Nat,(k=0->LO=1/\dn=0)/\(k≠0->LO=L1+L2/\dn=L1):=by
     by_cases e:k=0
     ·exact⟨1,0,fun _=>⟨rfl,rfl⟩,fun h=>absurd e h⟩
     ·exact⟨L1+L2,L1,fun h=>absurd h e,fun _=>⟨rfl,rfl⟩⟩
    obtain⟨RO,ac,hR⟩:∃RO ac:Nat,(k+1=l.length->RO=1/\ac=0)/\(k+1≠l.length->RO=R1+R2/\ac=R1):=by
     by_cases e:k+1=l.length
     ·exact⟨1,0,fun _=>⟨rfl,rfl⟩,fun h=>absurd e h⟩
     ·exact⟨R1+R2,R1,fun h=>absurd h e,fun _=>⟨rfl,rfl⟩⟩
    have Lc:iW p ((L1:Int),(K:Int),(R1:Int),d1) ((L2:Int),(K:Int),(R2:Int),d2) (decide (k=0)) (decide (k+1=l.length))=((LO:Int),(K:Int),(RO:Int),cI LO K RO (AL p dn ac L1 R1 L2 R2 K d1 d2)):=by
     simp only[iW,Int.toNat_natCast,decide_eq_true_eq]
     by_cases e:k=0
     ·obtain⟨rfl,rfl⟩:=hL.1 e
      rw[if_pos e,if_pos e]
      by_cases e2:k+1=l.length
      ·obtain⟨rfl,rfl⟩:=hR.1 e2
       rw[if_pos e2,if_pos e2]
      ·obtain⟨rfl,rfl⟩:=hR.2 e2
       rw[if_neg e2,if_neg e2]
     ·obtain⟨rfl,rfl⟩:=hL.2 e
      rw[if_neg e,if_neg e]
      by_cases e2:k+1=l.length
      ·obtain⟨rfl,rfl⟩:=hR.1 e2
       rw[if_pos e2,if_pos e2]
      ·obtain⟨rfl,rfl⟩:=hR.2 e2
       rw[if_neg e2,if_neg e2]
    have qN:k=0->L1=1/\L2=1:=fun e=>cf (decide_eq_true e)
    have bq:k+1=l.length->R1=1/\R2=1:=fun e=>cl (decide_eq_true e)
    have hLO:L1<=LO/\dn+L2<=LO/\LO<=64/\dn<=32:=by
     by_cases e:k=0
     ·have:=hL.1 e;have:=qN e;omega
     ·have:=hL.2 e;omega
    have TJ:R1<=RO/\ac+R2<=RO/\RO<=64/\ac<=32:=by
     by_cases e:k+1=l.length
     ·have:=hR.1 e;have:=bq e;omega
     ·have:=hR.2 e;omega
    rw[RW (c:=gd (k:Int) 0) (z:=some (Sum.inl (((k:Int),(l.length:Int),l,(l.length:Int) - 1,(k:Int),(R1:Int),(dn:Int)),(p,l),(p',l'),(0:Int),p,((L1:Int),(K:Int),(R1:Int),d1),((L2:Int),(K:Int),(R2:Int),d2),((LO:Int),(K:Int),((R1+R2:Nat):Int)),([]:List aR),((List.range k).map fun k=>iW p (l.getD k bP) (l'.getD k bP) (decide (k=0)) (decide (k+1=l.length))),([]:List Int)))) ?p1 ?p2]
    case p1=>
     intro e
     rw[yp] at e
     have e:=of_decide_eq_true e
     obtain⟨rfl,rfl⟩:=hL.1 (by omega)
     try simp only[cQ,sj,bX]
     rw[o8 (by omega)]
     rfl
    case p2=>
     intro e
     rw[yp] at e
     have e:=of_decide_eq_false e
     obtain⟨rfl,rfl⟩:=hL.2 (by omega)
     try simp only[cQ,sj,bX]
     rw[o8 (by omega),o8 (by omega)]
    simp only[cJ,Option.bind]
    rw[RW (c:=gd (k:Int) ((l.length:Int) - 1)) (z:=some (Sum.inl (((l.length:Int),l,(l.length:Int) - 1,(k:Int),(ac:Int),(dn:Int)),(p,l),(p',l'),(0:Int),p,((L1:Int),(K:Int),(R1:Int),d1),((L2:Int),(K:Int),(R2:Int),d2),((LO:Int),(K:Int),(RO:Int)),([]:List aR),((List.range k).map fun k=>iW p (l.getD k bP) (l'.getD k bP) (decide (k=0)) (decide (k+1=l.length))),([]:List Int)))) ?p3 ?p4]
    case p3=>
     intro e
     rw[yp] at e
     have e:=of_decide_eq_true e
     obtain⟨rfl,rfl⟩:=hR.1 (by omega)
     try simp only[cQ,sj,bX]
     try rfl
    case p4=>
     intro e
     rw[yp] at e
     have e:=of_decide_eq_false e
     obtain⟨rfl,rfl⟩:=hR.2 (by omega)
     try simp only[cQ,sj,bX]
     try rfl
    simp only[cJ,Option.bind]
    have b1:LO*K<=64*8:=Nat.mul_le_mul hLO.2.2.1 c3.2
    have b2:LO*K*RO<=64*8*64:=Nat.mul_le_mul b1 TJ.2.2.1
    rw[rm (by omega) (by omega),rm (by omega) (by omega),show pV ((LO*K*RO:Nat):Int) ((LO*K*RO:Nat):Int) 8=some (LO*K*RO) from Gd (by simp only[fL];omega)]
    try simp only[bX,cQ]
    rw[show aI 0 (LO*K*RO) (aa (fz (LO*K*RO) (0:Int)))=some () from Tw (by simp[aa,fz])]
    try simp only[bX,cQ]
    rw[XW]
    generalize Uo:((List.range k).map fun k=>iW p (l.getD k bP) (l'.getD k bP) (decide (k=0)) (decide (k+1=l.length)))=xd
    have fQ:xd.length=k:=by rw[<-Uo];simp
    have TK:AL p dn ac L1 R1 L2 R2 K d1 d2=jl p dn ac L2 R2 (fq K R2 d2) (jl p 0 0 L1 R1 (fq K R1 d1) fun _ _ _=>0):=rfl
    generalize hS:AL p dn ac L1 R1 L2 R2 K d1 d2=S at Lc TK
    have hA:=QY (p:=p) yT (dn:=0) (ac:=0) (L:=L1) (R:=R1) (T:=fq K R1 d1) (M:=fun _ _ _=>0) (fun _ _ _=>Q0 yT)
    have eH:∀e i v f j:Nat,e+i<65->v<K->f+j<65->aP .i64 (aP .i64 (dc .i64 (aP .i64 (dc .i64 (aP .i64 (i:Int) (e:Int)) (K:Int)) (v:Int)) (RO:Int)) (j:Int)) (f:Int)=((((e+i)*K+v)*RO+(f+j):Nat):Int):=by
     intro e i v f j hi hv hj
     have q1:(e+i)*K<=64*64:=Nat.mul_le_mul (by omega) (by omega)
     have q2:((e+i)*K+v)*RO<=(64*64+64)*64:=Nat.mul_le_mul (by omega) TJ.2.2.1
     rw[o8 (by omega),Nat.add_comm i e,rm (by omega) (by omega),o8 (by omega),rm (by omega) (by omega),o8 (by omega),o8 (by omega),Nat.add_assoc,Nat.add_comm j f]
    have KZ:∀q i v j:Nat,q<=64->i<65->v<K->j<65->aP .i64 (dc .i64 (aP .i64 (dc .i64 (i:Int) (K:Int)) (v:Int)) (q:Int)) (j:Int)=(((i*K+v)*q+j:Nat):Int):=by
     intro q i v j hq hi hv hj
     have q1:i*K<=64*64:=Nat.mul_le_mul (by omega) (by omega)
     have q2:(i*K+v)*q<=(64*64+64)*64:=Nat.mul_le_mul (by omega) hq
     rw[rm (by omega) (by omega),o8 (by omega),rm (by omega) (by omega),o8 (by omega)]
    rw[mD (fun v=>(((l.length:Int) - 1,(dn:Int),(ac:Int),(v:Int),l,(l.length:Int),(k:Int)),(p,l),(p',l'),(0:Int),p,((L1:Int),(K:Int),(R1:Int),d1),((L2:Int),(K:Int),(R2:Int),d2),((LO:Int),(K:Int),(RO:Int)),([]:List aR),xd,cI LO K RO (w6 v S))) K ?b1 ?b2 ?b3 (f8 (by omega))]
    case b1=>
     intro v hv
     dsimp only
     rw[bF (fK (by omega))]
     try simp only[bX,cQ]
     rw[ajM (p:=p) (tR:=R1) (T:=fq K R1 d1)]
     rw[mD (fun i=>(((l.length:Int) - 1,(dn:Int),(ac:Int),(v:Int),(i:Int),l,(l.length:Int),(k:Int)),(p,l),(p',l'),(0:Int),p,((L1:Int),(K:Int),(R1:Int),d1),((L2:Int),(K:Int),(R2:Int),d2),((LO:Int),(K:Int),(RO:Int)),([]:List aR),xd,cI LO K RO (ii 0 0 R1 v i 0 p (fq K R1 d1) (fun _ _ _=>0) S))) L1 ?c1 ?c2 ?c3 (f8 (by omega))]
     case c1=>
      intro i hi
      dsimp only
      rw[bF (fK (by omega))]
      try simp only[bX,cQ]
      rw[mD (fun j=>(((l.length:Int) - 1,(dn:Int),(ac:Int),(v:Int),(i:Int),(j:Int),l,(l.length:Int),(k:Int)),(p,l),(p',l'),(0:Int),p,((L1:Int),(K:Int),(R1:Int),d1),((L2:Int),(K:Int),(R2:Int),d2),((LO:Int),(K:Int),(RO:Int)),([]:List aR),xd,cI LO K RO (ii 0 0 R1 v i j p (fq K R1 d1) (fun _ _ _=>0) S))) R1 ?d1 ?d2 ?d3 (f8 (by omega))]
      case d1=>
       intro j hj
       dsimp only
       have bB:=Ee (L:=LO) (K:=K) (R:=RO) (I:=i) (v:=v) (J:=j) (by omega) hv (by omega)
       have q2:=QX c6 c8 hi hv hj
       unfold fE at q2
       rw[bF (fK (by omega)),KZ RO i v j (by omega) (by omega) hv (by omega),Ev (by rw[Cq];exact bB)]
       try simp only[bX]
       have hg:eZ (cI LO K RO (ii 0 0 R1 v i j p (fq K R1 d1) (fun _ _ _=>0) S)) ((i*K+v)*RO+j)=some 0:=by
        have e0:=X3 (p:=p) (dn:=0) (ac:=0) (tR:=R1) (v:=v) (i:=i) (j:=j) (T:=fq K R1 d1) (A:=fun _ _ _=>0) (S:=S)
        simp only[Nat.zero_add] at e0
        exact(Kl _ (by omega) hv (by omega)).trans (by rw[e0])
       rw[vA,hg]
       try simp only[bX]
       rw[KZ R1 i v j (by omega) (by omega) hv (by omega),ft,show d1[(i*K+v)*R1+j]? =some (fq K R1 d1 i v j) from vY (by rw[c6];exact mw (mw hi hv) hj)]
       try simp only[bX]
       rw[iY (by omega) (by omega),NS (by omega) (by omega)]
       try simp only[bX,cQ]
       rw[Km _ _ (by omega) hv (by omega)]
       have e1:=X5 (p:=p) (L:=LO) (K:=K) (R:=RO) (dn:=0) (ac:=0) (tR:=R1) (v:=v) (i:=i) (j:=j) (T:=fq K R1 d1) (A:=fun _ _ _=>0) (S:=S) hj
       simp only[Nat.zero_add] at e1
       rw[e1,Kj]
       try simp only[bX]
       rw[qw (by omega)]
      case d2=>
       dsimp only
       rw[bR (eV (by omega))]
       try simp only[cQ,bX]
       try rfl
      case d3=>rfl
      simp only[cJ,Option.bind]
      try simp only[cQ,bX]
      rw[X4,qw (by omega)]
     case c2=>
      dsimp only
      rw[bR (eV (by omega))]
      try simp only[cQ,bX]
      try rfl
     case c3=>rfl
     simp only[cJ,Option.bind]
     try simp only[cQ,bX]
     rw[ajP (dn:=dn) (ac:=ac) (R2:=R2) (T2:=fq K R2 d2)]
     rw[mD (fun i=>(((l.length:Int) - 1,(dn:Int),(ac:Int),(v:Int),(i:Int),l,(l.length:Int),(k:Int)),(p,l),(p',l'),(0:Int),p,((L1:Int),(K:Int),(R1:Int),d1),((L2:Int),(K:Int),(R2:Int),d2),((LO:Int),(K:Int),(RO:Int)),([]:List aR),xd,cI LO K RO (ii dn ac R2 v i 0 p (fq K R2 d2) (jl p 0 0 L1 R1 (fq K R1 d1) fun _ _ _=>0) S))) L2 ?e1 ?e2 ?e3 (f8 (by omega))]
     case e1=>
      intro i hi
      dsimp only
      rw[bF (fK (by omega))]
      try simp only[bX,cQ]
      rw[mD (fun j=>(((l.length:Int) - 1,(dn:Int),(ac:Int),(v:Int),(i:Int),(j:Int),l,(l.length:Int),(k:Int)),(p,l),(p',l'),(0:Int),p,((L1:Int),(K:Int),(R1:Int),d1),((L2:Int),(K:Int),(R2:Int),d2),((LO:Int),(K:Int),(RO:Int)),([]:List aR),xd,cI LO K RO (ii dn ac R2 v i j p (fq K R2 d2) (jl p 0 0 L1 R1 (fq K R1 d1) fun _ _ _=>0) S))) R2 ?g1 ?g2 ?g3 (f8 (by omega))]
      case g1=>
       intro j hj
       dsimp only
       have bB:=Ee (L:=LO) (K:=K) (R:=RO) (I:=dn+i) (v:=v) (J:=ac+j) (by omega) hv (by omega)
       have q2:=QX c7 c9 hi hv hj
       have q3:=hA (dn+i) v (ac+j)
       unfold fE at q2 q3
       rw[bF (fK (by omega)),eH dn i v ac j (by omega) hv (by omega),Ev (by rw[Cq];exact bB)]
       try simp only[bX]
       have hg:eZ (cI LO K RO (ii dn ac R2 v i j p (fq K R2 d2) (jl p 0 0 L1 R1 (fq K R1 d1) fun _ _ _=>0) S)) (((dn+i)*K+v)*RO+(ac+j))=some (jl p 0 0 L1 R1 (fq K R1 d1) (fun _ _ _=>0) (dn+i) v (ac+j)):=(Kl _ (by omega) hv (by omega)).trans (by rw[X3])
       rw[vA,hg]
       try simp only[bX]
       rw[KZ R2 i v j (by omega) (by omega) hv (by omega),ft,show d2[(i*K+v)*R2+j]? =some (fq K R2 d2 i v j) from vY (by rw[c7];exact mw (mw hi hv) hj)]
       try simp only[bX]
       rw[iY (by omega) (by omega),NS (by omega) (by omega)]
       try simp only[bX,cQ]
       rw[Km _ _ (by omega) hv (by omega),X5 hj,Kj]
       try simp only[bX]
       rw[qw (by omega)]
      case g2=>
       dsimp only
       rw[bR (eV (by omega))]
       try simp only[cQ,bX]
       try rfl
      case g3=>rfl
      simp only[cJ,Option.bind]
      try simp only[cQ,bX]
      rw[X4,qw (by omega)]
     case e2=>
      dsimp only
      rw[bR (eV (by omega))]
      try simp only[cQ,bX]
      try rfl
     case e3=>rfl
     simp only[cJ,Option.bind]
     try simp only[cQ,bX]
     rw[TK,ajQ,qw (by omega)]
    case b2=>
     dsimp only
     rw[bR (eV (by omega))]
     try simp only[cQ,bX]
     try rfl
    case b3=>rw[ajK];rfl
    simp only[cJ,Option.bind]
    try simp only[qg,cQ,bX]
    rw[ajL,show aI 0 1 (aa (((LO:Int),(K:Int),(RO:Int),cI LO K RO S)::([]:List aR)))=some () from rfl]
    try simp only[bX]
    rw[JA (by simp only[bW,aa,fQ,List.length_cons,List.length_nil,fL];omega)]
    try simp only[bX,sj,cQ]
    rw[Tv]
    try simp only[bX,cQ]
    have adb:g8 xd (((LO:Int),(K:Int),(RO:Int),cI LO K RO S)::[])=(List.range (k+1)).map fun k=>iW p (l.getD k bP) (l'.getD k bP) (decide (k=0)) (decide (k+1=l.length)):=by
     rw[<-QZ,Uo,ex,ey,Lc]
    rw[adb,qw (by omega)]
   case a2=>
    dsimp only
    rw[bR (eV (by omega))]
    try simp only[cQ,bX]
    try rfl
   case a3=>rfl
   simp only[cJ,Option.bind]
   try simp only[bX,ti]
   have eG:qn (p,gK (p,l) (p',l'))=some (dS (p,gK (p,l) (p',l'))):=if_pos (QW sn)
   rw[show((List.range l.length).map fun k=>iW p (l.getD k bP) (l'.getD k bP) (decide (k=0)) (decide (k+1=l.length)))=gK (p,l) (p',l') from rfl,eG]
   try simp only[bX]
   cases dS (p,gK (p,l) (p',l')) with
   |false=>rfl
   |true=>
    rw[show fc true=false from rfl,vI,qg]
    rfl
end Go.Am
end
