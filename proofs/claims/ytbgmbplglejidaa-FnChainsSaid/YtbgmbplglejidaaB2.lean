/- MB, B0, B1, B2: parts of the proof. No condition. -/
import Derived.Test.YtbgmbplglejidaaS7
import Derived.Laws.BitsLemmas
set_option linter.unusedVariables false
set_option linter.unusedSimpArgs false
section
namespace Go.Am
theorem aac {X Y:Type} {f:X->Option (X⊕Y)} {r:Y} (P:Nat->X->Prop) (step:∀n x,P n x->f x=some (.inr r)\/∃m x',m<n/\f x=some (.inl x')/\P m x'):
  ∀n x,P n x->∀N,n<N->bN N f x=some r:=by
 intro n
 induction n using Nat.strongRecOn with
 |ind n ih=>
  intro x hP N hN
  cases N with
  |zero=>omega
  |succ N=>
   rcases step n x hP with h|⟨m,x',hm,h,hP'⟩
   ·simp only[bN,h]
   ·simp only[bN,h]
    exact ih m hm x' hP' N (by omega)
theorem dY {α:Type} (xs:List α) (i:Nat):dK xs (i:Int)=xs[i]? :=by simp[dK]
theorem zy {n:Int} (h1: -9223372036854775808<=n) (h2:n<=9223372036854775807):IntKind.wrap .i64 n=n:=by rw[IntKind.wrap_i64];omega
theorem fv {a b:Int} (h1: -9223372036854775808<=a+b) (h2:a+b<=9223372036854775807):bS .i64 a b=a+b:=zy h1 h2
theorem lW {a b:Int} (h1: -9223372036854775808<=a - b) (h2:a - b<=9223372036854775807):eG .i64 a b=a - b:=zy h1 h2
theorem av {α β:Type} (x:α) (f:α->Option β):(some x).aa f=f x:=rfl
theorem g8 {X ρ:Type} (x:X) (k:X->Option ρ):cd (some (.inl x)) k=k x:=rfl
theorem ZN {X ρ:Type} (x:ρ) (k:X->Option ρ):cd (some (.inr x):Option (X⊕ρ)) k=some x:=rfl
theorem aX {α:Type} {b:Bool} (h:b=true) (x y:α):aC b x y=x:=by rw[h];rfl
theorem aR {α:Type} {b:Bool} (h:b=false) (x y:α):aC b x y=y:=by rw[h];rfl
theorem nl {α:Type} (l:List α):aI (J l)=(l.length:Int):=rfl
theorem dc {a b:Int} (h:a<b):bO a b=true:=decide_eq_true h
theorem cZ {a b:Int} (h:b<=a):bO a b=false:=decide_eq_false (Int.not_lt.2 h)
theorem uK {a b:Int} (h:a<=b):gC a b=true:=decide_eq_true h
theorem wF {a b:Int} (h:b<a):gC a b=false:=decide_eq_false (Int.not_le.2 h)
theorem tL {a b:Int} (h:a=b):cz a b=true:=by simp[cz,h]
theorem sx {a b:Int} (h:a≠b):cz a b=false:=by simp[cz,h]
theorem Et {a b:Int} (h:a≠b):hZ a b=true:=by simp[hZ,h]
theorem Es {a b:Int} (h:a=b):hZ a b=false:=by simp[hZ,h]
theorem alQ {p:Prop} [Decidable p] (h:¬p):ef (decide p)=true:=by simp[ef,h]
theorem alR {p:Prop} [Decidable p] (h:p):ef (decide p)=false:=by simp[ef,h]
theorem cH (n:Nat):ai 0 n n=some ():=by simp[ai]
theorem ku {α:Type} (xs:List α):dP xs (J xs)=some xs:=by simp[dP,J]
theorem iQ {α:Type} (xs:List α):c6 xs 0 (J xs)=some xs:=by simp[c6,J]
theorem yT {n by_:Nat} (h:n*by_<=dF):n9 (aI n) (aI n) by_=some n:=by simp[n9,aI,h]
theorem q9 {i n:Nat} (h:i<n):fj (i:Int) n=some i:=by simp[fj];omega
theorem dC {n:Nat} (h:n<18446744073709551616):n<ax:=h
theorem drop_cons {α:Type} {xs:List α} {i:Nat} {x:α} (h:xs[i]? =some x):xs.drop i=x::xs.drop (i+1):=by
 obtain⟨h1,h2⟩:=List.getElem?_eq_some_iff.1 h
 rw[List.drop_eq_getElem_cons h1,h2]
end Go.Am
end
section
namespace Go.Am
theorem aab {X Y:Type} {f:X->Option (X⊕Y)} (st:Nat->X) {r:Y}:∀(n i:Nat),(∀j,i<=j->j<i+n->f (st j)=some (.inl (st (j+1))))->f (st (i+n))=some (.inr r)->∀N,n<N->bN N f (st i)=some r
 |0,i,_,h2,N+1,_=>by
  have h2:f (st i)=some (.inr r):=h2
  simp only[bN,h2]
 |n+1,i,h1,h2,N+1,hN=>by
  simp only[bN,h1 i (Nat.le_refl i) (by omega)]
  exact aab st n (i+1) (fun j h3 h4=>h1 j (by omega) (by omega)) (by rw[show i+1+n=i+(n+1) by omega];exact h2) N (by omega)
 |_,_,_,_,0,h=>by omega
theorem fF {X Y:Type} {f:X->Option (X⊕Y)} (st:Nat->X) {r:Y} (n:Nat) (h1:∀j,j<n->f (st j)=some (.inl (st (j+1)))) (h2:f (st n)=some (.inr r)) {x0:X} (h0:x0=st 0) {N:Nat} (hN:n<N):bN N f x0=some r:=by
 subst h0
 exact aab st n 0 (fun j _ h=>h1 j (by omega)) (by rw[Nat.zero_add];exact h2) N hN
theorem Z8 {X Y α:Type} {f:X->Option (X⊕Y)} (es:List α) (mk:Nat->X) (p:α->Bool) (qY eu:Y)
  (h1:∀i a,es[i]? =some a->p a=true->f (mk i)=some (.inl (mk (i+1)))) (h2:∀i a,es[i]? =some a->p a=false->f (mk i)=some (.inr qY)) (h3:f (mk es.length)=some (.inr eu)) {x0:X} (h0:x0=mk 0) {N:Nat} (hN:es.length<N):
  bN N f x0=some (if es.all p=true then eu else qY):=by
 subst h0
 have cf:∀(k:Nat) (i:Nat),i+k=es.length->∀N,k<N->bN N f (mk i)=some (if(es.drop i).all p=true then eu else qY):=by
  intro k
  induction k with
  |zero=>
   intro i hi N hN
   obtain⟨N,rfl⟩:∃M,N=M+1:=⟨N - 1,by omega⟩
   have:i=es.length:=by omega
   subst this
   simp only[bN,h3,List.drop_length,List.all_nil,if_true]
  |succ k ih=>
   intro i hi N hN
   obtain⟨N,rfl⟩:∃M,N=M+1:=⟨N - 1,by omega⟩
   obtain⟨a,ha⟩:∃a,es[i]? =some a:=⟨_,List.getElem?_eq_getElem (by omega)⟩
   rw[drop_cons ha]
   cases hp:p a with
   |true=>
    simp only[bN,h1 i a ha hp,List.all_cons,hp,Bool.true_and]
    exact ih (i+1) (by omega) N (by omega)
   |false=>simp only[bN,h2 i a ha hp,List.all_cons,hp,Bool.false_and,Bool.false_eq_true,if_false]
 exact cf es.length 0 (by omega) N hN
def eI {S α:Type} (step:Nat->S->α->Option S):Nat->S->List α->Option S
 |_,s,[]=>some s
 |i,s,a::as=>match step i s a with
  |some s'=>eI step (i+1) s' as
  |none=>none
theorem Z9 {X Y α S:Type} {f:X->Option (X⊕Y)} (es:List α) (mk:S->Nat->X) (I:Nat->S->Prop) (step:Nat->S->α->Option S) (qY:Y) (eu:S->Y)
  (h1:∀i s a s',es[i]? =some a->I i s->step i s a=some s'->f (mk s i)=some (.inl (mk s' (i+1)))/\I (i+1) s')
  (h2:∀i s a,es[i]? =some a->I i s->step i s a=none->f (mk s i)=some (.inr qY))
  (h3:∀s,I es.length s->f (mk s es.length)=some (.inr (eu s))) {s:S} (h0:I 0 s) {x0:X} (hx:x0=mk s 0) {N:Nat} (hN:es.length<N):
  bN N f x0=some (match eI step 0 s es with|some s'=>eu s'|none=>qY):=by
 subst hx
 have cf:∀(k:Nat) (i:Nat) (s:S),I i s->i+k=es.length->∀N,k<N->bN N f (mk s i)=some (match eI step i s (es.drop i) with|some s'=>eu s'|none=>qY):=by
  intro k
  induction k with
  |zero=>
   intro i s hs hi N hN
   obtain⟨N,rfl⟩:∃M,N=M+1:=⟨N - 1,by omega⟩
   have:i=es.length:=by omega
   subst this
   simp only[bN,h3 s hs,List.drop_length,eI]
  |succ k ih=>
   intro i s hs hi N hN
   obtain⟨N,rfl⟩:∃M,N=M+1:=⟨N - 1,by omega⟩
   obtain⟨a,ha⟩:∃a,es[i]? =some a:=⟨_,List.getElem?_eq_getElem (by omega)⟩
   rw[drop_cons ha]
   cases hp:step i s a with
   |some s'=>
    obtain⟨h4,h5⟩:=h1 i s a s' ha hs hp
    simp only[bN,h4,eI,hp]
    exact ih (i+1) s' h5 (by omega) N (by omega)
   |none=>simp only[bN,h2 i s a ha hs hp,eI,hp]
 exact cf es.length 0 s h0 (by omega) N hN
def AJ {S α:Type} (step:Nat->S->α->S):Nat->S->List α->S
 |_,s,[]=>s
 |i,s,a::as=>AJ step (i+1) (step i s a) as
theorem uM {α:Type} {es:List α} {i:Nat} {a:α} (h:es[i]? =some a):bO (i:Int) (aI (J es))=true:=by
 have:=(List.getElem?_eq_some_iff.1 h).1
 exact dc (by have:=nl es;omega)
theorem uL {α:Type} (es:List α):bO ((es.length:Nat):Int) (aI (J es))=false:=cZ (by have:=nl es;omega)
theorem BP {α:Type} {es:List α} {i:Nat} {a:α} (h:es[i]? =some a) (hl:es.length<=9223372036854775807):bS .i64 (i:Int) 1=((i+1:Nat):Int):=by
 have:=(List.getElem?_eq_some_iff.1 h).1
 rw[fv (by omega) (by omega)];omega
theorem wG {α:Type} {es:List α} {i:Nat} {a:α} (h:es[i]? =some a):i<es.length:=(List.getElem?_eq_some_iff.1 h).1
theorem Vv (n:Int) (apV:0<=n) (apW:n<2^63):IntKind.i64.wrap n=n:=by rw[IntKind.wrap_i64];omega
theorem ads {a b:Nat} (ha:a<2^63) (hb:b<2^63):pO .i64 (a:Int) (b:Int)=((a&&&b:Nat):Int):=(bits_nat .i64 63 (by decide) Vv a b ha hb).1
theorem aoq {a k:Nat} (ha:a<2^63):tf .i64 (a:Int) (k:Int)=some ((a>>>k:Nat):Int):=by
 unfold tf
 rw[if_neg (by omega)]
 congr 1
 rw[Int.toNat_natCast,Nat.shiftRight_eq_div_pow]
 by_cases h:k<=64
 ·rw[show min k (IntKind.bits .i64)=k from Nat.min_eq_left h]
  norm_cast
 ·rw[show min k (IntKind.bits .i64)=64 from Nat.min_eq_right (show 64<=k by omega)]
  have h1:a/2^k=0:=Nat.div_eq_of_lt (Nat.lt_of_lt_of_le ha (Nat.pow_le_pow_right (by decide) (by omega)))
  rw[h1]
  omega
theorem aop {k:Nat} (hk:k<63):zi .i64 1 (k:Int)=some ((2^k:Nat):Int):=by
 unfold zi
 rw[if_neg (by omega)]
 congr 1
 rw[Int.toNat_natCast,show min k (IntKind.bits .i64)=k from Nat.min_eq_left (by simp[IntKind.bits];omega),Int.one_mul]
 have:(2:Int)^k=((2^k:Nat):Int):=by norm_cast
 rw[this]
 refine Vv _ (Int.natCast_nonneg _) ?_
 have:=Nat.pow_lt_pow_right (a:=2) (by decide) hk
 exact_mod_cast this
theorem fz {z:Int} (h:0<=z):∃n:Nat,z=(n:Int):=⟨z.toNat,by omega⟩
end Go.Am
end
section
namespace Go.Am
theorem BD {α:Type} (l r:List α):J (dt l r)=aW (J l) (J r):=by simp[J,dt,aW]
theorem PH {α:Type} (n:Nat) (x:α):J (dT n x)=n:=by simp[J,dT]
theorem oK {n k:Nat} (h:n*k<=dF):jt n k=some ():=if_pos h
theorem gR (k:Nat):aW 0 k=k:=by simp[aW]
theorem Fy {α:Type} (x:α):c6 [x] 0 1=some [x]:=rfl
theorem alF (a b:Int):hZ a b= !decide (a=b):=by by_cases h:a=b<;>simp[hZ,h]
theorem ZY {n:Nat}:∀{l:List Nat},n∈l->n<=l.sum
 |[],h=>by cases h
 |a::l,h=>by
  rw[List.sum_cons]
  rcases List.mem_cons.1 h with rfl|h
  ·omega
  ·have:=ZY h;omega
def kOk (k:Int):Prop:=0<=k/\k<=1048576
instance (k:Int):Decidable (kOk k):=inferInstanceAs (Decidable (0<=k/\k<=1048576))
end Go.Am
end
section
namespace Go.Am
theorem ac4 {α:Type} {xs:List α} {n:Nat} (h:xs.length=n):c6 xs 0 n=some xs:=by subst h;exact iQ xs
theorem ze {a b:Nat} (h:a=b):pF a b=some ():=if_pos h
theorem x6 {n m:Nat} (h:n=m):ai 0 n m=some ():=by subst h;exact cH n
theorem agV {α:Type} {l:List α} {i:Nat} {a b:α} (h:l[i]? =some a):(l.set i b)[i]? =some b:=List.getElem?_set_self (wG h)
theorem Yk {α:Type} {l:List α} {i:Nat} {a b:α} (h:l[i]? =some a):dv (bW l i b) i=some b:=agV h
theorem aoj {α:Type} (l:List α) (i:Nat) (a b:α):bW (bW l i a) i b=bW l i b:=by simp[bW,List.set_set]
end Go.Am
end
