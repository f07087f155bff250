/- MB, B0, B1, B2: parts of the proof. No condition. -/
import Derived.Test.YtifmggmhdcdgbaaS7
import Derived.Laws.BitsLemmas
set_option linter.unusedVariables false
set_option linter.unusedSimpArgs false
section
namespace Go.Am
theorem J9 {X Y:Type} {f:X->Option (X⊕Y)} {r:Y} (P:Nat->X->Prop) (step:∀n x,P n x->f x=some (.inr r)\/∃m x',m<n/\f x=some (.inl x')/\P m x'):
  ∀n x,P n x->∀N,n<N->bg N f x=some r:=by
 intro n
 induction n using Nat.strongRecOn with
 |ind n ih=>
  intro x hP N hN
  cases N with
  |zero=>omega
  |succ N=>
   rcases step n x hP with h|⟨m,x',hm,h,hP'⟩
   ·simp only[bg,h]
   ·simp only[bg,h]
    exact ih m hm x' hP' N (by omega)
theorem fw {α:Type} (xs:List α) (i:Nat):eJ xs (i:Int)=xs[i]? :=by simp[eJ]
theorem zD {n:Int} (h1: -9223372036854775808<=n) (h2:n<=9223372036854775807):IntKind.wrap .i64 n=n:=by rw[IntKind.wrap_i64];omega
theorem jl {a b:Int} (h1: -9223372036854775808<=a+b) (h2:a+b<=9223372036854775807):aY .i64 a b=a+b:=zD h1 h2
theorem ph {a b:Int} (h1: -9223372036854775808<=a - b) (h2:a - b<=9223372036854775807):nh .i64 a b=a - b:=zD h1 h2
theorem ak {α β:Type} (x:α) (f:α->Option β):(some x).aa f=f x:=rfl
theorem db {X ρ:Type} (x:X) (k:X->Option ρ):bO (some (.inl x)) k=k x:=rfl
theorem Bl {X ρ:Type} (x:ρ) (k:X->Option ρ):bO (some (.inr x):Option (X⊕ρ)) k=some x:=rfl
theorem aQ {α:Type} {b:Bool} (h:b=true) (x y:α):aJ b x y=x:=by rw[h];rfl
theorem aN {α:Type} {b:Bool} (h:b=false) (x y:α):aJ b x y=y:=by rw[h];rfl
theorem nl {α:Type} (l:List α):aO (U l)=(l.length:Int):=rfl
theorem dZ {a b:Int} (h:a<b):bC a b=true:=decide_eq_true h
theorem dX {a b:Int} (h:b<=a):bC a b=false:=decide_eq_false (Int.not_lt.2 h)
theorem tt {a b:Int} (h:a<=b):n4 a b=true:=decide_eq_true h
theorem yZ {a b:Int} (h:b<a):n4 a b=false:=decide_eq_false (Int.not_le.2 h)
theorem yi {a b:Int} (h:a=b):fE a b=true:=by simp[fE,h]
theorem yh {a b:Int} (h:a≠b):fE a b=false:=by simp[fE,h]
theorem qq {a b:Int} (h:a≠b):eu a b=true:=by simp[eu,h]
theorem n7 {a b:Int} (h:a=b):eu a b=false:=by simp[eu,h]
theorem B1 {p:Prop} [Decidable p] (h:¬p):fC (decide p)=true:=by simp[fC,h]
theorem B2 {p:Prop} [Decidable p] (h:p):fC (decide p)=false:=by simp[fC,h]
theorem bQ (n:Nat):ae 0 n n=some ():=by simp[ae]
theorem kf {α:Type} (xs:List α):dq xs (U xs)=some xs:=by simp[dq,U]
theorem il {α:Type} (xs:List α):dg xs 0 (U xs)=some xs:=by simp[dg,U]
theorem aj2 {n by_:Nat} (h:n*by_<=dK):BU (aO n) (aO n) by_=some n:=by simp[BU,aO,h]
theorem vT {i n:Nat} (h:i<n):eB (i:Int) n=some i:=by simp[eB];omega
theorem cN {n:Nat} (h:n<18446744073709551616):n<aB:=h
theorem drop_cons {α:Type} {xs:List α} {i:Nat} {x:α} (h:xs[i]? =some x):xs.drop i=x::xs.drop (i+1):=by
 obtain⟨h1,h2⟩:=List.getElem?_eq_some_iff.1 h
 rw[List.drop_eq_getElem_cons h1,h2]
end Go.Am
end
section
namespace Go.Am
theorem Z5 {X Y:Type} {f:X->Option (X⊕Y)} (st:Nat->X) {r:Y}:∀(n i:Nat),(∀j,i<=j->j<i+n->f (st j)=some (.inl (st (j+1))))->f (st (i+n))=some (.inr r)->∀N,n<N->bg N f (st i)=some r
 |0,i,_,h2,N+1,_=>by
  have h2:f (st i)=some (.inr r):=h2
  simp only[bg,h2]
 |n+1,i,h1,h2,N+1,hN=>by
  simp only[bg,h1 i (Nat.le_refl i) (by omega)]
  exact Z5 st n (i+1) (fun j h3 h4=>h1 j (by omega) (by omega)) (by rw[show i+1+n=i+(n+1) by omega];exact h2) N (by omega)
 |_,_,_,_,0,h=>by omega
theorem fc {X Y:Type} {f:X->Option (X⊕Y)} (st:Nat->X) {r:Y} (n:Nat) (h1:∀j,j<n->f (st j)=some (.inl (st (j+1)))) (h2:f (st n)=some (.inr r)) {x0:X} (h0:x0=st 0) {N:Nat} (hN:n<N):bg N f x0=some r:=by
 subst h0
 exact Z5 st n 0 (fun j _ h=>h1 j (by omega)) (by rw[Nat.zero_add];exact h2) N hN
theorem BR {X Y α:Type} {f:X->Option (X⊕Y)} (es:List α) (mk:Nat->X) (p:α->Bool) (xZ eD:Y)
  (h1:∀i a,es[i]? =some a->p a=true->f (mk i)=some (.inl (mk (i+1)))) (h2:∀i a,es[i]? =some a->p a=false->f (mk i)=some (.inr xZ)) (h3:f (mk es.length)=some (.inr eD)) {x0:X} (h0:x0=mk 0) {N:Nat} (hN:es.length<N):
  bg N f x0=some (if es.all p=true then eD else xZ):=by
 subst h0
 have cr:∀(k:Nat) (i:Nat),i+k=es.length->∀N,k<N->bg N f (mk i)=some (if(es.drop i).all p=true then eD else xZ):=by
  intro k
  induction k with
  |zero=>
   intro i hi N hN
   obtain⟨N,rfl⟩:∃M,N=M+1:=⟨N - 1,by omega⟩
   have:i=es.length:=by omega
   subst this
   simp only[bg,h3,List.drop_length,List.all_nil,if_true]
  |succ k ih=>
   intro i hi N hN
   obtain⟨N,rfl⟩:∃M,N=M+1:=⟨N - 1,by omega⟩
   obtain⟨a,ha⟩:∃a,es[i]? =some a:=⟨_,List.getElem?_eq_getElem (by omega)⟩
   rw[drop_cons ha]
   cases hp:p a with
   |true=>
    simp only[bg,h1 i a ha hp,List.all_cons,hp,Bool.true_and]
    exact ih (i+1) (by omega) N (by omega)
   |false=>simp only[bg,h2 i a ha hp,List.all_cons,hp,Bool.false_and,Bool.false_eq_true,if_false]
 exact cr es.length 0 (by omega) N hN
def yq {S α:Type} (step:Nat->S->α->S):Nat->S->List α->S
 |_,s,[]=>s
 |i,s,a::as=>yq step (i+1) (step i s a) as
theorem Z4 {X Y α S:Type} {f:X->Option (X⊕Y)} (es:List α) (mk:S->Nat->X) (I:Nat->S->Prop) (step:Nat->S->α->S) (eD:S->Y)
  (h1:∀i s a,es[i]? =some a->I i s->f (mk s i)=some (.inl (mk (step i s a) (i+1)))/\I (i+1) (step i s a))
  (h3:∀s,I es.length s->f (mk s es.length)=some (.inr (eD s))) {s:S} (h0:I 0 s) {x0:X} (hx:x0=mk s 0) {N:Nat} (hN:es.length<N):
  bg N f x0=some (eD (yq step 0 s es)):=by
 subst hx
 have cr:∀(k:Nat) (i:Nat) (s:S),I i s->i+k=es.length->∀N,k<N->bg N f (mk s i)=some (eD (yq step i s (es.drop i))):=by
  intro k
  induction k with
  |zero=>
   intro i s hs hi N hN
   obtain⟨N,rfl⟩:∃M,N=M+1:=⟨N - 1,by omega⟩
   have:i=es.length:=by omega
   subst this
   simp only[bg,h3 s hs,List.drop_length,yq]
  |succ k ih=>
   intro i s hs hi N hN
   obtain⟨N,rfl⟩:∃M,N=M+1:=⟨N - 1,by omega⟩
   obtain⟨a,ha⟩:∃a,es[i]? =some a:=⟨_,List.getElem?_eq_getElem (by omega)⟩
   rw[drop_cons ha]
   obtain⟨h4,h5⟩:=h1 i s a ha hs
   simp only[bg,h4,yq]
   exact ih (i+1) _ h5 (by omega) N (by omega)
 exact cr es.length 0 s h0 (by omega) N hN
theorem kI {α:Type} {es:List α} {i:Nat} {a:α} (h:es[i]? =some a):bC (i:Int) (aO (U es))=true:=by
 have:=(List.getElem?_eq_some_iff.1 h).1
 exact dZ (by have:=nl es;omega)
theorem rG {α:Type} (es:List α):bC ((es.length:Nat):Int) (aO (U es))=false:=dX (by have:=nl es;omega)
theorem qt {α:Type} {es:List α} {i:Nat} {a:α} (h:es[i]? =some a) (hl:es.length<=9223372036854775807):aY .i64 (i:Int) 1=((i+1:Nat):Int):=by
 have:=(List.getElem?_eq_some_iff.1 h).1
 rw[jl (by omega) (by omega)];omega
theorem Z7 {α:Type} {es:List α} {i:Nat} {a:α} (h:es[i]? =some a):i<es.length:=(List.getElem?_eq_some_iff.1 h).1
theorem acP (n:Int) (ao5:0<=n) (ao6:n<2^63):IntKind.i64.wrap n=n:=by rw[IntKind.wrap_i64];omega
theorem ac4 {a b:Nat} (ha:a<2^63) (hb:b<2^63):pq .i64 (a:Int) (b:Int)=((a&&&b:Nat):Int):=(bits_nat .i64 63 (by decide) acP a b ha hb).1
theorem anS {a k:Nat} (ha:a<2^63):tH .i64 (a:Int) (k:Int)=some ((a>>>k:Nat):Int):=by
 unfold tH
 rw[if_neg (by omega)]
 congr 1
 rw[Int.toNat_natCast,Nat.shiftRight_eq_div_pow]
 by_cases h:k<=64
 ·rw[show min k (IntKind.bits .i64)=k from Nat.min_eq_left h]
  norm_cast
 ·rw[show min k (IntKind.bits .i64)=64 from Nat.min_eq_right (show 64<=k by omega)]
  have h1:a/2^k=0:=Nat.div_eq_of_lt (Nat.lt_of_lt_of_le ha (Nat.pow_le_pow_right (by decide) (by omega)))
  rw[h1]
  omega
theorem f9 {z:Int} (h:0<=z):∃n:Nat,z=(n:Int):=⟨z.toNat,by omega⟩
end Go.Am
end
section
namespace Go.Am
theorem ZT {α:Type} (l r:List α):U (bU l r)=aL (U l) (U r):=by simp[U,bU,aL]
theorem jH {n k:Nat} (h:n*k<=dK):ir n k=some ():=if_pos h
theorem mF (k:Nat):aL 0 k=k:=by simp[aL]
theorem ZS {n:Nat}:∀{l:List Nat},n∈l->n<=l.sum
 |[],h=>by cases h
 |a::l,h=>by
  rw[List.sum_cons]
  rcases List.mem_cons.1 h with rfl|h
  ·omega
  ·have:=ZS h;omega
def kOk (k:Int):Prop:=0<=k/\k<=1048576
instance (k:Int):Decidable (kOk k):=inferInstanceAs (Decidable (0<=k/\k<=1048576))
end Go.Am
end
section
namespace Go.Am
theorem CL {α:Type} {xs:List α} {n:Nat} (h:xs.length=n):dg xs 0 n=some xs:=by subst h;exact il xs
theorem anB {a b:Nat} (h:a=b):ve a b=some ():=if_pos h
theorem Av {n m:Nat} (h:n=m):ae 0 n m=some ():=by subst h;exact bQ n
end Go.Am
end
