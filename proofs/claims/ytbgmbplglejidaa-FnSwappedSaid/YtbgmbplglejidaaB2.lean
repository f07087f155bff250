/- MB, B0, B1, B2: parts of the proof. No condition. -/
import Derived.Test.YtbgmbplglejidaaS7
import Derived.Laws.BitsLemmas
set_option linter.unusedVariables false
set_option linter.unusedSimpArgs false
section
namespace Go.Am
theorem abN {X Y:Type} {f:X->Option (X⊕Y)} {r:Y} (P:Nat->X->Prop) (step:∀n x,P n x->f x=some (.inr r)\/∃m x',m<n/\f x=some (.inl x')/\P m x'):
  ∀n x,P n x->∀N,n<N->bM N f x=some r:=by
 intro n
 induction n using Nat.strongRecOn with
 |ind n ih=>
  intro x hP N hN
  cases N with
  |zero=>omega
  |succ N=>
   rcases step n x hP with h|⟨m,x',hm,h,hP'⟩
   ·simp only[bM,h]
   ·simp only[bM,h]
    exact ih m hm x' hP' N (by omega)
theorem eu {α:Type} (xs:List α) (i:Nat):eo xs (i:Int)=xs[i]? :=by simp[eo]
theorem AK {n:Int} (h1: -9223372036854775808<=n) (h2:n<=9223372036854775807):IntKind.wrap .i64 n=n:=by rw[IntKind.wrap_i64];omega
theorem gw {a b:Int} (h1: -9223372036854775808<=a+b) (h2:a+b<=9223372036854775807):bA .i64 a b=a+b:=AK h1 h2
theorem pq {a b:Int} (h1: -9223372036854775808<=a - b) (h2:a - b<=9223372036854775807):iF .i64 a b=a - b:=AK h1 h2
theorem av {α β:Type} (x:α) (f:α->Option β):(some x).ab f=f x:=rfl
theorem fx {X ρ:Type} (x:X) (k:X->Option ρ):ca (some (.inl x)) k=k x:=rfl
theorem abn {X ρ:Type} (x:ρ) (k:X->Option ρ):ca (some (.inr x):Option (X⊕ρ)) k=some x:=rfl
theorem aR {α:Type} {b:Bool} (h:b=true) (x y:α):ax b x y=x:=by rw[h];rfl
theorem aL {α:Type} {b:Bool} (h:b=false) (x y:α):ax b x y=y:=by rw[h];rfl
theorem nl {α:Type} (l:List α):aS (aa l)=(l.length:Int):=rfl
theorem df {a b:Int} (h:a<b):bG a b=true:=decide_eq_true h
theorem cN {a b:Int} (h:b<=a):bG a b=false:=decide_eq_false (Int.not_lt.2 h)
theorem xu {a b:Int} (h:a<=b):iW a b=true:=decide_eq_true h
theorem CO {a b:Int} (h:b<a):iW a b=false:=decide_eq_false (Int.not_le.2 h)
theorem tg {a b:Int} (h:a=b):cJ a b=true:=by simp[cJ,h]
theorem rW {a b:Int} (h:a≠b):cJ a b=false:=by simp[cJ,h]
theorem vu {a b:Int} (h:a≠b):gC a b=true:=by simp[gC,h]
theorem tT {a b:Int} (h:a=b):gC a b=false:=by simp[gC,h]
theorem apc {p:Prop} [Decidable p] (h:¬p):dA (decide p)=true:=by simp[dA,h]
theorem apd {p:Prop} [Decidable p] (h:p):dA (decide p)=false:=by simp[dA,h]
theorem cC (n:Nat):ai 0 n n=some ():=by simp[ai]
theorem jJ {α:Type} (xs:List α):dw xs (aa xs)=some xs:=by simp[dw,aa]
theorem fT {α:Type} (xs:List α):cr xs 0 (aa xs)=some xs:=by simp[cr,aa]
theorem CV {n by_:Nat} (h:n*by_<=eQ):rh (aS n) (aS n) by_=some n:=by simp[rh,aS,h]
theorem qE {i n:Nat} (h:i<n):fj (i:Int) n=some i:=by simp[fj];omega
theorem dk {n:Nat} (h:n<18446744073709551616):n<aC:=h
theorem drop_cons {α:Type} {xs:List α} {i:Nat} {x:α} (h:xs[i]? =some x):xs.drop i=x::xs.drop (i+1):=by
 obtain⟨h1,h2⟩:=List.getElem?_eq_some_iff.1 h
 rw[List.drop_eq_getElem_cons h1,h2]
end Go.Am
end
section
namespace Go.Am
theorem abM {X Y:Type} {f:X->Option (X⊕Y)} (st:Nat->X) {r:Y}:∀(n i:Nat),(∀j,i<=j->j<i+n->f (st j)=some (.inl (st (j+1))))->f (st (i+n))=some (.inr r)->∀N,n<N->bM N f (st i)=some r
 |0,i,_,h2,N+1,_=>by
  have h2:f (st i)=some (.inr r):=h2
  simp only[bM,h2]
 |n+1,i,h1,h2,N+1,hN=>by
  simp only[bM,h1 i (Nat.le_refl i) (by omega)]
  exact abM st n (i+1) (fun j h3 h4=>h1 j (by omega) (by omega)) (by rw[show i+1+n=i+(n+1) by omega];exact h2) N (by omega)
 |_,_,_,_,0,h=>by omega
theorem eH {X Y:Type} {f:X->Option (X⊕Y)} (st:Nat->X) {r:Y} (n:Nat) (h1:∀j,j<n->f (st j)=some (.inl (st (j+1)))) (h2:f (st n)=some (.inr r)) {x0:X} (h0:x0=st 0) {N:Nat} (hN:n<N):bM N f x0=some r:=by
 subst h0
 exact abM st n 0 (fun j _ h=>h1 j (by omega)) (by rw[Nat.zero_add];exact h2) N hN
theorem abK {X Y α:Type} {f:X->Option (X⊕Y)} (es:List α) (mk:Nat->X) (p:α->Bool) (rO eD:Y)
  (h1:∀i a,es[i]? =some a->p a=true->f (mk i)=some (.inl (mk (i+1)))) (h2:∀i a,es[i]? =some a->p a=false->f (mk i)=some (.inr rO)) (h3:f (mk es.length)=some (.inr eD)) {x0:X} (h0:x0=mk 0) {N:Nat} (hN:es.length<N):
  bM N f x0=some (if es.all p=true then eD else rO):=by
 subst h0
 have bZ:∀(k:Nat) (i:Nat),i+k=es.length->∀N,k<N->bM N f (mk i)=some (if(es.drop i).all p=true then eD else rO):=by
  intro k
  induction k with
  |zero=>
   intro i hi N hN
   obtain⟨N,rfl⟩:∃M,N=M+1:=⟨N - 1,by omega⟩
   have:i=es.length:=by omega
   subst this
   simp only[bM,h3,List.drop_length,List.all_nil,if_true]
  |succ k ih=>
   intro i hi N hN
   obtain⟨N,rfl⟩:∃M,N=M+1:=⟨N - 1,by omega⟩
   obtain⟨a,ha⟩:∃a,es[i]? =some a:=⟨_,List.getElem?_eq_getElem (by omega)⟩
   rw[drop_cons ha]
   cases hp:p a with
   |true=>
    simp only[bM,h1 i a ha hp,List.all_cons,hp,Bool.true_and]
    exact ih (i+1) (by omega) N (by omega)
   |false=>simp only[bM,h2 i a ha hp,List.all_cons,hp,Bool.false_and,Bool.false_eq_true,if_false]
 exact bZ es.length 0 (by omega) N hN
def fN {S α:Type} (step:Nat->S->α->Option S):Nat->S->List α->Option S
 |_,s,[]=>some s
 |i,s,a::as=>match step i s a with
  |some s'=>fN step (i+1) s' as
  |none=>none
theorem abL {X Y α S:Type} {f:X->Option (X⊕Y)} (es:List α) (mk:S->Nat->X) (I:Nat->S->Prop) (step:Nat->S->α->Option S) (rO:Y) (eD:S->Y)
  (h1:∀i s a s',es[i]? =some a->I i s->step i s a=some s'->f (mk s i)=some (.inl (mk s' (i+1)))/\I (i+1) s')
  (h2:∀i s a,es[i]? =some a->I i s->step i s a=none->f (mk s i)=some (.inr rO))
  (h3:∀s,I es.length s->f (mk s es.length)=some (.inr (eD s))) {s:S} (h0:I 0 s) {x0:X} (hx:x0=mk s 0) {N:Nat} (hN:es.length<N):
  bM N f x0=some (match fN step 0 s es with|some s'=>eD s'|none=>rO):=by
 subst hx
 have bZ:∀(k:Nat) (i:Nat) (s:S),I i s->i+k=es.length->∀N,k<N->bM N f (mk s i)=some (match fN step i s (es.drop i) with|some s'=>eD s'|none=>rO):=by
  intro k
  induction k with
  |zero=>
   intro i s hs hi N hN
   obtain⟨N,rfl⟩:∃M,N=M+1:=⟨N - 1,by omega⟩
   have:i=es.length:=by omega
   subst this
   simp only[bM,h3 s hs,List.drop_length,fN]
  |succ k ih=>
   intro i s hs hi N hN
   obtain⟨N,rfl⟩:∃M,N=M+1:=⟨N - 1,by omega⟩
   obtain⟨a,ha⟩:∃a,es[i]? =some a:=⟨_,List.getElem?_eq_getElem (by omega)⟩
   rw[drop_cons ha]
   cases hp:step i s a with
   |some s'=>
    obtain⟨h4,h5⟩:=h1 i s a s' ha hs hp
    simp only[bM,h4,fN,hp]
    exact ih (i+1) s' h5 (by omega) N (by omega)
   |none=>simp only[bM,h2 i s a ha hs hp,fN,hp]
 exact bZ es.length 0 s h0 (by omega) N hN
def BV {S α:Type} (step:Nat->S->α->S):Nat->S->List α->S
 |_,s,[]=>s
 |i,s,a::as=>BV step (i+1) (step i s a) as
theorem vt {α:Type} {es:List α} {i:Nat} {a:α} (h:es[i]? =some a):bG (i:Int) (aS (aa es))=true:=by
 have:=(List.getElem?_eq_some_iff.1 h).1
 exact df (by have:=nl es;omega)
theorem xv {α:Type} (es:List α):bG ((es.length:Nat):Int) (aS (aa es))=false:=cN (by have:=nl es;omega)
theorem C0 {α:Type} {es:List α} {i:Nat} {a:α} (h:es[i]? =some a) (hl:es.length<=9223372036854775807):bA .i64 (i:Int) 1=((i+1:Nat):Int):=by
 have:=(List.getElem?_eq_some_iff.1 h).1
 rw[gw (by omega) (by omega)];omega
theorem CS {α:Type} {es:List α} {i:Nat} {a:α} (h:es[i]? =some a):i<es.length:=(List.getElem?_eq_some_iff.1 h).1
theorem Xn (n:Int) (atx:0<=n) (aty:n<2^63):IntKind.i64.wrap n=n:=by rw[IntKind.wrap_i64];omega
theorem afd {a b:Nat} (ha:a<2^63) (hb:b<2^63):qy .i64 (a:Int) (b:Int)=((a&&&b:Nat):Int):=(bits_nat .i64 63 (by decide) Xn a b ha hb).1
theorem arU {a k:Nat} (ha:a<2^63):t7 .i64 (a:Int) (k:Int)=some ((a>>>k:Nat):Int):=by
 unfold t7
 rw[if_neg (by omega)]
 congr 1
 rw[Int.toNat_natCast,Nat.shiftRight_eq_div_pow]
 by_cases h:k<=64
 ·rw[show min k (IntKind.bits .i64)=k from Nat.min_eq_left h]
  norm_cast
 ·rw[show min k (IntKind.bits .i64)=64 from Nat.min_eq_right (show 64<=k by omega)]
  have h1:a/2^k=0:=Nat.div_eq_of_lt (Nat.lt_of_lt_of_le ha (Nat.pow_le_pow_right (by decide) (by omega)))
  rw[h1]
  omega
theorem arT {k:Nat} (hk:k<63):Ar .i64 1 (k:Int)=some ((2^k:Nat):Int):=by
 unfold Ar
 rw[if_neg (by omega)]
 congr 1
 rw[Int.toNat_natCast,show min k (IntKind.bits .i64)=k from Nat.min_eq_left (by simp[IntKind.bits];omega),Int.one_mul]
 have:(2:Int)^k=((2^k:Nat):Int):=by norm_cast
 rw[this]
 refine Xn _ (Int.natCast_nonneg _) ?_
 have:=Nat.pow_lt_pow_right (a:=2) (by decide) hk
 exact_mod_cast this
theorem fu {z:Int} (h:0<=z):∃n:Nat,z=(n:Int):=⟨z.toNat,by omega⟩
end Go.Am
end
section
namespace Go.Am
theorem CP {α:Type} (l r:List α):aa (eY l r)=bj (aa l) (aa r):=by simp[aa,eY,bj]
theorem abB {α:Type} (n:Nat) (x:α):aa (eU n x)=n:=by simp[aa,eU]
theorem ti {n k:Nat} (h:n*k<=eQ):lH n k=some ():=if_pos h
theorem hZ (k:Nat):bj 0 k=k:=by simp[bj]
theorem Ma {α:Type} (x:α):cr [x] 0 1=some [x]:=rfl
theorem ao2 (a b:Int):gC a b= !decide (a=b):=by by_cases h:a=b<;>simp[gC,h]
theorem abA {n:Nat}:∀{l:List Nat},n∈l->n<=l.sum
 |[],h=>by cases h
 |a::l,h=>by
  rw[List.sum_cons]
  rcases List.mem_cons.1 h with rfl|h
  ·omega
  ·have:=abA h;omega
def kOk (k:Int):Prop:=0<=k/\k<=1048576
instance (k:Int):Decidable (kOk k):=inferInstanceAs (Decidable (0<=k/\k<=1048576))
end Go.Am
end
section
namespace Go.Am
theorem aeR {α:Type} {xs:List α} {n:Nat} (h:xs.length=n):cr xs 0 n=some xs:=by subst h;exact fT xs
theorem An {a b:Nat} (h:a=b):qm a b=some ():=if_pos h
theorem yW {n m:Nat} (h:n=m):ai 0 n m=some ():=by subst h;exact cC n
theorem aiE {α:Type} {l:List α} {i:Nat} {a b:α} (h:l[i]? =some a):(l.set i b)[i]? =some b:=List.getElem?_set_self (CS h)
theorem aac {α:Type} {l:List α} {i:Nat} {a b:α} (h:l[i]? =some a):dt (bR l i b) i=some b:=aiE h
theorem arN {α:Type} (l:List α) (i:Nat) (a b:α):bR (bR l i a) i b=bR l i b:=by simp[bR,List.set_set]
end Go.Am
end
