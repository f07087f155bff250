/- MB, B0, B1, B2: parts of the proof. No condition. -/
import Derived.Test.YtifmggmhdcdgbaaS7
import Derived.Laws.BitsLemmas
set_option linter.unusedVariables false
set_option linter.unusedSimpArgs false
section
namespace Go.Am
theorem Xx {X Y:Type} {f:X->Option (X⊕Y)} {r:Y} (P:Nat->X->Prop) (step:∀n x,P n x->f x=some (.inr r)\/∃m x',m<n/\f x=some (.inl x')/\P m x'):
  ∀n x,P n x->∀N,n<N->bQ N f x=some r:=by
 intro n
 induction n using Nat.strongRecOn with
 |ind n ih=>
  intro x hP N hN
  cases N with
  |zero=>omega
  |succ N=>
   rcases step n x hP with h|⟨m,x',hm,h,hP'⟩
   ·simp only[bQ,h]
   ·simp only[bQ,h]
    exact ih m hm x' hP' N (by omega)
theorem kl {α:Type} (xs:List α) (i:Nat):ji xs (i:Int)=xs[i]? :=by simp[ji]
theorem BG {n:Int} (h1: -9223372036854775808<=n) (h2:n<=9223372036854775807):IntKind.wrap .i64 n=n:=by rw[IntKind.wrap_i64];omega
theorem lF {a b:Int} (h1: -9223372036854775808<=a+b) (h2:a+b<=9223372036854775807):bS .i64 a b=a+b:=BG h1 h2
theorem Ef {a b:Int} (h1: -9223372036854775808<=a - b) (h2:a - b<=9223372036854775807):wk .i64 a b=a - b:=BG h1 h2
theorem az {α β:Type} (x:α) (f:α->Option β):(some x).ab f=f x:=rfl
theorem eH {X ρ:Type} (x:X) (k:X->Option ρ):cT (some (.inl x)) k=k x:=rfl
theorem Nn {X ρ:Type} (x:ρ) (k:X->Option ρ):cT (some (.inr x):Option (X⊕ρ)) k=some x:=rfl
theorem bH {α:Type} {b:Bool} (h:b=true) (x y:α):aY b x y=x:=by rw[h];rfl
theorem bG {α:Type} {b:Bool} (h:b=false) (x y:α):aY b x y=y:=by rw[h];rfl
theorem nl {α:Type} (l:List α):bj (aa l)=(l.length:Int):=rfl
theorem eV {a b:Int} (h:a<b):cr a b=true:=decide_eq_true h
theorem eU {a b:Int} (h:b<=a):cr a b=false:=decide_eq_false (Int.not_lt.2 h)
theorem Dn {a b:Int} (h:a<=b):tS a b=true:=decide_eq_true h
theorem HN {a b:Int} (h:b<a):tS a b=false:=decide_eq_false (Int.not_le.2 h)
theorem Cg {a b:Int} (h:a=b):fU a b=true:=by simp[fU,h]
theorem Cf {a b:Int} (h:a≠b):fU a b=false:=by simp[fU,h]
theorem AQ {a b:Int} (h:a≠b):lA a b=true:=by simp[lA,h]
theorem yk {a b:Int} (h:a=b):lA a b=false:=by simp[lA,h]
theorem cm (n:Nat):af 0 n n=some ():=by simp[af]
theorem kG {α:Type} (xs:List α):dc xs (aa xs)=some xs:=by simp[dc,aa]
theorem iv {α:Type} (xs:List α):cv xs 0 (aa xs)=some xs:=by simp[cv,aa]
theorem agD {n by_:Nat} (h:n*by_<=eK):tU (bj n) (bj n) by_=some n:=by simp[tU,bj,h]
theorem wV {i n:Nat} (h:i<n):jH (i:Int) n=some i:=by simp[jH];omega
theorem dQ {n:Nat} (h:n<18446744073709551616):n<aN:=h
theorem drop_cons {α:Type} {xs:List α} {i:Nat} {x:α} (h:xs[i]? =some x):xs.drop i=x::xs.drop (i+1):=by
 obtain⟨h1,h2⟩:=List.getElem?_eq_some_iff.1 h
 rw[List.drop_eq_getElem_cons h1,h2]
end Go.Am
end
section
namespace Go.Am
theorem Xw {X Y:Type} {f:X->Option (X⊕Y)} (st:Nat->X) {r:Y}:∀(n i:Nat),(∀j,i<=j->j<i+n->f (st j)=some (.inl (st (j+1))))->f (st (i+n))=some (.inr r)->∀N,n<N->bQ N f (st i)=some r
 |0,i,_,h2,N+1,_=>by
  have h2:f (st i)=some (.inr r):=h2
  simp only[bQ,h2]
 |n+1,i,h1,h2,N+1,hN=>by
  simp only[bQ,h1 i (Nat.le_refl i) (by omega)]
  exact Xw st n (i+1) (fun j h3 h4=>h1 j (by omega) (by omega)) (by rw[show i+1+n=i+(n+1) by omega];exact h2) N (by omega)
 |_,_,_,_,0,h=>by omega
theorem gM {X Y:Type} {f:X->Option (X⊕Y)} (st:Nat->X) {r:Y} (n:Nat) (h1:∀j,j<n->f (st j)=some (.inl (st (j+1)))) (h2:f (st n)=some (.inr r)) {x0:X} (h0:x0=st 0) {N:Nat} (hN:n<N):bQ N f x0=some r:=by
 subst h0
 exact Xw st n 0 (fun j _ h=>h1 j (by omega)) (by rw[Nat.zero_add];exact h2) N hN
theorem Ol {X Y α:Type} {f:X->Option (X⊕Y)} (es:List α) (mk:Nat->X) (p:α->Bool) (wU ek:Y)
  (h1:∀i a,es[i]? =some a->p a=true->f (mk i)=some (.inl (mk (i+1)))) (h2:∀i a,es[i]? =some a->p a=false->f (mk i)=some (.inr wU)) (h3:f (mk es.length)=some (.inr ek)) {x0:X} (h0:x0=mk 0) {N:Nat} (hN:es.length<N):
  bQ N f x0=some (if es.all p=true then ek else wU):=by
 subst h0
 have cu:∀(k:Nat) (i:Nat),i+k=es.length->∀N,k<N->bQ N f (mk i)=some (if(es.drop i).all p=true then ek else wU):=by
  intro k
  induction k with
  |zero=>
   intro i hi N hN
   obtain⟨N,rfl⟩:∃M,N=M+1:=⟨N - 1,by omega⟩
   have:i=es.length:=by omega
   subst this
   simp only[bQ,h3,List.drop_length,List.all_nil,if_true]
  |succ k ih=>
   intro i hi N hN
   obtain⟨N,rfl⟩:∃M,N=M+1:=⟨N - 1,by omega⟩
   obtain⟨a,ha⟩:∃a,es[i]? =some a:=⟨_,List.getElem?_eq_getElem (by omega)⟩
   rw[drop_cons ha]
   cases hp:p a with
   |true=>
    simp only[bQ,h1 i a ha hp,List.all_cons,hp,Bool.true_and]
    exact ih (i+1) (by omega) N (by omega)
   |false=>simp only[bQ,h2 i a ha hp,List.all_cons,hp,Bool.false_and,Bool.false_eq_true,if_false]
 exact cu es.length 0 (by omega) N hN
def xl {S α:Type} (step:Nat->S->α->S):Nat->S->List α->S
 |_,s,[]=>s
 |i,s,a::as=>xl step (i+1) (step i s a) as
theorem agx {X Y α S:Type} {f:X->Option (X⊕Y)} (es:List α) (mk:S->Nat->X) (I:Nat->S->Prop) (step:Nat->S->α->S) (ek:S->Y)
  (h1:∀i s a,es[i]? =some a->I i s->f (mk s i)=some (.inl (mk (step i s a) (i+1)))/\I (i+1) (step i s a))
  (h3:∀s,I es.length s->f (mk s es.length)=some (.inr (ek s))) {s:S} (h0:I 0 s) {x0:X} (hx:x0=mk s 0) {N:Nat} (hN:es.length<N):
  bQ N f x0=some (ek (xl step 0 s es)):=by
 subst hx
 have cu:∀(k:Nat) (i:Nat) (s:S),I i s->i+k=es.length->∀N,k<N->bQ N f (mk s i)=some (ek (xl step i s (es.drop i))):=by
  intro k
  induction k with
  |zero=>
   intro i s hs hi N hN
   obtain⟨N,rfl⟩:∃M,N=M+1:=⟨N - 1,by omega⟩
   have:i=es.length:=by omega
   subst this
   simp only[bQ,h3 s hs,List.drop_length,xl]
  |succ k ih=>
   intro i s hs hi N hN
   obtain⟨N,rfl⟩:∃M,N=M+1:=⟨N - 1,by omega⟩
   obtain⟨a,ha⟩:∃a,es[i]? =some a:=⟨_,List.getElem?_eq_getElem (by omega)⟩
   rw[drop_cons ha]
   obtain⟨h4,h5⟩:=h1 i s a ha hs
   simp only[bQ,h4,xl]
   exact ih (i+1) _ h5 (by omega) N (by omega)
 exact cu es.length 0 s h0 (by omega) N hN
theorem ye {α:Type} {es:List α} {i:Nat} {a:α} (h:es[i]? =some a):cr (i:Int) (bj (aa es))=true:=by
 have:=(List.getElem?_eq_some_iff.1 h).1
 exact eV (by have:=nl es;omega)
theorem HO {α:Type} (es:List α):cr ((es.length:Nat):Int) (bj (aa es))=false:=eU (by have:=nl es;omega)
theorem Dw {α:Type} {es:List α} {i:Nat} {a:α} (h:es[i]? =some a) (hl:es.length<=9223372036854775807):bS .i64 (i:Int) 1=((i+1:Nat):Int):=by
 have:=(List.getElem?_eq_some_iff.1 h).1
 rw[lF (by omega) (by omega)];omega
theorem Xz {α:Type} {es:List α} {i:Nat} {a:α} (h:es[i]? =some a):i<es.length:=(List.getElem?_eq_some_iff.1 h).1
theorem Z8 (n:Int) (alB:0<=n) (alC:n<2^63):IntKind.i64.wrap n=n:=by rw[IntKind.wrap_i64];omega
theorem aam {a b:Nat} (ha:a<2^63) (hb:b<2^63):oT .i64 (a:Int) (b:Int)=((a&&&b:Nat):Int):=(bits_nat .i64 63 (by decide) Z8 a b ha hb).1
theorem aj3 {a k:Nat} (ha:a<2^63):sE .i64 (a:Int) (k:Int)=some ((a>>>k:Nat):Int):=by
 unfold sE
 rw[if_neg (by omega)]
 congr 1
 rw[Int.toNat_natCast,Nat.shiftRight_eq_div_pow]
 by_cases h:k<=64
 ·rw[show min k (IntKind.bits .i64)=k from Nat.min_eq_left h]
  norm_cast
 ·rw[show min k (IntKind.bits .i64)=64 from Nat.min_eq_right (show 64<=k by omega)]
  have h1:a/2^k=0:=Nat.div_eq_of_lt (Nat.lt_of_lt_of_le ha (Nat.pow_le_pow_right (by decide) (by omega)))
  rw[h1]
  omega
theorem fz {z:Int} (h:0<=z):∃n:Nat,z=(n:Int):=⟨z.toNat,by omega⟩
end Go.Am
end
section
namespace Go.Am
theorem agt {α:Type} (l r:List α):aa (dg l r)=bF (aa l) (aa r):=by simp[aa,dg,bF]
theorem nZ {n k:Nat} (h:n*k<=eK):lK n k=some ():=if_pos h
theorem y9 (k:Nat):bF 0 k=k:=by simp[bF]
theorem Xm {n:Nat}:∀{l:List Nat},n∈l->n<=l.sum
 |[],h=>by cases h
 |a::l,h=>by
  rw[List.sum_cons]
  rcases List.mem_cons.1 h with rfl|h
  ·omega
  ·have:=Xm h;omega
def kOk (k:Int):Prop:=0<=k/\k<=1048576
instance (k:Int):Decidable (kOk k):=inferInstanceAs (Decidable (0<=k/\k<=1048576))
end Go.Am
end
section
namespace Go.Am
theorem Jj {α:Type} {xs:List α} {n:Nat} (h:xs.length=n):cv xs 0 n=some xs:=by subst h;exact iv xs
theorem ajH {a b:Nat} (h:a=b):yy a b=some ():=if_pos h
theorem tf {n m:Nat} (h:n=m):af 0 n m=some ():=by subst h;exact cm n
end Go.Am
end
