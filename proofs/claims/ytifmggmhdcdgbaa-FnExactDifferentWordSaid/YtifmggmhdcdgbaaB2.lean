/- MB, B0, B1, B2: parts of the proof. No condition. -/
import Derived.Test.YtifmggmhdcdgbaaS7
import Derived.Laws.BitsLemmas
set_option linter.unusedVariables false
set_option linter.unusedSimpArgs false
section
namespace Go.Am
theorem Jz {X Y:Type} {f:X->Option (X⊕Y)} {r:Y} (P:Nat->X->Prop) (step:∀n x,P n x->f x=some (.inr r)\/∃m x',m<n/\f x=some (.inl x')/\P m x'):
  ∀n x,P n x->∀N,n<N->bd N f x=some r:=by
 intro n
 induction n using Nat.strongRecOn with
 |ind n ih=>
  intro x hP N hN
  cases N with
  |zero=>omega
  |succ N=>
   rcases step n x hP with h|⟨m,x',hm,h,hP'⟩
   ·simp only[bd,h]
   ·simp only[bd,h]
    exact ih m hm x' hP' N (by omega)
theorem eD {α:Type} (xs:List α) (i:Nat):dk xs (i:Int)=xs[i]? :=by simp[dk]
theorem ze {n:Int} (h1: -9223372036854775808<=n) (h2:n<=9223372036854775807):IntKind.wrap .i64 n=n:=by rw[IntKind.wrap_i64];omega
theorem j3 {a b:Int} (h1: -9223372036854775808<=a+b) (h2:a+b<=9223372036854775807):aW .i64 a b=a+b:=ze h1 h2
theorem oY {a b:Int} (h1: -9223372036854775808<=a - b) (h2:a - b<=9223372036854775807):jR .i64 a b=a - b:=ze h1 h2
theorem aj {α β:Type} (x:α) (f:α->Option β):(some x).U f=f x:=rfl
theorem cO {X ρ:Type} (x:X) (k:X->Option ρ):bL (some (.inl x)) k=k x:=rfl
theorem DS {X ρ:Type} (x:ρ) (k:X->Option ρ):bL (some (.inr x):Option (X⊕ρ)) k=some x:=rfl
theorem aT {α:Type} {b:Bool} (h:b=true) (x y:α):aw b x y=x:=by rw[h];rfl
theorem aS {α:Type} {b:Bool} (h:b=false) (x y:α):aw b x y=y:=by rw[h];rfl
theorem nl {α:Type} (l:List α):aM (J l)=(l.length:Int):=rfl
theorem f0 {a b:Int} (h:a<b):bi a b=true:=decide_eq_true h
theorem eN {a b:Int} (h:b<=a):bi a b=false:=decide_eq_false (Int.not_lt.2 h)
theorem uk {a b:Int} (h:a<=b):pR a b=true:=decide_eq_true h
theorem D9 {a b:Int} (h:b<a):pR a b=false:=decide_eq_false (Int.not_le.2 h)
theorem xG {a b:Int} (h:a=b):fS a b=true:=by simp[fS,h]
theorem xF {a b:Int} (h:a≠b):fS a b=false:=by simp[fS,h]
theorem nL {a b:Int} (h:a≠b):dd a b=true:=by simp[dd,h]
theorem lf {a b:Int} (h:a=b):dd a b=false:=by simp[dd,h]
theorem Bm {p:Prop} [Decidable p] (h:¬p):dY (decide p)=true:=by simp[dY,h]
theorem Bn {p:Prop} [Decidable p] (h:p):dY (decide p)=false:=by simp[dY,h]
theorem bK (n:Nat):ab 0 n n=some ():=by simp[ab]
theorem gV {α:Type} (xs:List α):cP xs (J xs)=some xs:=by simp[cP,J]
theorem kE {α:Type} (xs:List α):bG xs 0 (J xs)=some xs:=by simp[bG,J]
theorem PV {n by_:Nat} (h:n*by_<=dA):wz (aM n) (aM n) by_=some n:=by simp[wz,aM,h]
theorem Cx {i n:Nat} (h:i<n):dU (i:Int) n=some i:=by simp[dU];omega
theorem cG {n:Nat} (h:n<18446744073709551616):n<aD:=h
theorem drop_cons {α:Type} {xs:List α} {i:Nat} {x:α} (h:xs[i]? =some x):xs.drop i=x::xs.drop (i+1):=by
 obtain⟨h1,h2⟩:=List.getElem?_eq_some_iff.1 h
 rw[List.drop_eq_getElem_cons h1,h2]
end Go.Am
end
section
namespace Go.Am
theorem Zq {X Y:Type} {f:X->Option (X⊕Y)} (st:Nat->X) {r:Y}:∀(n i:Nat),(∀j,i<=j->j<i+n->f (st j)=some (.inl (st (j+1))))->f (st (i+n))=some (.inr r)->∀N,n<N->bd N f (st i)=some r
 |0,i,_,h2,N+1,_=>by
  have h2:f (st i)=some (.inr r):=h2
  simp only[bd,h2]
 |n+1,i,h1,h2,N+1,hN=>by
  simp only[bd,h1 i (Nat.le_refl i) (by omega)]
  exact Zq st n (i+1) (fun j h3 h4=>h1 j (by omega) (by omega)) (by rw[show i+1+n=i+(n+1) by omega];exact h2) N (by omega)
 |_,_,_,_,0,h=>by omega
theorem ew {X Y:Type} {f:X->Option (X⊕Y)} (st:Nat->X) {r:Y} (n:Nat) (h1:∀j,j<n->f (st j)=some (.inl (st (j+1)))) (h2:f (st n)=some (.inr r)) {x0:X} (h0:x0=st 0) {N:Nat} (hN:n<N):bd N f x0=some r:=by
 subst h0
 exact Zq st n 0 (fun j _ h=>h1 j (by omega)) (by rw[Nat.zero_add];exact h2) N hN
theorem Bf {X Y α:Type} {f:X->Option (X⊕Y)} (es:List α) (mk:Nat->X) (p:α->Bool) (qt dF:Y)
  (h1:∀i a,es[i]? =some a->p a=true->f (mk i)=some (.inl (mk (i+1)))) (h2:∀i a,es[i]? =some a->p a=false->f (mk i)=some (.inr qt)) (h3:f (mk es.length)=some (.inr dF)) {x0:X} (h0:x0=mk 0) {N:Nat} (hN:es.length<N):
  bd N f x0=some (if es.all p=true then dF else qt):=by
 subst h0
 have cq:∀(k:Nat) (i:Nat),i+k=es.length->∀N,k<N->bd N f (mk i)=some (if(es.drop i).all p=true then dF else qt):=by
  intro k
  induction k with
  |zero=>
   intro i hi N hN
   obtain⟨N,rfl⟩:∃M,N=M+1:=⟨N - 1,by omega⟩
   have:i=es.length:=by omega
   subst this
   simp only[bd,h3,List.drop_length,List.all_nil,if_true]
  |succ k ih=>
   intro i hi N hN
   obtain⟨N,rfl⟩:∃M,N=M+1:=⟨N - 1,by omega⟩
   obtain⟨a,ha⟩:∃a,es[i]? =some a:=⟨_,List.getElem?_eq_getElem (by omega)⟩
   rw[drop_cons ha]
   cases hp:p a with
   |true=>
    simp only[bd,h1 i a ha hp,List.all_cons,hp,Bool.true_and]
    exact ih (i+1) (by omega) N (by omega)
   |false=>simp only[bd,h2 i a ha hp,List.all_cons,hp,Bool.false_and,Bool.false_eq_true,if_false]
 exact cq es.length 0 (by omega) N hN
def oh {S α:Type} (step:Nat->S->α->Option S):Nat->S->List α->Option S
 |_,s,[]=>some s
 |i,s,a::as=>match step i s a with
  |some s'=>oh step (i+1) s' as
  |none=>none
theorem Zp {X Y α S:Type} {f:X->Option (X⊕Y)} (es:List α) (mk:S->Nat->X) (I:Nat->S->Prop) (step:Nat->S->α->Option S) (qt:Y) (dF:S->Y)
  (h1:∀i s a s',es[i]? =some a->I i s->step i s a=some s'->f (mk s i)=some (.inl (mk s' (i+1)))/\I (i+1) s')
  (h2:∀i s a,es[i]? =some a->I i s->step i s a=none->f (mk s i)=some (.inr qt))
  (h3:∀s,I es.length s->f (mk s es.length)=some (.inr (dF s))) {s:S} (h0:I 0 s) {x0:X} (hx:x0=mk s 0) {N:Nat} (hN:es.length<N):
  bd N f x0=some (match oh step 0 s es with|some s'=>dF s'|none=>qt):=by
 subst hx
 have cq:∀(k:Nat) (i:Nat) (s:S),I i s->i+k=es.length->∀N,k<N->bd N f (mk s i)=some (match oh step i s (es.drop i) with|some s'=>dF s'|none=>qt):=by
  intro k
  induction k with
  |zero=>
   intro i s hs hi N hN
   obtain⟨N,rfl⟩:∃M,N=M+1:=⟨N - 1,by omega⟩
   have:i=es.length:=by omega
   subst this
   simp only[bd,h3 s hs,List.drop_length,oh]
  |succ k ih=>
   intro i s hs hi N hN
   obtain⟨N,rfl⟩:∃M,N=M+1:=⟨N - 1,by omega⟩
   obtain⟨a,ha⟩:∃a,es[i]? =some a:=⟨_,List.getElem?_eq_getElem (by omega)⟩
   rw[drop_cons ha]
   cases hp:step i s a with
   |some s'=>
    obtain⟨h4,h5⟩:=h1 i s a s' ha hs hp
    simp only[bd,h4,oh,hp]
    exact ih (i+1) s' h5 (by omega) N (by omega)
   |none=>simp only[bd,h2 i s a ha hs hp,oh,hp]
 exact cq es.length 0 s h0 (by omega) N hN
def xP {S α:Type} (step:Nat->S->α->S):Nat->S->List α->S
 |_,s,[]=>s
 |i,s,a::as=>xP step (i+1) (step i s a) as
theorem Zo {X Y α S:Type} {f:X->Option (X⊕Y)} (es:List α) (mk:S->Nat->X) (I:Nat->S->Prop) (step:Nat->S->α->S) (dF:S->Y)
  (h1:∀i s a,es[i]? =some a->I i s->f (mk s i)=some (.inl (mk (step i s a) (i+1)))/\I (i+1) (step i s a))
  (h3:∀s,I es.length s->f (mk s es.length)=some (.inr (dF s))) {s:S} (h0:I 0 s) {x0:X} (hx:x0=mk s 0) {N:Nat} (hN:es.length<N):
  bd N f x0=some (dF (xP step 0 s es)):=by
 subst hx
 have cq:∀(k:Nat) (i:Nat) (s:S),I i s->i+k=es.length->∀N,k<N->bd N f (mk s i)=some (dF (xP step i s (es.drop i))):=by
  intro k
  induction k with
  |zero=>
   intro i s hs hi N hN
   obtain⟨N,rfl⟩:∃M,N=M+1:=⟨N - 1,by omega⟩
   have:i=es.length:=by omega
   subst this
   simp only[bd,h3 s hs,List.drop_length,xP]
  |succ k ih=>
   intro i s hs hi N hN
   obtain⟨N,rfl⟩:∃M,N=M+1:=⟨N - 1,by omega⟩
   obtain⟨a,ha⟩:∃a,es[i]? =some a:=⟨_,List.getElem?_eq_getElem (by omega)⟩
   rw[drop_cons ha]
   obtain⟨h4,h5⟩:=h1 i s a ha hs
   simp only[bd,h4,xP]
   exact ih (i+1) _ h5 (by omega) N (by omega)
 exact cq es.length 0 s h0 (by omega) N hN
theorem gk {α:Type} {es:List α} {i:Nat} {a:α} (h:es[i]? =some a):bi (i:Int) (aM (J es))=true:=by
 have:=(List.getElem?_eq_some_iff.1 h).1
 exact f0 (by have:=nl es;omega)
theorem mR {α:Type} (es:List α):bi ((es.length:Nat):Int) (aM (J es))=false:=eN (by have:=nl es;omega)
theorem lk {α:Type} {es:List α} {i:Nat} {a:α} (h:es[i]? =some a) (hl:es.length<=9223372036854775807):aW .i64 (i:Int) 1=((i+1:Nat):Int):=by
 have:=(List.getElem?_eq_some_iff.1 h).1
 rw[j3 (by omega) (by omega)];omega
theorem Zr {α:Type} {es:List α} {i:Nat} {a:α} (h:es[i]? =some a):i<es.length:=(List.getElem?_eq_some_iff.1 h).1
theorem aoz (n:Int) (aoP:0<=n) (aoQ:n<2^63):IntKind.i64.wrap n=n:=by rw[IntKind.wrap_i64];omega
theorem acf {a b:Nat} (ha:a<2^63) (hb:b<2^63):GN .i64 (a:Int) (b:Int)=((a&&&b:Nat):Int):=(bits_nat .i64 63 (by decide) aoz a b ha hb).1
theorem anA {a k:Nat} (ha:a<2^63):BO .i64 (a:Int) (k:Int)=some ((a>>>k:Nat):Int):=by
 unfold BO
 rw[if_neg (by omega)]
 congr 1
 rw[Int.toNat_natCast,Nat.shiftRight_eq_div_pow]
 by_cases h:k<=64
 ·rw[show min k (IntKind.bits .i64)=k from Nat.min_eq_left h]
  norm_cast
 ·rw[show min k (IntKind.bits .i64)=64 from Nat.min_eq_right (show 64<=k by omega)]
  have h1:a/2^k=0:=Nat.div_eq_of_lt (Nat.lt_of_lt_of_le ha (Nat.pow_le_pow_right (by decide) (by omega)))
  rw[h1]
  omega
theorem iV {z:Int} (h:0<=z):∃n:Nat,z=(n:Int):=⟨z.toNat,by omega⟩
end Go.Am
end
section
namespace Go.Am
theorem Ea {α:Type} (l:List α) (k:Nat) (x:α):J (cb l k x)=J l:=by simp[J,cb]
theorem Zc {α:Type} (l r:List α):J (bY l r)=aH (J l) (J r):=by simp[J,bY,aH]
theorem Zd {α:Type} (n:Nat) (x:α):J (iD n x)=n:=by simp[J,iD]
theorem j8 {n k:Nat} (h:n*k<=dA):iL n k=some ():=if_pos h
theorem lx (k:Nat):aH 0 k=k:=by simp[aH]
theorem G6 {α:Type} {l:List α} {i:Nat} {a:α} (h:l[i]? =some a):dU (i:Int) (J l)=some i:=Cx (Zr h)
theorem ZM (a b:Int):dd a b= !decide (a=b):=by by_cases h:a=b<;>simp[dd,h]
theorem Zb {n:Nat}:∀{l:List Nat},n∈l->n<=l.sum
 |[],h=>by cases h
 |a::l,h=>by
  rw[List.sum_cons]
  rcases List.mem_cons.1 h with rfl|h
  ·omega
  ·have:=Zb h;omega
def fF (s:Nat) (k:Int):Int:=if(s:Int)<=k then k - s else -1
theorem Ul {s:Nat} {k:Int} (h:(s:Int)<=k):fF s k=k - s:=if_pos h
theorem E5 {s:Nat} {k:Int} (h:¬(s:Int)<=k):fF s k= -1:=if_neg h
def v7 (k:Int):Prop:=0<=k/\k<=1048576
instance (k:Int):Decidable (v7 k):=inferInstanceAs (Decidable (0<=k/\k<=1048576))
theorem Ky {o:Option Int} {s:Nat} {k:Int} {f:Int->Option Int} (ho:o=some (fF s k)):o.U (fun i=>aw (bi i 0) (some (-1)) (f i))=if(s:Int)<=k then f (k - s) else some (-1):=by
 rw[ho,aj]
 unfold fF
 by_cases h:(s:Int)<=k
 ·rw[if_pos h,if_pos h,aS (eN (by omega))]
 ·rw[if_neg h,if_neg h,aT (f0 (by omega))]
theorem abJ {α:Type} (sz:α->Nat):∀(l:List α) (i:Nat) (k:Int),0<=k->(match oh (fun _ (k:Int) e=>if(sz e:Int)<=k then some (k - sz e) else none) i k l with|some k'=>k'|none=> -1)=fF (l.map sz).sum k
 |[],i,k,hk=>by simp[oh,fF,hk]
 |e::l,i,k,hk=>by
  rw[oh]
  by_cases h:(sz e:Int)<=k
  ·rw[if_pos h]
   simp only
   rw[abJ sz l (i+1) (k - sz e) (by omega)]
   simp only[fF,List.map_cons,List.sum_cons]
   by_cases h2:((l.map sz).sum:Int)<=k - sz e
   ·rw[if_pos h2,if_pos (by omega)];omega
   ·rw[if_neg h2,if_neg (by omega)]
  ·rw[if_neg h]
   simp only[fF,List.map_cons,List.sum_cons]
   rw[if_neg (by omega)]
theorem an3 {α:Type} (F:α×Int->Option Int) (sz:α->Nat) (l:List α) (hl:l.length<=9223372036854775807) (hF:∀e∈l,∀k,v7 k->F (e,k)=some (fF (sz e) k)) (k:Int) (hk:v7 k):
  aw (bi (jR .i64 k (aM (J l))) 0) (some (-1)) (bL (bd aD (fun(s:List α×Int×Int)=>aw (bi s.2.2 (aM (J s.1))) ((dk s.1 s.2.2).U fun e=>(F (e,s.2.1)).U fun i=>aw (bi i 0) (some (.inr (.inr (-1)))) (some (.inl (s.1,i,aW .i64 s.2.2 1)))) (some (.inr (.inl s.2.1)))) (l,jR .i64 k (aM (J l)),0)) (fun i=>some i))=some (fF (l.length+(l.map sz).sum) k):=by
 obtain⟨k0,k1⟩:=hk
 have hn:=nl l
 rw[oY (by omega) (by omega)]
 by_cases h:k<l.length
 ·rw[aT (f0 (by omega)),fF,if_neg (by omega)]
 rw[aS (eN (by omega))]
 rw[Zp l (fun(r:Int) i=>(l,r,(i:Int))) (fun _ r=>v7 r) (fun _ (k:Int) e=>if(sz e:Int)<=k then some (k - sz e) else none) (Sum.inr (-1)) (fun r=>Sum.inl r) ?_ ?_ ?_ (s:=k - aM (J l)) ⟨by omega,by omega⟩ ?_ (cG (by omega))]
 ·have:=abJ sz l 0 (k - aM (J l)) (by omega)
  have e:fF (l.length+(l.map sz).sum) k=fF (l.map sz).sum (k - aM (J l)):=by
   simp only[fF]
   by_cases h2:((l.map sz).sum:Int)<=k - aM (J l)
   ·rw[if_pos h2,if_pos (by omega)];omega
   ·rw[if_neg h2,if_neg (by omega)]
  rw[e,<-this]
  cases oh (fun _ (k:Int) e=>if(sz e:Int)<=k then some (k - sz e) else none) 0 (k - aM (J l)) l<;>rfl
 ·intro i r e r' ha hr hs
  split at hs
  ·rename_i fI
   injection hs with hs
   subst hs
   simp only
   rw[aT (gk ha),eD,ha,aj,hF e (List.mem_of_getElem? ha) r hr,aj,fF,if_pos fI,aS (eN (by omega)),lk ha (by omega)]
   exact⟨rfl,by have:=hr.1;have:=hr.2;constructor<;>omega⟩
  ·cases hs
 ·intro i r e ha hr hs
  split at hs
  ·cases hs
  ·rename_i fI
   simp only
   rw[aT (gk ha),eD,ha,aj,hF e (List.mem_of_getElem? ha) r hr,aj,fF,if_neg fI,aT (f0 (by omega))]
 ·intro r _
  simp only
  rw[aS (mR l)]
 ·rfl
def tx {α:Type} (z:α) (l:List α) (i:Nat):List α:=l.take i++List.replicate (l.length - i) z
theorem Wx {α Y:Type} {f:(List α×Int)×List α->Option (((List α×Int)×List α)⊕Y)} (l:List α) (z:α) {r:Y}
  (h1:∀(i:Nat) e ys,l[i]? =some e->ys.length=l.length->ys[i]? =some z->f ((l,(i:Int)),ys)=some (.inl ((l,((i+1:Nat):Int)),ys.set i e)))
  (h2:f ((l,(l.length:Int)),l)=some (.inr r)) (hl:l.length<18446744073709551616):bd aD f ((l,0),iD (J l) z)=some r:=by
 refine ew (fun i=>((l,(i:Int)),tx z l i)) l.length ?_ ?_ ?_ (cG hl)
 ·intro j hj
  obtain⟨e,he⟩:∃e,l[j]? =some e:=⟨_,List.getElem?_eq_getElem hj⟩
  rw[h1 j e _ he (by simp[tx];omega)]
  ·have:(tx z l j).set j e=tx z l (j+1):=by
    unfold tx
    rw[List.set_append_right _ _ (by simp;omega),List.take_add_one,he,show l.length - j=(l.length - (j+1))+1 by omega,List.replicate_succ]
    simp only[List.length_take,show j - min j l.length=0 by omega,List.set_cons_zero,Option.toList_some,List.append_assoc,List.cons_append,List.nil_append]
   rw[this]
  ·unfold tx
   rw[List.getElem?_append_right (by simp;omega)]
   simp only[List.length_take,show j - min j l.length=0 by omega]
   rw[List.getElem?_replicate,if_pos (by omega)]
 ·have:tx z l l.length=l:=by simp[tx]
  rw[this]
  exact h2
 ·simp[tx,iD,J]
theorem V5 {α:Type} [DecidableEq α] (E:α×α->Option Bool) (l r:List α) (hE:∀a∈l,∀b,E (a,b)=some (decide (a=b))) (hl:l.length<=4611686018427387904):
  aw (dd (aM (J l)) (aM (J r))) (some false) (bL (bd aD (fun s:List α×List α×Int=>aw (bi s.2.2 (aM (J s.1))) ((dk s.1 s.2.2).U fun a=>(dk s.2.1 s.2.2).U fun b=>(E (a,b)).U fun c=>aw (dY c) (some (.inr (.inr false))) (some (.inl (s.1,s.2.1,aW .i64 s.2.2 1)))) (some (.inr (.inl ())))) (l,r,0)) fun _=>some true)=some (decide (l=r)):=by
 by_cases H9:l.length=r.length
 ·rw[aS (lf (by have:=nl l;have:=nl r;omega))]
  have hz:(l.zip r).length=l.length:=by simp;omega
  rw[Bf (l.zip r) (fun i=>(l,r,(i:Int))) (fun p=>decide (p.1=p.2)) (Sum.inr false) (Sum.inl ()) ?_ ?_ ?_ ?_ (cG (by omega))]
  ·have:((l.zip r).all fun p=>decide (p.1=p.2))=decide (l=r):=by
    clear hE hl hz
    induction l generalizing r with
    |nil=>cases r with
     |nil=>rfl
     |cons b r=>cases H9
    |cons a l ih=>cases r with
     |nil=>cases H9
     |cons b r=>
      simp only[List.zip_cons_cons,List.all_cons]
      rw[ih r (by simpa using H9)]
      simp only[List.cons.injEq,Bool.decide_and]
   rw[this]
   by_cases h:l=r<;>simp[h,bL]
  ·rintro i ⟨a,b⟩ ha hp
   obtain⟨h1,h2⟩:=List.getElem?_zip_eq_some.1 ha
   simp only at h1 h2 hp⊢
   rw[aT (gk h1),eD,h1,aj,eD,h2,aj,hE a (List.mem_of_getElem? h1),aj,aS (by rw[hp];rfl),lk h1 (by omega)]
  ·rintro i ⟨a,b⟩ ha hp
   obtain⟨h1,h2⟩:=List.getElem?_zip_eq_some.1 ha
   simp only at h1 h2 hp⊢
   rw[aT (gk h1),eD,h1,aj,eD,h2,aj,hE a (List.mem_of_getElem? h1),aj,aT (by rw[hp];rfl)]
  ·simp only
   rw[hz,aS (mR l)]
  ·rfl
 ·rw[aT (nL (by have:=nl l;have:=nl r;omega)),decide_eq_false (fun h=>H9 (by rw[h]))]
theorem adj (l r:List Int) (hl:l.length<=4611686018427387904):
  aw (dd (aM (J l)) (aM (J r))) (some false) (bL (bd aD (fun s:List Int×List Int×Int=>aw (bi s.2.2 (aM (J s.1))) ((dk s.1 s.2.2).U fun a=>(dk s.2.1 s.2.2).U fun b=>aw (dd a b) (some (.inr (.inr false))) (some (.inl (s.1,s.2.1,aW .i64 s.2.2 1)))) (some (.inr (.inl ())))) (l,r,0)) fun _=>some true)=some (decide (l=r)):=by
 have:=V5 (fun p:Int×Int=>some (decide (p.1=p.2))) l r (fun _ _ _=>rfl) hl
 refine Eq.trans ?_ this
 congr 3
end Go.Am
end
section
namespace Go.Am
def fA {α:Type} (bB:α->Nat) (mk:α->Int->α):List α->Int->List α
 |[],_=>[]
 |e::l,k=>mk e k::fA bB mk l (k+bB e)
def gp {α:Type} (bB:α->Nat) (l:List α):Nat:=(l.map bB).sum
theorem acU {α:Type} (bB:α->Nat):gp bB []=0:=rfl
theorem Hc {α:Type} (bB:α->Nat) (e:α) (l:List α):gp bB (e::l)=bB e+gp bB l:=by simp[gp]
theorem acT {α:Type} (bB:α->Nat) (l r:List α):gp bB (l++r)=gp bB l+gp bB r:=by simp[gp]
theorem Ee {α:Type} (bB:α->Nat) (mk:α->Int->α):∀(l:List α) (k:Int),(fA bB mk l k).length=l.length
 |[],_=>rfl
 |e::l,k=>by simp[fA,Ee bB mk l]
theorem ZA {α:Type} (bB:α->Nat) (mk:α->Int->α):∀(l r:List α) (k:Int),fA bB mk (l++r) k=fA bB mk l k++fA bB mk r (k+gp bB l)
 |[],r,k=>by simp[fA,gp]
 |e::l,r,k=>by
  simp only[List.cons_append,fA,ZA bB mk l r,Hc]
  rw[show k+(bB e:Int)+(gp bB l:Nat)=k+((bB e+gp bB l:Nat):Int) by omega]
theorem Ui {α:Type} (bB:α->Nat) (mk:α->Int->α) (f:α->Nat) (hf:∀e k,f (mk e k)=f e):∀(l:List α) (k:Int),((fA bB mk l k).map f).sum=(l.map f).sum
 |[],_=>rfl
 |e::l,k=>by simp[fA,hf,Ui bB mk f hf l]
theorem ZB {α:Type} (bB:α->Nat) (mk:α->Int->α) (hc:∀e k,bB (mk e k)=bB e) (hm:∀e k,mk (mk e k) k=mk e k):∀(l:List α) (k:Int),fA bB mk (fA bB mk l k) k=fA bB mk l k
 |[],_=>rfl
 |e::l,k=>by simp only[fA,hm,hc,ZB bB mk hc hm l]
theorem Hd {α:Type} (bB sz:α->Nat) (hc:∀e,bB e<=4*(1+sz e)):∀l:List α,gp bB l<=4*(l.length+(l.map sz).sum)
 |[]=>by simp[gp]
 |e::l=>by
  have:=Hd bB sz hc l
  have:=hc e
  simp only[Hc,List.length_cons,List.map_cons,List.sum_cons]
  omega
theorem Zv {α Y:Type} {f:(Int×Int)×List α->Option (((Int×Int)×List α)⊕Y)} (l:List α) (bB sz:α->Nat) (mk:α->Int->α) (k:Int) {r:Y} (hc:∀e,bB e<=4*(1+sz e))
  (hk:0<=k) (hb:k+4*(l.length+(l.map sz).sum:Nat)<=1099511627776)
  (h1:∀(i:Nat) e ys (k':Int),l[i]? =some e->ys.length=l.length->ys[i]? =some e->0<=k'->k'+4*(1+sz e:Nat)<=1099511627776->f ((k',(i:Int)),ys)=some (.inl ((k'+bB e,((i+1:Nat):Int)),ys.set i (mk e k'))))
  (h2:f ((k+gp bB l,(l.length:Int)),fA bB mk l k)=some (.inr r)):bd aD f ((k,0),l)=some r:=by
 refine ew (fun i=>((k+(gp bB (l.take i):Nat),(i:Int)),fA bB mk (l.take i) k++l.drop i)) l.length ?_ ?_ ?_ (cG (by omega))
 ·intro j hj
  obtain⟨e,he⟩:∃e,l[j]? =some e:=⟨_,List.getElem?_eq_getElem hj⟩
  have hlen:(fA bB mk (l.take j) k).length=j:=by rw[Ee,List.length_take];omega
  have aoN:(l.map sz).sum=((l.take j).map sz).sum+(sz e+((l.drop (j+1)).map sz).sum):=by
   conv=>lhs;rw[<-List.take_append_drop j l,drop_cons he]
   rw[List.map_append,List.sum_append,List.map_cons,List.sum_cons]
  have hct:=Hd bB sz hc (l.take j)
  rw[List.length_take] at hct
  rw[h1 j e _ _ he (by rw[List.length_append,hlen,List.length_drop];omega) (by rw[List.getElem?_append_right (by omega),hlen,Nat.sub_self,List.getElem?_drop];simpa using he) (by omega) (by omega)]
  have e1:l.take (j+1)=l.take j++[e]:=by rw[List.take_add_one,he];rfl
  have e2:(fA bB mk (l.take j) k++l.drop j).set j (mk e (k+(gp bB (l.take j):Nat)))=fA bB mk (l.take (j+1)) k++l.drop (j+1):=by
   rw[e1,ZA,drop_cons he,List.set_append_right _ _ (by omega),hlen,Nat.sub_self,List.set_cons_zero,List.append_assoc]
   rfl
  rw[e2,e1,acT,Hc,acU,show k+(gp bB (l.take j):Nat)+(bB e:Nat)=k+((gp bB (l.take j)+(bB e+0):Nat):Int) by omega]
 ·simp only[List.take_length,List.drop_length,List.append_nil]
  exact h2
 ·simp[gp,fA]
theorem Xc {α:Type} [DecidableEq α] (bB:α->Nat) (mk:α->Int->α):∀(l:List α) (i:Nat) (k:Int),
  oh (fun _ (k:Int) e=>if e=mk e k then some (k+(bB e:Int)) else none) i k l=if l=fA bB mk l k then some (k+(gp bB l:Int)) else none
 |[],i,k=>by simp[oh,fA,gp]
 |e::l,i,k=>by
  simp only[oh,fA,Hc]
  by_cases h:e=mk e k
  ·rw[if_pos h]
   simp only
   rw[Xc bB mk l]
   by_cases h2:l=fA bB mk l (k+bB e)
   ·rw[if_pos h2,if_pos (by rw[<-h,<-h2])]
    congr 1;omega
   ·rw[if_neg h2,if_neg (fun h3=>h2 (List.cons.inj h3).2)]
  ·rw[if_neg h,if_neg (fun h3=>h (List.cons.inj h3).1)]
theorem afx {α:Type} [DecidableEq α] {f:List α×Int×Int->Option ((List α×Int×Int)⊕(Int⊕Int))} (l:List α) (bB sz:α->Nat) (mk:α->Int->α) (k:Int) (hc:∀e,bB e<=4*(1+sz e))
  (hk:0<=k) (hb:k+4*(l.length+(l.map sz).sum:Nat)<=1099511627776)
  (h1:∀(i:Nat) e (k':Int),l[i]? =some e->0<=k'->k'+4*(1+sz e:Nat)<=1099511627776->f (l,k',(i:Int))=if e=mk e k' then some (.inl (l,k'+(bB e:Int),((i+1:Nat):Int))) else some (.inr (.inr (-1))))
  (h2:∀k',f (l,k',(l.length:Int))=some (.inr (.inl k'))):bd aD f (l,k,0)=some (if l=fA bB mk l k then .inl (k+(gp bB l:Int)) else .inr (-1)):=by
 rw[Zp l (fun(k:Int) i=>(l,k,(i:Int))) (fun i k'=>0<=k'/\k'+4*((l.drop i).length+((l.drop i).map sz).sum:Nat)<=1099511627776) (fun _ (k:Int) e=>if e=mk e k then some (k+(bB e:Int)) else none) (Sum.inr (-1)) (fun k=>Sum.inl k) ?_ ?_ ?_ (s:=k) ⟨hk,by simpa using hb⟩ ?_ (cG (by omega))]
 ·rw[Xc]
  by_cases h:l=fA bB mk l k
  ·rw[if_pos h,if_pos h]
  ·rw[if_neg h,if_neg h]
 ·intro i k' e s' he hI hs
  rw[drop_cons he] at hI
  simp only[List.length_cons,List.map_cons,List.sum_cons] at hI
  split at hs
  ·rename_i hm
   injection hs with hs
   subst hs
   have hce:=hc e
   exact⟨by rw[h1 i e k' he hI.1 (by omega),if_pos hm],by omega,by omega⟩
  ·cases hs
 ·intro i k' e he hI hs
  rw[drop_cons he] at hI
  simp only[List.length_cons,List.map_cons,List.sum_cons] at hI
  split at hs
  ·cases hs
  ·rename_i hm
   rw[h1 i e k' he hI.1 (by omega),if_neg hm]
 ·intro k' _
  exact h2 k'
 ·rfl
theorem abo {α:Type}:∀l:List α,(l.map fun _=>0).sum=0
 |[]=>rfl
 |_::l=>by simp[abo l]
theorem abG {o:Option Int} {s:Nat} {k:Int} {f:Int->Option Bool} (ho:o=some (fF s k)):o.U (fun i=>aw (bi i 0) (some true) (f i))=if(s:Int)<=k then f (k - s) else some true:=by
 rw[ho,aj]
 unfold fF
 by_cases h:(s:Int)<=k
 ·rw[if_pos h,if_pos h,aS (eN (by omega))]
 ·rw[if_neg h,if_neg h,aT (f0 (by omega))]
theorem aly (b:Bool):Eg b b=false:=by cases b<;>rfl
theorem alz (a:Int):dd a a=false:=lf rfl
theorem alJ:dY true=false:=rfl
theorem Ca {α:Type} {xs:List α} {n:Nat} (h:xs.length=n):bG xs 0 n=some xs:=by subst h;exact kE xs
theorem BH {a b:Nat} (h:a=b):nR a b=some ():=if_pos h
theorem HL {n m:Nat} (h:n=m):ab 0 n m=some ():=by subst h;exact bK n
theorem afi {α:Type} {l:List α} {i:Nat} {a b:α} (h:l[i]? =some a):(l.set i b)[i]? =some b:=List.getElem?_set_self (Zr h)
theorem afh {α:Type} {l:List α} {i:Nat} {a b:α} (h:l[i]? =some a):db (cb l i b) i=some b:=afi h
theorem anu {α:Type} (l:List α) (i:Nat) (a b:α):cb (cb l i a) i b=cb l i b:=by simp[cb,List.set_set]
end Go.Am
end
