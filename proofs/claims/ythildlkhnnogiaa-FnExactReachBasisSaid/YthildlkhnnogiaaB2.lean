/- MB, B0, B1, B2: parts of the proof. No condition. -/
import Derived.Test.YthildlkhnnogiaaS7
import Derived.Laws.BitsLemmas
set_option linter.unusedVariables false
set_option linter.unusedSimpArgs false
section
namespace Go.Am
theorem JD {X Y:Type} {f:X->Option (X⊕Y)} {r:Y} (P:Nat->X->Prop) (step:∀n x,P n x->f x=some (.inr r)\/∃m x',m<n/\f x=some (.inl x')/\P m x'):
  ∀n x,P n x->∀N,n<N->bC N f x=some r:=by
 intro n
 induction n using Nat.strongRecOn with
 |ind n ih=>
  intro x hP N hN
  cases N with
  |zero=>omega
  |succ N=>
   rcases step n x hP with h|⟨m,x',hm,h,hP'⟩
   ·simp only[bC,h]
   ·simp only[bC,h]
    exact ih m hm x' hP' N (by omega)
theorem ig {α:Type} (xs:List α) (i:Nat):eX xs (i:Int)=xs[i]? :=by simp[eX]
theorem As {n:Int} (h1: -9223372036854775808<=n) (h2:n<=9223372036854775807):IntKind.wrap .i64 n=n:=by rw[IntKind.wrap_i64];omega
theorem lS {a b:Int} (h1: -9223372036854775808<=a+b) (h2:a+b<=9223372036854775807):bB .i64 a b=a+b:=As h1 h2
theorem sD {a b:Int} (h1: -9223372036854775808<=a - b) (h2:a - b<=9223372036854775807):lO .i64 a b=a - b:=As h1 h2
theorem az {α β:Type} (x:α) (f:α->Option β):(some x).U f=f x:=rfl
theorem eI {X ρ:Type} (x:X) (k:X->Option ρ):cI (some (.inl x)) k=k x:=rfl
theorem Ju {X ρ:Type} (x:ρ) (k:X->Option ρ):cI (some (.inr x):Option (X⊕ρ)) k=some x:=rfl
theorem bt {α:Type} {b:Bool} (h:b=true) (x y:α):aL b x y=x:=by rw[h];rfl
theorem br {α:Type} {b:Bool} (h:b=false) (x y:α):aL b x y=y:=by rw[h];rfl
theorem nl {α:Type} (l:List α):ba (J l)=(l.length:Int):=rfl
theorem gC {a b:Int} (h:a<b):bD a b=true:=decide_eq_true h
theorem ff {a b:Int} (h:b<=a):bD a b=false:=decide_eq_false (Int.not_lt.2 h)
theorem vO {a b:Int} (h:a<=b):qZ a b=true:=decide_eq_true h
theorem Fm {a b:Int} (h:b<a):qZ a b=false:=decide_eq_false (Int.not_le.2 h)
theorem y3 {a b:Int} (h:a=b):k8 a b=true:=by simp[k8,h]
theorem yZ {a b:Int} (h:a≠b):k8 a b=false:=by simp[k8,h]
theorem oF {a b:Int} (h:a≠b):dU a b=true:=by simp[dU,h]
theorem lM {a b:Int} (h:a=b):dU a b=false:=by simp[dU,h]
theorem Cy {p:Prop} [Decidable p] (h:¬p):eK (decide p)=true:=by simp[eK,h]
theorem CA {p:Prop} [Decidable p] (h:p):eK (decide p)=false:=by simp[eK,h]
theorem df (n:Nat):ai 0 n n=some ():=by simp[ai]
theorem jB {α:Type} (xs:List α):dH xs (J xs)=some xs:=by simp[dH,J]
theorem oP {α:Type} (xs:List α):cO xs 0 (J xs)=some xs:=by simp[cO,J]
theorem P2 {n by_:Nat} (h:n*by_<=e8):xJ (ba n) (ba n) by_=some n:=by simp[xJ,ba,h]
theorem Ic {i n:Nat} (h:i<n):fw (i:Int) n=some i:=by simp[fw];omega
theorem ew {n:Nat} (h:n<18446744073709551616):n<aM:=h
theorem drop_cons {α:Type} {xs:List α} {i:Nat} {x:α} (h:xs[i]? =some x):xs.drop i=x::xs.drop (i+1):=by
 obtain⟨h1,h2⟩:=List.getElem?_eq_some_iff.1 h
 rw[List.drop_eq_getElem_cons h1,h2]
end Go.Am
end
section
namespace Go.Am
theorem Y3 {X Y:Type} {f:X->Option (X⊕Y)} (st:Nat->X) {r:Y}:∀(n i:Nat),(∀j,i<=j->j<i+n->f (st j)=some (.inl (st (j+1))))->f (st (i+n))=some (.inr r)->∀N,n<N->bC N f (st i)=some r
 |0,i,_,h2,N+1,_=>by
  have h2:f (st i)=some (.inr r):=h2
  simp only[bC,h2]
 |n+1,i,h1,h2,N+1,hN=>by
  simp only[bC,h1 i (Nat.le_refl i) (by omega)]
  exact Y3 st n (i+1) (fun j h3 h4=>h1 j (by omega) (by omega)) (by rw[show i+1+n=i+(n+1) by omega];exact h2) N (by omega)
 |_,_,_,_,0,h=>by omega
theorem je {X Y:Type} {f:X->Option (X⊕Y)} (st:Nat->X) {r:Y} (n:Nat) (h1:∀j,j<n->f (st j)=some (.inl (st (j+1)))) (h2:f (st n)=some (.inr r)) {x0:X} (h0:x0=st 0) {N:Nat} (hN:n<N):bC N f x0=some r:=by
 subst h0
 exact Y3 st n 0 (fun j _ h=>h1 j (by omega)) (by rw[Nat.zero_add];exact h2) N hN
theorem Cr {X Y α:Type} {f:X->Option (X⊕Y)} (es:List α) (mk:Nat->X) (p:α->Bool) (yR dk:Y)
  (h1:∀i a,es[i]? =some a->p a=true->f (mk i)=some (.inl (mk (i+1)))) (h2:∀i a,es[i]? =some a->p a=false->f (mk i)=some (.inr yR)) (h3:f (mk es.length)=some (.inr dk)) {x0:X} (h0:x0=mk 0) {N:Nat} (hN:es.length<N):
  bC N f x0=some (if es.all p=true then dk else yR):=by
 subst h0
 have bW:∀(k:Nat) (i:Nat),i+k=es.length->∀N,k<N->bC N f (mk i)=some (if(es.drop i).all p=true then dk else yR):=by
  intro k
  induction k with
  |zero=>
   intro i hi N hN
   obtain⟨N,rfl⟩:∃M,N=M+1:=⟨N - 1,by omega⟩
   have:i=es.length:=by omega
   subst this
   simp only[bC,h3,List.drop_length,List.all_nil,if_true]
  |succ k ih=>
   intro i hi N hN
   obtain⟨N,rfl⟩:∃M,N=M+1:=⟨N - 1,by omega⟩
   obtain⟨a,ha⟩:∃a,es[i]? =some a:=⟨_,List.getElem?_eq_getElem (by omega)⟩
   rw[drop_cons ha]
   cases hp:p a with
   |true=>
    simp only[bC,h1 i a ha hp,List.all_cons,hp,Bool.true_and]
    exact ih (i+1) (by omega) N (by omega)
   |false=>simp only[bC,h2 i a ha hp,List.all_cons,hp,Bool.false_and,Bool.false_eq_true,if_false]
 exact bW es.length 0 (by omega) N hN
def ph {S α:Type} (step:Nat->S->α->Option S):Nat->S->List α->Option S
 |_,s,[]=>some s
 |i,s,a::as=>match step i s a with
  |some s'=>ph step (i+1) s' as
  |none=>none
theorem Y2 {X Y α S:Type} {f:X->Option (X⊕Y)} (es:List α) (mk:S->Nat->X) (I:Nat->S->Prop) (step:Nat->S->α->Option S) (yR:Y) (dk:S->Y)
  (h1:∀i s a s',es[i]? =some a->I i s->step i s a=some s'->f (mk s i)=some (.inl (mk s' (i+1)))/\I (i+1) s')
  (h2:∀i s a,es[i]? =some a->I i s->step i s a=none->f (mk s i)=some (.inr yR))
  (h3:∀s,I es.length s->f (mk s es.length)=some (.inr (dk s))) {s:S} (h0:I 0 s) {x0:X} (hx:x0=mk s 0) {N:Nat} (hN:es.length<N):
  bC N f x0=some (match ph step 0 s es with|some s'=>dk s'|none=>yR):=by
 subst hx
 have bW:∀(k:Nat) (i:Nat) (s:S),I i s->i+k=es.length->∀N,k<N->bC N f (mk s i)=some (match ph step i s (es.drop i) with|some s'=>dk s'|none=>yR):=by
  intro k
  induction k with
  |zero=>
   intro i s hs hi N hN
   obtain⟨N,rfl⟩:∃M,N=M+1:=⟨N - 1,by omega⟩
   have:i=es.length:=by omega
   subst this
   simp only[bC,h3 s hs,List.drop_length,ph]
  |succ k ih=>
   intro i s hs hi N hN
   obtain⟨N,rfl⟩:∃M,N=M+1:=⟨N - 1,by omega⟩
   obtain⟨a,ha⟩:∃a,es[i]? =some a:=⟨_,List.getElem?_eq_getElem (by omega)⟩
   rw[drop_cons ha]
   cases hp:step i s a with
   |some s'=>
    obtain⟨h4,h5⟩:=h1 i s a s' ha hs hp
    simp only[bC,h4,ph,hp]
    exact ih (i+1) s' h5 (by omega) N (by omega)
   |none=>simp only[bC,h2 i s a ha hs hp,ph,hp]
 exact bW es.length 0 s h0 (by omega) N hN
def zg {S α:Type} (step:Nat->S->α->S):Nat->S->List α->S
 |_,s,[]=>s
 |i,s,a::as=>zg step (i+1) (step i s a) as
theorem Y1 {X Y α S:Type} {f:X->Option (X⊕Y)} (es:List α) (mk:S->Nat->X) (I:Nat->S->Prop) (step:Nat->S->α->S) (dk:S->Y)
  (h1:∀i s a,es[i]? =some a->I i s->f (mk s i)=some (.inl (mk (step i s a) (i+1)))/\I (i+1) (step i s a))
  (h3:∀s,I es.length s->f (mk s es.length)=some (.inr (dk s))) {s:S} (h0:I 0 s) {x0:X} (hx:x0=mk s 0) {N:Nat} (hN:es.length<N):
  bC N f x0=some (dk (zg step 0 s es)):=by
 subst hx
 have bW:∀(k:Nat) (i:Nat) (s:S),I i s->i+k=es.length->∀N,k<N->bC N f (mk s i)=some (dk (zg step i s (es.drop i))):=by
  intro k
  induction k with
  |zero=>
   intro i s hs hi N hN
   obtain⟨N,rfl⟩:∃M,N=M+1:=⟨N - 1,by omega⟩
   have:i=es.length:=by omega
   subst this
   simp only[bC,h3 s hs,List.drop_length,zg]
  |succ k ih=>
   intro i s hs hi N hN
   obtain⟨N,rfl⟩:∃M,N=M+1:=⟨N - 1,by omega⟩
   obtain⟨a,ha⟩:∃a,es[i]? =some a:=⟨_,List.getElem?_eq_getElem (by omega)⟩
   rw[drop_cons ha]
   obtain⟨h4,h5⟩:=h1 i s a ha hs
   simp only[bC,h4,zg]
   exact ih (i+1) _ h5 (by omega) N (by omega)
 exact bW es.length 0 s h0 (by omega) N hN
theorem iL {α:Type} {es:List α} {i:Nat} {a:α} (h:es[i]? =some a):bD (i:Int) (ba (J es))=true:=by
 have:=(List.getElem?_eq_some_iff.1 h).1
 exact gC (by have:=nl es;omega)
theorem pL {α:Type} (es:List α):bD ((es.length:Nat):Int) (ba (J es))=false:=ff (by have:=nl es;omega)
theorem mK {α:Type} {es:List α} {i:Nat} {a:α} (h:es[i]? =some a) (hl:es.length<=9223372036854775807):bB .i64 (i:Int) 1=((i+1:Nat):Int):=by
 have:=(List.getElem?_eq_some_iff.1 h).1
 rw[lS (by omega) (by omega)];omega
theorem Y4 {α:Type} {es:List α} {i:Nat} {a:α} (h:es[i]? =some a):i<es.length:=(List.getElem?_eq_some_iff.1 h).1
theorem amZ (n:Int) (ani:0<=n) (anj:n<2^63):IntKind.i64.wrap n=n:=by rw[IntKind.wrap_i64];omega
theorem ab3 {a b:Nat} (ha:a<2^63) (hb:b<2^63):HW .i64 (a:Int) (b:Int)=((a&&&b:Nat):Int):=(bits_nat .i64 63 (by decide) amZ a b ha hb).1
theorem alT {a k:Nat} (ha:a<2^63):CY .i64 (a:Int) (k:Int)=some ((a>>>k:Nat):Int):=by
 unfold CY
 rw[if_neg (by omega)]
 congr 1
 rw[Int.toNat_natCast,Nat.shiftRight_eq_div_pow]
 by_cases h:k<=64
 ·rw[show min k (IntKind.bits .i64)=k from Nat.min_eq_left h]
  norm_cast
 ·rw[show min k (IntKind.bits .i64)=64 from Nat.min_eq_right (show 64<=k by omega)]
  have h1:a/2^k=0:=Nat.div_eq_of_lt (Nat.lt_of_lt_of_le ha (Nat.pow_le_pow_right (by decide) (by omega)))
  rw[h1]
  omega
theorem jP {z:Int} (h:0<=z):∃n:Nat,z=(n:Int):=⟨z.toNat,by omega⟩
end Go.Am
end
section
namespace Go.Am
theorem zY {α:Type} (l:List α) (k:Nat) (x:α):J (cK l k x)=J l:=by simp[J,cK]
theorem YR {α:Type} (l r:List α):J (cY l r)=aV (J l) (J r):=by simp[J,cY,aV]
theorem YS {α:Type} (n:Nat) (x:α):J (jg n x)=n:=by simp[J,jg]
theorem qz {n k:Nat} (h:n*k<=e8):lf n k=some ():=if_pos h
theorem nU (k:Nat):aV 0 k=k:=by simp[aV]
theorem DJ {α:Type} {l:List α} {i:Nat} {a:α} (h:l[i]? =some a):fw (i:Int) (J l)=some i:=Ic (Y4 h)
theorem Zt (a b:Int):dU a b= !decide (a=b):=by by_cases h:a=b<;>simp[dU,h]
theorem PJ {n:Nat}:∀{l:List Nat},n∈l->n<=l.sum
 |[],h=>by cases h
 |a::l,h=>by
  rw[List.sum_cons]
  rcases List.mem_cons.1 h with rfl|h
  ·omega
  ·have:=PJ h;omega
def gb (s:Nat) (k:Int):Int:=if(s:Int)<=k then k - s else -1
theorem Ut {s:Nat} {k:Int} (h:(s:Int)<=k):gb s k=k - s:=if_pos h
theorem Gf {s:Nat} {k:Int} (h:¬(s:Int)<=k):gb s k= -1:=if_neg h
def xA (k:Int):Prop:=0<=k/\k<=1048576
instance (k:Int):Decidable (xA k):=inferInstanceAs (Decidable (0<=k/\k<=1048576))
theorem KS {o:Option Int} {s:Nat} {k:Int} {f:Int->Option Int} (ho:o=some (gb s k)):o.U (fun i=>aL (bD i 0) (some (-1)) (f i))=if(s:Int)<=k then f (k - s) else some (-1):=by
 rw[ho,az]
 unfold gb
 by_cases h:(s:Int)<=k
 ·rw[if_pos h,if_pos h,br (ff (by omega))]
 ·rw[if_neg h,if_neg h,bt (gC (by omega))]
theorem abw {α:Type} (sz:α->Nat):∀(l:List α) (i:Nat) (k:Int),0<=k->(match ph (fun _ (k:Int) e=>if(sz e:Int)<=k then some (k - sz e) else none) i k l with|some k'=>k'|none=> -1)=gb (l.map sz).sum k
 |[],i,k,hk=>by simp[ph,gb,hk]
 |e::l,i,k,hk=>by
  rw[ph]
  by_cases h:(sz e:Int)<=k
  ·rw[if_pos h]
   simp only
   rw[abw sz l (i+1) (k - sz e) (by omega)]
   simp only[gb,List.map_cons,List.sum_cons]
   by_cases h2:((l.map sz).sum:Int)<=k - sz e
   ·rw[if_pos h2,if_pos (by omega)];omega
   ·rw[if_neg h2,if_neg (by omega)]
  ·rw[if_neg h]
   simp only[gb,List.map_cons,List.sum_cons]
   rw[if_neg (by omega)]
theorem amp {α:Type} (F:α×Int->Option Int) (sz:α->Nat) (l:List α) (hl:l.length<=9223372036854775807) (hF:∀e∈l,∀k,xA k->F (e,k)=some (gb (sz e) k)) (k:Int) (hk:xA k):
  aL (bD (lO .i64 k (ba (J l))) 0) (some (-1)) (cI (bC aM (fun(s:List α×Int×Int)=>aL (bD s.2.2 (ba (J s.1))) ((eX s.1 s.2.2).U fun e=>(F (e,s.2.1)).U fun i=>aL (bD i 0) (some (.inr (.inr (-1)))) (some (.inl (s.1,i,bB .i64 s.2.2 1)))) (some (.inr (.inl s.2.1)))) (l,lO .i64 k (ba (J l)),0)) (fun i=>some i))=some (gb (l.length+(l.map sz).sum) k):=by
 obtain⟨k0,k1⟩:=hk
 have hn:=nl l
 rw[sD (by omega) (by omega)]
 by_cases h:k<l.length
 ·rw[bt (gC (by omega)),gb,if_neg (by omega)]
 rw[br (ff (by omega))]
 rw[Y2 l (fun(r:Int) i=>(l,r,(i:Int))) (fun _ r=>xA r) (fun _ (k:Int) e=>if(sz e:Int)<=k then some (k - sz e) else none) (Sum.inr (-1)) (fun r=>Sum.inl r) ?_ ?_ ?_ (s:=k - ba (J l)) ⟨by omega,by omega⟩ ?_ (ew (by omega))]
 ·have:=abw sz l 0 (k - ba (J l)) (by omega)
  have e:gb (l.length+(l.map sz).sum) k=gb (l.map sz).sum (k - ba (J l)):=by
   simp only[gb]
   by_cases h2:((l.map sz).sum:Int)<=k - ba (J l)
   ·rw[if_pos h2,if_pos (by omega)];omega
   ·rw[if_neg h2,if_neg (by omega)]
  rw[e,<-this]
  cases ph (fun _ (k:Int) e=>if(sz e:Int)<=k then some (k - sz e) else none) 0 (k - ba (J l)) l<;>rfl
 ·intro i r e r' ha hr hs
  split at hs
  ·rename_i fb
   injection hs with hs
   subst hs
   simp only
   rw[bt (iL ha),ig,ha,az,hF e (List.mem_of_getElem? ha) r hr,az,gb,if_pos fb,br (ff (by omega)),mK ha (by omega)]
   exact⟨rfl,by have:=hr.1;have:=hr.2;constructor<;>omega⟩
  ·cases hs
 ·intro i r e ha hr hs
  split at hs
  ·cases hs
  ·rename_i fb
   simp only
   rw[bt (iL ha),ig,ha,az,hF e (List.mem_of_getElem? ha) r hr,az,gb,if_neg fb,bt (gC (by omega))]
 ·intro r _
  simp only
  rw[br (pL l)]
 ·rfl
def uQ {α:Type} (z:α) (l:List α) (i:Nat):List α:=l.take i++List.replicate (l.length - i) z
theorem WL {α Y:Type} {f:(List α×Int)×List α->Option (((List α×Int)×List α)⊕Y)} (l:List α) (z:α) {r:Y}
  (h1:∀(i:Nat) e ys,l[i]? =some e->ys.length=l.length->ys[i]? =some z->f ((l,(i:Int)),ys)=some (.inl ((l,((i+1:Nat):Int)),ys.set i e)))
  (h2:f ((l,(l.length:Int)),l)=some (.inr r)) (hl:l.length<18446744073709551616):bC aM f ((l,0),jg (J l) z)=some r:=by
 refine je (fun i=>((l,(i:Int)),uQ z l i)) l.length ?_ ?_ ?_ (ew hl)
 ·intro j hj
  obtain⟨e,he⟩:∃e,l[j]? =some e:=⟨_,List.getElem?_eq_getElem hj⟩
  rw[h1 j e _ he (by simp[uQ];omega)]
  ·have:(uQ z l j).set j e=uQ z l (j+1):=by
    unfold uQ
    rw[List.set_append_right _ _ (by simp;omega),List.take_add_one,he,show l.length - j=(l.length - (j+1))+1 by omega,List.replicate_succ]
    simp only[List.length_take,show j - min j l.length=0 by omega,List.set_cons_zero,Option.toList_some,List.append_assoc,List.cons_append,List.nil_append]
   rw[this]
  ·unfold uQ
   rw[List.getElem?_append_right (by simp;omega)]
   simp only[List.length_take,show j - min j l.length=0 by omega]
   rw[List.getElem?_replicate,if_pos (by omega)]
 ·have:uQ z l l.length=l:=by simp[uQ]
  rw[this]
  exact h2
 ·simp[uQ,jg,J]
theorem MN {α:Type} [DecidableEq α] (E:α×α->Option Bool) (l r:List α) (hE:∀a∈l,∀b,E (a,b)=some (decide (a=b))) (hl:l.length<=4611686018427387904):
  aL (dU (ba (J l)) (ba (J r))) (some false) (cI (bC aM (fun s:List α×List α×Int=>aL (bD s.2.2 (ba (J s.1))) ((eX s.1 s.2.2).U fun a=>(eX s.2.1 s.2.2).U fun b=>(E (a,b)).U fun c=>aL (eK c) (some (.inr (.inr false))) (some (.inl (s.1,s.2.1,bB .i64 s.2.2 1)))) (some (.inr (.inl ())))) (l,r,0)) fun _=>some true)=some (decide (l=r)):=by
 by_cases I8:l.length=r.length
 ·rw[br (lM (by have:=nl l;have:=nl r;omega))]
  have hz:(l.zip r).length=l.length:=by simp;omega
  rw[Cr (l.zip r) (fun i=>(l,r,(i:Int))) (fun p=>decide (p.1=p.2)) (Sum.inr false) (Sum.inl ()) ?_ ?_ ?_ ?_ (ew (by omega))]
  ·have:((l.zip r).all fun p=>decide (p.1=p.2))=decide (l=r):=by
    clear hE hl hz
    induction l generalizing r with
    |nil=>cases r with
     |nil=>rfl
     |cons b r=>cases I8
    |cons a l ih=>cases r with
     |nil=>cases I8
     |cons b r=>
      simp only[List.zip_cons_cons,List.all_cons]
      rw[ih r (by simpa using I8)]
      simp only[List.cons.injEq,Bool.decide_and]
   rw[this]
   by_cases h:l=r<;>simp[h,cI]
  ·rintro i ⟨a,b⟩ ha hp
   obtain⟨h1,h2⟩:=List.getElem?_zip_eq_some.1 ha
   simp only at h1 h2 hp⊢
   rw[bt (iL h1),ig,h1,az,ig,h2,az,hE a (List.mem_of_getElem? h1),az,br (by rw[hp];rfl),mK h1 (by omega)]
  ·rintro i ⟨a,b⟩ ha hp
   obtain⟨h1,h2⟩:=List.getElem?_zip_eq_some.1 ha
   simp only at h1 h2 hp⊢
   rw[bt (iL h1),ig,h1,az,ig,h2,az,hE a (List.mem_of_getElem? h1),az,bt (by rw[hp];rfl)]
  ·simp only
   rw[hz,br (pL l)]
  ·rfl
 ·rw[bt (oF (by have:=nl l;have:=nl r;omega)),decide_eq_false (fun h=>I8 (by rw[h]))]
theorem ac8 (l r:List Int) (hl:l.length<=4611686018427387904):
  aL (dU (ba (J l)) (ba (J r))) (some false) (cI (bC aM (fun s:List Int×List Int×Int=>aL (bD s.2.2 (ba (J s.1))) ((eX s.1 s.2.2).U fun a=>(eX s.2.1 s.2.2).U fun b=>aL (dU a b) (some (.inr (.inr false))) (some (.inl (s.1,s.2.1,bB .i64 s.2.2 1)))) (some (.inr (.inl ())))) (l,r,0)) fun _=>some true)=some (decide (l=r)):=by
 have:=MN (fun p:Int×Int=>some (decide (p.1=p.2))) l r (fun _ _ _=>rfl) hl
 refine Eq.trans ?_ this
 congr 3
end Go.Am
end
section
namespace Go.Am
def fJ {α:Type} (bF:α->Nat) (mk:α->Int->α):List α->Int->List α
 |[],_=>[]
 |e::l,k=>mk e k::fJ bF mk l (k+bF e)
def gI {α:Type} (bF:α->Nat) (l:List α):Nat:=(l.map bF).sum
theorem acJ {α:Type} (bF:α->Nat):gI bF []=0:=rfl
theorem Il {α:Type} (bF:α->Nat) (e:α) (l:List α):gI bF (e::l)=bF e+gI bF l:=by simp[gI]
theorem acI {α:Type} (bF:α->Nat) (l r:List α):gI bF (l++r)=gI bF l+gI bF r:=by simp[gI]
theorem z3 {α:Type} (bF:α->Nat) (mk:α->Int->α):∀(l:List α) (k:Int),(fJ bF mk l k).length=l.length
 |[],_=>rfl
 |e::l,k=>by simp[fJ,z3 bF mk l]
theorem Zd {α:Type} (bF:α->Nat) (mk:α->Int->α):∀(l r:List α) (k:Int),fJ bF mk (l++r) k=fJ bF mk l k++fJ bF mk r (k+gI bF l)
 |[],r,k=>by simp[fJ,gI]
 |e::l,r,k=>by
  simp only[List.cons_append,fJ,Zd bF mk l r,Il]
  rw[show k+(bF e:Int)+(gI bF l:Nat)=k+((bF e+gI bF l:Nat):Int) by omega]
theorem Gd {α:Type} (bF:α->Nat) (mk:α->Int->α) (f:α->Nat) (hf:∀e k,f (mk e k)=f e):∀(l:List α) (k:Int),((fJ bF mk l k).map f).sum=(l.map f).sum
 |[],_=>rfl
 |e::l,k=>by simp[fJ,hf,Gd bF mk f hf l]
theorem P3 {α:Type} (bF:α->Nat) (mk:α->Int->α) (hc:∀e k,bF (mk e k)=bF e) (hm:∀e k,mk (mk e k) k=mk e k):∀(l:List α) (k:Int),fJ bF mk (fJ bF mk l k) k=fJ bF mk l k
 |[],_=>rfl
 |e::l,k=>by simp only[fJ,hm,hc,P3 bF mk hc hm l]
theorem DN {α:Type} (bF sz:α->Nat) (hc:∀e,bF e<=4*(1+sz e)):∀l:List α,gI bF l<=4*(l.length+(l.map sz).sum)
 |[]=>by simp[gI]
 |e::l=>by
  have:=DN bF sz hc l
  have:=hc e
  simp only[Il,List.length_cons,List.map_cons,List.sum_cons]
  omega
theorem PY {α Y:Type} {f:(Int×Int)×List α->Option (((Int×Int)×List α)⊕Y)} (l:List α) (bF sz:α->Nat) (mk:α->Int->α) (k:Int) {r:Y} (hc:∀e,bF e<=4*(1+sz e))
  (hk:0<=k) (hb:k+4*(l.length+(l.map sz).sum:Nat)<=1099511627776)
  (h1:∀(i:Nat) e ys (k':Int),l[i]? =some e->ys.length=l.length->ys[i]? =some e->0<=k'->k'+4*(1+sz e:Nat)<=1099511627776->f ((k',(i:Int)),ys)=some (.inl ((k'+bF e,((i+1:Nat):Int)),ys.set i (mk e k'))))
  (h2:f ((k+gI bF l,(l.length:Int)),fJ bF mk l k)=some (.inr r)):bC aM f ((k,0),l)=some r:=by
 refine je (fun i=>((k+(gI bF (l.take i):Nat),(i:Int)),fJ bF mk (l.take i) k++l.drop i)) l.length ?_ ?_ ?_ (ew (by omega))
 ·intro j hj
  obtain⟨e,he⟩:∃e,l[j]? =some e:=⟨_,List.getElem?_eq_getElem hj⟩
  have hlen:(fJ bF mk (l.take j) k).length=j:=by rw[z3,List.length_take];omega
  have ang:(l.map sz).sum=((l.take j).map sz).sum+(sz e+((l.drop (j+1)).map sz).sum):=by
   conv=>lhs;rw[<-List.take_append_drop j l,drop_cons he]
   rw[List.map_append,List.sum_append,List.map_cons,List.sum_cons]
  have hct:=DN bF sz hc (l.take j)
  rw[List.length_take] at hct
  rw[h1 j e _ _ he (by rw[List.length_append,hlen,List.length_drop];omega) (by rw[List.getElem?_append_right (by omega),hlen,Nat.sub_self,List.getElem?_drop];simpa using he) (by omega) (by omega)]
  have e1:l.take (j+1)=l.take j++[e]:=by rw[List.take_add_one,he];rfl
  have e2:(fJ bF mk (l.take j) k++l.drop j).set j (mk e (k+(gI bF (l.take j):Nat)))=fJ bF mk (l.take (j+1)) k++l.drop (j+1):=by
   rw[e1,Zd,drop_cons he,List.set_append_right _ _ (by omega),hlen,Nat.sub_self,List.set_cons_zero,List.append_assoc]
   rfl
  rw[e2,e1,acI,Il,acJ,show k+(gI bF (l.take j):Nat)+(bF e:Nat)=k+((gI bF (l.take j)+(bF e+0):Nat):Int) by omega]
 ·simp only[List.take_length,List.drop_length,List.append_nil]
  exact h2
 ·simp[gI,fJ]
theorem Xz {α:Type} [DecidableEq α] (bF:α->Nat) (mk:α->Int->α):∀(l:List α) (i:Nat) (k:Int),
  ph (fun _ (k:Int) e=>if e=mk e k then some (k+(bF e:Int)) else none) i k l=if l=fJ bF mk l k then some (k+(gI bF l:Int)) else none
 |[],i,k=>by simp[ph,fJ,gI]
 |e::l,i,k=>by
  simp only[ph,fJ,Il]
  by_cases h:e=mk e k
  ·rw[if_pos h]
   simp only
   rw[Xz bF mk l]
   by_cases h2:l=fJ bF mk l (k+bF e)
   ·rw[if_pos h2,if_pos (by rw[<-h,<-h2])]
    congr 1;omega
   ·rw[if_neg h2,if_neg (fun h3=>h2 (List.cons.inj h3).2)]
  ·rw[if_neg h,if_neg (fun h3=>h (List.cons.inj h3).1)]
theorem XA {α:Type} [DecidableEq α] {f:List α×Int×Int->Option ((List α×Int×Int)⊕(Int⊕Int))} (l:List α) (bF sz:α->Nat) (mk:α->Int->α) (k:Int) (hc:∀e,bF e<=4*(1+sz e))
  (hk:0<=k) (hb:k+4*(l.length+(l.map sz).sum:Nat)<=1099511627776)
  (h1:∀(i:Nat) e (k':Int),l[i]? =some e->0<=k'->k'+4*(1+sz e:Nat)<=1099511627776->f (l,k',(i:Int))=if e=mk e k' then some (.inl (l,k'+(bF e:Int),((i+1:Nat):Int))) else some (.inr (.inr (-1))))
  (h2:∀k',f (l,k',(l.length:Int))=some (.inr (.inl k'))):bC aM f (l,k,0)=some (if l=fJ bF mk l k then .inl (k+(gI bF l:Int)) else .inr (-1)):=by
 rw[Y2 l (fun(k:Int) i=>(l,k,(i:Int))) (fun i k'=>0<=k'/\k'+4*((l.drop i).length+((l.drop i).map sz).sum:Nat)<=1099511627776) (fun _ (k:Int) e=>if e=mk e k then some (k+(bF e:Int)) else none) (Sum.inr (-1)) (fun k=>Sum.inl k) ?_ ?_ ?_ (s:=k) ⟨hk,by simpa using hb⟩ ?_ (ew (by omega))]
 ·rw[Xz]
  by_cases h:l=fJ bF mk l k
  ·rw[if_pos h,if_pos h]
  ·rw[if_neg h,if_neg h]
 ·intro i k' e s' he hI hs
  rw[drop_cons he] at hI
  simp only[List.length_cons,List.map_cons,List.sum_cons] at hI
  split at hs
  ·rename_i hm
   injection hs with hs
   subst hs
   have hce:=hc e
   exact⟨by rw[h1 i e k' he hI.1 (by omega),if_pos hm],by omega,by omega⟩
  ·cases hs
 ·intro i k' e he hI hs
  rw[drop_cons he] at hI
  simp only[List.length_cons,List.map_cons,List.sum_cons] at hI
  split at hs
  ·cases hs
  ·rename_i hm
   rw[h1 i e k' he hI.1 (by omega),if_neg hm]
 ·intro k' _
  exact h2 k'
 ·rfl
theorem afC {o:Option Int} {p:Prop} [Decidable p] {k:Int} {Y:Type} {f:Int->Option Y} {y:Option Y} (hk:0<=k) (ho:o=some (if p then k else -1)):
  o.U (fun i=>aL (bD i 0) y (f i))=if p then f k else y:=by
 rw[ho,az]
 by_cases h:p
 ·rw[if_pos h,if_pos h,br (ff hk)]
 ·rw[if_neg h,if_neg h,bt (gC (by omega))]
theorem abk {α:Type}:∀l:List α,(l.map fun _=>0).sum=0
 |[]=>rfl
 |_::l=>by simp[abk l]
theorem amn {o:Option Int} {s:Nat} {k:Int} {f:Int->Option Bool} (ho:o=some (gb s k)):o.U (fun i=>aL (bD i 0) (some true) (f i))=if(s:Int)<=k then f (k - s) else some true:=by
 rw[ho,az]
 unfold gb
 by_cases h:(s:Int)<=k
 ·rw[if_pos h,if_pos h,br (ff (by omega))]
 ·rw[if_neg h,if_neg h,bt (gC (by omega))]
theorem ajK (b:Bool):Zs b b=false:=by cases b<;>rfl
theorem ajL (a:Int):dU a a=false:=lM rfl
theorem ajV:eK true=false:=rfl
theorem Di {α:Type} {xs:List α} {n:Nat} (h:xs.length=n):cO xs 0 n=some xs:=by subst h;exact oP xs
theorem z9 {a b:Nat} (h:a=b):iS a b=some ():=if_pos h
theorem Xe {n m:Nat} (h:n=m):ai 0 n m=some ():=by subst h;exact df n
theorem afl {α:Type} {l:List α} {i:Nat} {a b:α} (h:l[i]? =some a):(l.set i b)[i]? =some b:=List.getElem?_set_self (Y4 h)
theorem Xh {α:Type} {l:List α} {i:Nat} {a b:α} (h:l[i]? =some a):dj (cK l i b) i=some b:=afl h
theorem aaA {α:Type} (l:List α) (i:Nat) (a b:α):cK (cK l i a) i b=cK l i b:=by simp[cK,List.set_set]
end Go.Am
end
