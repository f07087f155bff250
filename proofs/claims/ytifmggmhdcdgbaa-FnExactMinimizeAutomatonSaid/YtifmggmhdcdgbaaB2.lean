/- MB, B0, B1, B2: parts of the proof. No condition. -/
import Derived.Test.YtifmggmhdcdgbaaS7
import Derived.Laws.BitsLemmas
set_option linter.unusedVariables false
set_option linter.unusedSimpArgs false
section
namespace Go.Am
theorem H6 {X Y:Type} {f:X->Option (X⊕Y)} {r:Y} (P:Nat->X->Prop) (step:∀n x,P n x->f x=some (.inr r)\/∃m x',m<n/\f x=some (.inl x')/\P m x'):
  ∀n x,P n x->∀N,n<N->bf N f x=some r:=by
 intro n
 induction n using Nat.strongRecOn with
 |ind n ih=>
  intro x hP N hN
  cases N with
  |zero=>omega
  |succ N=>
   rcases step n x hP with h|⟨m,x',hm,h,hP'⟩
   ·simp only[bf,h]
   ·simp only[bf,h]
    exact ih m hm x' hP' N (by omega)
theorem fF {α:Type} (xs:List α) (i:Nat):dz xs (i:Int)=xs[i]? :=by simp[dz]
theorem yO {n:Int} (h1: -9223372036854775808<=n) (h2:n<=9223372036854775807):IntKind.wrap .i64 n=n:=by rw[IntKind.wrap_i64];omega
theorem jS {a b:Int} (h1: -9223372036854775808<=a+b) (h2:a+b<=9223372036854775807):aM .i64 a b=a+b:=yO h1 h2
theorem rD {a b:Int} (h1: -9223372036854775808<=a - b) (h2:a - b<=9223372036854775807):mf .i64 a b=a - b:=yO h1 h2
theorem au {α β:Type} (x:α) (f:α->Option β):(some x).U f=f x:=rfl
theorem cK {X ρ:Type} (x:X) (k:X->Option ρ):bK (some (.inl x)) k=k x:=rfl
theorem HT {X ρ:Type} (x:ρ) (k:X->Option ρ):bK (some (.inr x):Option (X⊕ρ)) k=some x:=rfl
theorem aT {α:Type} {b:Bool} (h:b=true) (x y:α):aw b x y=x:=by rw[h];rfl
theorem aS {α:Type} {b:Bool} (h:b=false) (x y:α):aw b x y=y:=by rw[h];rfl
theorem nl {α:Type} (l:List α):aL (J l)=(l.length:Int):=rfl
theorem gC {a b:Int} (h:a<b):bc a b=true:=decide_eq_true h
theorem fh {a b:Int} (h:b<=a):bc a b=false:=decide_eq_false (Int.not_lt.2 h)
theorem uv {a b:Int} (h:a<=b):qk a b=true:=decide_eq_true h
theorem Dr {a b:Int} (h:b<a):qk a b=false:=decide_eq_false (Int.not_le.2 h)
theorem xq {a b:Int} (h:a=b):lI a b=true:=by simp[lI,h]
theorem xp {a b:Int} (h:a≠b):lI a b=false:=by simp[lI,h]
theorem mQ {a b:Int} (h:a≠b):dB a b=true:=by simp[dB,h]
theorem kC {a b:Int} (h:a=b):dB a b=false:=by simp[dB,h]
theorem AU {p:Prop} [Decidable p] (h:¬p):eC (decide p)=true:=by simp[eC,h]
theorem AV {p:Prop} [Decidable p] (h:p):eC (decide p)=false:=by simp[eC,h]
theorem bq (n:Nat):ae 0 n n=some ():=by simp[ae]
theorem gu {α:Type} (xs:List α):ci xs (J xs)=some xs:=by simp[ci,J]
theorem ik {α:Type} (xs:List α):bg xs 0 (J xs)=some xs:=by simp[bg,J]
theorem Om {n by_:Nat} (h:n*by_<=eZ):ov (aL n) (aL n) by_=some n:=by simp[ov,aL,h]
theorem zr {i n:Nat} (h:i<n):dT (i:Int) n=some i:=by simp[dT];omega
theorem cG {n:Nat} (h:n<18446744073709551616):n<aA:=h
theorem drop_cons {α:Type} {xs:List α} {i:Nat} {x:α} (h:xs[i]? =some x):xs.drop i=x::xs.drop (i+1):=by
 obtain⟨h1,h2⟩:=List.getElem?_eq_some_iff.1 h
 rw[List.drop_eq_getElem_cons h1,h2]
end Go.Am
end
section
namespace Go.Am
theorem XH {X Y:Type} {f:X->Option (X⊕Y)} (st:Nat->X) {r:Y}:∀(n i:Nat),(∀j,i<=j->j<i+n->f (st j)=some (.inl (st (j+1))))->f (st (i+n))=some (.inr r)->∀N,n<N->bf N f (st i)=some r
 |0,i,_,h2,N+1,_=>by
  have h2:f (st i)=some (.inr r):=h2
  simp only[bf,h2]
 |n+1,i,h1,h2,N+1,hN=>by
  simp only[bf,h1 i (Nat.le_refl i) (by omega)]
  exact XH st n (i+1) (fun j h3 h4=>h1 j (by omega) (by omega)) (by rw[show i+1+n=i+(n+1) by omega];exact h2) N (by omega)
 |_,_,_,_,0,h=>by omega
theorem dP {X Y:Type} {f:X->Option (X⊕Y)} (st:Nat->X) {r:Y} (n:Nat) (h1:∀j,j<n->f (st j)=some (.inl (st (j+1)))) (h2:f (st n)=some (.inr r)) {x0:X} (h0:x0=st 0) {N:Nat} (hN:n<N):bf N f x0=some r:=by
 subst h0
 exact XH st n 0 (fun j _ h=>h1 j (by omega)) (by rw[Nat.zero_add];exact h2) N hN
theorem AE {X Y α:Type} {f:X->Option (X⊕Y)} (es:List α) (mk:Nat->X) (p:α->Bool) (xj dV:Y)
  (h1:∀i a,es[i]? =some a->p a=true->f (mk i)=some (.inl (mk (i+1)))) (h2:∀i a,es[i]? =some a->p a=false->f (mk i)=some (.inr xj)) (h3:f (mk es.length)=some (.inr dV)) {x0:X} (h0:x0=mk 0) {N:Nat} (hN:es.length<N):
  bf N f x0=some (if es.all p=true then dV else xj):=by
 subst h0
 have cP:∀(k:Nat) (i:Nat),i+k=es.length->∀N,k<N->bf N f (mk i)=some (if(es.drop i).all p=true then dV else xj):=by
  intro k
  induction k with
  |zero=>
   intro i hi N hN
   obtain⟨N,rfl⟩:∃M,N=M+1:=⟨N - 1,by omega⟩
   have:i=es.length:=by omega
   subst this
   simp only[bf,h3,List.drop_length,List.all_nil,if_true]
  |succ k ih=>
   intro i hi N hN
   obtain⟨N,rfl⟩:∃M,N=M+1:=⟨N - 1,by omega⟩
   obtain⟨a,ha⟩:∃a,es[i]? =some a:=⟨_,List.getElem?_eq_getElem (by omega)⟩
   rw[drop_cons ha]
   cases hp:p a with
   |true=>
    simp only[bf,h1 i a ha hp,List.all_cons,hp,Bool.true_and]
    exact ih (i+1) (by omega) N (by omega)
   |false=>simp only[bf,h2 i a ha hp,List.all_cons,hp,Bool.false_and,Bool.false_eq_true,if_false]
 exact cP es.length 0 (by omega) N hN
def oU {S α:Type} (step:Nat->S->α->Option S):Nat->S->List α->Option S
 |_,s,[]=>some s
 |i,s,a::as=>match step i s a with
  |some s'=>oU step (i+1) s' as
  |none=>none
theorem XG {X Y α S:Type} {f:X->Option (X⊕Y)} (es:List α) (mk:S->Nat->X) (I:Nat->S->Prop) (step:Nat->S->α->Option S) (xj:Y) (dV:S->Y)
  (h1:∀i s a s',es[i]? =some a->I i s->step i s a=some s'->f (mk s i)=some (.inl (mk s' (i+1)))/\I (i+1) s')
  (h2:∀i s a,es[i]? =some a->I i s->step i s a=none->f (mk s i)=some (.inr xj))
  (h3:∀s,I es.length s->f (mk s es.length)=some (.inr (dV s))) {s:S} (h0:I 0 s) {x0:X} (hx:x0=mk s 0) {N:Nat} (hN:es.length<N):
  bf N f x0=some (match oU step 0 s es with|some s'=>dV s'|none=>xj):=by
 subst hx
 have cP:∀(k:Nat) (i:Nat) (s:S),I i s->i+k=es.length->∀N,k<N->bf N f (mk s i)=some (match oU step i s (es.drop i) with|some s'=>dV s'|none=>xj):=by
  intro k
  induction k with
  |zero=>
   intro i s hs hi N hN
   obtain⟨N,rfl⟩:∃M,N=M+1:=⟨N - 1,by omega⟩
   have:i=es.length:=by omega
   subst this
   simp only[bf,h3 s hs,List.drop_length,oU]
  |succ k ih=>
   intro i s hs hi N hN
   obtain⟨N,rfl⟩:∃M,N=M+1:=⟨N - 1,by omega⟩
   obtain⟨a,ha⟩:∃a,es[i]? =some a:=⟨_,List.getElem?_eq_getElem (by omega)⟩
   rw[drop_cons ha]
   cases hp:step i s a with
   |some s'=>
    obtain⟨h4,h5⟩:=h1 i s a s' ha hs hp
    simp only[bf,h4,oU,hp]
    exact ih (i+1) s' h5 (by omega) N (by omega)
   |none=>simp only[bf,h2 i s a ha hs hp,oU,hp]
 exact cP es.length 0 s h0 (by omega) N hN
def xy {S α:Type} (step:Nat->S->α->S):Nat->S->List α->S
 |_,s,[]=>s
 |i,s,a::as=>xy step (i+1) (step i s a) as
theorem XF {X Y α S:Type} {f:X->Option (X⊕Y)} (es:List α) (mk:S->Nat->X) (I:Nat->S->Prop) (step:Nat->S->α->S) (dV:S->Y)
  (h1:∀i s a,es[i]? =some a->I i s->f (mk s i)=some (.inl (mk (step i s a) (i+1)))/\I (i+1) (step i s a))
  (h3:∀s,I es.length s->f (mk s es.length)=some (.inr (dV s))) {s:S} (h0:I 0 s) {x0:X} (hx:x0=mk s 0) {N:Nat} (hN:es.length<N):
  bf N f x0=some (dV (xy step 0 s es)):=by
 subst hx
 have cP:∀(k:Nat) (i:Nat) (s:S),I i s->i+k=es.length->∀N,k<N->bf N f (mk s i)=some (dV (xy step i s (es.drop i))):=by
  intro k
  induction k with
  |zero=>
   intro i s hs hi N hN
   obtain⟨N,rfl⟩:∃M,N=M+1:=⟨N - 1,by omega⟩
   have:i=es.length:=by omega
   subst this
   simp only[bf,h3 s hs,List.drop_length,xy]
  |succ k ih=>
   intro i s hs hi N hN
   obtain⟨N,rfl⟩:∃M,N=M+1:=⟨N - 1,by omega⟩
   obtain⟨a,ha⟩:∃a,es[i]? =some a:=⟨_,List.getElem?_eq_getElem (by omega)⟩
   rw[drop_cons ha]
   obtain⟨h4,h5⟩:=h1 i s a ha hs
   simp only[bf,h4,xy]
   exact ih (i+1) _ h5 (by omega) N (by omega)
 exact cP es.length 0 s h0 (by omega) N hN
theorem iR {α:Type} {es:List α} {i:Nat} {a:α} (h:es[i]? =some a):bc (i:Int) (aL (J es))=true:=by
 have:=(List.getElem?_eq_some_iff.1 h).1
 exact gC (by have:=nl es;omega)
theorem ot {α:Type} (es:List α):bc ((es.length:Nat):Int) (aL (J es))=false:=fh (by have:=nl es;omega)
theorem mR {α:Type} {es:List α} {i:Nat} {a:α} (h:es[i]? =some a) (hl:es.length<=9223372036854775807):aM .i64 (i:Int) 1=((i+1:Nat):Int):=by
 have:=(List.getElem?_eq_some_iff.1 h).1
 rw[jS (by omega) (by omega)];omega
theorem XI {α:Type} {es:List α} {i:Nat} {a:α} (h:es[i]? =some a):i<es.length:=(List.getElem?_eq_some_iff.1 h).1
theorem alq (n:Int) (alE:0<=n) (alF:n<2^63):IntKind.i64.wrap n=n:=by rw[IntKind.wrap_i64];omega
theorem aax {a b:Nat} (ha:a<2^63) (hb:b<2^63):Ga .i64 (a:Int) (b:Int)=((a&&&b:Nat):Int):=(bits_nat .i64 63 (by decide) alq a b ha hb).1
theorem ako {a k:Nat} (ha:a<2^63):Bm .i64 (a:Int) (k:Int)=some ((a>>>k:Nat):Int):=by
 unfold Bm
 rw[if_neg (by omega)]
 congr 1
 rw[Int.toNat_natCast,Nat.shiftRight_eq_div_pow]
 by_cases h:k<=64
 ·rw[show min k (IntKind.bits .i64)=k from Nat.min_eq_left h]
  norm_cast
 ·rw[show min k (IntKind.bits .i64)=64 from Nat.min_eq_right (show 64<=k by omega)]
  have h1:a/2^k=0:=Nat.div_eq_of_lt (Nat.lt_of_lt_of_le ha (Nat.pow_le_pow_right (by decide) (by omega)))
  rw[h1]
  omega
theorem jn {z:Int} (h:0<=z):∃n:Nat,z=(n:Int):=⟨z.toNat,by omega⟩
end Go.Am
end
section
namespace Go.Am
theorem Ds {α:Type} (l:List α) (k:Nat) (x:α):J (bI l k x)=J l:=by simp[J,bI]
theorem Xu {α:Type} (l r:List α):J (cm l r)=aE (J l) (J r):=by simp[J,cm,aE]
theorem Xv {α:Type} (n:Nat) (x:α):J (cR n x)=n:=by simp[J,cR]
theorem lK {n k:Nat} (h:n*k<=eZ):jV n k=some ():=if_pos h
theorem jT (k:Nat):aE 0 k=k:=by simp[aE]
theorem Gq {α:Type} {l:List α} {i:Nat} {a:α} (h:l[i]? =some a):dT (i:Int) (J l)=some i:=zr (XI h)
theorem X4 (a b:Int):dB a b= !decide (a=b):=by by_cases h:a=b<;>simp[dB,h]
theorem Xt {n:Nat}:∀{l:List Nat},n∈l->n<=l.sum
 |[],h=>by cases h
 |a::l,h=>by
  rw[List.sum_cons]
  rcases List.mem_cons.1 h with rfl|h
  ·omega
  ·have:=Xt h;omega
def gd (s:Nat) (k:Int):Int:=if(s:Int)<=k then k - s else -1
theorem S8 {s:Nat} {k:Int} (h:(s:Int)<=k):gd s k=k - s:=if_pos h
theorem Ej {s:Nat} {k:Int} (h:¬(s:Int)<=k):gd s k= -1:=if_neg h
def vY (k:Int):Prop:=0<=k/\k<=1048576
instance (k:Int):Decidable (vY k):=inferInstanceAs (Decidable (0<=k/\k<=1048576))
theorem Jk {o:Option Int} {s:Nat} {k:Int} {f:Int->Option Int} (ho:o=some (gd s k)):o.U (fun i=>aw (bc i 0) (some (-1)) (f i))=if(s:Int)<=k then f (k - s) else some (-1):=by
 rw[ho,au]
 unfold gd
 by_cases h:(s:Int)<=k
 ·rw[if_pos h,if_pos h,aS (fh (by omega))]
 ·rw[if_neg h,if_neg h,aT (gC (by omega))]
theorem ZY {α:Type} (sz:α->Nat):∀(l:List α) (i:Nat) (k:Int),0<=k->(match oU (fun _ (k:Int) e=>if(sz e:Int)<=k then some (k - sz e) else none) i k l with|some k'=>k'|none=> -1)=gd (l.map sz).sum k
 |[],i,k,hk=>by simp[oU,gd,hk]
 |e::l,i,k,hk=>by
  rw[oU]
  by_cases h:(sz e:Int)<=k
  ·rw[if_pos h]
   simp only
   rw[ZY sz l (i+1) (k - sz e) (by omega)]
   simp only[gd,List.map_cons,List.sum_cons]
   by_cases h2:((l.map sz).sum:Int)<=k - sz e
   ·rw[if_pos h2,if_pos (by omega)];omega
   ·rw[if_neg h2,if_neg (by omega)]
  ·rw[if_neg h]
   simp only[gd,List.map_cons,List.sum_cons]
   rw[if_neg (by omega)]
theorem akT {α:Type} (F:α×Int->Option Int) (sz:α->Nat) (l:List α) (hl:l.length<=9223372036854775807) (hF:∀e∈l,∀k,vY k->F (e,k)=some (gd (sz e) k)) (k:Int) (hk:vY k):
  aw (bc (mf .i64 k (aL (J l))) 0) (some (-1)) (bK (bf aA (fun(s:List α×Int×Int)=>aw (bc s.2.2 (aL (J s.1))) ((dz s.1 s.2.2).U fun e=>(F (e,s.2.1)).U fun i=>aw (bc i 0) (some (.inr (.inr (-1)))) (some (.inl (s.1,i,aM .i64 s.2.2 1)))) (some (.inr (.inl s.2.1)))) (l,mf .i64 k (aL (J l)),0)) (fun i=>some i))=some (gd (l.length+(l.map sz).sum) k):=by
 obtain⟨k0,k1⟩:=hk
 have hn:=nl l
 rw[rD (by omega) (by omega)]
 by_cases h:k<l.length
 ·rw[aT (gC (by omega)),gd,if_neg (by omega)]
 rw[aS (fh (by omega))]
 rw[XG l (fun(r:Int) i=>(l,r,(i:Int))) (fun _ r=>vY r) (fun _ (k:Int) e=>if(sz e:Int)<=k then some (k - sz e) else none) (Sum.inr (-1)) (fun r=>Sum.inl r) ?_ ?_ ?_ (s:=k - aL (J l)) ⟨by omega,by omega⟩ ?_ (cG (by omega))]
 ·have:=ZY sz l 0 (k - aL (J l)) (by omega)
  have e:gd (l.length+(l.map sz).sum) k=gd (l.map sz).sum (k - aL (J l)):=by
   simp only[gd]
   by_cases h2:((l.map sz).sum:Int)<=k - aL (J l)
   ·rw[if_pos h2,if_pos (by omega)];omega
   ·rw[if_neg h2,if_neg (by omega)]
  rw[e,<-this]
  cases oU (fun _ (k:Int) e=>if(sz e:Int)<=k then some (k - sz e) else none) 0 (k - aL (J l)) l<;>rfl
 ·intro i r e r' ha hr hs
  split at hs
  ·rename_i gi
   injection hs with hs
   subst hs
   simp only
   rw[aT (iR ha),fF,ha,au,hF e (List.mem_of_getElem? ha) r hr,au,gd,if_pos gi,aS (fh (by omega)),mR ha (by omega)]
   exact⟨rfl,by have:=hr.1;have:=hr.2;constructor<;>omega⟩
  ·cases hs
 ·intro i r e ha hr hs
  split at hs
  ·cases hs
  ·rename_i gi
   simp only
   rw[aT (iR ha),fF,ha,au,hF e (List.mem_of_getElem? ha) r hr,au,gd,if_neg gi,aT (gC (by omega))]
 ·intro r _
  simp only
  rw[aS (ot l)]
 ·rfl
def tA {α:Type} (z:α) (l:List α) (i:Nat):List α:=l.take i++List.replicate (l.length - i) z
theorem Vh {α Y:Type} {f:(List α×Int)×List α->Option (((List α×Int)×List α)⊕Y)} (l:List α) (z:α) {r:Y}
  (h1:∀(i:Nat) e ys,l[i]? =some e->ys.length=l.length->ys[i]? =some z->f ((l,(i:Int)),ys)=some (.inl ((l,((i+1:Nat):Int)),ys.set i e)))
  (h2:f ((l,(l.length:Int)),l)=some (.inr r)) (hl:l.length<18446744073709551616):bf aA f ((l,0),cR (J l) z)=some r:=by
 refine dP (fun i=>((l,(i:Int)),tA z l i)) l.length ?_ ?_ ?_ (cG hl)
 ·intro j hj
  obtain⟨e,he⟩:∃e,l[j]? =some e:=⟨_,List.getElem?_eq_getElem hj⟩
  rw[h1 j e _ he (by simp[tA];omega)]
  ·have:(tA z l j).set j e=tA z l (j+1):=by
    unfold tA
    rw[List.set_append_right _ _ (by simp;omega),List.take_add_one,he,show l.length - j=(l.length - (j+1))+1 by omega,List.replicate_succ]
    simp only[List.length_take,show j - min j l.length=0 by omega,List.set_cons_zero,Option.toList_some,List.append_assoc,List.cons_append,List.nil_append]
   rw[this]
  ·unfold tA
   rw[List.getElem?_append_right (by simp;omega)]
   simp only[List.length_take,show j - min j l.length=0 by omega]
   rw[List.getElem?_replicate,if_pos (by omega)]
 ·have:tA z l l.length=l:=by simp[tA]
  rw[this]
  exact h2
 ·simp[tA,cR,J]
theorem UR {α:Type} [DecidableEq α] (E:α×α->Option Bool) (l r:List α) (hE:∀a∈l,∀b,E (a,b)=some (decide (a=b))) (hl:l.length<=4611686018427387904):
  aw (dB (aL (J l)) (aL (J r))) (some false) (bK (bf aA (fun s:List α×List α×Int=>aw (bc s.2.2 (aL (J s.1))) ((dz s.1 s.2.2).U fun a=>(dz s.2.1 s.2.2).U fun b=>(E (a,b)).U fun c=>aw (eC c) (some (.inr (.inr false))) (some (.inl (s.1,s.2.1,aM .i64 s.2.2 1)))) (some (.inr (.inl ())))) (l,r,0)) fun _=>some true)=some (decide (l=r)):=by
 by_cases Ht:l.length=r.length
 ·rw[aS (kC (by have:=nl l;have:=nl r;omega))]
  have hz:(l.zip r).length=l.length:=by simp;omega
  rw[AE (l.zip r) (fun i=>(l,r,(i:Int))) (fun p=>decide (p.1=p.2)) (Sum.inr false) (Sum.inl ()) ?_ ?_ ?_ ?_ (cG (by omega))]
  ·have:((l.zip r).all fun p=>decide (p.1=p.2))=decide (l=r):=by
    clear hE hl hz
    induction l generalizing r with
    |nil=>cases r with
     |nil=>rfl
     |cons b r=>cases Ht
    |cons a l ih=>cases r with
     |nil=>cases Ht
     |cons b r=>
      simp only[List.zip_cons_cons,List.all_cons]
      rw[ih r (by simpa using Ht)]
      simp only[List.cons.injEq,Bool.decide_and]
   rw[this]
   by_cases h:l=r<;>simp[h,bK]
  ·rintro i ⟨a,b⟩ ha hp
   obtain⟨h1,h2⟩:=List.getElem?_zip_eq_some.1 ha
   simp only at h1 h2 hp⊢
   rw[aT (iR h1),fF,h1,au,fF,h2,au,hE a (List.mem_of_getElem? h1),au,aS (by rw[hp];rfl),mR h1 (by omega)]
  ·rintro i ⟨a,b⟩ ha hp
   obtain⟨h1,h2⟩:=List.getElem?_zip_eq_some.1 ha
   simp only at h1 h2 hp⊢
   rw[aT (iR h1),fF,h1,au,fF,h2,au,hE a (List.mem_of_getElem? h1),au,aT (by rw[hp];rfl)]
  ·simp only
   rw[hz,aS (ot l)]
  ·rfl
 ·rw[aT (mQ (by have:=nl l;have:=nl r;omega)),decide_eq_false (fun h=>Ht (by rw[h]))]
theorem abz (l r:List Int) (hl:l.length<=4611686018427387904):
  aw (dB (aL (J l)) (aL (J r))) (some false) (bK (bf aA (fun s:List Int×List Int×Int=>aw (bc s.2.2 (aL (J s.1))) ((dz s.1 s.2.2).U fun a=>(dz s.2.1 s.2.2).U fun b=>aw (dB a b) (some (.inr (.inr false))) (some (.inl (s.1,s.2.1,aM .i64 s.2.2 1)))) (some (.inr (.inl ())))) (l,r,0)) fun _=>some true)=some (decide (l=r)):=by
 have:=UR (fun p:Int×Int=>some (decide (p.1=p.2))) l r (fun _ _ _=>rfl) hl
 refine Eq.trans ?_ this
 congr 3
end Go.Am
end
section
namespace Go.Am
def fO {α:Type} (bH:α->Nat) (mk:α->Int->α):List α->Int->List α
 |[],_=>[]
 |e::l,k=>mk e k::fO bH mk l (k+bH e)
def gU {α:Type} (bH:α->Nat) (l:List α):Nat:=(l.map bH).sum
theorem abb {α:Type} (bH:α->Nat):gU bH []=0:=rfl
theorem Gv {α:Type} (bH:α->Nat) (e:α) (l:List α):gU bH (e::l)=bH e+gU bH l:=by simp[gU]
theorem aba {α:Type} (bH:α->Nat) (l r:List α):gU bH (l++r)=gU bH l+gU bH r:=by simp[gU]
theorem AG {α:Type} (bH:α->Nat) (mk:α->Int->α):∀(l:List α) (k:Int),(fO bH mk l k).length=l.length
 |[],_=>rfl
 |e::l,k=>by simp[fO,AG bH mk l]
theorem XQ {α:Type} (bH:α->Nat) (mk:α->Int->α):∀(l r:List α) (k:Int),fO bH mk (l++r) k=fO bH mk l k++fO bH mk r (k+gU bH l)
 |[],r,k=>by simp[fO,gU]
 |e::l,r,k=>by
  simp only[List.cons_append,fO,XQ bH mk l r,Gv]
  rw[show k+(bH e:Int)+(gU bH l:Nat)=k+((bH e+gU bH l:Nat):Int) by omega]
theorem Eg {α:Type} (bH:α->Nat) (mk:α->Int->α) (f:α->Nat) (hf:∀e k,f (mk e k)=f e):∀(l:List α) (k:Int),((fO bH mk l k).map f).sum=(l.map f).sum
 |[],_=>rfl
 |e::l,k=>by simp[fO,hf,Eg bH mk f hf l]
theorem On {α:Type} (bH:α->Nat) (mk:α->Int->α) (hc:∀e k,bH (mk e k)=bH e) (hm:∀e k,mk (mk e k) k=mk e k):∀(l:List α) (k:Int),fO bH mk (fO bH mk l k) k=fO bH mk l k
 |[],_=>rfl
 |e::l,k=>by simp only[fO,hm,hc,On bH mk hc hm l]
theorem Gw {α:Type} (bH sz:α->Nat) (hc:∀e,bH e<=4*(1+sz e)):∀l:List α,gU bH l<=4*(l.length+(l.map sz).sum)
 |[]=>by simp[gU]
 |e::l=>by
  have:=Gw bH sz hc l
  have:=hc e
  simp only[Gv,List.length_cons,List.map_cons,List.sum_cons]
  omega
theorem XM {α Y:Type} {f:(Int×Int)×List α->Option (((Int×Int)×List α)⊕Y)} (l:List α) (bH sz:α->Nat) (mk:α->Int->α) (k:Int) {r:Y} (hc:∀e,bH e<=4*(1+sz e))
  (hk:0<=k) (hb:k+4*(l.length+(l.map sz).sum:Nat)<=1099511627776)
  (h1:∀(i:Nat) e ys (k':Int),l[i]? =some e->ys.length=l.length->ys[i]? =some e->0<=k'->k'+4*(1+sz e:Nat)<=1099511627776->f ((k',(i:Int)),ys)=some (.inl ((k'+bH e,((i+1:Nat):Int)),ys.set i (mk e k'))))
  (h2:f ((k+gU bH l,(l.length:Int)),fO bH mk l k)=some (.inr r)):bf aA f ((k,0),l)=some r:=by
 refine dP (fun i=>((k+(gU bH (l.take i):Nat),(i:Int)),fO bH mk (l.take i) k++l.drop i)) l.length ?_ ?_ ?_ (cG (by omega))
 ·intro j hj
  obtain⟨e,he⟩:∃e,l[j]? =some e:=⟨_,List.getElem?_eq_getElem hj⟩
  have hlen:(fO bH mk (l.take j) k).length=j:=by rw[AG,List.length_take];omega
  have alC:(l.map sz).sum=((l.take j).map sz).sum+(sz e+((l.drop (j+1)).map sz).sum):=by
   conv=>lhs;rw[<-List.take_append_drop j l,drop_cons he]
   rw[List.map_append,List.sum_append,List.map_cons,List.sum_cons]
  have hct:=Gw bH sz hc (l.take j)
  rw[List.length_take] at hct
  rw[h1 j e _ _ he (by rw[List.length_append,hlen,List.length_drop];omega) (by rw[List.getElem?_append_right (by omega),hlen,Nat.sub_self,List.getElem?_drop];simpa using he) (by omega) (by omega)]
  have e1:l.take (j+1)=l.take j++[e]:=by rw[List.take_add_one,he];rfl
  have e2:(fO bH mk (l.take j) k++l.drop j).set j (mk e (k+(gU bH (l.take j):Nat)))=fO bH mk (l.take (j+1)) k++l.drop (j+1):=by
   rw[e1,XQ,drop_cons he,List.set_append_right _ _ (by omega),hlen,Nat.sub_self,List.set_cons_zero,List.append_assoc]
   rfl
  rw[e2,e1,aba,Gv,abb,show k+(gU bH (l.take j):Nat)+(bH e:Nat)=k+((gU bH (l.take j)+(bH e+0):Nat):Int) by omega]
 ·simp only[List.take_length,List.drop_length,List.append_nil]
  exact h2
 ·simp[gU,fO]
theorem VX {α:Type} [DecidableEq α] (bH:α->Nat) (mk:α->Int->α):∀(l:List α) (i:Nat) (k:Int),
  oU (fun _ (k:Int) e=>if e=mk e k then some (k+(bH e:Int)) else none) i k l=if l=fO bH mk l k then some (k+(gU bH l:Int)) else none
 |[],i,k=>by simp[oU,fO,gU]
 |e::l,i,k=>by
  simp only[oU,fO,Gv]
  by_cases h:e=mk e k
  ·rw[if_pos h]
   simp only
   rw[VX bH mk l]
   by_cases h2:l=fO bH mk l (k+bH e)
   ·rw[if_pos h2,if_pos (by rw[<-h,<-h2])]
    congr 1;omega
   ·rw[if_neg h2,if_neg (fun h3=>h2 (List.cons.inj h3).2)]
  ·rw[if_neg h,if_neg (fun h3=>h (List.cons.inj h3).1)]
theorem VY {α:Type} [DecidableEq α] {f:List α×Int×Int->Option ((List α×Int×Int)⊕(Int⊕Int))} (l:List α) (bH sz:α->Nat) (mk:α->Int->α) (k:Int) (hc:∀e,bH e<=4*(1+sz e))
  (hk:0<=k) (hb:k+4*(l.length+(l.map sz).sum:Nat)<=1099511627776)
  (h1:∀(i:Nat) e (k':Int),l[i]? =some e->0<=k'->k'+4*(1+sz e:Nat)<=1099511627776->f (l,k',(i:Int))=if e=mk e k' then some (.inl (l,k'+(bH e:Int),((i+1:Nat):Int))) else some (.inr (.inr (-1))))
  (h2:∀k',f (l,k',(l.length:Int))=some (.inr (.inl k'))):bf aA f (l,k,0)=some (if l=fO bH mk l k then .inl (k+(gU bH l:Int)) else .inr (-1)):=by
 rw[XG l (fun(k:Int) i=>(l,k,(i:Int))) (fun i k'=>0<=k'/\k'+4*((l.drop i).length+((l.drop i).map sz).sum:Nat)<=1099511627776) (fun _ (k:Int) e=>if e=mk e k then some (k+(bH e:Int)) else none) (Sum.inr (-1)) (fun k=>Sum.inl k) ?_ ?_ ?_ (s:=k) ⟨hk,by simpa using hb⟩ ?_ (cG (by omega))]
 ·rw[VX]
  by_cases h:l=fO bH mk l k
  ·rw[if_pos h,if_pos h]
  ·rw[if_neg h,if_neg h]
 ·intro i k' e s' he hI hs
  rw[drop_cons he] at hI
  simp only[List.length_cons,List.map_cons,List.sum_cons] at hI
  split at hs
  ·rename_i hm
   injection hs with hs
   subst hs
   have hce:=hc e
   exact⟨by rw[h1 i e k' he hI.1 (by omega),if_pos hm],by omega,by omega⟩
  ·cases hs
 ·intro i k' e he hI hs
  rw[drop_cons he] at hI
  simp only[List.length_cons,List.map_cons,List.sum_cons] at hI
  split at hs
  ·cases hs
  ·rename_i hm
   rw[h1 i e k' he hI.1 (by omega),if_neg hm]
 ·intro k' _
  exact h2 k'
 ·rfl
theorem Hl {o:Option Int} {p:Prop} [Decidable p] {k:Int} {Y:Type} {f:Int->Option Y} {y:Option Y} (hk:0<=k) (ho:o=some (if p then k else -1)):
  o.U (fun i=>aw (bc i 0) y (f i))=if p then f k else y:=by
 rw[ho,au]
 by_cases h:p
 ·rw[if_pos h,if_pos h,aS (fh hk)]
 ·rw[if_neg h,if_neg h,aT (gC (by omega))]
theorem ZO {α:Type}:∀l:List α,(l.map fun _=>0).sum=0
 |[]=>rfl
 |_::l=>by simp[ZO l]
theorem akS {o:Option Int} {s:Nat} {k:Int} {f:Int->Option Bool} (ho:o=some (gd s k)):o.U (fun i=>aw (bc i 0) (some true) (f i))=if(s:Int)<=k then f (k - s) else some true:=by
 rw[ho,au]
 unfold gd
 by_cases h:(s:Int)<=k
 ·rw[if_pos h,if_pos h,aS (fh (by omega))]
 ·rw[if_neg h,if_neg h,aT (gC (by omega))]
theorem air (b:Bool):X3 b b=false:=by cases b<;>rfl
theorem ais (a:Int):dB a a=false:=kC rfl
theorem aiA:eC true=false:=rfl
theorem wO {α:Type} {xs:List α} {n:Nat} (h:xs.length=n):bg xs 0 n=some xs:=by subst h;exact ik xs
theorem Bf {a b:Nat} (h:a=b):oD a b=some ():=if_pos h
theorem qU {n m:Nat} (h:n=m):ae 0 n m=some ():=by subst h;exact bq n
theorem adC {α:Type} {l:List α} {i:Nat} {a b:α} (h:l[i]? =some a):(l.set i b)[i]? =some b:=List.getElem?_set_self (XI h)
theorem adB {α:Type} {l:List α} {i:Nat} {a b:α} (h:l[i]? =some a):dg (bI l i b) i=some b:=adC h
theorem akk {α:Type} (l:List α) (i:Nat) (a b:α):bI (bI l i a) i b=bI l i b:=by simp[bI,List.set_set]
end Go.Am
end
