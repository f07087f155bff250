/- MB, B0, B1, B2: parts of the proof. No condition. -/
import Derived.Test.YtbgmbplglejidaaS7
import Derived.Laws.BitsLemmas
set_option linter.unusedVariables false
set_option linter.unusedSimpArgs false
section
namespace Go.Am
theorem Js {X Y:Type} {f:X->Option (X⊕Y)} {r:Y} (P:Nat->X->Prop) (step:∀n x,P n x->f x=some (.inr r)\/∃m x',m<n/\f x=some (.inl x')/\P m x'):
  ∀n x,P n x->∀N,n<N->bu N f x=some r:=by
 intro n
 induction n using Nat.strongRecOn with
 |ind n ih=>
  intro x hP N hN
  cases N with
  |zero=>omega
  |succ N=>
   rcases step n x hP with h|⟨m,x',hm,h,hP'⟩
   ·simp only[bu,h]
   ·simp only[bu,h]
    exact ih m hm x' hP' N (by omega)
theorem dj {α:Type} (xs:List α) (i:Nat):dd xs (i:Int)=xs[i]? :=by simp[dd]
theorem xy {n:Int} (h1: -9223372036854775808<=n) (h2:n<=9223372036854775807):IntKind.wrap .i64 n=n:=by rw[IntKind.wrap_i64];omega
theorem eK {a b:Int} (h1: -9223372036854775808<=a+b) (h2:a+b<=9223372036854775807):aU .i64 a b=a+b:=xy h1 h2
theorem kV {a b:Int} (h1: -9223372036854775808<=a - b) (h2:a - b<=9223372036854775807):dV .i64 a b=a - b:=xy h1 h2
theorem aw {α β:Type} (x:α) (f:α->Option β):(some x).U f=f x:=rfl
theorem eU {X ρ:Type} (x:X) (k:X->Option ρ):bD (some (.inl x)) k=k x:=rfl
theorem Ej {X ρ:Type} (x:ρ) (k:X->Option ρ):bD (some (.inr x):Option (X⊕ρ)) k=some x:=rfl
theorem aH {α:Type} {b:Bool} (h:b=true) (x y:α):ak b x y=x:=by rw[h];rfl
theorem aK {α:Type} {b:Bool} (h:b=false) (x y:α):ak b x y=y:=by rw[h];rfl
theorem nl {α:Type} (l:List α):aI (J l)=(l.length:Int):=rfl
theorem df {a b:Int} (h:a<b):bd a b=true:=decide_eq_true h
theorem cP {a b:Int} (h:b<=a):bd a b=false:=decide_eq_false (Int.not_lt.2 h)
theorem o7 {a b:Int} (h:a<=b):fM a b=true:=decide_eq_true h
theorem Bz {a b:Int} (h:b<a):fM a b=false:=decide_eq_false (Int.not_le.2 h)
theorem rj {a b:Int} (h:a=b):bL a b=true:=by simp[bL,h]
theorem rh {a b:Int} (h:a≠b):bL a b=false:=by simp[bL,h]
theorem n9 {a b:Int} (h:a≠b):dt a b=true:=by simp[dt,h]
theorem np {a b:Int} (h:a=b):dt a b=false:=by simp[dt,h]
theorem BM {p:Prop} [Decidable p] (h:¬p):cC (decide p)=true:=by simp[cC,h]
theorem wW {p:Prop} [Decidable p] (h:p):cC (decide p)=false:=by simp[cC,h]
theorem bW (n:Nat):ae 0 n n=some ():=by simp[ae]
theorem gO {α:Type} (xs:List α):c9 xs (J xs)=some xs:=by simp[c9,J]
theorem ky {α:Type} (xs:List α):cd xs 0 (J xs)=some xs:=by simp[cd,J]
theorem y6 {n by_:Nat} (h:n*by_<=dA):qB (aI n) (aI n) by_=some n:=by simp[qB,aI,h]
theorem pL {i n:Nat} (h:i<n):da (i:Int) n=some i:=by simp[da];omega
theorem cX {n:Nat} (h:n<18446744073709551616):n<az:=h
theorem drop_cons {α:Type} {xs:List α} {i:Nat} {x:α} (h:xs[i]? =some x):xs.drop i=x::xs.drop (i+1):=by
 obtain⟨h1,h2⟩:=List.getElem?_eq_some_iff.1 h
 rw[List.drop_eq_getElem_cons h1,h2]
end Go.Am
end
section
namespace Go.Am
theorem aaY {X Y:Type} {f:X->Option (X⊕Y)} (st:Nat->X) {r:Y}:∀(n i:Nat),(∀j,i<=j->j<i+n->f (st j)=some (.inl (st (j+1))))->f (st (i+n))=some (.inr r)->∀N,n<N->bu N f (st i)=some r
 |0,i,_,h2,N+1,_=>by
  have h2:f (st i)=some (.inr r):=h2
  simp only[bu,h2]
 |n+1,i,h1,h2,N+1,hN=>by
  simp only[bu,h1 i (Nat.le_refl i) (by omega)]
  exact aaY st n (i+1) (fun j h3 h4=>h1 j (by omega) (by omega)) (by rw[show i+1+n=i+(n+1) by omega];exact h2) N (by omega)
 |_,_,_,_,0,h=>by omega
theorem ef {X Y:Type} {f:X->Option (X⊕Y)} (st:Nat->X) {r:Y} (n:Nat) (h1:∀j,j<n->f (st j)=some (.inl (st (j+1)))) (h2:f (st n)=some (.inr r)) {x0:X} (h0:x0=st 0) {N:Nat} (hN:n<N):bu N f x0=some r:=by
 subst h0
 exact aaY st n 0 (fun j _ h=>h1 j (by omega)) (by rw[Nat.zero_add];exact h2) N hN
theorem Ev {X Y α:Type} {f:X->Option (X⊕Y)} (es:List α) (mk:Nat->X) (p:α->Bool) (qZ dH:Y)
  (h1:∀i a,es[i]? =some a->p a=true->f (mk i)=some (.inl (mk (i+1)))) (h2:∀i a,es[i]? =some a->p a=false->f (mk i)=some (.inr qZ)) (h3:f (mk es.length)=some (.inr dH)) {x0:X} (h0:x0=mk 0) {N:Nat} (hN:es.length<N):
  bu N f x0=some (if es.all p=true then dH else qZ):=by
 subst h0
 have cV:∀(k:Nat) (i:Nat),i+k=es.length->∀N,k<N->bu N f (mk i)=some (if(es.drop i).all p=true then dH else qZ):=by
  intro k
  induction k with
  |zero=>
   intro i hi N hN
   obtain⟨N,rfl⟩:∃M,N=M+1:=⟨N - 1,by omega⟩
   have:i=es.length:=by omega
   subst this
   simp only[bu,h3,List.drop_length,List.all_nil,if_true]
  |succ k ih=>
   intro i hi N hN
   obtain⟨N,rfl⟩:∃M,N=M+1:=⟨N - 1,by omega⟩
   obtain⟨a,ha⟩:∃a,es[i]? =some a:=⟨_,List.getElem?_eq_getElem (by omega)⟩
   rw[drop_cons ha]
   cases hp:p a with
   |true=>
    simp only[bu,h1 i a ha hp,List.all_cons,hp,Bool.true_and]
    exact ih (i+1) (by omega) N (by omega)
   |false=>simp only[bu,h2 i a ha hp,List.all_cons,hp,Bool.false_and,Bool.false_eq_true,if_false]
 exact cV es.length 0 (by omega) N hN
def dZ {S α:Type} (step:Nat->S->α->Option S):Nat->S->List α->Option S
 |_,s,[]=>some s
 |i,s,a::as=>match step i s a with
  |some s'=>dZ step (i+1) s' as
  |none=>none
theorem aaX {X Y α S:Type} {f:X->Option (X⊕Y)} (es:List α) (mk:S->Nat->X) (I:Nat->S->Prop) (step:Nat->S->α->Option S) (qZ:Y) (dH:S->Y)
  (h1:∀i s a s',es[i]? =some a->I i s->step i s a=some s'->f (mk s i)=some (.inl (mk s' (i+1)))/\I (i+1) s')
  (h2:∀i s a,es[i]? =some a->I i s->step i s a=none->f (mk s i)=some (.inr qZ))
  (h3:∀s,I es.length s->f (mk s es.length)=some (.inr (dH s))) {s:S} (h0:I 0 s) {x0:X} (hx:x0=mk s 0) {N:Nat} (hN:es.length<N):
  bu N f x0=some (match dZ step 0 s es with|some s'=>dH s'|none=>qZ):=by
 subst hx
 have cV:∀(k:Nat) (i:Nat) (s:S),I i s->i+k=es.length->∀N,k<N->bu N f (mk s i)=some (match dZ step i s (es.drop i) with|some s'=>dH s'|none=>qZ):=by
  intro k
  induction k with
  |zero=>
   intro i s hs hi N hN
   obtain⟨N,rfl⟩:∃M,N=M+1:=⟨N - 1,by omega⟩
   have:i=es.length:=by omega
   subst this
   simp only[bu,h3 s hs,List.drop_length,dZ]
  |succ k ih=>
   intro i s hs hi N hN
   obtain⟨N,rfl⟩:∃M,N=M+1:=⟨N - 1,by omega⟩
   obtain⟨a,ha⟩:∃a,es[i]? =some a:=⟨_,List.getElem?_eq_getElem (by omega)⟩
   rw[drop_cons ha]
   cases hp:step i s a with
   |some s'=>
    obtain⟨h4,h5⟩:=h1 i s a s' ha hs hp
    simp only[bu,h4,dZ,hp]
    exact ih (i+1) s' h5 (by omega) N (by omega)
   |none=>simp only[bu,h2 i s a ha hs hp,dZ,hp]
 exact cV es.length 0 s h0 (by omega) N hN
def sK {S α:Type} (step:Nat->S->α->S):Nat->S->List α->S
 |_,s,[]=>s
 |i,s,a::as=>sK step (i+1) (step i s a) as
theorem akw {X Y α S:Type} {f:X->Option (X⊕Y)} (es:List α) (mk:S->Nat->X) (I:Nat->S->Prop) (step:Nat->S->α->S) (dH:S->Y)
  (h1:∀i s a,es[i]? =some a->I i s->f (mk s i)=some (.inl (mk (step i s a) (i+1)))/\I (i+1) (step i s a))
  (h3:∀s,I es.length s->f (mk s es.length)=some (.inr (dH s))) {s:S} (h0:I 0 s) {x0:X} (hx:x0=mk s 0) {N:Nat} (hN:es.length<N):
  bu N f x0=some (dH (sK step 0 s es)):=by
 subst hx
 have cV:∀(k:Nat) (i:Nat) (s:S),I i s->i+k=es.length->∀N,k<N->bu N f (mk s i)=some (dH (sK step i s (es.drop i))):=by
  intro k
  induction k with
  |zero=>
   intro i s hs hi N hN
   obtain⟨N,rfl⟩:∃M,N=M+1:=⟨N - 1,by omega⟩
   have:i=es.length:=by omega
   subst this
   simp only[bu,h3 s hs,List.drop_length,sK]
  |succ k ih=>
   intro i s hs hi N hN
   obtain⟨N,rfl⟩:∃M,N=M+1:=⟨N - 1,by omega⟩
   obtain⟨a,ha⟩:∃a,es[i]? =some a:=⟨_,List.getElem?_eq_getElem (by omega)⟩
   rw[drop_cons ha]
   obtain⟨h4,h5⟩:=h1 i s a ha hs
   simp only[bu,h4,sK]
   exact ih (i+1) _ h5 (by omega) N (by omega)
 exact cV es.length 0 s h0 (by omega) N hN
theorem mP {α:Type} {es:List α} {i:Nat} {a:α} (h:es[i]? =some a):bd (i:Int) (aI (J es))=true:=by
 have:=(List.getElem?_eq_some_iff.1 h).1
 exact df (by have:=nl es;omega)
theorem rO {α:Type} (es:List α):bd ((es.length:Nat):Int) (aI (J es))=false:=cP (by have:=nl es;omega)
theorem pj {α:Type} {es:List α} {i:Nat} {a:α} (h:es[i]? =some a) (hl:es.length<=9223372036854775807):aU .i64 (i:Int) 1=((i+1:Nat):Int):=by
 have:=(List.getElem?_eq_some_iff.1 h).1
 rw[eK (by omega) (by omega)];omega
theorem rP {α:Type} {es:List α} {i:Nat} {a:α} (h:es[i]? =some a):i<es.length:=(List.getElem?_eq_some_iff.1 h).1
theorem ad7 (n:Int) (aq2:0<=n) (aq3:n<2^63):IntKind.i64.wrap n=n:=by rw[IntKind.wrap_i64];omega
theorem aek {a b:Nat} (ha:a<2^63) (hb:b<2^63):HC .i64 (a:Int) (b:Int)=((a&&&b:Nat):Int):=(bits_nat .i64 63 (by decide) ad7 a b ha hb).1
theorem apH {a k:Nat} (ha:a<2^63):Cd .i64 (a:Int) (k:Int)=some ((a>>>k:Nat):Int):=by
 unfold Cd
 rw[if_neg (by omega)]
 congr 1
 rw[Int.toNat_natCast,Nat.shiftRight_eq_div_pow]
 by_cases h:k<=64
 ·rw[show min k (IntKind.bits .i64)=k from Nat.min_eq_left h]
  norm_cast
 ·rw[show min k (IntKind.bits .i64)=64 from Nat.min_eq_right (show 64<=k by omega)]
  have h1:a/2^k=0:=Nat.div_eq_of_lt (Nat.lt_of_lt_of_le ha (Nat.pow_le_pow_right (by decide) (by omega)))
  rw[h1]
  omega
theorem apG {k:Nat} (hk:k<63):xj .i64 1 (k:Int)=some ((2^k:Nat):Int):=by
 unfold xj
 rw[if_neg (by omega)]
 congr 1
 rw[Int.toNat_natCast,show min k (IntKind.bits .i64)=k from Nat.min_eq_left (by simp[IntKind.bits];omega),Int.one_mul]
 have:(2:Int)^k=((2^k:Nat):Int):=by norm_cast
 rw[this]
 refine ad7 _ (Int.natCast_nonneg _) ?_
 have:=Nat.pow_lt_pow_right (a:=2) (by decide) hk
 exact_mod_cast this
theorem jD {z:Int} (h:0<=z):∃n:Nat,z=(n:Int):=⟨z.toNat,by omega⟩
end Go.Am
end
section
namespace Go.Am
theorem Jq {α:Type} (l:List α) (k:Nat) (x:α):J (bg l k x)=J l:=by simp[J,bg]
theorem Ql {α:Type} (l r:List α):J (dP l r)=aC (J l) (J r):=by simp[J,dP,aC]
theorem aaO {α:Type} (n:Nat) (x:α):J (dN n x)=n:=by simp[J,dN]
theorem nO {n k:Nat} (h:n*k<=dA):jL n k=some ():=if_pos h
theorem eZ (k:Nat):aC 0 k=k:=by simp[aC]
theorem aqI {α:Type} (x:α):cd [x] 0 1=some [x]:=rfl
theorem Mx {α:Type} {l:List α} {i:Nat} {a:α} (h:l[i]? =some a):da (i:Int) (J l)=some i:=pL (rP h)
theorem akD (a b:Int):BC a b=min a b:=by unfold BC;split<;>omega
theorem JM (a b:Int):dt a b= !decide (a=b):=by by_cases h:a=b<;>simp[dt,h]
theorem aaN {n:Nat}:∀{l:List Nat},n∈l->n<=l.sum
 |[],h=>by cases h
 |a::l,h=>by
  rw[List.sum_cons]
  rcases List.mem_cons.1 h with rfl|h
  ·omega
  ·have:=aaN h;omega
def pD (s:Nat) (k:Int):Int:=if(s:Int)<=k then k - s else -1
theorem adD {s:Nat} {k:Int} (h:(s:Int)<=k):pD s k=k - s:=if_pos h
theorem KD {s:Nat} {k:Int} (h:¬(s:Int)<=k):pD s k= -1:=if_neg h
def Qd (k:Int):Prop:=0<=k/\k<=1048576
instance (k:Int):Decidable (Qd k):=inferInstanceAs (Decidable (0<=k/\k<=1048576))
theorem Wh {o:Option Int} {s:Nat} {k:Int} {f:Int->Option Int} (ho:o=some (pD s k)):o.U (fun i=>ak (bd i 0) (some (-1)) (f i))=if(s:Int)<=k then f (k - s) else some (-1):=by
 rw[ho,aw]
 unfold pD
 by_cases h:(s:Int)<=k
 ·rw[if_pos h,if_pos h,aK (cP (by omega))]
 ·rw[if_neg h,if_neg h,aH (df (by omega))]
def t7 {α:Type} (z:α) (l:List α) (i:Nat):List α:=l.take i++List.replicate (l.length - i) z
theorem ahq {α Y:Type} {f:(List α×Int)×List α->Option (((List α×Int)×List α)⊕Y)} (l:List α) (z:α) {r:Y}
  (h1:∀(i:Nat) e ys,l[i]? =some e->ys.length=l.length->ys[i]? =some z->f ((l,(i:Int)),ys)=some (.inl ((l,((i+1:Nat):Int)),ys.set i e)))
  (h2:f ((l,(l.length:Int)),l)=some (.inr r)) (hl:l.length<18446744073709551616):bu az f ((l,0),dN (J l) z)=some r:=by
 refine ef (fun i=>((l,(i:Int)),t7 z l i)) l.length ?_ ?_ ?_ (cX hl)
 ·intro j hj
  obtain⟨e,he⟩:∃e,l[j]? =some e:=⟨_,List.getElem?_eq_getElem hj⟩
  rw[h1 j e _ he (by simp[t7];omega)]
  ·have:(t7 z l j).set j e=t7 z l (j+1):=by
    unfold t7
    rw[List.set_append_right _ _ (by simp;omega),List.take_add_one,he,show l.length - j=(l.length - (j+1))+1 by omega,List.replicate_succ]
    simp only[List.length_take,show j - min j l.length=0 by omega,List.set_cons_zero,Option.toList_some,List.append_assoc,List.cons_append,List.nil_append]
   rw[this]
  ·unfold t7
   rw[List.getElem?_append_right (by simp;omega)]
   simp only[List.length_take,show j - min j l.length=0 by omega]
   rw[List.getElem?_replicate,if_pos (by omega)]
 ·have:t7 z l l.length=l:=by simp[t7]
  rw[this]
  exact h2
 ·simp[t7,dN,J]
theorem Yo {α:Type} [DecidableEq α] (E:α×α->Option Bool) (l r:List α) (hE:∀a∈l,∀b,E (a,b)=some (decide (a=b))) (hl:l.length<=4611686018427387904):
  ak (dt (aI (J l)) (aI (J r))) (some false) (bD (bu az (fun s:List α×List α×Int=>ak (bd s.2.2 (aI (J s.1))) ((dd s.1 s.2.2).U fun a=>(dd s.2.1 s.2.2).U fun b=>(E (a,b)).U fun c=>ak (cC c) (some (.inr (.inr false))) (some (.inl (s.1,s.2.1,aU .i64 s.2.2 1)))) (some (.inr (.inl ())))) (l,r,0)) fun _=>some true)=some (decide (l=r)):=by
 by_cases I1:l.length=r.length
 ·rw[aK (np (by have:=nl l;have:=nl r;omega))]
  have hz:(l.zip r).length=l.length:=by simp;omega
  rw[Ev (l.zip r) (fun i=>(l,r,(i:Int))) (fun p=>decide (p.1=p.2)) (Sum.inr false) (Sum.inl ()) ?_ ?_ ?_ ?_ (cX (by omega))]
  ·have:((l.zip r).all fun p=>decide (p.1=p.2))=decide (l=r):=by
    clear hE hl hz
    induction l generalizing r with
    |nil=>cases r with
     |nil=>rfl
     |cons b r=>cases I1
    |cons a l ih=>cases r with
     |nil=>cases I1
     |cons b r=>
      simp only[List.zip_cons_cons,List.all_cons]
      rw[ih r (by simpa using I1)]
      simp only[List.cons.injEq,Bool.decide_and]
   rw[this]
   by_cases h:l=r<;>simp[h,bD]
  ·rintro i ⟨a,b⟩ ha hp
   obtain⟨h1,h2⟩:=List.getElem?_zip_eq_some.1 ha
   simp only at h1 h2 hp⊢
   rw[aH (mP h1),dj,h1,aw,dj,h2,aw,hE a (List.mem_of_getElem? h1),aw,aK (by rw[hp];rfl),pj h1 (by omega)]
  ·rintro i ⟨a,b⟩ ha hp
   obtain⟨h1,h2⟩:=List.getElem?_zip_eq_some.1 ha
   simp only at h1 h2 hp⊢
   rw[aH (mP h1),dj,h1,aw,dj,h2,aw,hE a (List.mem_of_getElem? h1),aw,aH (by rw[hp];rfl)]
  ·simp only
   rw[hz,aK (rO l)]
  ·rfl
 ·rw[aH (n9 (by have:=nl l;have:=nl r;omega)),decide_eq_false (fun h=>I1 (by rw[h]))]
theorem afq (l r:List Int) (hl:l.length<=4611686018427387904):
  ak (dt (aI (J l)) (aI (J r))) (some false) (bD (bu az (fun s:List Int×List Int×Int=>ak (bd s.2.2 (aI (J s.1))) ((dd s.1 s.2.2).U fun a=>(dd s.2.1 s.2.2).U fun b=>ak (dt a b) (some (.inr (.inr false))) (some (.inl (s.1,s.2.1,aU .i64 s.2.2 1)))) (some (.inr (.inl ())))) (l,r,0)) fun _=>some true)=some (decide (l=r)):=by
 have:=Yo (fun p:Int×Int=>some (decide (p.1=p.2))) l r (fun _ _ _=>rfl) hl
 refine Eq.trans ?_ this
 congr 3
end Go.Am
end
section
namespace Go.Am
def fN {α:Type} (bA:α->Nat) (mk:α->Int->α):List α->Int->List α
 |[],_=>[]
 |e::l,k=>mk e k::fN bA mk l (k+bA e)
def gU {α:Type} (bA:α->Nat) (l:List α):Nat:=(l.map bA).sum
theorem ae1 {α:Type} (bA:α->Nat):gU bA []=0:=rfl
theorem H5 {α:Type} (bA:α->Nat) (e:α) (l:List α):gU bA (e::l)=bA e+gU bA l:=by simp[gU]
theorem ae0 {α:Type} (bA:α->Nat) (l r:List α):gU bA (l++r)=gU bA l+gU bA r:=by simp[gU]
theorem BE {α:Type} (bA:α->Nat) (mk:α->Int->α):∀(l:List α) (k:Int),(fN bA mk l k).length=l.length
 |[],_=>rfl
 |e::l,k=>by simp[fN,BE bA mk l]
theorem aa8 {α:Type} (bA:α->Nat) (mk:α->Int->α):∀(l r:List α) (k:Int),fN bA mk (l++r) k=fN bA mk l k++fN bA mk r (k+gU bA l)
 |[],r,k=>by simp[fN,gU]
 |e::l,r,k=>by
  simp only[List.cons_append,fN,aa8 bA mk l r,H5]
  rw[show k+(bA e:Int)+(gU bA l:Nat)=k+((bA e+gU bA l:Nat):Int) by omega]
theorem Fu {α:Type} (bA:α->Nat) (mk:α->Int->α) (f:α->Nat) (hf:∀e k,f (mk e k)=f e):∀(l:List α) (k:Int),((fN bA mk l k).map f).sum=(l.map f).sum
 |[],_=>rfl
 |e::l,k=>by simp[fN,hf,Fu bA mk f hf l]
theorem QD {α:Type} (bA:α->Nat) (mk:α->Int->α) (hc:∀e k,bA (mk e k)=bA e) (hm:∀e k,mk (mk e k) k=mk e k):∀(l:List α) (k:Int),fN bA mk (fN bA mk l k) k=fN bA mk l k
 |[],_=>rfl
 |e::l,k=>by simp only[fN,hm,hc,QD bA mk hc hm l]
theorem H6 {α:Type} (bA sz:α->Nat) (hc:∀e,bA e<=4*(1+sz e)):∀l:List α,gU bA l<=4*(l.length+(l.map sz).sum)
 |[]=>by simp[gU]
 |e::l=>by
  have:=H6 bA sz hc l
  have:=hc e
  simp only[H5,List.length_cons,List.map_cons,List.sum_cons]
  omega
theorem aa3 {α Y:Type} {f:(Int×Int)×List α->Option (((Int×Int)×List α)⊕Y)} (l:List α) (bA sz:α->Nat) (mk:α->Int->α) (k:Int) {r:Y} (hc:∀e,bA e<=4*(1+sz e))
  (hk:0<=k) (hb:k+4*(l.length+(l.map sz).sum:Nat)<=1099511627776)
  (h1:∀(i:Nat) e ys (k':Int),l[i]? =some e->ys.length=l.length->ys[i]? =some e->0<=k'->k'+4*(1+sz e:Nat)<=1099511627776->f ((k',(i:Int)),ys)=some (.inl ((k'+bA e,((i+1:Nat):Int)),ys.set i (mk e k'))))
  (h2:f ((k+gU bA l,(l.length:Int)),fN bA mk l k)=some (.inr r)):bu az f ((k,0),l)=some r:=by
 refine ef (fun i=>((k+(gU bA (l.take i):Nat),(i:Int)),fN bA mk (l.take i) k++l.drop i)) l.length ?_ ?_ ?_ (cX (by omega))
 ·intro j hj
  obtain⟨e,he⟩:∃e,l[j]? =some e:=⟨_,List.getElem?_eq_getElem hj⟩
  have hlen:(fN bA mk (l.take j) k).length=j:=by rw[BE,List.length_take];omega
  have aq0:(l.map sz).sum=((l.take j).map sz).sum+(sz e+((l.drop (j+1)).map sz).sum):=by
   conv=>lhs;rw[<-List.take_append_drop j l,drop_cons he]
   rw[List.map_append,List.sum_append,List.map_cons,List.sum_cons]
  have hct:=H6 bA sz hc (l.take j)
  rw[List.length_take] at hct
  rw[h1 j e _ _ he (by rw[List.length_append,hlen,List.length_drop];omega) (by rw[List.getElem?_append_right (by omega),hlen,Nat.sub_self,List.getElem?_drop];simpa using he) (by omega) (by omega)]
  have e1:l.take (j+1)=l.take j++[e]:=by rw[List.take_add_one,he];rfl
  have e2:(fN bA mk (l.take j) k++l.drop j).set j (mk e (k+(gU bA (l.take j):Nat)))=fN bA mk (l.take (j+1)) k++l.drop (j+1):=by
   rw[e1,aa8,drop_cons he,List.set_append_right _ _ (by omega),hlen,Nat.sub_self,List.set_cons_zero,List.append_assoc]
   rfl
  rw[e2,e1,ae0,H5,ae1,show k+(gU bA (l.take j):Nat)+(bA e:Nat)=k+((gU bA (l.take j)+(bA e+0):Nat):Int) by omega]
 ·simp only[List.take_length,List.drop_length,List.append_nil]
  exact h2
 ·simp[gU,fN]
theorem ZA {α:Type} [DecidableEq α] (bA:α->Nat) (mk:α->Int->α):∀(l:List α) (i:Nat) (k:Int),
  dZ (fun _ (k:Int) e=>if e=mk e k then some (k+(bA e:Int)) else none) i k l=if l=fN bA mk l k then some (k+(gU bA l:Int)) else none
 |[],i,k=>by simp[dZ,fN,gU]
 |e::l,i,k=>by
  simp only[dZ,fN,H5]
  by_cases h:e=mk e k
  ·rw[if_pos h]
   simp only
   rw[ZA bA mk l]
   by_cases h2:l=fN bA mk l (k+bA e)
   ·rw[if_pos h2,if_pos (by rw[<-h,<-h2])]
    congr 1;omega
   ·rw[if_neg h2,if_neg (fun h3=>h2 (List.cons.inj h3).2)]
  ·rw[if_neg h,if_neg (fun h3=>h (List.cons.inj h3).1)]
theorem ZB {α:Type} [DecidableEq α] {f:List α×Int×Int->Option ((List α×Int×Int)⊕(Int⊕Int))} (l:List α) (bA sz:α->Nat) (mk:α->Int->α) (k:Int) (hc:∀e,bA e<=4*(1+sz e))
  (hk:0<=k) (hb:k+4*(l.length+(l.map sz).sum:Nat)<=1099511627776)
  (h1:∀(i:Nat) e (k':Int),l[i]? =some e->0<=k'->k'+4*(1+sz e:Nat)<=1099511627776->f (l,k',(i:Int))=if e=mk e k' then some (.inl (l,k'+(bA e:Int),((i+1:Nat):Int))) else some (.inr (.inr (-1))))
  (h2:∀k',f (l,k',(l.length:Int))=some (.inr (.inl k'))):bu az f (l,k,0)=some (if l=fN bA mk l k then .inl (k+(gU bA l:Int)) else .inr (-1)):=by
 rw[aaX l (fun(k:Int) i=>(l,k,(i:Int))) (fun i k'=>0<=k'/\k'+4*((l.drop i).length+((l.drop i).map sz).sum:Nat)<=1099511627776) (fun _ (k:Int) e=>if e=mk e k then some (k+(bA e:Int)) else none) (Sum.inr (-1)) (fun k=>Sum.inl k) ?_ ?_ ?_ (s:=k) ⟨hk,by simpa using hb⟩ ?_ (cX (by omega))]
 ·rw[ZA]
  by_cases h:l=fN bA mk l k
  ·rw[if_pos h,if_pos h]
  ·rw[if_neg h,if_neg h]
 ·intro i k' e s' he hI hs
  rw[drop_cons he] at hI
  simp only[List.length_cons,List.map_cons,List.sum_cons] at hI
  split at hs
  ·rename_i hm
   injection hs with hs
   subst hs
   have hce:=hc e
   exact⟨by rw[h1 i e k' he hI.1 (by omega),if_pos hm],by omega,by omega⟩
  ·cases hs
 ·intro i k' e he hI hs
  rw[drop_cons he] at hI
  simp only[List.length_cons,List.map_cons,List.sum_cons] at hI
  split at hs
  ·cases hs
  ·rename_i hm
   rw[h1 i e k' he hI.1 (by omega),if_neg hm]
 ·intro k' _
  exact h2 k'
 ·rfl
theorem Zz {o:Option Int} {p:Prop} [Decidable p] {k:Int} {Y:Type} {f:Int->Option Y} {y:Option Y} (hk:0<=k) (ho:o=some (if p then k else -1)):
  o.U (fun i=>ak (bd i 0) y (f i))=if p then f k else y:=by
 rw[ho,aw]
 by_cases h:p
 ·rw[if_pos h,if_pos h,aK (cP hk)]
 ·rw[if_neg h,if_neg h,aH (df (by omega))]
theorem adu {α:Type}:∀l:List α,(l.map fun _=>0).sum=0
 |[]=>rfl
 |_::l=>by simp[adu l]
theorem aqd {o:Option Int} {s:Nat} {k:Int} {f:Int->Option Bool} (ho:o=some (pD s k)):o.U (fun i=>ak (bd i 0) (some true) (f i))=if(s:Int)<=k then f (k - s) else some true:=by
 rw[ho,aw]
 unfold pD
 by_cases h:(s:Int)<=k
 ·rw[if_pos h,if_pos h,aK (cP (by omega))]
 ·rw[if_neg h,if_neg h,aH (df (by omega))]
theorem ana (b:Bool):EB b b=false:=by cases b<;>rfl
theorem anb (a:Int):dt a a=false:=np rfl
theorem abn:cC true=false:=rfl
theorem KS {α:Type} {xs:List α} {n:Nat} (h:xs.length=n):cd xs 0 n=some xs:=by subst h;exact ky xs
theorem pA {a b:Nat} (h:a=b):jF a b=some ():=if_pos h
theorem yj {n m:Nat} (h:n=m):ae 0 n m=some ():=by subst h;exact bW n
theorem ahG {α:Type} {l:List α} {i:Nat} {a b:α} (h:l[i]? =some a):(l.set i b)[i]? =some b:=List.getElem?_set_self (rP h)
theorem Ox {α:Type} {l:List α} {i:Nat} {a b:α} (h:l[i]? =some a):bY (bg l i b) i=some b:=ahG h
theorem acH {α:Type} (l:List α) (i:Nat) (a b:α):bg (bg l i a) i b=bg l i b:=by simp[bg,List.set_set]
end Go.Am
end
