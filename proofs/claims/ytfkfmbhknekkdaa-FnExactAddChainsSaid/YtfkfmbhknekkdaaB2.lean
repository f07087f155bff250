/- MB, B0, B1, B2: parts of the proof. No condition. -/
import Derived.Test.YtfkfmbhknekkdaaS7
import Derived.Laws.BitsLemmas
set_option linter.unusedVariables false
set_option linter.unusedSimpArgs false
section
namespace Go.Am
theorem ft {α:Type} (xs:List α) (i:Nat):dP xs (i:Int)=xs[i]? :=by simp[dP]
theorem Dh {n:Int} (h1: -9223372036854775808<=n) (h2:n<=9223372036854775807):IntKind.wrap .i64 n=n:=by rw[IntKind.wrap_i64];omega
theorem iY {a b:Int} (h1: -9223372036854775808<=a+b) (h2:a+b<=9223372036854775807):aP .i64 a b=a+b:=Dh h1 h2
theorem Ac {a b:Int} (h1: -9223372036854775808<=a - b) (h2:a - b<=9223372036854775807):nG .i64 a b=a - b:=Dh h1 h2
theorem bL {α β:Type} (x:α) (f:α->Option β):(some x).ah f=f x:=rfl
theorem lG {X ρ:Type} (x:X) (k:X->Option ρ):cJ (some (.inl x)) k=k x:=rfl
theorem F3 {X ρ:Type} (x:ρ) (k:X->Option ρ):cJ (some (.inr x):Option (X⊕ρ)) k=some x:=rfl
theorem bF {α:Type} {b:Bool} (h:b=true) (x y:α):aH b x y=x:=by rw[h];rfl
theorem bR {α:Type} {b:Bool} (h:b=false) (x y:α):aH b x y=y:=by rw[h];rfl
theorem nl {α:Type} (l:List α):be (aa l)=(l.length:Int):=rfl
theorem fK {a b:Int} (h:a<b):cr a b=true:=decide_eq_true h
theorem eV {a b:Int} (h:b<=a):cr a b=false:=decide_eq_false (Int.not_lt.2 h)
theorem sR {a b:Int} (h:a<=b):kP a b=true:=decide_eq_true h
theorem Cp {a b:Int} (h:b<a):kP a b=false:=decide_eq_false (Int.not_le.2 h)
theorem tK {a b:Int} (h:a=b):gd a b=true:=by simp[gd,h]
theorem tJ {a b:Int} (h:a≠b):gd a b=false:=by simp[gd,h]
theorem pW {a b:Int} (h:a≠b):fb a b=true:=by simp[fb,h]
theorem oA {a b:Int} (h:a=b):fb a b=false:=by simp[fb,h]
theorem Gs {p:Prop} [Decidable p] (h:¬p):fc (decide p)=true:=by simp[fc,h]
theorem Gt {p:Prop} [Decidable p] (h:p):fc (decide p)=false:=by simp[fc,h]
theorem cQ (n:Nat):aI 0 n n=some ():=by simp[aI]
theorem qg {α:Type} (xs:List α):iT xs (aa xs)=some xs:=by simp[iT,aa]
theorem ti {α:Type} (xs:List α):d7 xs 0 (aa xs)=some xs:=by simp[d7,aa]
theorem Gd {n by_:Nat} (h:n*by_<=fL):pV (be n) (be n) by_=some n:=by simp[pV,be,h]
theorem Ev {i n:Nat} (h:i<n):iG (i:Int) n=some i:=by simp[iG];omega
theorem f8 {n:Nat} (h:n<18446744073709551616):n<bh:=h
theorem drop_cons {α:Type} {xs:List α} {i:Nat} {x:α} (h:xs[i]? =some x):xs.drop i=x::xs.drop (i+1):=by
 obtain⟨h1,h2⟩:=List.getElem?_eq_some_iff.1 h
 rw[List.drop_eq_getElem_cons h1,h2]
end Go.Am
end
section
namespace Go.Am
theorem WV {X Y:Type} {f:X->Option (X⊕Y)} (st:Nat->X) {r:Y}:∀(n i:Nat),(∀j,i<=j->j<i+n->f (st j)=some (.inl (st (j+1))))->f (st (i+n))=some (.inr r)->∀N,n<N->cv N f (st i)=some r
 |0,i,_,h2,N+1,_=>by
  have h2:f (st i)=some (.inr r):=h2
  simp only[cv,h2]
 |n+1,i,h1,h2,N+1,hN=>by
  simp only[cv,h1 i (Nat.le_refl i) (by omega)]
  exact WV st n (i+1) (fun j h3 h4=>h1 j (by omega) (by omega)) (by rw[show i+1+n=i+(n+1) by omega];exact h2) N (by omega)
 |_,_,_,_,0,h=>by omega
theorem mD {X Y:Type} {f:X->Option (X⊕Y)} (st:Nat->X) {r:Y} (n:Nat) (h1:∀j,j<n->f (st j)=some (.inl (st (j+1)))) (h2:f (st n)=some (.inr r)) {x0:X} (h0:x0=st 0) {N:Nat} (hN:n<N):cv N f x0=some r:=by
 subst h0
 exact WV st n 0 (fun j _ h=>h1 j (by omega)) (by rw[Nat.zero_add];exact h2) N hN
theorem Mx {X Y α:Type} {f:X->Option (X⊕Y)} (es:List α) (mk:Nat->X) (p:α->Bool) (o9 dA:Y)
  (h1:∀i a,es[i]? =some a->p a=true->f (mk i)=some (.inl (mk (i+1)))) (h2:∀i a,es[i]? =some a->p a=false->f (mk i)=some (.inr o9)) (h3:f (mk es.length)=some (.inr dA)) {x0:X} (h0:x0=mk 0) {N:Nat} (hN:es.length<N):
  cv N f x0=some (if es.all p=true then dA else o9):=by
 subst h0
 have bU:∀(k:Nat) (i:Nat),i+k=es.length->∀N,k<N->cv N f (mk i)=some (if(es.drop i).all p=true then dA else o9):=by
  intro k
  induction k with
  |zero=>
   intro i hi N hN
   obtain⟨N,rfl⟩:∃M,N=M+1:=⟨N - 1,by omega⟩
   have:i=es.length:=by omega
   subst this
   simp only[cv,h3,List.drop_length,List.all_nil,if_true]
  |succ k ih=>
   intro i hi N hN
   obtain⟨N,rfl⟩:∃M,N=M+1:=⟨N - 1,by omega⟩
   obtain⟨a,ha⟩:∃a,es[i]? =some a:=⟨_,List.getElem?_eq_getElem (by omega)⟩
   rw[drop_cons ha]
   cases hp:p a with
   |true=>
    simp only[cv,h1 i a ha hp,List.all_cons,hp,Bool.true_and]
    exact ih (i+1) (by omega) N (by omega)
   |false=>simp only[cv,h2 i a ha hp,List.all_cons,hp,Bool.false_and,Bool.false_eq_true,if_false]
 exact bU es.length 0 (by omega) N hN
def dG {S α:Type} (step:Nat->S->α->Option S):Nat->S->List α->Option S
 |_,s,[]=>some s
 |i,s,a::as=>match step i s a with
  |some s'=>dG step (i+1) s' as
  |none=>none
theorem Ga {X Y α S:Type} {f:X->Option (X⊕Y)} (es:List α) (mk:S->Nat->X) (I:Nat->S->Prop) (step:Nat->S->α->Option S) (o9:Y) (dA:S->Y)
  (h1:∀i s a s',es[i]? =some a->I i s->step i s a=some s'->f (mk s i)=some (.inl (mk s' (i+1)))/\I (i+1) s')
  (h2:∀i s a,es[i]? =some a->I i s->step i s a=none->f (mk s i)=some (.inr o9))
  (h3:∀s,I es.length s->f (mk s es.length)=some (.inr (dA s))) {s:S} (h0:I 0 s) {x0:X} (hx:x0=mk s 0) {N:Nat} (hN:es.length<N):
  cv N f x0=some (match dG step 0 s es with|some s'=>dA s'|none=>o9):=by
 subst hx
 have bU:∀(k:Nat) (i:Nat) (s:S),I i s->i+k=es.length->∀N,k<N->cv N f (mk s i)=some (match dG step i s (es.drop i) with|some s'=>dA s'|none=>o9):=by
  intro k
  induction k with
  |zero=>
   intro i s hs hi N hN
   obtain⟨N,rfl⟩:∃M,N=M+1:=⟨N - 1,by omega⟩
   have:i=es.length:=by omega
   subst this
   simp only[cv,h3 s hs,List.drop_length,dG]
  |succ k ih=>
   intro i s hs hi N hN
   obtain⟨N,rfl⟩:∃M,N=M+1:=⟨N - 1,by omega⟩
   obtain⟨a,ha⟩:∃a,es[i]? =some a:=⟨_,List.getElem?_eq_getElem (by omega)⟩
   rw[drop_cons ha]
   cases hp:step i s a with
   |some s'=>
    obtain⟨h4,h5⟩:=h1 i s a s' ha hs hp
    simp only[cv,h4,dG,hp]
    exact ih (i+1) s' h5 (by omega) N (by omega)
   |none=>simp only[cv,h2 i s a ha hs hp,dG,hp]
 exact bU es.length 0 s h0 (by omega) N hN
def qH {S α:Type} (step:Nat->S->α->S):Nat->S->List α->S
 |_,s,[]=>s
 |i,s,a::as=>qH step (i+1) (step i s a) as
theorem agI {X Y α S:Type} {f:X->Option (X⊕Y)} (es:List α) (mk:S->Nat->X) (I:Nat->S->Prop) (step:Nat->S->α->S) (dA:S->Y)
  (h1:∀i s a,es[i]? =some a->I i s->f (mk s i)=some (.inl (mk (step i s a) (i+1)))/\I (i+1) (step i s a))
  (h3:∀s,I es.length s->f (mk s es.length)=some (.inr (dA s))) {s:S} (h0:I 0 s) {x0:X} (hx:x0=mk s 0) {N:Nat} (hN:es.length<N):
  cv N f x0=some (dA (qH step 0 s es)):=by
 subst hx
 have bU:∀(k:Nat) (i:Nat) (s:S),I i s->i+k=es.length->∀N,k<N->cv N f (mk s i)=some (dA (qH step i s (es.drop i))):=by
  intro k
  induction k with
  |zero=>
   intro i s hs hi N hN
   obtain⟨N,rfl⟩:∃M,N=M+1:=⟨N - 1,by omega⟩
   have:i=es.length:=by omega
   subst this
   simp only[cv,h3 s hs,List.drop_length,qH]
  |succ k ih=>
   intro i s hs hi N hN
   obtain⟨N,rfl⟩:∃M,N=M+1:=⟨N - 1,by omega⟩
   obtain⟨a,ha⟩:∃a,es[i]? =some a:=⟨_,List.getElem?_eq_getElem (by omega)⟩
   rw[drop_cons ha]
   obtain⟨h4,h5⟩:=h1 i s a ha hs
   simp only[cv,h4,qH]
   exact ih (i+1) _ h5 (by omega) N (by omega)
 exact bU es.length 0 s h0 (by omega) N hN
theorem iA {α:Type} {es:List α} {i:Nat} {a:α} (h:es[i]? =some a):cr (i:Int) (be (aa es))=true:=by
 have:=(List.getElem?_eq_some_iff.1 h).1
 exact fK (by have:=nl es;omega)
theorem mE {α:Type} (es:List α):cr ((es.length:Nat):Int) (be (aa es))=false:=eV (by have:=nl es;omega)
theorem kS {α:Type} {es:List α} {i:Nat} {a:α} (h:es[i]? =some a) (hl:es.length<=9223372036854775807):aP .i64 (i:Int) 1=((i+1:Nat):Int):=by
 have:=(List.getElem?_eq_some_iff.1 h).1
 rw[iY (by omega) (by omega)];omega
theorem zx {α:Type} {es:List α} {i:Nat} {a:α} (h:es[i]? =some a):i<es.length:=(List.getElem?_eq_some_iff.1 h).1
theorem kj {z:Int} (h:0<=z):∃n:Nat,z=(n:Int):=⟨z.toNat,by omega⟩
end Go.Am
end
section
namespace Go.Am
theorem Cr {α:Type} (l:List α) (k:Nat) (x:α):aa (cM l k x)=aa l:=by simp[aa,cM]
theorem agF {α:Type} (l r:List α):aa (g8 l r)=bW (aa l) (aa r):=by simp[aa,g8,bW]
theorem WI {α:Type} (n:Nat) (x:α):aa (fz n x)=n:=by simp[aa,fz]
theorem JA {n k:Nat} (h:n*k<=fL):tO n k=some ():=if_pos h
theorem vA (k:Nat):bW 0 k=k:=by simp[bW]
theorem aly {α:Type} (x:α):d7 [x] 0 1=some [x]:=rfl
theorem Eu {α:Type} {l:List α} {i:Nat} {a:α} (h:l[i]? =some a):iG (i:Int) (aa l)=some i:=Ev (zx h)
theorem agM (a b:Int):zz a b=min a b:=by unfold zz;split<;>omega
theorem Xe (a b:Int):fb a b= !decide (a=b):=by by_cases h:a=b<;>simp[fb,h]
theorem WH {n:Nat}:∀{l:List Nat},n∈l->n<=l.sum
 |[],h=>by cases h
 |a::l,h=>by
  rw[List.sum_cons]
  rcases List.mem_cons.1 h with rfl|h
  ·omega
  ·have:=WH h;omega
def fV (s:Nat) (k:Int):Int:=if(s:Int)<=k then k - s else -1
theorem Qf {s:Nat} {k:Int} (h:(s:Int)<=k):fV s k=k - s:=if_pos h
theorem Qe {s:Nat} {k:Int} (h:¬(s:Int)<=k):fV s k= -1:=if_neg h
def uu (k:Int):Prop:=0<=k/\k<=1048576
instance (k:Int):Decidable (uu k):=inferInstanceAs (Decidable (0<=k/\k<=1048576))
theorem Y6 {o:Option Int} {s:Nat} {k:Int} {f:Int->Option Int} (ho:o=some (fV s k)):o.ah (fun i=>aH (cr i 0) (some (-1)) (f i))=if(s:Int)<=k then f (k - s) else some (-1):=by
 rw[ho,bL]
 unfold fV
 by_cases h:(s:Int)<=k
 ·rw[if_pos h,if_pos h,bR (eV (by omega))]
 ·rw[if_neg h,if_neg h,bF (fK (by omega))]
theorem Y8 {α:Type} (sz:α->Nat):∀(l:List α) (i:Nat) (k:Int),0<=k->(match dG (fun _ (k:Int) e=>if(sz e:Int)<=k then some (k - sz e) else none) i k l with|some k'=>k'|none=> -1)=fV (l.map sz).sum k
 |[],i,k,hk=>by simp[dG,fV,hk]
 |e::l,i,k,hk=>by
  rw[dG]
  by_cases h:(sz e:Int)<=k
  ·rw[if_pos h]
   simp only
   rw[Y8 sz l (i+1) (k - sz e) (by omega)]
   simp only[fV,List.map_cons,List.sum_cons]
   by_cases h2:((l.map sz).sum:Int)<=k - sz e
   ·rw[if_pos h2,if_pos (by omega)];omega
   ·rw[if_neg h2,if_neg (by omega)]
  ·rw[if_neg h]
   simp only[fV,List.map_cons,List.sum_cons]
   rw[if_neg (by omega)]
theorem ak0 {α:Type} (F:α×Int->Option Int) (sz:α->Nat) (l:List α) (hl:l.length<=9223372036854775807) (hF:∀e∈l,∀k,uu k->F (e,k)=some (fV (sz e) k)) (k:Int) (hk:uu k):
  aH (cr (nG .i64 k (be (aa l))) 0) (some (-1)) (cJ (cv bh (fun(s:List α×Int×Int)=>aH (cr s.2.2 (be (aa s.1))) ((dP s.1 s.2.2).ah fun e=>(F (e,s.2.1)).ah fun i=>aH (cr i 0) (some (.inr (.inr (-1)))) (some (.inl (s.1,i,aP .i64 s.2.2 1)))) (some (.inr (.inl s.2.1)))) (l,nG .i64 k (be (aa l)),0)) (fun i=>some i))=some (fV (l.length+(l.map sz).sum) k):=by
 obtain⟨k0,k1⟩:=hk
 have hn:=nl l
 rw[Ac (by omega) (by omega)]
 by_cases h:k<l.length
 ·rw[bF (fK (by omega)),fV,if_neg (by omega)]
 rw[bR (eV (by omega))]
 rw[Ga l (fun(r:Int) i=>(l,r,(i:Int))) (fun _ r=>uu r) (fun _ (k:Int) e=>if(sz e:Int)<=k then some (k - sz e) else none) (Sum.inr (-1)) (fun r=>Sum.inl r) ?_ ?_ ?_ (s:=k - be (aa l)) ⟨by omega,by omega⟩ ?_ (f8 (by omega))]
 ·have:=Y8 sz l 0 (k - be (aa l)) (by omega)
  have e:fV (l.length+(l.map sz).sum) k=fV (l.map sz).sum (k - be (aa l)):=by
   simp only[fV]
   by_cases h2:((l.map sz).sum:Int)<=k - be (aa l)
   ·rw[if_pos h2,if_pos (by omega)];omega
   ·rw[if_neg h2,if_neg (by omega)]
  rw[e,<-this]
  cases dG (fun _ (k:Int) e=>if(sz e:Int)<=k then some (k - sz e) else none) 0 (k - be (aa l)) l<;>rfl
 ·intro i r e r' ha hr hs
  split at hs
  ·rename_i eU
   injection hs with hs
   subst hs
   simp only
   rw[bF (iA ha),ft,ha,bL,hF e (List.mem_of_getElem? ha) r hr,bL,fV,if_pos eU,bR (eV (by omega)),kS ha (by omega)]
   exact⟨rfl,by have:=hr.1;have:=hr.2;constructor<;>omega⟩
  ·cases hs
 ·intro i r e ha hr hs
  split at hs
  ·cases hs
  ·rename_i eU
   simp only
   rw[bF (iA ha),ft,ha,bL,hF e (List.mem_of_getElem? ha) r hr,bL,fV,if_neg eU,bF (fK (by omega))]
 ·intro r _
  simp only
  rw[bR (mE l)]
 ·rfl
def se {α:Type} (z:α) (l:List α) (i:Nat):List α:=l.take i++List.replicate (l.length - i) z
theorem S5 {α Y:Type} {f:(List α×Int)×List α->Option (((List α×Int)×List α)⊕Y)} (l:List α) (z:α) {r:Y}
  (h1:∀(i:Nat) e ys,l[i]? =some e->ys.length=l.length->ys[i]? =some z->f ((l,(i:Int)),ys)=some (.inl ((l,((i+1:Nat):Int)),ys.set i e)))
  (h2:f ((l,(l.length:Int)),l)=some (.inr r)) (hl:l.length<18446744073709551616):cv bh f ((l,0),fz (aa l) z)=some r:=by
 refine mD (fun i=>((l,(i:Int)),se z l i)) l.length ?_ ?_ ?_ (f8 hl)
 ·intro j hj
  obtain⟨e,he⟩:∃e,l[j]? =some e:=⟨_,List.getElem?_eq_getElem hj⟩
  rw[h1 j e _ he (by simp[se];omega)]
  ·have:(se z l j).set j e=se z l (j+1):=by
    unfold se
    rw[List.set_append_right _ _ (by simp;omega),List.take_add_one,he,show l.length - j=(l.length - (j+1))+1 by omega,List.replicate_succ]
    simp only[List.length_take,show j - min j l.length=0 by omega,List.set_cons_zero,Option.toList_some,List.append_assoc,List.cons_append,List.nil_append]
   rw[this]
  ·unfold se
   rw[List.getElem?_append_right (by simp;omega)]
   simp only[List.length_take,show j - min j l.length=0 by omega]
   rw[List.getElem?_replicate,if_pos (by omega)]
 ·have:se z l l.length=l:=by simp[se]
  rw[this]
  exact h2
 ·simp[se,fz,aa]
theorem Sy {α:Type} [DecidableEq α] (E:α×α->Option Bool) (l r:List α) (hE:∀a∈l,∀b,E (a,b)=some (decide (a=b))) (hl:l.length<=4611686018427387904):
  aH (fb (be (aa l)) (be (aa r))) (some false) (cJ (cv bh (fun s:List α×List α×Int=>aH (cr s.2.2 (be (aa s.1))) ((dP s.1 s.2.2).ah fun a=>(dP s.2.1 s.2.2).ah fun b=>(E (a,b)).ah fun c=>aH (fc c) (some (.inr (.inr false))) (some (.inl (s.1,s.2.1,aP .i64 s.2.2 1)))) (some (.inr (.inl ())))) (l,r,0)) fun _=>some true)=some (decide (l=r)):=by
 by_cases Ft:l.length=r.length
 ·rw[bR (oA (by have:=nl l;have:=nl r;omega))]
  have hz:(l.zip r).length=l.length:=by simp;omega
  rw[Mx (l.zip r) (fun i=>(l,r,(i:Int))) (fun p=>decide (p.1=p.2)) (Sum.inr false) (Sum.inl ()) ?_ ?_ ?_ ?_ (f8 (by omega))]
  ·have:((l.zip r).all fun p=>decide (p.1=p.2))=decide (l=r):=by
    clear hE hl hz
    induction l generalizing r with
    |nil=>cases r with
     |nil=>rfl
     |cons b r=>cases Ft
    |cons a l ih=>cases r with
     |nil=>cases Ft
     |cons b r=>
      simp only[List.zip_cons_cons,List.all_cons]
      rw[ih r (by simpa using Ft)]
      simp only[List.cons.injEq,Bool.decide_and]
   rw[this]
   by_cases h:l=r<;>simp[h,cJ]
  ·rintro i ⟨a,b⟩ ha hp
   obtain⟨h1,h2⟩:=List.getElem?_zip_eq_some.1 ha
   simp only at h1 h2 hp⊢
   rw[bF (iA h1),ft,h1,bL,ft,h2,bL,hE a (List.mem_of_getElem? h1),bL,bR (by rw[hp];rfl),kS h1 (by omega)]
  ·rintro i ⟨a,b⟩ ha hp
   obtain⟨h1,h2⟩:=List.getElem?_zip_eq_some.1 ha
   simp only at h1 h2 hp⊢
   rw[bF (iA h1),ft,h1,bL,ft,h2,bL,hE a (List.mem_of_getElem? h1),bL,bF (by rw[hp];rfl)]
  ·simp only
   rw[hz,bR (mE l)]
  ·rfl
 ·rw[bF (pW (by have:=nl l;have:=nl r;omega)),decide_eq_false (fun h=>Ft (by rw[h]))]
theorem abb (l r:List Int) (hl:l.length<=4611686018427387904):
  aH (fb (be (aa l)) (be (aa r))) (some false) (cJ (cv bh (fun s:List Int×List Int×Int=>aH (cr s.2.2 (be (aa s.1))) ((dP s.1 s.2.2).ah fun a=>(dP s.2.1 s.2.2).ah fun b=>aH (fb a b) (some (.inr (.inr false))) (some (.inl (s.1,s.2.1,aP .i64 s.2.2 1)))) (some (.inr (.inl ())))) (l,r,0)) fun _=>some true)=some (decide (l=r)):=by
 have:=Sy (fun p:Int×Int=>some (decide (p.1=p.2))) l r (fun _ _ _=>rfl) hl
 refine Eq.trans ?_ this
 congr 3
end Go.Am
end
section
namespace Go.Am
def fw {α:Type} (bm:α->Nat) (mk:α->Int->α):List α->Int->List α
 |[],_=>[]
 |e::l,k=>mk e k::fw bm mk l (k+bm e)
def ga {α:Type} (bm:α->Nat) (l:List α):Nat:=(l.map bm).sum
theorem aaM {α:Type} (bm:α->Nat):ga bm []=0:=rfl
theorem EB {α:Type} (bm:α->Nat) (e:α) (l:List α):ga bm (e::l)=bm e+ga bm l:=by simp[ga]
theorem aaL {α:Type} (bm:α->Nat) (l r:List α):ga bm (l++r)=ga bm l+ga bm r:=by simp[ga]
theorem zA {α:Type} (bm:α->Nat) (mk:α->Int->α):∀(l:List α) (k:Int),(fw bm mk l k).length=l.length
 |[],_=>rfl
 |e::l,k=>by simp[fw,zA bm mk l]
theorem W7 {α:Type} (bm:α->Nat) (mk:α->Int->α):∀(l r:List α) (k:Int),fw bm mk (l++r) k=fw bm mk l k++fw bm mk r (k+ga bm l)
 |[],r,k=>by simp[fw,ga]
 |e::l,r,k=>by
  simp only[List.cons_append,fw,W7 bm mk l r,EB]
  rw[show k+(bm e:Int)+(ga bm l:Nat)=k+((bm e+ga bm l:Nat):Int) by omega]
theorem C4 {α:Type} (bm:α->Nat) (mk:α->Int->α) (f:α->Nat) (hf:∀e k,f (mk e k)=f e):∀(l:List α) (k:Int),((fw bm mk l k).map f).sum=(l.map f).sum
 |[],_=>rfl
 |e::l,k=>by simp[fw,hf,C4 bm mk f hf l]
theorem MH {α:Type} (bm:α->Nat) (mk:α->Int->α) (hc:∀e k,bm (mk e k)=bm e) (hm:∀e k,mk (mk e k) k=mk e k):∀(l:List α) (k:Int),fw bm mk (fw bm mk l k) k=fw bm mk l k
 |[],_=>rfl
 |e::l,k=>by simp only[fw,hm,hc,MH bm mk hc hm l]
theorem EC {α:Type} (bm sz:α->Nat) (hc:∀e,bm e<=4*(1+sz e)):∀l:List α,ga bm l<=4*(l.length+(l.map sz).sum)
 |[]=>by simp[ga]
 |e::l=>by
  have:=EC bm sz hc l
  have:=hc e
  simp only[EB,List.length_cons,List.map_cons,List.sum_cons]
  omega
theorem W0 {α Y:Type} {f:(Int×Int)×List α->Option (((Int×Int)×List α)⊕Y)} (l:List α) (bm sz:α->Nat) (mk:α->Int->α) (k:Int) {r:Y} (hc:∀e,bm e<=4*(1+sz e))
  (hk:0<=k) (hb:k+4*(l.length+(l.map sz).sum:Nat)<=1099511627776)
  (h1:∀(i:Nat) e ys (k':Int),l[i]? =some e->ys.length=l.length->ys[i]? =some e->0<=k'->k'+4*(1+sz e:Nat)<=1099511627776->f ((k',(i:Int)),ys)=some (.inl ((k'+bm e,((i+1:Nat):Int)),ys.set i (mk e k'))))
  (h2:f ((k+ga bm l,(l.length:Int)),fw bm mk l k)=some (.inr r)):cv bh f ((k,0),l)=some r:=by
 refine mD (fun i=>((k+(ga bm (l.take i):Nat),(i:Int)),fw bm mk (l.take i) k++l.drop i)) l.length ?_ ?_ ?_ (f8 (by omega))
 ·intro j hj
  obtain⟨e,he⟩:∃e,l[j]? =some e:=⟨_,List.getElem?_eq_getElem hj⟩
  have hlen:(fw bm mk (l.take j) k).length=j:=by rw[zA,List.length_take];omega
  have Lc:(l.map sz).sum=((l.take j).map sz).sum+(sz e+((l.drop (j+1)).map sz).sum):=by
   conv=>lhs;rw[<-List.take_append_drop j l,drop_cons he]
   rw[List.map_append,List.sum_append,List.map_cons,List.sum_cons]
  have hct:=EC bm sz hc (l.take j)
  rw[List.length_take] at hct
  rw[h1 j e _ _ he (by rw[List.length_append,hlen,List.length_drop];omega) (by rw[List.getElem?_append_right (by omega),hlen,Nat.sub_self,List.getElem?_drop];simpa using he) (by omega) (by omega)]
  have e1:l.take (j+1)=l.take j++[e]:=by rw[List.take_add_one,he];rfl
  have e2:(fw bm mk (l.take j) k++l.drop j).set j (mk e (k+(ga bm (l.take j):Nat)))=fw bm mk (l.take (j+1)) k++l.drop (j+1):=by
   rw[e1,W7,drop_cons he,List.set_append_right _ _ (by omega),hlen,Nat.sub_self,List.set_cons_zero,List.append_assoc]
   rfl
  rw[e2,e1,aaL,EB,aaM,show k+(ga bm (l.take j):Nat)+(bm e:Nat)=k+((ga bm (l.take j)+(bm e+0):Nat):Int) by omega]
 ·simp only[List.take_length,List.drop_length,List.append_nil]
  exact h2
 ·simp[ga,fw]
theorem TY {α:Type} [DecidableEq α] (bm:α->Nat) (mk:α->Int->α):∀(l:List α) (i:Nat) (k:Int),
  dG (fun _ (k:Int) e=>if e=mk e k then some (k+(bm e:Int)) else none) i k l=if l=fw bm mk l k then some (k+(ga bm l:Int)) else none
 |[],i,k=>by simp[dG,fw,ga]
 |e::l,i,k=>by
  simp only[dG,fw,EB]
  by_cases h:e=mk e k
  ·rw[if_pos h]
   simp only
   rw[TY bm mk l]
   by_cases h2:l=fw bm mk l (k+bm e)
   ·rw[if_pos h2,if_pos (by rw[<-h,<-h2])]
    congr 1;omega
   ·rw[if_neg h2,if_neg (fun h3=>h2 (List.cons.inj h3).2)]
  ·rw[if_neg h,if_neg (fun h3=>h (List.cons.inj h3).1)]
theorem TZ {α:Type} [DecidableEq α] {f:List α×Int×Int->Option ((List α×Int×Int)⊕(Int⊕Int))} (l:List α) (bm sz:α->Nat) (mk:α->Int->α) (k:Int) (hc:∀e,bm e<=4*(1+sz e))
  (hk:0<=k) (hb:k+4*(l.length+(l.map sz).sum:Nat)<=1099511627776)
  (h1:∀(i:Nat) e (k':Int),l[i]? =some e->0<=k'->k'+4*(1+sz e:Nat)<=1099511627776->f (l,k',(i:Int))=if e=mk e k' then some (.inl (l,k'+(bm e:Int),((i+1:Nat):Int))) else some (.inr (.inr (-1))))
  (h2:∀k',f (l,k',(l.length:Int))=some (.inr (.inl k'))):cv bh f (l,k,0)=some (if l=fw bm mk l k then .inl (k+(ga bm l:Int)) else .inr (-1)):=by
 rw[Ga l (fun(k:Int) i=>(l,k,(i:Int))) (fun i k'=>0<=k'/\k'+4*((l.drop i).length+((l.drop i).map sz).sum:Nat)<=1099511627776) (fun _ (k:Int) e=>if e=mk e k then some (k+(bm e:Int)) else none) (Sum.inr (-1)) (fun k=>Sum.inl k) ?_ ?_ ?_ (s:=k) ⟨hk,by simpa using hb⟩ ?_ (f8 (by omega))]
 ·rw[TY]
  by_cases h:l=fw bm mk l k
  ·rw[if_pos h,if_pos h]
  ·rw[if_neg h,if_neg h]
 ·intro i k' e s' he hI hs
  rw[drop_cons he] at hI
  simp only[List.length_cons,List.map_cons,List.sum_cons] at hI
  split at hs
  ·rename_i hm
   injection hs with hs
   subst hs
   have hce:=hc e
   exact⟨by rw[h1 i e k' he hI.1 (by omega),if_pos hm],by omega,by omega⟩
  ·cases hs
 ·intro i k' e he hI hs
  rw[drop_cons he] at hI
  simp only[List.length_cons,List.map_cons,List.sum_cons] at hI
  split at hs
  ·cases hs
  ·rename_i hm
   rw[h1 i e k' he hI.1 (by omega),if_neg hm]
 ·intro k' _
  exact h2 k'
 ·rfl
theorem TX {o:Option Int} {p:Prop} [Decidable p] {k:Int} {Y:Type} {f:Int->Option Y} {y:Option Y} (hk:0<=k) (ho:o=some (if p then k else -1)):
  o.ah (fun i=>aH (cr i 0) y (f i))=if p then f k else y:=by
 rw[ho,bL]
 by_cases h:p
 ·rw[if_pos h,if_pos h,bR (eV hk)]
 ·rw[if_neg h,if_neg h,bF (fK (by omega))]
theorem Y1 {α:Type}:∀l:List α,(l.map fun _=>0).sum=0
 |[]=>rfl
 |_::l=>by simp[Y1 l]
theorem Y7 {o:Option Int} {s:Nat} {k:Int} {f:Int->Option Bool} (ho:o=some (fV s k)):o.ah (fun i=>aH (cr i 0) (some true) (f i))=if(s:Int)<=k then f (k - s) else some true:=by
 rw[ho,bL]
 unfold fV
 by_cases h:(s:Int)<=k
 ·rw[if_pos h,if_pos h,bR (eV (by omega))]
 ·rw[if_neg h,if_neg h,bF (fK (by omega))]
theorem ah4 (b:Bool):Cu b b=false:=by cases b<;>rfl
theorem ah5 (a:Int):fb a a=false:=oA rfl
theorem aid:fc true=false:=rfl
theorem alz {α:Type} {xs:List α} {n:Nat} (h:xs.length=n):d7 xs 0 n=some xs:=by subst h;exact ti xs
theorem GQ {a b:Nat} (h:a=b):w7 a b=some ():=if_pos h
theorem Tw {n m:Nat} (h:n=m):aI 0 n m=some ():=by subst h;exact cQ n
theorem acJ {α:Type} {l:List α} {i:Nat} {a b:α} (h:l[i]? =some a):(l.set i b)[i]? =some b:=List.getElem?_set_self (zx h)
theorem acI {α:Type} {l:List α} {i:Nat} {a b:α} (h:l[i]? =some a):eZ (cM l i b) i=some b:=acJ h
theorem aks {α:Type} (l:List α) (i:Nat) (a b:α):cM (cM l i a) i b=cM l i b:=by simp[cM,List.set_set]
end Go.Am
end
