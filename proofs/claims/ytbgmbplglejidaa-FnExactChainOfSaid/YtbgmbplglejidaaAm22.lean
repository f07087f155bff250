/- Am22: code as a whole. No condition. -/
import Derived.Test.YtbgmbplglejidaaAm21
set_option linter.unusedVariables false
namespace Go.Am
theorem Sy (ok:Nat->Bool) (env:Nat->aj):∀(ss:List Nat) (n:Nat),u4 ok env ss n=if n∈ss then(env n).cQ ok else .one .bn
 |[],n=>by simp[u4,vO]
 |s::ss,n=>by
  simp only[u4,iO,Sy ok env ss,List.mem_cons]
  by_cases h:n=s
  ·subst h;simp
  ·simp[h]
theorem J1 (ok:Nat->Bool) (h:Nat->Option aq):∀(ss:List Nat) (n:Nat),qH ok h ss n=if n∈ss/\ok n=true then(h n).map (·.cQ ok) else none
 |[],n=>by simp[qH,AE]
 |s::ss,n=>by
  have ih:=J1 ok h ss n
  simp only[qH,List.mem_cons]
  by_cases hn:n=s
  ·subst hn
   by_cases hk:ok n=true
   ·rw[if_pos hk]
    cases hh:h n with
    |some b=>simp[bE,hk]
    |none=>simp only[ih,hh];simp
   ·rw[if_neg hk,ih];simp[hk]
  ·by_cases hk:ok s=true
   ·rw[if_pos hk]
    cases hh:h s with
    |some b=>simp only[cb _ _ _ _ hn,ih];simp[hn]
    |none=>simp only[ih];simp[hn]
   ·rw[if_neg hk,ih];simp[hn]
theorem ab8 (ok:Nat->Bool):∀(ss:List Nat) (n:Nat),u5 ok ss n=(decide (n∈ss)&&ok n)
 |[],n=>by simp[u5,Yl]
 |s::ss,n=>by
  have ih:=ab8 ok ss n
  simp only[u5]
  by_cases hn:n=s
  ·subst hn
   by_cases hk:ok n=true
   ·rw[if_pos hk];simp[bE,hk]
   ·rw[if_neg hk,ih];simp[hk]
  ·by_cases hk:ok s=true
   ·rw[if_pos hk,cb _ _ _ _ hn,ih];simp[hn]
   ·rw[if_neg hk,ih];simp[hn]
theorem ah.aeV {ok:Nat->Bool} {c:ah} {m:Nat} (h:(c.fi ok).iu m):ok m=true:=by
 cases c<;>simp only[ah.fi] at h<;>first|exact h.elim|skip
 all_goals
  split at h
  ·rename_i hk
   have h':=h
   simp only[ah.iu] at h'
   subst h'
   exact hk
  ·exact h.elim
theorem ah.Ay {ok:Nat->Bool} {c:ah} {m:Nat} (h:(c.cQ ok).ref m):ok m=true:=by
 cases c with
 |fn f cf=>
  obtain⟨x,hx,h⟩:=h
  obtain⟨y,hy,rfl⟩:=List.mem_map.1 hx
  exact ah.aeV h
 |c x=>exact h.elim
 |nil sz=>exact h.elim
 |cj xs off=>exact h.elim
 |bn=>exact h.elim
 |ptr n k sz off=>
  simp only[ah.cQ,ah.fi] at h
  split at h
  ·rename_i hk;have h':m=n:=h;subst h';exact hk
  ·exact h.elim
 |sl n sz lo len=>
  simp only[ah.cQ,ah.fi] at h
  split at h
  ·rename_i hk;have h':m=n:=h;subst h';exact hk
  ·exact h.elim
 |bx n k aD off sz len=>
  simp only[ah.cQ,ah.fi] at h
  split at h
  ·rename_i hk;have h':m=n:=h;subst h';exact hk
  ·exact h.elim
 |cN n k aD off sz i=>
  simp only[ah.cQ,ah.fi] at h
  split at h
  ·rename_i hk;have h':m=n:=h;subst h';exact hk
  ·exact h.elim
section
variable {B:Nat} {E:Ex} {w0 w w':World} {G G':Gh} {N:Nat} {h h':Nat->Option aq} {ok:Nat->Bool}
variable {P:Program} {T:aS} {a:Act} {σ σ':St} {Q:Exit->Act->World->Prop}
structure oB (ok:Nat->Bool) (h h':Nat->Option aq):Prop where
 le:∀n,ok n=true->h' n=(h n).map (·.cQ ok)\/h' n=none
 no:∀n,ok n=false->h' n=none
theorem oB.ne (L:oB ok h h') {n:Nat} (hn:h' n≠none):ok n=true/\h n≠none:=by
 cases hk:ok n with
 |false=>exact absurd (L.no n hk) hn
 |true=>
  refine⟨rfl,fun e=>?_⟩
  rcases L.le n hk with h1|h1
  ·rw[e] at h1;exact hn h1
  ·exact hn h1
theorem oB.row (L:oB ok h h') {n:Nat} {gr:Bool} {m:Mode} {sz:Nat} {xs:List (List C)} (hn:h' n=some (.row gr m sz xs)):h n=some (.row gr m sz xs):=by
 obtain⟨hk,h0⟩:=L.ne (n:=n) (by rw[hn];simp)
 rcases L.le n hk with h1|h1
 ·rw[h1] at hn
  cases hh:h n with
  |none=>exact absurd hh h0
  |some b=>cases b with
   |box cs=>rw[hh] at hn;simp[aq.cQ] at hn
   |row gr m sz xs=>rw[hh] at hn;simp only[Option.map_some,aq.cQ] at hn;exact hn
 ·rw[h1] at hn;cases hn
theorem oB.box (L:oB ok h h') {n:Nat} {cs:List ah} (hn:h' n=some (.box cs)):∃gV,h n=some (.box gV)/\cs=gV.map (·.cQ ok):=by
 obtain⟨hk,h0⟩:=L.ne (n:=n) (by rw[hn];simp)
 rcases L.le n hk with h1|h1
 ·rw[h1] at hn
  cases hh:h n with
  |none=>exact absurd hh h0
  |some b=>cases b with
   |box gV=>
    rw[hh] at hn
    simp only[Option.map_some,aq.cQ] at hn
    injection hn with hn
    injection hn with hn
    exact⟨gV,rfl,hn.symm⟩
   |row gr m sz xs=>rw[hh] at hn;simp[aq.cQ] at hn
 ·rw[h1] at hn;cases hn
theorem je.less (L:oB ok h h') {c:ah} {v:Value} (hc:je w G h c v):je w G h' (c.fi ok) v:=by
 cases c with
 |ptr n k sz off=>
  simp only[ah.fi]
  split
  ·exact fun hn=>hc (L.ne hn).2
  ·trivial
 |sl n sz lo len=>
  simp only[ah.fi]
  split
  ·exact fun hn=>hc (L.ne hn).2
  ·trivial
 |bx n k aD off sz len=>
  simp only[ah.fi]
  split
  ·exact fun gr xs hn=>hc gr xs (L.row hn)
  ·trivial
 |cN n k aD off sz i=>
  simp only[ah.fi]
  split
  ·exact fun gr xs hn=>hc gr xs (L.row hn)
  ·trivial
 |c x=>exact hc
 |nil sz=>exact hc
 |cj xs off=>exact hc
 |fn f cf=>exact hc
 |bn=>exact hc
theorem RC.less (L:oB ok h h') {c:ah} {v:Value} (hc:RC w G h c v):RC w G h' (c.cQ ok) v:=by
 cases c with
 |fn f cf=>
  obtain⟨vs,h1,h2,h3⟩:=hc
  refine⟨vs,h1,by simpa using h2,fun j c u hj hu=>?_⟩
  rw[List.getElem?_map] at hj
  cases hc:cf[j]? with
  |none=>rw[hc] at hj;cases hj
  |some c0=>
   rw[hc] at hj
   simp at hj
   subst hj
   exact⟨(h3 j c0 u hc hu).1,(h3 j c0 u hc hu).2.less L⟩
 |ptr n k sz off=>
  have:=je.less (w:=w) (G:=G) L (c:=.ptr n k sz off) hc
  simp only[ah.cQ]
  rw[xS]
  ·exact this
  ·simp only[ah.fi];split<;>rfl
 |sl n sz lo len=>
  have:=je.less (w:=w) (G:=G) L (c:=.sl n sz lo len) hc
  simp only[ah.cQ]
  rw[xS]
  ·exact this
  ·simp only[ah.fi];split<;>rfl
 |bx n k aD off sz len=>
  have:=je.less (w:=w) (G:=G) L (c:=.bx n k aD off sz len) hc
  simp only[ah.cQ]
  rw[xS]
  ·exact this
  ·simp only[ah.fi];split<;>rfl
 |cN n k aD off sz i=>
  have:=je.less (w:=w) (G:=G) L (c:=.cN n k aD off sz i) hc
  simp only[ah.cQ]
  rw[xS]
  ·exact this
  ·simp only[ah.fi];split<;>rfl
 |c x=>exact hc
 |nil sz=>exact hc
 |cj xs off=>exact hc
 |bn=>exact hc
theorem cJ.less (L:oB ok h h') {cs:List ah} {vs:List Value} (hc:cJ w G h cs vs):cJ w G h' (cs.map (·.cQ ok)) vs:=by
 refine⟨by simpa using hc.1,fun j c u hj hu=>?_⟩
 rw[List.getElem?_map] at hj
 cases eD:cs[j]? with
 |none=>rw[eD] at hj;cases hj
 |some c0=>
  rw[eD] at hj
  simp at hj
  subst hj
  exact⟨(hc.2 j c0 u eD hu).1,(hc.2 j c0 u eD hu).2.less L⟩
theorem RV.less (L:oB ok h h') {ag:Bool} {cs:List ah} {v:Value} (hc:RV w G h ag cs v):RV w G h' ag (cs.map (·.cQ ok)) v:=by
 unfold RV at*
 split
 ·rename_i h1
  simp only[h1,if_true] at hc
  obtain⟨vs,e,hv⟩:=hc
  exact⟨vs,e,hv.less L⟩
 ·rename_i h1
  simp only[h1] at hc
  exact cJ.less L hc
theorem RA.less (L:oB ok h h') {x:aj} {v:Value} (hc:RA w G h x v):RA w G h' (x.cQ ok) v:=by
 cases x with
 |one c=>
  rcases hc with rfl|hc
  ·exact Or.inl rfl
  ·exact Or.inr (RV.less L hc)
 |agg cs=>exact RV.less L hc
 |bo xs=>
  obtain⟨vs,e,hl,hv⟩:=hc
  refine⟨vs,e,by simpa using hl,fun j x u hj hu=>?_⟩
  rw[List.getElem?_map] at hj
  cases eD:xs[j]? with
  |none=>rw[eD] at hj;cases hj
  |some c0=>
   rw[eD] at hj
   simp at hj
   subst hj
   exact RV.less L (hv j c0 u eD hu)
theorem aj.Ay {x:aj} {m:Nat} (h:(x.cQ ok).ref m):ok m=true:=by
 cases x with
 |one c=>exact ah.Ay h
 |agg cs=>
  obtain⟨c,hc,h⟩:=h
  obtain⟨c0,eD,rfl⟩:=List.mem_map.1 hc
  exact ah.Ay h
 |bo xs=>
  obtain⟨x,hx,c,hc,h⟩:=h
  obtain⟨x0,hx0,rfl⟩:=List.mem_map.1 hx
  obtain⟨c0,eD,rfl⟩:=List.mem_map.1 hc
  exact ah.Ay h
theorem HR.less {used:Nat->Bool} (H:HR B E w G h used []) (L:oB ok h h'):HR B E w G h' ok []:=by
 refine⟨fun n hn=>(L.ne hn).1,fun m cs c n hm hc hr=>?_,fun n cs hn=>?_,fun n gr m sz xs hn=>H.row n gr m sz xs (L.row hn),fun n hn=>H.own n (L.ne hn).2,fun n n' hn bk=>H.inj n n' (L.ne hn).2 (L.ne bk).2,
  H.fL,H.oY,fun n n' gr m sz xs bj m' aL ar hn bk=>H.fA n n' gr m sz xs bj m' aL ar (L.row hn) (L.row bk),fun n gr sz xs hn b hb n' bk=>H.live n gr sz xs (L.row hn) b hb n' (L.ne bk).2,?_,?_,?_⟩
 ·obtain⟨gV,_,rfl⟩:=L.box hm
  obtain⟨c0,_,rfl⟩:=List.mem_map.1 hc
  exact ah.Ay hr
 ·obtain⟨gV,h0,rfl⟩:=L.box hn
  obtain⟨a1,a2,a3⟩:=H.box n gV h0
  refine⟨a1,a2,fun j c hj=>?_⟩
  rw[List.getElem?_map] at hj
  cases eD:gV[j]? with
  |none=>rw[eD] at hj;cases hj
  |some c0=>
   rw[eD] at hj
   simp at hj
   subst hj
   obtain⟨v,b1,b2,b3⟩:=a3 j c0 eD
   exact⟨v,b1,b2,b3.less L⟩
 ·intro i pc hi;simp at hi
 ·intro i j pc di b _ hi;simp at hi
 ·intro i pc n gr m sz xs b hi;simp at hi
theorem HR.aqx {used used':Nat->Bool} (H:HR B E w G h used []) (hu:∀n,used n=true->used' n=true):HR B E w G h used' []:=
 ⟨fun n hn=>hu n (H.iA n hn),fun m cs c n hm hc hr=>hu n (H.gC m cs c n hm hc hr),H.box,H.row,H.own,H.inj,H.fL,H.oY,H.fA,H.live,H.qR,H.vh,H.qS⟩
theorem Sa {ke kh:List Nat} {n:Nat} (hn:σ.iK ke kh n=true):n∈kh:=by
 simp only[St.iK,Bool.and_eq_true] at hn
 simpa using hn.1.1
theorem R.h9 (r:R B E w0 N σ a w G) (ke kh:List Nat):R B E w0 N (σ.h9 ke kh) a w G:=by
 have L:oB (σ.iK ke kh) σ.h (σ.h9 ke kh).h:=by
  refine⟨fun n hn=>.inl ?_,fun n hn=>?_⟩
  ·show qH _ _ _ n=_
   rw[J1,if_pos ⟨Sa hn,hn⟩]
  ·show qH _ _ _ n=_
   rw[J1,if_neg (by simp[hn])]
 have hu:∀n,σ.iK ke kh n=true->(σ.h9 ke kh).used n=true:=by
  intro n hk
  show(Nat.ble aM n||u5 _ _ n)=true
  rw[ab8]
  simp[hk,Sa hk]
 refine⟨r.defers,r.size,fun s=>?_,fun s n hn=>?_,?_,r.fr,fun n p b hp hb=>?_,fun n hn=>?_⟩
 ·show RA w G _ (u4 _ _ _ s) _
  rw[Sy]
  split
  ·exact(r.env s).less L
  ·exact Or.inl rfl
 ·have bk:(u4 (σ.iK ke kh) σ.env ke s).ref n:=hn
  rw[Sy] at bk
  split at bk
  ·exact hu n (aj.Ay bk)
  ·exact absurd bk id
 ·exact(r.hr.less L).aqx hu
 ·have h0:(σ.h9 ke kh).h n≠none:=by rw[hb];simp
  obtain⟨hk,_⟩:=L.ne h0
  have wk:=fun b0 (h1:σ.h n=some b0)=>r.qD n p b0 hp h1
  have aW:qH (σ.iK ke kh) σ.h kh n=some b:=hb
  rw[J1,if_pos ⟨Sa hk,hk⟩] at aW
  cases h1:σ.h n with
  |none=>rw[h1] at aW;cases aW
  |some b0=>
   obtain⟨p1,p2,p3,p4,p6,p5⟩:=wk b0 h1
   refine⟨p1,p2,p3,p4,p6,fun gr sz xs DH=>?_⟩
   rw[h1,DH] at aW
   cases b0 with
   |box cs=>simp[aq.cQ] at aW
   |row bj m' aL ar=>
    simp only[aq.cQ,Option.map_some,Option.some.injEq,aq.row.injEq] at aW
    obtain⟨_,rfl,_,_⟩:=aW
    exact p5 bj aL ar rfl
 ·show(Nat.ble aM n||_)=true
  rw[Nat.ble_eq_true_of_le hn];rfl
end
end Go.Am
