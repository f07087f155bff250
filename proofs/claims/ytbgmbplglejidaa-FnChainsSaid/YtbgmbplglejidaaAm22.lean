/- Am22: code as a whole. No condition. -/
import Derived.Test.YtbgmbplglejidaaAm21
set_option linter.unusedVariables false
namespace Go.Am
theorem RD (ok:Nat->Bool) (env:Nat->aj):∀(ss:List Nat) (n:Nat),uU ok env ss n=if n∈ss then(env n).cT ok else .one .bm
 |[],n=>by simp[uU,vJ]
 |s::ss,n=>by
  simp only[uU,iP,RD ok env ss,List.mem_cons]
  by_cases h:n=s
  ·subst h;simp
  ·simp[h]
theorem JQ (ok:Nat->Bool) (h:Nat->Option ao):∀(ss:List Nat) (n:Nat),qE ok h ss n=if n∈ss/\ok n=true then(h n).map (·.cT ok) else none
 |[],n=>by simp[qE,AB]
 |s::ss,n=>by
  have ih:=JQ ok h ss n
  simp only[qE,List.mem_cons]
  by_cases hn:n=s
  ·subst hn
   by_cases hk:ok n=true
   ·rw[if_pos hk]
    cases hh:h n with
    |some b=>simp[bF,hk]
    |none=>simp only[ih,hh];simp
   ·rw[if_neg hk,ih];simp[hk]
  ·by_cases hk:ok s=true
   ·rw[if_pos hk]
    cases hh:h s with
    |some b=>simp only[cq _ _ _ _ hn,ih];simp[hn]
    |none=>simp only[ih];simp[hn]
   ·rw[if_neg hk,ih];simp[hn]
theorem abn (ok:Nat->Bool):∀(ss:List Nat) (n:Nat),uV ok ss n=(decide (n∈ss)&&ok n)
 |[],n=>by simp[uV,Xo]
 |s::ss,n=>by
  have ih:=abn ok ss n
  simp only[uV]
  by_cases hn:n=s
  ·subst hn
   by_cases hk:ok n=true
   ·rw[if_pos hk];simp[bF,hk]
   ·rw[if_neg hk,ih];simp[hk]
  ·by_cases hk:ok s=true
   ·rw[if_pos hk,cq _ _ _ _ hn,ih];simp[hn]
   ·rw[if_neg hk,ih];simp[hn]
theorem ah.ad9 {ok:Nat->Bool} {c:ah} {m:Nat} (h:(c.fw ok).iD m):ok m=true:=by
 cases c<;>simp only[ah.fw] at h<;>first|exact h.elim|skip
 all_goals
  split at h
  ·rename_i hk
   have h':=h
   simp only[ah.iD] at h'
   subst h'
   exact hk
  ·exact h.elim
theorem ah.Au {ok:Nat->Bool} {c:ah} {m:Nat} (h:(c.cT ok).ref m):ok m=true:=by
 cases c with
 |fn f cr=>
  obtain⟨x,hx,h⟩:=h
  obtain⟨y,hy,rfl⟩:=List.mem_map.1 hx
  exact ah.ad9 h
 |c x=>exact h.elim
 |nil sz=>exact h.elim
 |cu xs off=>exact h.elim
 |bm=>exact h.elim
 |ptr n k sz off=>
  simp only[ah.cT,ah.fw] at h
  split at h
  ·rename_i hk;have h':m=n:=h;subst h';exact hk
  ·exact h.elim
 |sl n sz lo len=>
  simp only[ah.cT,ah.fw] at h
  split at h
  ·rename_i hk;have h':m=n:=h;subst h';exact hk
  ·exact h.elim
 |bz n k az off sz len=>
  simp only[ah.cT,ah.fw] at h
  split at h
  ·rename_i hk;have h':m=n:=h;subst h';exact hk
  ·exact h.elim
 |cQ n k az off sz i=>
  simp only[ah.cT,ah.fw] at h
  split at h
  ·rename_i hk;have h':m=n:=h;subst h';exact hk
  ·exact h.elim
section
variable {B:Nat} {E:Ex} {w0 w w':World} {G G':Gh} {N:Nat} {h h':Nat->Option ao} {ok:Nat->Bool}
variable {P:Program} {T:aO} {a:Act} {σ σ':St} {Q:Exit->Act->World->Prop}
structure oB (ok:Nat->Bool) (h h':Nat->Option ao):Prop where
 le:∀n,ok n=true->h' n=(h n).map (·.cT ok)\/h' n=none
 no:∀n,ok n=false->h' n=none
theorem oB.ne (L:oB ok h h') {n:Nat} (hn:h' n≠none):ok n=true/\h n≠none:=by
 cases hk:ok n with
 |false=>exact absurd (L.no n hk) hn
 |true=>
  refine⟨rfl,fun e=>?_⟩
  rcases L.le n hk with h1|h1
  ·rw[e] at h1;exact hn h1
  ·exact hn h1
theorem oB.row (L:oB ok h h') {n:Nat} {gr:Bool} {m:Mode} {sz:Nat} {xs:List (List C)} (hn:h' n=some (.row gr m sz xs)):h n=some (.row gr m sz xs):=by
 obtain⟨hk,h0⟩:=L.ne (n:=n) (by rw[hn];simp)
 rcases L.le n hk with h1|h1
 ·rw[h1] at hn
  cases hh:h n with
  |none=>exact absurd hh h0
  |some b=>cases b with
   |box cs=>rw[hh] at hn;simp[ao.cT] at hn
   |row gr m sz xs=>rw[hh] at hn;simp only[Option.map_some,ao.cT] at hn;exact hn
 ·rw[h1] at hn;cases hn
theorem oB.box (L:oB ok h h') {n:Nat} {cs:List ah} (hn:h' n=some (.box cs)):∃gS,h n=some (.box gS)/\cs=gS.map (·.cT ok):=by
 obtain⟨hk,h0⟩:=L.ne (n:=n) (by rw[hn];simp)
 rcases L.le n hk with h1|h1
 ·rw[h1] at hn
  cases hh:h n with
  |none=>exact absurd hh h0
  |some b=>cases b with
   |box gS=>
    rw[hh] at hn
    simp only[Option.map_some,ao.cT] at hn
    injection hn with hn
    injection hn with hn
    exact⟨gS,rfl,hn.symm⟩
   |row gr m sz xs=>rw[hh] at hn;simp[ao.cT] at hn
 ·rw[h1] at hn;cases hn
theorem jo.less (L:oB ok h h') {c:ah} {v:Value} (hc:jo w G h c v):jo w G h' (c.fw ok) v:=by
 cases c with
 |ptr n k sz off=>
  simp only[ah.fw]
  split
  ·exact fun hn=>hc (L.ne hn).2
  ·trivial
 |sl n sz lo len=>
  simp only[ah.fw]
  split
  ·exact fun hn=>hc (L.ne hn).2
  ·trivial
 |bz n k az off sz len=>
  simp only[ah.fw]
  split
  ·exact fun gr xs hn=>hc gr xs (L.row hn)
  ·trivial
 |cQ n k az off sz i=>
  simp only[ah.fw]
  split
  ·exact fun gr xs hn=>hc gr xs (L.row hn)
  ·trivial
 |c x=>exact hc
 |nil sz=>exact hc
 |cu xs off=>exact hc
 |fn f cr=>exact hc
 |bm=>exact hc
theorem RC.less (L:oB ok h h') {c:ah} {v:Value} (hc:RC w G h c v):RC w G h' (c.cT ok) v:=by
 cases c with
 |fn f cr=>
  obtain⟨vs,h1,h2,h3⟩:=hc
  refine⟨vs,h1,by simpa using h2,fun j c u hj hu=>?_⟩
  rw[List.getElem?_map] at hj
  cases hc:cr[j]? with
  |none=>rw[hc] at hj;cases hj
  |some c0=>
   rw[hc] at hj
   simp at hj
   subst hj
   exact⟨(h3 j c0 u hc hu).1,(h3 j c0 u hc hu).2.less L⟩
 |ptr n k sz off=>
  have:=jo.less (w:=w) (G:=G) L (c:=.ptr n k sz off) hc
  simp only[ah.cT]
  rw[xD]
  ·exact this
  ·simp only[ah.fw];split<;>rfl
 |sl n sz lo len=>
  have:=jo.less (w:=w) (G:=G) L (c:=.sl n sz lo len) hc
  simp only[ah.cT]
  rw[xD]
  ·exact this
  ·simp only[ah.fw];split<;>rfl
 |bz n k az off sz len=>
  have:=jo.less (w:=w) (G:=G) L (c:=.bz n k az off sz len) hc
  simp only[ah.cT]
  rw[xD]
  ·exact this
  ·simp only[ah.fw];split<;>rfl
 |cQ n k az off sz i=>
  have:=jo.less (w:=w) (G:=G) L (c:=.cQ n k az off sz i) hc
  simp only[ah.cT]
  rw[xD]
  ·exact this
  ·simp only[ah.fw];split<;>rfl
 |c x=>exact hc
 |nil sz=>exact hc
 |cu xs off=>exact hc
 |bm=>exact hc
theorem cN.less (L:oB ok h h') {cs:List ah} {vs:List Value} (hc:cN w G h cs vs):cN w G h' (cs.map (·.cT ok)) vs:=by
 refine⟨by simpa using hc.1,fun j c u hj hu=>?_⟩
 rw[List.getElem?_map] at hj
 cases eJ:cs[j]? with
 |none=>rw[eJ] at hj;cases hj
 |some c0=>
  rw[eJ] at hj
  simp at hj
  subst hj
  exact⟨(hc.2 j c0 u eJ hu).1,(hc.2 j c0 u eJ hu).2.less L⟩
theorem RV.less (L:oB ok h h') {ag:Bool} {cs:List ah} {v:Value} (hc:RV w G h ag cs v):RV w G h' ag (cs.map (·.cT ok)) v:=by
 unfold RV at*
 split
 ·rename_i h1
  simp only[h1,if_true] at hc
  obtain⟨vs,e,hv⟩:=hc
  exact⟨vs,e,hv.less L⟩
 ·rename_i h1
  simp only[h1] at hc
  exact cN.less L hc
theorem RA.less (L:oB ok h h') {x:aj} {v:Value} (hc:RA w G h x v):RA w G h' (x.cT ok) v:=by
 cases x with
 |one c=>
  rcases hc with rfl|hc
  ·exact Or.inl rfl
  ·exact Or.inr (RV.less L hc)
 |agg cs=>exact RV.less L hc
 |bn xs=>
  obtain⟨vs,e,hl,hv⟩:=hc
  refine⟨vs,e,by simpa using hl,fun j x u hj hu=>?_⟩
  rw[List.getElem?_map] at hj
  cases eJ:xs[j]? with
  |none=>rw[eJ] at hj;cases hj
  |some c0=>
   rw[eJ] at hj
   simp at hj
   subst hj
   exact RV.less L (hv j c0 u eJ hu)
theorem aj.Au {x:aj} {m:Nat} (h:(x.cT ok).ref m):ok m=true:=by
 cases x with
 |one c=>exact ah.Au h
 |agg cs=>
  obtain⟨c,hc,h⟩:=h
  obtain⟨c0,eJ,rfl⟩:=List.mem_map.1 hc
  exact ah.Au h
 |bn xs=>
  obtain⟨x,hx,c,hc,h⟩:=h
  obtain⟨x0,hx0,rfl⟩:=List.mem_map.1 hx
  obtain⟨c0,eJ,rfl⟩:=List.mem_map.1 hc
  exact ah.Au h
theorem HR.less {used:Nat->Bool} (H:HR B E w G h used []) (L:oB ok h h'):HR B E w G h' ok []:=by
 refine⟨fun n hn=>(L.ne hn).1,fun m cs c n hm hc hr=>?_,fun n cs hn=>?_,fun n gr m sz xs hn=>H.row n gr m sz xs (L.row hn),fun n hn=>H.own n (L.ne hn).2,fun n n' hn bj=>H.inj n n' (L.ne hn).2 (L.ne bj).2,
  H.fW,H.pf,fun n n' gr m sz xs bk m' aJ aq hn bj=>H.fJ n n' gr m sz xs bk m' aJ aq (L.row hn) (L.row bj),fun n gr sz xs hn b hb n' bj=>H.live n gr sz xs (L.row hn) b hb n' (L.ne bj).2,?_,?_,?_⟩
 ·obtain⟨gS,_,rfl⟩:=L.box hm
  obtain⟨c0,_,rfl⟩:=List.mem_map.1 hc
  exact ah.Au hr
 ·obtain⟨gS,h0,rfl⟩:=L.box hn
  obtain⟨a1,a2,a3⟩:=H.box n gS h0
  refine⟨a1,a2,fun j c hj=>?_⟩
  rw[List.getElem?_map] at hj
  cases eJ:gS[j]? with
  |none=>rw[eJ] at hj;cases hj
  |some c0=>
   rw[eJ] at hj
   simp at hj
   subst hj
   obtain⟨v,b1,b2,b3⟩:=a3 j c0 eJ
   exact⟨v,b1,b2,b3.less L⟩
 ·intro i pc hi;simp at hi
 ·intro i j pc dg b _ hi;simp at hi
 ·intro i pc n gr m sz xs b hi;simp at hi
theorem HR.apv {used used':Nat->Bool} (H:HR B E w G h used []) (hu:∀n,used n=true->used' n=true):HR B E w G h used' []:=
 ⟨fun n hn=>hu n (H.iG n hn),fun m cs c n hm hc hr=>hu n (H.gH m cs c n hm hc hr),H.box,H.row,H.own,H.inj,H.fW,H.pf,H.fJ,H.live,H.qP,H.vc,H.qQ⟩
theorem Rb {ke kh:List Nat} {n:Nat} (hn:σ.iN ke kh n=true):n∈kh:=by
 simp only[St.iN,Bool.and_eq_true] at hn
 simpa using hn.1.1
theorem R.ia (r:R B E w0 N σ a w G) (ke kh:List Nat):R B E w0 N (σ.ia ke kh) a w G:=by
 have L:oB (σ.iN ke kh) σ.h (σ.ia ke kh).h:=by
  refine⟨fun n hn=>.inl ?_,fun n hn=>?_⟩
  ·show qE _ _ _ n=_
   rw[JQ,if_pos ⟨Rb hn,hn⟩]
  ·show qE _ _ _ n=_
   rw[JQ,if_neg (by simp[hn])]
 have hu:∀n,σ.iN ke kh n=true->(σ.ia ke kh).used n=true:=by
  intro n hk
  show(Nat.ble aK n||uV _ _ n)=true
  rw[abn]
  simp[hk,Rb hk]
 refine⟨r.defers,r.size,fun s=>?_,fun s n hn=>?_,?_,r.fr,fun n p b hp hb=>?_,fun n hn=>?_⟩
 ·show RA w G _ (uU _ _ _ s) _
  rw[RD]
  split
  ·exact(r.env s).less L
  ·exact Or.inl rfl
 ·have bj:(uU (σ.iN ke kh) σ.env ke s).ref n:=hn
  rw[RD] at bj
  split at bj
  ·exact hu n (aj.Au bj)
  ·exact absurd bj id
 ·exact(r.hr.less L).apv hu
 ·have h0:(σ.ia ke kh).h n≠none:=by rw[hb];simp
  obtain⟨hk,_⟩:=L.ne h0
  have wb:=fun b0 (h1:σ.h n=some b0)=>r.qA n p b0 hp h1
  have aY:qE (σ.iN ke kh) σ.h kh n=some b:=hb
  rw[JQ,if_pos ⟨Rb hk,hk⟩] at aY
  cases h1:σ.h n with
  |none=>rw[h1] at aY;cases aY
  |some b0=>
   obtain⟨p1,p2,p3,p4,p6,p5⟩:=wb b0 h1
   refine⟨p1,p2,p3,p4,p6,fun gr sz xs DI=>?_⟩
   rw[h1,DI] at aY
   cases b0 with
   |box cs=>simp[ao.cT] at aY
   |row bk m' aJ aq=>
    simp only[ao.cT,Option.map_some,Option.some.injEq,ao.row.injEq] at aY
    obtain⟨_,rfl,_,_⟩:=aY
    exact p5 bk aJ aq rfl
 ·show(Nat.ble aK n||_)=true
  rw[Nat.ble_eq_true_of_le hn];rfl
end
end Go.Am
