/- Am22: code as a whole. No condition. -/
import Derived.Test.YtbgmbplglejidaaAm21
set_option linter.unusedVariables false
namespace Go.Am
theorem SA (ok:Nat->Bool) (env:Nat->aj):∀(ss:List Nat) (n:Nat),ve ok env ss n=if n∈ss then(env n).cX ok else .one .bn
 |[],n=>by simp[ve,vZ]
 |s::ss,n=>by
  simp only[ve,iY,SA ok env ss,List.mem_cons]
  by_cases h:n=s
  ·subst h;simp
  ·simp[h]
theorem KF (ok:Nat->Bool) (h:Nat->Option ao):∀(ss:List Nat) (n:Nat),rl ok h ss n=if n∈ss/\ok n=true then(h n).map (·.cX ok) else none
 |[],n=>by simp[rl,A9]
 |s::ss,n=>by
  have ih:=KF ok h ss n
  simp only[rl,List.mem_cons]
  by_cases hn:n=s
  ·subst hn
   by_cases hk:ok n=true
   ·rw[if_pos hk]
    cases hh:h n with
    |some b=>simp[bG,hk]
    |none=>simp only[ih,hh];simp
   ·rw[if_neg hk,ih];simp[hk]
  ·by_cases hk:ok s=true
   ·rw[if_pos hk]
    cases hh:h s with
    |some b=>simp only[cz _ _ _ _ hn,ih];simp[hn]
    |none=>simp only[ih];simp[hn]
   ·rw[if_neg hk,ih];simp[hn]
theorem ab8 (ok:Nat->Bool):∀(ss:List Nat) (n:Nat),vf ok ss n=(decide (n∈ss)&&ok n)
 |[],n=>by simp[vf,X8]
 |s::ss,n=>by
  have ih:=ab8 ok ss n
  simp only[vf]
  by_cases hn:n=s
  ·subst hn
   by_cases hk:ok n=true
   ·rw[if_pos hk];simp[bG,hk]
   ·rw[if_neg hk,ih];simp[hk]
  ·by_cases hk:ok s=true
   ·rw[if_pos hk,cz _ _ _ _ hn,ih];simp[hn]
   ·rw[if_neg hk,ih];simp[hn]
theorem ah.aeV {ok:Nat->Bool} {c:ah} {m:Nat} (h:(c.fx ok).iH m):ok m=true:=by
 cases c<;>simp only[ah.fx] at h<;>first|exact h.elim|skip
 all_goals
  split at h
  ·rename_i hk
   have h':=h
   simp only[ah.iH] at h'
   subst h'
   exact hk
  ·exact h.elim
theorem ah.AW {ok:Nat->Bool} {c:ah} {m:Nat} (h:(c.cX ok).ref m):ok m=true:=by
 cases c with
 |fn f cA=>
  obtain⟨x,hx,h⟩:=h
  obtain⟨y,hy,rfl⟩:=List.mem_map.1 hx
  exact ah.aeV h
 |c x=>exact h.elim
 |nil sz=>exact h.elim
 |cB xs off=>exact h.elim
 |bn=>exact h.elim
 |ptr n k sz off=>
  simp only[ah.cX,ah.fx] at h
  split at h
  ·rename_i hk;have h':m=n:=h;subst h';exact hk
  ·exact h.elim
 |sl n sz lo len=>
  simp only[ah.cX,ah.fx] at h
  split at h
  ·rename_i hk;have h':m=n:=h;subst h';exact hk
  ·exact h.elim
 |bx n k aA off sz len=>
  simp only[ah.cX,ah.fx] at h
  split at h
  ·rename_i hk;have h':m=n:=h;subst h';exact hk
  ·exact h.elim
 |cV n k aA off sz i=>
  simp only[ah.cX,ah.fx] at h
  split at h
  ·rename_i hk;have h':m=n:=h;subst h';exact hk
  ·exact h.elim
section
variable {B:Nat} {E:Ex} {w0 w w':World} {G G':Gh} {N:Nat} {h h':Nat->Option ao} {ok:Nat->Bool}
variable {P:Program} {T:aO} {a:Act} {σ σ':St} {Q:Exit->Act->World->Prop}
structure pb (ok:Nat->Bool) (h h':Nat->Option ao):Prop where
 le:∀n,ok n=true->h' n=(h n).map (·.cX ok)\/h' n=none
 no:∀n,ok n=false->h' n=none
theorem pb.ne (L:pb ok h h') {n:Nat} (hn:h' n≠none):ok n=true/\h n≠none:=by
 cases hk:ok n with
 |false=>exact absurd (L.no n hk) hn
 |true=>
  refine⟨rfl,fun e=>?_⟩
  rcases L.le n hk with h1|h1
  ·rw[e] at h1;exact hn h1
  ·exact hn h1
theorem pb.row (L:pb ok h h') {n:Nat} {gr:Bool} {m:Mode} {sz:Nat} {xs:List (List C)} (hn:h' n=some (.row gr m sz xs)):h n=some (.row gr m sz xs):=by
 obtain⟨hk,h0⟩:=L.ne (n:=n) (by rw[hn];simp)
 rcases L.le n hk with h1|h1
 ·rw[h1] at hn
  cases hh:h n with
  |none=>exact absurd hh h0
  |some b=>cases b with
   |box cs=>rw[hh] at hn;simp[ao.cX] at hn
   |row gr m sz xs=>rw[hh] at hn;simp only[Option.map_some,ao.cX] at hn;exact hn
 ·rw[h1] at hn;cases hn
theorem pb.box (L:pb ok h h') {n:Nat} {cs:List ah} (hn:h' n=some (.box cs)):∃ic,h n=some (.box ic)/\cs=ic.map (·.cX ok):=by
 obtain⟨hk,h0⟩:=L.ne (n:=n) (by rw[hn];simp)
 rcases L.le n hk with h1|h1
 ·rw[h1] at hn
  cases hh:h n with
  |none=>exact absurd hh h0
  |some b=>cases b with
   |box ic=>
    rw[hh] at hn
    simp only[Option.map_some,ao.cX] at hn
    injection hn with hn
    injection hn with hn
    exact⟨ic,rfl,hn.symm⟩
   |row gr m sz xs=>rw[hh] at hn;simp[ao.cX] at hn
 ·rw[h1] at hn;cases hn
theorem jw.less (L:pb ok h h') {c:ah} {v:Value} (hc:jw w G h c v):jw w G h' (c.fx ok) v:=by
 cases c with
 |ptr n k sz off=>
  simp only[ah.fx]
  split
  ·exact fun hn=>hc (L.ne hn).2
  ·trivial
 |sl n sz lo len=>
  simp only[ah.fx]
  split
  ·exact fun hn=>hc (L.ne hn).2
  ·trivial
 |bx n k aA off sz len=>
  simp only[ah.fx]
  split
  ·exact fun gr xs hn=>hc gr xs (L.row hn)
  ·trivial
 |cV n k aA off sz i=>
  simp only[ah.fx]
  split
  ·exact fun gr xs hn=>hc gr xs (L.row hn)
  ·trivial
 |c x=>exact hc
 |nil sz=>exact hc
 |cB xs off=>exact hc
 |fn f cA=>exact hc
 |bn=>exact hc
theorem RC.less (L:pb ok h h') {c:ah} {v:Value} (hc:RC w G h c v):RC w G h' (c.cX ok) v:=by
 cases c with
 |fn f cA=>
  obtain⟨vs,h1,h2,h3⟩:=hc
  refine⟨vs,h1,by simpa using h2,fun j c u hj hu=>?_⟩
  rw[List.getElem?_map] at hj
  cases hc:cA[j]? with
  |none=>rw[hc] at hj;cases hj
  |some c0=>
   rw[hc] at hj
   simp at hj
   subst hj
   exact⟨(h3 j c0 u hc hu).1,(h3 j c0 u hc hu).2.less L⟩
 |ptr n k sz off=>
  have:=jw.less (w:=w) (G:=G) L (c:=.ptr n k sz off) hc
  simp only[ah.cX]
  rw[xR]
  ·exact this
  ·simp only[ah.fx];split<;>rfl
 |sl n sz lo len=>
  have:=jw.less (w:=w) (G:=G) L (c:=.sl n sz lo len) hc
  simp only[ah.cX]
  rw[xR]
  ·exact this
  ·simp only[ah.fx];split<;>rfl
 |bx n k aA off sz len=>
  have:=jw.less (w:=w) (G:=G) L (c:=.bx n k aA off sz len) hc
  simp only[ah.cX]
  rw[xR]
  ·exact this
  ·simp only[ah.fx];split<;>rfl
 |cV n k aA off sz i=>
  have:=jw.less (w:=w) (G:=G) L (c:=.cV n k aA off sz i) hc
  simp only[ah.cX]
  rw[xR]
  ·exact this
  ·simp only[ah.fx];split<;>rfl
 |c x=>exact hc
 |nil sz=>exact hc
 |cB xs off=>exact hc
 |bn=>exact hc
theorem cT.less (L:pb ok h h') {cs:List ah} {vs:List Value} (hc:cT w G h cs vs):cT w G h' (cs.map (·.cX ok)) vs:=by
 refine⟨by simpa using hc.1,fun j c u hj hu=>?_⟩
 rw[List.getElem?_map] at hj
 cases eP:cs[j]? with
 |none=>rw[eP] at hj;cases hj
 |some c0=>
  rw[eP] at hj
  simp at hj
  subst hj
  exact⟨(hc.2 j c0 u eP hu).1,(hc.2 j c0 u eP hu).2.less L⟩
theorem RV.less (L:pb ok h h') {ag:Bool} {cs:List ah} {v:Value} (hc:RV w G h ag cs v):RV w G h' ag (cs.map (·.cX ok)) v:=by
 unfold RV at*
 split
 ·rename_i h1
  simp only[h1,if_true] at hc
  obtain⟨vs,e,hv⟩:=hc
  exact⟨vs,e,hv.less L⟩
 ·rename_i h1
  simp only[h1] at hc
  exact cT.less L hc
theorem RA.less (L:pb ok h h') {x:aj} {v:Value} (hc:RA w G h x v):RA w G h' (x.cX ok) v:=by
 cases x with
 |one c=>
  rcases hc with rfl|hc
  ·exact Or.inl rfl
  ·exact Or.inr (RV.less L hc)
 |agg cs=>exact RV.less L hc
 |bq xs=>
  obtain⟨vs,e,hl,hv⟩:=hc
  refine⟨vs,e,by simpa using hl,fun j x u hj hu=>?_⟩
  rw[List.getElem?_map] at hj
  cases eP:xs[j]? with
  |none=>rw[eP] at hj;cases hj
  |some c0=>
   rw[eP] at hj
   simp at hj
   subst hj
   exact RV.less L (hv j c0 u eP hu)
theorem aj.AW {x:aj} {m:Nat} (h:(x.cX ok).ref m):ok m=true:=by
 cases x with
 |one c=>exact ah.AW h
 |agg cs=>
  obtain⟨c,hc,h⟩:=h
  obtain⟨c0,eP,rfl⟩:=List.mem_map.1 hc
  exact ah.AW h
 |bq xs=>
  obtain⟨x,hx,c,hc,h⟩:=h
  obtain⟨x0,hx0,rfl⟩:=List.mem_map.1 hx
  obtain⟨c0,eP,rfl⟩:=List.mem_map.1 hc
  exact ah.AW h
theorem HR.less {used:Nat->Bool} (H:HR B E w G h used []) (L:pb ok h h'):HR B E w G h' ok []:=by
 refine⟨fun n hn=>(L.ne hn).1,fun m cs c n hm hc hr=>?_,fun n cs hn=>?_,fun n gr m sz xs hn=>H.row n gr m sz xs (L.row hn),fun n hn=>H.own n (L.ne hn).2,fun n n' hn bk=>H.inj n n' (L.ne hn).2 (L.ne bk).2,
  H.fW,H.pP,fun n n' gr m sz xs bm m' aJ aq hn bk=>H.fI n n' gr m sz xs bm m' aJ aq (L.row hn) (L.row bk),fun n gr sz xs hn b hb n' bk=>H.live n gr sz xs (L.row hn) b hb n' (L.ne bk).2,?_,?_,?_⟩
 ·obtain⟨ic,_,rfl⟩:=L.box hm
  obtain⟨c0,_,rfl⟩:=List.mem_map.1 hc
  exact ah.AW hr
 ·obtain⟨ic,h0,rfl⟩:=L.box hn
  obtain⟨a1,a2,a3⟩:=H.box n ic h0
  refine⟨a1,a2,fun j c hj=>?_⟩
  rw[List.getElem?_map] at hj
  cases eP:ic[j]? with
  |none=>rw[eP] at hj;cases hj
  |some c0=>
   rw[eP] at hj
   simp at hj
   subst hj
   obtain⟨v,b1,b2,b3⟩:=a3 j c0 eP
   exact⟨v,b1,b2,b3.less L⟩
 ·intro i pc hi;simp at hi
 ·intro i j pc dn b _ hi;simp at hi
 ·intro i pc n gr m sz xs b hi;simp at hi
theorem HR.apU {used used':Nat->Bool} (H:HR B E w G h used []) (hu:∀n,used n=true->used' n=true):HR B E w G h used' []:=
 ⟨fun n hn=>hu n (H.iK n hn),fun m cs c n hm hc hr=>hu n (H.gV m cs c n hm hc hr),H.box,H.row,H.own,H.inj,H.fW,H.pP,H.fI,H.live,H.rC,H.vr,H.rD⟩
theorem Sb {ke kh:List Nat} {n:Nat} (hn:σ.iU ke kh n=true):n∈kh:=by
 simp only[St.iU,Bool.and_eq_true] at hn
 simpa using hn.1.1
theorem R.iq (r:R B E w0 N σ a w G) (ke kh:List Nat):R B E w0 N (σ.iq ke kh) a w G:=by
 have L:pb (σ.iU ke kh) σ.h (σ.iq ke kh).h:=by
  refine⟨fun n hn=>.inl ?_,fun n hn=>?_⟩
  ·show rl _ _ _ n=_
   rw[KF,if_pos ⟨Sb hn,hn⟩]
  ·show rl _ _ _ n=_
   rw[KF,if_neg (by simp[hn])]
 have hu:∀n,σ.iU ke kh n=true->(σ.iq ke kh).used n=true:=by
  intro n hk
  show(Nat.ble aK n||vf _ _ n)=true
  rw[ab8]
  simp[hk,Sb hk]
 refine⟨r.defers,r.size,fun s=>?_,fun s n hn=>?_,?_,r.fr,fun n p b hp hb=>?_,fun n hn=>?_⟩
 ·show RA w G _ (ve _ _ _ s) _
  rw[SA]
  split
  ·exact(r.env s).less L
  ·exact Or.inl rfl
 ·have bk:(ve (σ.iU ke kh) σ.env ke s).ref n:=hn
  rw[SA] at bk
  split at bk
  ·exact hu n (aj.AW bk)
  ·exact absurd bk id
 ·exact(r.hr.less L).apU hu
 ·have h0:(σ.iq ke kh).h n≠none:=by rw[hb];simp
  obtain⟨hk,_⟩:=L.ne h0
  have wC:=fun b0 (h1:σ.h n=some b0)=>r.re n p b0 hp h1
  have aY:rl (σ.iU ke kh) σ.h kh n=some b:=hb
  rw[KF,if_pos ⟨Sb hk,hk⟩] at aY
  cases h1:σ.h n with
  |none=>rw[h1] at aY;cases aY
  |some b0=>
   obtain⟨p1,p2,p3,p4,p6,p5⟩:=wC b0 h1
   refine⟨p1,p2,p3,p4,p6,fun gr sz xs El=>?_⟩
   rw[h1,El] at aY
   cases b0 with
   |box cs=>simp[ao.cX] at aY
   |row bm m' aJ aq=>
    simp only[ao.cX,Option.map_some,Option.some.injEq,ao.row.injEq] at aY
    obtain⟨_,rfl,_,_⟩:=aY
    exact p5 bm aJ aq rfl
 ·show(Nat.ble aK n||_)=true
  rw[Nat.ble_eq_true_of_le hn];rfl
end
end Go.Am
