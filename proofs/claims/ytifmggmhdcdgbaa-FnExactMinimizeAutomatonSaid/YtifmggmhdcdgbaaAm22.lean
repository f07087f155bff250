/- Am22: code as a whole. No condition. -/
import Derived.Test.YtifmggmhdcdgbaaAm21
set_option linter.unusedVariables false
namespace Go.Am
theorem PZ (ok:Nat->Bool) (env:Nat->aj):∀(ss:List Nat) (n:Nat),uD ok env ss n=if n∈ss then(env n).cH ok else .one .bj
 |[],n=>by simp[uD,vm]
 |s::ss,n=>by
  simp only[uD,jp,PZ ok env ss,List.mem_cons]
  by_cases h:n=s
  ·subst h;simp
  ·simp[h]
theorem IE (ok:Nat->Bool) (h:Nat->Option aq):∀(ss:List Nat) (n:Nat),qw ok h ss n=if n∈ss/\ok n=true then(h n).map (·.cH ok) else none
 |[],n=>by simp[qw,zC]
 |s::ss,n=>by
  have ih:=IE ok h ss n
  simp only[qw,List.mem_cons]
  by_cases hn:n=s
  ·subst hn
   by_cases hk:ok n=true
   ·rw[if_pos hk]
    cases hh:h n with
    |some b=>simp[bD,hk]
    |none=>simp only[ih,hh];simp
   ·rw[if_neg hk,ih];simp[hk]
  ·by_cases hk:ok s=true
   ·rw[if_pos hk]
    cases hh:h s with
    |some b=>simp only[cd _ _ _ _ hn,ih];simp[hn]
    |none=>simp only[ih];simp[hn]
   ·rw[if_neg hk,ih];simp[hn]
theorem YN (ok:Nat->Bool):∀(ss:List Nat) (n:Nat),uE ok ss n=(decide (n∈ss)&&ok n)
 |[],n=>by simp[uE,UP]
 |s::ss,n=>by
  have ih:=YN ok ss n
  simp only[uE]
  by_cases hn:n=s
  ·subst hn
   by_cases hk:ok n=true
   ·rw[if_pos hk];simp[bD,hk]
   ·rw[if_neg hk,ih];simp[hk]
  ·by_cases hk:ok s=true
   ·rw[if_pos hk,cd _ _ _ _ hn,ih];simp[hn]
   ·rw[if_neg hk,ih];simp[hn]
theorem ah.aa6 {ok:Nat->Bool} {c:ah} {m:Nat} (h:(c.fa ok).iD m):ok m=true:=by
 cases c<;>simp only[ah.fa] at h<;>first|exact h.elim|skip
 all_goals
  split at h
  ·rename_i hk
   have h':=h
   simp only[ah.iD] at h'
   subst h'
   exact hk
  ·exact h.elim
theorem ah.zw {ok:Nat->Bool} {c:ah} {m:Nat} (h:(c.cH ok).ref m):ok m=true:=by
 cases c with
 |fn f ca=>
  obtain⟨x,hx,h⟩:=h
  obtain⟨y,hy,rfl⟩:=List.mem_map.1 hx
  exact ah.aa6 h
 |c x=>exact h.elim
 |nil sz=>exact h.elim
 |cf xs off=>exact h.elim
 |bj=>exact h.elim
 |ptr n k sz off=>
  simp only[ah.cH,ah.fa] at h
  split at h
  ·rename_i hk;have h':m=n:=h;subst h';exact hk
  ·exact h.elim
 |sl n sz lo len=>
  simp only[ah.cH,ah.fa] at h
  split at h
  ·rename_i hk;have h':m=n:=h;subst h';exact hk
  ·exact h.elim
 |bt n k ax off sz len=>
  simp only[ah.cH,ah.fa] at h
  split at h
  ·rename_i hk;have h':m=n:=h;subst h';exact hk
  ·exact h.elim
 |cB n k ax off sz i=>
  simp only[ah.cH,ah.fa] at h
  split at h
  ·rename_i hk;have h':m=n:=h;subst h';exact hk
  ·exact h.elim
section
variable {B:Nat} {E:Ex} {w0 w w':World} {G G':Gh} {N:Nat} {h h':Nat->Option aq} {ok:Nat->Bool}
variable {P:Program} {T:bh} {a:Act} {σ σ':St} {Q:Exit->Act->World->Prop}
structure oI (ok:Nat->Bool) (h h':Nat->Option aq):Prop where
 le:∀n,ok n=true->h' n=(h n).map (·.cH ok)\/h' n=none
 no:∀n,ok n=false->h' n=none
theorem oI.ne (L:oI ok h h') {n:Nat} (hn:h' n≠none):ok n=true/\h n≠none:=by
 cases hk:ok n with
 |false=>exact absurd (L.no n hk) hn
 |true=>
  refine⟨rfl,fun e=>?_⟩
  rcases L.le n hk with h1|h1
  ·rw[e] at h1;exact hn h1
  ·exact hn h1
theorem oI.row (L:oI ok h h') {n:Nat} {gr:Bool} {m:Mode} {sz:Nat} {xs:List (List C)} (hn:h' n=some (.row gr m sz xs)):h n=some (.row gr m sz xs):=by
 obtain⟨hk,h0⟩:=L.ne (n:=n) (by rw[hn];simp)
 rcases L.le n hk with h1|h1
 ·rw[h1] at hn
  cases hh:h n with
  |none=>exact absurd hh h0
  |some b=>cases b with
   |box cs=>rw[hh] at hn;simp[aq.cH] at hn
   |row gr m sz xs=>rw[hh] at hn;simp only[Option.map_some,aq.cH] at hn;exact hn
 ·rw[h1] at hn;cases hn
theorem oI.box (L:oI ok h h') {n:Nat} {cs:List ah} (hn:h' n=some (.box cs)):∃gV,h n=some (.box gV)/\cs=gV.map (·.cH ok):=by
 obtain⟨hk,h0⟩:=L.ne (n:=n) (by rw[hn];simp)
 rcases L.le n hk with h1|h1
 ·rw[h1] at hn
  cases hh:h n with
  |none=>exact absurd hh h0
  |some b=>cases b with
   |box gV=>
    rw[hh] at hn
    simp only[Option.map_some,aq.cH] at hn
    injection hn with hn
    injection hn with hn
    exact⟨gV,rfl,hn.symm⟩
   |row gr m sz xs=>rw[hh] at hn;simp[aq.cH] at hn
 ·rw[h1] at hn;cases hn
theorem jt.less (L:oI ok h h') {c:ah} {v:Value} (hc:jt w G h c v):jt w G h' (c.fa ok) v:=by
 cases c with
 |ptr n k sz off=>
  simp only[ah.fa]
  split
  ·exact fun hn=>hc (L.ne hn).2
  ·trivial
 |sl n sz lo len=>
  simp only[ah.fa]
  split
  ·exact fun hn=>hc (L.ne hn).2
  ·trivial
 |bt n k ax off sz len=>
  simp only[ah.fa]
  split
  ·exact fun gr xs hn=>hc gr xs (L.row hn)
  ·trivial
 |cB n k ax off sz i=>
  simp only[ah.fa]
  split
  ·exact fun gr xs hn=>hc gr xs (L.row hn)
  ·trivial
 |c x=>exact hc
 |nil sz=>exact hc
 |cf xs off=>exact hc
 |fn f ca=>exact hc
 |bj=>exact hc
theorem RC.less (L:oI ok h h') {c:ah} {v:Value} (hc:RC w G h c v):RC w G h' (c.cH ok) v:=by
 cases c with
 |fn f ca=>
  obtain⟨vs,h1,h2,h3⟩:=hc
  refine⟨vs,h1,by simpa using h2,fun j c u hj hu=>?_⟩
  rw[List.getElem?_map] at hj
  cases hc:ca[j]? with
  |none=>rw[hc] at hj;cases hj
  |some c0=>
   rw[hc] at hj
   simp at hj
   subst hj
   exact⟨(h3 j c0 u hc hu).1,(h3 j c0 u hc hu).2.less L⟩
 |ptr n k sz off=>
  have:=jt.less (w:=w) (G:=G) L (c:=.ptr n k sz off) hc
  simp only[ah.cH]
  rw[xa]
  ·exact this
  ·simp only[ah.fa];split<;>rfl
 |sl n sz lo len=>
  have:=jt.less (w:=w) (G:=G) L (c:=.sl n sz lo len) hc
  simp only[ah.cH]
  rw[xa]
  ·exact this
  ·simp only[ah.fa];split<;>rfl
 |bt n k ax off sz len=>
  have:=jt.less (w:=w) (G:=G) L (c:=.bt n k ax off sz len) hc
  simp only[ah.cH]
  rw[xa]
  ·exact this
  ·simp only[ah.fa];split<;>rfl
 |cB n k ax off sz i=>
  have:=jt.less (w:=w) (G:=G) L (c:=.cB n k ax off sz i) hc
  simp only[ah.cH]
  rw[xa]
  ·exact this
  ·simp only[ah.fa];split<;>rfl
 |c x=>exact hc
 |nil sz=>exact hc
 |cf xs off=>exact hc
 |bj=>exact hc
theorem cA.less (L:oI ok h h') {cs:List ah} {vs:List Value} (hc:cA w G h cs vs):cA w G h' (cs.map (·.cH ok)) vs:=by
 refine⟨by simpa using hc.1,fun j c u hj hu=>?_⟩
 rw[List.getElem?_map] at hj
 cases ew:cs[j]? with
 |none=>rw[ew] at hj;cases hj
 |some c0=>
  rw[ew] at hj
  simp at hj
  subst hj
  exact⟨(hc.2 j c0 u ew hu).1,(hc.2 j c0 u ew hu).2.less L⟩
theorem RV.less (L:oI ok h h') {ag:Bool} {cs:List ah} {v:Value} (hc:RV w G h ag cs v):RV w G h' ag (cs.map (·.cH ok)) v:=by
 unfold RV at*
 split
 ·rename_i h1
  simp only[h1,if_true] at hc
  obtain⟨vs,e,hv⟩:=hc
  exact⟨vs,e,hv.less L⟩
 ·rename_i h1
  simp only[h1] at hc
  exact cA.less L hc
theorem RA.less (L:oI ok h h') {x:aj} {v:Value} (hc:RA w G h x v):RA w G h' (x.cH ok) v:=by
 cases x with
 |one c=>
  rcases hc with rfl|hc
  ·exact Or.inl rfl
  ·exact Or.inr (RV.less L hc)
 |agg cs=>exact RV.less L hc
 |bk xs=>
  obtain⟨vs,e,hl,hv⟩:=hc
  refine⟨vs,e,by simpa using hl,fun j x u hj hu=>?_⟩
  rw[List.getElem?_map] at hj
  cases ew:xs[j]? with
  |none=>rw[ew] at hj;cases hj
  |some c0=>
   rw[ew] at hj
   simp at hj
   subst hj
   exact RV.less L (hv j c0 u ew hu)
theorem aj.zw {x:aj} {m:Nat} (h:(x.cH ok).ref m):ok m=true:=by
 cases x with
 |one c=>exact ah.zw h
 |agg cs=>
  obtain⟨c,hc,h⟩:=h
  obtain⟨c0,ew,rfl⟩:=List.mem_map.1 hc
  exact ah.zw h
 |bk xs=>
  obtain⟨x,hx,c,hc,h⟩:=h
  obtain⟨x0,hx0,rfl⟩:=List.mem_map.1 hx
  obtain⟨c0,ew,rfl⟩:=List.mem_map.1 hc
  exact ah.zw h
theorem HR.less {used:Nat->Bool} (H:HR B E w G h used []) (L:oI ok h h'):HR B E w G h' ok []:=by
 refine⟨fun n hn=>(L.ne hn).1,fun m cs c n hm hc hr=>?_,fun n cs hn=>?_,fun n gr m sz xs hn=>H.row n gr m sz xs (L.row hn),fun n hn=>H.own n (L.ne hn).2,fun n n' hn bn=>H.inj n n' (L.ne hn).2 (L.ne bn).2,
  H.fL,H.pg,fun n n' gr m sz xs bi m' aK ar hn bn=>H.fy n n' gr m sz xs bi m' aK ar (L.row hn) (L.row bn),fun n gr sz xs hn b hb n' bn=>H.live n gr sz xs (L.row hn) b hb n' (L.ne bn).2,?_,?_,?_⟩
 ·obtain⟨gV,_,rfl⟩:=L.box hm
  obtain⟨c0,_,rfl⟩:=List.mem_map.1 hc
  exact ah.zw hr
 ·obtain⟨gV,h0,rfl⟩:=L.box hn
  obtain⟨a1,a2,a3⟩:=H.box n gV h0
  refine⟨a1,a2,fun j c hj=>?_⟩
  rw[List.getElem?_map] at hj
  cases ew:gV[j]? with
  |none=>rw[ew] at hj;cases hj
  |some c0=>
   rw[ew] at hj
   simp at hj
   subst hj
   obtain⟨v,b1,b2,b3⟩:=a3 j c0 ew
   exact⟨v,b1,b2,b3.less L⟩
 ·intro i pc hi;simp at hi
 ·intro i j pc df b _ hi;simp at hi
 ·intro i pc n gr m sz xs b hi;simp at hi
theorem HR.ak9 {used used':Nat->Bool} (H:HR B E w G h used []) (hu:∀n,used n=true->used' n=true):HR B E w G h used' []:=
 ⟨fun n hn=>hu n (H.jb n hn),fun m cs c n hm hc hr=>hu n (H.gT m cs c n hm hc hr),H.box,H.row,H.own,H.inj,H.fL,H.pg,H.fy,H.live,H.qF,H.uP,H.qG⟩
theorem PF {ke kh:List Nat} {n:Nat} (hn:σ.iT ke kh n=true):n∈kh:=by
 simp only[St.iT,Bool.and_eq_true] at hn
 simpa using hn.1.1
theorem R.ig (r:R B E w0 N σ a w G) (ke kh:List Nat):R B E w0 N (σ.ig ke kh) a w G:=by
 have L:oI (σ.iT ke kh) σ.h (σ.ig ke kh).h:=by
  refine⟨fun n hn=>.inl ?_,fun n hn=>?_⟩
  ·show qw _ _ _ n=_
   rw[IE,if_pos ⟨PF hn,hn⟩]
  ·show qw _ _ _ n=_
   rw[IE,if_neg (by simp[hn])]
 have hu:∀n,σ.iT ke kh n=true->(σ.ig ke kh).used n=true:=by
  intro n hk
  show(Nat.ble aI n||uE _ _ n)=true
  rw[YN]
  simp[hk,PF hk]
 refine⟨r.defers,r.size,fun s=>?_,fun s n hn=>?_,?_,r.fr,fun n p b hp hb=>?_,fun n hn=>?_⟩
 ·show RA w G _ (uD _ _ _ s) _
  rw[PZ]
  split
  ·exact(r.env s).less L
  ·exact Or.inl rfl
 ·have bn:(uD (σ.iT ke kh) σ.env ke s).ref n:=hn
  rw[PZ] at bn
  split at bn
  ·exact hu n (aj.zw bn)
  ·exact absurd bn id
 ·exact(r.hr.less L).ak9 hu
 ·have h0:(σ.ig ke kh).h n≠none:=by rw[hb];simp
  obtain⟨hk,_⟩:=L.ne h0
  have vI:=fun b0 (h1:σ.h n=some b0)=>r.qt n p b0 hp h1
  have aX:qw (σ.iT ke kh) σ.h kh n=some b:=hb
  rw[IE,if_pos ⟨PF hk,hk⟩] at aX
  cases h1:σ.h n with
  |none=>rw[h1] at aX;cases aX
  |some b0=>
   obtain⟨p1,p2,p3,p4,p6,p5⟩:=vI b0 h1
   refine⟨p1,p2,p3,p4,p6,fun gr sz xs CF=>?_⟩
   rw[h1,CF] at aX
   cases b0 with
   |box cs=>simp[aq.cH] at aX
   |row bi m' aK ar=>
    simp only[aq.cH,Option.map_some,Option.some.injEq,aq.row.injEq] at aX
    obtain⟨_,rfl,_,_⟩:=aX
    exact p5 bi aK ar rfl
 ·show(Nat.ble aI n||_)=true
  rw[Nat.ble_eq_true_of_le hn];rfl
end
end Go.Am
