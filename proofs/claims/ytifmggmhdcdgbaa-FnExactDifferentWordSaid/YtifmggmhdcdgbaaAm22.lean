/- Am22: code as a whole. No condition. -/
import Derived.Test.YtifmggmhdcdgbaaAm21
set_option linter.unusedVariables false
namespace Go.Am
theorem Rj (ok:Nat->Bool) (env:Nat->ai):∀(ss:List Nat) (n:Nat),uu ok env ss n=if n∈ss then(env n).cv ok else .one .bg
 |[],n=>by simp[uu,vn]
 |s::ss,n=>by
  simp only[uu,iE,Rj ok env ss,List.mem_cons]
  by_cases h:n=s
  ·subst h;simp
  ·simp[h]
theorem JZ (ok:Nat->Bool) (h:Nat->Option ar):∀(ss:List Nat) (n:Nat),p9 ok h ss n=if n∈ss/\ok n=true then(h n).map (·.cv ok) else none
 |[],n=>by simp[p9,zS]
 |s::ss,n=>by
  have ih:=JZ ok h ss n
  simp only[p9,List.mem_cons]
  by_cases hn:n=s
  ·subst hn
   by_cases hk:ok n=true
   ·rw[if_pos hk]
    cases hh:h n with
    |some b=>simp[bw,hk]
    |none=>simp only[ih,hh];simp
   ·rw[if_neg hk,ih];simp[hk]
  ·by_cases hk:ok s=true
   ·rw[if_pos hk]
    cases hh:h s with
    |some b=>simp only[bS _ _ _ _ hn,ih];simp[hn]
    |none=>simp only[ih];simp[hn]
   ·rw[if_neg hk,ih];simp[hn]
theorem aar (ok:Nat->Bool):∀(ss:List Nat) (n:Nat),uv ok ss n=(decide (n∈ss)&&ok n)
 |[],n=>by simp[uv,V3]
 |s::ss,n=>by
  have ih:=aar ok ss n
  simp only[uv]
  by_cases hn:n=s
  ·subst hn
   by_cases hk:ok n=true
   ·rw[if_pos hk];simp[bw,hk]
   ·rw[if_neg hk,ih];simp[hk]
  ·by_cases hk:ok s=true
   ·rw[if_pos hk,bS _ _ _ _ hn,ih];simp[hn]
   ·rw[if_neg hk,ih];simp[hn]
theorem ah.acP {ok:Nat->Bool} {c:ah} {m:Nat} (h:(c.eI ok).gU m):ok m=true:=by
 cases c<;>simp only[ah.eI] at h<;>first|exact h.elim|skip
 all_goals
  split at h
  ·rename_i hk
   have h':=h
   simp only[ah.gU] at h'
   subst h'
   exact hk
  ·exact h.elim
theorem ah.zM {ok:Nat->Bool} {c:ah} {m:Nat} (h:(c.cv ok).ref m):ok m=true:=by
 cases c with
 |fn f bR=>
  obtain⟨x,hx,h⟩:=h
  obtain⟨y,hy,rfl⟩:=List.mem_map.1 hx
  exact ah.acP h
 |c x=>exact h.elim
 |nil sz=>exact h.elim
 |bT xs off=>exact h.elim
 |bg=>exact h.elim
 |ptr n k sz off=>
  simp only[ah.cv,ah.eI] at h
  split at h
  ·rename_i hk;have h':m=n:=h;subst h';exact hk
  ·exact h.elim
 |sl n sz lo len=>
  simp only[ah.cv,ah.eI] at h
  split at h
  ·rename_i hk;have h':m=n:=h;subst h';exact hk
  ·exact h.elim
 |br n k ax off sz len=>
  simp only[ah.cv,ah.eI] at h
  split at h
  ·rename_i hk;have h':m=n:=h;subst h';exact hk
  ·exact h.elim
 |cr n k ax off sz i=>
  simp only[ah.cv,ah.eI] at h
  split at h
  ·rename_i hk;have h':m=n:=h;subst h';exact hk
  ·exact h.elim
section
variable {B:Nat} {E:Ex} {w0 w w':World} {G G':Gh} {N:Nat} {h h':Nat->Option ar} {ok:Nat->Bool}
variable {P:Program} {T:be} {a:Act} {σ σ':St} {Q:Exit->Act->World->Prop}
structure nZ (ok:Nat->Bool) (h h':Nat->Option ar):Prop where
 le:∀n,ok n=true->h' n=(h n).map (·.cv ok)\/h' n=none
 no:∀n,ok n=false->h' n=none
theorem nZ.ne (L:nZ ok h h') {n:Nat} (hn:h' n≠none):ok n=true/\h n≠none:=by
 cases hk:ok n with
 |false=>exact absurd (L.no n hk) hn
 |true=>
  refine⟨rfl,fun e=>?_⟩
  rcases L.le n hk with h1|h1
  ·rw[e] at h1;exact hn h1
  ·exact hn h1
theorem nZ.row (L:nZ ok h h') {n:Nat} {gr:Bool} {m:Mode} {sz:Nat} {xs:List (List C)} (hn:h' n=some (.row gr m sz xs)):h n=some (.row gr m sz xs):=by
 obtain⟨hk,h0⟩:=L.ne (n:=n) (by rw[hn];simp)
 rcases L.le n hk with h1|h1
 ·rw[h1] at hn
  cases hh:h n with
  |none=>exact absurd hh h0
  |some b=>cases b with
   |box cs=>rw[hh] at hn;simp[ar.cv] at hn
   |row gr m sz xs=>rw[hh] at hn;simp only[Option.map_some,ar.cv] at hn;exact hn
 ·rw[h1] at hn;cases hn
theorem nZ.box (L:nZ ok h h') {n:Nat} {cs:List ah} (hn:h' n=some (.box cs)):∃gu,h n=some (.box gu)/\cs=gu.map (·.cv ok):=by
 obtain⟨hk,h0⟩:=L.ne (n:=n) (by rw[hn];simp)
 rcases L.le n hk with h1|h1
 ·rw[h1] at hn
  cases hh:h n with
  |none=>exact absurd hh h0
  |some b=>cases b with
   |box gu=>
    rw[hh] at hn
    simp only[Option.map_some,ar.cv] at hn
    injection hn with hn
    injection hn with hn
    exact⟨gu,rfl,hn.symm⟩
   |row gr m sz xs=>rw[hh] at hn;simp[ar.cv] at hn
 ·rw[h1] at hn;cases hn
theorem iG.less (L:nZ ok h h') {c:ah} {v:Value} (hc:iG w G h c v):iG w G h' (c.eI ok) v:=by
 cases c with
 |ptr n k sz off=>
  simp only[ah.eI]
  split
  ·exact fun hn=>hc (L.ne hn).2
  ·trivial
 |sl n sz lo len=>
  simp only[ah.eI]
  split
  ·exact fun hn=>hc (L.ne hn).2
  ·trivial
 |br n k ax off sz len=>
  simp only[ah.eI]
  split
  ·exact fun gr xs hn=>hc gr xs (L.row hn)
  ·trivial
 |cr n k ax off sz i=>
  simp only[ah.eI]
  split
  ·exact fun gr xs hn=>hc gr xs (L.row hn)
  ·trivial
 |c x=>exact hc
 |nil sz=>exact hc
 |bT xs off=>exact hc
 |fn f bR=>exact hc
 |bg=>exact hc
theorem RC.less (L:nZ ok h h') {c:ah} {v:Value} (hc:RC w G h c v):RC w G h' (c.cv ok) v:=by
 cases c with
 |fn f bR=>
  obtain⟨vs,h1,h2,h3⟩:=hc
  refine⟨vs,h1,by simpa using h2,fun j c u hj hu=>?_⟩
  rw[List.getElem?_map] at hj
  cases hc:bR[j]? with
  |none=>rw[hc] at hj;cases hj
  |some c0=>
   rw[hc] at hj
   simp at hj
   subst hj
   exact⟨(h3 j c0 u hc hu).1,(h3 j c0 u hc hu).2.less L⟩
 |ptr n k sz off=>
  have:=iG.less (w:=w) (G:=G) L (c:=.ptr n k sz off) hc
  simp only[ah.cv]
  rw[xp]
  ·exact this
  ·simp only[ah.eI];split<;>rfl
 |sl n sz lo len=>
  have:=iG.less (w:=w) (G:=G) L (c:=.sl n sz lo len) hc
  simp only[ah.cv]
  rw[xp]
  ·exact this
  ·simp only[ah.eI];split<;>rfl
 |br n k ax off sz len=>
  have:=iG.less (w:=w) (G:=G) L (c:=.br n k ax off sz len) hc
  simp only[ah.cv]
  rw[xp]
  ·exact this
  ·simp only[ah.eI];split<;>rfl
 |cr n k ax off sz i=>
  have:=iG.less (w:=w) (G:=G) L (c:=.cr n k ax off sz i) hc
  simp only[ah.cv]
  rw[xp]
  ·exact this
  ·simp only[ah.eI];split<;>rfl
 |c x=>exact hc
 |nil sz=>exact hc
 |bT xs off=>exact hc
 |bg=>exact hc
theorem cj.less (L:nZ ok h h') {cs:List ah} {vs:List Value} (hc:cj w G h cs vs):cj w G h' (cs.map (·.cv ok)) vs:=by
 refine⟨by simpa using hc.1,fun j c u hj hu=>?_⟩
 rw[List.getElem?_map] at hj
 cases dQ:cs[j]? with
 |none=>rw[dQ] at hj;cases hj
 |some c0=>
  rw[dQ] at hj
  simp at hj
  subst hj
  exact⟨(hc.2 j c0 u dQ hu).1,(hc.2 j c0 u dQ hu).2.less L⟩
theorem RV.less (L:nZ ok h h') {ag:Bool} {cs:List ah} {v:Value} (hc:RV w G h ag cs v):RV w G h' ag (cs.map (·.cv ok)) v:=by
 unfold RV at*
 split
 ·rename_i h1
  simp only[h1,if_true] at hc
  obtain⟨vs,e,hv⟩:=hc
  exact⟨vs,e,hv.less L⟩
 ·rename_i h1
  simp only[h1] at hc
  exact cj.less L hc
theorem RA.less (L:nZ ok h h') {x:ai} {v:Value} (hc:RA w G h x v):RA w G h' (x.cv ok) v:=by
 cases x with
 |one c=>
  rcases hc with rfl|hc
  ·exact Or.inl rfl
  ·exact Or.inr (RV.less L hc)
 |agg cs=>exact RV.less L hc
 |bj xs=>
  obtain⟨vs,e,hl,hv⟩:=hc
  refine⟨vs,e,by simpa using hl,fun j x u hj hu=>?_⟩
  rw[List.getElem?_map] at hj
  cases dQ:xs[j]? with
  |none=>rw[dQ] at hj;cases hj
  |some c0=>
   rw[dQ] at hj
   simp at hj
   subst hj
   exact RV.less L (hv j c0 u dQ hu)
theorem ai.zM {x:ai} {m:Nat} (h:(x.cv ok).ref m):ok m=true:=by
 cases x with
 |one c=>exact ah.zM h
 |agg cs=>
  obtain⟨c,hc,h⟩:=h
  obtain⟨c0,dQ,rfl⟩:=List.mem_map.1 hc
  exact ah.zM h
 |bj xs=>
  obtain⟨x,hx,c,hc,h⟩:=h
  obtain⟨x0,hx0,rfl⟩:=List.mem_map.1 hx
  obtain⟨c0,dQ,rfl⟩:=List.mem_map.1 hc
  exact ah.zM h
theorem HR.less {used:Nat->Bool} (H:HR B E w G h used []) (L:nZ ok h h'):HR B E w G h' ok []:=by
 refine⟨fun n hn=>(L.ne hn).1,fun m cs c n hm hc hr=>?_,fun n cs hn=>?_,fun n gr m sz xs hn=>H.row n gr m sz xs (L.row hn),fun n hn=>H.own n (L.ne hn).2,fun n n' hn bh=>H.inj n n' (L.ne hn).2 (L.ne bh).2,
  H.fk,H.oH,fun n n' gr m sz xs bf m' aK au hn bh=>H.e7 n n' gr m sz xs bf m' aK au (L.row hn) (L.row bh),fun n gr sz xs hn b hb n' bh=>H.live n gr sz xs (L.row hn) b hb n' (L.ne bh).2,?_,?_,?_⟩
 ·obtain⟨gu,_,rfl⟩:=L.box hm
  obtain⟨c0,_,rfl⟩:=List.mem_map.1 hc
  exact ah.zM hr
 ·obtain⟨gu,h0,rfl⟩:=L.box hn
  obtain⟨a1,a2,a3⟩:=H.box n gu h0
  refine⟨a1,a2,fun j c hj=>?_⟩
  rw[List.getElem?_map] at hj
  cases dQ:gu[j]? with
  |none=>rw[dQ] at hj;cases hj
  |some c0=>
   rw[dQ] at hj
   simp at hj
   subst hj
   obtain⟨v,b1,b2,b3⟩:=a3 j c0 dQ
   exact⟨v,b1,b2,b3.less L⟩
 ·intro i pc hi;simp at hi
 ·intro i j pc cR b _ hi;simp at hi
 ·intro i pc n gr m sz xs b hi;simp at hi
theorem HR.aoj {used used':Nat->Bool} (H:HR B E w G h used []) (hu:∀n,used n=true->used' n=true):HR B E w G h used' []:=
 ⟨fun n hn=>hu n (H.iq n hn),fun m cs c n hm hc hr=>hu n (H.f8 m cs c n hm hc hr),H.box,H.row,H.own,H.inj,H.fk,H.oH,H.e7,H.live,H.qh,H.uK,H.qi⟩
theorem QY {ke kh:List Nat} {n:Nat} (hn:σ.h9 ke kh n=true):n∈kh:=by
 simp only[St.h9,Bool.and_eq_true] at hn
 simpa using hn.1.1
theorem R.gF (r:R B E w0 N σ a w G) (ke kh:List Nat):R B E w0 N (σ.gF ke kh) a w G:=by
 have L:nZ (σ.h9 ke kh) σ.h (σ.gF ke kh).h:=by
  refine⟨fun n hn=>.inl ?_,fun n hn=>?_⟩
  ·show p9 _ _ _ n=_
   rw[JZ,if_pos ⟨QY hn,hn⟩]
  ·show p9 _ _ _ n=_
   rw[JZ,if_neg (by simp[hn])]
 have hu:∀n,σ.h9 ke kh n=true->(σ.gF ke kh).used n=true:=by
  intro n hk
  show(Nat.ble aJ n||uv _ _ n)=true
  rw[aar]
  simp[hk,QY hk]
 refine⟨r.defers,r.size,fun s=>?_,fun s n hn=>?_,?_,r.fr,fun n p b hp hb=>?_,fun n hn=>?_⟩
 ·show RA w G _ (uu _ _ _ s) _
  rw[Rj]
  split
  ·exact(r.env s).less L
  ·exact Or.inl rfl
 ·have bh:(uu (σ.h9 ke kh) σ.env ke s).ref n:=hn
  rw[Rj] at bh
  split at bh
  ·exact hu n (ai.zM bh)
  ·exact absurd bh id
 ·exact(r.hr.less L).aoj hu
 ·have h0:(σ.gF ke kh).h n≠none:=by rw[hb];simp
  obtain⟨hk,_⟩:=L.ne h0
  have vJ:=fun b0 (h1:σ.h n=some b0)=>r.pV n p b0 hp h1
  have aU:p9 (σ.h9 ke kh) σ.h kh n=some b:=hb
  rw[JZ,if_pos ⟨QY hk,hk⟩] at aU
  cases h1:σ.h n with
  |none=>rw[h1] at aU;cases aU
  |some b0=>
   obtain⟨p1,p2,p3,p4,p6,p5⟩:=vJ b0 h1
   refine⟨p1,p2,p3,p4,p6,fun gr sz xs C7=>?_⟩
   rw[h1,C7] at aU
   cases b0 with
   |box cs=>simp[ar.cv] at aU
   |row bf m' aK au=>
    simp only[ar.cv,Option.map_some,Option.some.injEq,ar.row.injEq] at aU
    obtain⟨_,rfl,_,_⟩:=aU
    exact p5 bf aK au rfl
 ·show(Nat.ble aJ n||_)=true
  rw[Nat.ble_eq_true_of_le hn];rfl
end
end Go.Am
