/- Am22: code as a whole. No condition. -/
import Derived.Test.YtbgmbplglejidaaAm21
set_option linter.unusedVariables false
namespace Go.Am
theorem TE (ok:Nat->Bool) (env:Nat->ak):∀(ss:List Nat) (n:Nat),vC ok env ss n=if n∈ss then(env n).db ok else .one .bq
 |[],n=>by simp[vC,wG]
 |s::ss,n=>by
  simp only[vC,jr,TE ok env ss,List.mem_cons]
  by_cases h:n=s
  ·subst h;simp
  ·simp[h]
theorem Ld (ok:Nat->Bool) (h:Nat->Option ar):∀(ss:List Nat) (n:Nat),rr ok h ss n=if n∈ss/\ok n=true then(h n).map (·.db ok) else none
 |[],n=>by simp[rr,BN]
 |s::ss,n=>by
  have ih:=Ld ok h ss n
  simp only[rr,List.mem_cons]
  by_cases hn:n=s
  ·subst hn
   by_cases hk:ok n=true
   ·rw[if_pos hk]
    cases hh:h n with
    |some b=>simp[bN,hk]
    |none=>simp only[ih,hh];simp
   ·rw[if_neg hk,ih];simp[hk]
  ·by_cases hk:ok s=true
   ·rw[if_pos hk]
    cases hh:h s with
    |some b=>simp only[cE _ _ _ _ hn,ih];simp[hn]
    |none=>simp only[ih];simp[hn]
   ·rw[if_neg hk,ih];simp[hn]
theorem acZ (ok:Nat->Bool):∀(ss:List Nat) (n:Nat),vD ok ss n=(decide (n∈ss)&&ok n)
 |[],n=>by simp[vD,Ze]
 |s::ss,n=>by
  have ih:=acZ ok ss n
  simp only[vD]
  by_cases hn:n=s
  ·subst hn
   by_cases hk:ok n=true
   ·rw[if_pos hk];simp[bN,hk]
   ·rw[if_neg hk,ih];simp[hk]
  ·by_cases hk:ok s=true
   ·rw[if_pos hk,cE _ _ _ _ hn,ih];simp[hn]
   ·rw[if_neg hk,ih];simp[hn]
theorem aj.afT {ok:Nat->Bool} {c:aj} {m:Nat} (h:(c.fG ok).iY m):ok m=true:=by
 cases c<;>simp only[aj.fG] at h<;>first|exact h.elim|skip
 all_goals
  split at h
  ·rename_i hk
   have h':=h
   simp only[aj.iY] at h'
   subst h'
   exact hk
  ·exact h.elim
theorem aj.BH {ok:Nat->Bool} {c:aj} {m:Nat} (h:(c.db ok).ref m):ok m=true:=by
 cases c with
 |fn f cF=>
  obtain⟨x,hx,h⟩:=h
  obtain⟨y,hy,rfl⟩:=List.mem_map.1 hx
  exact aj.afT h
 |c x=>exact h.elim
 |nil sz=>exact h.elim
 |cH xs off=>exact h.elim
 |bq=>exact h.elim
 |ptr n k sz off=>
  simp only[aj.db,aj.fG] at h
  split at h
  ·rename_i hk;have h':m=n:=h;subst h';exact hk
  ·exact h.elim
 |sl n sz lo len=>
  simp only[aj.db,aj.fG] at h
  split at h
  ·rename_i hk;have h':m=n:=h;subst h';exact hk
  ·exact h.elim
 |bE n k aE off sz len=>
  simp only[aj.db,aj.fG] at h
  split at h
  ·rename_i hk;have h':m=n:=h;subst h';exact hk
  ·exact h.elim
 |c7 n k aE off sz i=>
  simp only[aj.db,aj.fG] at h
  split at h
  ·rename_i hk;have h':m=n:=h;subst h';exact hk
  ·exact h.elim
section
variable {B:Nat} {E:Ex} {w0 w w':World} {G G':Gh} {N:Nat} {h h':Nat->Option ar} {ok:Nat->Bool}
variable {P:Program} {T:aT} {a:Act} {σ σ':St} {Q:Exit->Act->World->Prop}
structure pz (ok:Nat->Bool) (h h':Nat->Option ar):Prop where
 le:∀n,ok n=true->h' n=(h n).map (·.db ok)\/h' n=none
 no:∀n,ok n=false->h' n=none
theorem pz.ne (L:pz ok h h') {n:Nat} (hn:h' n≠none):ok n=true/\h n≠none:=by
 cases hk:ok n with
 |false=>exact absurd (L.no n hk) hn
 |true=>
  refine⟨rfl,fun e=>?_⟩
  rcases L.le n hk with h1|h1
  ·rw[e] at h1;exact hn h1
  ·exact hn h1
theorem pz.row (L:pz ok h h') {n:Nat} {gr:Bool} {m:Mode} {sz:Nat} {xs:List (List C)} (hn:h' n=some (.row gr m sz xs)):h n=some (.row gr m sz xs):=by
 obtain⟨hk,h0⟩:=L.ne (n:=n) (by rw[hn];simp)
 rcases L.le n hk with h1|h1
 ·rw[h1] at hn
  cases hh:h n with
  |none=>exact absurd hh h0
  |some b=>cases b with
   |box cs=>rw[hh] at hn;simp[ar.db] at hn
   |row gr m sz xs=>rw[hh] at hn;simp only[Option.map_some,ar.db] at hn;exact hn
 ·rw[h1] at hn;cases hn
theorem pz.box (L:pz ok h h') {n:Nat} {cs:List aj} (hn:h' n=some (.box cs)):∃io,h n=some (.box io)/\cs=io.map (·.db ok):=by
 obtain⟨hk,h0⟩:=L.ne (n:=n) (by rw[hn];simp)
 rcases L.le n hk with h1|h1
 ·rw[h1] at hn
  cases hh:h n with
  |none=>exact absurd hh h0
  |some b=>cases b with
   |box io=>
    rw[hh] at hn
    simp only[Option.map_some,ar.db] at hn
    injection hn with hn
    injection hn with hn
    exact⟨io,rfl,hn.symm⟩
   |row gr m sz xs=>rw[hh] at hn;simp[ar.db] at hn
 ·rw[h1] at hn;cases hn
theorem jM.less (L:pz ok h h') {c:aj} {v:Value} (hc:jM w G h c v):jM w G h' (c.fG ok) v:=by
 cases c with
 |ptr n k sz off=>
  simp only[aj.fG]
  split
  ·exact fun hn=>hc (L.ne hn).2
  ·trivial
 |sl n sz lo len=>
  simp only[aj.fG]
  split
  ·exact fun hn=>hc (L.ne hn).2
  ·trivial
 |bE n k aE off sz len=>
  simp only[aj.fG]
  split
  ·exact fun gr xs hn=>hc gr xs (L.row hn)
  ·trivial
 |c7 n k aE off sz i=>
  simp only[aj.fG]
  split
  ·exact fun gr xs hn=>hc gr xs (L.row hn)
  ·trivial
 |c x=>exact hc
 |nil sz=>exact hc
 |cH xs off=>exact hc
 |fn f cF=>exact hc
 |bq=>exact hc
theorem RC.less (L:pz ok h h') {c:aj} {v:Value} (hc:RC w G h c v):RC w G h' (c.db ok) v:=by
 cases c with
 |fn f cF=>
  obtain⟨vs,h1,h2,h3⟩:=hc
  refine⟨vs,h1,by simpa using h2,fun j c u hj hu=>?_⟩
  rw[List.getElem?_map] at hj
  cases hc:cF[j]? with
  |none=>rw[hc] at hj;cases hj
  |some c0=>
   rw[hc] at hj
   simp at hj
   subst hj
   exact⟨(h3 j c0 u hc hu).1,(h3 j c0 u hc hu).2.less L⟩
 |ptr n k sz off=>
  have:=jM.less (w:=w) (G:=G) L (c:=.ptr n k sz off) hc
  simp only[aj.db]
  rw[yq]
  ·exact this
  ·simp only[aj.fG];split<;>rfl
 |sl n sz lo len=>
  have:=jM.less (w:=w) (G:=G) L (c:=.sl n sz lo len) hc
  simp only[aj.db]
  rw[yq]
  ·exact this
  ·simp only[aj.fG];split<;>rfl
 |bE n k aE off sz len=>
  have:=jM.less (w:=w) (G:=G) L (c:=.bE n k aE off sz len) hc
  simp only[aj.db]
  rw[yq]
  ·exact this
  ·simp only[aj.fG];split<;>rfl
 |c7 n k aE off sz i=>
  have:=jM.less (w:=w) (G:=G) L (c:=.c7 n k aE off sz i) hc
  simp only[aj.db]
  rw[yq]
  ·exact this
  ·simp only[aj.fG];split<;>rfl
 |c x=>exact hc
 |nil sz=>exact hc
 |cH xs off=>exact hc
 |bq=>exact hc
theorem cZ.less (L:pz ok h h') {cs:List aj} {vs:List Value} (hc:cZ w G h cs vs):cZ w G h' (cs.map (·.db ok)) vs:=by
 refine⟨by simpa using hc.1,fun j c u hj hu=>?_⟩
 rw[List.getElem?_map] at hj
 cases eR:cs[j]? with
 |none=>rw[eR] at hj;cases hj
 |some c0=>
  rw[eR] at hj
  simp at hj
  subst hj
  exact⟨(hc.2 j c0 u eR hu).1,(hc.2 j c0 u eR hu).2.less L⟩
theorem RV.less (L:pz ok h h') {ag:Bool} {cs:List aj} {v:Value} (hc:RV w G h ag cs v):RV w G h' ag (cs.map (·.db ok)) v:=by
 unfold RV at*
 split
 ·rename_i h1
  simp only[h1,if_true] at hc
  obtain⟨vs,e,hv⟩:=hc
  exact⟨vs,e,hv.less L⟩
 ·rename_i h1
  simp only[h1] at hc
  exact cZ.less L hc
theorem RA.less (L:pz ok h h') {x:ak} {v:Value} (hc:RA w G h x v):RA w G h' (x.db ok) v:=by
 cases x with
 |one c=>
  rcases hc with rfl|hc
  ·exact Or.inl rfl
  ·exact Or.inr (RV.less L hc)
 |agg cs=>exact RV.less L hc
 |br xs=>
  obtain⟨vs,e,hl,hv⟩:=hc
  refine⟨vs,e,by simpa using hl,fun j x u hj hu=>?_⟩
  rw[List.getElem?_map] at hj
  cases eR:xs[j]? with
  |none=>rw[eR] at hj;cases hj
  |some c0=>
   rw[eR] at hj
   simp at hj
   subst hj
   exact RV.less L (hv j c0 u eR hu)
theorem ak.BH {x:ak} {m:Nat} (h:(x.db ok).ref m):ok m=true:=by
 cases x with
 |one c=>exact aj.BH h
 |agg cs=>
  obtain⟨c,hc,h⟩:=h
  obtain⟨c0,eR,rfl⟩:=List.mem_map.1 hc
  exact aj.BH h
 |br xs=>
  obtain⟨x,hx,c,hc,h⟩:=h
  obtain⟨x0,hx0,rfl⟩:=List.mem_map.1 hx
  obtain⟨c0,eR,rfl⟩:=List.mem_map.1 hc
  exact aj.BH h
theorem HR.less {used:Nat->Bool} (H:HR B E w G h used []) (L:pz ok h h'):HR B E w G h' ok []:=by
 refine⟨fun n hn=>(L.ne hn).1,fun m cs c n hm hc hr=>?_,fun n cs hn=>?_,fun n gr m sz xs hn=>H.row n gr m sz xs (L.row hn),fun n hn=>H.own n (L.ne hn).2,fun n n' hn bm=>H.inj n n' (L.ne hn).2 (L.ne bm).2,
  H.gi,H.pZ,fun n n' gr m sz xs bo m' aJ au hn bm=>H.fV n n' gr m sz xs bo m' aJ au (L.row hn) (L.row bm),fun n gr sz xs hn b hb n' bm=>H.live n gr sz xs (L.row hn) b hb n' (L.ne bm).2,?_,?_,?_⟩
 ·obtain⟨io,_,rfl⟩:=L.box hm
  obtain⟨c0,_,rfl⟩:=List.mem_map.1 hc
  exact aj.BH hr
 ·obtain⟨io,h0,rfl⟩:=L.box hn
  obtain⟨a1,a2,a3⟩:=H.box n io h0
  refine⟨a1,a2,fun j c hj=>?_⟩
  rw[List.getElem?_map] at hj
  cases eR:io[j]? with
  |none=>rw[eR] at hj;cases hj
  |some c0=>
   rw[eR] at hj
   simp at hj
   subst hj
   obtain⟨v,b1,b2,b3⟩:=a3 j c0 eR
   exact⟨v,b1,b2,b3.less L⟩
 ·intro i pc hi;simp at hi
 ·intro i j pc dq b _ hi;simp at hi
 ·intro i pc n gr m sz xs b hi;simp at hi
theorem HR.as0 {used used':Nat->Bool} (H:HR B E w G h used []) (hu:∀n,used n=true->used' n=true):HR B E w G h used' []:=
 ⟨fun n hn=>hu n (H.jc n hn),fun m cs c n hm hc hr=>hu n (H.g8 m cs c n hm hc hr),H.box,H.row,H.own,H.inj,H.gi,H.pZ,H.fV,H.live,H.rF,H.vP,H.rG⟩
theorem Tb {ke kh:List Nat} {n:Nat} (hn:σ.jm ke kh n=true):n∈kh:=by
 simp only[St.jm,Bool.and_eq_true] at hn
 simpa using hn.1.1
theorem R.iE (r:R B E w0 N σ a w G) (ke kh:List Nat):R B E w0 N (σ.iE ke kh) a w G:=by
 have L:pz (σ.jm ke kh) σ.h (σ.iE ke kh).h:=by
  refine⟨fun n hn=>.inl ?_,fun n hn=>?_⟩
  ·show rr _ _ _ n=_
   rw[Ld,if_pos ⟨Tb hn,hn⟩]
  ·show rr _ _ _ n=_
   rw[Ld,if_neg (by simp[hn])]
 have hu:∀n,σ.jm ke kh n=true->(σ.iE ke kh).used n=true:=by
  intro n hk
  show(Nat.ble aK n||vD _ _ n)=true
  rw[acZ]
  simp[hk,Tb hk]
 refine⟨r.defers,r.size,fun s=>?_,fun s n hn=>?_,?_,r.fr,fun n p b hp hb=>?_,fun n hn=>?_⟩
 ·show RA w G _ (vC _ _ _ s) _
  rw[TE]
  split
  ·exact(r.env s).less L
  ·exact Or.inl rfl
 ·have bm:(vC (σ.jm ke kh) σ.env ke s).ref n:=hn
  rw[TE] at bm
  split at bm
  ·exact hu n (ak.BH bm)
  ·exact absurd bm id
 ·exact(r.hr.less L).as0 hu
 ·have h0:(σ.iE ke kh).h n≠none:=by rw[hb];simp
  obtain⟨hk,_⟩:=L.ne h0
  have w5:=fun b0 (h1:σ.h n=some b0)=>r.rm n p b0 hp h1
  have be:rr (σ.jm ke kh) σ.h kh n=some b:=hb
  rw[Ld,if_pos ⟨Tb hk,hk⟩] at be
  cases h1:σ.h n with
  |none=>rw[h1] at be;cases be
  |some b0=>
   obtain⟨p1,p2,p3,p4,p6,p5⟩:=w5 b0 h1
   refine⟨p1,p2,p3,p4,p6,fun gr sz xs E2=>?_⟩
   rw[h1,E2] at be
   cases b0 with
   |box cs=>simp[ar.db] at be
   |row bo m' aJ au=>
    simp only[ar.db,Option.map_some,Option.some.injEq,ar.row.injEq] at be
    obtain⟨_,rfl,_,_⟩:=be
    exact p5 bo aJ au rfl
 ·show(Nat.ble aK n||_)=true
  rw[Nat.ble_eq_true_of_le hn];rfl
end
end Go.Am
