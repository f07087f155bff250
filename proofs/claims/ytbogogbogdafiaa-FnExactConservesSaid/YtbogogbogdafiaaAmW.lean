/- AmW: functions whose results may share, and that may change the cells of one pointer: from code to what is said of them. No condition. -/
import Derived.Test.YtbogogbogdafiaaAm30
set_option linter.unusedVariables false
namespace Go.Am
def argB : Dv → AVal
 | (.one, [x]) => .one (.c x)
 | (.one, _) => .one .junk
 | (.agg, xs) => .agg (xs.map .c)
 | (.ptr, _) => .one (.ptr PIN 0 0 0)
def initEV : Nat → List Dv → (Nat → AVal)
 | _, [] => emptyEnv
 | k, d :: ds => upd (initEV (k + 1) ds) k (argB d)
def ptrOf : List Dv → Option (List C)
 | [] => none
 | (.ptr, xs) :: _ => some xs
 | _ :: ds => ptrOf ds
def initHV (ds : List Dv) : Nat → Option Blk := fun n => match Nat.beq n PIN with
 | true => (ptrOf ds).map fun xs => .box (xs.map .c)
 | false => none
def initSV (ds : List Dv) : St := { env := initEV 0 ds, h := initHV ds, used := fun n => Nat.ble PIN n }
theorem usedV (ds : List Dv) (n : Nat) (hn : PIN ≤ n) : (initSV ds).used n = true := Nat.ble_eq_true_of_le hn
def retBs (h : Nat → Option Blk) : List AVal → Option (List Dv)
 | [] => some []
 | v :: vs => match v.cells? with
  | some (ag, cs) => match viewL h cs, retBs h vs with
   | some xs, some ds => some ((if ag = true then .agg else .one, xs) :: ds)
   | _, _ => none
  | none => none
def retVs (h : Nat → Option Blk) : List AVal → Option (List Dv)
 | [v] => match bPtr h v with
  | some (n, xs) => if PIN ≤ n then none else some [(.ptr, xs)]
  | none => retBs h [v]
 | vs => retBs h vs
def outV (h : Nat → Option Blk) : Option (List C) → Option (List C)
 | none => some []
 | some xs => match h PIN with
  | some (.box cs) => if cs.length = xs.length then immL cs else none
  | _ => none
def St.retV (σ : St) (ms : List MRes) (ds : List Dv) : Option (List Dv × List C) :=
 match σ.resV ms with
 | some vs => match retVs σ.h vs, outV σ.h (ptrOf ds) with
  | some rs, some out => some (rs, out)
  | _, _ => none
 | none => none
def runV (T : Tab) (mc : MCode) (res : List MRes) (ds : List Dv) : Option (List Dv × List C) :=
 match den T mc (initSV ds) with
 | some (.nrm σ) => σ.retV res ds
 | some (.ret σ) => σ.retV res ds
 | _ => none
section
variable {B : Nat} {E : Ex} {w0 w w' : World} {G G' : Gh} {N : Nat} {h h' : Nat → Option Blk} {used : Nat → Bool}
variable {P : Program} {T : Tab} {a : Act} {σ σ' : St} {Q : Exit → Act → World → Prop}
theorem initEV_get : ∀ (ds : List Dv) (k n : Nat), initEV k ds n = if k ≤ n then (match ds[n - k]? with | some d => argB d | none => .one .junk) else .one .junk
 | [], k, n => by simp [initEV, emptyEnv]
 | d :: ds, k, n => by
  simp only [initEV, upd_def, initEV_get ds]
  by_cases h : n = k
  ·subst h; simp
  ·by_cases h2 : k ≤ n
   ·have h3 : k + 1 ≤ n := by omega
    have h4 : n - k = (n - (k + 1)) + 1 := by omega
    simp [h, h2, h3, h4]
   ·have h3 : ¬ k + 1 ≤ n := by omega
    simp [h, h2, h3]
theorem initHV_some {ds : List Dv} {n : Nat} {b : Blk} (hn : initHV ds n = some b) : n = PIN ∧ ∃ xs, ptrOf ds = some xs ∧ b = .box (xs.map .c) := by
 unfold initHV at hn
 split at hn
 ·rename_i e
  have := Nat.eq_of_beq_eq_true e
  subst this
  refine ⟨rfl, ?_⟩
  cases hp : ptrOf ds with
  | none => rw [hp] at hn; cases hn
  | some xs => rw [hp] at hn; injection hn with hn; exact ⟨xs, rfl, hn.symm⟩
 ·cases hn
def curOf : List PA → Option PA
 | [] => none
 | p :: ps => if p.k = .ptr then some p else curOf ps
theorem curOf_some : ∀ {pas : List PA} {p : PA}, curOf pas = some p → p ∈ pas ∧ p.k = .ptr
 | [], p, h => by cases h
 | q :: pas, p, h => by
  unfold curOf at h
  split at h
  ·injection h with h; subst h; rename_i hk; exact ⟨by simp, hk⟩
  ·obtain ⟨h1, h2⟩ := curOf_some h; exact ⟨by simp [h1], h2⟩
theorem curOf_none : ∀ {pas : List PA}, curOf pas = none → ∀ p ∈ pas, p.k ≠ .ptr
 | [], _, p, hp => by cases hp
 | q :: pas, h, p, hp => by
  unfold curOf at h
  split at h
  ·cases h
  ·rename_i hk
   cases hp with
   | head => exact hk
   | tail _ hp => exact curOf_none h p hp
theorem ptrOf_pas : ∀ {ds : List Dv} {pas : List PA}, pas.length = ds.length → (∀ (i : Nat) (d : Dv) (p : PA), ds[i]? = some d → pas[i]? = some p → d = (p.k, p.ps.map PC.er)) → ptrOf ds = (curOf pas).map fun p => p.ps.map PC.er
 | [], [], _, _ => rfl
 | [], _ :: _, hl, _ => by simp at hl
 | _ :: _, [], hl, _ => by simp at hl
 | d :: ds, p :: pas, hl, hd => by
  have h0 := hd 0 d p rfl rfl
  have ih := ptrOf_pas (ds := ds) (pas := pas) (by simpa using hl) (fun i d p h1 h2 => hd (i + 1) d p h1 h2)
  subst h0
  obtain ⟨k, ps, b, o⟩ := p
  cases k with
  | ptr => rfl
  | one => simpa [ptrOf, curOf] using ih
  | agg => simpa [ptrOf, curOf] using ih
def pinV (p : PA) : PB := ⟨false, p.b, p.o, 0, [], none⟩
def exVc (pas : List PA) : Ex :=
 ⟨fun b => ∃ p ∈ pas, p.k = .ptr ∧ b = p.b, fun n => if n = PIN then (curOf pas).map pinV else none, fun n p h => (by
  by_cases hn : n = PIN
  ·exact Nat.le_of_eq hn.symm
  ·rw [if_neg hn] at h; cases h), fun b => ∃ q ∈ pas, ∃ pc ∈ q.ps, InF b pc⟩
def ghostV (pas : List PA) : Gh := ⟨fun b => ∃ q ∈ pas, ∃ pc ∈ q.ps, InF b pc, fun n => match curOf pas with | some p => pinV p | none => default⟩
theorem R.initV {ds : List Dv} {vals : List Value} {pas : List PA} (va : VArgs w ds vals pas) (hN : ds.length ≤ N) :
  R w.heap.size (exVc pas) w N (initSV ds) { tmps := vals.toArray ++ Array.replicate (N - vals.toArray.size) undef, defers := [] } w (ghostV pas) := by
 have hl := va.l1
 have hpt : ptrOf ds = (curOf pas).map fun p => p.ps.map PC.er := by
  refine ptrOf_pas va.l2 fun i d p hd hp => ?_
  have hv : vals[i]? = some (vals[i]'(by rw [va.l1]; exact (List.getElem?_eq_some_iff.1 hd).1)) := List.getElem?_eq_getElem _
  exact (va.at_ i d _ p hd hv hp).1
 have hgood : ∀ q ∈ pas, ∀ pc ∈ q.ps, Good w pc := by
  intro q hq pc hpc
  obtain ⟨i, hi, rfl⟩ := List.getElem_of_mem hq
  have hd : ds[i]? = some (ds[i]'(by rw [← va.l2]; exact hi)) := List.getElem?_eq_getElem _
  have hv : vals[i]? = some (vals[i]'(by rw [va.l1, ← va.l2]; exact hi)) := List.getElem?_eq_getElem _
  exact (va.at_ i _ _ _ hd hv (List.getElem?_eq_getElem hi)).2.1 pc hpc
 have hlie : ∀ q ∈ pas, q.k = .ptr → LieAt w q.b q.o q.ps ∧ ∃ v : Value, v ∈ vals ∧ v = .pointer (some (ad q.b q.o)) := by
  intro q hq hk
  obtain ⟨i, hi, rfl⟩ := List.getElem_of_mem hq
  have hd : ds[i]? = some (ds[i]'(by rw [← va.l2]; exact hi)) := List.getElem?_eq_getElem _
  have hv : vals[i]? = some (vals[i]'(by rw [va.l1, ← va.l2]; exact hi)) := List.getElem?_eq_getElem _
  have h3 := (va.at_ i _ _ _ hd hv (List.getElem?_eq_getElem hi)).2.2
  rw [hk] at h3
  exact ⟨h3.2.2, _, List.mem_of_getElem? hv, h3.1⟩
 have cell : ∀ q ∈ pas, ∀ pc ∈ q.ps, RC w (ghostV pas) (initHV ds) (.c pc.er) pc.val := fun q hq pc hpc => ⟨pc, rfl, rfl, hgood q hq pc hpc, fun b hb => ⟨q, hq, pc, hpc, hb⟩⟩
 have cells : ∀ q ∈ pas, RCl w (ghostV pas) (initHV ds) ((q.ps.map PC.er).map .c) (q.ps.map PC.val) := by
  intro q hq
  refine ⟨by simp, fun j c u hj hu => ?_⟩
  simp only [List.getElem?_map, List.map_map] at hj hu
  cases hp : q.ps[j]? with
  | none => rw [hp] at hj; cases hj
  | some pc =>
   rw [hp] at hj hu
   simp at hj hu
   subst hj hu
   exact ⟨PC.val_oneCell pc, cell q hq pc (List.mem_of_getElem? hp)⟩
 refine ⟨rfl, by simp; omega, fun s => ?_, fun s n hn => ?_, ?_, Fr.refl _ _ _ (Nat.le_refl _), fun n p b hp hb => ?_, fun n hn => Nat.ble_eq_true_of_le hn⟩
 ·show RA w _ (initHV ds) (initEV 0 ds s) _
  rw [initEV_get]
  simp only [Nat.zero_le, if_true, Nat.sub_zero]
  cases hs : ds[s]? with
  | none => exact Or.inl rfl
  | some d =>
   have hsd := (List.getElem?_eq_some_iff.1 hs).1
   have hsl : s < vals.length := by rw [hl]; exact hsd
   have hv : vals[s]? = some vals[s] := List.getElem?_eq_getElem hsl
   obtain ⟨q, hp⟩ : ∃ q, pas[s]? = some q := ⟨_, List.getElem?_eq_getElem (by rw [va.l2]; exact hsd)⟩
   have : (vals.toArray ++ Array.replicate (N - vals.toArray.size) undef).getD s undef = vals[s] := by
    simp [Array.getD_eq_getD_getElem?, Array.getElem?_append, hsl]
   rw [this]
   have hmem := List.mem_of_getElem? hp
   obtain ⟨e1, e2, e3⟩ := va.at_ s d _ q hs hv hp
   generalize vals[s] = u at *
   subst e1
   obtain ⟨k, ps, b, o⟩ := q
   cases k with
   | one =>
    have e3 : ps.map PC.val = [u] := e3
    obtain ⟨pc, rfl⟩ : ∃ pc, ps = [pc] := by
     have := congrArg List.length e3
     exact List.length_eq_one_iff.1 (by simpa using this)
    simp at e3
    rw [← e3]
    exact RA.of_one (PC.val_oneCell pc) (cell _ hmem pc (by simp))
   | agg => exact ⟨_, e3, cells _ hmem⟩
   | ptr =>
    have e3 : u = .pointer (some (ad b o)) ∧ _ := e3
    rw [e3.1]
    have hc : curOf pas = some ⟨.ptr, ps, b, o⟩ := by
     cases hc : curOf pas with
     | none => exact absurd rfl (curOf_none hc _ hmem)
     | some p =>
      obtain ⟨c1, c2⟩ := curOf_some hc
      obtain ⟨i, hi⟩ := List.getElem?_of_mem c1
      have := va.one i s p _ hi hp c2 rfl
      subst this
      rw [hi] at hp
      injection hp with hp
      rw [hp]
    refine RA.of_one (c := .ptr PIN 0 0 0) rfl (fun _ => ?_)
    simp [ghostV, hc, pinV]
 ·have hn' : (initEV 0 ds s).ref n := hn
  rw [initEV_get] at hn'
  simp only [Nat.zero_le, if_true, Nat.sub_zero] at hn'
  cases hs : ds[s]? with
  | none => rw [hs] at hn'; exact absurd hn' id
  | some d =>
   rw [hs] at hn'
   obtain ⟨k, xs⟩ := d
   cases k with
   | one => match xs, hn' with
    | [], hn' => exact absurd hn' id
    | [x], hn' => exact absurd hn' id
    | _ :: _ :: _, hn' => exact absurd hn' id
   | agg =>
    obtain ⟨c, hc, hh⟩ := hn'
    obtain ⟨y, _, rfl⟩ := List.mem_map.1 hc
    exact absurd hh id
   | ptr =>
    have hn' : n = PIN := hn'
    subst hn'
    exact usedV ds PIN (Nat.le_refl PIN)
 ·-- the heap of names
  have noRow : ∀ n gr m sz xs, initHV ds n ≠ some (.row gr m sz xs) := fun n gr m sz xs hn => by obtain ⟨_, _, _, e⟩ := initHV_some hn; cases e
  have hcur : ∀ n, initHV ds n ≠ none → n = PIN ∧ ∃ p, curOf pas = some p ∧ (ghostV pas).g n = pinV p ∧ initHV ds n = some (.box ((p.ps.map PC.er).map .c)) := by
   intro n hn
   cases hh : initHV ds n with
   | none => exact absurd hh hn
   | some b =>
    obtain ⟨rfl, xs, e1, e2⟩ := initHV_some hh
    rw [hpt] at e1
    cases hc : curOf pas with
    | none => rw [hc] at e1; cases e1
    | some p =>
     rw [hc] at e1
     injection e1 with e1
     exact ⟨rfl, p, rfl, by simp [ghostV, hc], by rw [e2, ← e1]⟩
  refine ⟨fun n hn => ?_, fun m cs c n hm hc hr => ?_, fun n cs hn => ?_, fun n gr m sz xs hn => absurd hn (noRow _ _ _ _ _), fun n hn hlf => ?_, fun n n' hn hn' hne => ?_, fun b hb => ?_, fun b hb => .inr (.inr hb),
   fun n n' gr m sz xs gr' m' sz' xs' hn => absurd hn (noRow _ _ _ _ _), fun n gr sz xs hn => absurd hn (noRow _ _ _ _ _), ?_, ?_, ?_⟩
  ·obtain ⟨rfl, _⟩ := hcur n hn
   exact usedV ds PIN (Nat.le_refl PIN)
  ·have hm' : initHV ds m = some (.box cs) := hm
   obtain ⟨_, xs, _, e⟩ := initHV_some hm'
   injection e with e
   subst e
   obtain ⟨x, _, rfl⟩ := List.mem_map.1 hc
   exact absurd hr id
  ·have hn' : initHV ds n = some (.box cs) := hn
   obtain ⟨rfl, p, c1, c2, c3⟩ := hcur n (by rw [hn']; simp)
   rw [hn'] at c3
   injection c3 with c3
   injection c3 with c3
   subst c3
   obtain ⟨m1, m2⟩ := curOf_some c1
   rw [c2]
   refine ⟨rfl, (va.unf p m1 m2).1, fun j c hj => ?_⟩
   rw [List.getElem?_map, List.getElem?_map] at hj
   cases hpj : p.ps[j]? with
   | none => rw [hpj] at hj; cases hj
   | some pc =>
    rw [hpj] at hj
    simp at hj
    subst hj
    exact ⟨pc.val, (hlie p m1 m2).1 j pc hpj, PC.val_oneCell pc, cell p m1 pc (List.mem_of_getElem? hpj)⟩
  ·obtain ⟨rfl, p, c1, c2, c3⟩ := hcur n hn
   obtain ⟨m1, m2⟩ := curOf_some c1
   rw [c2]
   obtain ⟨u1, u2⟩ := va.unf p m1 m2
   exact ⟨fun ⟨q, hq, pc, hpc, hb⟩ => u2 q hq pc hpc hb, .inr ⟨p, m1, m2, rfl⟩, u1.lt⟩
  ·obtain ⟨rfl, _⟩ := hcur n hn
   obtain ⟨rfl, _⟩ := hcur n' hn'
   exact absurd rfl hne
  ·obtain ⟨q, hq, pc, hpc, hb⟩ := hb
   exact (hgood q hq pc hpc).lt hb
  ·intro i pc hi; simp at hi
  ·intro i j pc pc' b _ hi; simp at hi
  ·intro i pc n gr m sz xs b hi; simp at hi
 ·have hp' : (if n = PIN then (curOf pas).map pinV else none) = some p := hp
  split at hp'
  ·rename_i hn
   subst hn
   cases hc : curOf pas with
   | none => rw [hc] at hp'; cases hp'
   | some q =>
    rw [hc] at hp'
    injection hp' with hp'
    subst hp'
    have hg : (ghostV pas).g PIN = pinV q := by simp [ghostV, hc]
    rw [hg]
    refine ⟨rfl, rfl, rfl, rfl, rfl, fun gr sz xs hb' => ?_⟩
    have hb2 : initHV ds PIN = some b := hb
    obtain ⟨_, _, _, e⟩ := initHV_some hb2
    rw [e] at hb'; cases hb'
  ·cases hp'
def Seen (G : Gh) (h : Nat → Option Blk) (b : Nat) : Prop := G.Im b ∨ ∃ n gr m sz xs, h n = some (.row gr m sz xs) ∧ ftN G n b
theorem HR.viewLS (H : HR B E w G h used []) : ∀ {cs : List ACell} {xs : List C} {vs : List Value}, Am.viewL h cs = some xs → RCl w G h cs vs → ∃ ps : List PC, ps.map PC.er = xs ∧ ps.map PC.val = vs ∧ ∀ pc ∈ ps, Good w pc ∧ ∀ b, InF b pc → Seen G h b
 | [], xs, vs, hx, hc => by
  simp only [Am.viewL] at hx
  injection hx with hx
  subst hx
  have : vs = [] := List.eq_nil_of_length_eq_zero (by simpa using hc.1)
  subst this
  exact ⟨[], rfl, rfl, by simp⟩
 | c :: cs, xs, vs, hx, hc => by
  simp only [Am.viewL] at hx
  split at hx
  ·rename_i x xs' e1 e2
   injection hx with hx
   subst hx
   match vs, hc.1 with
   | v :: vs, hl =>
    obtain ⟨pc, a1, a2, a3, a4⟩ := H.viewC_ft e1 (hc.2 0 c v rfl rfl).2
    obtain ⟨ps, b1, b2, b3⟩ := H.viewLS (vs := vs) e2 ⟨by simpa using hl, fun j c u h1 h2 => hc.2 (j + 1) c u h1 h2⟩
    refine ⟨pc :: ps, by simp [a1, b1], by simp [a2, b2], fun q hq => ?_⟩
    cases hq with
    | head => exact ⟨a3, fun b hb => (a4 b hb).imp id fun ⟨n, gr, m, sz, xs, _, h1, h2⟩ => ⟨n, gr, m, sz, xs, h1, h2⟩⟩
    | tail _ hq => exact b3 q hq
  ·cases hx
theorem HR.retBs (H : HR B E w G h used []) : ∀ {vs : List AVal} {ds : List Dv} {us : List Value}, Am.retBs h vs = some ds → us.length = vs.length → (∀ (j : Nat) (x : AVal) (v : Value), vs[j]? = some x → us[j]? = some v → RA w G h x v) →
  ∃ prs : List PA, prs.map (fun p => (p.k, p.ps.map PC.er)) = ds ∧ prs.map retOneV = us ∧ (∀ p ∈ prs, p.k ≠ .ptr ∧ (p.k = .one → p.ps.length = 1)) ∧ ∀ p ∈ prs, ∀ pc ∈ p.ps, Good w pc ∧ ∀ b, InF b pc → Seen G h b
 | [], ds, us, hx, hl, hc => by
  simp only [Am.retBs] at hx
  injection hx with hx
  subst hx
  have : us = [] := List.eq_nil_of_length_eq_zero (by simpa using hl)
  subst this
  exact ⟨[], rfl, rfl, by simp, by simp⟩
 | x :: vs, ds, us, hx, hl, hc => by
  simp only [Am.retBs] at hx
  split at hx
  ·rename_i ag cs ecs
   split at hx
   ·rename_i xs ds' e1 e2
    injection hx with hx
    subst hx
    match us, hl with
    | v :: us, hl =>
     obtain ⟨prs, b1, b2, b3, b4⟩ := H.retBs (us := us) e2 (by simpa using hl) (fun j x v h1 h2 => hc (j + 1) x v h1 h2)
     have h0 := hc 0 x v rfl rfl
     have hrc : ∃ vs : List Value, (if ag = true then v = .agg vs.toArray else vs = [v]) ∧ RCl w G h cs vs := by
      cases x with
      | one c =>
       have hcc : ag = false ∧ cs = [c] := by cases c <;> simp [AVal.cells?] at ecs <;> exact ⟨ecs.1, ecs.2.symm⟩
       obtain ⟨rfl, rfl⟩ := hcc
       rcases h0 with h0 | h0
       ·subst h0; simp [AVal.cells?] at ecs
       ·exact ⟨[v], rfl, h0⟩
      | agg cs' =>
       simp [AVal.cells?] at ecs
       obtain ⟨rfl, rfl⟩ := ecs
       obtain ⟨vs, e, h1⟩ : ∃ vs : List Value, v = .agg vs.toArray ∧ RCl w G h cs' vs := h0
       exact ⟨vs, e, h1⟩
      | tup xs => simp [AVal.cells?] at ecs
     obtain ⟨cvs, hvs, hcl⟩ := hrc
     obtain ⟨ps, p1, p2, p3⟩ := H.viewLS e1 hcl
     refine ⟨⟨if ag = true then .agg else .one, ps, 0, 0⟩ :: prs, by simp [p1, b1], ?_, fun p hp => ?_, fun p hp pc hpc => ?_⟩
     ·rw [List.map_cons, b2]
      congr 1
      cases ag with
      | true =>
       simp only [if_true] at hvs ⊢
       rw [hvs, ← p2]
       rfl
      | false =>
       simp only [Bool.false_eq_true, if_false] at hvs ⊢
       rw [← p2] at hvs
       match ps, hvs with
       | [pc], hvs => simp at hvs; exact hvs
     ·cases hp with
      | head =>
       cases ag with
       | true => exact ⟨by simp, fun h => by cases h⟩
       | false =>
        simp only [Bool.false_eq_true, if_false] at hvs
        refine ⟨by simp, fun _ => ?_⟩
        have : (ps.map PC.val).length = 1 := by rw [p2, hvs]; rfl
        simpa using this
      | tail _ hp => exact b3 p hp
     ·cases hp with
      | head => exact p3 pc hpc
      | tail _ hp => exact b4 p hp pc hpc
   ·cases hx
  ·cases hx
theorem packed_retV {prs : List PA} : packed (prs.map retOneV) = retValV prs := by
 match prs with
 | [] => rfl
 | [p] => rfl
 | p :: q :: prs => rfl
theorem v_of_den (hT : TOk P T) (hm : P.follows .mixedOrders = true) {f : FuncId} {fn : Func} {c : Code} {mc : MCode} {ms : List MRes} {M : List Dv → Option (List Dv × List C)} (hf : P.funcs[f]? = some fn) (hb : fn.body = some c)
  (hc : chkCode P fn.ntmps c mc = true) (hr : chkRes P fn.results.toList ms = true) (hM : ∀ ds rs out, M ds = some (rs, out) → ds.length ≤ fn.ntmps ∧ runV T mc ms ds = some (rs, out)) : VSpec P f M := by
 intro ds rs out hds w vals pas va
 obtain ⟨hN, hrun⟩ := hM ds rs out hds
 refine calls_of_wp hf hb ?_
 have r0 := R.initV (N := fn.ntmps) va hN
 have hpt : ptrOf ds = (curOf pas).map fun p => p.ps.map PC.er := by
  refine ptrOf_pas va.l2 fun i d p hd hp => ?_
  have hv : vals[i]? = some (vals[i]'(by rw [va.l1]; exact (List.getElem?_eq_some_iff.1 hd).1)) := List.getElem?_eq_getElem _
  exact (va.at_ i d _ p hd hv hp).1
 unfold runV at hrun
 have fin : ∀ {σ : St} {a : Act} {w' : World} {G : Gh}, σ.retV ms ds = some (rs, out) → R w.heap.size (exVc pas) w fn.ntmps σ a w' G → a.defers = [] ∧ ∃ v, (results fn a.tmps).run P w' = .ok v w' ∧
   ∃ (prs : List PA) (qs : List PC), prs.map (fun p => (p.k, p.ps.map PC.er)) = rs ∧ (Ending.returned v) = .returned (retValV prs) ∧ qs.map PC.er = out ∧ VAfter w w' pas prs qs := by
  intro σ a w' G hx r
  have H := r.hr
  unfold St.retV at hx
  split at hx
  ·rename_i vs e1
   split at hx
   ·rename_i rs' out' e2 e3
    injection hx with hx
    injection hx with hx1 hx2
    subst hx1 hx2
    -- the pointer's box stays where it was
    have hcp : ∀ p, curOf pas = some p → ∃ cs, σ.h PIN = some (.box cs) ∧ cs.length = p.ps.length ∧ immL cs = some out' ∧ (G.g PIN).nl = false ∧ (G.g PIN).b = p.b ∧ (G.g PIN).o = p.o := by
     intro p hp
     rw [hpt, hp] at e3
     simp only [Option.map_some, outV] at e3
     split at e3
     ·rename_i cs hcs
      split at e3
      ·rename_i hl
       have hpin : (exVc pas).pin PIN = some (pinV p) := by
        show (if PIN = PIN then (curOf pas).map pinV else none) = _
        rw [if_pos rfl, hp]; rfl
       obtain ⟨q1, q2, q3, _⟩ := r.pin _ _ _ hpin hcs
       exact ⟨cs, hcs, by simpa using hl, e3, q1, q2, q3⟩
      ·cases e3
     ·cases e3
    have huniq : ∀ q ∈ pas, q.k = .ptr → ∃ p, curOf pas = some p ∧ q = p := by
     intro q hq hk
     cases hc : curOf pas with
     | none => exact absurd hk (curOf_none hc q hq)
     | some p =>
      obtain ⟨c1, c2⟩ := curOf_some hc
      obtain ⟨i, hi⟩ := List.getElem?_of_mem hq
      obtain ⟨j, hj⟩ := List.getElem?_of_mem c1
      have := va.one i j q p hi hj hk c2
      subst this
      rw [hi] at hj
      injection hj with hj
      exact ⟨p, rfl, hj⟩
    have hE : ∀ b, (exVc pas) b → ∃ p cs, curOf pas = some p ∧ σ.h PIN = some (.box cs) ∧ (G.g PIN).nl = false ∧ b = (G.g PIN).b := by
     rintro b ⟨q, hq, hk, rfl⟩
     obtain ⟨p, hp, rfl⟩ := huniq q hq hk
     obtain ⟨cs, h1, _, _, h2, h3, _⟩ := hcp q hp
     exact ⟨q, cs, hp, h1, h2, h3.symm⟩
    have him : ∀ b, G.Im b → VIn w pas b := fun b hb => by
     rcases H.img b hb with h1 | h1 | h1
     ·exact .inl h1
     ·obtain ⟨p, cs, _, h2, h3, rfl⟩ := hE b h1
      exact absurd hb (H.own PIN (by rw [h2]; simp) h3).1
     ·exact .inr h1
    have hseen : ∀ b, Seen G σ.h b → VIn w pas b ∧ (∀ p, curOf pas = some p → b ≠ p.b) := by
     have hne : ∀ b, (∀ cs, σ.h PIN = some (.box cs) → (G.g PIN).nl = false → b ≠ (G.g PIN).b) → ∀ p, curOf pas = some p → b ≠ p.b := fun b hb p hp => by
      obtain ⟨cs, h1, _, _, h2, h3, _⟩ := hcp p hp
      rw [← h3]
      exact hb cs h1 h2
     have fromBE : ∀ b, (w.heap.size ≤ b ∨ (exVc pas) b) → (∀ cs, σ.h PIN = some (.box cs) → (G.g PIN).nl = false → b ≠ (G.g PIN).b) → VIn w pas b := fun b hb hne => by
      rcases hb with hb | hb
      ·exact .inl hb
      ·obtain ⟨p, cs, _, h2, h3, h4⟩ := hE b hb
       exact absurd h4 (hne cs h2 h3)
     intro b hb
     rcases hb with hb | ⟨n, gr, m, sz, xs, hn, hft⟩
     ·exact ⟨him b hb, hne b fun cs h1 h2 he => (H.own PIN (by rw [h1]; simp) h2).1 (he ▸ hb)⟩
     ·have hn0 : σ.h n ≠ none := by rw [hn]; simp
      rcases hft with ⟨hnl, rfl⟩ | hF
      ·have hd : ∀ cs, σ.h PIN = some (.box cs) → (G.g PIN).nl = false → (G.g n).b ≠ (G.g PIN).b := fun cs h1 h2 =>
        H.inj n PIN hn0 (by rw [h1]; simp) (by rintro rfl; rw [hn] at h1; cases h1) hnl h2
       exact ⟨fromBE _ (H.own n hn0 hnl).2.1 hd, hne _ hd⟩
      ·have hmode := (H.row n gr m sz xs hn).mode
       cases m with
       | bor => exact ⟨him b (hmode b hF), hne b fun cs h1 h2 he => (H.own PIN (by rw [h1]; simp) h2).1 (he ▸ hmode b hF)⟩
       | froz => exact ⟨him b (hmode.1 b hF).1, hne b fun cs h1 h2 he => (H.own PIN (by rw [h1]; simp) h2).1 (he ▸ (hmode.1 b hF).1)⟩
       | live =>
        have hd : ∀ cs, σ.h PIN = some (.box cs) → (G.g PIN).nl = false → b ≠ (G.g PIN).b := fun cs h1 h2 => H.live n gr sz xs hn b hF PIN (by rw [h1]; simp) h2
        exact ⟨fromBE b (hmode.1 b hF).2.2 hd, hne b hd⟩
    obtain ⟨us, u1, u2, _, u3⟩ := run_resList r hr e1
    -- what the pointer's cells hold
    obtain ⟨qs, q1, q2, q3⟩ : ∃ qs : List PC, qs.map PC.er = out' ∧ (∀ pc ∈ qs, Good w' pc ∧ ∀ b, InF b pc → G.Im b) ∧ ∀ p ∈ pas, p.k = .ptr → LieAt w' p.b p.o qs := by
     cases hc : curOf pas with
     | none =>
      rw [hpt, hc] at e3
      simp only [Option.map_none, outV] at e3
      injection e3 with e3
      subst e3
      exact ⟨[], rfl, by simp, fun p hp hk => absurd hk (curOf_none hc p hp)⟩
     | some p =>
      obtain ⟨cs, h1, h2, h3, h4, h5, h6⟩ := hcp p hc
      obtain ⟨cvs, v1, v2⟩ := H.boxVals h1
      obtain ⟨ps, p1, p2, p3⟩ := HR.immL h3 v1
      refine ⟨ps, p1, p3, fun q hq hk j c hj => ?_⟩
      obtain ⟨p', hp', rfl⟩ := huniq q hq hk
      rw [hc] at hp'
      injection hp' with hp'
      subst hp'
      rw [← h5, ← h6]
      refine v2 j _ ?_
      rw [← p2, List.getElem?_map, hj]; rfl
    have hfr : Fr w.heap.size (exV pas) w w' := ⟨r.fr.os, r.fr.tape, r.fr.output, r.fr.size, r.fr.block, r.fr.unf⟩
    have dat : ∀ {rs' : List Dv}, retBs σ.h vs = some rs' → ∃ v, (results fn a.tmps).run P w' = .ok v w' ∧
      ∃ (prs : List PA) (qs : List PC), prs.map (fun p => (p.k, p.ps.map PC.er)) = rs' ∧ (Ending.returned v) = .returned (retValV prs) ∧ qs.map PC.er = out' ∧ VAfter w w' pas prs qs := by
     intro rs' hrb
     obtain ⟨prs, b1, b2, b3, b4⟩ := H.retBs hrb u2 u3
     refine ⟨_, run_results fn a.tmps u1, prs, qs, b1, by rw [← b2, packed_retV], q1, ?_⟩
     exact ⟨fun p hp => (b3 p hp).2, fun p hp hk => absurd hk (b3 p hp).1, fun p hp pc hpc => ⟨(b4 p hp pc hpc).1, fun b hb => (hseen b ((b4 p hp pc hpc).2 b hb)).1⟩, hfr, fun pc hpc => ⟨(q2 pc hpc).1, fun b hb => him b ((q2 pc hpc).2 b hb)⟩, q3⟩
    refine ⟨r.defers, ?_⟩
    unfold retVs at e2
    split at e2
    ·rename_i v0
     split at e2
     ·rename_i n xs hbp
      split at e2
      ·cases e2
      ·rename_i hpn
       injection e2 with e2
       subst e2
       obtain ⟨sz, cs, rfl, hn, hcs⟩ := bPtr_some hbp
       obtain ⟨nl, un, _⟩ := H.box n cs hn
       have hn0 : σ.h n ≠ none := by rw [hn]; simp
       obtain ⟨o1, o2, o3⟩ := H.own n hn0 nl
       obtain ⟨cvs, v1, v2⟩ := H.boxVals hn
       obtain ⟨ps, p1, p2, p3⟩ := HR.immL hcs v1
       match us, u2 with
       | [u], _ =>
        have hu : u = .pointer (some (ad (G.g n).b (G.g n).o)) := by
         have h0 := u3 0 _ u rfl rfl
         rcases h0 with h0 | h0
         ·cases h0
         ·have h1 : RC w' G σ.h (.ptr n 0 sz 0) u := (h0.2 0 _ u rfl rfl).2
          simpa using (h1 hn0).2
        have hB : w.heap.size ≤ (G.g n).b := by
         rcases o2 with o2 | o2
         ·exact o2
         ·obtain ⟨p, cs', _, h2, h3, h4⟩ := hE _ o2
          exact absurd h4 (H.inj n PIN hn0 (by rw [h2]; simp) (by rintro rfl; exact hpn (Nat.le_refl _)) nl h3)
        refine ⟨_, run_results fn a.tmps u1, [⟨.ptr, ps, (G.g n).b, (G.g n).o⟩], qs, by simp [p1], ?_, q1, ?_⟩
        ·rw [hu]; rfl
        ·refine ⟨fun p hp hk => ?_, fun p hp hk => ?_, fun p hp pc hpc => ?_, hfr, fun pc hpc => ⟨(q2 pc hpc).1, fun b hb => him b ((q2 pc hpc).2 b hb)⟩, q3⟩
         ·simp at hp; subst hp; cases hk
         ·simp at hp
          subst hp
          refine ⟨rfl, hB, un, fun j c hj => v2 j _ ?_, fun pc hpc hb => o1 ((p3 pc hpc).2 _ hb), fun pc hpc hb => o1 ((q2 pc hpc).2 _ hb)⟩
          rw [← p2, List.getElem?_map, hj]; rfl
         ·simp at hp
          subst hp
          exact ⟨(p3 pc hpc).1, fun b hb => him b ((p3 pc hpc).2 b hb)⟩
     ·exact dat e2
    ·exact dat e2
   ·cases hx
  ·cases hx
 split at hrun
 ·rename_i σ e
  exact den_sound hT hm mc hc e r0 fun a w' G r => fin hrun r
 ·rename_i σ e
  exact den_sound hT hm mc hc e r0 fun a w' G r => fin hrun r
 ·cases hrun
end
end Go.Am