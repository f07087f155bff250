/- Am22: code as a whole. No condition. -/
import Derived.Test.YtbogogbogdafiaaAm21
set_option linter.unusedVariables false
namespace Go.Am
theorem restrE_get (ok : Nat → Bool) (env : Nat → AVal) : ∀ (ss : List Nat) (n : Nat), restrE ok env ss n = if n ∈ ss then (env n).clean ok else .one .junk
 | [], n => by simp [restrE, emptyEnv]
 | s :: ss, n => by
  simp only [restrE, upd_def, restrE_get ok env ss, List.mem_cons]
  by_cases h : n = s
  ·subst h; simp
  ·simp [h]
theorem restrH_get (ok : Nat → Bool) (h : Nat → Option Blk) : ∀ (ss : List Nat) (n : Nat), restrH ok h ss n = if n ∈ ss ∧ ok n = true then (h n).map (·.clean ok) else none
 | [], n => by simp [restrH, emptyHeap]
 | s :: ss, n => by
  have ih := restrH_get ok h ss n
  simp only [restrH, List.mem_cons]
  by_cases hn : n = s
  ·subst hn
   by_cases hk : ok n = true
   ·rw [if_pos hk]
    cases hh : h n with
    | some b => simp [upd_same, hk]
    | none => simp only [ih, hh]; simp
   ·rw [if_neg hk, ih]; simp [hk]
  ·by_cases hk : ok s = true
   ·rw [if_pos hk]
    cases hh : h s with
    | some b => simp only [upd_ne _ _ _ _ hn, ih]; simp [hn]
    | none => simp only [ih]; simp [hn]
   ·rw [if_neg hk, ih]; simp [hn]
theorem restrU_get (ok : Nat → Bool) : ∀ (ss : List Nat) (n : Nat), restrU ok ss n = (decide (n ∈ ss) && ok n)
 | [], n => by simp [restrU, emptyUsed]
 | s :: ss, n => by
  have ih := restrU_get ok ss n
  simp only [restrU]
  by_cases hn : n = s
  ·subst hn
   by_cases hk : ok n = true
   ·rw [if_pos hk]; simp [upd_same, hk]
   ·rw [if_neg hk, ih]; simp [hk]
  ·by_cases hk : ok s = true
   ·rw [if_pos hk, upd_ne _ _ _ _ hn, ih]; simp [hn]
   ·rw [if_neg hk, ih]; simp [hn]
theorem ACell.clean0_ref {ok : Nat → Bool} {c : ACell} {m : Nat} (h : (c.clean0 ok).ref0 m) : ok m = true := by
 cases c <;> simp only [ACell.clean0] at h <;> first | exact h.elim | skip
 all_goals
  split at h
  ·rename_i hk
   have h' := h
   simp only [ACell.ref0] at h'
   subst h'
   exact hk
  ·exact h.elim
theorem ACell.clean_ref {ok : Nat → Bool} {c : ACell} {m : Nat} (h : (c.clean ok).ref m) : ok m = true := by
 cases c with
 | fn f caps =>
  obtain ⟨x, hx, h⟩ := h
  obtain ⟨y, hy, rfl⟩ := List.mem_map.1 hx
  exact ACell.clean0_ref h
 | c x => exact h.elim
 | nil sz => exact h.elim
 | dptr xs off => exact h.elim
 | junk => exact h.elim
 | ptr n k sz off =>
  simp only [ACell.clean, ACell.clean0] at h
  split at h
  ·rename_i hk; have h' : m = n := h; subst h'; exact hk
  ·exact h.elim
 | sl n sz lo len =>
  simp only [ACell.clean, ACell.clean0] at h
  split at h
  ·rename_i hk; have h' : m = n := h; subst h'; exact hk
  ·exact h.elim
 | nsl n k rsz off sz len =>
  simp only [ACell.clean, ACell.clean0] at h
  split at h
  ·rename_i hk; have h' : m = n := h; subst h'; exact hk
  ·exact h.elim
 | nptr n k rsz off sz i =>
  simp only [ACell.clean, ACell.clean0] at h
  split at h
  ·rename_i hk; have h' : m = n := h; subst h'; exact hk
  ·exact h.elim
section
variable {B : Nat} {E : Ex} {w0 w w' : World} {G G' : Gh} {N : Nat} {h h' : Nat → Option Blk} {ok : Nat → Bool}
variable {P : Program} {T : Tab} {a : Act} {σ σ' : St} {Q : Exit → Act → World → Prop}
structure Less (ok : Nat → Bool) (h h' : Nat → Option Blk) : Prop where
 le : ∀ n, ok n = true → h' n = (h n).map (·.clean ok) ∨ h' n = none
 no : ∀ n, ok n = false → h' n = none
theorem Less.ne (L : Less ok h h') {n : Nat} (hn : h' n ≠ none) : ok n = true ∧ h n ≠ none := by
 cases hk : ok n with
 | false => exact absurd (L.no n hk) hn
 | true =>
  refine ⟨rfl, fun e => ?_⟩
  rcases L.le n hk with h1 | h1
  ·rw [e] at h1; exact hn h1
  ·exact hn h1
theorem Less.row (L : Less ok h h') {n : Nat} {gr : Bool} {m : Mode} {sz : Nat} {xs : List (List C)} (hn : h' n = some (.row gr m sz xs)) : h n = some (.row gr m sz xs) := by
 obtain ⟨hk, h0⟩ := L.ne (n := n) (by rw [hn]; simp)
 rcases L.le n hk with h1 | h1
 ·rw [h1] at hn
  cases hh : h n with
  | none => exact absurd hh h0
  | some b => cases b with
   | box cs => rw [hh] at hn; simp [Blk.clean] at hn
   | row gr m sz xs => rw [hh] at hn; simp only [Option.map_some, Blk.clean] at hn; exact hn
 ·rw [h1] at hn; cases hn
theorem Less.box (L : Less ok h h') {n : Nat} {cs : List ACell} (hn : h' n = some (.box cs)) : ∃ cs0, h n = some (.box cs0) ∧ cs = cs0.map (·.clean ok) := by
 obtain ⟨hk, h0⟩ := L.ne (n := n) (by rw [hn]; simp)
 rcases L.le n hk with h1 | h1
 ·rw [h1] at hn
  cases hh : h n with
  | none => exact absurd hh h0
  | some b => cases b with
   | box cs0 =>
    rw [hh] at hn
    simp only [Option.map_some, Blk.clean] at hn
    injection hn with hn
    injection hn with hn
    exact ⟨cs0, rfl, hn.symm⟩
   | row gr m sz xs => rw [hh] at hn; simp [Blk.clean] at hn
 ·rw [h1] at hn; cases hn
theorem RC0.less (L : Less ok h h') {c : ACell} {v : Value} (hc : RC0 w G h c v) : RC0 w G h' (c.clean0 ok) v := by
 cases c with
 | ptr n k sz off =>
  simp only [ACell.clean0]
  split
  ·exact fun hn => hc (L.ne hn).2
  ·trivial
 | sl n sz lo len =>
  simp only [ACell.clean0]
  split
  ·exact fun hn => hc (L.ne hn).2
  ·trivial
 | nsl n k rsz off sz len =>
  simp only [ACell.clean0]
  split
  ·exact fun gr xs hn => hc gr xs (L.row hn)
  ·trivial
 | nptr n k rsz off sz i =>
  simp only [ACell.clean0]
  split
  ·exact fun gr xs hn => hc gr xs (L.row hn)
  ·trivial
 | c x => exact hc
 | nil sz => exact hc
 | dptr xs off => exact hc
 | fn f caps => exact hc
 | junk => exact hc
theorem RC.less (L : Less ok h h') {c : ACell} {v : Value} (hc : RC w G h c v) : RC w G h' (c.clean ok) v := by
 cases c with
 | fn f caps =>
  obtain ⟨vs, h1, h2, h3⟩ := hc
  refine ⟨vs, h1, by simpa using h2, fun j c u hj hu => ?_⟩
  rw [List.getElem?_map] at hj
  cases hc : caps[j]? with
  | none => rw [hc] at hj; cases hj
  | some c0 =>
   rw [hc] at hj
   simp at hj
   subst hj
   exact ⟨(h3 j c0 u hc hu).1, (h3 j c0 u hc hu).2.less L⟩
 | ptr n k sz off =>
  have := RC0.less (w := w) (G := G) L (c := .ptr n k sz off) hc
  simp only [ACell.clean]
  rw [RC_eq]
  ·exact this
  ·simp only [ACell.clean0]; split <;> rfl
 | sl n sz lo len =>
  have := RC0.less (w := w) (G := G) L (c := .sl n sz lo len) hc
  simp only [ACell.clean]
  rw [RC_eq]
  ·exact this
  ·simp only [ACell.clean0]; split <;> rfl
 | nsl n k rsz off sz len =>
  have := RC0.less (w := w) (G := G) L (c := .nsl n k rsz off sz len) hc
  simp only [ACell.clean]
  rw [RC_eq]
  ·exact this
  ·simp only [ACell.clean0]; split <;> rfl
 | nptr n k rsz off sz i =>
  have := RC0.less (w := w) (G := G) L (c := .nptr n k rsz off sz i) hc
  simp only [ACell.clean]
  rw [RC_eq]
  ·exact this
  ·simp only [ACell.clean0]; split <;> rfl
 | c x => exact hc
 | nil sz => exact hc
 | dptr xs off => exact hc
 | junk => exact hc
theorem RCl.less (L : Less ok h h') {cs : List ACell} {vs : List Value} (hc : RCl w G h cs vs) : RCl w G h' (cs.map (·.clean ok)) vs := by
 refine ⟨by simpa using hc.1, fun j c u hj hu => ?_⟩
 rw [List.getElem?_map] at hj
 cases hc0 : cs[j]? with
 | none => rw [hc0] at hj; cases hj
 | some c0 =>
  rw [hc0] at hj
  simp at hj
  subst hj
  exact ⟨(hc.2 j c0 u hc0 hu).1, (hc.2 j c0 u hc0 hu).2.less L⟩
theorem RV.less (L : Less ok h h') {ag : Bool} {cs : List ACell} {v : Value} (hc : RV w G h ag cs v) : RV w G h' ag (cs.map (·.clean ok)) v := by
 unfold RV at *
 split
 ·rename_i h1
  simp only [h1, if_true] at hc
  obtain ⟨vs, e, hv⟩ := hc
  exact ⟨vs, e, hv.less L⟩
 ·rename_i h1
  simp only [h1] at hc
  exact RCl.less L hc
theorem RA.less (L : Less ok h h') {x : AVal} {v : Value} (hc : RA w G h x v) : RA w G h' (x.clean ok) v := by
 cases x with
 | one c =>
  rcases hc with rfl | hc
  ·exact Or.inl rfl
  ·exact Or.inr (RV.less L hc)
 | agg cs => exact RV.less L hc
 | tup xs =>
  obtain ⟨vs, e, hl, hv⟩ := hc
  refine ⟨vs, e, by simpa using hl, fun j x u hj hu => ?_⟩
  rw [List.getElem?_map] at hj
  cases hc0 : xs[j]? with
  | none => rw [hc0] at hj; cases hj
  | some c0 =>
   rw [hc0] at hj
   simp at hj
   subst hj
   exact RV.less L (hv j c0 u hc0 hu)
theorem AVal.clean_ref {x : AVal} {m : Nat} (h : (x.clean ok).ref m) : ok m = true := by
 cases x with
 | one c => exact ACell.clean_ref h
 | agg cs =>
  obtain ⟨c, hc, h⟩ := h
  obtain ⟨c0, hc0, rfl⟩ := List.mem_map.1 hc
  exact ACell.clean_ref h
 | tup xs =>
  obtain ⟨x, hx, c, hc, h⟩ := h
  obtain ⟨x0, hx0, rfl⟩ := List.mem_map.1 hx
  obtain ⟨c0, hc0, rfl⟩ := List.mem_map.1 hc
  exact ACell.clean_ref h
theorem HR.less {used : Nat → Bool} (H : HR B E w G h used []) (L : Less ok h h') : HR B E w G h' ok [] := by
 refine ⟨fun n hn => (L.ne hn).1, fun m cs c n hm hc hr => ?_, fun n cs hn => ?_, fun n gr m sz xs hn => H.row n gr m sz xs (L.row hn), fun n hn => H.own n (L.ne hn).2, fun n n' hn hn' => H.inj n n' (L.ne hn).2 (L.ne hn').2,
  H.imlt, H.img, fun n n' gr m sz xs gr' m' sz' xs' hn hn' => H.cross n n' gr m sz xs gr' m' sz' xs' (L.row hn) (L.row hn'), fun n gr sz xs hn b hb n' hn' => H.live n gr sz xs (L.row hn) b hb n' (L.ne hn').2, ?_, ?_, ?_⟩
 ·obtain ⟨cs0, _, rfl⟩ := L.box hm
  obtain ⟨c0, _, rfl⟩ := List.mem_map.1 hc
  exact ACell.clean_ref hr
 ·obtain ⟨cs0, h0, rfl⟩ := L.box hn
  obtain ⟨a1, a2, a3⟩ := H.box n cs0 h0
  refine ⟨a1, a2, fun j c hj => ?_⟩
  rw [List.getElem?_map] at hj
  cases hc0 : cs0[j]? with
  | none => rw [hc0] at hj; cases hj
  | some c0 =>
   rw [hc0] at hj
   simp at hj
   subst hj
   obtain ⟨v, b1, b2, b3⟩ := a3 j c0 hc0
   exact ⟨v, b1, b2, b3.less L⟩
 ·intro i pc hi; simp at hi
 ·intro i j pc pc' b _ hi; simp at hi
 ·intro i pc n gr m sz xs b hi; simp at hi
theorem HR.usedMono {used used' : Nat → Bool} (H : HR B E w G h used []) (hu : ∀ n, used n = true → used' n = true) : HR B E w G h used' [] :=
 ⟨fun n hn => hu n (H.dom n hn), fun m cs c n hm hc hr => hu n (H.wfh m cs c n hm hc hr), H.box, H.row, H.own, H.inj, H.imlt, H.img, H.cross, H.live, H.tkok, H.tkdis, H.tkrow⟩
theorem okN_mem {ke kh : List Nat} {n : Nat} (hn : σ.okN ke kh n = true) : n ∈ kh := by
 simp only [St.okN, Bool.and_eq_true] at hn
 simpa using hn.1.1
theorem R.restr (r : R B E w0 N σ a w G) (ke kh : List Nat) : R B E w0 N (σ.restr ke kh) a w G := by
 have L : Less (σ.okN ke kh) σ.h (σ.restr ke kh).h := by
  refine ⟨fun n hn => .inl ?_, fun n hn => ?_⟩
  ·show restrH _ _ _ n = _
   rw [restrH_get, if_pos ⟨okN_mem hn, hn⟩]
  ·show restrH _ _ _ n = _
   rw [restrH_get, if_neg (by simp [hn])]
 have hu : ∀ n, σ.okN ke kh n = true → (σ.restr ke kh).used n = true := by
  intro n hk
  show (Nat.ble PIN n || restrU _ _ n) = true
  rw [restrU_get]
  simp [hk, okN_mem hk]
 refine ⟨r.defers, r.size, fun s => ?_, fun s n hn => ?_, ?_, r.fr, fun n p b hp hb => ?_, fun n hn => ?_⟩
 ·show RA w G _ (restrE _ _ _ s) _
  rw [restrE_get]
  split
  ·exact (r.env s).less L
  ·exact Or.inl rfl
 ·have hn' : (restrE (σ.okN ke kh) σ.env ke s).ref n := hn
  rw [restrE_get] at hn'
  split at hn'
  ·exact hu n (AVal.clean_ref hn')
  ·exact absurd hn' id
 ·exact (r.hr.less L).usedMono hu
 ·have h0 : (σ.restr ke kh).h n ≠ none := by rw [hb]; simp
  obtain ⟨hk, _⟩ := L.ne h0
  have hpin := fun b0 (h1 : σ.h n = some b0) => r.pin n p b0 hp h1
  have hb' : restrH (σ.okN ke kh) σ.h kh n = some b := hb
  rw [restrH_get, if_pos ⟨okN_mem hk, hk⟩] at hb'
  cases h1 : σ.h n with
  | none => rw [h1] at hb'; cases hb'
  | some b0 =>
   obtain ⟨p1, p2, p3, p4, p6, p5⟩ := hpin b0 h1
   refine ⟨p1, p2, p3, p4, p6, fun gr sz xs hbr => ?_⟩
   rw [h1, hbr] at hb'
   cases b0 with
   | box cs => simp [Blk.clean] at hb'
   | row gr' m' sz' xs' =>
    simp only [Blk.clean, Option.map_some, Option.some.injEq, Blk.row.injEq] at hb'
    obtain ⟨_, rfl, _, _⟩ := hb'
    exact p5 gr' sz' xs' rfl
 ·show (Nat.ble PIN n || _) = true
  rw [Nat.ble_eq_true_of_le hn]; rfl
end
end Go.Am