/- Am27: loops, round by round. No condition. -/
import Derived.Test.YtghahachgjeaeaaAm26
set_option linter.unusedVariables false
namespace Go.Am

/-- A round behind the head, up to the next head. -/
def iterH (T : Tab) (ke kh : List Nat) (cn : List (Bool × Nat × Nat × Nat × Mode)) (c : MCode) (σ : St) : Option Out :=
  match den T c σ with
  | some (.nrm σ') => match σ'.head ke kh cn with
    | some σ1 => some (.nrm σ1)
    | none => none
  | o => o

theorem loopF_more {f : St → Option Out} {o : Out} : ∀ {n m : Nat} {σ : St}, n ≤ m → loopF n f σ = some o → loopF m f σ = some o
  | 0, m, σ, _, h => by simp [loopF] at h
  | n + 1, 0, σ, hle, _ => by omega
  | n + 1, m + 1, σ, hle, h => by
    simp only [loopF] at h ⊢
    cases hf : f σ with
    | none => rw [hf] at h; exact h
    | some o1 =>
      rw [hf] at h
      cases o1 with
      | nrm σ' => exact loopF_more (Nat.le_of_succ_le_succ hle) h
      | ext i σ' => exact h
      | ret σ' => exact h

theorem loopF_iter {T : Tab} {ke kh : List Nat} {cn : List (Bool × Nat × Nat × Nat × Mode)} {c : MCode} {o : Out} : ∀ {n : Nat} {σ σ1 : St}, σ.head ke kh cn = some σ1 → loopF n (iterH T ke kh cn c) σ1 = some o →
    loopF n (fun σ => match σ.head ke kh cn with | some σ1 => den T c σ1 | none => none) σ = some o
  | 0, σ, σ1, hh, h => by simp [loopF] at h
  | n + 1, σ, σ1, hh, h => by
    simp only [loopF] at h ⊢
    simp only [hh]
    unfold iterH at h
    cases hd : den T c σ1 with
    | none => rw [hd] at h; exact h
    | some o1 =>
      rw [hd] at h
      cases o1 with
      | nrm σ' =>
        simp only at h ⊢
        cases hh2 : σ'.head ke kh cn with
        | none => rw [hh2] at h; cases h
        | some σ2 =>
          rw [hh2] at h
          exact loopF_iter hh2 h
      | ext i σ' => exact h
      | ret σ' => exact h

/-- A loop's value: the head's state, then rounds. -/
theorem den_loop {T : Tab} {id : Nat} {ke kh : List Nat} {cn : List (Bool × Nat × Nat × Nat × Mode)} {c : MCode} {o : Out} {n : Nat} {σ σ1 : St} (hn : n ≤ FUEL) (hh : σ.head ke kh cn = some σ1) (h : loopF n (iterH T ke kh cn c) σ1 = some o) :
    den T (.loop id ke kh cn c) σ = some o := by
  simp only [den]
  exact loopF_more hn (loopF_iter hh h)

theorem loopF_step {n : Nat} {f : St → Option Out} {σ σ' : St} (h : f σ = some (.nrm σ')) : loopF (n + 1) f σ = loopF n f σ' := by simp [loopF, h]

theorem loopF_ext {n i : Nat} {f : St → Option Out} {σ σ' : St} (h : f σ = some (.ext i σ')) : loopF (n + 1) f σ = some (.ext i σ') := by simp [loopF, h]

theorem loopF_ret {n : Nat} {f : St → Option Out} {σ σ' : St} (h : f σ = some (.ret σ')) : loopF (n + 1) f σ = some (.ret σ') := by simp [loopF, h]

end Go.Am
