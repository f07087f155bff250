/- MB: laws of the primitives. No condition. -/
import Derived.Test.YtghahachgjeaeaaS7
import Derived.Laws.BitsLemmas
set_option linter.unusedVariables false
namespace Go.Am
/-! ### laws of the primitives -/

theorem loopT_run {X Y : Type} {f : X → Option (X ⊕ Y)} {r : Y} (P : Nat → X → Prop) (step : ∀ n x, P n x → f x = some (.inr r) ∨ ∃ m x', m < n ∧ f x = some (.inl x') ∧ P m x') :
    ∀ n x, P n x → ∀ N, n < N → loopT N f x = some r := by
  intro n
  induction n using Nat.strongRecOn with
  | ind n ih =>
    intro x hP N hN
    cases N with
    | zero => omega
    | succ N =>
      rcases step n x hP with h | ⟨m, x', hm, h, hP'⟩
      · simp only [loopT, h]
      · simp only [loopT, h]
        exact ih m hm x' hP' N (by omega)

theorem getI_nat {α : Type} (xs : List α) (i : Nat) : getI xs (i : Int) = xs[i]? := by simp [getI]
theorem wrap_id {n : Int} (h1 : -9223372036854775808 ≤ n) (h2 : n ≤ 9223372036854775807) : IntKind.wrap .i64 n = n := by rw [IntKind.wrap_i64]; omega
theorem addI_eq {a b : Int} (h1 : -9223372036854775808 ≤ a + b) (h2 : a + b ≤ 9223372036854775807) : addI .i64 a b = a + b := wrap_id h1 h2
theorem subI_eq {a b : Int} (h1 : -9223372036854775808 ≤ a - b) (h2 : a - b ≤ 9223372036854775807) : subI .i64 a b = a - b := wrap_id h1 h2
theorem bnd_s {α β : Type} (x : α) (f : α → Option β) : (some x).bnd f = f x := rfl
theorem bnd_n {α β : Type} (f : α → Option β) : (none : Option α).bnd f = none := rfl
theorem joinK_l {X ρ : Type} (x : X) (k : X → Option ρ) : joinK (some (.inl x)) k = k x := rfl
theorem joinK_r {X ρ : Type} (x : ρ) (k : X → Option ρ) : joinK (some (.inr x) : Option (X ⊕ ρ)) k = some x := rfl
theorem cnd_t {α : Type} {b : Bool} (h : b = true) (x y : α) : cnd b x y = x := by rw [h]; rfl
theorem cnd_f {α : Type} {b : Bool} (h : b = false) (x y : α) : cnd b x y = y := by rw [h]; rfl
theorem nl {α : Type} (l : List α) : natI (lenN l) = (l.length : Int) := rfl
theorem ltI_t {a b : Int} (h : a < b) : ltI a b = true := decide_eq_true h
theorem ltI_f {a b : Int} (h : b ≤ a) : ltI a b = false := decide_eq_false (Int.not_lt.2 h)
theorem leI_t {a b : Int} (h : a ≤ b) : leI a b = true := decide_eq_true h
theorem leI_f {a b : Int} (h : b < a) : leI a b = false := decide_eq_false (Int.not_le.2 h)
theorem eqI_t {a b : Int} (h : a = b) : eqI a b = true := by simp [eqI, h]
theorem eqI_f {a b : Int} (h : a ≠ b) : eqI a b = false := by simp [eqI, h]
theorem neI_t {a b : Int} (h : a ≠ b) : neI a b = true := by simp [neI, h]
theorem neI_f {a b : Int} (h : a = b) : neI a b = false := by simp [neI, h]
theorem notB_d {p : Prop} [Decidable p] (h : ¬ p) : notB (decide p) = true := by simp [notB, h]
theorem notB_p {p : Prop} [Decidable p] (h : p) : notB (decide p) = false := by simp [notB, h]
theorem fulI_id (n : Nat) : fulI 0 n n = some () := by simp [fulI]
theorem takI_id {α : Type} (xs : List α) : takI xs (lenN xs) = some xs := by simp [takI, lenN]
theorem winI_id {α : Type} (xs : List α) : winI xs 0 (lenN xs) = some xs := by simp [winI, lenN]
theorem mkI_nat {n by_ : Nat} (h : n * by_ ≤ maxBytes) : mkI (natI n) (natI n) by_ = some n := by simp [mkI, natI, h]
theorem chkI_nat {i n : Nat} (h : i < n) : chkI (i : Int) n = some i := by simp [chkI]; omega
theorem FUEL_gt {n : Nat} (h : n < 18446744073709551616) : n < FUEL := h
theorem drop_cons {α : Type} {xs : List α} {i : Nat} {x : α} (h : xs[i]? = some x) : xs.drop i = x :: xs.drop (i + 1) := by
  obtain ⟨h1, h2⟩ := List.getElem?_eq_some_iff.1 h
  rw [List.drop_eq_getElem_cons h1, h2]
end Go.Am
