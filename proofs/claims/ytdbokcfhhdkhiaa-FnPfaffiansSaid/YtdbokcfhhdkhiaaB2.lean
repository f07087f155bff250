/- MB, B0, B1, B2: parts of the proof. No condition. -/
import Derived.Test.YtdbokcfhhdkhiaaS7
import Derived.Laws.BitsLemmas
set_option linter.unusedVariables false
set_option linter.unusedSimpArgs false
section
namespace Go.Am
theorem loopT_run {X Y : Type} {f : X → Option (X ⊕ Y)} {r : Y} (P : Nat → X → Prop) (step : ∀ n x, P n x → f x = some (.inr r) ∨ ∃ m x', m < n ∧ f x = some (.inl x') ∧ P m x') :
  ∀ n x, P n x → ∀ N, n < N → loopT N f x = some r := by
 intro n
 induction n using Nat.strongRecOn with
 | ind n ih =>
  intro x hP N hN
  cases N with
  | zero => omega
  | succ N =>
   rcases step n x hP with h | ⟨m, x', hm, h, hP'⟩
   ·simp only [loopT, h]
   ·simp only [loopT, h]
    exact ih m hm x' hP' N (by omega)
theorem getI_nat {α : Type} (xs : List α) (i : Nat) : getI xs (i : Int) = xs[i]? := by simp [getI]
theorem wrap_id {n : Int} (h1 : -9223372036854775808 ≤ n) (h2 : n ≤ 9223372036854775807) : IntKind.wrap .i64 n = n := by rw [IntKind.wrap_i64]; omega
theorem addI_eq {a b : Int} (h1 : -9223372036854775808 ≤ a + b) (h2 : a + b ≤ 9223372036854775807) : addI .i64 a b = a + b := wrap_id h1 h2
theorem subI_eq {a b : Int} (h1 : -9223372036854775808 ≤ a - b) (h2 : a - b ≤ 9223372036854775807) : subI .i64 a b = a - b := wrap_id h1 h2
theorem bnd_s {α β : Type} (x : α) (f : α → Option β) : (some x).bnd f = f x := rfl
theorem joinK_l {X ρ : Type} (x : X) (k : X → Option ρ) : joinK (some (.inl x)) k = k x := rfl
theorem joinK_r {X ρ : Type} (x : ρ) (k : X → Option ρ) : joinK (some (.inr x) : Option (X ⊕ ρ)) k = some x := rfl
theorem cnd_t {α : Type} {b : Bool} (h : b = true) (x y : α) : cnd b x y = x := by rw [h]; rfl
theorem cnd_f {α : Type} {b : Bool} (h : b = false) (x y : α) : cnd b x y = y := by rw [h]; rfl
theorem nl {α : Type} (l : List α) : natI (lenN l) = (l.length : Int) := rfl
theorem ltI_t {a b : Int} (h : a < b) : ltI a b = true := decide_eq_true h
theorem ltI_f {a b : Int} (h : b ≤ a) : ltI a b = false := decide_eq_false (Int.not_lt.2 h)
theorem leI_t {a b : Int} (h : a ≤ b) : leI a b = true := decide_eq_true h
theorem leI_f {a b : Int} (h : b < a) : leI a b = false := decide_eq_false (Int.not_le.2 h)
theorem eqI_t {a b : Int} (h : a = b) : eqI a b = true := by simp [eqI, h]
theorem eqI_f {a b : Int} (h : a ≠ b) : eqI a b = false := by simp [eqI, h]
theorem neI_t {a b : Int} (h : a ≠ b) : neI a b = true := by simp [neI, h]
theorem neI_f {a b : Int} (h : a = b) : neI a b = false := by simp [neI, h]
theorem fulI_id (n : Nat) : fulI 0 n n = some () := by simp [fulI]
theorem takI_id {α : Type} (xs : List α) : takI xs (lenN xs) = some xs := by simp [takI, lenN]
theorem winI_id {α : Type} (xs : List α) : winI xs 0 (lenN xs) = some xs := by simp [winI, lenN]
theorem mkI_nat {n by_ : Nat} (h : n * by_ ≤ maxBytes) : mkI (natI n) (natI n) by_ = some n := by simp [mkI, natI, h]
theorem chkI_nat {i n : Nat} (h : i < n) : chkI (i : Int) n = some i := by simp [chkI]; omega
theorem FUEL_gt {n : Nat} (h : n < 18446744073709551616) : n < FUEL := h
theorem drop_cons {α : Type} {xs : List α} {i : Nat} {x : α} (h : xs[i]? = some x) : xs.drop i = x :: xs.drop (i + 1) := by
 obtain ⟨h1, h2⟩ := List.getElem?_eq_some_iff.1 h
 rw [List.drop_eq_getElem_cons h1, h2]
end Go.Am
end
section
namespace Go.Am
theorem loopT_go {X Y : Type} {f : X → Option (X ⊕ Y)} (st : Nat → X) {r : Y} : ∀ (n i : Nat), (∀ j, i ≤ j → j < i + n → f (st j) = some (.inl (st (j + 1)))) → f (st (i + n)) = some (.inr r) → ∀ N, n < N → loopT N f (st i) = some r
 | 0, i, _, h2, N + 1, _ => by
  have h2 : f (st i) = some (.inr r) := h2
  simp only [loopT, h2]
 | n + 1, i, h1, h2, N + 1, hN => by
  simp only [loopT, h1 i (Nat.le_refl i) (by omega)]
  exact loopT_go st n (i + 1) (fun j h3 h4 => h1 j (by omega) (by omega)) (by rw [show i + 1 + n = i + (n + 1) by omega]; exact h2) N (by omega)
 | _, _, _, _, 0, h => by omega
theorem loopT_seq {X Y : Type} {f : X → Option (X ⊕ Y)} (st : Nat → X) {r : Y} (n : Nat) (h1 : ∀ j, j < n → f (st j) = some (.inl (st (j + 1)))) (h2 : f (st n) = some (.inr r)) {x0 : X} (h0 : x0 = st 0) {N : Nat} (hN : n < N) : loopT N f x0 = some r := by
 subst h0
 exact loopT_go st n 0 (fun j _ h => h1 j (by omega)) (by rw [Nat.zero_add]; exact h2) N hN
theorem loopT_all {X Y α : Type} {f : X → Option (X ⊕ Y)} (es : List α) (mk : Nat → X) (p : α → Bool) (bad good : Y)
  (h1 : ∀ i a, es[i]? = some a → p a = true → f (mk i) = some (.inl (mk (i + 1)))) (h2 : ∀ i a, es[i]? = some a → p a = false → f (mk i) = some (.inr bad)) (h3 : f (mk es.length) = some (.inr good)) {x0 : X} (h0 : x0 = mk 0) {N : Nat} (hN : es.length < N) :
  loopT N f x0 = some (if es.all p = true then good else bad) := by
 subst h0
 have key : ∀ (k : Nat) (i : Nat), i + k = es.length → ∀ N, k < N → loopT N f (mk i) = some (if (es.drop i).all p = true then good else bad) := by
  intro k
  induction k with
  | zero =>
   intro i hi N hN
   obtain ⟨N, rfl⟩ : ∃ M, N = M + 1 := ⟨N - 1, by omega⟩
   have : i = es.length := by omega
   subst this
   simp only [loopT, h3, List.drop_length, List.all_nil, if_true]
  | succ k ih =>
   intro i hi N hN
   obtain ⟨N, rfl⟩ : ∃ M, N = M + 1 := ⟨N - 1, by omega⟩
   obtain ⟨a, ha⟩ : ∃ a, es[i]? = some a := ⟨_, List.getElem?_eq_getElem (by omega)⟩
   rw [drop_cons ha]
   cases hp : p a with
   | true =>
    simp only [loopT, h1 i a ha hp, List.all_cons, hp, Bool.true_and]
    exact ih (i + 1) (by omega) N (by omega)
   | false => simp only [loopT, h2 i a ha hp, List.all_cons, hp, Bool.false_and, Bool.false_eq_true, if_false]
 exact key es.length 0 (by omega) N hN
def foldN {S α : Type} (step : Nat → S → α → S) : Nat → S → List α → S
 | _, s, [] => s
 | i, s, a :: as => foldN step (i + 1) (step i s a) as
theorem ltI_in {α : Type} {es : List α} {i : Nat} {a : α} (h : es[i]? = some a) : ltI (i : Int) (natI (lenN es)) = true := by
 have := (List.getElem?_eq_some_iff.1 h).1
 exact ltI_t (by have := nl es; omega)
theorem ltI_end {α : Type} (es : List α) : ltI ((es.length : Nat) : Int) (natI (lenN es)) = false := ltI_f (by have := nl es; omega)
theorem next_i {α : Type} {es : List α} {i : Nat} {a : α} (h : es[i]? = some a) (hl : es.length ≤ 9223372036854775807) : addI .i64 (i : Int) 1 = ((i + 1 : Nat) : Int) := by
 have := (List.getElem?_eq_some_iff.1 h).1
 rw [addI_eq (by omega) (by omega)]; omega
theorem wraps_i64 (n : Int) (h₀ : 0 ≤ n) (h₁ : n < 2 ^ 63) : IntKind.i64.wrap n = n := by rw [IntKind.wrap_i64]; omega
theorem andI_nat {a b : Nat} (ha : a < 2 ^ 63) (hb : b < 2 ^ 63) : andI .i64 (a : Int) (b : Int) = ((a &&& b : Nat) : Int) := (bits_nat .i64 63 (by decide) wraps_i64 a b ha hb).1
theorem shrI_nat {a k : Nat} (ha : a < 2 ^ 63) : shrI .i64 (a : Int) (k : Int) = some ((a >>> k : Nat) : Int) := by
 unfold shrI
 rw [if_neg (by omega)]
 congr 1
 rw [Int.toNat_natCast, Nat.shiftRight_eq_div_pow]
 by_cases h : k ≤ 64
 ·rw [show min k (IntKind.bits .i64) = k from Nat.min_eq_left h]
  norm_cast
 ·rw [show min k (IntKind.bits .i64) = 64 from Nat.min_eq_right (show 64 ≤ k by omega)]
  have h1 : a / 2 ^ k = 0 := Nat.div_eq_of_lt (Nat.lt_of_lt_of_le ha (Nat.pow_le_pow_right (by decide) (by omega)))
  rw [h1]
  omega
theorem natI_eq {z : Int} (h : 0 ≤ z) : ∃ n : Nat, z = (n : Int) := ⟨z.toNat, by omega⟩
end Go.Am
end
section
namespace Go.Am
theorem fitI_ok {n k : Nat} (h : n * k ≤ maxBytes) : fitI n k = some () := if_pos h
theorem addN_0 (k : Nat) : addN 0 k = k := by simp [addN]
def kOk (k : Int) : Prop := 0 ≤ k ∧ k ≤ 1048576
instance (k : Int) : Decidable (kOk k) := inferInstanceAs (Decidable (0 ≤ k ∧ k ≤ 1048576))
end Go.Am
end
section
namespace Go.Am
theorem neI_self (a : Int) : neI a a = false := neI_f rfl
theorem notB_t : notB true = false := rfl
theorem winI_len {α : Type} {xs : List α} {n : Nat} (h : xs.length = n) : winI xs 0 n = some xs := by subst h; exact winI_id xs
theorem samI_ok {a b : Nat} (h : a = b) : samI a b = some () := if_pos h
theorem fulI_ok {n m : Nat} (h : n = m) : fulI 0 n m = some () := by subst h; exact fulI_id n
end Go.Am
end
