/- B0: loops over a list, and bits. No condition. -/
import Derived.Test.YtghahachgjeaeaaMB
set_option linter.unusedVariables false
set_option linter.unusedSimpArgs false
namespace Go.Am

theorem loopT_go {X Y : Type} {f : X → Option (X ⊕ Y)} (st : Nat → X) {r : Y} : ∀ (n i : Nat), (∀ j, i ≤ j → j < i + n → f (st j) = some (.inl (st (j + 1)))) → f (st (i + n)) = some (.inr r) → ∀ N, n < N → loopT N f (st i) = some r
  | 0, i, _, h2, N + 1, _ => by
    have h2 : f (st i) = some (.inr r) := h2
    simp only [loopT, h2]
  | n + 1, i, h1, h2, N + 1, hN => by
    simp only [loopT, h1 i (Nat.le_refl i) (by omega)]
    exact loopT_go st n (i + 1) (fun j h3 h4 => h1 j (by omega) (by omega)) (by rw [show i + 1 + n = i + (n + 1) by omega]; exact h2) N (by omega)
  | _, _, _, _, 0, h => by omega

theorem loopT_seq {X Y : Type} {f : X → Option (X ⊕ Y)} (st : Nat → X) {r : Y} (n : Nat) (h1 : ∀ j, j < n → f (st j) = some (.inl (st (j + 1)))) (h2 : f (st n) = some (.inr r)) {x0 : X} (h0 : x0 = st 0) {N : Nat} (hN : n < N) : loopT N f x0 = some r := by
  subst h0
  exact loopT_go st n 0 (fun j _ h => h1 j (by omega)) (by rw [Nat.zero_add]; exact h2) N hN

/-- A loop over a list that leaves at the first element that fails. -/
theorem loopT_all {X Y α : Type} {f : X → Option (X ⊕ Y)} (es : List α) (mk : Nat → X) (p : α → Bool) (bad good : Y)
    (h1 : ∀ i a, es[i]? = some a → p a = true → f (mk i) = some (.inl (mk (i + 1)))) (h2 : ∀ i a, es[i]? = some a → p a = false → f (mk i) = some (.inr bad)) (h3 : f (mk es.length) = some (.inr good)) {x0 : X} (h0 : x0 = mk 0) {N : Nat} (hN : es.length < N) :
    loopT N f x0 = some (if es.all p = true then good else bad) := by
  subst h0
  have key : ∀ (k : Nat) (i : Nat), i + k = es.length → ∀ N, k < N → loopT N f (mk i) = some (if (es.drop i).all p = true then good else bad) := by
    intro k
    induction k with
    | zero =>
      intro i hi N hN
      obtain ⟨N, rfl⟩ : ∃ M, N = M + 1 := ⟨N - 1, by omega⟩
      have : i = es.length := by omega
      subst this
      simp only [loopT, h3, List.drop_length, List.all_nil, if_true]
    | succ k ih =>
      intro i hi N hN
      obtain ⟨N, rfl⟩ : ∃ M, N = M + 1 := ⟨N - 1, by omega⟩
      obtain ⟨a, ha⟩ : ∃ a, es[i]? = some a := ⟨_, List.getElem?_eq_getElem (by omega)⟩
      rw [drop_cons ha]
      cases hp : p a with
      | true =>
        simp only [loopT, h1 i a ha hp, List.all_cons, hp, Bool.true_and]
        exact ih (i + 1) (by omega) N (by omega)
      | false => simp only [loopT, h2 i a ha hp, List.all_cons, hp, Bool.false_and, Bool.false_eq_true, if_false]
  exact key es.length 0 (by omega) N hN

/-- A loop over a list, with a state, that leaves at the first element whose step is none. -/
def foldO {S α : Type} (step : Nat → S → α → Option S) : Nat → S → List α → Option S
  | _, s, [] => some s
  | i, s, a :: as => match step i s a with
    | some s' => foldO step (i + 1) s' as
    | none => none

theorem loopT_foldO {X Y α S : Type} {f : X → Option (X ⊕ Y)} (es : List α) (mk : S → Nat → X) (I : Nat → S → Prop) (step : Nat → S → α → Option S) (bad : Y) (good : S → Y)
    (h1 : ∀ i s a s', es[i]? = some a → I i s → step i s a = some s' → f (mk s i) = some (.inl (mk s' (i + 1))) ∧ I (i + 1) s')
    (h2 : ∀ i s a, es[i]? = some a → I i s → step i s a = none → f (mk s i) = some (.inr bad))
    (h3 : ∀ s, I es.length s → f (mk s es.length) = some (.inr (good s))) {s : S} (h0 : I 0 s) {x0 : X} (hx : x0 = mk s 0) {N : Nat} (hN : es.length < N) :
    loopT N f x0 = some (match foldO step 0 s es with | some s' => good s' | none => bad) := by
  subst hx
  have key : ∀ (k : Nat) (i : Nat) (s : S), I i s → i + k = es.length → ∀ N, k < N → loopT N f (mk s i) = some (match foldO step i s (es.drop i) with | some s' => good s' | none => bad) := by
    intro k
    induction k with
    | zero =>
      intro i s hs hi N hN
      obtain ⟨N, rfl⟩ : ∃ M, N = M + 1 := ⟨N - 1, by omega⟩
      have : i = es.length := by omega
      subst this
      simp only [loopT, h3 s hs, List.drop_length, foldO]
    | succ k ih =>
      intro i s hs hi N hN
      obtain ⟨N, rfl⟩ : ∃ M, N = M + 1 := ⟨N - 1, by omega⟩
      obtain ⟨a, ha⟩ : ∃ a, es[i]? = some a := ⟨_, List.getElem?_eq_getElem (by omega)⟩
      rw [drop_cons ha]
      cases hp : step i s a with
      | some s' =>
        obtain ⟨h4, h5⟩ := h1 i s a s' ha hs hp
        simp only [loopT, h4, foldO, hp]
        exact ih (i + 1) s' h5 (by omega) N (by omega)
      | none => simp only [loopT, h2 i s a ha hs hp, foldO, hp]
  exact key es.length 0 s h0 (by omega) N hN

/-- A loop over a list that goes through all of it. -/
def foldN {S α : Type} (step : Nat → S → α → S) : Nat → S → List α → S
  | _, s, [] => s
  | i, s, a :: as => foldN step (i + 1) (step i s a) as

theorem loopT_foldN {X Y α S : Type} {f : X → Option (X ⊕ Y)} (es : List α) (mk : S → Nat → X) (I : Nat → S → Prop) (step : Nat → S → α → S) (good : S → Y)
    (h1 : ∀ i s a, es[i]? = some a → I i s → f (mk s i) = some (.inl (mk (step i s a) (i + 1))) ∧ I (i + 1) (step i s a))
    (h3 : ∀ s, I es.length s → f (mk s es.length) = some (.inr (good s))) {s : S} (h0 : I 0 s) {x0 : X} (hx : x0 = mk s 0) {N : Nat} (hN : es.length < N) :
    loopT N f x0 = some (good (foldN step 0 s es)) := by
  subst hx
  have key : ∀ (k : Nat) (i : Nat) (s : S), I i s → i + k = es.length → ∀ N, k < N → loopT N f (mk s i) = some (good (foldN step i s (es.drop i))) := by
    intro k
    induction k with
    | zero =>
      intro i s hs hi N hN
      obtain ⟨N, rfl⟩ : ∃ M, N = M + 1 := ⟨N - 1, by omega⟩
      have : i = es.length := by omega
      subst this
      simp only [loopT, h3 s hs, List.drop_length, foldN]
    | succ k ih =>
      intro i s hs hi N hN
      obtain ⟨N, rfl⟩ : ∃ M, N = M + 1 := ⟨N - 1, by omega⟩
      obtain ⟨a, ha⟩ : ∃ a, es[i]? = some a := ⟨_, List.getElem?_eq_getElem (by omega)⟩
      rw [drop_cons ha]
      obtain ⟨h4, h5⟩ := h1 i s a ha hs
      simp only [loopT, h4, foldN]
      exact ih (i + 1) _ h5 (by omega) N (by omega)
  exact key es.length 0 s h0 (by omega) N hN

theorem lt_FUEL {α : Type} {es : List α} {k : Nat} (h : es.length ≤ k) (hk : k < 18446744073709551616) : es.length < FUEL := FUEL_gt (by omega)

/-- The counter of a loop over a list. -/
theorem ltI_in {α : Type} {es : List α} {i : Nat} {a : α} (h : es[i]? = some a) : ltI (i : Int) (natI (lenN es)) = true := by
  have := (List.getElem?_eq_some_iff.1 h).1
  exact ltI_t (by have := nl es; omega)
theorem ltI_end {α : Type} (es : List α) : ltI ((es.length : Nat) : Int) (natI (lenN es)) = false := ltI_f (by have := nl es; omega)
theorem next_i {α : Type} {es : List α} {i : Nat} {a : α} (h : es[i]? = some a) (hl : es.length ≤ 9223372036854775807) : addI .i64 (i : Int) 1 = ((i + 1 : Nat) : Int) := by
  have := (List.getElem?_eq_some_iff.1 h).1
  rw [addI_eq (by omega) (by omega)]; omega
theorem lt_of_get {α : Type} {es : List α} {i : Nat} {a : α} (h : es[i]? = some a) : i < es.length := (List.getElem?_eq_some_iff.1 h).1

/-! ### bits -/

theorem wraps_i64 (n : Int) (h₀ : 0 ≤ n) (h₁ : n < 2 ^ 63) : IntKind.i64.wrap n = n := by rw [IntKind.wrap_i64]; omega

theorem andI_nat {a b : Nat} (ha : a < 2 ^ 63) (hb : b < 2 ^ 63) : andI .i64 (a : Int) (b : Int) = ((a &&& b : Nat) : Int) := (bits_nat .i64 63 (by decide) wraps_i64 a b ha hb).1
theorem orI_nat {a b : Nat} (ha : a < 2 ^ 63) (hb : b < 2 ^ 63) : orI .i64 (a : Int) (b : Int) = ((a ||| b : Nat) : Int) := (bits_nat .i64 63 (by decide) wraps_i64 a b ha hb).2

theorem shrI_nat {a k : Nat} (ha : a < 2 ^ 63) : shrI .i64 (a : Int) (k : Int) = some ((a >>> k : Nat) : Int) := by
  unfold shrI
  rw [if_neg (by omega)]
  congr 1
  rw [Int.toNat_natCast, Nat.shiftRight_eq_div_pow]
  by_cases h : k ≤ 64
  · rw [show min k (IntKind.bits .i64) = k from Nat.min_eq_left h]
    norm_cast
  · rw [show min k (IntKind.bits .i64) = 64 from Nat.min_eq_right (show 64 ≤ k by omega)]
    have h1 : a / 2 ^ k = 0 := Nat.div_eq_of_lt (Nat.lt_of_lt_of_le ha (Nat.pow_le_pow_right (by decide) (by omega)))
    rw [h1]
    omega

theorem shlI_one {k : Nat} (hk : k < 63) : shlI .i64 1 (k : Int) = some ((2 ^ k : Nat) : Int) := by
  unfold shlI
  rw [if_neg (by omega)]
  congr 1
  rw [Int.toNat_natCast, show min k (IntKind.bits .i64) = k from Nat.min_eq_left (by simp [IntKind.bits]; omega), Int.one_mul]
  have : (2 : Int) ^ k = ((2 ^ k : Nat) : Int) := by norm_cast
  rw [this]
  refine wraps_i64 _ (Int.natCast_nonneg _) ?_
  have := Nat.pow_lt_pow_right (a := 2) (by decide) hk
  exact_mod_cast this

theorem bit_t {a k : Nat} (ha : a < 2 ^ 63) : eqI (andI .i64 ((a >>> k : Nat) : Int) 1) 1 = a.testBit k := by
  have h1 : a >>> k < 2 ^ 63 := Nat.lt_of_le_of_lt (Nat.shiftRight_le a k) ha
  rw [show (1 : Int) = ((1 : Nat) : Int) from rfl, andI_nat h1 (by decide)]
  rw [Nat.testBit, Nat.and_comm]
  unfold eqI
  have : 1 &&& (a >>> k) < 2 := by rw [Nat.and_comm]; exact Nat.and_lt_two_pow (n := 1) _ (by decide)
  rcases Nat.lt_or_ge 0 (1 &&& a >>> k) with h | h
  · have : 1 &&& a >>> k = 1 := by omega
    rw [this]; rfl
  · have : 1 &&& a >>> k = 0 := by omega
    rw [this]; rfl

theorem bit_f {a k : Nat} (ha : a < 2 ^ 63) : eqI (andI .i64 ((a >>> k : Nat) : Int) 1) 0 = !a.testBit k := by
  have h1 : a >>> k < 2 ^ 63 := Nat.lt_of_le_of_lt (Nat.shiftRight_le a k) ha
  rw [show (1 : Int) = ((1 : Nat) : Int) from rfl, andI_nat h1 (by decide)]
  rw [Nat.testBit, Nat.and_comm]
  unfold eqI
  have : 1 &&& (a >>> k) < 2 := by rw [Nat.and_comm]; exact Nat.and_lt_two_pow (n := 1) _ (by decide)
  rcases Nat.lt_or_ge 0 (1 &&& a >>> k) with h | h
  · have : 1 &&& a >>> k = 1 := by omega
    rw [this]; rfl
  · have : 1 &&& a >>> k = 0 := by omega
    rw [this]; rfl

theorem natI_eq {z : Int} (h : 0 ≤ z) : ∃ n : Nat, z = (n : Int) := ⟨z.toNat, by omega⟩

end Go.Am
