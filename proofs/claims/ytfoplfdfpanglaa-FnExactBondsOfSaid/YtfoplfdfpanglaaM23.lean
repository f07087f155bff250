/- Mx, M1, M4, M5, M11, M22, M6, M7, M8, M9, M23: parts of the proof. No condition. -/
import Derived.Test.YtfoplfdfpanglaaMT
set_option linter.unusedVariables false
set_option linter.unusedSimpArgs false
section
namespace Go.Am

/-! ### loops -/

/-! ### matrices -/

def genD (r c : Nat) (M : Nat → Nat → Int) : List Int := (List.range (r * c)).map fun n => M (n / c) (n % c)
def ofD (c : Nat) (l : List Int) : Nat → Nat → Int := fun i j => l.getD (i * c + j) 0
theorem idx_lt {r c i j : Nat} (hi : i < r) (hj : j < c) : i * c + j < r * c := by
  have : (i + 1) * c ≤ r * c := Nat.mul_le_mul_right _ hi
  rw [Nat.add_mul] at this
  omega
theorem idx_div {c i j : Nat} (hj : j < c) : (i * c + j) / c = i := by
  rw [Nat.mul_comm, Nat.mul_add_div (by omega), Nat.div_eq_of_lt hj, Nat.add_zero]
theorem idx_mod {c i j : Nat} (hj : j < c) : (i * c + j) % c = j := by
  rw [Nat.mul_comm, Nat.mul_add_mod, Nat.mod_eq_of_lt hj]
theorem genD_get {r c i j : Nat} (M : Nat → Nat → Int) (hi : i < r) (hj : j < c) : (genD r c M)[i * c + j]? = some (M i j) := by
  unfold genD
  rw [List.getElem?_map, List.getElem?_range (idx_lt hi hj)]
  simp [idx_div hj, idx_mod hj]
theorem genD_of {r c : Nat} {l : List Int} (h : l.length = r * c) : genD r c (ofD c l) = l := by
  apply List.ext_getElem?
  intro n
  unfold genD
  simp only [List.getElem?_map]
  by_cases hn : n < r * c
  · rw [List.getElem?_range hn, List.getElem?_eq_getElem (by omega)]
    simp only [Option.map_some, ofD]
    have := Nat.div_add_mod n c
    rw [Nat.mul_comm] at this
    rw [this, List.getD_eq_getElem?_getD, List.getElem?_eq_getElem (by omega)]
    rfl
  · rw [List.getElem?_eq_none (by simp; omega), List.getElem?_eq_none (by omega)]
    rfl
/-! ### indices as the program computes them -/

/-- Products modulo p. -/
def pOk (p : Int) : Prop := 2 ≤ p ∧ p ≤ 1000003
instance (p : Int) : Decidable (pOk p) := inferInstanceAs (Decidable (2 ≤ p ∧ p ≤ 1000003))
def inP (p x : Int) : Prop := 0 ≤ x ∧ x < p
instance (p x : Int) : Decidable (inP p x) := inferInstanceAs (Decidable (0 ≤ x ∧ x < p))

theorem emod_in {p : Int} (hp : pOk p) (a : Int) : inP p (a % p) := ⟨Int.emod_nonneg _ (by have := hp.1; omega), Int.emod_lt_of_pos _ (by have := hp.1; omega)⟩
theorem inP.le {p x : Int} (h : inP p x) : 0 ≤ x ∧ x ≤ p := ⟨h.1, Int.le_of_lt h.2⟩
theorem inP.s {p x : Int} (hp : pOk p) (h : inP p x) : 0 ≤ x ∧ x ≤ 1000003000000 := ⟨h.1, by have := h.2; have := hp.2; omega⟩
/-- All of a matrix's elements are modulo p. -/
def inM (p : Int) (r c : Nat) (M : Nat → Nat → Int) : Prop := ∀ i, i < r → ∀ j, j < c → inP p (M i j)

def allP (p : Int) (l : List Int) : Prop := ∀ x ∈ l, inP p x
instance (p : Int) (l : List Int) : Decidable (allP p l) := inferInstanceAs (Decidable (∀ x ∈ l, inP p x))

theorem allP_gen {p : Int} {r c : Nat} {M : Nat → Nat → Int} : allP p (genD r c M) ↔ inM p r c M := by
  constructor
  · intro h i hi j hj
    exact h _ (List.mem_of_getElem? (genD_get M hi hj))
  · intro h x hx
    unfold genD at hx
    obtain ⟨n, hn, rfl⟩ := List.mem_map.1 hx
    have hn := List.mem_range.1 hn
    have hc : 0 < c := by
      rcases Nat.eq_zero_or_pos c with h | h
      · subst h; simp at hn
      · exact h
    exact h _ ((Nat.div_lt_iff_lt_mul hc).2 hn) _ (Nat.mod_lt _ hc)

/-- A matrix as the program has it. -/
def mOk (x : Int × Int × List Int) : Prop := (0 ≤ x.1 ∧ x.1 ≤ 4096) ∧ (0 ≤ x.2.1 ∧ x.2.1 ≤ 4096) ∧ (x.2.2.length : Int) = x.1 * x.2.1 ∧ x.2.2.length ≤ 1048576
instance (x : Int × Int × List Int) : Decidable (mOk x) := by unfold mOk; infer_instance

end Go.Am
end
section
namespace Go.Am
def F_spec_l01In : Int × Int × Int → Option Bool := fun ((a, b, c) : Int × Int × Int) => some (decide (b ≤ a ∧ a ≤ c))
def ag_spec_l01In : Sig := [(.one, [.int .i64]), (.one, [.int .i64]), (.one, [.int .i64])]
def rs_spec_l01In : Sig := [(.one, [.bool])]
def mu_spec_l01In : MSig := []
def G_spec_l01In (NN : Nat) : (Int × (Int × Int)) → (Option Bool) :=
 (fun ((i0, i1, i2) : (Int × (Int × Int))) =>
 cnd (leI i1 i0)
 (some (leI i0 i2))
 (some false))

theorem f_spec_l01In (x : Int × Int × Int) (y : Bool) (h : F_spec_l01In x = some y) : G_spec_l01In FUEL x = some y := by
  obtain ⟨a, b, c⟩ := x
  rw [← h]
  simp only [F_spec_l01In, G_spec_l01In, leI]
  by_cases hc : b ≤ a <;> simp [hc, cnd]

end Go.Am
end
section
namespace Go.Am

/-! ### primes, rows, matrices, automata -/

def divAt (n : Int) (i : Nat) : Bool := decide ((i : Int) * i ≤ n) && decide (n % (i : Int) = 0)
def isPrimeI (n : Int) : Bool := decide (2 ≤ n ∧ n ≤ 1000003) && !((List.range' 2 999).any (divAt n))
def F_spec_IsPrime : Int → Option Bool := fun (n : Int) => some (isPrimeI n)
def F_impl_IsPrime : Int → Option Bool := fun (n : Int) => some (isPrimeI n)
def inB (m : Int) (v : Int) : Bool := decide (0 ≤ v ∧ v < m)
def rowOk (m : Int) (l : List Int) : Bool := l.all (inB m)
def F_impl_inMod : Int × List Int → Option Bool := fun ((m, l) : Int × List Int) => if l.length ≤ 1048576 then some (rowOk m l) else none
def ag_spec_IsPrime : Sig := [(.one, [.int .i64])]
def rs_spec_IsPrime : Sig := [(.one, [.bool])]
def mu_spec_IsPrime : MSig := []
def ag_impl_IsPrime : Sig := [(.one, [.int .i64])]
def rs_impl_IsPrime : Sig := [(.one, [.bool])]
def mu_impl_IsPrime : MSig := []
def ag_impl_inMod : Sig := [(.one, [.int .i64]), (.one, [.list [.int .i64]])]
def rs_impl_inMod : Sig := [(.one, [.bool])]
def mu_impl_inMod : MSig := []
def G_spec_IsPrime (NN : Nat) : Int → (Option Bool) :=
 (fun (i0 : Int) =>
 joinK (loopT NN (fun ((i1, i2) : (Int × Int)) =>
 cnd (leI (mulI .i64 i2 i2) i1)
 (cnd (leI i1 (1000003 : Int))
 ((remI i1 i2).bnd (fun (i3 : Int) =>
 cnd (eqI i3 (0 : Int))
 (some (Sum.inr (Sum.inr false)))
 (some (Sum.inl (i1, addI .i64 i2 (1 : Int))))))
 (some (Sum.inr (Sum.inl i1))))
 (some (Sum.inr (Sum.inl i1))))
 (i0, (2 : Int)))
 (fun (i4 : Int) =>
 (F_spec_l01In (i4, (2 : Int), (1000003 : Int))).bnd (fun (b5 : Bool) =>
 some b5)))

def G_impl_IsPrime (NN : Nat) : Int → (Option Bool) :=
 (fun (i0 : Int) =>
 cnd (ltI i0 (2 : Int))
 (some false)
 (cnd (ltI (1000003 : Int) i0)
 (some false)
 (joinK (loopT NN (fun ((i1, i2) : (Int × Int)) =>
 cnd (leI (mulI .i64 i2 i2) i1)
 ((remI i1 i2).bnd (fun (i3 : Int) =>
 cnd (eqI i3 (0 : Int))
 (some (Sum.inr (Sum.inr false)))
 (some (Sum.inl (i1, addI .i64 i2 (1 : Int))))))
 (some (Sum.inr (Sum.inl ()))))
 (i0, (2 : Int)))
 (fun (_ : Unit) =>
 some true))))

def G_impl_inMod (NN : Nat) : (Int × (List Int)) → (Option Bool) :=
 (fun ((i0, l1) : (Int × (List Int))) =>
 joinK (loopT NN (fun ((i2, l3, i4, i5) : (Int × ((List Int) × (Int × Int)))) =>
 cnd (ltI i5 i4)
 ((getI l3 i5).bnd (fun (i6 : Int) =>
 cnd (ltI i6 (0 : Int))
 (some (Sum.inr (Sum.inr false)))
 (cnd (leI i2 i6)
 (some (Sum.inr (Sum.inr false)))
 (some (Sum.inl (i2, l3, i4, addI .i64 i5 (1 : Int)))))))
 (some (Sum.inr (Sum.inl ()))))
 (i0, l1, natI (lenN l1), (0 : Int)))
 (fun (_ : Unit) =>
 some true))

theorem mulI_eq {a b : Int} (h1 : -9223372036854775808 ≤ a * b) (h2 : a * b ≤ 9223372036854775807) : mulI .i64 a b = a * b := wrap_id h1 h2
theorem remI_nat {n : Int} {i : Nat} (hn : 0 ≤ n) (hi : 0 < i) : remI n (i : Int) = some (n % (i : Int)) := by
  unfold remI
  rw [if_neg (by omega), Int.tmod_eq_emod_of_nonneg hn]

theorem sq_le {i j : Nat} (h : i ≤ j) : (i : Int) * i ≤ (j : Int) * j := by
  have := Nat.mul_le_mul h h
  exact_mod_cast this

/-- The search for a divisor. -/
theorem div_loop {X Y : Type} {f : X → Option (X ⊕ (Y ⊕ Bool))} (n : Int) (mk : Nat → X) (r : Y) (hn : n ≤ 1000003)
    (h1 : ∀ i : Nat, 2 ≤ i → i ≤ 1001 → (i : Int) * i ≤ n → n % (i : Int) = 0 → f (mk i) = some (.inr (.inr false)))
    (h2 : ∀ i : Nat, 2 ≤ i → i ≤ 1001 → (i : Int) * i ≤ n → n % (i : Int) ≠ 0 → f (mk i) = some (.inl (mk (i + 1))))
    (h3 : ∀ i : Nat, 2 ≤ i → i ≤ 1001 → ¬ (i : Int) * i ≤ n → f (mk i) = some (.inr (.inl r))) {x0 : X} (hx : x0 = mk 2) :
    loopT FUEL f x0 = some (if (List.range' 2 999).any (divAt n) = true then .inr false else .inl r) := by
  subst hx
  have key : ∀ (d i : Nat), 2 ≤ i → i + d = 1001 → ∀ N, d < N → loopT N f (mk i) = some (if (List.range' i d).any (divAt n) = true then .inr false else .inl r) := by
    intro d
    induction d with
    | zero =>
      intro i hi hd N hN
      obtain ⟨N, rfl⟩ : ∃ M, N = M + 1 := ⟨N - 1, by omega⟩
      have : i = 1001 := by omega
      subst this
      rw [loopT, h3 1001 (by omega) (by omega) (by omega)]
      rfl
    | succ d ih =>
      intro i hi hd N hN
      obtain ⟨N, rfl⟩ : ∃ M, N = M + 1 := ⟨N - 1, by omega⟩
      rw [List.range'_succ, List.any_cons]
      by_cases hle : (i : Int) * i ≤ n
      · by_cases hm : n % (i : Int) = 0
        · rw [loopT, h1 i hi (by omega) hle hm]
          simp [divAt, hle, hm]
        · rw [loopT, h2 i hi (by omega) hle hm]
          simp only
          rw [ih (i + 1) (by omega) (by omega) N (by omega), show divAt n i = false by simp [divAt, hm], Bool.false_or]
      · rw [loopT, h3 i hi (by omega) hle]
        have : (List.range' (i + 1) d).any (divAt n) = false := by
          rw [List.any_eq_false]
          intro j hj
          have := (List.mem_range'_1.1 hj).1
          have := sq_le (show i ≤ j by omega)
          simp only [divAt, Bool.and_eq_true, decide_eq_true_eq, not_and]
          intro h; omega
        simp only
        rw [this]
        simp [divAt, hle]
  exact key 999 2 (by omega) (by omega) FUEL (FUEL_gt (by omega))

theorem sq_le1001 {i : Nat} (h : i ≤ 1001) : 0 ≤ (i : Int) * i ∧ (i : Int) * i ≤ 1002001 := by
  have h1 := sq_le h
  have h0 := sq_le (Nat.zero_le i)
  omega

theorem f_spec_IsPrime (x : Int) (y : Bool) (h : F_spec_IsPrime x = some y) : G_spec_IsPrime FUEL x = some y := by
  rw [← h]
  simp only [F_spec_IsPrime, G_spec_IsPrime]
  by_cases hx : x ≤ 1000003
  · rw [div_loop x (fun i => (x, (i : Int))) x hx ?_ ?_ ?_ ?_]
    · by_cases hd : (List.range' 2 999).any (divAt x) = true
      · rw [if_pos hd, joinK_r, isPrimeI, hd]
        simp
      · rw [if_neg hd, joinK_l, isPrimeI]
        simp only [F_spec_l01In, bnd_s]
        simp [hd]
    all_goals try simp only
    · intro i h2 hi hle hm
      have hs := sq_le1001 hi
      rw [mulI_eq (by omega) (by omega), cnd_t (leI_t hle), cnd_t (leI_t hx), remI_nat (by omega) (by omega), bnd_s, cnd_t (eqI_t hm)]
    · intro i h2 hi hle hm
      have hs := sq_le1001 hi
      rw [mulI_eq (by omega) (by omega), cnd_t (leI_t hle), cnd_t (leI_t hx), remI_nat (by omega) (by omega), bnd_s, cnd_f (eqI_f hm), addI_eq (by omega) (by omega)]
      rfl
    · intro i h2 hi hle
      have hs := sq_le1001 hi
      rw [mulI_eq (by omega) (by omega), cnd_f (leI_f (by omega))]
    · rfl
  · rw [loopT_seq (fun i => (x, (i : Int) + 2)) (r := Sum.inl x) 0 (fun j hj => by omega) ?_ ?_ (FUEL_gt (by omega))]
    · rw [joinK_l, isPrimeI]
      simp only [F_spec_l01In, bnd_s]
      have : ¬ (2 ≤ x ∧ x ≤ 1000003) := by omega
      simp [this]
    · simp only
      rw [cnd_t (leI_t (by rw [mulI_eq (by omega) (by omega)]; omega)), cnd_f (leI_f (by omega))]
    · rfl

theorem f_impl_IsPrime (x : Int) (y : Bool) (h : F_impl_IsPrime x = some y) : G_impl_IsPrime FUEL x = some y := by
  rw [← h]
  simp only [F_impl_IsPrime, G_impl_IsPrime]
  by_cases h2 : x < 2
  · rw [cnd_t (ltI_t h2), isPrimeI, decide_eq_false (by omega)]; rfl
  rw [cnd_f (ltI_f (by omega))]
  by_cases hx : 1000003 < x
  · rw [cnd_t (ltI_t hx), isPrimeI, decide_eq_false (by omega)]; rfl
  rw [cnd_f (ltI_f (by omega))]
  rw [div_loop x (fun i => (x, (i : Int))) () (by omega) ?_ ?_ ?_ ?_]
  · have hr : (2 ≤ x ∧ x ≤ 1000003) := by omega
    by_cases hd : (List.range' 2 999).any (divAt x) = true
    · rw [if_pos hd, joinK_r, isPrimeI, hd]
      simp
    · rw [if_neg hd, joinK_l, isPrimeI]
      simp [hd, hr]
  all_goals try simp only
  · intro i h2 hi hle hm
    have hs := sq_le1001 hi
    rw [mulI_eq (by omega) (by omega), cnd_t (leI_t hle), remI_nat (by omega) (by omega), bnd_s, cnd_t (eqI_t hm)]
  · intro i h2 hi hle hm
    have hs := sq_le1001 hi
    rw [mulI_eq (by omega) (by omega), cnd_t (leI_t hle), remI_nat (by omega) (by omega), bnd_s, cnd_f (eqI_f hm), addI_eq (by omega) (by omega)]
    rfl
  · intro i h2 hi hle
    have hs := sq_le1001 hi
    rw [mulI_eq (by omega) (by omega), cnd_f (leI_f (by omega))]
  · rfl

theorem f_impl_inMod (x : Int × List Int) (y : Bool) (h : F_impl_inMod x = some y) : G_impl_inMod FUEL x = some y := by
  obtain ⟨m, l⟩ := x
  simp only [F_impl_inMod] at h
  split at h
  · rename_i hl
    rw [← h]
    simp only [G_impl_inMod]
    rw [loopT_all (mk := fun i => (m, l, natI (lenN l), (i : Int))) l (inB m) (Sum.inr false) (Sum.inl ()) ?_ ?_ ?_ ?_ (FUEL_gt (by omega))]
    · unfold rowOk
      cases l.all (inB m) <;> rfl
    all_goals try simp only
    · intro i a ha hp
      have hp := of_decide_eq_true hp
      rw [cnd_t (ltI_in ha), getI_nat, ha, bnd_s, cnd_f (ltI_f (by omega)), cnd_f (leI_f (by omega)), next_i ha (by omega)]
    · intro i a ha hp
      have hp := of_decide_eq_false hp
      rw [cnd_t (ltI_in ha), getI_nat, ha, bnd_s]
      by_cases h0 : a < 0
      · rw [cnd_t (ltI_t h0)]
      · rw [cnd_f (ltI_f (by omega)), cnd_t (leI_t (by omega))]
    · rw [cnd_f (ltI_end l)]
    · rfl
  · cases h

theorem isPrimeI_t {m : Int} (h : isPrimeI m = true) : 2 ≤ m ∧ m ≤ 1000003 := by
  simp only [isPrimeI, Bool.and_eq_true, decide_eq_true_eq] at h
  exact h.1

end Go.Am
end
section
namespace Go.Am
/-! ### products of dimensions -/

def prodI : List Int → Int
  | [] => 1
  | x :: l => x * prodI l
def capStep (lim : Int) (_ : Nat) (a x : Int) : Int := min (a * x) (lim + 1)
def capProd (lim : Int) (l : List Int) : Int := foldN (capStep lim) 0 1 l
def smallB (x : Int) : Bool := decide (0 ≤ x ∧ x ≤ 1048576)
def F_spec_l05Product : List Int × Int → Option Int := fun ((l, lim) : List Int × Int) => if (0 ≤ lim ∧ lim ≤ 1048576) ∧ l.length ≤ 1048576 ∧ l.all smallB = true then some (capProd lim l) else none
def ag_spec_l05Product : Sig := [(.one, [.list [.int .i64]]), (.one, [.int .i64])]
def rs_spec_l05Product : Sig := [(.one, [.int .i64])]
def mu_spec_l05Product : MSig := []

def G_spec_l05Product (NN : Nat) : ((List Int) × Int) → (Option Int) :=
 (fun ((l0, i1) : ((List Int) × Int)) =>
 joinK (loopT NN (fun ((i2, i3, l4, i5, i6) : (Int × (Int × ((List Int) × (Int × Int))))) =>
 cnd (ltI i6 i5)
 ((getI l4 i6).bnd (fun (i7 : Int) =>
 some (Sum.inl (i2, minI (mulI .i64 i3 i7) (addI .i64 i2 (1 : Int)), l4, i5, addI .i64 i6 (1 : Int)))))
 (some (Sum.inr (Sum.inl i3))))
 (i1, (1 : Int), l0, natI (lenN l0), (0 : Int)))
 (fun (i8 : Int) =>
 some i8))



theorem mul_bd {a x A B : Int} (h0 : 0 ≤ a) (h1 : a ≤ A) (h2 : 0 ≤ x) (h3 : x ≤ B) : 0 ≤ a * x ∧ a * x ≤ A * B :=
  ⟨Int.mul_nonneg h0 h2, Int.mul_le_mul h1 h3 h2 (by omega)⟩

theorem f_spec_l05Product (x : List Int × Int) (y : Int) (h : F_spec_l05Product x = some y) : G_spec_l05Product FUEL x = some y := by
  obtain ⟨l, lim⟩ := x
  simp only [F_spec_l05Product] at h
  split at h
  · rename_i hc
    obtain ⟨hlim, hl, hs⟩ := hc
    rw [← h]
    simp only [G_spec_l05Product]
    rw [loopT_foldN l (fun (a : Int) i => (lim, a, l, natI (lenN l), (i : Int))) (fun _ a => 0 ≤ a ∧ a ≤ lim + 1) (capStep lim) (fun a => Sum.inl a) ?_ ?_ (s := 1) ⟨by omega, by omega⟩ ?_ (FUEL_gt (by omega))]
    · rfl
    all_goals try simp only
    · intro i a x hx ha
      have hxs := of_decide_eq_true (List.all_eq_true.1 hs x (List.mem_of_getElem? hx))
      obtain ⟨b1, b2⟩ := mul_bd ha.1 (show a ≤ 1048577 by omega) hxs.1 hxs.2
      rw [cnd_t (ltI_in hx), getI_nat, hx, bnd_s, mulI_eq (by omega) (by omega), addI_eq (a := lim) (by omega) (by omega), minI_eq', next_i hx (by omega)]
      refine ⟨rfl, ?_⟩
      unfold capStep
      omega
    · intro a _
      rw [cnd_f (ltI_end l)]
    · rfl
  · cases h

theorem prodI_pos : ∀ {l : List Int}, (∀ x ∈ l, 1 ≤ x) → 1 ≤ prodI l
  | [], _ => by simp [prodI]
  | x :: l, h => by
    have h1 := h x List.mem_cons_self
    have h2 := prodI_pos (l := l) (fun x hx => h x (List.mem_cons_of_mem _ hx))
    have := Int.mul_le_mul h1 h2 (by omega) (by omega)
    simpa [prodI] using this

theorem capProd_go {lim : Int} (hlim : 0 ≤ lim) : ∀ (l : List Int) (i : Nat) (a : Int), (∀ x ∈ l, 1 ≤ x) → 1 ≤ a → a ≤ lim + 1 → foldN (capStep lim) i a l = min (a * prodI l) (lim + 1)
  | [], i, a, _, _, h2 => by simp only [foldN, prodI, Int.mul_one]; omega
  | x :: l, i, a, h, h1, h2 => by
    have hx := h x List.mem_cons_self
    have hp := prodI_pos (l := l) (fun x hx => h x (List.mem_cons_of_mem _ hx))
    have hax := Int.mul_le_mul h1 hx (by omega) (by omega)
    rw [foldN, capProd_go hlim l (i + 1) _ (fun x hx => h x (List.mem_cons_of_mem _ hx)) (by unfold capStep; omega) (by unfold capStep; omega), prodI, ← Int.mul_assoc]
    unfold capStep
    generalize a * x = c at *
    by_cases hc : c ≤ lim + 1
    · rw [Int.min_eq_left hc]
    · have e : min c (lim + 1) = lim + 1 := by omega
      rw [e]
      have k1 := Int.mul_le_mul_of_nonneg_left hp (show 0 ≤ lim + 1 by omega)
      have k2 := Int.mul_le_mul_of_nonneg_left hp (show 0 ≤ c by omega)
      omega

theorem capProd_le {lim : Int} (hlim : 0 ≤ lim) {l : List Int} (h : ∀ x ∈ l, 1 ≤ x) : leI (capProd lim l) lim = decide (prodI l ≤ lim) := by
  unfold leI capProd
  rw [capProd_go hlim l 0 1 h (by omega) (by omega), Int.one_mul]
  by_cases hp : prodI l ≤ lim
  · rw [decide_eq_true hp, decide_eq_true (by omega)]
  · rw [decide_eq_false hp, decide_eq_false (by omega)]

end Go.Am
end
section
namespace Go.Am
/-! ### sizes of tensors, charges -/

def axP (L D : List Int) (j : Nat) : Prop := (0 ≤ L.getD j 0 ∧ L.getD j 0 ≤ 99) ∧ (1 ≤ D.getD j 0 ∧ D.getD j 0 ≤ 8) ∧ L.getD j 0 ∉ L.take j
instance (L D : List Int) (j : Nat) : Decidable (axP L D j) := by unfold axP; infer_instance
def chP (m : Int) (D : List Int) (R : List (List Int)) (j : Nat) : Prop := ((R.getD j []).length : Int) = D.getD j 0 ∧ rowOk m (R.getD j []) = true
instance (m : Int) (D : List Int) (R : List (List Int)) (j : Nat) : Decidable (chP m D R j) := by unfold chP; infer_instance
def chDom (x : (List Int × List Int × List Int) × Int × List (List Int)) : Prop := (x.1.1.length ≤ 1048576 ∧ x.1.2.1.length ≤ 1048576) ∧ x.2.2.length ≤ 1048576 ∧ ∀ l ∈ x.2.2, l.length ≤ 1048576
instance (x : (List Int × List Int × List Int) × Int × List (List Int)) : Decidable (chDom x) := by unfold chDom; infer_instance
theorem getD_some {α : Type} {l : List α} {j : Nat} (d : α) (h : j < l.length) : l[j]? = some (l.getD j d) := by
  simp [List.getD, h]
theorem sliI_n {n m : Nat} (h : n ≤ m) : sliI 0 (n : Int) m = some (0, n) := by
  unfold sliI
  rw [if_pos ⟨by omega, by omega, by omega⟩]
  simp
def axQ (L D : List Int) (j : Nat) : Prop := axP L D j ∧ prodI (D.take (j + 1)) ≤ 4096
instance (L D : List Int) (j : Nat) : Decidable (axQ L D j) := by unfold axQ; infer_instance

end Go.Am
end
section
namespace Go.Am

/-! ### chains -/

def siteOk (m : Int) (s : Int × Int × Int × List Int) : Bool := decide (0 ≤ s.1 ∧ s.1 ≤ 32) && (decide (0 ≤ s.2.2.1 ∧ s.2.2.1 ≤ 32) && (decide (1 ≤ s.2.1 ∧ s.2.1 ≤ 8) && (decide ((s.2.2.2.length : Int) = s.1 * s.2.1 * s.2.2.1) && rowOk m s.2.2.2)))
def chStep (m : Int) (_ : Nat) (b : Int) (s : Int × Int × Int × List Int) : Option Int := if siteOk m s = true ∧ s.1 = b then some s.2.2.1 else none
def chStep2 (m : Int) (_ : Nat) (st : Int × Int) (s : Int × Int × Int × List Int) : Option (Int × Int) := if siteOk m s = true ∧ s.1 = st.1 then some (s.2.2.1, st.2 * s.2.1) else none
def dimsOf (l : List (Int × Int × Int × List Int)) : List Int := l.map fun s => s.2.1
def chainOk (x : Int × List (Int × Int × Int × List Int)) : Bool := match x with
  | (m, l) => isPrimeI m && (decide (1 ≤ l.length ∧ l.length ≤ 8) && (match foldO (chStep m) 0 1 l with
    | some b => decide (b = 1) && decide (prodI (dimsOf l) ≤ 4096)
    | none => false))
def F_spec_l32Dims : Int × List (Int × Int × Int × List Int) → Option (List Int) := fun ((m, l) : Int × List (Int × Int × Int × List Int)) => if l.length ≤ 1048576 then some (dimsOf l) else none
def F_impl_siteOk : Int × Int × Int × Int × List Int → Option Bool := fun ((m, s) : Int × Int × Int × Int × List Int) => if sz_Site s ≤ 1048576 then some (siteOk m s) else none
def F_spec_ChainOk : Int × List (Int × Int × Int × List Int) → Option Bool := fun x => if sz_Chain x ≤ 1048576 then some (chainOk x) else none
def F_impl_ChainOk : Int × List (Int × Int × Int × List Int) → Option Bool := fun x => if sz_Chain x ≤ 1048576 then some (chainOk x) else none


def ag_spec_l32Dims : Sig := [(.agg, [.int .i64, .list [.int .i64, .int .i64, .int .i64, .list [.int .i64]]])]
def rs_spec_l32Dims : Sig := [(.one, [.list [.int .i64]])]
def mu_spec_l32Dims : MSig := []
def ag_spec_ChainOk : Sig := [(.agg, [.int .i64, .list [.int .i64, .int .i64, .int .i64, .list [.int .i64]]])]
def rs_spec_ChainOk : Sig := [(.one, [.bool])]
def mu_spec_ChainOk : MSig := []
def ag_impl_siteOk : Sig := [(.one, [.int .i64]), (.agg, [.int .i64, .int .i64, .int .i64, .list [.int .i64]])]
def rs_impl_siteOk : Sig := [(.one, [.bool])]
def mu_impl_siteOk : MSig := []
def ag_impl_ChainOk : Sig := [(.agg, [.int .i64, .list [.int .i64, .int .i64, .int .i64, .list [.int .i64]]])]
def rs_impl_ChainOk : Sig := [(.one, [.bool])]
def mu_impl_ChainOk : MSig := []

def G_spec_l32Dims (NN : Nat) : (Int × (List (Int × (Int × (Int × (List Int)))))) → (Option (List Int)) :=
 (fun ((i0, l1) : (Int × (List (Int × (Int × (Int × (List Int))))))) =>
 joinK ((fulI 0 0 (lenN (([] : List Int)))).bnd (fun (_ : Unit) =>
 loopT NN (fun (((l2, i3, i4), l5) : (((List (Int × (Int × (Int × (List Int))))) × (Int × Int)) × (List Int))) =>
 cnd (ltI i4 i3)
 ((getI l2 i4).bnd (fun ((i6, i7, i8, l9) : (Int × (Int × (Int × (List Int))))) =>
 (fulI 0 (lenN l5) (lenN l5)).bnd (fun (_ : Unit) =>
 (winI ((i7 :: ([] : List Int))) 0 1).bnd (fun (l10 : (List Int)) =>
 (fitI (addN (lenN l5) (lenN l10)) 8).bnd (fun (_ : Unit) =>
 (fulI 0 (addN (lenN l5) (lenN l10)) (lenN (appL l5 l10))).bnd (fun (_ : Unit) =>
 some (Sum.inl ((l2, i3, addI .i64 i4 (1 : Int)), appL l5 l10))))))))
 (((fulI 0 (lenN l5) (lenN l5)).bnd (fun (_ : Unit) =>
 some (Sum.inl l5))).bnd (fun (l11 : ((List Int) ⊕ (List Int))) =>
 some (Sum.inr l11))))
 ((l1, natI (lenN l1), (0 : Int)), ([] : List Int))))
 (fun (l12 : (List Int)) =>
 (takI l12 (lenN l12)).bnd (fun (l13 : (List Int)) =>
 some l13)))


def G_spec_ChainOk (NN : Nat) : (Int × (List (Int × (Int × (Int × (List Int)))))) → (Option Bool) :=
 (fun ((i0, l1) : (Int × (List (Int × (Int × (Int × (List Int))))))) =>
 (F_spec_IsPrime i0).bnd (fun (b2 : Bool) =>
 cnd (notB b2)
 (some false)
 ((F_spec_l01In (natI (lenN l1), (1 : Int), (8 : Int))).bnd (fun (b3 : Bool) =>
 cnd (notB b3)
 (some false)
 (joinK (loopT NN (fun (((i4, l5, i6, i7), i8, l9) : ((Int × ((List (Int × (Int × (Int × (List Int))))) × (Int × Int))) × (Int × (List (Int × (Int × (Int × (List Int)))))))) =>
 cnd (ltI i7 i6)
 (joinK ((getI l5 i7).bnd (fun ((i10, i11, i12, l13) : (Int × (Int × (Int × (List Int))))) =>
 cnd (neI i10 i4)
 (some (Sum.inr (Sum.inr (Sum.inr false))))
 ((F_spec_l01In (i11, (1 : Int), (8 : Int))).bnd (fun (b14 : Bool) =>
 cnd (notB b14)
 (some (Sum.inr (Sum.inr (Sum.inr false))))
 ((F_spec_l01In (i12, (0 : Int), (32 : Int))).bnd (fun (b15 : Bool) =>
 cnd (notB b15)
 (some (Sum.inr (Sum.inr (Sum.inr false))))
 (cnd (neI (natI (lenN l13)) (mulI .i64 (mulI .i64 i10 i11) i12))
 (some (Sum.inr (Sum.inr (Sum.inr false))))
 (joinK (loopT NN (fun (((l16, i17, i18, l19, i20, i21), (i22, l23), i24, i25, i26, l27) : (((List (Int × (Int × (Int × (List Int))))) × (Int × (Int × ((List Int) × (Int × Int))))) × ((Int × (List (Int × (Int × (Int × (List Int)))))) × (Int × (Int × (Int × (List Int))))))) =>
 cnd (ltI i21 i20)
 ((getI l19 i21).bnd (fun (i28 : Int) =>
 (F_spec_l01In (i28, (0 : Int), subI .i64 i22 (1 : Int))).bnd (fun (b29 : Bool) =>
 cnd (notB b29)
 (some (Sum.inr (Sum.inr (Sum.inr (Sum.inr (Sum.inr false))))))
 (some (Sum.inl ((l16, i17, i18, l19, i20, addI .i64 i21 (1 : Int)), (i22, l23), i24, i25, i26, l27))))))
 (some (Sum.inr (Sum.inl ((i18, l16, i17), (i22, l23), i24, i25, i26, l27)))))
 ((l5, i6, i7, l13, natI (lenN l13), (0 : Int)), (i8, l9), i10, i11, i12, l13))
 (fun (((i30, l31, i32), (i33, l34), i35, i36, i37, l38) : ((Int × ((List (Int × (Int × (Int × (List Int))))) × Int)) × ((Int × (List (Int × (Int × (Int × (List Int)))))) × (Int × (Int × (Int × (List Int))))))) =>
 some (Sum.inl ((i30, i37, l31, i32), i33, l34)))))))))))
 (fun (((i39, i40, l41, i42), i43, l44) : ((Int × (Int × ((List (Int × (Int × (Int × (List Int))))) × Int))) × (Int × (List (Int × (Int × (Int × (List Int)))))))) =>
 some (Sum.inl ((i40, l41, i42, addI .i64 i39 (1 : Int)), i43, l44))))
 (some (Sum.inr (Sum.inl (i4, i8, l9)))))
 (((1 : Int), l1, natI (lenN l1), (0 : Int)), i0, l1))
 (fun ((i45, i46, l47) : (Int × (Int × (List (Int × (Int × (Int × (List Int)))))))) =>
 cnd (eqI i45 (1 : Int))
 ((F_spec_l32Dims (i46, l47)).bnd (fun (l48 : (List Int)) =>
 (winI l48 0 (lenN l48)).bnd (fun (l49 : (List Int)) =>
 (F_spec_l05Product (l49, (4096 : Int))).bnd (fun (i50 : Int) =>
 some (leI i50 (4096 : Int))))))
 (some false)))))))


def G_impl_siteOk (NN : Nat) : (Int × (Int × (Int × (Int × (List Int))))) → (Option Bool) :=
 (fun ((i0, i1, i2, i3, l4) : (Int × (Int × (Int × (Int × (List Int)))))) =>
 cnd (ltI i1 (0 : Int))
 (some false)
 (cnd (ltI (32 : Int) i1)
 (some false)
 (cnd (ltI i3 (0 : Int))
 (some false)
 (cnd (ltI (32 : Int) i3)
 (some false)
 (cnd (ltI i2 (1 : Int))
 (some false)
 (cnd (ltI (8 : Int) i2)
 (some false)
 (cnd (eqI (natI (lenN l4)) (mulI .i64 (mulI .i64 i1 i2) i3))
 ((F_impl_inMod (i0, l4)).bnd (fun (b5 : Bool) =>
 some b5))
 (some false))))))))


def G_impl_ChainOk (NN : Nat) : (Int × (List (Int × (Int × (Int × (List Int)))))) → (Option Bool) :=
 (fun ((i0, l1) : (Int × (List (Int × (Int × (Int × (List Int))))))) =>
 (F_impl_IsPrime i0).bnd (fun (b2 : Bool) =>
 cnd (notB b2)
 (some false)
 (cnd (ltI (natI (lenN l1)) (1 : Int))
 (some false)
 (cnd (ltI (8 : Int) (natI (lenN l1)))
 (some false)
 (joinK (loopT NN (fun (((i3, i4, l5, i6, i7), i8, l9) : ((Int × (Int × ((List (Int × (Int × (Int × (List Int))))) × (Int × Int)))) × (Int × (List (Int × (Int × (Int × (List Int)))))))) =>
 cnd (ltI i7 i6)
 ((getI l5 i7).bnd (fun ((i10, i11, i12, l13) : (Int × (Int × (Int × (List Int))))) =>
 (F_impl_siteOk (i8, i10, i11, i12, l13)).bnd (fun (b14 : Bool) =>
 cnd (notB b14)
 (some (Sum.inr (Sum.inr false)))
 (cnd (neI i10 i3)
 (some (Sum.inr (Sum.inr false)))
 (some (Sum.inl ((i12, mulI .i64 i4 i11, l5, i6, addI .i64 i7 (1 : Int)), i8, l9)))))))
 (some (Sum.inr (Sum.inl (i3, i4)))))
 (((1 : Int), (1 : Int), l1, natI (lenN l1), (0 : Int)), i0, l1))
 (fun ((i15, i16) : (Int × Int)) =>
 cnd (eqI i15 (1 : Int))
 (some (leI i16 (4096 : Int)))
 (some false)))))))



theorem f_spec_l32Dims (x : Int × List (Int × Int × Int × List Int)) (y : List Int) (h : F_spec_l32Dims x = some y) : G_spec_l32Dims FUEL x = some y := by
  obtain ⟨m, l⟩ := x
  simp only [F_spec_l32Dims] at h
  split at h
  · rename_i hl
    rw [← h]
    simp only [G_spec_l32Dims]
    rw [show fulI 0 0 (lenN ([] : List Int)) = some () from rfl, bnd_s]
    rw [loopT_seq (fun i => ((l, natI (lenN l), (i : Int)), dimsOf (l.take i))) (r := Sum.inl (dimsOf l)) l.length ?_ ?_ ?_ (FUEL_gt (by omega))]
    · rw [joinK_l, takI_id]; rfl
    all_goals try simp only
    · intro j hj
      obtain ⟨⟨a, p, c, d⟩, hs⟩ : ∃ e, l[j]? = some e := ⟨_, List.getElem?_eq_getElem hj⟩
      have e1 : lenN (dimsOf (l.take j)) = j := by simp [lenN, dimsOf]; omega
      have e2 : appL (dimsOf (l.take j)) [p] = dimsOf (l.take (j + 1)) := by simp [appL, dimsOf, List.take_add_one, hs]
      have e3 : fitI (addN j 1) 8 = some () := fitI_ok (by simp only [addN, maxBytes]; omega)
      rw [cnd_t (ltI_in hs), getI_nat, hs, bnd_s]
      simp only [e1, fulI_id, bnd_s, win1, lenN_appL, show lenN [p] = 1 from rfl, e3, next_i hs (by omega), e2]
    · rw [cnd_f (ltI_end l), List.take_length]
      simp only [fulI_id, bnd_s]
    · rfl
  · cases h

theorem f_impl_siteOk (x : Int × Int × Int × Int × List Int) (y : Bool) (h : F_impl_siteOk x = some y) : G_impl_siteOk FUEL x = some y := by
  obtain ⟨m, a, p, c, l⟩ := x
  simp only [F_impl_siteOk] at h
  split at h
  · rename_i hl
    rw [← h]
    have hl : l.length ≤ 1048576 := hl
    simp only [G_impl_siteOk, siteOk]
    by_cases h1 : a < 0
    · rw [cnd_t (ltI_t h1), decide_eq_false (p := 0 ≤ a ∧ a ≤ 32) (by omega)]; rfl
    rw [cnd_f (ltI_f (by omega))]
    by_cases h2 : 32 < a
    · rw [cnd_t (ltI_t h2), decide_eq_false (p := 0 ≤ a ∧ a ≤ 32) (by omega)]; rfl
    rw [cnd_f (ltI_f (by omega)), decide_eq_true (p := 0 ≤ a ∧ a ≤ 32) (by omega), Bool.true_and]
    by_cases h3 : c < 0
    · rw [cnd_t (ltI_t h3), decide_eq_false (p := 0 ≤ c ∧ c ≤ 32) (by omega)]; rfl
    rw [cnd_f (ltI_f (by omega))]
    by_cases h4 : 32 < c
    · rw [cnd_t (ltI_t h4), decide_eq_false (p := 0 ≤ c ∧ c ≤ 32) (by omega)]; rfl
    rw [cnd_f (ltI_f (by omega)), decide_eq_true (p := 0 ≤ c ∧ c ≤ 32) (by omega), Bool.true_and]
    by_cases h5 : p < 1
    · rw [cnd_t (ltI_t h5), decide_eq_false (p := 1 ≤ p ∧ p ≤ 8) (by omega)]; rfl
    rw [cnd_f (ltI_f (by omega))]
    by_cases h6 : 8 < p
    · rw [cnd_t (ltI_t h6), decide_eq_false (p := 1 ≤ p ∧ p ≤ 8) (by omega)]; rfl
    rw [cnd_f (ltI_f (by omega)), decide_eq_true (p := 1 ≤ p ∧ p ≤ 8) (by omega), Bool.true_and]
    obtain ⟨b1, b2⟩ := mul_bd (a := a) (x := p) (A := 32) (B := 8) (by omega) (by omega) (by omega) (by omega)
    obtain ⟨b3, b4⟩ := mul_bd (a := a * p) (x := c) (A := 32 * 8) (B := 32) (by omega) (by omega) (by omega) (by omega)
    rw [mulI_eq (a := a) (by omega) (by omega), mulI_eq (by omega) (by omega), show F_impl_inMod (m, l) = some (rowOk m l) from if_pos hl]
    by_cases h5 : (l.length : Int) = a * p * c
    · rw [cnd_t (show eqI (natI (lenN l)) _ = true from eqI_t h5), decide_eq_true h5]; rfl
    · rw [cnd_f (show eqI (natI (lenN l)) _ = false from eqI_f h5), decide_eq_false h5]; rfl
  · cases h

theorem siteOk_t {m a p c : Int} {l : List Int} (h : siteOk m (a, p, c, l) = true) : (0 ≤ a ∧ a ≤ 32) ∧ (0 ≤ c ∧ c ≤ 32) ∧ (1 ≤ p ∧ p ≤ 8) ∧ (l.length : Int) = a * p * c ∧ rowOk m l = true := by
  simp only [siteOk, Bool.and_eq_true, decide_eq_true_eq] at h
  exact ⟨h.1, h.2.1, h.2.2.1, h.2.2.2.1, h.2.2.2.2⟩

theorem chStep_dims {m : Int} : ∀ {l : List (Int × Int × Int × List Int)} {i : Nat} {b c : Int}, foldO (chStep m) i b l = some c → ∀ x ∈ dimsOf l, 1 ≤ x ∧ x ≤ 8
  | [], _, _, _, _, x, hx => by cases hx
  | (a, p, r, d) :: l, i, b, c, h, x, hx => by
    rw [foldO] at h
    cases hs : chStep m i b (a, p, r, d) with
    | none => rw [hs] at h; cases h
    | some b' =>
      rw [hs] at h
      simp only [chStep] at hs
      split at hs
      · rename_i hc
        have hp := (siteOk_t hc.1).2.2.1
        rcases List.mem_cons.1 hx with rfl | hx
        · exact hp
        · exact chStep_dims h x hx
      · cases hs

theorem chStep2_eq {m : Int} : ∀ (l : List (Int × Int × Int × List Int)) (i : Nat) (b z : Int), foldO (chStep2 m) i (b, z) l = (foldO (chStep m) i b l).map fun c => (c, z * prodI (dimsOf l))
  | [], i, b, z => by simp [foldO, dimsOf, prodI]
  | s :: l, i, b, z => by
    rw [foldO, foldO]
    simp only [chStep2, chStep]
    by_cases hc : siteOk m s = true ∧ s.1 = b
    · rw [if_pos hc, if_pos hc]
      simp only
      rw [chStep2_eq l (i + 1)]
      simp only [dimsOf, List.map_cons, prodI, Int.mul_assoc]
    · rw [if_neg hc, if_neg hc]
      rfl

theorem sz_Chain_le {m : Int} {l : List (Int × Int × Int × List Int)} (h : sz_Chain (m, l) ≤ 1048576) : l.length ≤ 1048576 ∧ ∀ e ∈ l, sz_Site e ≤ 1048576 := sz_SiteS_mem h

theorem pow8 {i : Nat} (h : i ≤ 8) : (8 : Int) ^ i ≤ 16777216 := by
  have h1 : (8 : Nat) ^ i ≤ 16777216 := Nat.le_trans (Nat.pow_le_pow_right (by decide) h) (by decide)
  have h2 : ((8 ^ i : Nat) : Int) = (8 : Int) ^ i := by norm_cast
  rw [← h2]
  omega

theorem f_impl_ChainOk (x : Int × List (Int × Int × Int × List Int)) (y : Bool) (h : F_impl_ChainOk x = some y) : G_impl_ChainOk FUEL x = some y := by
  obtain ⟨m, l⟩ := x
  simp only [F_impl_ChainOk] at h
  split at h
  · rename_i hl
    rw [← h]
    obtain ⟨hlen, hmm⟩ := sz_Chain_le hl
    simp only [G_impl_ChainOk, F_impl_IsPrime, bnd_s, chainOk]
    cases hp : isPrimeI m with
    | false => rfl
    | true =>
      have hm := isPrimeI_t hp
      rw [cnd_f (by rfl), Bool.true_and]
      by_cases h2 : l.length < 1
      · rw [cnd_t (ltI_t (by have := nl l; omega)), decide_eq_false (by omega)]; rfl
      rw [cnd_f (ltI_f (by have := nl l; omega))]
      by_cases h3 : 8 < l.length
      · rw [cnd_t (ltI_t (by have := nl l; omega)), decide_eq_false (by omega)]; rfl
      rw [cnd_f (ltI_f (by have := nl l; omega)), decide_eq_true (by omega), Bool.true_and]
      rw [loopT_foldO l (fun (st : Int × Int) i => ((st.1, st.2, l, natI (lenN l), (i : Int)), m, l)) (fun i st => 0 ≤ st.2 ∧ st.2 ≤ (8 : Int) ^ i) (chStep2 m) (Sum.inr false) (fun st => Sum.inl st) ?_ ?_ ?_ (s := (1, 1)) ⟨by decide, by decide⟩ ?_ (FUEL_gt (by omega))]
      · rw [chStep2_eq]
        cases hf : foldO (chStep m) 0 1 l with
        | none => rfl
        | some c =>
          simp only [Option.map_some, Int.one_mul]
          rw [joinK_l]
          simp only
          by_cases hc : c = 1
          · rw [cnd_t (eqI_t hc), decide_eq_true hc, Bool.true_and]; rfl
          · rw [cnd_f (eqI_f hc), decide_eq_false hc, Bool.false_and]
      all_goals try simp only
      · rintro i ⟨b, z⟩ ⟨a, p, c, d⟩ st' hi hz hs
        simp only [chStep2] at hs
        split at hs
        · rename_i hc
          injection hs with hs
          subst hs
          obtain ⟨t1, t2, t3, t4, t5⟩ := siteOk_t hc.1
          have hab : a = b := hc.2
          have hi8 : i ≤ 8 := by have := lt_of_get hi; omega
          have h8 := pow8 hi8
          obtain ⟨b1, b2⟩ := mul_bd hz.1 hz.2 (show 0 ≤ p by omega) t3.2
          simp only at b1 b2
          refine ⟨?_, b1, ?_⟩
          · rw [cnd_t (ltI_in hi), getI_nat, hi, bnd_s]
            simp only
            rw [show F_impl_siteOk (m, a, p, c, d) = some (siteOk m (a, p, c, d)) from if_pos (hmm _ (List.mem_of_getElem? hi)), bnd_s, hc.1, cnd_f (by rfl), cnd_f (neI_f hab), mulI_eq (by omega) (by omega), next_i hi (by omega)]
          · rw [Int.pow_succ]; exact b2
        · cases hs
      · rintro i ⟨b, z⟩ ⟨a, p, c, d⟩ hi hz hs
        simp only [chStep2] at hs
        split at hs
        · cases hs
        · rename_i hc
          rw [cnd_t (ltI_in hi), getI_nat, hi, bnd_s]
          simp only
          rw [show F_impl_siteOk (m, a, p, c, d) = some (siteOk m (a, p, c, d)) from if_pos (hmm _ (List.mem_of_getElem? hi)), bnd_s]
          cases h1 : siteOk m (a, p, c, d) with
          | false => rw [cnd_t (by rfl)]
          | true =>
            rw [cnd_f (by rfl), cnd_t (neI_t (fun e => hc ⟨h1, e⟩))]
      · rintro ⟨b, z⟩ _
        simp only
        rw [cnd_f (ltI_end l)]
      · rfl
  · cases h

theorem loopT_foldO' {X Y α S : Type} {f : X → Option (X ⊕ Y)} (es : List α) (mk : S → Nat → X) (I : Nat → S → Prop) (step : Nat → S → α → Option S) (bad : Y) (good : S → Y)
    (h1 : ∀ i s a, es[i]? = some a → I i s → f (mk s i) = some (match step i s a with | some s' => .inl (mk s' (i + 1)) | none => .inr bad))
    (hI : ∀ i s a s', es[i]? = some a → I i s → step i s a = some s' → I (i + 1) s')
    (h3 : ∀ s, I es.length s → f (mk s es.length) = some (.inr (good s))) {s : S} (h0 : I 0 s) {x0 : X} (hx : x0 = mk s 0) {N : Nat} (hN : es.length < N) :
    loopT N f x0 = some (match foldO step 0 s es with | some s' => good s' | none => bad) :=
  loopT_foldO es mk I step bad good (fun i s a s' ha hi hs => ⟨by rw [h1 i s a ha hi, hs], hI i s a s' ha hi hs⟩) (fun i s a ha hi hs => by rw [h1 i s a ha hi, hs]) h3 h0 hx hN

theorem chStep_t {m b a p c : Int} {l : List Int} {i : Nat} (h : siteOk m (a, p, c, l) = true) (e : a = b) : chStep m i b (a, p, c, l) = some c := if_pos ⟨h, e⟩
theorem chStep_f {m b a p c : Int} {l : List Int} {i : Nat} (h : ¬ (siteOk m (a, p, c, l) = true ∧ a = b)) : chStep m i b (a, p, c, l) = none := if_neg h

theorem f_spec_ChainOk (x : Int × List (Int × Int × Int × List Int)) (y : Bool) (h : F_spec_ChainOk x = some y) : G_spec_ChainOk FUEL x = some y := by
  obtain ⟨m, l⟩ := x
  simp only [F_spec_ChainOk] at h
  split at h
  · rename_i hl
    rw [← h]
    obtain ⟨hlen, hmm⟩ := sz_Chain_le hl
    simp only [G_spec_ChainOk, F_spec_IsPrime, F_spec_l01In, bnd_s, chainOk]
    cases hp : isPrimeI m with
    | false => rfl
    | true =>
      have hm := isPrimeI_t hp
      rw [cnd_f (by rfl), Bool.true_and]
      by_cases h2 : 1 ≤ l.length ∧ l.length ≤ 8
      rotate_left
      · rw [cnd_t (notB_d (by have := nl l; omega)), decide_eq_false h2]; rfl
      rw [cnd_f (notB_p (by have := nl l; omega)), decide_eq_true h2, Bool.true_and]
      rw [loopT_foldO' l (fun (b : Int) i => ((b, l, natI (lenN l), (i : Int)), m, l)) (fun i b => 0 ≤ b ∧ b ≤ 32) (chStep m) (Sum.inr false) (fun b => Sum.inl (b, m, l)) ?_ ?_ ?_ (s := 1) ⟨by decide, by decide⟩ ?_ (FUEL_gt (by omega))]
      · cases hf : foldO (chStep m) 0 1 l with
        | none => rfl
        | some c =>
          have hd := chStep_dims hf
          rw [joinK_l]
          simp only
          by_cases hc : c = 1
          · rw [cnd_t (eqI_t hc), decide_eq_true hc, Bool.true_and]
            rw [show F_spec_l32Dims (m, l) = some (dimsOf l) from if_pos hlen, bnd_s, winI_id, bnd_s]
            have hsm : (dimsOf l).all smallB = true := List.all_eq_true.2 fun x hx => decide_eq_true ⟨by have := hd x hx; omega, by have := hd x hx; omega⟩
            rw [show F_spec_l05Product (dimsOf l, 4096) = some (capProd 4096 (dimsOf l)) from if_pos ⟨by decide, by simp [dimsOf]; omega, hsm⟩, bnd_s, capProd_le (by decide) fun x hx => (hd x hx).1]
          · rw [cnd_f (eqI_f hc), decide_eq_false hc]; rfl
      all_goals try simp only
      · rintro i b ⟨a, p, c, d⟩ hi hb
        have hdl : d.length ≤ 1048576 := hmm _ (List.mem_of_getElem? hi)
        rw [cnd_t (ltI_in hi), getI_nat, hi, bnd_s]
        simp only
        by_cases q1 : a = b
        rotate_left
        · rw [cnd_t (neI_t q1), chStep_f (fun h => q1 h.2)]; rfl
        rw [cnd_f (neI_f q1)]
        by_cases q2 : 1 ≤ p ∧ p ≤ 8
        rotate_left
        · rw [cnd_t (notB_d q2), chStep_f (fun h => q2 (siteOk_t h.1).2.2.1)]; rfl
        rw [cnd_f (notB_p q2)]
        by_cases q3 : 0 ≤ c ∧ c ≤ 32
        rotate_left
        · rw [cnd_t (notB_d q3), chStep_f (fun h => q3 (siteOk_t h.1).2.1)]; rfl
        rw [cnd_f (notB_p q3)]
        obtain ⟨b1, b2⟩ := mul_bd (a := a) (x := p) (A := 32) (B := 8) (by omega) (by omega) (by omega) (by omega)
        obtain ⟨b3, b4⟩ := mul_bd (a := a * p) (x := c) (A := 32 * 8) (B := 32) (by omega) (by omega) (by omega) (by omega)
        rw [mulI_eq (a := a) (by omega) (by omega), mulI_eq (by omega) (by omega)]
        by_cases q4 : (d.length : Int) = a * p * c
        rotate_left
        · rw [cnd_t (show neI (natI (lenN d)) _ = true from neI_t q4), chStep_f (fun h => q4 (siteOk_t h.1).2.2.2.1)]; rfl
        rw [cnd_f (show neI (natI (lenN d)) _ = false from neI_f q4)]
        rw [loopT_all (mk := fun (j : Nat) => ((l, natI (lenN l), (i : Int), d, natI (lenN d), (j : Int)), (m, l), a, p, c, d)) d (inB m) (Sum.inr (Sum.inr (Sum.inr (Sum.inr false)))) (Sum.inl (((i : Int), l, natI (lenN l)), (m, l), a, p, c, d)) ?_ ?_ ?_ ?_ (FUEL_gt (by omega))]
        · cases hr : d.all (inB m) with
          | false => rw [chStep_f (fun h => by have := (siteOk_t h.1).2.2.2.2; rw [rowOk, hr] at this; cases this)]; rfl
          | true =>
            rw [chStep_t (by simp only [siteOk, rowOk, hr, Bool.and_true, Bool.and_eq_true, decide_eq_true_eq]; exact ⟨by omega, q3, q2, q4⟩) q1]
            simp only [if_true, joinK_l]
            rw [next_i hi (by omega)]
        all_goals try simp only
        · intro j x hx hp
          have hp := of_decide_eq_true hp
          rw [cnd_t (ltI_in hx), getI_nat, hx, bnd_s, subI_eq (by omega) (by omega), cnd_f (notB_p (by omega)), next_i hx (by omega)]
        · intro j x hx hp
          have hp := of_decide_eq_false hp
          rw [cnd_t (ltI_in hx), getI_nat, hx, bnd_s, subI_eq (by omega) (by omega), cnd_t (notB_d (by omega))]
        · rw [cnd_f (ltI_end d)]
        · rfl
      · rintro i b ⟨a, p, c, d⟩ s' hi hb hs
        simp only [chStep] at hs
        split at hs
        · rename_i hc
          injection hs with hs
          subst hs
          exact (siteOk_t hc.1).2.1
        · cases hs
      · intro b _
        rw [cnd_f (ltI_end l)]
      · rfl
  · cases h

end Go.Am
end
section
namespace Go.Am
def newOk (x : Int × Int) : Prop := (0 ≤ x.1 ∧ x.1 ≤ 4096) ∧ (0 ≤ x.2 ∧ x.2 ≤ 4096) ∧ x.1 * x.2 ≤ 1048576
instance (x : Int × Int) : Decidable (newOk x) := by unfold newOk; infer_instance
def swapF (M : Nat → Nat → Int) (a b : Nat) : Nat → Nat → Int := fun i j => if i = a then M b j else if i = b then M a j else M i j
def pivF (M : Nat → Nat → Int) (j : Nat) : Nat → Nat → Option Nat
  | 0, _ => none
  | d + 1, k => if M k j = 0 then pivF M j d (k + 1) else some k
def invG (p out x : Int) (n : Nat) : Int := if h : n = 0 then out else invG p (if n % 2 = 1 then out * x % p else out) (x * x % p) (n / 2)
termination_by n
decreasing_by omega
def mulOk (x : Int × (Int × Int × List Int) × (Int × Int × List Int)) : Prop := pOk x.1 ∧ mOk x.2.1 ∧ mOk x.2.2 ∧ x.2.1.2.1 = x.2.2.1 ∧ x.2.1.1 * x.2.2.2.1 ≤ 1048576 ∧ allP x.1 x.2.1.2.2 ∧ allP x.1 x.2.2.2.2
instance (x : Int × (Int × Int × List Int) × (Int × Int × List Int)) : Decidable (mulOk x) := by unfold mulOk; infer_instance
/-! ### rows -/

/-! ### pivots, inverses -/

theorem pivF_lt {M : Nat → Nat → Int} {j q : Nat} : ∀ {d k : Nat}, pivF M j d k = some q → k ≤ q ∧ q < k + d ∧ M q j ≠ 0
  | 0, k, h => by cases h
  | d + 1, k, h => by
    simp only [pivF] at h
    split at h
    · have := pivF_lt h
      exact ⟨by omega, by omega, this.2.2⟩
    · rename_i h0
      injection h with h
      subst h
      exact ⟨by omega, by omega, h0⟩

/-! ### transposed -/

/-! ### products -/

end Go.Am
end
section
namespace Go.Am
/-! ### transposes, products and swaps of good matrices -/

def sopOk (x : Int × Int × Int) : Prop := isPrimeI x.1 = true ∧ (1 ≤ x.2.1 ∧ x.2.1 ≤ 8) ∧ (1 ≤ x.2.2 ∧ x.2.2 ≤ 8)
instance (x : Int × Int × Int) : Decidable (sopOk x) := by unfold sopOk; infer_instance
/-! ### the swap operator -/

end Go.Am
end
section
namespace Go.Am
/-! ### reduced forms -/

abbrev Mat := Nat → Nat → Int
def sclF (p inv : Int) (M : Mat) (t : Nat) : Mat := fun a b => if a = t then M t b * inv % p else M a b
def clrF (p : Int) (M : Mat) (t j n : Nat) : Mat := fun a b => if a < n ∧ a ≠ t then (M a b + (p - M a j) * M t b) % p else M a b
def pivS (p : Int) (M : Mat) (t j k : Nat) : Mat := sclF p (invG p 1 (swapF M t k t j) (p - 2).toNat) (swapF M t k) t
def redD (p : Int) (M : Mat) (t j k : Nat) (d : Int) : Int := (if k = t then d else (p - d) % p) * swapF M t k t j % p
def redS (p : Int) (r : Nat) (s : Mat × List Int × Int) (j : Nat) : Mat × List Int × Int :=
  if s.2.1.length < r then
    match pivF s.1 j (r - s.2.1.length) s.2.1.length with
    | none => s
    | some k => (clrF p (pivS p s.1 s.2.1.length j k) s.2.1.length j r, s.2.1 ++ [(j : Int)], redD p s.1 s.2.1.length j k s.2.2)
  else s
def redOk (x : Int × Int × Int × List Int) : Prop := pOk x.1 ∧ mOk x.2 ∧ allP x.1 x.2.2.2
instance (x : Int × Int × Int × List Int) : Decidable (redOk x) := by unfold redOk; infer_instance
theorem swapF_in {p : Int} {r c : Nat} {M : Mat} (hM : inM p r c M) {a b : Nat} (ha : a < r) (hb : b < r) : inM p r c (swapF M a b) := by
  intro i hi j hj
  unfold swapF
  split
  · exact hM b hb j hj
  · split
    · exact hM a ha j hj
    · exact hM i hi j hj
theorem sclF_in {p inv : Int} {r c : Nat} {M : Mat} (hp : pOk p) (hM : inM p r c M) (t : Nat) : inM p r c (sclF p inv M t) := by
  intro i hi j hj
  unfold sclF
  split
  · exact emod_in hp _
  · exact hM i hi j hj
theorem clrF_in {p : Int} {r c : Nat} {M : Mat} (hp : pOk p) (hM : inM p r c M) (t k n : Nat) : inM p r c (clrF p M t k n) := by
  intro i hi j hj
  unfold clrF
  split
  · exact emod_in hp _
  · exact hM i hi j hj
theorem pivS_in {p : Int} {r c : Nat} {M : Mat} (hp : pOk p) (hM : inM p r c M) {t k : Nat} (ht : t < r) (hk : k < r) (j : Nat) : inM p r c (pivS p M t j k) := sclF_in hp (swapF_in hM ht hk) t

structure RI (p : Int) (r c : Nat) (s : Mat × List Int × Int) (j : Nat) : Prop where
  m : inM p r c s.1
  l : s.2.1.length ≤ r
  lj : s.2.1.length ≤ j
  d : inP p s.2.2
  e : ∀ x ∈ s.2.1, 0 ≤ x ∧ x < (j : Int)
theorem RI.step {p : Int} {r c : Nat} {s : Mat × List Int × Int} {j : Nat} (hp : pOk p) (h : RI p r c s j) : RI p r c (redS p r s j) (j + 1) := by
  have keep : RI p r c s (j + 1) := ⟨h.m, h.l, by have := h.lj; omega, h.d, fun x hx => by have := h.e x hx; omega⟩
  unfold redS
  split
  · rename_i hl
    split
    · exact keep
    · rename_i k hk
      have hq := pivF_lt hk
      refine ⟨clrF_in hp (pivS_in hp h.m hl (by omega) j) _ _ _, ?_, ?_, emod_in hp _, ?_⟩
      · simp only [List.length_append, List.length_cons, List.length_nil]; omega
      · have := h.lj
        simp only [List.length_append, List.length_cons, List.length_nil]; omega
      · intro x hx
        simp only [List.mem_append, List.mem_singleton] at hx
        rcases hx with hx | rfl
        · have := h.e x hx; omega
        · omega
  · exact keep
/-! ### the walk of the spec's reduction -/

section
variable {p : Int} {r c : Nat} {M0 : Mat}

end
/-! ### the walk of the program's reduction -/

section
variable {p : Int} {r c : Nat} {M0 : Mat}

end

end Go.Am
end
section
namespace Go.Am
/-! ### ranks, reduced forms and factors of good matrices -/

/-! ### factors -/

section
variable {p : Int} {r c : Nat} {M R : Mat} {L : List Int}

end

end Go.Am
end
section
namespace Go.Am

/-! ### chains as matrices -/
abbrev Site := Int × Int × Int × List Int
def site0 : Site := (0, 0, 0, [])
def bondN (l : List Site) : Nat → Nat
  | 0 => 1
  | i + 1 => (l.getD i site0).2.2.1.toNat
def siteG (s : Site) : Prop := (0 ≤ s.1 ∧ s.1 ≤ 64) ∧ (0 ≤ s.2.1 ∧ s.2.1 ≤ 64) ∧ (0 ≤ s.2.2.1 ∧ s.2.2.1 ≤ 64) ∧ (s.2.2.2.length : Int) = s.1 * s.2.1 * s.2.2.1
instance (s : Site) : Decidable (siteG s) := by unfold siteG; infer_instance
def bondsI (l : List Site) : List Int := (l.take (l.length - 1)).map fun s => s.2.2.1

def F_impl_BondsOf : Int × List Site → Option (List Int) := fun x => if sz_Chain x ≤ 1048576 then some (if chainOk x = true then bondsI x.2 else []) else none
def F_spec_BondsOf : Int × List Site → Option (List Int) := F_impl_BondsOf
def ag_impl_BondsOf : Sig := [(.agg, [.int .i64, .list [.int .i64, .int .i64, .int .i64, .list [.int .i64]]])]
def rs_impl_BondsOf : Sig := [(.one, [.list [.int .i64]])]
def mu_impl_BondsOf : MSig := []
def ag_spec_BondsOf : Sig := [(.agg, [.int .i64, .list [.int .i64, .int .i64, .int .i64, .list [.int .i64]]])]
def rs_spec_BondsOf : Sig := [(.one, [.list [.int .i64]])]
def mu_spec_BondsOf : MSig := []
def G_impl_BondsOf (NN : Nat) : (Int × (List (Int × (Int × (Int × (List Int)))))) → (Option (List Int)) :=
 (fun ((i0, l1) : (Int × (List (Int × (Int × (Int × (List Int))))))) =>
 (F_impl_ChainOk (i0, l1)).bnd (fun (b2 : Bool) =>
 cnd (notB b2)
 (some (([] : List Int)))
 ((sliI (0 : Int) (subI .i64 (natI (lenN l1)) (1 : Int)) (lenN l1)).bnd (fun ((k3, k4) : (Nat × Nat)) =>
 joinK ((fulI 0 0 (lenN (([] : List Int)))).bnd (fun (_ : Unit) =>
 loopT NN (fun (((l5, i6, i7), l8) : (((List (Int × (Int × (Int × (List Int))))) × (Int × Int)) × (List Int))) =>
 cnd (ltI i7 i6)
 ((getI l5 i7).bnd (fun ((i9, i10, i11, l12) : (Int × (Int × (Int × (List Int))))) =>
 (fulI 0 (lenN l8) (lenN l8)).bnd (fun (_ : Unit) =>
 (winI ((i11 :: ([] : List Int))) 0 1).bnd (fun (l13 : (List Int)) =>
 (fitI (addN (lenN l8) (lenN l13)) 8).bnd (fun (_ : Unit) =>
 (fulI 0 (addN (lenN l8) (lenN l13)) (lenN (appL l8 l13))).bnd (fun (_ : Unit) =>
 some (Sum.inl ((l5, i6, addI .i64 i7 (1 : Int)), appL l8 l13))))))))
 (((fulI 0 (lenN l8) (lenN l8)).bnd (fun (_ : Unit) =>
 some (Sum.inl l8))).bnd (fun (l14 : ((List Int) ⊕ (List Int))) =>
 some (Sum.inr l14))))
 ((sldL l1 k3 k4, natI (lenN (sldL l1 k3 k4)), (0 : Int)), ([] : List Int))))
 (fun (l15 : (List Int)) =>
 (takI l15 (lenN l15)).bnd (fun (l16 : (List Int)) =>
 some l16))))))


def G_spec_BondsOf (NN : Nat) : (Int × (List (Int × (Int × (Int × (List Int)))))) → (Option (List Int)) :=
 (fun ((i0, l1) : (Int × (List (Int × (Int × (Int × (List Int))))))) =>
 (F_spec_ChainOk (i0, l1)).bnd (fun (b2 : Bool) =>
 cnd (notB b2)
 (some (([] : List Int)))
 ((sliI (1 : Int) (natI (lenN l1)) (lenN l1)).bnd (fun ((k3, k4) : (Nat × Nat)) =>
 joinK ((fulI 0 0 (lenN (([] : List Int)))).bnd (fun (_ : Unit) =>
 loopT NN (fun (((l5, i6, i7), l8) : (((List (Int × (Int × (Int × (List Int))))) × (Int × Int)) × (List Int))) =>
 cnd (ltI i7 i6)
 ((getI l5 i7).bnd (fun ((i9, i10, i11, l12) : (Int × (Int × (Int × (List Int))))) =>
 (fulI 0 (lenN l8) (lenN l8)).bnd (fun (_ : Unit) =>
 (winI ((i9 :: ([] : List Int))) 0 1).bnd (fun (l13 : (List Int)) =>
 (fitI (addN (lenN l8) (lenN l13)) 8).bnd (fun (_ : Unit) =>
 (fulI 0 (addN (lenN l8) (lenN l13)) (lenN (appL l8 l13))).bnd (fun (_ : Unit) =>
 some (Sum.inl ((l5, i6, addI .i64 i7 (1 : Int)), appL l8 l13))))))))
 (((fulI 0 (lenN l8) (lenN l8)).bnd (fun (_ : Unit) =>
 some (Sum.inl l8))).bnd (fun (l14 : ((List Int) ⊕ (List Int))) =>
 some (Sum.inr l14))))
 ((sldL l1 k3 k4, natI (lenN (sldL l1 k3 k4)), (0 : Int)), ([] : List Int))))
 (fun (l15 : (List Int)) =>
 (takI l15 (lenN l15)).bnd (fun (l16 : (List Int)) =>
 some l16))))))


/-! ### good chains -/

def bd (b : Int) (l : List Site) : Nat → Int
  | 0 => b
  | k + 1 => (l.getD k site0).2.2.1

theorem chStep_iff {m : Int} : ∀ (l : List Site) (i : Nat) (b c : Int), foldO (chStep m) i b l = some c ↔ ((∀ k, k < l.length → siteOk m (l.getD k site0) = true ∧ (l.getD k site0).1 = bd b l k) ∧ c = bd b l l.length)
  | [], i, b, c => by
    simp only [foldO, bd, List.length_nil]
    exact ⟨fun h => ⟨fun k hk => absurd hk (Nat.not_lt_zero k), (Option.some.inj h).symm⟩, fun h => by rw [h.2]⟩
  | s :: l, i, b, c => by
    have key : ∀ k, bd b (s :: l) (k + 1) = bd s.2.2.1 l k := fun k => by cases k <;> rfl
    rw [foldO]
    by_cases hs : siteOk m s = true ∧ s.1 = b
    · rw [show chStep m i b s = some s.2.2.1 from if_pos hs]
      try simp only
      rw [chStep_iff l (i + 1) s.2.2.1 c]
      constructor
      · rintro ⟨h1, h2⟩
        refine ⟨fun k hk => ?_, h2.trans (key _).symm⟩
        cases k with
        | zero => exact hs
        | succ k => rw [key]; exact h1 k (by simpa using hk)
      · rintro ⟨h1, h2⟩
        exact ⟨fun k hk => by rw [← key]; exact h1 (k + 1) (by simpa using hk), h2.trans (key _)⟩
    · rw [show chStep m i b s = none from if_neg hs]
      constructor
      · intro h; cases h
      · rintro ⟨h1, _⟩
        exact absurd (h1 0 (by simp)) hs

theorem bd_toNat (l : List Site) (k : Nat) : (bd 1 l k).toNat = bondN l k := by cases k <;> rfl

/-- What a good chain is. -/
theorem chainOk_t {m : Int} {l : List Site} (h : chainOk (m, l) = true) : pOk m ∧ (1 ≤ l.length ∧ l.length ≤ 8) ∧ prodI (dimsOf l) ≤ 4096 ∧ bondN l l.length = 1 ∧
    ∀ i, i < l.length → ∃ (p : Nat) (M : Mat), l.getD i site0 = ((bondN l i : Int), (p : Int), (bondN l (i + 1) : Int), genD (bondN l i * p) (bondN l (i + 1)) M) ∧ bondN l i ≤ 32 ∧ bondN l (i + 1) ≤ 32 ∧ (1 ≤ p ∧ p ≤ 8) ∧
      inM m (bondN l i * p) (bondN l (i + 1)) M ∧ M = ofD (bondN l (i + 1)) (genD (bondN l i * p) (bondN l (i + 1)) M) := by
  simp only [chainOk, Bool.and_eq_true, decide_eq_true_eq] at h
  obtain ⟨hp, hl, h⟩ := h
  cases hf : foldO (chStep m) 0 1 l with
  | none => rw [hf] at h; cases h
  | some c =>
    rw [hf] at h
    simp only [Bool.and_eq_true, decide_eq_true_eq] at h
    obtain ⟨h1, h2⟩ := (chStep_iff l 0 1 c).1 hf
    have hm := isPrimeI_t hp
    refine ⟨hm, hl, h.2, by rw [← bd_toNat, ← h2, h.1]; rfl, fun i hi => ?_⟩
    obtain ⟨s1, s2⟩ := h1 i hi
    have e2 : (l.getD i site0).2.2.1 = bd 1 l (i + 1) := rfl
    generalize hs : l.getD i site0 = s at *
    obtain ⟨a, p, c', d⟩ := s
    obtain ⟨t1, t2, t3, t4, t5⟩ := siteOk_t s1
    simp only at s2 e2
    obtain ⟨p, rfl⟩ := natI_eq (show 0 ≤ p by omega)
    have ea : a = (bondN l i : Int) := by rw [← bd_toNat, ← s2]; omega
    have ec : c' = (bondN l (i + 1) : Int) := by rw [← bd_toNat, ← e2]; omega
    subst ea ec
    have el : d.length = bondN l i * p * bondN l (i + 1) := by
      have : ((bondN l i : Int) * (p : Int) * (bondN l (i + 1) : Int)) = ((bondN l i * p * bondN l (i + 1) : Nat) : Int) := by norm_cast
      rw [this] at t4; exact_mod_cast t4
    have eg := genD_of (r := bondN l i * p) (c := bondN l (i + 1)) el
    refine ⟨p, ofD (bondN l (i + 1)) d, by rw [eg], by omega, by omega, by omega, ?_, by rw [eg]⟩
    rw [← allP_gen, eg]
    intro x hx
    exact of_decide_eq_true (List.all_eq_true.1 t5 x hx)

/-! ### rows -/

/-! ### bonds -/

theorem map_take {α : Type} (g : α → Int) {L : List α} {j : Nat} {x : α} (h : L[j]? = some x) : appL ((L.take j).map g) [g x] = (L.take (j + 1)).map g := by
  simp [appL, List.take_add_one, h]

theorem bonds_eq {m : Int} {l : List Site} (h : chainOk (m, l) = true) : (l.drop 1).map (fun s => s.1) = bondsI l := by
  obtain ⟨_, hl, _, _, hs⟩ := chainOk_t h
  unfold bondsI
  apply List.ext_getElem?
  intro k
  rw [List.getElem?_map, List.getElem?_map, List.getElem?_drop, List.getElem?_take]
  by_cases hk : k + 1 < l.length
  · obtain ⟨p, M, e, _⟩ := hs k (by omega)
    obtain ⟨p', M', e', _⟩ := hs (k + 1) hk
    rw [if_pos (by omega), Nat.add_comm 1 k, getD_some site0 hk, getD_some site0 (show k < l.length by omega), e, e']
    rfl
  · rw [List.getElem?_eq_none (by omega), if_neg (by omega)]; rfl

theorem f_impl_BondsOf (x : Int × List Site) (y : List Int) (h : F_impl_BondsOf x = some y) : G_impl_BondsOf FUEL x = some y := by
  obtain ⟨m, l⟩ := x
  simp only [F_impl_BondsOf] at h
  split at h
  · rename_i hs
    rw [← h]
    obtain ⟨hlen, hmm⟩ := sz_Chain_le hs
    simp only [G_impl_BondsOf]
    rw [show F_impl_ChainOk (m, l) = some (chainOk (m, l)) from if_pos hs, bnd_s]
    cases hk : chainOk (m, l) with
    | false => rw [cnd_t (by rfl), if_neg (by simp)]
    | true =>
      obtain ⟨hm, hl, _⟩ := chainOk_t hk
      rw [cnd_f (by rfl), if_pos rfl]
      have e1 : subI .i64 (natI (lenN l)) 1 = ((l.length - 1 : Nat) : Int) := by rw [nl, subI_eq (by omega) (by omega)]; omega
      rw [e1, show sliI 0 ((l.length - 1 : Nat) : Int) (lenN l) = some (0, l.length - 1) from sliI_n (by simp only [lenN]; omega), bnd_s]
      try simp only
      generalize hL : sldL l 0 (l.length - 1) = L
      have hLe : L = l.take (l.length - 1) := by rw [← hL]; rfl
      have hLl : L.length ≤ 1048576 := by rw [hLe]; simp; omega
      rw [show fulI 0 0 (lenN ([] : List Int)) = some () from rfl, bnd_s]
      rw [loopT_seq (fun i => ((L, natI (lenN L), (i : Int)), (L.take i).map fun s => s.2.2.1)) (r := Sum.inl (L.map fun s => s.2.2.1)) L.length ?_ ?_ ?_ (FUEL_gt (by omega))]
      · rw [joinK_l, takI_id, bnd_s, hLe]; rfl
      all_goals try simp only
      · intro j hj
        obtain ⟨⟨a, p, c, d⟩, hs⟩ : ∃ e, L[j]? = some e := ⟨_, List.getElem?_eq_getElem hj⟩
        have e1 : lenN ((L.take j).map fun s => s.2.2.1) = j := by simp [lenN]; omega
        have e2 : appL ((L.take j).map fun s => s.2.2.1) [c] = (L.take (j + 1)).map fun s => s.2.2.1 := map_take (fun s : Site => s.2.2.1) hs
        have e3 : fitI (addN j 1) 8 = some () := fitI_ok (by simp only [addN, maxBytes]; omega)
        rw [cnd_t (ltI_in hs), getI_nat, hs, bnd_s]
        simp only [e1, fulI_id, bnd_s, win1, lenN_appL, show lenN [c] = 1 from rfl, e3, next_i hs (by omega), e2]
      · rw [cnd_f (ltI_end L), List.take_length]
        simp only [fulI_id, bnd_s]
      · rfl
  · cases h

theorem f_spec_BondsOf (x : Int × List Site) (y : List Int) (h : F_spec_BondsOf x = some y) : G_spec_BondsOf FUEL x = some y := by
  obtain ⟨m, l⟩ := x
  simp only [F_spec_BondsOf, F_impl_BondsOf] at h
  split at h
  · rename_i hs
    rw [← h]
    obtain ⟨hlen, hmm⟩ := sz_Chain_le hs
    simp only [G_spec_BondsOf]
    rw [show F_spec_ChainOk (m, l) = some (chainOk (m, l)) from if_pos hs, bnd_s]
    cases hk : chainOk (m, l) with
    | false => rw [cnd_t (by rfl), if_neg (by simp)]
    | true =>
      obtain ⟨hm, hl, _⟩ := chainOk_t hk
      rw [cnd_f (by rfl), if_pos rfl, ← bonds_eq hk]
      have e1 : sliI 1 (natI (lenN l)) (lenN l) = some (1, l.length - 1) := by
        unfold sliI
        rw [nl, if_pos ⟨by omega, by omega, by simp only [lenN]; omega⟩]
        congr 2
        omega
      rw [e1, bnd_s]
      try simp only
      generalize hL : sldL l 1 (l.length - 1) = L
      have hLe : L = l.drop 1 := by rw [← hL, sldL, List.take_of_length_le (by simp)]
      have hLl : L.length ≤ 1048576 := by rw [hLe]; simp; omega
      rw [show fulI 0 0 (lenN ([] : List Int)) = some () from rfl, bnd_s]
      rw [loopT_seq (fun i => ((L, natI (lenN L), (i : Int)), (L.take i).map fun s => s.1)) (r := Sum.inl (L.map fun s => s.1)) L.length ?_ ?_ ?_ (FUEL_gt (by omega))]
      · rw [joinK_l, takI_id, bnd_s, hLe]
      all_goals try simp only
      · intro j hj
        obtain ⟨⟨a, p, c, d⟩, hs⟩ : ∃ e, L[j]? = some e := ⟨_, List.getElem?_eq_getElem hj⟩
        have e1 : lenN ((L.take j).map fun s => s.1) = j := by simp [lenN]; omega
        have e2 : appL ((L.take j).map fun s => s.1) [a] = (L.take (j + 1)).map fun s => s.1 := map_take (fun s : Site => s.1) hs
        have e3 : fitI (addN j 1) 8 = some () := fitI_ok (by simp only [addN, maxBytes]; omega)
        rw [cnd_t (ltI_in hs), getI_nat, hs, bnd_s]
        simp only [e1, fulI_id, bnd_s, win1, lenN_appL, show lenN [a] = 1 from rfl, e3, next_i hs (by omega), e2]
      · rw [cnd_f (ltI_end L), List.take_length]
        simp only [fulI_id, bnd_s]
      · rfl
  · cases h

end Go.Am
end
