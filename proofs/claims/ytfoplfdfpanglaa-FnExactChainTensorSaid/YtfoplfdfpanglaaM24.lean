/- Mx, M1, M4, M5, M11, M22, M6, M7, M8, M9, M23, M24: parts of the proof. No condition. -/
import Derived.Test.YtfoplfdfpanglaaMT
set_option linter.unusedVariables false
set_option linter.unusedSimpArgs false
section
namespace Go.Am

/-! ### loops -/

/-! ### matrices -/

def genD (r c : Nat) (M : Nat → Nat → Int) : List Int := (List.range (r * c)).map fun n => M (n / c) (n % c)
def ofD (c : Nat) (l : List Int) : Nat → Nat → Int := fun i j => l.getD (i * c + j) 0
def updM (M : Nat → Nat → Int) (i j : Nat) (x : Int) : Nat → Nat → Int := fun a b => if a = i ∧ b = j then x else M a b

theorem idx_lt {r c i j : Nat} (hi : i < r) (hj : j < c) : i * c + j < r * c := by
  have : (i + 1) * c ≤ r * c := Nat.mul_le_mul_right _ hi
  rw [Nat.add_mul] at this
  omega
theorem idx_div {c i j : Nat} (hj : j < c) : (i * c + j) / c = i := by
  rw [Nat.mul_comm, Nat.mul_add_div (by omega), Nat.div_eq_of_lt hj, Nat.add_zero]
theorem idx_mod {c i j : Nat} (hj : j < c) : (i * c + j) % c = j := by
  rw [Nat.mul_comm, Nat.mul_add_mod, Nat.mod_eq_of_lt hj]
theorem genD_len (r c : Nat) (M : Nat → Nat → Int) : (genD r c M).length = r * c := by simp [genD]
theorem genD_get {r c i j : Nat} (M : Nat → Nat → Int) (hi : i < r) (hj : j < c) : (genD r c M)[i * c + j]? = some (M i j) := by
  unfold genD
  rw [List.getElem?_map, List.getElem?_range (idx_lt hi hj)]
  simp [idx_div hj, idx_mod hj]
theorem genD_congr {r c : Nat} {M M' : Nat → Nat → Int} (h : ∀ i, i < r → ∀ j, j < c → M i j = M' i j) : genD r c M = genD r c M' := by
  unfold genD
  refine List.map_congr_left fun n hn => ?_
  have hn := List.mem_range.1 hn
  have hc : 0 < c := by
    rcases Nat.eq_zero_or_pos c with h | h
    · subst h; simp at hn
    · exact h
  exact h _ ((Nat.div_lt_iff_lt_mul hc).2 hn) _ (Nat.mod_lt _ hc)
theorem genD_set {r c i j : Nat} (M : Nat → Nat → Int) (hj : j < c) (x : Int) : (genD r c M).set (i * c + j) x = genD r c (updM M i j x) := by
  apply List.ext_getElem?
  intro n
  rw [List.getElem?_set, genD_len]
  unfold genD
  simp only [List.getElem?_map]
  by_cases hn : n < r * c
  · rw [List.getElem?_range hn]
    have hc : 0 < c := by omega
    by_cases he : i * c + j = n
    · rw [if_pos he, if_pos (by omega)]
      subst he
      simp [updM, idx_div hj, idx_mod hj]
    · rw [if_neg he]
      simp only [Option.map_some, updM]
      rw [if_neg]
      rintro ⟨h1, h2⟩
      apply he
      rw [← h1, ← h2]
      have := Nat.div_add_mod n c
      rw [Nat.mul_comm] at this
      exact this
  · rw [List.getElem?_eq_none (by simp; omega)]
    by_cases he : i * c + j = n
    · rw [if_pos he, if_neg (by omega)]; rfl
    · rw [if_neg he]; rfl
theorem genD_of {r c : Nat} {l : List Int} (h : l.length = r * c) : genD r c (ofD c l) = l := by
  apply List.ext_getElem?
  intro n
  unfold genD
  simp only [List.getElem?_map]
  by_cases hn : n < r * c
  · rw [List.getElem?_range hn, List.getElem?_eq_getElem (by omega)]
    simp only [Option.map_some, ofD]
    have := Nat.div_add_mod n c
    rw [Nat.mul_comm] at this
    rw [this, List.getD_eq_getElem?_getD, List.getElem?_eq_getElem (by omega)]
    rfl
  · rw [List.getElem?_eq_none (by simp; omega), List.getElem?_eq_none (by omega)]
    rfl
theorem ofD_gen {r c i j : Nat} (M : Nat → Nat → Int) (hi : i < r) (hj : j < c) : ofD c (genD r c M) i j = M i j := by
  unfold ofD
  rw [List.getD_eq_getElem?_getD, genD_get M hi hj]
  rfl
theorem genD_rep (r c : Nat) (x : Int) : repL (r * c) x = genD r c (fun _ _ => x) := by
  unfold genD repL
  rw [List.map_const', List.length_range]
/-! ### indices as the program computes them -/

theorem idxI {i c j : Nat} (hi : i ≤ 1048576) (hc : c ≤ 1048576) (hj : j ≤ 1048576) : addI .i64 (mulI .i64 (i : Int) (c : Int)) (j : Int) = ((i * c + j : Nat) : Int) := by
  have h1 : i * c ≤ 1048576 * 1048576 := Nat.mul_le_mul hi hc
  have e : (i : Int) * (c : Int) = ((i * c : Nat) : Int) := by norm_cast
  rw [mulI, wrap_id (by omega) (by omega), addI_eq (by omega) (by omega), e]
  omega
theorem mulN {i c : Nat} (hi : i ≤ 1048576) (hc : c ≤ 1048576) : mulI .i64 (i : Int) (c : Int) = ((i * c : Nat) : Int) := by
  have h1 : i * c ≤ 1048576 * 1048576 := Nat.mul_le_mul hi hc
  have e : (i : Int) * (c : Int) = ((i * c : Nat) : Int) := by norm_cast
  rw [mulI, wrap_id (by omega) (by omega), e]
theorem getI_gen {r c i j : Nat} (M : Nat → Nat → Int) (hi : i < r) (hj : j < c) : getI (genD r c M) ((i * c + j : Nat) : Int) = some (M i j) := by rw [getI_nat, genD_get M hi hj]
theorem chkI_gen {r c i j : Nat} (M : Nat → Nat → Int) (hi : i < r) (hj : j < c) : chkI ((i * c + j : Nat) : Int) (lenN (genD r c M)) = some (i * c + j) := chkI_nat (by unfold lenN; rw [genD_len]; exact idx_lt hi hj)
theorem getN_gen {r c i j : Nat} (M : Nat → Nat → Int) (hi : i < r) (hj : j < c) : getN (genD r c M) (i * c + j) = some (M i j) := genD_get M hi hj
theorem setL_gen {r c i j : Nat} (M : Nat → Nat → Int) (hj : j < c) (x : Int) : setL (genD r c M) (i * c + j) x = genD r c (updM M i j x) := genD_set M hj x
theorem lenN_gen (r c : Nat) (M : Nat → Nat → Int) : lenN (genD r c M) = r * c := genD_len r c M
theorem fulI_gen (r c : Nat) (M M' : Nat → Nat → Int) : fulI 0 (lenN (genD r c M)) (lenN (genD r c M')) = some () := by rw [lenN_gen, lenN_gen]; exact fulI_id _
theorem remN {a p : Int} (ha : 0 ≤ a) (hp : 0 < p) : remI a p = some (a % p) := by
  unfold remI
  rw [if_neg (by omega), Int.tmod_eq_emod_of_nonneg ha]
theorem ltN_t {i n : Nat} (h : i < n) : ltI (i : Int) (n : Int) = true := ltI_t (by omega)
theorem ltN_f {i n : Nat} (h : n ≤ i) : ltI (i : Int) (n : Int) = false := ltI_f (by omega)
theorem addN1 {i : Nat} (h : i ≤ 1048577) : addI .i64 (i : Int) 1 = ((i + 1 : Nat) : Int) := by rw [addI_eq (by omega) (by omega)]; omega

/-- Products modulo p. -/
def pOk (p : Int) : Prop := 2 ≤ p ∧ p ≤ 1000003
instance (p : Int) : Decidable (pOk p) := inferInstanceAs (Decidable (2 ≤ p ∧ p ≤ 1000003))
def inP (p x : Int) : Prop := 0 ≤ x ∧ x < p
instance (p x : Int) : Decidable (inP p x) := inferInstanceAs (Decidable (0 ≤ x ∧ x < p))

theorem emod_in {p : Int} (hp : pOk p) (a : Int) : inP p (a % p) := ⟨Int.emod_nonneg _ (by have := hp.1; omega), Int.emod_lt_of_pos _ (by have := hp.1; omega)⟩
theorem inP.le {p x : Int} (h : inP p x) : 0 ≤ x ∧ x ≤ p := ⟨h.1, Int.le_of_lt h.2⟩
theorem inP.s {p x : Int} (hp : pOk p) (h : inP p x) : 0 ≤ x ∧ x ≤ 1000003000000 := ⟨h.1, by have := h.2; have := hp.2; omega⟩
theorem prod_in {p a b : Int} (hp : pOk p) (ha : 0 ≤ a ∧ a ≤ p) (hb : 0 ≤ b ∧ b ≤ p) : 0 ≤ a * b ∧ a * b ≤ 1000006000009 := by
  refine ⟨Int.mul_nonneg ha.1 hb.1, ?_⟩
  have h1 := hp.2
  have := Int.mul_le_mul (show a ≤ 1000003 by omega) (show b ≤ 1000003 by omega) hb.1 (by omega)
  omega
theorem mulI_in {p a b : Int} (hp : pOk p) (ha : 0 ≤ a ∧ a ≤ p) (hb : 0 ≤ b ∧ b ≤ p) : mulI .i64 a b = a * b := by
  have := prod_in hp ha hb
  exact wrap_id (by omega) (by omega)
theorem macI {p s a b : Int} (hp : pOk p) (hs : 0 ≤ s ∧ s ≤ 1000003000000) (ha : 0 ≤ a ∧ a ≤ p) (hb : 0 ≤ b ∧ b ≤ p) : remI (addI .i64 s (mulI .i64 a b)) p = some ((s + a * b) % p) := by
  have h := prod_in hp ha hb
  rw [mulI_in hp ha hb, addI_eq (by omega) (by omega), remN (by omega) (by have := hp.1; omega)]
def dotF (p : Int) (f g : Nat → Int) : Nat → Int
  | 0 => 0
  | n + 1 => (dotF p f g n + f n * g n) % p

theorem dotF_in {p : Int} (hp : pOk p) (f g : Nat → Int) : ∀ n, inP p (dotF p f g n)
  | 0 => ⟨Int.le_refl _, by have := hp.1; show (0 : Int) < p; omega⟩
  | n + 1 => emod_in hp _

def mulF (p : Int) (k : Nat) (A B : Nat → Nat → Int) : Nat → Nat → Int := fun i j => dotF p (fun t => A i t) (fun t => B t j) k

/-- All of a matrix's elements are modulo p. -/
def inM (p : Int) (r c : Nat) (M : Nat → Nat → Int) : Prop := ∀ i, i < r → ∀ j, j < c → inP p (M i j)

def allP (p : Int) (l : List Int) : Prop := ∀ x ∈ l, inP p x
instance (p : Int) (l : List Int) : Decidable (allP p l) := inferInstanceAs (Decidable (∀ x ∈ l, inP p x))

theorem allP_gen {p : Int} {r c : Nat} {M : Nat → Nat → Int} : allP p (genD r c M) ↔ inM p r c M := by
  constructor
  · intro h i hi j hj
    exact h _ (List.mem_of_getElem? (genD_get M hi hj))
  · intro h x hx
    unfold genD at hx
    obtain ⟨n, hn, rfl⟩ := List.mem_map.1 hx
    have hn := List.mem_range.1 hn
    have hc : 0 < c := by
      rcases Nat.eq_zero_or_pos c with h | h
      · subst h; simp at hn
      · exact h
    exact h _ ((Nat.div_lt_iff_lt_mul hc).2 hn) _ (Nat.mod_lt _ hc)

/-- A matrix as the program has it. -/
def mOk (x : Int × Int × List Int) : Prop := (0 ≤ x.1 ∧ x.1 ≤ 4096) ∧ (0 ≤ x.2.1 ∧ x.2.1 ≤ 4096) ∧ (x.2.2.length : Int) = x.1 * x.2.1 ∧ x.2.2.length ≤ 1048576
instance (x : Int × Int × List Int) : Decidable (mOk x) := by unfold mOk; infer_instance

/-- What a matrix is. -/
theorem mOk_gen {x : Int × Int × List Int} (h : mOk x) : ∃ (r c : Nat) (M : Nat → Nat → Int), x = ((r : Int), (c : Int), genD r c M) ∧ r ≤ 4096 ∧ c ≤ 4096 ∧ r * c ≤ 1048576 := by
  obtain ⟨r, c, l⟩ := x
  obtain ⟨h1, h2, h3, h4⟩ := h
  simp only at h1 h2 h3 h4
  obtain ⟨r, rfl⟩ := natI_eq h1.1
  obtain ⟨c, rfl⟩ := natI_eq h2.1
  have e : l.length = r * c := by
    have : ((r : Int) * (c : Int)) = ((r * c : Nat) : Int) := by norm_cast
    rw [this] at h3; exact_mod_cast h3
  exact ⟨r, c, ofD c l, by rw [genD_of e], by omega, by omega, by omega⟩

theorem mOk_mk {r c : Nat} (M : Nat → Nat → Int) (hr : r ≤ 4096) (hc : c ≤ 4096) (h : r * c ≤ 1048576) : mOk ((r : Int), (c : Int), genD r c M) := by
  refine ⟨⟨by omega, by show (r : Int) ≤ 4096; omega⟩, ⟨by show (0 : Int) ≤ c; omega, by show (c : Int) ≤ 4096; omega⟩, ?_, ?_⟩
  · simp only [genD_len]; norm_cast
  · simp only [genD_len]; exact h

end Go.Am
end
section
namespace Go.Am
def F_spec_l01In : Int × Int × Int → Option Bool := fun ((a, b, c) : Int × Int × Int) => some (decide (b ≤ a ∧ a ≤ c))
def ag_spec_l01In : Sig := [(.one, [.int .i64]), (.one, [.int .i64]), (.one, [.int .i64])]
def rs_spec_l01In : Sig := [(.one, [.bool])]
def mu_spec_l01In : MSig := []
def G_spec_l01In (NN : Nat) : (Int × (Int × Int)) → (Option Bool) :=
 (fun ((i0, i1, i2) : (Int × (Int × Int))) =>
 cnd (leI i1 i0)
 (some (leI i0 i2))
 (some false))

theorem f_spec_l01In (x : Int × Int × Int) (y : Bool) (h : F_spec_l01In x = some y) : G_spec_l01In FUEL x = some y := by
  obtain ⟨a, b, c⟩ := x
  rw [← h]
  simp only [F_spec_l01In, G_spec_l01In, leI]
  by_cases hc : b ≤ a <;> simp [hc, cnd]

end Go.Am
end
section
namespace Go.Am

/-! ### primes, rows, matrices, automata -/

def divAt (n : Int) (i : Nat) : Bool := decide ((i : Int) * i ≤ n) && decide (n % (i : Int) = 0)
def isPrimeI (n : Int) : Bool := decide (2 ≤ n ∧ n ≤ 1000003) && !((List.range' 2 999).any (divAt n))
def F_spec_IsPrime : Int → Option Bool := fun (n : Int) => some (isPrimeI n)
def F_impl_IsPrime : Int → Option Bool := fun (n : Int) => some (isPrimeI n)
def inB (m : Int) (v : Int) : Bool := decide (0 ≤ v ∧ v < m)
def rowOk (m : Int) (l : List Int) : Bool := l.all (inB m)
def F_impl_inMod : Int × List Int → Option Bool := fun ((m, l) : Int × List Int) => if l.length ≤ 1048576 then some (rowOk m l) else none
def ag_spec_IsPrime : Sig := [(.one, [.int .i64])]
def rs_spec_IsPrime : Sig := [(.one, [.bool])]
def mu_spec_IsPrime : MSig := []
def ag_impl_IsPrime : Sig := [(.one, [.int .i64])]
def rs_impl_IsPrime : Sig := [(.one, [.bool])]
def mu_impl_IsPrime : MSig := []
def ag_impl_inMod : Sig := [(.one, [.int .i64]), (.one, [.list [.int .i64]])]
def rs_impl_inMod : Sig := [(.one, [.bool])]
def mu_impl_inMod : MSig := []
def G_spec_IsPrime (NN : Nat) : Int → (Option Bool) :=
 (fun (i0 : Int) =>
 joinK (loopT NN (fun ((i1, i2) : (Int × Int)) =>
 cnd (leI (mulI .i64 i2 i2) i1)
 (cnd (leI i1 (1000003 : Int))
 ((remI i1 i2).bnd (fun (i3 : Int) =>
 cnd (eqI i3 (0 : Int))
 (some (Sum.inr (Sum.inr false)))
 (some (Sum.inl (i1, addI .i64 i2 (1 : Int))))))
 (some (Sum.inr (Sum.inl i1))))
 (some (Sum.inr (Sum.inl i1))))
 (i0, (2 : Int)))
 (fun (i4 : Int) =>
 (F_spec_l01In (i4, (2 : Int), (1000003 : Int))).bnd (fun (b5 : Bool) =>
 some b5)))

def G_impl_IsPrime (NN : Nat) : Int → (Option Bool) :=
 (fun (i0 : Int) =>
 cnd (ltI i0 (2 : Int))
 (some false)
 (cnd (ltI (1000003 : Int) i0)
 (some false)
 (joinK (loopT NN (fun ((i1, i2) : (Int × Int)) =>
 cnd (leI (mulI .i64 i2 i2) i1)
 ((remI i1 i2).bnd (fun (i3 : Int) =>
 cnd (eqI i3 (0 : Int))
 (some (Sum.inr (Sum.inr false)))
 (some (Sum.inl (i1, addI .i64 i2 (1 : Int))))))
 (some (Sum.inr (Sum.inl ()))))
 (i0, (2 : Int)))
 (fun (_ : Unit) =>
 some true))))

def G_impl_inMod (NN : Nat) : (Int × (List Int)) → (Option Bool) :=
 (fun ((i0, l1) : (Int × (List Int))) =>
 joinK (loopT NN (fun ((i2, l3, i4, i5) : (Int × ((List Int) × (Int × Int)))) =>
 cnd (ltI i5 i4)
 ((getI l3 i5).bnd (fun (i6 : Int) =>
 cnd (ltI i6 (0 : Int))
 (some (Sum.inr (Sum.inr false)))
 (cnd (leI i2 i6)
 (some (Sum.inr (Sum.inr false)))
 (some (Sum.inl (i2, l3, i4, addI .i64 i5 (1 : Int)))))))
 (some (Sum.inr (Sum.inl ()))))
 (i0, l1, natI (lenN l1), (0 : Int)))
 (fun (_ : Unit) =>
 some true))

theorem mulI_eq {a b : Int} (h1 : -9223372036854775808 ≤ a * b) (h2 : a * b ≤ 9223372036854775807) : mulI .i64 a b = a * b := wrap_id h1 h2
theorem remI_nat {n : Int} {i : Nat} (hn : 0 ≤ n) (hi : 0 < i) : remI n (i : Int) = some (n % (i : Int)) := by
  unfold remI
  rw [if_neg (by omega), Int.tmod_eq_emod_of_nonneg hn]

theorem sq_le {i j : Nat} (h : i ≤ j) : (i : Int) * i ≤ (j : Int) * j := by
  have := Nat.mul_le_mul h h
  exact_mod_cast this

/-- The search for a divisor. -/
theorem div_loop {X Y : Type} {f : X → Option (X ⊕ (Y ⊕ Bool))} (n : Int) (mk : Nat → X) (r : Y) (hn : n ≤ 1000003)
    (h1 : ∀ i : Nat, 2 ≤ i → i ≤ 1001 → (i : Int) * i ≤ n → n % (i : Int) = 0 → f (mk i) = some (.inr (.inr false)))
    (h2 : ∀ i : Nat, 2 ≤ i → i ≤ 1001 → (i : Int) * i ≤ n → n % (i : Int) ≠ 0 → f (mk i) = some (.inl (mk (i + 1))))
    (h3 : ∀ i : Nat, 2 ≤ i → i ≤ 1001 → ¬ (i : Int) * i ≤ n → f (mk i) = some (.inr (.inl r))) {x0 : X} (hx : x0 = mk 2) :
    loopT FUEL f x0 = some (if (List.range' 2 999).any (divAt n) = true then .inr false else .inl r) := by
  subst hx
  have key : ∀ (d i : Nat), 2 ≤ i → i + d = 1001 → ∀ N, d < N → loopT N f (mk i) = some (if (List.range' i d).any (divAt n) = true then .inr false else .inl r) := by
    intro d
    induction d with
    | zero =>
      intro i hi hd N hN
      obtain ⟨N, rfl⟩ : ∃ M, N = M + 1 := ⟨N - 1, by omega⟩
      have : i = 1001 := by omega
      subst this
      rw [loopT, h3 1001 (by omega) (by omega) (by omega)]
      rfl
    | succ d ih =>
      intro i hi hd N hN
      obtain ⟨N, rfl⟩ : ∃ M, N = M + 1 := ⟨N - 1, by omega⟩
      rw [List.range'_succ, List.any_cons]
      by_cases hle : (i : Int) * i ≤ n
      · by_cases hm : n % (i : Int) = 0
        · rw [loopT, h1 i hi (by omega) hle hm]
          simp [divAt, hle, hm]
        · rw [loopT, h2 i hi (by omega) hle hm]
          simp only
          rw [ih (i + 1) (by omega) (by omega) N (by omega), show divAt n i = false by simp [divAt, hm], Bool.false_or]
      · rw [loopT, h3 i hi (by omega) hle]
        have : (List.range' (i + 1) d).any (divAt n) = false := by
          rw [List.any_eq_false]
          intro j hj
          have := (List.mem_range'_1.1 hj).1
          have := sq_le (show i ≤ j by omega)
          simp only [divAt, Bool.and_eq_true, decide_eq_true_eq, not_and]
          intro h; omega
        simp only
        rw [this]
        simp [divAt, hle]
  exact key 999 2 (by omega) (by omega) FUEL (FUEL_gt (by omega))

theorem sq_le1001 {i : Nat} (h : i ≤ 1001) : 0 ≤ (i : Int) * i ∧ (i : Int) * i ≤ 1002001 := by
  have h1 := sq_le h
  have h0 := sq_le (Nat.zero_le i)
  omega

theorem f_spec_IsPrime (x : Int) (y : Bool) (h : F_spec_IsPrime x = some y) : G_spec_IsPrime FUEL x = some y := by
  rw [← h]
  simp only [F_spec_IsPrime, G_spec_IsPrime]
  by_cases hx : x ≤ 1000003
  · rw [div_loop x (fun i => (x, (i : Int))) x hx ?_ ?_ ?_ ?_]
    · by_cases hd : (List.range' 2 999).any (divAt x) = true
      · rw [if_pos hd, joinK_r, isPrimeI, hd]
        simp
      · rw [if_neg hd, joinK_l, isPrimeI]
        simp only [F_spec_l01In, bnd_s]
        simp [hd]
    all_goals try simp only
    · intro i h2 hi hle hm
      have hs := sq_le1001 hi
      rw [mulI_eq (by omega) (by omega), cnd_t (leI_t hle), cnd_t (leI_t hx), remI_nat (by omega) (by omega), bnd_s, cnd_t (eqI_t hm)]
    · intro i h2 hi hle hm
      have hs := sq_le1001 hi
      rw [mulI_eq (by omega) (by omega), cnd_t (leI_t hle), cnd_t (leI_t hx), remI_nat (by omega) (by omega), bnd_s, cnd_f (eqI_f hm), addI_eq (by omega) (by omega)]
      rfl
    · intro i h2 hi hle
      have hs := sq_le1001 hi
      rw [mulI_eq (by omega) (by omega), cnd_f (leI_f (by omega))]
    · rfl
  · rw [loopT_seq (fun i => (x, (i : Int) + 2)) (r := Sum.inl x) 0 (fun j hj => by omega) ?_ ?_ (FUEL_gt (by omega))]
    · rw [joinK_l, isPrimeI]
      simp only [F_spec_l01In, bnd_s]
      have : ¬ (2 ≤ x ∧ x ≤ 1000003) := by omega
      simp [this]
    · simp only
      rw [cnd_t (leI_t (by rw [mulI_eq (by omega) (by omega)]; omega)), cnd_f (leI_f (by omega))]
    · rfl

theorem f_impl_IsPrime (x : Int) (y : Bool) (h : F_impl_IsPrime x = some y) : G_impl_IsPrime FUEL x = some y := by
  rw [← h]
  simp only [F_impl_IsPrime, G_impl_IsPrime]
  by_cases h2 : x < 2
  · rw [cnd_t (ltI_t h2), isPrimeI, decide_eq_false (by omega)]; rfl
  rw [cnd_f (ltI_f (by omega))]
  by_cases hx : 1000003 < x
  · rw [cnd_t (ltI_t hx), isPrimeI, decide_eq_false (by omega)]; rfl
  rw [cnd_f (ltI_f (by omega))]
  rw [div_loop x (fun i => (x, (i : Int))) () (by omega) ?_ ?_ ?_ ?_]
  · have hr : (2 ≤ x ∧ x ≤ 1000003) := by omega
    by_cases hd : (List.range' 2 999).any (divAt x) = true
    · rw [if_pos hd, joinK_r, isPrimeI, hd]
      simp
    · rw [if_neg hd, joinK_l, isPrimeI]
      simp [hd, hr]
  all_goals try simp only
  · intro i h2 hi hle hm
    have hs := sq_le1001 hi
    rw [mulI_eq (by omega) (by omega), cnd_t (leI_t hle), remI_nat (by omega) (by omega), bnd_s, cnd_t (eqI_t hm)]
  · intro i h2 hi hle hm
    have hs := sq_le1001 hi
    rw [mulI_eq (by omega) (by omega), cnd_t (leI_t hle), remI_nat (by omega) (by omega), bnd_s, cnd_f (eqI_f hm), addI_eq (by omega) (by omega)]
    rfl
  · intro i h2 hi hle
    have hs := sq_le1001 hi
    rw [mulI_eq (by omega) (by omega), cnd_f (leI_f (by omega))]
  · rfl

theorem f_impl_inMod (x : Int × List Int) (y : Bool) (h : F_impl_inMod x = some y) : G_impl_inMod FUEL x = some y := by
  obtain ⟨m, l⟩ := x
  simp only [F_impl_inMod] at h
  split at h
  · rename_i hl
    rw [← h]
    simp only [G_impl_inMod]
    rw [loopT_all (mk := fun i => (m, l, natI (lenN l), (i : Int))) l (inB m) (Sum.inr false) (Sum.inl ()) ?_ ?_ ?_ ?_ (FUEL_gt (by omega))]
    · unfold rowOk
      cases l.all (inB m) <;> rfl
    all_goals try simp only
    · intro i a ha hp
      have hp := of_decide_eq_true hp
      rw [cnd_t (ltI_in ha), getI_nat, ha, bnd_s, cnd_f (ltI_f (by omega)), cnd_f (leI_f (by omega)), next_i ha (by omega)]
    · intro i a ha hp
      have hp := of_decide_eq_false hp
      rw [cnd_t (ltI_in ha), getI_nat, ha, bnd_s]
      by_cases h0 : a < 0
      · rw [cnd_t (ltI_t h0)]
      · rw [cnd_f (ltI_f (by omega)), cnd_t (leI_t (by omega))]
    · rw [cnd_f (ltI_end l)]
    · rfl
  · cases h

theorem isPrimeI_t {m : Int} (h : isPrimeI m = true) : 2 ≤ m ∧ m ≤ 1000003 := by
  simp only [isPrimeI, Bool.and_eq_true, decide_eq_true_eq] at h
  exact h.1

end Go.Am
end
section
namespace Go.Am
/-! ### products of dimensions -/

def prodI : List Int → Int
  | [] => 1
  | x :: l => x * prodI l
def capStep (lim : Int) (_ : Nat) (a x : Int) : Int := min (a * x) (lim + 1)
def capProd (lim : Int) (l : List Int) : Int := foldN (capStep lim) 0 1 l
def smallB (x : Int) : Bool := decide (0 ≤ x ∧ x ≤ 1048576)
def F_spec_l05Product : List Int × Int → Option Int := fun ((l, lim) : List Int × Int) => if (0 ≤ lim ∧ lim ≤ 1048576) ∧ l.length ≤ 1048576 ∧ l.all smallB = true then some (capProd lim l) else none
def ag_spec_l05Product : Sig := [(.one, [.list [.int .i64]]), (.one, [.int .i64])]
def rs_spec_l05Product : Sig := [(.one, [.int .i64])]
def mu_spec_l05Product : MSig := []

def G_spec_l05Product (NN : Nat) : ((List Int) × Int) → (Option Int) :=
 (fun ((l0, i1) : ((List Int) × Int)) =>
 joinK (loopT NN (fun ((i2, i3, l4, i5, i6) : (Int × (Int × ((List Int) × (Int × Int))))) =>
 cnd (ltI i6 i5)
 ((getI l4 i6).bnd (fun (i7 : Int) =>
 some (Sum.inl (i2, minI (mulI .i64 i3 i7) (addI .i64 i2 (1 : Int)), l4, i5, addI .i64 i6 (1 : Int)))))
 (some (Sum.inr (Sum.inl i3))))
 (i1, (1 : Int), l0, natI (lenN l0), (0 : Int)))
 (fun (i8 : Int) =>
 some i8))



theorem mul_bd {a x A B : Int} (h0 : 0 ≤ a) (h1 : a ≤ A) (h2 : 0 ≤ x) (h3 : x ≤ B) : 0 ≤ a * x ∧ a * x ≤ A * B :=
  ⟨Int.mul_nonneg h0 h2, Int.mul_le_mul h1 h3 h2 (by omega)⟩

theorem f_spec_l05Product (x : List Int × Int) (y : Int) (h : F_spec_l05Product x = some y) : G_spec_l05Product FUEL x = some y := by
  obtain ⟨l, lim⟩ := x
  simp only [F_spec_l05Product] at h
  split at h
  · rename_i hc
    obtain ⟨hlim, hl, hs⟩ := hc
    rw [← h]
    simp only [G_spec_l05Product]
    rw [loopT_foldN l (fun (a : Int) i => (lim, a, l, natI (lenN l), (i : Int))) (fun _ a => 0 ≤ a ∧ a ≤ lim + 1) (capStep lim) (fun a => Sum.inl a) ?_ ?_ (s := 1) ⟨by omega, by omega⟩ ?_ (FUEL_gt (by omega))]
    · rfl
    all_goals try simp only
    · intro i a x hx ha
      have hxs := of_decide_eq_true (List.all_eq_true.1 hs x (List.mem_of_getElem? hx))
      obtain ⟨b1, b2⟩ := mul_bd ha.1 (show a ≤ 1048577 by omega) hxs.1 hxs.2
      rw [cnd_t (ltI_in hx), getI_nat, hx, bnd_s, mulI_eq (by omega) (by omega), addI_eq (a := lim) (by omega) (by omega), minI_eq', next_i hx (by omega)]
      refine ⟨rfl, ?_⟩
      unfold capStep
      omega
    · intro a _
      rw [cnd_f (ltI_end l)]
    · rfl
  · cases h

theorem prodI_pos : ∀ {l : List Int}, (∀ x ∈ l, 1 ≤ x) → 1 ≤ prodI l
  | [], _ => by simp [prodI]
  | x :: l, h => by
    have h1 := h x List.mem_cons_self
    have h2 := prodI_pos (l := l) (fun x hx => h x (List.mem_cons_of_mem _ hx))
    have := Int.mul_le_mul h1 h2 (by omega) (by omega)
    simpa [prodI] using this

theorem capProd_go {lim : Int} (hlim : 0 ≤ lim) : ∀ (l : List Int) (i : Nat) (a : Int), (∀ x ∈ l, 1 ≤ x) → 1 ≤ a → a ≤ lim + 1 → foldN (capStep lim) i a l = min (a * prodI l) (lim + 1)
  | [], i, a, _, _, h2 => by simp only [foldN, prodI, Int.mul_one]; omega
  | x :: l, i, a, h, h1, h2 => by
    have hx := h x List.mem_cons_self
    have hp := prodI_pos (l := l) (fun x hx => h x (List.mem_cons_of_mem _ hx))
    have hax := Int.mul_le_mul h1 hx (by omega) (by omega)
    rw [foldN, capProd_go hlim l (i + 1) _ (fun x hx => h x (List.mem_cons_of_mem _ hx)) (by unfold capStep; omega) (by unfold capStep; omega), prodI, ← Int.mul_assoc]
    unfold capStep
    generalize a * x = c at *
    by_cases hc : c ≤ lim + 1
    · rw [Int.min_eq_left hc]
    · have e : min c (lim + 1) = lim + 1 := by omega
      rw [e]
      have k1 := Int.mul_le_mul_of_nonneg_left hp (show 0 ≤ lim + 1 by omega)
      have k2 := Int.mul_le_mul_of_nonneg_left hp (show 0 ≤ c by omega)
      omega

theorem capProd_le {lim : Int} (hlim : 0 ≤ lim) {l : List Int} (h : ∀ x ∈ l, 1 ≤ x) : leI (capProd lim l) lim = decide (prodI l ≤ lim) := by
  unfold leI capProd
  rw [capProd_go hlim l 0 1 h (by omega) (by omega), Int.one_mul]
  by_cases hp : prodI l ≤ lim
  · rw [decide_eq_true hp, decide_eq_true (by omega)]
  · rw [decide_eq_false hp, decide_eq_false (by omega)]

end Go.Am
end
section
namespace Go.Am
/-! ### sizes of tensors, charges -/

def axP (L D : List Int) (j : Nat) : Prop := (0 ≤ L.getD j 0 ∧ L.getD j 0 ≤ 99) ∧ (1 ≤ D.getD j 0 ∧ D.getD j 0 ≤ 8) ∧ L.getD j 0 ∉ L.take j
instance (L D : List Int) (j : Nat) : Decidable (axP L D j) := by unfold axP; infer_instance
def chP (m : Int) (D : List Int) (R : List (List Int)) (j : Nat) : Prop := ((R.getD j []).length : Int) = D.getD j 0 ∧ rowOk m (R.getD j []) = true
instance (m : Int) (D : List Int) (R : List (List Int)) (j : Nat) : Decidable (chP m D R j) := by unfold chP; infer_instance
def chDom (x : (List Int × List Int × List Int) × Int × List (List Int)) : Prop := (x.1.1.length ≤ 1048576 ∧ x.1.2.1.length ≤ 1048576) ∧ x.2.2.length ≤ 1048576 ∧ ∀ l ∈ x.2.2, l.length ≤ 1048576
instance (x : (List Int × List Int × List Int) × Int × List (List Int)) : Decidable (chDom x) := by unfold chDom; infer_instance
theorem stop_ex' (P : Nat → Prop) [DecidablePred P] : ∀ c : Nat, ∃ n, n ≤ c ∧ (∀ j, j < n → P j) ∧ (n = c ∨ ¬ P n)
  | 0 => ⟨0, Nat.le_refl 0, fun j hj => absurd hj (Nat.not_lt_zero j), .inl rfl⟩
  | c + 1 => by
    obtain ⟨n, h1, h2, h3⟩ := stop_ex' P c
    by_cases h : P n
    · rcases h3 with h3 | h3
      · subst h3
        refine ⟨n + 1, Nat.le_refl _, fun j hj => ?_, .inl rfl⟩
        by_cases hj' : j = n
        · subst hj'; exact h
        · exact h2 j (by omega)
      · exact absurd h h3
    · exact ⟨n, by omega, h2, .inr h⟩
theorem getD_some {α : Type} {l : List α} {j : Nat} (d : α) (h : j < l.length) : l[j]? = some (l.getD j d) := by
  simp [List.getD, h]
theorem ltL_t {α : Type} {l : List α} {j : Nat} (h : j < l.length) : ltI (j : Int) (natI (lenN l)) = true := ltN_t h

def axQ (L D : List Int) (j : Nat) : Prop := axP L D j ∧ prodI (D.take (j + 1)) ≤ 4096
instance (L D : List Int) (j : Nat) : Decidable (axQ L D j) := by unfold axQ; infer_instance

end Go.Am
end
section
namespace Go.Am

/-! ### chains -/

def siteOk (m : Int) (s : Int × Int × Int × List Int) : Bool := decide (0 ≤ s.1 ∧ s.1 ≤ 32) && (decide (0 ≤ s.2.2.1 ∧ s.2.2.1 ≤ 32) && (decide (1 ≤ s.2.1 ∧ s.2.1 ≤ 8) && (decide ((s.2.2.2.length : Int) = s.1 * s.2.1 * s.2.2.1) && rowOk m s.2.2.2)))
def chStep (m : Int) (_ : Nat) (b : Int) (s : Int × Int × Int × List Int) : Option Int := if siteOk m s = true ∧ s.1 = b then some s.2.2.1 else none
def chStep2 (m : Int) (_ : Nat) (st : Int × Int) (s : Int × Int × Int × List Int) : Option (Int × Int) := if siteOk m s = true ∧ s.1 = st.1 then some (s.2.2.1, st.2 * s.2.1) else none
def dimsOf (l : List (Int × Int × Int × List Int)) : List Int := l.map fun s => s.2.1
def chainOk (x : Int × List (Int × Int × Int × List Int)) : Bool := match x with
  | (m, l) => isPrimeI m && (decide (1 ≤ l.length ∧ l.length ≤ 8) && (match foldO (chStep m) 0 1 l with
    | some b => decide (b = 1) && decide (prodI (dimsOf l) ≤ 4096)
    | none => false))
def F_spec_l32Dims : Int × List (Int × Int × Int × List Int) → Option (List Int) := fun ((m, l) : Int × List (Int × Int × Int × List Int)) => if l.length ≤ 1048576 then some (dimsOf l) else none
def F_impl_siteOk : Int × Int × Int × Int × List Int → Option Bool := fun ((m, s) : Int × Int × Int × Int × List Int) => if sz_Site s ≤ 1048576 then some (siteOk m s) else none
def F_spec_ChainOk : Int × List (Int × Int × Int × List Int) → Option Bool := fun x => if sz_Chain x ≤ 1048576 then some (chainOk x) else none
def F_impl_ChainOk : Int × List (Int × Int × Int × List Int) → Option Bool := fun x => if sz_Chain x ≤ 1048576 then some (chainOk x) else none


def ag_spec_l32Dims : Sig := [(.agg, [.int .i64, .list [.int .i64, .int .i64, .int .i64, .list [.int .i64]]])]
def rs_spec_l32Dims : Sig := [(.one, [.list [.int .i64]])]
def mu_spec_l32Dims : MSig := []
def ag_spec_ChainOk : Sig := [(.agg, [.int .i64, .list [.int .i64, .int .i64, .int .i64, .list [.int .i64]]])]
def rs_spec_ChainOk : Sig := [(.one, [.bool])]
def mu_spec_ChainOk : MSig := []
def ag_impl_siteOk : Sig := [(.one, [.int .i64]), (.agg, [.int .i64, .int .i64, .int .i64, .list [.int .i64]])]
def rs_impl_siteOk : Sig := [(.one, [.bool])]
def mu_impl_siteOk : MSig := []
def ag_impl_ChainOk : Sig := [(.agg, [.int .i64, .list [.int .i64, .int .i64, .int .i64, .list [.int .i64]]])]
def rs_impl_ChainOk : Sig := [(.one, [.bool])]
def mu_impl_ChainOk : MSig := []

def G_spec_l32Dims (NN : Nat) : (Int × (List (Int × (Int × (Int × (List Int)))))) → (Option (List Int)) :=
 (fun ((i0, l1) : (Int × (List (Int × (Int × (Int × (List Int))))))) =>
 joinK ((fulI 0 0 (lenN (([] : List Int)))).bnd (fun (_ : Unit) =>
 loopT NN (fun (((l2, i3, i4), l5) : (((List (Int × (Int × (Int × (List Int))))) × (Int × Int)) × (List Int))) =>
 cnd (ltI i4 i3)
 ((getI l2 i4).bnd (fun ((i6, i7, i8, l9) : (Int × (Int × (Int × (List Int))))) =>
 (fulI 0 (lenN l5) (lenN l5)).bnd (fun (_ : Unit) =>
 (winI ((i7 :: ([] : List Int))) 0 1).bnd (fun (l10 : (List Int)) =>
 (fitI (addN (lenN l5) (lenN l10)) 8).bnd (fun (_ : Unit) =>
 (fulI 0 (addN (lenN l5) (lenN l10)) (lenN (appL l5 l10))).bnd (fun (_ : Unit) =>
 some (Sum.inl ((l2, i3, addI .i64 i4 (1 : Int)), appL l5 l10))))))))
 (((fulI 0 (lenN l5) (lenN l5)).bnd (fun (_ : Unit) =>
 some (Sum.inl l5))).bnd (fun (l11 : ((List Int) ⊕ (List Int))) =>
 some (Sum.inr l11))))
 ((l1, natI (lenN l1), (0 : Int)), ([] : List Int))))
 (fun (l12 : (List Int)) =>
 (takI l12 (lenN l12)).bnd (fun (l13 : (List Int)) =>
 some l13)))


def G_spec_ChainOk (NN : Nat) : (Int × (List (Int × (Int × (Int × (List Int)))))) → (Option Bool) :=
 (fun ((i0, l1) : (Int × (List (Int × (Int × (Int × (List Int))))))) =>
 (F_spec_IsPrime i0).bnd (fun (b2 : Bool) =>
 cnd (notB b2)
 (some false)
 ((F_spec_l01In (natI (lenN l1), (1 : Int), (8 : Int))).bnd (fun (b3 : Bool) =>
 cnd (notB b3)
 (some false)
 (joinK (loopT NN (fun (((i4, l5, i6, i7), i8, l9) : ((Int × ((List (Int × (Int × (Int × (List Int))))) × (Int × Int))) × (Int × (List (Int × (Int × (Int × (List Int)))))))) =>
 cnd (ltI i7 i6)
 (joinK ((getI l5 i7).bnd (fun ((i10, i11, i12, l13) : (Int × (Int × (Int × (List Int))))) =>
 cnd (neI i10 i4)
 (some (Sum.inr (Sum.inr (Sum.inr false))))
 ((F_spec_l01In (i11, (1 : Int), (8 : Int))).bnd (fun (b14 : Bool) =>
 cnd (notB b14)
 (some (Sum.inr (Sum.inr (Sum.inr false))))
 ((F_spec_l01In (i12, (0 : Int), (32 : Int))).bnd (fun (b15 : Bool) =>
 cnd (notB b15)
 (some (Sum.inr (Sum.inr (Sum.inr false))))
 (cnd (neI (natI (lenN l13)) (mulI .i64 (mulI .i64 i10 i11) i12))
 (some (Sum.inr (Sum.inr (Sum.inr false))))
 (joinK (loopT NN (fun (((l16, i17, i18, l19, i20, i21), (i22, l23), i24, i25, i26, l27) : (((List (Int × (Int × (Int × (List Int))))) × (Int × (Int × ((List Int) × (Int × Int))))) × ((Int × (List (Int × (Int × (Int × (List Int)))))) × (Int × (Int × (Int × (List Int))))))) =>
 cnd (ltI i21 i20)
 ((getI l19 i21).bnd (fun (i28 : Int) =>
 (F_spec_l01In (i28, (0 : Int), subI .i64 i22 (1 : Int))).bnd (fun (b29 : Bool) =>
 cnd (notB b29)
 (some (Sum.inr (Sum.inr (Sum.inr (Sum.inr (Sum.inr false))))))
 (some (Sum.inl ((l16, i17, i18, l19, i20, addI .i64 i21 (1 : Int)), (i22, l23), i24, i25, i26, l27))))))
 (some (Sum.inr (Sum.inl ((i18, l16, i17), (i22, l23), i24, i25, i26, l27)))))
 ((l5, i6, i7, l13, natI (lenN l13), (0 : Int)), (i8, l9), i10, i11, i12, l13))
 (fun (((i30, l31, i32), (i33, l34), i35, i36, i37, l38) : ((Int × ((List (Int × (Int × (Int × (List Int))))) × Int)) × ((Int × (List (Int × (Int × (Int × (List Int)))))) × (Int × (Int × (Int × (List Int))))))) =>
 some (Sum.inl ((i30, i37, l31, i32), i33, l34)))))))))))
 (fun (((i39, i40, l41, i42), i43, l44) : ((Int × (Int × ((List (Int × (Int × (Int × (List Int))))) × Int))) × (Int × (List (Int × (Int × (Int × (List Int)))))))) =>
 some (Sum.inl ((i40, l41, i42, addI .i64 i39 (1 : Int)), i43, l44))))
 (some (Sum.inr (Sum.inl (i4, i8, l9)))))
 (((1 : Int), l1, natI (lenN l1), (0 : Int)), i0, l1))
 (fun ((i45, i46, l47) : (Int × (Int × (List (Int × (Int × (Int × (List Int)))))))) =>
 cnd (eqI i45 (1 : Int))
 ((F_spec_l32Dims (i46, l47)).bnd (fun (l48 : (List Int)) =>
 (winI l48 0 (lenN l48)).bnd (fun (l49 : (List Int)) =>
 (F_spec_l05Product (l49, (4096 : Int))).bnd (fun (i50 : Int) =>
 some (leI i50 (4096 : Int))))))
 (some false)))))))


def G_impl_siteOk (NN : Nat) : (Int × (Int × (Int × (Int × (List Int))))) → (Option Bool) :=
 (fun ((i0, i1, i2, i3, l4) : (Int × (Int × (Int × (Int × (List Int)))))) =>
 cnd (ltI i1 (0 : Int))
 (some false)
 (cnd (ltI (32 : Int) i1)
 (some false)
 (cnd (ltI i3 (0 : Int))
 (some false)
 (cnd (ltI (32 : Int) i3)
 (some false)
 (cnd (ltI i2 (1 : Int))
 (some false)
 (cnd (ltI (8 : Int) i2)
 (some false)
 (cnd (eqI (natI (lenN l4)) (mulI .i64 (mulI .i64 i1 i2) i3))
 ((F_impl_inMod (i0, l4)).bnd (fun (b5 : Bool) =>
 some b5))
 (some false))))))))


def G_impl_ChainOk (NN : Nat) : (Int × (List (Int × (Int × (Int × (List Int)))))) → (Option Bool) :=
 (fun ((i0, l1) : (Int × (List (Int × (Int × (Int × (List Int))))))) =>
 (F_impl_IsPrime i0).bnd (fun (b2 : Bool) =>
 cnd (notB b2)
 (some false)
 (cnd (ltI (natI (lenN l1)) (1 : Int))
 (some false)
 (cnd (ltI (8 : Int) (natI (lenN l1)))
 (some false)
 (joinK (loopT NN (fun (((i3, i4, l5, i6, i7), i8, l9) : ((Int × (Int × ((List (Int × (Int × (Int × (List Int))))) × (Int × Int)))) × (Int × (List (Int × (Int × (Int × (List Int)))))))) =>
 cnd (ltI i7 i6)
 ((getI l5 i7).bnd (fun ((i10, i11, i12, l13) : (Int × (Int × (Int × (List Int))))) =>
 (F_impl_siteOk (i8, i10, i11, i12, l13)).bnd (fun (b14 : Bool) =>
 cnd (notB b14)
 (some (Sum.inr (Sum.inr false)))
 (cnd (neI i10 i3)
 (some (Sum.inr (Sum.inr false)))
 (some (Sum.inl ((i12, mulI .i64 i4 i11, l5, i6, addI .i64 i7 (1 : Int)), i8, l9)))))))
 (some (Sum.inr (Sum.inl (i3, i4)))))
 (((1 : Int), (1 : Int), l1, natI (lenN l1), (0 : Int)), i0, l1))
 (fun ((i15, i16) : (Int × Int)) =>
 cnd (eqI i15 (1 : Int))
 (some (leI i16 (4096 : Int)))
 (some false)))))))



theorem f_spec_l32Dims (x : Int × List (Int × Int × Int × List Int)) (y : List Int) (h : F_spec_l32Dims x = some y) : G_spec_l32Dims FUEL x = some y := by
  obtain ⟨m, l⟩ := x
  simp only [F_spec_l32Dims] at h
  split at h
  · rename_i hl
    rw [← h]
    simp only [G_spec_l32Dims]
    rw [show fulI 0 0 (lenN ([] : List Int)) = some () from rfl, bnd_s]
    rw [loopT_seq (fun i => ((l, natI (lenN l), (i : Int)), dimsOf (l.take i))) (r := Sum.inl (dimsOf l)) l.length ?_ ?_ ?_ (FUEL_gt (by omega))]
    · rw [joinK_l, takI_id]; rfl
    all_goals try simp only
    · intro j hj
      obtain ⟨⟨a, p, c, d⟩, hs⟩ : ∃ e, l[j]? = some e := ⟨_, List.getElem?_eq_getElem hj⟩
      have e1 : lenN (dimsOf (l.take j)) = j := by simp [lenN, dimsOf]; omega
      have e2 : appL (dimsOf (l.take j)) [p] = dimsOf (l.take (j + 1)) := by simp [appL, dimsOf, List.take_add_one, hs]
      have e3 : fitI (addN j 1) 8 = some () := fitI_ok (by simp only [addN, maxBytes]; omega)
      rw [cnd_t (ltI_in hs), getI_nat, hs, bnd_s]
      simp only [e1, fulI_id, bnd_s, win1, lenN_appL, show lenN [p] = 1 from rfl, e3, next_i hs (by omega), e2]
    · rw [cnd_f (ltI_end l), List.take_length]
      simp only [fulI_id, bnd_s]
    · rfl
  · cases h

theorem f_impl_siteOk (x : Int × Int × Int × Int × List Int) (y : Bool) (h : F_impl_siteOk x = some y) : G_impl_siteOk FUEL x = some y := by
  obtain ⟨m, a, p, c, l⟩ := x
  simp only [F_impl_siteOk] at h
  split at h
  · rename_i hl
    rw [← h]
    have hl : l.length ≤ 1048576 := hl
    simp only [G_impl_siteOk, siteOk]
    by_cases h1 : a < 0
    · rw [cnd_t (ltI_t h1), decide_eq_false (p := 0 ≤ a ∧ a ≤ 32) (by omega)]; rfl
    rw [cnd_f (ltI_f (by omega))]
    by_cases h2 : 32 < a
    · rw [cnd_t (ltI_t h2), decide_eq_false (p := 0 ≤ a ∧ a ≤ 32) (by omega)]; rfl
    rw [cnd_f (ltI_f (by omega)), decide_eq_true (p := 0 ≤ a ∧ a ≤ 32) (by omega), Bool.true_and]
    by_cases h3 : c < 0
    · rw [cnd_t (ltI_t h3), decide_eq_false (p := 0 ≤ c ∧ c ≤ 32) (by omega)]; rfl
    rw [cnd_f (ltI_f (by omega))]
    by_cases h4 : 32 < c
    · rw [cnd_t (ltI_t h4), decide_eq_false (p := 0 ≤ c ∧ c ≤ 32) (by omega)]; rfl
    rw [cnd_f (ltI_f (by omega)), decide_eq_true (p := 0 ≤ c ∧ c ≤ 32) (by omega), Bool.true_and]
    by_cases h5 : p < 1
    · rw [cnd_t (ltI_t h5), decide_eq_false (p := 1 ≤ p ∧ p ≤ 8) (by omega)]; rfl
    rw [cnd_f (ltI_f (by omega))]
    by_cases h6 : 8 < p
    · rw [cnd_t (ltI_t h6), decide_eq_false (p := 1 ≤ p ∧ p ≤ 8) (by omega)]; rfl
    rw [cnd_f (ltI_f (by omega)), decide_eq_true (p := 1 ≤ p ∧ p ≤ 8) (by omega), Bool.true_and]
    obtain ⟨b1, b2⟩ := mul_bd (a := a) (x := p) (A := 32) (B := 8) (by omega) (by omega) (by omega) (by omega)
    obtain ⟨b3, b4⟩ := mul_bd (a := a * p) (x := c) (A := 32 * 8) (B := 32) (by omega) (by omega) (by omega) (by omega)
    rw [mulI_eq (a := a) (by omega) (by omega), mulI_eq (by omega) (by omega), show F_impl_inMod (m, l) = some (rowOk m l) from if_pos hl]
    by_cases h5 : (l.length : Int) = a * p * c
    · rw [cnd_t (show eqI (natI (lenN l)) _ = true from eqI_t h5), decide_eq_true h5]; rfl
    · rw [cnd_f (show eqI (natI (lenN l)) _ = false from eqI_f h5), decide_eq_false h5]; rfl
  · cases h

theorem siteOk_t {m a p c : Int} {l : List Int} (h : siteOk m (a, p, c, l) = true) : (0 ≤ a ∧ a ≤ 32) ∧ (0 ≤ c ∧ c ≤ 32) ∧ (1 ≤ p ∧ p ≤ 8) ∧ (l.length : Int) = a * p * c ∧ rowOk m l = true := by
  simp only [siteOk, Bool.and_eq_true, decide_eq_true_eq] at h
  exact ⟨h.1, h.2.1, h.2.2.1, h.2.2.2.1, h.2.2.2.2⟩

theorem chStep_dims {m : Int} : ∀ {l : List (Int × Int × Int × List Int)} {i : Nat} {b c : Int}, foldO (chStep m) i b l = some c → ∀ x ∈ dimsOf l, 1 ≤ x ∧ x ≤ 8
  | [], _, _, _, _, x, hx => by cases hx
  | (a, p, r, d) :: l, i, b, c, h, x, hx => by
    rw [foldO] at h
    cases hs : chStep m i b (a, p, r, d) with
    | none => rw [hs] at h; cases h
    | some b' =>
      rw [hs] at h
      simp only [chStep] at hs
      split at hs
      · rename_i hc
        have hp := (siteOk_t hc.1).2.2.1
        rcases List.mem_cons.1 hx with rfl | hx
        · exact hp
        · exact chStep_dims h x hx
      · cases hs

theorem chStep2_eq {m : Int} : ∀ (l : List (Int × Int × Int × List Int)) (i : Nat) (b z : Int), foldO (chStep2 m) i (b, z) l = (foldO (chStep m) i b l).map fun c => (c, z * prodI (dimsOf l))
  | [], i, b, z => by simp [foldO, dimsOf, prodI]
  | s :: l, i, b, z => by
    rw [foldO, foldO]
    simp only [chStep2, chStep]
    by_cases hc : siteOk m s = true ∧ s.1 = b
    · rw [if_pos hc, if_pos hc]
      simp only
      rw [chStep2_eq l (i + 1)]
      simp only [dimsOf, List.map_cons, prodI, Int.mul_assoc]
    · rw [if_neg hc, if_neg hc]
      rfl

theorem sz_Chain_le {m : Int} {l : List (Int × Int × Int × List Int)} (h : sz_Chain (m, l) ≤ 1048576) : l.length ≤ 1048576 ∧ ∀ e ∈ l, sz_Site e ≤ 1048576 := sz_SiteS_mem h

theorem pow8 {i : Nat} (h : i ≤ 8) : (8 : Int) ^ i ≤ 16777216 := by
  have h1 : (8 : Nat) ^ i ≤ 16777216 := Nat.le_trans (Nat.pow_le_pow_right (by decide) h) (by decide)
  have h2 : ((8 ^ i : Nat) : Int) = (8 : Int) ^ i := by norm_cast
  rw [← h2]
  omega

theorem f_impl_ChainOk (x : Int × List (Int × Int × Int × List Int)) (y : Bool) (h : F_impl_ChainOk x = some y) : G_impl_ChainOk FUEL x = some y := by
  obtain ⟨m, l⟩ := x
  simp only [F_impl_ChainOk] at h
  split at h
  · rename_i hl
    rw [← h]
    obtain ⟨hlen, hmm⟩ := sz_Chain_le hl
    simp only [G_impl_ChainOk, F_impl_IsPrime, bnd_s, chainOk]
    cases hp : isPrimeI m with
    | false => rfl
    | true =>
      have hm := isPrimeI_t hp
      rw [cnd_f (by rfl), Bool.true_and]
      by_cases h2 : l.length < 1
      · rw [cnd_t (ltI_t (by have := nl l; omega)), decide_eq_false (by omega)]; rfl
      rw [cnd_f (ltI_f (by have := nl l; omega))]
      by_cases h3 : 8 < l.length
      · rw [cnd_t (ltI_t (by have := nl l; omega)), decide_eq_false (by omega)]; rfl
      rw [cnd_f (ltI_f (by have := nl l; omega)), decide_eq_true (by omega), Bool.true_and]
      rw [loopT_foldO l (fun (st : Int × Int) i => ((st.1, st.2, l, natI (lenN l), (i : Int)), m, l)) (fun i st => 0 ≤ st.2 ∧ st.2 ≤ (8 : Int) ^ i) (chStep2 m) (Sum.inr false) (fun st => Sum.inl st) ?_ ?_ ?_ (s := (1, 1)) ⟨by decide, by decide⟩ ?_ (FUEL_gt (by omega))]
      · rw [chStep2_eq]
        cases hf : foldO (chStep m) 0 1 l with
        | none => rfl
        | some c =>
          simp only [Option.map_some, Int.one_mul]
          rw [joinK_l]
          simp only
          by_cases hc : c = 1
          · rw [cnd_t (eqI_t hc), decide_eq_true hc, Bool.true_and]; rfl
          · rw [cnd_f (eqI_f hc), decide_eq_false hc, Bool.false_and]
      all_goals try simp only
      · rintro i ⟨b, z⟩ ⟨a, p, c, d⟩ st' hi hz hs
        simp only [chStep2] at hs
        split at hs
        · rename_i hc
          injection hs with hs
          subst hs
          obtain ⟨t1, t2, t3, t4, t5⟩ := siteOk_t hc.1
          have hab : a = b := hc.2
          have hi8 : i ≤ 8 := by have := lt_of_get hi; omega
          have h8 := pow8 hi8
          obtain ⟨b1, b2⟩ := mul_bd hz.1 hz.2 (show 0 ≤ p by omega) t3.2
          simp only at b1 b2
          refine ⟨?_, b1, ?_⟩
          · rw [cnd_t (ltI_in hi), getI_nat, hi, bnd_s]
            simp only
            rw [show F_impl_siteOk (m, a, p, c, d) = some (siteOk m (a, p, c, d)) from if_pos (hmm _ (List.mem_of_getElem? hi)), bnd_s, hc.1, cnd_f (by rfl), cnd_f (neI_f hab), mulI_eq (by omega) (by omega), next_i hi (by omega)]
          · rw [Int.pow_succ]; exact b2
        · cases hs
      · rintro i ⟨b, z⟩ ⟨a, p, c, d⟩ hi hz hs
        simp only [chStep2] at hs
        split at hs
        · cases hs
        · rename_i hc
          rw [cnd_t (ltI_in hi), getI_nat, hi, bnd_s]
          simp only
          rw [show F_impl_siteOk (m, a, p, c, d) = some (siteOk m (a, p, c, d)) from if_pos (hmm _ (List.mem_of_getElem? hi)), bnd_s]
          cases h1 : siteOk m (a, p, c, d) with
          | false => rw [cnd_t (by rfl)]
          | true =>
            rw [cnd_f (by rfl), cnd_t (neI_t (fun e => hc ⟨h1, e⟩))]
      · rintro ⟨b, z⟩ _
        simp only
        rw [cnd_f (ltI_end l)]
      · rfl
  · cases h

theorem loopT_foldO' {X Y α S : Type} {f : X → Option (X ⊕ Y)} (es : List α) (mk : S → Nat → X) (I : Nat → S → Prop) (step : Nat → S → α → Option S) (bad : Y) (good : S → Y)
    (h1 : ∀ i s a, es[i]? = some a → I i s → f (mk s i) = some (match step i s a with | some s' => .inl (mk s' (i + 1)) | none => .inr bad))
    (hI : ∀ i s a s', es[i]? = some a → I i s → step i s a = some s' → I (i + 1) s')
    (h3 : ∀ s, I es.length s → f (mk s es.length) = some (.inr (good s))) {s : S} (h0 : I 0 s) {x0 : X} (hx : x0 = mk s 0) {N : Nat} (hN : es.length < N) :
    loopT N f x0 = some (match foldO step 0 s es with | some s' => good s' | none => bad) :=
  loopT_foldO es mk I step bad good (fun i s a s' ha hi hs => ⟨by rw [h1 i s a ha hi, hs], hI i s a s' ha hi hs⟩) (fun i s a ha hi hs => by rw [h1 i s a ha hi, hs]) h3 h0 hx hN

theorem chStep_t {m b a p c : Int} {l : List Int} {i : Nat} (h : siteOk m (a, p, c, l) = true) (e : a = b) : chStep m i b (a, p, c, l) = some c := if_pos ⟨h, e⟩
theorem chStep_f {m b a p c : Int} {l : List Int} {i : Nat} (h : ¬ (siteOk m (a, p, c, l) = true ∧ a = b)) : chStep m i b (a, p, c, l) = none := if_neg h

theorem f_spec_ChainOk (x : Int × List (Int × Int × Int × List Int)) (y : Bool) (h : F_spec_ChainOk x = some y) : G_spec_ChainOk FUEL x = some y := by
  obtain ⟨m, l⟩ := x
  simp only [F_spec_ChainOk] at h
  split at h
  · rename_i hl
    rw [← h]
    obtain ⟨hlen, hmm⟩ := sz_Chain_le hl
    simp only [G_spec_ChainOk, F_spec_IsPrime, F_spec_l01In, bnd_s, chainOk]
    cases hp : isPrimeI m with
    | false => rfl
    | true =>
      have hm := isPrimeI_t hp
      rw [cnd_f (by rfl), Bool.true_and]
      by_cases h2 : 1 ≤ l.length ∧ l.length ≤ 8
      rotate_left
      · rw [cnd_t (notB_d (by have := nl l; omega)), decide_eq_false h2]; rfl
      rw [cnd_f (notB_p (by have := nl l; omega)), decide_eq_true h2, Bool.true_and]
      rw [loopT_foldO' l (fun (b : Int) i => ((b, l, natI (lenN l), (i : Int)), m, l)) (fun i b => 0 ≤ b ∧ b ≤ 32) (chStep m) (Sum.inr false) (fun b => Sum.inl (b, m, l)) ?_ ?_ ?_ (s := 1) ⟨by decide, by decide⟩ ?_ (FUEL_gt (by omega))]
      · cases hf : foldO (chStep m) 0 1 l with
        | none => rfl
        | some c =>
          have hd := chStep_dims hf
          rw [joinK_l]
          simp only
          by_cases hc : c = 1
          · rw [cnd_t (eqI_t hc), decide_eq_true hc, Bool.true_and]
            rw [show F_spec_l32Dims (m, l) = some (dimsOf l) from if_pos hlen, bnd_s, winI_id, bnd_s]
            have hsm : (dimsOf l).all smallB = true := List.all_eq_true.2 fun x hx => decide_eq_true ⟨by have := hd x hx; omega, by have := hd x hx; omega⟩
            rw [show F_spec_l05Product (dimsOf l, 4096) = some (capProd 4096 (dimsOf l)) from if_pos ⟨by decide, by simp [dimsOf]; omega, hsm⟩, bnd_s, capProd_le (by decide) fun x hx => (hd x hx).1]
          · rw [cnd_f (eqI_f hc), decide_eq_false hc]; rfl
      all_goals try simp only
      · rintro i b ⟨a, p, c, d⟩ hi hb
        have hdl : d.length ≤ 1048576 := hmm _ (List.mem_of_getElem? hi)
        rw [cnd_t (ltI_in hi), getI_nat, hi, bnd_s]
        simp only
        by_cases q1 : a = b
        rotate_left
        · rw [cnd_t (neI_t q1), chStep_f (fun h => q1 h.2)]; rfl
        rw [cnd_f (neI_f q1)]
        by_cases q2 : 1 ≤ p ∧ p ≤ 8
        rotate_left
        · rw [cnd_t (notB_d q2), chStep_f (fun h => q2 (siteOk_t h.1).2.2.1)]; rfl
        rw [cnd_f (notB_p q2)]
        by_cases q3 : 0 ≤ c ∧ c ≤ 32
        rotate_left
        · rw [cnd_t (notB_d q3), chStep_f (fun h => q3 (siteOk_t h.1).2.1)]; rfl
        rw [cnd_f (notB_p q3)]
        obtain ⟨b1, b2⟩ := mul_bd (a := a) (x := p) (A := 32) (B := 8) (by omega) (by omega) (by omega) (by omega)
        obtain ⟨b3, b4⟩ := mul_bd (a := a * p) (x := c) (A := 32 * 8) (B := 32) (by omega) (by omega) (by omega) (by omega)
        rw [mulI_eq (a := a) (by omega) (by omega), mulI_eq (by omega) (by omega)]
        by_cases q4 : (d.length : Int) = a * p * c
        rotate_left
        · rw [cnd_t (show neI (natI (lenN d)) _ = true from neI_t q4), chStep_f (fun h => q4 (siteOk_t h.1).2.2.2.1)]; rfl
        rw [cnd_f (show neI (natI (lenN d)) _ = false from neI_f q4)]
        rw [loopT_all (mk := fun (j : Nat) => ((l, natI (lenN l), (i : Int), d, natI (lenN d), (j : Int)), (m, l), a, p, c, d)) d (inB m) (Sum.inr (Sum.inr (Sum.inr (Sum.inr false)))) (Sum.inl (((i : Int), l, natI (lenN l)), (m, l), a, p, c, d)) ?_ ?_ ?_ ?_ (FUEL_gt (by omega))]
        · cases hr : d.all (inB m) with
          | false => rw [chStep_f (fun h => by have := (siteOk_t h.1).2.2.2.2; rw [rowOk, hr] at this; cases this)]; rfl
          | true =>
            rw [chStep_t (by simp only [siteOk, rowOk, hr, Bool.and_true, Bool.and_eq_true, decide_eq_true_eq]; exact ⟨by omega, q3, q2, q4⟩) q1]
            simp only [if_true, joinK_l]
            rw [next_i hi (by omega)]
        all_goals try simp only
        · intro j x hx hp
          have hp := of_decide_eq_true hp
          rw [cnd_t (ltI_in hx), getI_nat, hx, bnd_s, subI_eq (by omega) (by omega), cnd_f (notB_p (by omega)), next_i hx (by omega)]
        · intro j x hx hp
          have hp := of_decide_eq_false hp
          rw [cnd_t (ltI_in hx), getI_nat, hx, bnd_s, subI_eq (by omega) (by omega), cnd_t (notB_d (by omega))]
        · rw [cnd_f (ltI_end d)]
        · rfl
      · rintro i b ⟨a, p, c, d⟩ s' hi hb hs
        simp only [chStep] at hs
        split at hs
        · rename_i hc
          injection hs with hs
          subst hs
          exact (siteOk_t hc.1).2.1
        · cases hs
      · intro b _
        rw [cnd_f (ltI_end l)]
      · rfl
  · cases h

end Go.Am
end
section
namespace Go.Am
def newOk (x : Int × Int) : Prop := (0 ≤ x.1 ∧ x.1 ≤ 4096) ∧ (0 ≤ x.2 ∧ x.2 ≤ 4096) ∧ x.1 * x.2 ≤ 1048576
instance (x : Int × Int) : Decidable (newOk x) := by unfold newOk; infer_instance
def F_spec_l31New : Int × Int → Option (Int × Int × List Int) := fun (x : Int × Int) => if newOk x then some (x.1, x.2, genD x.1.toNat x.2.toNat fun _ _ => 0) else none
def swapF (M : Nat → Nat → Int) (a b : Nat) : Nat → Nat → Int := fun i j => if i = a then M b j else if i = b then M a j else M i j
def pivF (M : Nat → Nat → Int) (j : Nat) : Nat → Nat → Option Nat
  | 0, _ => none
  | d + 1, k => if M k j = 0 then pivF M j d (k + 1) else some k
def invG (p out x : Int) (n : Nat) : Int := if h : n = 0 then out else invG p (if n % 2 = 1 then out * x % p else out) (x * x % p) (n / 2)
termination_by n
decreasing_by omega
def mulOk (x : Int × (Int × Int × List Int) × (Int × Int × List Int)) : Prop := pOk x.1 ∧ mOk x.2.1 ∧ mOk x.2.2 ∧ x.2.1.2.1 = x.2.2.1 ∧ x.2.1.1 * x.2.2.2.1 ≤ 1048576 ∧ allP x.1 x.2.1.2.2 ∧ allP x.1 x.2.2.2.2
instance (x : Int × (Int × Int × List Int) × (Int × Int × List Int)) : Decidable (mulOk x) := by unfold mulOk; infer_instance
def F_spec_l31Mul : Int × (Int × Int × List Int) × (Int × Int × List Int) → Option (Int × Int × List Int) := fun (x : Int × (Int × Int × List Int) × (Int × Int × List Int)) =>
  if mulOk x then some (x.2.1.1, x.2.2.2.1, genD x.2.1.1.toNat x.2.2.2.1.toNat (mulF x.1 x.2.1.2.1.toNat (ofD x.2.1.2.1.toNat x.2.1.2.2) (ofD x.2.2.2.1.toNat x.2.2.2.2))) else none
def ag_spec_l31New : Sig := [(.one, [.int .i64]), (.one, [.int .i64])]
def rs_spec_l31New : Sig := [(.agg, [.int .i64, .int .i64, .list [.int .i64]])]
def mu_spec_l31New : MSig := []
def ag_spec_l31Mul : Sig := [(.one, [.int .i64]), (.agg, [.int .i64, .int .i64, .list [.int .i64]]), (.agg, [.int .i64, .int .i64, .list [.int .i64]])]
def rs_spec_l31Mul : Sig := [(.agg, [.int .i64, .int .i64, .list [.int .i64]])]
def mu_spec_l31Mul : MSig := []
def G_spec_l31New (NN : Nat) : (Int × Int) → (Option (Int × (Int × (List Int)))) :=
 (fun ((i0, i1) : (Int × Int)) =>
 (mkI (mulI .i64 i0 i1) (mulI .i64 i0 i1) 8).bnd (fun (k2 : Nat) =>
 (takI (repL k2 (0 : Int)) k2).bnd (fun (l3 : (List Int)) =>
 some (i0, i1, l3))))

def G_spec_l31Mul (NN : Nat) : (Int × ((Int × (Int × (List Int))) × (Int × (Int × (List Int))))) → (Option (Int × (Int × (List Int)))) :=
 (fun ((i0, (i1, i2, l3), i4, i5, l6) : (Int × ((Int × (Int × (List Int))) × (Int × (Int × (List Int)))))) =>
 (F_spec_l31New (i1, i5)).bnd (fun ((i7, i8, l9) : (Int × (Int × (List Int)))) =>
 joinK ((fulI 0 0 (lenN (([] : List Int)))).bnd (fun (_ : Unit) =>
 (fulI 0 (lenN l9) (lenN l9)).bnd (fun (_ : Unit) =>
 loopT NN (fun (((i10, i11), (i12, i13, l14), (i15, i16, l17), (i18, i19), (i20, i21), l22, l23) : ((Int × Int) × ((Int × (Int × (List Int))) × ((Int × (Int × (List Int))) × ((Int × Int) × ((Int × Int) × ((List Int) × (List Int)))))))) =>
 cnd (ltI i11 i12)
 (joinK ((fulI 0 (lenN l22) (lenN l22)).bnd (fun (_ : Unit) =>
 (fulI 0 (lenN l23) (lenN l23)).bnd (fun (_ : Unit) =>
 loopT NN (fun (((i24, i25, i26), (i27, i28, l29), (i30, i31, l32), (i33, i34), (i35, i36), l37, l38) : ((Int × (Int × Int)) × ((Int × (Int × (List Int))) × ((Int × (Int × (List Int))) × ((Int × Int) × ((Int × Int) × ((List Int) × (List Int)))))))) =>
 cnd (ltI i26 i31)
 (joinK (joinK ((fulI 0 (lenN l37) (lenN l37)).bnd (fun (_ : Unit) =>
 (fulI 0 (lenN l38) (lenN l38)).bnd (fun (_ : Unit) =>
 loopT NN (fun (((i39, i40, i41, i42, i43), (i44, i45, l46), (i47, i48, l49), (i50, i51), (i52, i53), l54, l55) : ((Int × (Int × (Int × (Int × Int)))) × ((Int × (Int × (List Int))) × ((Int × (Int × (List Int))) × ((Int × Int) × ((Int × Int) × ((List Int) × (List Int)))))))) =>
 cnd (ltI i43 i45)
 ((getI l46 (addI .i64 (mulI .i64 i40 i45) i43)).bnd (fun (i56 : Int) =>
 (getI l49 (addI .i64 (mulI .i64 i43 i48) i41)).bnd (fun (i57 : Int) =>
 (remI (addI .i64 i42 (mulI .i64 i56 i57)) i39).bnd (fun (i58 : Int) =>
 (fulI 0 (lenN l54) (lenN l54)).bnd (fun (_ : Unit) =>
 (fulI 0 (lenN l55) (lenN l55)).bnd (fun (_ : Unit) =>
 some (Sum.inl ((i39, i40, i41, i58, addI .i64 i43 (1 : Int)), (i44, i45, l46), (i47, i48, l49), (i50, i51), (i52, i53), l54, l55))))))))
 (((fulI 0 (lenN l54) (lenN l54)).bnd (fun (_ : Unit) =>
 (fulI 0 (lenN l55) (lenN l55)).bnd (fun (_ : Unit) =>
 some (Sum.inl ((i42, i41, i39, i40), (i44, i45, l46), (i47, i48, l49), (i50, i51), (i52, i53), l54, l55))))).bnd (fun (l59 : (((Int × (Int × (Int × Int))) × ((Int × (Int × (List Int))) × ((Int × (Int × (List Int))) × ((Int × Int) × ((Int × Int) × ((List Int) × (List Int))))))) ⊕ (((Int × (Int × Int)) × ((Int × (Int × (List Int))) × ((Int × (Int × (List Int))) × ((Int × Int) × ((Int × Int) × ((List Int) × (List Int))))))) ⊕ (((Int × (Int × Int)) × ((Int × (Int × (List Int))) × ((Int × (Int × (List Int))) × ((Int × Int) × ((Int × Int) × ((List Int) × (List Int))))))) ⊕ (((Int × Int) × ((Int × (Int × (List Int))) × ((Int × (Int × (List Int))) × ((Int × Int) × ((Int × Int) × ((List Int) × (List Int))))))) ⊕ (((Int × Int) × ((Int × (Int × (List Int))) × ((Int × (Int × (List Int))) × ((Int × Int) × ((Int × Int) × ((List Int) × (List Int))))))) ⊕ (((Int × Int) × ((Int × Int) × ((List Int) × (List Int)))) ⊕ (Int × (Int × (List Int)))))))))) =>
 some (Sum.inr l59))))
 ((i24, i25, i26, (0 : Int), (0 : Int)), (i27, i28, l29), (i30, i31, l32), (i33, i34), (i35, i36), l37, l38))))
 (fun (((i60, i61, i62, i63), (i64, i65, l66), (i67, i68, l69), (i70, i71), (i72, i73), l74, l75) : ((Int × (Int × (Int × Int))) × ((Int × (Int × (List Int))) × ((Int × (Int × (List Int))) × ((Int × Int) × ((Int × Int) × ((List Int) × (List Int)))))))) =>
 (chkI (addI .i64 (mulI .i64 i63 i68) i61) (lenN l75)).bnd (fun (k76 : Nat) =>
 (getN l75 (addN 0 k76)).bnd (fun (i77 : Int) =>
 (fulI 0 (lenN l74) (lenN l74)).bnd (fun (_ : Unit) =>
 (fulI 0 (lenN l75) (lenN (setL l75 (addN 0 k76) i60))).bnd (fun (_ : Unit) =>
 some (Sum.inl ((i61, i62, i63), (i64, i65, l66), (i67, i68, l69), (i70, i71), (i72, i73), l74, setL l75 (addN 0 k76) i60))))))))
 (fun (((i78, i79, i80), (i81, i82, l83), (i84, i85, l86), (i87, i88), (i89, i90), l91, l92) : ((Int × (Int × Int)) × ((Int × (Int × (List Int))) × ((Int × (Int × (List Int))) × ((Int × Int) × ((Int × Int) × ((List Int) × (List Int)))))))) =>
 (fulI 0 (lenN l91) (lenN l91)).bnd (fun (_ : Unit) =>
 (fulI 0 (lenN l92) (lenN l92)).bnd (fun (_ : Unit) =>
 some (Sum.inl ((i79, i80, addI .i64 i78 (1 : Int)), (i81, i82, l83), (i84, i85, l86), (i87, i88), (i89, i90), l91, l92))))))
 (((fulI 0 (lenN l37) (lenN l37)).bnd (fun (_ : Unit) =>
 (fulI 0 (lenN l38) (lenN l38)).bnd (fun (_ : Unit) =>
 some (Sum.inl ((i25, i24), (i27, i28, l29), (i30, i31, l32), (i33, i34), (i35, i36), l37, l38))))).bnd (fun (l93 : (((Int × Int) × ((Int × (Int × (List Int))) × ((Int × (Int × (List Int))) × ((Int × Int) × ((Int × Int) × ((List Int) × (List Int))))))) ⊕ (((Int × Int) × ((Int × (Int × (List Int))) × ((Int × (Int × (List Int))) × ((Int × Int) × ((Int × Int) × ((List Int) × (List Int))))))) ⊕ (((Int × Int) × ((Int × Int) × ((List Int) × (List Int)))) ⊕ (Int × (Int × (List Int))))))) =>
 some (Sum.inr l93))))
 ((i10, i11, (0 : Int)), (i12, i13, l14), (i15, i16, l17), (i18, i19), (i20, i21), l22, l23))))
 (fun (((i94, i95), (i96, i97, l98), (i99, i100, l101), (i102, i103), (i104, i105), l106, l107) : ((Int × Int) × ((Int × (Int × (List Int))) × ((Int × (Int × (List Int))) × ((Int × Int) × ((Int × Int) × ((List Int) × (List Int)))))))) =>
 (fulI 0 (lenN l106) (lenN l106)).bnd (fun (_ : Unit) =>
 (fulI 0 (lenN l107) (lenN l107)).bnd (fun (_ : Unit) =>
 some (Sum.inl ((i95, addI .i64 i94 (1 : Int)), (i96, i97, l98), (i99, i100, l101), (i102, i103), (i104, i105), l106, l107))))))
 (((fulI 0 (lenN l22) (lenN l22)).bnd (fun (_ : Unit) =>
 (fulI 0 (lenN l23) (lenN l23)).bnd (fun (_ : Unit) =>
 some (Sum.inl ((i18, i19), (i20, i21), l22, l23))))).bnd (fun (l108 : (((Int × Int) × ((Int × Int) × ((List Int) × (List Int)))) ⊕ (Int × (Int × (List Int))))) =>
 some (Sum.inr l108))))
 ((i0, (0 : Int)), (i1, i2, l3), (i4, i5, l6), ((0 : Int), (0 : Int)), (i7, i8), ([] : List Int), l9))))
 (fun (((i109, i110), (i111, i112), l113, l114) : ((Int × Int) × ((Int × Int) × ((List Int) × (List Int))))) =>
 (takI l114 (lenN l114)).bnd (fun (l115 : (List Int)) =>
 some (i111, i112, l115)))))

theorem newOk_nat {r c : Nat} (hr : r ≤ 4096) (hc : c ≤ 4096) (h : r * c ≤ 1048576) : newOk ((r : Int), (c : Int)) := by
  refine ⟨⟨by omega, by show (r : Int) ≤ 4096; omega⟩, ⟨by show (0 : Int) ≤ c; omega, by show (c : Int) ≤ 4096; omega⟩, ?_⟩
  show (r : Int) * (c : Int) ≤ 1048576
  have e : (r : Int) * (c : Int) = ((r * c : Nat) : Int) := by norm_cast
  omega
theorem newOk_gen {x : Int × Int} (h : newOk x) : ∃ r c : Nat, x = ((r : Int), (c : Int)) ∧ r ≤ 4096 ∧ c ≤ 4096 ∧ r * c ≤ 1048576 := by
  obtain ⟨r, c⟩ := x
  obtain ⟨h1, h2, h3⟩ := h
  simp only at h1 h2 h3
  obtain ⟨r, rfl⟩ := natI_eq h1.1
  obtain ⟨c, rfl⟩ := natI_eq h2.1
  have e : (r : Int) * (c : Int) = ((r * c : Nat) : Int) := by norm_cast
  exact ⟨r, c, rfl, by omega, by omega, by omega⟩
theorem new_nat {r c : Nat} (hr : r ≤ 4096) (hc : c ≤ 4096) (h : r * c ≤ 1048576) : F_spec_l31New ((r : Int), (c : Int)) = some ((r : Int), (c : Int), genD r c fun _ _ => 0) := by
  simp only [F_spec_l31New, Int.toNat_natCast]
  rw [if_pos (newOk_nat hr hc h)]

theorem g_new {r c : Nat} (hr : r ≤ 4096) (hc : c ≤ 4096) (h : r * c ≤ 1048576) : G_spec_l31New FUEL ((r : Int), (c : Int)) = some ((r : Int), (c : Int), genD r c fun _ _ => 0) := by
  simp only [G_spec_l31New]
  rw [mulN (by omega) (by omega)]
  have := mkI_nat (n := r * c) (by_ := 8) (by unfold maxBytes; omega)
  rw [show ((r * c : Nat) : Int) = natI (r * c) from rfl, this, bnd_s, genD_rep]
  rw [show takI (genD r c fun _ _ => 0) (r * c) = some (genD r c fun _ _ => 0) by
    have := takI_id (genD r c fun _ _ => (0 : Int))
    rwa [lenN_gen] at this]
  rfl
theorem f_spec_l31New (x : Int × Int) (y : Int × Int × List Int) (h : F_spec_l31New x = some y) : G_spec_l31New FUEL x = some y := by
  simp only [F_spec_l31New] at h
  split at h
  · rename_i hc
    obtain ⟨r, c, rfl, h1, h2, h3⟩ := newOk_gen hc
    rw [← h, g_new h1 h2 h3]; rfl
  · cases h
/-! ### rows -/

/-! ### pivots, inverses -/

theorem pivF_lt {M : Nat → Nat → Int} {j q : Nat} : ∀ {d k : Nat}, pivF M j d k = some q → k ≤ q ∧ q < k + d ∧ M q j ≠ 0
  | 0, k, h => by cases h
  | d + 1, k, h => by
    simp only [pivF] at h
    split at h
    · have := pivF_lt h
      exact ⟨by omega, by omega, this.2.2⟩
    · rename_i h0
      injection h with h
      subst h
      exact ⟨by omega, by omega, h0⟩

/-! ### transposed -/

/-! ### products -/

def mulTo (W : Nat → Nat → Int) (i j : Nat) : Nat → Nat → Int := fun a b => if a < i ∨ a = i ∧ b < j then W a b else 0
theorem mul_step {r c : Nat} (W : Nat → Nat → Int) (i j : Nat) : genD r c (updM (mulTo W i j) i j (W i j)) = genD r c (mulTo W i (j + 1)) := by
  refine genD_congr fun a _ b _ => ?_
  unfold updM mulTo
  by_cases h : a = i ∧ b = j
  · obtain ⟨rfl, rfl⟩ := h
    simp
  · rw [if_neg h]
    by_cases h1 : a < i ∨ a = i ∧ b < j
    · simp only [if_pos h1, if_pos (show a < i ∨ a = i ∧ b < j + 1 by omega)]
    · simp only [if_neg h1, if_neg (show ¬ (a < i ∨ a = i ∧ b < j + 1) by omega)]
theorem mul_row {r c : Nat} (W : Nat → Nat → Int) (i : Nat) : genD r c (mulTo W i c) = genD r c (mulTo W (i + 1) 0) := by
  refine genD_congr fun a _ b hb => ?_
  unfold mulTo
  by_cases h1 : a < i ∨ a = i ∧ b < c
  · simp only [if_pos h1, if_pos (show a < i + 1 ∨ a = i + 1 ∧ b < 0 by omega)]
  · simp only [if_neg h1, if_neg (show ¬ (a < i + 1 ∨ a = i + 1 ∧ b < 0) by omega)]
theorem mul_end {r c : Nat} (W : Nat → Nat → Int) : genD r c (mulTo W r 0) = genD r c W := genD_congr fun a ha b hb => if_pos (.inl ha)
theorem mul_0 {r c : Nat} (W : Nat → Nat → Int) : genD r c (mulTo W 0 0) = genD r c fun _ _ => 0 := genD_congr fun a ha b hb => if_neg (by omega)

theorem mulF_congr {p : Int} {k : Nat} {A A' B B' : Nat → Nat → Int} {i j : Nat} (hA : ∀ t, t < k → A i t = A' i t) (hB : ∀ t, t < k → B t j = B' t j) : mulF p k A B i j = mulF p k A' B' i j := by
  unfold mulF
  have : ∀ n, n ≤ k → dotF p (fun t => A i t) (fun t => B t j) n = dotF p (fun t => A' i t) (fun t => B' t j) n := by
    intro n
    induction n with
    | zero => intro _; rfl
    | succ n ih =>
      intro hn
      simp only [dotF]
      rw [ih (by omega), hA n (by omega), hB n (by omega)]
  exact this k (Nat.le_refl k)
theorem mulOk_gen {x : Int × (Int × Int × List Int) × (Int × Int × List Int)} (h : mulOk x) : ∃ (p : Int) (r k c : Nat) (A B : Nat → Nat → Int), x = (p, ((r : Int), (k : Int), genD r k A), ((k : Int), (c : Int), genD k c B)) ∧ pOk p ∧
    r ≤ 4096 ∧ k ≤ 4096 ∧ c ≤ 4096 ∧ r * k ≤ 1048576 ∧ k * c ≤ 1048576 ∧ r * c ≤ 1048576 ∧ inM p r k A ∧ inM p k c B := by
  obtain ⟨p, a, b⟩ := x
  obtain ⟨hp, ha, hb, hk, hrc, h1, h2⟩ := h
  obtain ⟨r, k, A, rfl, q1, q2, q3⟩ := mOk_gen ha
  obtain ⟨k', c, B, rfl, q4, q5, q6⟩ := mOk_gen hb
  simp only at hk hrc h1 h2
  have : k' = k := by omega
  subst this
  have e : (r : Int) * (c : Int) = ((r * c : Nat) : Int) := by norm_cast
  exact ⟨p, r, k', c, A, B, rfl, hp, q1, q2, q5, q3, q6, by omega, allP_gen.1 h1, allP_gen.1 h2⟩
theorem mulOk_mk {p : Int} {r k c : Nat} {A B : Nat → Nat → Int} (hp : pOk p) (hr : r ≤ 4096) (hk : k ≤ 4096) (hc : c ≤ 4096) (h1 : r * k ≤ 1048576) (h2 : k * c ≤ 1048576) (h3 : r * c ≤ 1048576) (hA : inM p r k A) (hB : inM p k c B) :
    mulOk (p, ((r : Int), (k : Int), genD r k A), ((k : Int), (c : Int), genD k c B)) := by
  refine ⟨hp, mOk_mk A hr hk h1, mOk_mk B hk hc h2, rfl, ?_, allP_gen.2 hA, allP_gen.2 hB⟩
  show (r : Int) * (c : Int) ≤ 1048576
  have e : (r : Int) * (c : Int) = ((r * c : Nat) : Int) := by norm_cast
  omega
theorem mulS_nat {p : Int} {r k c : Nat} {A B : Nat → Nat → Int} (hp : pOk p) (hr : r ≤ 4096) (hk : k ≤ 4096) (hc : c ≤ 4096) (h1 : r * k ≤ 1048576) (h2 : k * c ≤ 1048576) (h3 : r * c ≤ 1048576) (hA : inM p r k A) (hB : inM p k c B) :
    F_spec_l31Mul (p, ((r : Int), (k : Int), genD r k A), ((k : Int), (c : Int), genD k c B)) = some ((r : Int), (c : Int), genD r c (mulF p k A B)) := by
  simp only [F_spec_l31Mul, Int.toNat_natCast]
  rw [if_pos (mulOk_mk hp hr hk hc h1 h2 h3 hA hB)]
  exact congrArg (fun l => some ((r : Int), (c : Int), l)) (genD_congr fun i hi j hj => mulF_congr (fun t ht => ofD_gen A hi ht) (fun t ht => ofD_gen B ht hj))

theorem g_mulS {p : Int} {r k c : Nat} {A B : Nat → Nat → Int} (hp : pOk p) (hr : r ≤ 4096) (hk : k ≤ 4096) (hc : c ≤ 4096) (h1 : r * k ≤ 1048576) (h2 : k * c ≤ 1048576) (h3 : r * c ≤ 1048576) (hA : inM p r k A) (hB : inM p k c B) :
    G_spec_l31Mul FUEL (p, ((r : Int), (k : Int), genD r k A), ((k : Int), (c : Int), genD k c B)) = some ((r : Int), (c : Int), genD r c (mulF p k A B)) := by
  simp only [G_spec_l31Mul, new_nat hr hc h3, bnd_s, fulI_id]
  rw [show fulI 0 0 (lenN ([] : List Int)) = some () from rfl, bnd_s]
  rw [loopT_seq (r := Sum.inl (((0 : Int), (0 : Int)), ((r : Int), (c : Int)), ([] : List Int), genD r c (mulF p k A B))) (fun i => ((p, (i : Int)), ((r : Int), (k : Int), genD r k A), ((k : Int), (c : Int), genD k c B), ((0 : Int), (0 : Int)), ((r : Int), (c : Int)), ([] : List Int), genD r c (mulTo (mulF p k A B) i 0))) r ?_ ?_ ?_ (FUEL_gt (by omega))]
  · rw [joinK_l]; simp only [takI_id, bnd_s]
  · intro i hi
    simp only
    rw [cnd_t (ltN_t hi)]
    rw [loopT_seq (r := Sum.inl (((i : Int), p), ((r : Int), (k : Int), genD r k A), ((k : Int), (c : Int), genD k c B), ((0 : Int), (0 : Int)), ((r : Int), (c : Int)), ([] : List Int), genD r c (mulTo (mulF p k A B) (i + 1) 0))) (fun j => ((p, (i : Int), (j : Int)), ((r : Int), (k : Int), genD r k A), ((k : Int), (c : Int), genD k c B), ((0 : Int), (0 : Int)), ((r : Int), (c : Int)), ([] : List Int), genD r c (mulTo (mulF p k A B) i j))) c ?_ ?_ ?_ (FUEL_gt (by omega))]
    · rw [joinK_l]; simp only [addN1 (show i ≤ 1048577 by omega)]
    · intro j hj
      simp only
      rw [cnd_t (ltN_t hj)]
      rw [loopT_seq (r := Sum.inl ((mulF p k A B i j, (j : Int), p, (i : Int)), ((r : Int), (k : Int), genD r k A), ((k : Int), (c : Int), genD k c B), ((0 : Int), (0 : Int)), ((r : Int), (c : Int)), ([] : List Int), genD r c (mulTo (mulF p k A B) i j))) (fun t => ((p, (i : Int), (j : Int), dotF p (fun t => A i t) (fun t => B t j) t, (t : Int)), ((r : Int), (k : Int), genD r k A), ((k : Int), (c : Int), genD k c B), ((0 : Int), (0 : Int)), ((r : Int), (c : Int)), ([] : List Int), genD r c (mulTo (mulF p k A B) i j))) k ?_ ?_ ?_ (FUEL_gt (by omega))]
      · rw [joinK_l]
        simp only [idxI (show i ≤ 1048576 by omega) (show c ≤ 1048576 by omega) (show j ≤ 1048576 by omega), chkI_gen _ hi hj, bnd_s, addN_0, getN_gen _ hi hj, setL_gen _ hj, fulI_gen, mul_step (r := r) (c := c)]
        rw [joinK_l]
        simp only [addN1 (show j ≤ 1048577 by omega)]
      · intro t ht
        simp only
        rw [cnd_t (ltN_t ht), idxI (by omega) (by omega) (by omega), idxI (by omega) (by omega) (by omega), getI_gen A hi ht, bnd_s, getI_gen B ht hj, bnd_s, macI hp ((dotF_in hp _ _ t).s hp) (hA i hi t ht).le (hB t ht j hj).le, bnd_s]
        simp only [addN1 (show t ≤ 1048577 by omega), dotF]
      · simp only
        rw [cnd_f (ltN_f (Nat.le_refl k))]
        rfl
      · rfl
    · simp only
      rw [cnd_f (ltN_f (Nat.le_refl c)), mul_row]
    · rfl
  · simp only
    rw [cnd_f (ltN_f (Nat.le_refl r)), mul_end]
  · rw [mul_0]; rfl
theorem f_spec_l31Mul (x : Int × (Int × Int × List Int) × (Int × Int × List Int)) (y : Int × Int × List Int) (h : F_spec_l31Mul x = some y) : G_spec_l31Mul FUEL x = some y := by
  have h0 := h
  simp only [F_spec_l31Mul] at h
  split at h
  · rename_i hc
    obtain ⟨p, r, k, c, A, B, rfl, hp, hr, hk, hc, h1, h2, h3, hA, hB⟩ := mulOk_gen hc
    rw [← h0, g_mulS hp hr hk hc h1 h2 h3 hA hB, mulS_nat hp hr hk hc h1 h2 h3 hA hB]
  · cases h
end Go.Am
end
section
namespace Go.Am
/-! ### transposes, products and swaps of good matrices -/

def sopOk (x : Int × Int × Int) : Prop := isPrimeI x.1 = true ∧ (1 ≤ x.2.1 ∧ x.2.1 ≤ 8) ∧ (1 ≤ x.2.2 ∧ x.2.2 ≤ 8)
instance (x : Int × Int × Int) : Decidable (sopOk x) := by unfold sopOk; infer_instance
/-! ### the swap operator -/

end Go.Am
end
section
namespace Go.Am
/-! ### reduced forms -/

abbrev Mat := Nat → Nat → Int
def sclF (p inv : Int) (M : Mat) (t : Nat) : Mat := fun a b => if a = t then M t b * inv % p else M a b
def clrF (p : Int) (M : Mat) (t j n : Nat) : Mat := fun a b => if a < n ∧ a ≠ t then (M a b + (p - M a j) * M t b) % p else M a b
def pivS (p : Int) (M : Mat) (t j k : Nat) : Mat := sclF p (invG p 1 (swapF M t k t j) (p - 2).toNat) (swapF M t k) t
def redD (p : Int) (M : Mat) (t j k : Nat) (d : Int) : Int := (if k = t then d else (p - d) % p) * swapF M t k t j % p
def redS (p : Int) (r : Nat) (s : Mat × List Int × Int) (j : Nat) : Mat × List Int × Int :=
  if s.2.1.length < r then
    match pivF s.1 j (r - s.2.1.length) s.2.1.length with
    | none => s
    | some k => (clrF p (pivS p s.1 s.2.1.length j k) s.2.1.length j r, s.2.1 ++ [(j : Int)], redD p s.1 s.2.1.length j k s.2.2)
  else s
def redOk (x : Int × Int × Int × List Int) : Prop := pOk x.1 ∧ mOk x.2 ∧ allP x.1 x.2.2.2
instance (x : Int × Int × Int × List Int) : Decidable (redOk x) := by unfold redOk; infer_instance
theorem swapF_in {p : Int} {r c : Nat} {M : Mat} (hM : inM p r c M) {a b : Nat} (ha : a < r) (hb : b < r) : inM p r c (swapF M a b) := by
  intro i hi j hj
  unfold swapF
  split
  · exact hM b hb j hj
  · split
    · exact hM a ha j hj
    · exact hM i hi j hj
theorem sclF_in {p inv : Int} {r c : Nat} {M : Mat} (hp : pOk p) (hM : inM p r c M) (t : Nat) : inM p r c (sclF p inv M t) := by
  intro i hi j hj
  unfold sclF
  split
  · exact emod_in hp _
  · exact hM i hi j hj
theorem clrF_in {p : Int} {r c : Nat} {M : Mat} (hp : pOk p) (hM : inM p r c M) (t k n : Nat) : inM p r c (clrF p M t k n) := by
  intro i hi j hj
  unfold clrF
  split
  · exact emod_in hp _
  · exact hM i hi j hj
theorem pivS_in {p : Int} {r c : Nat} {M : Mat} (hp : pOk p) (hM : inM p r c M) {t k : Nat} (ht : t < r) (hk : k < r) (j : Nat) : inM p r c (pivS p M t j k) := sclF_in hp (swapF_in hM ht hk) t

structure RI (p : Int) (r c : Nat) (s : Mat × List Int × Int) (j : Nat) : Prop where
  m : inM p r c s.1
  l : s.2.1.length ≤ r
  lj : s.2.1.length ≤ j
  d : inP p s.2.2
  e : ∀ x ∈ s.2.1, 0 ≤ x ∧ x < (j : Int)
theorem RI.step {p : Int} {r c : Nat} {s : Mat × List Int × Int} {j : Nat} (hp : pOk p) (h : RI p r c s j) : RI p r c (redS p r s j) (j + 1) := by
  have keep : RI p r c s (j + 1) := ⟨h.m, h.l, by have := h.lj; omega, h.d, fun x hx => by have := h.e x hx; omega⟩
  unfold redS
  split
  · rename_i hl
    split
    · exact keep
    · rename_i k hk
      have hq := pivF_lt hk
      refine ⟨clrF_in hp (pivS_in hp h.m hl (by omega) j) _ _ _, ?_, ?_, emod_in hp _, ?_⟩
      · simp only [List.length_append, List.length_cons, List.length_nil]; omega
      · have := h.lj
        simp only [List.length_append, List.length_cons, List.length_nil]; omega
      · intro x hx
        simp only [List.mem_append, List.mem_singleton] at hx
        rcases hx with hx | rfl
        · have := h.e x hx; omega
        · omega
  · exact keep
/-! ### the walk of the spec's reduction -/

section
variable {p : Int} {r c : Nat} {M0 : Mat}

end
/-! ### the walk of the program's reduction -/

section
variable {p : Int} {r c : Nat} {M0 : Mat}

end

end Go.Am
end
section
namespace Go.Am
/-! ### ranks, reduced forms and factors of good matrices -/

/-! ### factors -/

section
variable {p : Int} {r c : Nat} {M R : Mat} {L : List Int}

end

end Go.Am
end
section
namespace Go.Am

/-! ### chains as matrices -/
abbrev Site := Int × Int × Int × List Int
def site0 : Site := (0, 0, 0, [])
def siteM (s : Site) : Mat := ofD s.2.2.1.toNat s.2.2.2
def siteV (s : Site) (v : Nat) : Mat := fun i j => siteM s (i * s.2.1.toNat + v) j
def bondN (l : List Site) : Nat → Nat
  | 0 => 1
  | i + 1 => (l.getD i site0).2.2.1.toNat
def rowS (m : Int) (R : Nat → Int) (s : Site) (v : Nat) : Nat → Int := fun j => dotF m R (fun t => siteV s v t j) s.1.toNat
def rowN (m : Int) (l : List Site) (ix : List Int) : Nat → (Nat → Int)
  | 0 => fun _ => 1
  | i + 1 => rowS m (rowN m l ix i) (l.getD i site0) (ix.getD i 0).toNat
def chainAt (m : Int) (l : List Site) (ix : List Int) : Int := rowN m l ix l.length 0
def siteG (s : Site) : Prop := (0 ≤ s.1 ∧ s.1 ≤ 64) ∧ (0 ≤ s.2.1 ∧ s.2.1 ≤ 64) ∧ (0 ≤ s.2.2.1 ∧ s.2.2.1 ≤ 64) ∧ (s.2.2.2.length : Int) = s.1 * s.2.1 * s.2.2.1
instance (s : Site) : Decidable (siteG s) := by unfold siteG; infer_instance
def idxB (D ix : List Int) : Bool := decide (ix.length = D.length) && decide (∀ i, i < D.length → 0 ≤ ix.getD i 0 ∧ ix.getD i 0 < D.getD i 0)
def F_impl_chainDims : Int × List Site → Option (List Int) := F_spec_l32Dims
def F_impl_Site_at : Site × Int × Int × Int → Option Int := fun x =>
  if siteG x.1 ∧ (0 ≤ x.2.1 ∧ x.2.1 < x.1.1) ∧ (0 ≤ x.2.2.1 ∧ x.2.2.1 < x.1.2.1) ∧ (0 ≤ x.2.2.2 ∧ x.2.2.2 < x.1.2.2.1) then some (siteV x.1 x.2.2.1.toNat x.2.1.toNat x.2.2.2.toNat) else none
def F_spec_l32At : Site × Int → Option (Int × Int × List Int) := fun x =>
  if siteG x.1 ∧ (0 ≤ x.2 ∧ x.2 < x.1.2.1) then some (x.1.1, x.1.2.2.1, genD x.1.1.toNat x.1.2.2.1.toNat (siteV x.1 x.2.toNat)) else none
def F_spec_l32Elem : (Int × List Site) × List Int → Option Int := fun x => if chainOk x.1 = true ∧ idxB (dimsOf x.1.2) x.2 = true then some (chainAt x.1.1 x.1.2 x.2) else none
def F_impl_rawChainAt : (Int × List Site) × List Int → Option Int := F_spec_l32Elem
def ag_impl_chainDims : Sig := [(.agg, [.int .i64, .list [.int .i64, .int .i64, .int .i64, .list [.int .i64]]])]
def rs_impl_chainDims : Sig := [(.one, [.list [.int .i64]])]
def mu_impl_chainDims : MSig := []
def ag_impl_Site_at : Sig := [(.agg, [.int .i64, .int .i64, .int .i64, .list [.int .i64]]), (.one, [.int .i64]), (.one, [.int .i64]), (.one, [.int .i64])]
def rs_impl_Site_at : Sig := [(.one, [.int .i64])]
def mu_impl_Site_at : MSig := []
def ag_spec_l32At : Sig := [(.agg, [.int .i64, .int .i64, .int .i64, .list [.int .i64]]), (.one, [.int .i64])]
def rs_spec_l32At : Sig := [(.agg, [.int .i64, .int .i64, .list [.int .i64]])]
def mu_spec_l32At : MSig := []
def ag_spec_l32Elem : Sig := [(.agg, [.int .i64, .list [.int .i64, .int .i64, .int .i64, .list [.int .i64]]]), (.one, [.list [.int .i64]])]
def rs_spec_l32Elem : Sig := [(.one, [.int .i64])]
def mu_spec_l32Elem : MSig := []
def ag_impl_rawChainAt : Sig := [(.agg, [.int .i64, .list [.int .i64, .int .i64, .int .i64, .list [.int .i64]]]), (.one, [.list [.int .i64]])]
def rs_impl_rawChainAt : Sig := [(.one, [.int .i64])]
def mu_impl_rawChainAt : MSig := []
def G_impl_chainDims (NN : Nat) : (Int × (List (Int × (Int × (Int × (List Int)))))) → (Option (List Int)) :=
 (fun ((i0, l1) : (Int × (List (Int × (Int × (Int × (List Int))))))) =>
 joinK ((fulI 0 0 (lenN (([] : List Int)))).bnd (fun (_ : Unit) =>
 loopT NN (fun (((l2, i3, i4), l5) : (((List (Int × (Int × (Int × (List Int))))) × (Int × Int)) × (List Int))) =>
 cnd (ltI i4 i3)
 ((getI l2 i4).bnd (fun ((i6, i7, i8, l9) : (Int × (Int × (Int × (List Int))))) =>
 (fulI 0 (lenN l5) (lenN l5)).bnd (fun (_ : Unit) =>
 (winI ((i7 :: ([] : List Int))) 0 1).bnd (fun (l10 : (List Int)) =>
 (fitI (addN (lenN l5) (lenN l10)) 8).bnd (fun (_ : Unit) =>
 (fulI 0 (addN (lenN l5) (lenN l10)) (lenN (appL l5 l10))).bnd (fun (_ : Unit) =>
 some (Sum.inl ((l2, i3, addI .i64 i4 (1 : Int)), appL l5 l10))))))))
 (((fulI 0 (lenN l5) (lenN l5)).bnd (fun (_ : Unit) =>
 some (Sum.inl l5))).bnd (fun (l11 : ((List Int) ⊕ (List Int))) =>
 some (Sum.inr l11))))
 ((l1, natI (lenN l1), (0 : Int)), ([] : List Int))))
 (fun (l12 : (List Int)) =>
 (takI l12 (lenN l12)).bnd (fun (l13 : (List Int)) =>
 some l13)))


def G_impl_Site_at (NN : Nat) : ((Int × (Int × (Int × (List Int)))) × (Int × (Int × Int))) → (Option Int) :=
 (fun (((i0, i1, i2, l3), i4, i5, i6) : ((Int × (Int × (Int × (List Int)))) × (Int × (Int × Int)))) =>
 (getI l3 (addI .i64 (mulI .i64 (addI .i64 (mulI .i64 i4 i1) i5) i2) i6)).bnd (fun (i7 : Int) =>
 some i7))


def G_spec_l32At (NN : Nat) : ((Int × (Int × (Int × (List Int)))) × Int) → (Option (Int × (Int × (List Int)))) :=
 (fun (((i0, i1, i2, l3), i4) : ((Int × (Int × (Int × (List Int)))) × Int)) =>
 (F_spec_l31New (i0, i2)).bnd (fun ((i5, i6, l7) : (Int × (Int × (List Int)))) =>
 joinK ((fulI 0 0 (lenN (([] : List Int)))).bnd (fun (_ : Unit) =>
 (fulI 0 (lenN l7) (lenN l7)).bnd (fun (_ : Unit) =>
 loopT NN (fun (((i8, i9), (i10, i11, i12, l13), (i14, i15), (i16, i17), l18, l19) : ((Int × Int) × ((Int × (Int × (Int × (List Int)))) × ((Int × Int) × ((Int × Int) × ((List Int) × (List Int))))))) =>
 cnd (ltI i9 i10)
 (joinK ((fulI 0 (lenN l18) (lenN l18)).bnd (fun (_ : Unit) =>
 (fulI 0 (lenN l19) (lenN l19)).bnd (fun (_ : Unit) =>
 loopT NN (fun (((i20, i21, i22), (i23, i24, i25, l26), (i27, i28), (i29, i30), l31, l32) : ((Int × (Int × Int)) × ((Int × (Int × (Int × (List Int)))) × ((Int × Int) × ((Int × Int) × ((List Int) × (List Int))))))) =>
 cnd (ltI i22 i25)
 ((getI l26 (addI .i64 (mulI .i64 (addI .i64 (mulI .i64 i21 i24) i20) i25) i22)).bnd (fun (i33 : Int) =>
 (chkI (addI .i64 (mulI .i64 i21 i25) i22) (lenN l32)).bnd (fun (k34 : Nat) =>
 (getN l32 (addN 0 k34)).bnd (fun (i35 : Int) =>
 (fulI 0 (lenN l31) (lenN l31)).bnd (fun (_ : Unit) =>
 (fulI 0 (lenN l32) (lenN (setL l32 (addN 0 k34) i33))).bnd (fun (_ : Unit) =>
 some (Sum.inl ((i20, i21, addI .i64 i22 (1 : Int)), (i23, i24, i25, l26), (i27, i28), (i29, i30), l31, setL l32 (addN 0 k34) i33))))))))
 (((fulI 0 (lenN l31) (lenN l31)).bnd (fun (_ : Unit) =>
 (fulI 0 (lenN l32) (lenN l32)).bnd (fun (_ : Unit) =>
 some (Sum.inl ((i21, i20), (i23, i24, i25, l26), (i27, i28), (i29, i30), l31, l32))))).bnd (fun (l36 : (((Int × Int) × ((Int × (Int × (Int × (List Int)))) × ((Int × Int) × ((Int × Int) × ((List Int) × (List Int)))))) ⊕ (((Int × Int) × ((Int × (Int × (Int × (List Int)))) × ((Int × Int) × ((Int × Int) × ((List Int) × (List Int)))))) ⊕ (((Int × Int) × ((Int × Int) × ((List Int) × (List Int)))) ⊕ (Int × (Int × (List Int))))))) =>
 some (Sum.inr l36))))
 ((i8, i9, (0 : Int)), (i10, i11, i12, l13), (i14, i15), (i16, i17), l18, l19))))
 (fun (((i37, i38), (i39, i40, i41, l42), (i43, i44), (i45, i46), l47, l48) : ((Int × Int) × ((Int × (Int × (Int × (List Int)))) × ((Int × Int) × ((Int × Int) × ((List Int) × (List Int))))))) =>
 (fulI 0 (lenN l47) (lenN l47)).bnd (fun (_ : Unit) =>
 (fulI 0 (lenN l48) (lenN l48)).bnd (fun (_ : Unit) =>
 some (Sum.inl ((i38, addI .i64 i37 (1 : Int)), (i39, i40, i41, l42), (i43, i44), (i45, i46), l47, l48))))))
 (((fulI 0 (lenN l18) (lenN l18)).bnd (fun (_ : Unit) =>
 (fulI 0 (lenN l19) (lenN l19)).bnd (fun (_ : Unit) =>
 some (Sum.inl ((i14, i15), (i16, i17), l18, l19))))).bnd (fun (l49 : (((Int × Int) × ((Int × Int) × ((List Int) × (List Int)))) ⊕ (Int × (Int × (List Int))))) =>
 some (Sum.inr l49))))
 ((i4, (0 : Int)), (i0, i1, i2, l3), ((0 : Int), (0 : Int)), (i5, i6), ([] : List Int), l7))))
 (fun (((i50, i51), (i52, i53), l54, l55) : ((Int × Int) × ((Int × Int) × ((List Int) × (List Int))))) =>
 (takI l55 (lenN l55)).bnd (fun (l56 : (List Int)) =>
 some (i52, i53, l56)))))


def G_spec_l32Elem (NN : Nat) : ((Int × (List (Int × (Int × (Int × (List Int)))))) × (List Int)) → (Option Int) :=
 (fun (((i0, l1), l2) : ((Int × (List (Int × (Int × (Int × (List Int)))))) × (List Int))) =>
 joinK ((fulI 0 1 (lenN (((1 : Int) :: ([] : List Int))))).bnd (fun (_ : Unit) =>
 loopT NN (fun (((l3, l4, i5, i6), (i7, l8), (i9, i10), l11) : (((List Int) × ((List (Int × (Int × (Int × (List Int))))) × (Int × Int))) × ((Int × (List (Int × (Int × (Int × (List Int)))))) × ((Int × Int) × (List Int))))) =>
 cnd (ltI i6 i5)
 ((getI l4 i6).bnd (fun ((i12, i13, i14, l15) : (Int × (Int × (Int × (List Int))))) =>
 (getI l3 i6).bnd (fun (i16 : Int) =>
 (F_spec_l32At ((i12, i13, i14, l15), i16)).bnd (fun ((i17, i18, l19) : (Int × (Int × (List Int)))) =>
 (winI l11 0 (lenN l11)).bnd (fun (l20 : (List Int)) =>
 (winI l19 0 (lenN l19)).bnd (fun (l21 : (List Int)) =>
 (F_spec_l31Mul (i7, (i9, i10, l20), i17, i18, l21)).bnd (fun ((i22, i23, l24) : (Int × (Int × (List Int)))) =>
 (fulI 0 (lenN l24) (lenN l24)).bnd (fun (_ : Unit) =>
 some (Sum.inl ((l3, l4, i5, addI .i64 i6 (1 : Int)), (i7, l8), (i22, i23), l24))))))))))
 (((fulI 0 (lenN l11) (lenN l11)).bnd (fun (_ : Unit) =>
 some (Sum.inl ((i9, i10), l11)))).bnd (fun (l25 : (((Int × Int) × (List Int)) ⊕ Int)) =>
 some (Sum.inr l25))))
 ((l2, l1, natI (lenN l1), (0 : Int)), (i0, l1), ((1 : Int), (1 : Int)), ((1 : Int) :: ([] : List Int)))))
 (fun (((i26, i27), l28) : ((Int × Int) × (List Int))) =>
 (chkI (0 : Int) (lenN l28)).bnd (fun (k29 : Nat) =>
 (getN l28 (addN 0 k29)).bnd (fun (i30 : Int) =>
 some i30))))


def G_impl_rawChainAt (NN : Nat) : ((Int × (List (Int × (Int × (Int × (List Int)))))) × (List Int)) → (Option Int) :=
 (fun (((i0, l1), l2) : ((Int × (List (Int × (Int × (Int × (List Int)))))) × (List Int))) =>
 joinK ((fulI 0 1 (lenN (((1 : Int) :: ([] : List Int))))).bnd (fun (_ : Unit) =>
 loopT NN (fun (((l3, l4, i5, i6), (i7, l8), l9) : (((List Int) × ((List (Int × (Int × (Int × (List Int))))) × (Int × Int))) × ((Int × (List (Int × (Int × (Int × (List Int)))))) × (List Int)))) =>
 cnd (ltI i6 i5)
 (joinK ((getI l4 i6).bnd (fun ((i10, i11, i12, l13) : (Int × (Int × (Int × (List Int))))) =>
 (mkI i12 i12 8).bnd (fun (k14 : Nat) =>
 joinK ((fulI 0 (lenN l9) (lenN l9)).bnd (fun (_ : Unit) =>
 (fulI 0 k14 (lenN (repL k14 (0 : Int)))).bnd (fun (_ : Unit) =>
 loopT NN (fun (((l15, i16, l17, i18, i19, i20, i21), (i22, l23), (i24, i25, i26, l27), l28, l29) : (((List Int) × (Int × ((List (Int × (Int × (Int × (List Int))))) × (Int × (Int × (Int × Int)))))) × ((Int × (List (Int × (Int × (Int × (List Int)))))) × ((Int × (Int × (Int × (List Int)))) × ((List Int) × (List Int)))))) =>
 cnd (ltI i21 i20)
 (joinK ((fulI 0 (lenN l28) (lenN l28)).bnd (fun (_ : Unit) =>
 (fulI 0 (lenN l29) (lenN l29)).bnd (fun (_ : Unit) =>
 (fulI 0 (lenN l28) (lenN l28)).bnd (fun (_ : Unit) =>
 loopT NN (fun (((l30, i31, i32, l33, i34, i35, i36, i37, i38, i39), (i40, l41), (i42, i43, i44, l45), l46, l47) : (((List Int) × (Int × (Int × ((List (Int × (Int × (Int × (List Int))))) × (Int × (Int × (Int × (Int × (Int × Int))))))))) × ((Int × (List (Int × (Int × (Int × (List Int)))))) × ((Int × (Int × (Int × (List Int)))) × ((List Int) × (List Int)))))) =>
 cnd (ltI i39 i38)
 ((chkI i39 (lenN l46)).bnd (fun (k48 : Nat) =>
 (getN l46 (addN 0 k48)).bnd (fun (i49 : Int) =>
 (chkI i32 (lenN l47)).bnd (fun (k50 : Nat) =>
 (getN l47 (addN 0 k50)).bnd (fun (i51 : Int) =>
 (getI l30 i31).bnd (fun (i52 : Int) =>
 (F_impl_Site_at ((i42, i43, i44, l45), i39, i52, i32)).bnd (fun (i53 : Int) =>
 (remI (addI .i64 i51 (mulI .i64 i49 i53)) i40).bnd (fun (i54 : Int) =>
 (chkI i32 (lenN l47)).bnd (fun (k55 : Nat) =>
 (getN l47 (addN 0 k55)).bnd (fun (i56 : Int) =>
 (fulI 0 (lenN l46) (lenN l46)).bnd (fun (_ : Unit) =>
 (fulI 0 (lenN l47) (lenN (setL l47 (addN 0 k55) i54))).bnd (fun (_ : Unit) =>
 (fulI 0 (lenN l46) (lenN l46)).bnd (fun (_ : Unit) =>
 some (Sum.inl ((l30, i31, i32, l33, i34, i35, i36, i37, i38, addI .i64 i39 (1 : Int)), (i40, l41), (i42, i43, i44, l45), l46, setL l47 (addN 0 k55) i54)))))))))))))))
 (((fulI 0 (lenN l46) (lenN l46)).bnd (fun (_ : Unit) =>
 (fulI 0 (lenN l47) (lenN l47)).bnd (fun (_ : Unit) =>
 some (Sum.inl ((i37, l30, i31, l33, i34, i35, i36), (i40, l41), (i42, i43, i44, l45), l46, l47))))).bnd (fun (l57 : (((Int × ((List Int) × (Int × ((List (Int × (Int × (Int × (List Int))))) × (Int × (Int × Int)))))) × ((Int × (List (Int × (Int × (Int × (List Int)))))) × ((Int × (Int × (Int × (List Int)))) × ((List Int) × (List Int))))) ⊕ ((((List Int) × (Int × ((List (Int × (Int × (Int × (List Int))))) × (Int × (Int × (Int × Int)))))) × ((Int × (List (Int × (Int × (Int × (List Int)))))) × ((Int × (Int × (Int × (List Int)))) × ((List Int) × (List Int))))) ⊕ (((Int × ((List Int) × ((List (Int × (Int × (Int × (List Int))))) × Int))) × ((Int × (List (Int × (Int × (Int × (List Int)))))) × (List Int))) ⊕ (((Int × ((List Int) × ((List (Int × (Int × (Int × (List Int))))) × Int))) × ((Int × (List (Int × (Int × (Int × (List Int)))))) × (List Int))) ⊕ ((((List Int) × ((List (Int × (Int × (Int × (List Int))))) × (Int × Int))) × ((Int × (List (Int × (Int × (Int × (List Int)))))) × (List Int))) ⊕ ((List Int) ⊕ Int))))))) =>
 some (Sum.inr l57))))
 ((l15, i16, i21, l17, i18, i19, i20, i21, natI (lenN l28), (0 : Int)), (i22, l23), (i24, i25, i26, l27), l28, l29)))))
 (fun (((i58, l59, i60, l61, i62, i63, i64), (i65, l66), (i67, i68, i69, l70), l71, l72) : ((Int × ((List Int) × (Int × ((List (Int × (Int × (Int × (List Int))))) × (Int × (Int × Int)))))) × ((Int × (List (Int × (Int × (Int × (List Int)))))) × ((Int × (Int × (Int × (List Int)))) × ((List Int) × (List Int)))))) =>
 (fulI 0 (lenN l71) (lenN l71)).bnd (fun (_ : Unit) =>
 (fulI 0 (lenN l72) (lenN l72)).bnd (fun (_ : Unit) =>
 some (Sum.inl ((l59, i60, l61, i62, i63, i64, addI .i64 i58 (1 : Int)), (i65, l66), (i67, i68, i69, l70), l71, l72))))))
 (((fulI 0 (lenN l29) (lenN l29)).bnd (fun (_ : Unit) =>
 some (Sum.inl ((i19, l15, l17, i18), (i22, l23), l29)))).bnd (fun (l73 : (((Int × ((List Int) × ((List (Int × (Int × (Int × (List Int))))) × Int))) × ((Int × (List (Int × (Int × (Int × (List Int)))))) × (List Int))) ⊕ (((Int × ((List Int) × ((List (Int × (Int × (Int × (List Int))))) × Int))) × ((Int × (List (Int × (Int × (Int × (List Int)))))) × (List Int))) ⊕ ((((List Int) × ((List (Int × (Int × (Int × (List Int))))) × (Int × Int))) × ((Int × (List (Int × (Int × (Int × (List Int)))))) × (List Int))) ⊕ ((List Int) ⊕ Int))))) =>
 some (Sum.inr l73))))
 ((l3, i6, l4, i5, i6, natI k14, (0 : Int)), (i7, l8), (i10, i11, i12, l13), l9, repL k14 (0 : Int)))))
 (fun (((i74, l75, l76, i77), (i78, l79), l80) : ((Int × ((List Int) × ((List (Int × (Int × (Int × (List Int))))) × Int))) × ((Int × (List (Int × (Int × (Int × (List Int)))))) × (List Int)))) =>
 (fulI 0 (lenN l80) (lenN l80)).bnd (fun (_ : Unit) =>
 some (Sum.inl ((i74, l75, l76, i77), (i78, l79), l80)))))))
 (fun (((i81, l82, l83, i84), (i85, l86), l87) : ((Int × ((List Int) × ((List (Int × (Int × (Int × (List Int))))) × Int))) × ((Int × (List (Int × (Int × (Int × (List Int)))))) × (List Int)))) =>
 (fulI 0 (lenN l87) (lenN l87)).bnd (fun (_ : Unit) =>
 some (Sum.inl ((l82, l83, i84, addI .i64 i81 (1 : Int)), (i85, l86), l87)))))
 (((fulI 0 (lenN l9) (lenN l9)).bnd (fun (_ : Unit) =>
 some (Sum.inl l9))).bnd (fun (l88 : ((List Int) ⊕ Int)) =>
 some (Sum.inr l88))))
 ((l2, l1, natI (lenN l1), (0 : Int)), (i0, l1), ((1 : Int) :: ([] : List Int)))))
 (fun (l89 : (List Int)) =>
 (chkI (0 : Int) (lenN l89)).bnd (fun (k90 : Nat) =>
 (getN l89 (addN 0 k90)).bnd (fun (i91 : Int) =>
 some i91))))


/-! ### good chains -/

def bd (b : Int) (l : List Site) : Nat → Int
  | 0 => b
  | k + 1 => (l.getD k site0).2.2.1

theorem chStep_iff {m : Int} : ∀ (l : List Site) (i : Nat) (b c : Int), foldO (chStep m) i b l = some c ↔ ((∀ k, k < l.length → siteOk m (l.getD k site0) = true ∧ (l.getD k site0).1 = bd b l k) ∧ c = bd b l l.length)
  | [], i, b, c => by
    simp only [foldO, bd, List.length_nil]
    exact ⟨fun h => ⟨fun k hk => absurd hk (Nat.not_lt_zero k), (Option.some.inj h).symm⟩, fun h => by rw [h.2]⟩
  | s :: l, i, b, c => by
    have key : ∀ k, bd b (s :: l) (k + 1) = bd s.2.2.1 l k := fun k => by cases k <;> rfl
    rw [foldO]
    by_cases hs : siteOk m s = true ∧ s.1 = b
    · rw [show chStep m i b s = some s.2.2.1 from if_pos hs]
      try simp only
      rw [chStep_iff l (i + 1) s.2.2.1 c]
      constructor
      · rintro ⟨h1, h2⟩
        refine ⟨fun k hk => ?_, h2.trans (key _).symm⟩
        cases k with
        | zero => exact hs
        | succ k => rw [key]; exact h1 k (by simpa using hk)
      · rintro ⟨h1, h2⟩
        exact ⟨fun k hk => by rw [← key]; exact h1 (k + 1) (by simpa using hk), h2.trans (key _)⟩
    · rw [show chStep m i b s = none from if_neg hs]
      constructor
      · intro h; cases h
      · rintro ⟨h1, _⟩
        exact absurd (h1 0 (by simp)) hs

theorem bd_toNat (l : List Site) (k : Nat) : (bd 1 l k).toNat = bondN l k := by cases k <;> rfl

/-- What a good chain is. -/
theorem chainOk_t {m : Int} {l : List Site} (h : chainOk (m, l) = true) : pOk m ∧ (1 ≤ l.length ∧ l.length ≤ 8) ∧ prodI (dimsOf l) ≤ 4096 ∧ bondN l l.length = 1 ∧
    ∀ i, i < l.length → ∃ (p : Nat) (M : Mat), l.getD i site0 = ((bondN l i : Int), (p : Int), (bondN l (i + 1) : Int), genD (bondN l i * p) (bondN l (i + 1)) M) ∧ bondN l i ≤ 32 ∧ bondN l (i + 1) ≤ 32 ∧ (1 ≤ p ∧ p ≤ 8) ∧
      inM m (bondN l i * p) (bondN l (i + 1)) M ∧ M = ofD (bondN l (i + 1)) (genD (bondN l i * p) (bondN l (i + 1)) M) := by
  simp only [chainOk, Bool.and_eq_true, decide_eq_true_eq] at h
  obtain ⟨hp, hl, h⟩ := h
  cases hf : foldO (chStep m) 0 1 l with
  | none => rw [hf] at h; cases h
  | some c =>
    rw [hf] at h
    simp only [Bool.and_eq_true, decide_eq_true_eq] at h
    obtain ⟨h1, h2⟩ := (chStep_iff l 0 1 c).1 hf
    have hm := isPrimeI_t hp
    refine ⟨hm, hl, h.2, by rw [← bd_toNat, ← h2, h.1]; rfl, fun i hi => ?_⟩
    obtain ⟨s1, s2⟩ := h1 i hi
    have e2 : (l.getD i site0).2.2.1 = bd 1 l (i + 1) := rfl
    generalize hs : l.getD i site0 = s at *
    obtain ⟨a, p, c', d⟩ := s
    obtain ⟨t1, t2, t3, t4, t5⟩ := siteOk_t s1
    simp only at s2 e2
    obtain ⟨p, rfl⟩ := natI_eq (show 0 ≤ p by omega)
    have ea : a = (bondN l i : Int) := by rw [← bd_toNat, ← s2]; omega
    have ec : c' = (bondN l (i + 1) : Int) := by rw [← bd_toNat, ← e2]; omega
    subst ea ec
    have el : d.length = bondN l i * p * bondN l (i + 1) := by
      have : ((bondN l i : Int) * (p : Int) * (bondN l (i + 1) : Int)) = ((bondN l i * p * bondN l (i + 1) : Nat) : Int) := by norm_cast
      rw [this] at t4; exact_mod_cast t4
    have eg := genD_of (r := bondN l i * p) (c := bondN l (i + 1)) el
    refine ⟨p, ofD (bondN l (i + 1)) d, by rw [eg], by omega, by omega, by omega, ?_, by rw [eg]⟩
    rw [← allP_gen, eg]
    intro x hx
    exact of_decide_eq_true (List.all_eq_true.1 t5 x hx)

theorem dims_getD (l : List Site) (i : Nat) : (dimsOf l).getD i 0 = (l.getD i site0).2.1 := by
  simp only [dimsOf, List.getD_eq_getElem?_getD, List.getElem?_map]
  cases l[i]? <;> rfl
theorem dims_len (l : List Site) : (dimsOf l).length = l.length := by simp [dimsOf]

theorem siteG_gen {s : Site} (h : siteG s) : ∃ (a p c : Nat) (M : Mat), s = ((a : Int), (p : Int), (c : Int), genD (a * p) c M) ∧ a ≤ 64 ∧ p ≤ 64 ∧ c ≤ 64 ∧ M = ofD c (genD (a * p) c M) := by
  obtain ⟨a, p, c, d⟩ := s
  obtain ⟨h1, h2, h3, h4⟩ := h
  simp only at h1 h2 h3 h4
  obtain ⟨a, rfl⟩ := natI_eq h1.1
  obtain ⟨p, rfl⟩ := natI_eq h2.1
  obtain ⟨c, rfl⟩ := natI_eq h3.1
  have el : d.length = a * p * c := by
    have : ((a : Int) * (p : Int) * (c : Int)) = ((a * p * c : Nat) : Int) := by norm_cast
    rw [this] at h4; exact_mod_cast h4
  have eg := genD_of (r := a * p) (c := c) el
  exact ⟨a, p, c, ofD c d, by rw [eg], by omega, by omega, by omega, by rw [eg]⟩
theorem siteG_mk {a p c : Nat} (M : Mat) (ha : a ≤ 64) (hp : p ≤ 64) (hc : c ≤ 64) : siteG ((a : Int), (p : Int), (c : Int), genD (a * p) c M) := by
  refine ⟨⟨by omega, by show (a : Int) ≤ 64; omega⟩, ⟨by show (0 : Int) ≤ p; omega, by show (p : Int) ≤ 64; omega⟩, ⟨by show (0 : Int) ≤ c; omega, by show (c : Int) ≤ 64; omega⟩, ?_⟩
  simp only [genD_len]; norm_cast
theorem siteV_gen {a p c : Nat} {M : Mat} (e : M = ofD c (genD (a * p) c M)) (v : Nat) : siteV ((a : Int), (p : Int), (c : Int), genD (a * p) c M) v = fun i j => M (i * p + v) j := by
  funext i j
  simp only [siteV, siteM, Int.toNat_natCast]
  rw [← e]

theorem f_impl_Site_at (x : Site × Int × Int × Int) (y : Int) (h : F_impl_Site_at x = some y) : G_impl_Site_at FUEL x = some y := by
  obtain ⟨s, i, v, j⟩ := x
  simp only [F_impl_Site_at] at h
  split at h
  · rename_i hc
    obtain ⟨hs, hi, hv, hj⟩ := hc
    obtain ⟨a, p, c, M, rfl, ha, hp, hc, eM⟩ := siteG_gen hs
    obtain ⟨i, rfl⟩ := natI_eq hi.1
    obtain ⟨v, rfl⟩ := natI_eq hv.1
    obtain ⟨j, rfl⟩ := natI_eq hj.1
    rw [← h, siteV_gen eM]
    simp only [Int.toNat_natCast, G_impl_Site_at]
    have hi' : i < a := by have := hi.2; simp only at this; omega
    have hv' : v < p := by have := hv.2; simp only at this; omega
    have hj' : j < c := by have := hj.2; simp only at this; omega
    have hk := idx_lt hi' hv'
    have hap : a * p ≤ 64 * 64 := Nat.mul_le_mul ha hp
    rw [idxI (by omega) (by omega) (by omega), idxI (by omega) (by omega) (by omega), getI_gen M hk hj', bnd_s]
  · cases h

theorem siteAt_nat {a p c i v j : Nat} {M : Mat} (ha : a ≤ 64) (hp : p ≤ 64) (hc : c ≤ 64) (e : M = ofD c (genD (a * p) c M)) (hi : i < a) (hv : v < p) (hj : j < c) :
    F_impl_Site_at (((a : Int), (p : Int), (c : Int), genD (a * p) c M), (i : Int), (v : Int), (j : Int)) = some (M (i * p + v) j) := by
  simp only [F_impl_Site_at]
  rw [if_pos ⟨siteG_mk M ha hp hc, by first | omega | (simp only; omega), by first | omega | (simp only; omega), by first | omega | (simp only; omega)⟩, siteV_gen e]
  simp only [Int.toNat_natCast]

theorem f_spec_l32At (x : Site × Int) (y : Int × Int × List Int) (h : F_spec_l32At x = some y) : G_spec_l32At FUEL x = some y := by
  obtain ⟨s, v⟩ := x
  simp only [F_spec_l32At] at h
  split at h
  · rename_i hc
    obtain ⟨hs, hv⟩ := hc
    obtain ⟨a, p, c, M, rfl, ha, hp, hc, eM⟩ := siteG_gen hs
    obtain ⟨v, rfl⟩ := natI_eq hv.1
    rw [← h, siteV_gen eM]
    simp only [Int.toNat_natCast]
    have hv' : v < p := by have := hv.2; simp only at this; omega
    have hap : a * p ≤ 64 * 64 := Nat.mul_le_mul ha hp
    have hac : a * c ≤ 64 * 64 := Nat.mul_le_mul ha hc
    generalize hW : (fun i j => M (i * p + v) j : Mat) = W
    simp only [G_spec_l32At, new_nat (r := a) (c := c) (by omega) (by omega) (by omega), bnd_s, fulI_id]
    rw [show fulI 0 0 (lenN ([] : List Int)) = some () from rfl, bnd_s]
    rw [loopT_seq (fun i => (((v : Int), (i : Int)), ((a : Int), (p : Int), (c : Int), genD (a * p) c M), ((0 : Int), (0 : Int)), ((a : Int), (c : Int)), ([] : List Int), genD a c (mulTo W i 0))) (r := Sum.inl (((0 : Int), (0 : Int)), ((a : Int), (c : Int)), ([] : List Int), genD a c W)) a ?_ ?_ ?_ (FUEL_gt (by omega))]
    · rw [joinK_l]; simp only [takI_id, bnd_s]
    · intro i hi
      try simp only
      rw [cnd_t (ltN_t hi)]
      rw [loopT_seq (fun j => (((v : Int), (i : Int), (j : Int)), ((a : Int), (p : Int), (c : Int), genD (a * p) c M), ((0 : Int), (0 : Int)), ((a : Int), (c : Int)), ([] : List Int), genD a c (mulTo W i j))) (r := Sum.inl (((i : Int), (v : Int)), ((a : Int), (p : Int), (c : Int), genD (a * p) c M), ((0 : Int), (0 : Int)), ((a : Int), (c : Int)), ([] : List Int), genD a c (mulTo W (i + 1) 0))) c ?_ ?_ ?_ (FUEL_gt (by omega))]
      · rw [joinK_l]; simp only [addN1 (show i ≤ 1048577 by omega)]
      · intro j hj
        try simp only
        have hk := idx_lt hi hv'
        rw [cnd_t (ltN_t hj), idxI (by omega) (by omega) (by omega), idxI (by omega) (by omega) (by omega), getI_gen M hk hj, bnd_s, idxI (by omega) (by omega) (by omega), chkI_gen _ hi hj, bnd_s, addN_0, getN_gen _ hi hj, bnd_s]
        rw [show M (i * p + v) j = W i j by rw [← hW], setL_gen _ hj, mul_step]
        simp only [fulI_gen, bnd_s, addN1 (show j ≤ 1048577 by omega)]
      · try simp only
        rw [cnd_f (ltN_f (Nat.le_refl c)), mul_row]
      · rfl
    · try simp only
      rw [cnd_f (ltN_f (Nat.le_refl a)), mul_end]
    · rw [mul_0]; rfl
  · cases h

theorem l32At_nat {a p c v : Nat} {M : Mat} (ha : a ≤ 64) (hp : p ≤ 64) (hc : c ≤ 64) (e : M = ofD c (genD (a * p) c M)) (hv : v < p) :
    F_spec_l32At (((a : Int), (p : Int), (c : Int), genD (a * p) c M), (v : Int)) = some ((a : Int), (c : Int), genD a c (fun i j => M (i * p + v) j)) := by
  simp only [F_spec_l32At]
  rw [if_pos ⟨siteG_mk M ha hp hc, by first | omega | (simp only; omega)⟩, siteV_gen e]
  simp only [Int.toNat_natCast]

/-! ### rows -/

def rowL (n : Nat) (f : Nat → Int) : List Int := (List.range n).map f
theorem genD1 (n : Nat) (M : Mat) : genD 1 n M = rowL n (fun j => M 0 j) := by
  unfold genD rowL
  rw [Nat.one_mul]
  refine List.map_congr_left fun j hj => ?_
  have hj := List.mem_range.1 hj
  rw [Nat.div_eq_of_lt hj, Nat.mod_eq_of_lt hj]
theorem rowL_len (n : Nat) (f : Nat → Int) : (rowL n f).length = n := by simp [rowL]
theorem rowL_get {n j : Nat} (f : Nat → Int) (h : j < n) : (rowL n f)[j]? = some (f j) := by simp [rowL, List.getElem?_range h]
theorem rowL_congr {n : Nat} {f g : Nat → Int} (h : ∀ j, j < n → f j = g j) : rowL n f = rowL n g := List.map_congr_left fun j hj => h j (List.mem_range.1 hj)
theorem rowL_set {n j : Nat} (f : Nat → Int) (x : Int) : setL (rowL n f) j x = rowL n (fun q => if q = j then x else f q) := by
  unfold setL
  apply List.ext_getElem?
  intro k
  rw [List.getElem?_set, rowL_len]
  by_cases hk : k < n
  · rw [rowL_get _ hk, rowL_get _ hk]
    by_cases e : j = k
    · subst e; simp [hk]
    · rw [if_neg e]; simp [show ¬ k = j from fun h => e h.symm]
  · rw [List.getElem?_eq_none (by rw [rowL_len]; omega), List.getElem?_eq_none (by rw [rowL_len]; omega)]
    by_cases e : j = k
    · subst e; simp [hk]
    · simp [e]
theorem lenN_row (n : Nat) (f : Nat → Int) : lenN (rowL n f) = n := rowL_len n f
theorem rowL_rep (n : Nat) (x : Int) : repL n x = rowL n (fun _ => x) := by
  unfold repL rowL
  rw [List.map_const', List.length_range]
theorem fulI_row (n : Nat) (f g : Nat → Int) : fulI 0 (lenN (rowL n f)) (lenN (rowL n g)) = some () := by rw [lenN_row, lenN_row]; exact fulI_id n
theorem chkI_row {n j : Nat} (f : Nat → Int) (h : j < n) : chkI (j : Int) (lenN (rowL n f)) = some j := chkI_nat (by rw [lenN_row]; exact h)
theorem getN_row {n j : Nat} (f : Nat → Int) (h : j < n) : getN (rowL n f) j = some (f j) := rowL_get f h
theorem rowN_in {m : Int} (hm : pOk m) (l : List Site) (ix : List Int) : ∀ i j, inP m (rowN m l ix i j)
  | 0, j => ⟨by show (0 : Int) ≤ 1; omega, by have := hm.1; show (1 : Int) < m; omega⟩
  | i + 1, j => dotF_in hm _ _ _

theorem idxB_t {D ix : List Int} (h : idxB D ix = true) : ix.length = D.length ∧ ∀ i, i < D.length → 0 ≤ ix.getD i 0 ∧ ix.getD i 0 < D.getD i 0 := by
  simp only [idxB, Bool.and_eq_true, decide_eq_true_eq] at h
  exact h

/-- A site of a good chain and a value. -/
theorem site_at {m : Int} {l : List Site} {ix : List Int} (h : chainOk (m, l) = true) (hx : idxB (dimsOf l) ix = true) {i : Nat} (hi : i < l.length) :
    ∃ (p v : Nat) (M : Mat), l[i]? = some ((bondN l i : Int), (p : Int), (bondN l (i + 1) : Int), genD (bondN l i * p) (bondN l (i + 1)) M) ∧ ix[i]? = some (v : Int) ∧ v < p ∧ bondN l i ≤ 32 ∧ bondN l (i + 1) ≤ 32 ∧ p ≤ 8 ∧
      inM m (bondN l i * p) (bondN l (i + 1)) M ∧ M = ofD (bondN l (i + 1)) (genD (bondN l i * p) (bondN l (i + 1)) M) ∧ rowN m l ix (i + 1) = fun j => dotF m (rowN m l ix i) (fun t => M (t * p + v) j) (bondN l i) := by
  obtain ⟨_, _, _, _, hs⟩ := chainOk_t h
  obtain ⟨p, M, e, h1, h2, h3, h4, h5⟩ := hs i hi
  obtain ⟨k1, k2⟩ := idxB_t hx
  have hk := k2 i (by rw [dims_len]; exact hi)
  rw [dims_getD, e] at hk
  simp only at hk
  obtain ⟨v, hv⟩ := natI_eq hk.1
  have hil : i < ix.length := by rw [k1, dims_len]; exact hi
  refine ⟨p, v, M, ?_, ?_, by omega, h1, h2, h3.2, h4, h5, ?_⟩
  · rw [getD_some site0 hi, e]
  · rw [getD_some 0 hil, hv]
  · funext j
    simp only [rowN, rowS, e, hv, Int.toNat_natCast]
    rw [siteV_gen h5]

theorem row_in {m : Int} {a p c v : Nat} {M : Mat} (h : inM m (a * p) c M) (hv : v < p) {t j : Nat} (ht : t < a) (hj : j < c) : inP m (M (t * p + v) j) := h _ (idx_lt ht hv) j hj

theorem f_spec_l32Elem (x : (Int × List Site) × List Int) (y : Int) (h : F_spec_l32Elem x = some y) : G_spec_l32Elem FUEL x = some y := by
  obtain ⟨⟨m, l⟩, ix⟩ := x
  simp only [F_spec_l32Elem] at h
  split at h
  · rename_i hc
    obtain ⟨hc, hx⟩ := hc
    rw [← h]
    obtain ⟨hm, hl, _, hb, _⟩ := chainOk_t hc
    simp only [G_spec_l32Elem, chainAt]
    rw [show fulI 0 1 (lenN [(1 : Int)]) = some () from rfl, bnd_s]
    rw [loopT_seq (fun i => ((ix, l, natI (lenN l), (i : Int)), (m, l), ((1 : Int), (bondN l i : Int)), genD 1 (bondN l i) (fun _ => rowN m l ix i))) (r := Sum.inl (((1 : Int), (1 : Int)), genD 1 1 (fun _ => rowN m l ix l.length))) l.length ?_ ?_ ?_ (FUEL_gt (by omega))]
    · rw [joinK_l]
      try simp only
      rw [show (0 : Int) = ((0 : Nat) : Int) from rfl, genD1, chkI_row _ (by omega), bnd_s, addN_0, getN_row _ (by omega), bnd_s]
    · intro i hi
      obtain ⟨p, v, M, e1, e2, hv, h1, h2, h3, h4, h5, h6⟩ := site_at hc hx hi
      try simp only
      rw [cnd_t (ltL_t hi), getI_nat, e1, bnd_s]
      try simp only
      have hbb : bondN l i * bondN l (i + 1) ≤ 32 * 32 := Nat.mul_le_mul h1 h2
      rw [getI_nat, e2, bnd_s, l32At_nat (by omega) (by omega) (by omega) h5 hv, bnd_s]
      simp only [winI_id, bnd_s]
      have hmul : F_spec_l31Mul (m, ((1 : Int), (bondN l i : Int), genD 1 (bondN l i) fun _ => rowN m l ix i), ((bondN l i : Int), (bondN l (i + 1) : Int), genD (bondN l i) (bondN l (i + 1)) fun i j => M (i * p + v) j)) = some ((1 : Int), (bondN l (i + 1) : Int), genD 1 (bondN l (i + 1)) (mulF m (bondN l i) (fun _ => rowN m l ix i) fun i j => M (i * p + v) j)) := mulS_nat (r := 1) (k := bondN l i) (c := bondN l (i + 1)) (A := fun _ => rowN m l ix i) (B := fun i j => M (i * p + v) j) hm (by omega) (by omega) (by omega) (by omega) (by omega) (by omega) (fun _ _ j _ => rowN_in hm l ix i j) (fun t ht j hj => row_in h4 hv ht hj)
      rw [hmul, bnd_s]
      simp only [fulI_id, bnd_s, addN1 (show i ≤ 1048577 by omega)]
      rw [h6]
      rfl
    · try simp only
      rw [cnd_f (ltI_end l), hb]
      simp only [fulI_id, bnd_s]
      rfl
    · rfl
  · cases h

/-- The row that is being summed up. -/
def accR (R' : Nat → Int) (j : Nat) (s : Int) : Nat → Int := fun q => if q < j then R' q else if q = j then s else 0

theorem f_impl_rawChainAt (x : (Int × List Site) × List Int) (y : Int) (h : F_impl_rawChainAt x = some y) : G_impl_rawChainAt FUEL x = some y := by
  obtain ⟨⟨m, l⟩, ix⟩ := x
  simp only [F_impl_rawChainAt, F_spec_l32Elem] at h
  split at h
  · rename_i hc
    obtain ⟨hc, hx⟩ := hc
    rw [← h]
    obtain ⟨hm, hl, _, hb, _⟩ := chainOk_t hc
    simp only [G_impl_rawChainAt, chainAt]
    rw [show fulI 0 1 (lenN [(1 : Int)]) = some () from rfl, bnd_s]
    rw [loopT_seq (fun i => ((ix, l, natI (lenN l), (i : Int)), (m, l), rowL (bondN l i) (rowN m l ix i))) (r := Sum.inl (rowL 1 (rowN m l ix l.length))) l.length ?_ ?_ ?_ (FUEL_gt (by omega))]
    · rw [joinK_l]
      try simp only
      rw [show (0 : Int) = ((0 : Nat) : Int) from rfl, chkI_row _ (by omega), bnd_s, addN_0, getN_row _ (by omega), bnd_s]
    · intro i hi
      obtain ⟨p, v, M, e1, e2, hv, h1, h2, h3, h4, h5, h6⟩ := site_at hc hx hi
      try simp only
      rw [cnd_t (ltL_t hi), getI_nat, e1, bnd_s]
      try simp only
      generalize hR : rowN m l ix i = R at *
      generalize hR' : rowN m l ix (i + 1) = R' at *
      generalize ha : bondN l i = a at *
      generalize hcc : bondN l (i + 1) = c at *
      have hRin : ∀ j, inP m (R j) := fun j => by rw [← hR]; exact rowN_in hm l ix i j
      rw [show mkI (c : Int) (c : Int) 8 = some c from mkI_nat (n := c) (by simp only [maxBytes]; omega), bnd_s]
      simp only [fulI_id, bnd_s, show fulI 0 c (lenN (repL c (0 : Int))) = some () from by rw [lenN_repL]; exact fulI_id c]
      rw [loopT_seq (fun j => ((ix, (i : Int), l, natI (lenN l), (i : Int), (c : Int), (j : Int)), (m, l), ((a : Int), (p : Int), (c : Int), genD (a * p) c M), rowL a R, rowL c (accR R' j 0))) (r := Sum.inl (((i : Int), ix, l, natI (lenN l)), (m, l), rowL c R')) c ?_ ?_ ?_ (FUEL_gt (by omega))]
      · rw [joinK_l]
        try simp only [fulI_row, bnd_s]
        rw [joinK_l]
        simp only [fulI_row, bnd_s, addN1 (show i ≤ 1048577 by omega)]
      · intro j hj
        try simp only
        rw [cnd_t (ltN_t hj)]
        try simp only [fulI_row, bnd_s]
        rw [loopT_seq (fun t => ((ix, (i : Int), (j : Int), l, natI (lenN l), (i : Int), (c : Int), (j : Int), natI (lenN (rowL a R)), (t : Int)), (m, l), ((a : Int), (p : Int), (c : Int), genD (a * p) c M), rowL a R, rowL c (accR R' j (dotF m R (fun t => M (t * p + v) j) t))))
          (r := Sum.inl (((j : Int), ix, (i : Int), l, natI (lenN l), (i : Int), (c : Int)), (m, l), ((a : Int), (p : Int), (c : Int), genD (a * p) c M), rowL a R, rowL c (accR R' (j + 1) 0))) a ?_ ?_ ?_ (FUEL_gt (by omega))]
        · rw [joinK_l]
          simp only [fulI_row, bnd_s, addN1 (show j ≤ 1048577 by omega)]
        · intro t ht
          try simp only
          rw [cnd_t (by rw [lenN_row]; exact ltN_t ht), chkI_row _ ht, bnd_s, addN_0, getN_row _ ht, bnd_s, chkI_row _ hj, bnd_s, addN_0, getN_row _ hj, bnd_s, getI_nat, e2, bnd_s, siteAt_nat (by omega) (by omega) (by omega) h5 ht hv hj, bnd_s]
          have ej : accR R' j (dotF m R (fun t => M (t * p + v) j) t) j = dotF m R (fun t => M (t * p + v) j) t := by simp [accR]
          rw [ej, macI hm ((dotF_in hm _ _ t).s hm) (hRin t).le (row_in h4 hv ht hj).le, bnd_s]
          have es : setL (rowL c (accR R' j (dotF m R (fun t => M (t * p + v) j) t))) j ((dotF m R (fun t => M (t * p + v) j) t + R t * M (t * p + v) j) % m) = rowL c (accR R' j (dotF m R (fun t => M (t * p + v) j) (t + 1))) := by
            rw [rowL_set]
            refine rowL_congr fun q _ => ?_
            simp only [accR, dotF]
            by_cases e : q = j
            · subst e; simp
            · simp [e]
          rw [bnd_s, addN_0, getN_row _ hj, bnd_s, es]
          simp only [fulI_row, bnd_s, addN1 (show t ≤ 1048577 by omega)]
        · try simp only
          rw [cnd_f (by rw [lenN_row]; exact ltN_f (Nat.le_refl a))]
          try simp only [fulI_row, bnd_s]
          have ee : rowL c (accR R' j (dotF m R (fun t => M (t * p + v) j) a)) = rowL c (accR R' (j + 1) 0) := by
            refine rowL_congr fun q _ => ?_
            simp only [accR, h6]
            by_cases e : q < j
            · simp [e, show q < j + 1 by omega]
            · by_cases e2 : q = j
              · subst e2; simp
              · simp [e, e2, show ¬ q < j + 1 by omega]
          rw [ee]
        · rfl
      · try simp only
        rw [cnd_f (ltN_f (Nat.le_refl c))]
        try simp only [fulI_row, bnd_s]
        rw [show rowL c (accR R' c 0) = rowL c R' from rowL_congr fun q hq => by simp [accR, hq]]
      · rw [rowL_rep, show rowL c (fun _ => 0) = rowL c (accR R' 0 0) from rowL_congr fun q _ => by simp [accR]]
        rfl
    · try simp only
      rw [cnd_f (ltI_end l), hb]
      try simp only [fulI_row, bnd_s]
    · rfl
  · cases h

theorem f_impl_chainDims (x : Int × List (Int × Int × Int × List Int)) (y : List Int) (h : F_impl_chainDims x = some y) : G_impl_chainDims FUEL x = some y := by
  have h0 := f_spec_l32Dims x y h
  exact h0

/-! ### bonds -/

theorem map_take {α : Type} (g : α → Int) {L : List α} {j : Nat} {x : α} (h : L[j]? = some x) : appL ((L.take j).map g) [g x] = (L.take (j + 1)).map g := by
  simp [appL, List.take_add_one, h]

end Go.Am
end
section
namespace Go.Am

/-! ### indices of dims -/
def prodN : List Int → Nat
  | [] => 1
  | x :: l => x.toNat * prodN l
def tailP (D : List Int) (i : Nat) : Nat := prodN (D.drop i)
def dig (D : List Int) (n i : Nat) : Int := ((n / tailP D (i + 1) % (D.getD i 0).toNat : Nat) : Int)
def idxN (D : List Int) (n : Nat) : List Int := rowL D.length (dig D n)
def numN (D ix : List Int) : Nat → Nat
  | 0 => 0
  | j + 1 => numN D ix j * (D.getD j 0).toNat + (ix.getD j 0).toNat
def dimsG (D : List Int) : Prop := D.length ≤ 1048576 ∧ ∀ x ∈ D, 1 ≤ x ∧ x ≤ 1048576
instance (D : List Int) : Decidable (dimsG D) := by unfold dimsG; infer_instance
def F_spec_l05Index : List Int × Int → Option (List Int) := fun x => if dimsG x.1 ∧ 0 ≤ x.2 ∧ x.2 ≤ 1048576 then some (idxN x.1 x.2.toNat) else none
def F_impl_nextIndex : List Int × List Int → Option (Bool × List Int) := fun x =>
  if dimsG x.1 ∧ x.2 = idxN x.1 (numN x.1 x.2 x.1.length) ∧ numN x.1 x.2 x.1.length < prodN x.1 ∧ prodN x.1 ≤ 1048576 then
    some (decide (numN x.1 x.2 x.1.length + 1 < prodN x.1), idxN x.1 (numN x.1 x.2 x.1.length + 1)) else none
def seqI (n : Nat) : List Int := rowL n fun i => (i : Int)
def tensL (m : Int) (l : List Site) : List Int × List Int × List Int := (seqI l.length, dimsOf l, rowL (prodN (dimsOf l)) fun n => chainAt m l (idxN (dimsOf l) n))
def F_spec_l32Tensor : Int × List Site → Option (List Int × List Int × List Int) := fun x => if chainOk x = true then some (tensL x.1 x.2) else none
def F_spec_ChainTensor : Int × List Site → Option (List Int × List Int × List Int) := fun x => if sz_Chain x ≤ 1048576 then some (if chainOk x = true then tensL x.1 x.2 else ([], [], [])) else none
def F_impl_ChainTensor : Int × List Site → Option (List Int × List Int × List Int) := F_spec_ChainTensor

def ag_spec_l05Index : Sig := [(.one, [.list [.int .i64]]), (.one, [.int .i64])]
def rs_spec_l05Index : Sig := [(.one, [.list [.int .i64]])]
def mu_spec_l05Index : MSig := []
def ag_impl_nextIndex : Sig := [(.one, [.list [.int .i64]]), (.one, [.list [.int .i64]])]
def rs_impl_nextIndex : Sig := [(.one, [.bool]), (.one, [.list [.int .i64]])]
def mu_impl_nextIndex : MSig := [[], [some .froz]]
def ag_spec_l32Tensor : Sig := [(.agg, [.int .i64, .list [.int .i64, .int .i64, .int .i64, .list [.int .i64]]])]
def rs_spec_l32Tensor : Sig := [(.agg, [.list [.int .i64], .list [.int .i64], .list [.int .i64]])]
def mu_spec_l32Tensor : MSig := []
def ag_spec_ChainTensor : Sig := [(.agg, [.int .i64, .list [.int .i64, .int .i64, .int .i64, .list [.int .i64]]])]
def rs_spec_ChainTensor : Sig := [(.agg, [.list [.int .i64], .list [.int .i64], .list [.int .i64]])]
def mu_spec_ChainTensor : MSig := []
def ag_impl_ChainTensor : Sig := [(.agg, [.int .i64, .list [.int .i64, .int .i64, .int .i64, .list [.int .i64]]])]
def rs_impl_ChainTensor : Sig := [(.agg, [.list [.int .i64], .list [.int .i64], .list [.int .i64]])]
def mu_impl_ChainTensor : MSig := []

def G_spec_l05Index (NN : Nat) : ((List Int) × Int) → (Option (List Int)) :=
 (fun ((l0, i1) : ((List Int) × Int)) =>
 (mkI (natI (lenN l0)) (natI (lenN l0)) 8).bnd (fun (k2 : Nat) =>
 joinK ((fulI 0 k2 (lenN (repL k2 (0 : Int)))).bnd (fun (_ : Unit) =>
 loopT NN (fun (((l3, i4, i5), l6) : (((List Int) × (Int × Int)) × (List Int))) =>
 cnd (leI (0 : Int) i5)
 ((getI l3 i5).bnd (fun (i7 : Int) =>
 (remI i4 i7).bnd (fun (i8 : Int) =>
 (chkI i5 (lenN l6)).bnd (fun (k9 : Nat) =>
 (getN l6 (addN 0 k9)).bnd (fun (i10 : Int) =>
 (getI l3 i5).bnd (fun (i11 : Int) =>
 (quoI .i64 i4 i11).bnd (fun (i12 : Int) =>
 (fulI 0 (lenN l6) (lenN (setL l6 (addN 0 k9) i8))).bnd (fun (_ : Unit) =>
 some (Sum.inl ((l3, i12, subI .i64 i5 (1 : Int)), setL l6 (addN 0 k9) i8))))))))))
 (((fulI 0 (lenN l6) (lenN l6)).bnd (fun (_ : Unit) =>
 some (Sum.inl l6))).bnd (fun (l13 : ((List Int) ⊕ (List Int))) =>
 some (Sum.inr l13))))
 ((l0, i1, subI .i64 (natI (lenN l0)) (1 : Int)), repL k2 (0 : Int))))
 (fun (l14 : (List Int)) =>
 (takI l14 (lenN l14)).bnd (fun (l15 : (List Int)) =>
 some l15))))


def G_impl_nextIndex (NN : Nat) : ((List Int) × (List Int)) → (Option (Bool × (List Int))) :=
 (fun ((l0, l1) : ((List Int) × (List Int))) =>
 joinK ((fulI 0 (lenN l1) (lenN l1)).bnd (fun (_ : Unit) =>
 loopT NN (fun (((l2, i3), l4) : (((List Int) × Int) × (List Int))) =>
 cnd (leI (0 : Int) i3)
 ((chkI i3 (lenN l4)).bnd (fun (k5 : Nat) =>
 (getN l4 (addN 0 k5)).bnd (fun (i6 : Int) =>
 (chkI i3 (lenN l4)).bnd (fun (k7 : Nat) =>
 (getN l4 (addN 0 k7)).bnd (fun (i8 : Int) =>
 (chkI i3 (lenN l4)).bnd (fun (k9 : Nat) =>
 (getN (setL l4 (addN 0 k7) (addI .i64 i6 (1 : Int))) (addN 0 k9)).bnd (fun (i10 : Int) =>
 (getI l2 i3).bnd (fun (i11 : Int) =>
 cnd (ltI i10 i11)
 ((((samI (lenN (setL l4 (addN 0 k7) (addI .i64 i6 (1 : Int)))) (lenN l1)).bnd (fun (_ : Unit) =>
 some (true, setL l4 (addN 0 k7) (addI .i64 i6 (1 : Int))))).bnd (fun ((b12, l13) : (Bool × (List Int))) =>
 some (Sum.inr (b12, l13)))).bnd (fun (l14 : ((List Int) ⊕ (Bool × (List Int)))) =>
 some (Sum.inr l14)))
 ((chkI i3 (lenN l4)).bnd (fun (k15 : Nat) =>
 (getN (setL l4 (addN 0 k7) (addI .i64 i6 (1 : Int))) (addN 0 k15)).bnd (fun (i16 : Int) =>
 (fulI 0 (lenN l4) (lenN (setL (setL l4 (addN 0 k7) (addI .i64 i6 (1 : Int))) (addN 0 k15) (0 : Int)))).bnd (fun (_ : Unit) =>
 some (Sum.inl ((l2, subI .i64 i3 (1 : Int)), setL (setL l4 (addN 0 k7) (addI .i64 i6 (1 : Int))) (addN 0 k15) (0 : Int)))))))))))))))
 (some (Sum.inr (Sum.inl l4))))
 ((l0, subI .i64 (natI (lenN l0)) (1 : Int)), l1)))
 (fun (l17 : (List Int)) =>
 (samI (lenN l17) (lenN l1)).bnd (fun (_ : Unit) =>
 some (false, l17))))


def G_spec_l32Tensor (NN : Nat) : (Int × (List (Int × (Int × (Int × (List Int)))))) → (Option ((List Int) × ((List Int) × (List Int)))) :=
 (fun ((i0, l1) : (Int × (List (Int × (Int × (Int × (List Int))))))) =>
 (F_spec_l32Dims (i0, l1)).bnd (fun (l2 : (List Int)) =>
 joinK ((fulI 0 0 (lenN (([] : List Int)))).bnd (fun (_ : Unit) =>
 (fulI 0 0 (lenN (([] : List Int)))).bnd (fun (_ : Unit) =>
 (fulI 0 0 (lenN (([] : List Int)))).bnd (fun (_ : Unit) =>
 (fulI 0 0 (lenN (([] : List Int)))).bnd (fun (_ : Unit) =>
 (fulI 0 (lenN l2) (lenN l2)).bnd (fun (_ : Unit) =>
 (fulI 0 0 (lenN (([] : List Int)))).bnd (fun (_ : Unit) =>
 loopT NN (fun (((i3, i4), (i5, l6), l7, l8, l9, l10, l11, l12) : ((Int × Int) × ((Int × (List (Int × (Int × (Int × (List Int)))))) × ((List Int) × ((List Int) × ((List Int) × ((List Int) × ((List Int) × (List Int))))))))) =>
 cnd (ltI i4 i3)
 ((fulI 0 (lenN l10) (lenN l10)).bnd (fun (_ : Unit) =>
 (winI ((i4 :: ([] : List Int))) 0 1).bnd (fun (l13 : (List Int)) =>
 (fitI (addN (lenN l10) (lenN l13)) 8).bnd (fun (_ : Unit) =>
 (fulI 0 (lenN l7) (lenN l7)).bnd (fun (_ : Unit) =>
 (fulI 0 (lenN l8) (lenN l8)).bnd (fun (_ : Unit) =>
 (fulI 0 (lenN l9) (lenN l9)).bnd (fun (_ : Unit) =>
 (fulI 0 (addN (lenN l10) (lenN l13)) (lenN (appL l10 l13))).bnd (fun (_ : Unit) =>
 (fulI 0 (lenN l11) (lenN l11)).bnd (fun (_ : Unit) =>
 (fulI 0 (lenN l12) (lenN l12)).bnd (fun (_ : Unit) =>
 some (Sum.inl ((i3, addI .i64 i4 (1 : Int)), (i5, l6), l7, l8, l9, appL l10 l13, l11, l12))))))))))))
 (((fulI 0 (lenN l7) (lenN l7)).bnd (fun (_ : Unit) =>
 (fulI 0 (lenN l8) (lenN l8)).bnd (fun (_ : Unit) =>
 (fulI 0 (lenN l9) (lenN l9)).bnd (fun (_ : Unit) =>
 (fulI 0 (lenN l10) (lenN l10)).bnd (fun (_ : Unit) =>
 (fulI 0 (lenN l11) (lenN l11)).bnd (fun (_ : Unit) =>
 (fulI 0 (lenN l12) (lenN l12)).bnd (fun (_ : Unit) =>
 some (Sum.inl ((i5, l6), l7, l8, l9, l10, l11, l12))))))))).bnd (fun (l14 : (((Int × (List (Int × (Int × (Int × (List Int)))))) × ((List Int) × ((List Int) × ((List Int) × ((List Int) × ((List Int) × (List Int))))))) ⊕ ((List Int) × ((List Int) × (List Int))))) =>
 some (Sum.inr l14))))
 ((natI (lenN l1), (0 : Int)), (i0, l1), ([] : List Int), ([] : List Int), ([] : List Int), ([] : List Int), l2, ([] : List Int)))))))))
 (fun (((i15, l16), l17, l18, l19, l20, l21, l22) : ((Int × (List (Int × (Int × (Int × (List Int)))))) × ((List Int) × ((List Int) × ((List Int) × ((List Int) × ((List Int) × (List Int)))))))) =>
 joinK ((fulI 0 (lenN l17) (lenN l17)).bnd (fun (_ : Unit) =>
 (fulI 0 (lenN l18) (lenN l18)).bnd (fun (_ : Unit) =>
 (fulI 0 (lenN l19) (lenN l19)).bnd (fun (_ : Unit) =>
 (fulI 0 (lenN l20) (lenN l20)).bnd (fun (_ : Unit) =>
 (fulI 0 (lenN l21) (lenN l21)).bnd (fun (_ : Unit) =>
 (fulI 0 (lenN l22) (lenN l22)).bnd (fun (_ : Unit) =>
 loopT NN (fun ((i23, (i24, l25), l26, l27, l28, l29, l30, l31) : (Int × ((Int × (List (Int × (Int × (Int × (List Int)))))) × ((List Int) × ((List Int) × ((List Int) × ((List Int) × ((List Int) × (List Int))))))))) =>
 (winI l30 0 (lenN l30)).bnd (fun (l32 : (List Int)) =>
 (F_spec_l05Product (l32, (4096 : Int))).bnd (fun (i33 : Int) =>
 cnd (ltI i23 i33)
 ((winI l30 0 (lenN l30)).bnd (fun (l34 : (List Int)) =>
 (F_spec_l05Index (l34, i23)).bnd (fun (l35 : (List Int)) =>
 (winI l35 0 (lenN l35)).bnd (fun (l36 : (List Int)) =>
 (F_spec_l32Elem ((i24, l25), l36)).bnd (fun (i37 : Int) =>
 (fulI 0 (lenN l31) (lenN l31)).bnd (fun (_ : Unit) =>
 (winI ((i37 :: ([] : List Int))) 0 1).bnd (fun (l38 : (List Int)) =>
 (fitI (addN (lenN l31) (lenN l38)) 8).bnd (fun (_ : Unit) =>
 (fulI 0 (lenN l26) (lenN l26)).bnd (fun (_ : Unit) =>
 (fulI 0 (lenN l27) (lenN l27)).bnd (fun (_ : Unit) =>
 (fulI 0 (lenN l28) (lenN l28)).bnd (fun (_ : Unit) =>
 (fulI 0 (lenN l29) (lenN l29)).bnd (fun (_ : Unit) =>
 (fulI 0 (lenN l30) (lenN l30)).bnd (fun (_ : Unit) =>
 (fulI 0 (addN (lenN l31) (lenN l38)) (lenN (appL l31 l38))).bnd (fun (_ : Unit) =>
 some (Sum.inl (addI .i64 i23 (1 : Int), (i24, l25), l26, l27, l28, l29, l30, appL l31 l38))))))))))))))))
 (((fulI 0 (lenN l26) (lenN l26)).bnd (fun (_ : Unit) =>
 (fulI 0 (lenN l27) (lenN l27)).bnd (fun (_ : Unit) =>
 (fulI 0 (lenN l28) (lenN l28)).bnd (fun (_ : Unit) =>
 (fulI 0 (lenN l29) (lenN l29)).bnd (fun (_ : Unit) =>
 (fulI 0 (lenN l30) (lenN l30)).bnd (fun (_ : Unit) =>
 (fulI 0 (lenN l31) (lenN l31)).bnd (fun (_ : Unit) =>
 some (Sum.inl (l26, l27, l28, l29, l30, l31))))))))).bnd (fun (l39 : (((List Int) × ((List Int) × ((List Int) × ((List Int) × ((List Int) × (List Int)))))) ⊕ ((List Int) × ((List Int) × (List Int))))) =>
 some (Sum.inr l39))))))
 ((0 : Int), (i15, l16), l17, l18, l19, l20, l21, l22))))))))
 (fun ((l40, l41, l42, l43, l44, l45) : ((List Int) × ((List Int) × ((List Int) × ((List Int) × ((List Int) × (List Int))))))) =>
 (takI l43 (lenN l43)).bnd (fun (l46 : (List Int)) =>
 (takI l44 (lenN l44)).bnd (fun (l47 : (List Int)) =>
 (takI l45 (lenN l45)).bnd (fun (l48 : (List Int)) =>
 some (l46, l47, l48))))))))


def G_spec_ChainTensor (NN : Nat) : (Int × (List (Int × (Int × (Int × (List Int)))))) → (Option ((List Int) × ((List Int) × (List Int)))) :=
 (fun ((i0, l1) : (Int × (List (Int × (Int × (Int × (List Int))))))) =>
 (F_spec_ChainOk (i0, l1)).bnd (fun (b2 : Bool) =>
 cnd (notB b2)
 (some (([] : List Int), ([] : List Int), ([] : List Int)))
 ((F_spec_l32Tensor (i0, l1)).bnd (fun ((l3, l4, l5) : ((List Int) × ((List Int) × (List Int)))) =>
 (takI l3 (lenN l3)).bnd (fun (l6 : (List Int)) =>
 (takI l4 (lenN l4)).bnd (fun (l7 : (List Int)) =>
 (takI l5 (lenN l5)).bnd (fun (l8 : (List Int)) =>
 some (l6, l7, l8))))))))


def G_impl_ChainTensor (NN : Nat) : (Int × (List (Int × (Int × (Int × (List Int)))))) → (Option ((List Int) × ((List Int) × (List Int)))) :=
 (fun ((i0, l1) : (Int × (List (Int × (Int × (Int × (List Int))))))) =>
 (F_impl_ChainOk (i0, l1)).bnd (fun (b2 : Bool) =>
 cnd (notB b2)
 (some (([] : List Int), ([] : List Int), ([] : List Int)))
 ((F_impl_chainDims (i0, l1)).bnd (fun (l3 : (List Int)) =>
 joinK ((fulI 0 0 (lenN (([] : List Int)))).bnd (fun (_ : Unit) =>
 (fulI 0 0 (lenN (([] : List Int)))).bnd (fun (_ : Unit) =>
 (fulI 0 0 (lenN (([] : List Int)))).bnd (fun (_ : Unit) =>
 (fulI 0 0 (lenN (([] : List Int)))).bnd (fun (_ : Unit) =>
 (fulI 0 (lenN l3) (lenN l3)).bnd (fun (_ : Unit) =>
 (fulI 0 0 (lenN (([] : List Int)))).bnd (fun (_ : Unit) =>
 loopT NN (fun (((i4, i5), (i6, l7), l8, l9, l10, l11, l12, l13) : ((Int × Int) × ((Int × (List (Int × (Int × (Int × (List Int)))))) × ((List Int) × ((List Int) × ((List Int) × ((List Int) × ((List Int) × (List Int))))))))) =>
 cnd (ltI i5 i4)
 ((fulI 0 (lenN l11) (lenN l11)).bnd (fun (_ : Unit) =>
 (winI ((i5 :: ([] : List Int))) 0 1).bnd (fun (l14 : (List Int)) =>
 (fitI (addN (lenN l11) (lenN l14)) 8).bnd (fun (_ : Unit) =>
 (fulI 0 (lenN l8) (lenN l8)).bnd (fun (_ : Unit) =>
 (fulI 0 (lenN l9) (lenN l9)).bnd (fun (_ : Unit) =>
 (fulI 0 (lenN l10) (lenN l10)).bnd (fun (_ : Unit) =>
 (fulI 0 (addN (lenN l11) (lenN l14)) (lenN (appL l11 l14))).bnd (fun (_ : Unit) =>
 (fulI 0 (lenN l12) (lenN l12)).bnd (fun (_ : Unit) =>
 (fulI 0 (lenN l13) (lenN l13)).bnd (fun (_ : Unit) =>
 some (Sum.inl ((i4, addI .i64 i5 (1 : Int)), (i6, l7), l8, l9, l10, appL l11 l14, l12, l13))))))))))))
 (((fulI 0 (lenN l8) (lenN l8)).bnd (fun (_ : Unit) =>
 (fulI 0 (lenN l9) (lenN l9)).bnd (fun (_ : Unit) =>
 (fulI 0 (lenN l10) (lenN l10)).bnd (fun (_ : Unit) =>
 (fulI 0 (lenN l11) (lenN l11)).bnd (fun (_ : Unit) =>
 (fulI 0 (lenN l12) (lenN l12)).bnd (fun (_ : Unit) =>
 (fulI 0 (lenN l13) (lenN l13)).bnd (fun (_ : Unit) =>
 some (Sum.inl ((i6, l7), l8, l9, l10, l11, l12, l13))))))))).bnd (fun (l15 : (((Int × (List (Int × (Int × (Int × (List Int)))))) × ((List Int) × ((List Int) × ((List Int) × ((List Int) × ((List Int) × (List Int))))))) ⊕ ((List Int) × ((List Int) × (List Int))))) =>
 some (Sum.inr l15))))
 ((natI (lenN l1), (0 : Int)), (i0, l1), ([] : List Int), ([] : List Int), ([] : List Int), ([] : List Int), l3, ([] : List Int)))))))))
 (fun (((i16, l17), l18, l19, l20, l21, l22, l23) : ((Int × (List (Int × (Int × (Int × (List Int)))))) × ((List Int) × ((List Int) × ((List Int) × ((List Int) × ((List Int) × (List Int)))))))) =>
 (mkI (natI (lenN l22)) (natI (lenN l22)) 8).bnd (fun (k24 : Nat) =>
 (fulI 0 k24 (lenN (repL k24 (0 : Int)))).bnd (fun (_ : Unit) =>
 (fulI 0 (lenN l18) (lenN l18)).bnd (fun (_ : Unit) =>
 (fulI 0 (lenN l19) (lenN l19)).bnd (fun (_ : Unit) =>
 (fulI 0 (lenN l20) (lenN l20)).bnd (fun (_ : Unit) =>
 (fulI 0 (lenN l21) (lenN l21)).bnd (fun (_ : Unit) =>
 (fulI 0 (lenN l22) (lenN l22)).bnd (fun (_ : Unit) =>
 (fulI 0 (lenN l23) (lenN l23)).bnd (fun (_ : Unit) =>
 loopT NN (fun (((i25, l26), l27, l28, l29, l30, l31, l32, l33) : ((Int × (List (Int × (Int × (Int × (List Int)))))) × ((List Int) × ((List Int) × ((List Int) × ((List Int) × ((List Int) × ((List Int) × (List Int))))))))) =>
 (winI l33 0 (lenN l33)).bnd (fun (l34 : (List Int)) =>
 (F_impl_rawChainAt ((i25, l26), l34)).bnd (fun (i35 : Int) =>
 (fulI 0 (lenN l32) (lenN l32)).bnd (fun (_ : Unit) =>
 (winI ((i35 :: ([] : List Int))) 0 1).bnd (fun (l36 : (List Int)) =>
 (fitI (addN (lenN l32) (lenN l36)) 8).bnd (fun (_ : Unit) =>
 (winI l31 0 (lenN l31)).bnd (fun (l37 : (List Int)) =>
 (fulI 0 (lenN l33) (lenN l33)).bnd (fun (_ : Unit) =>
 (F_impl_nextIndex (l37, l33)).bnd (fun ((b38, l39) : (Bool × (List Int))) =>
 cnd (notB b38)
 (((takI l30 (lenN l30)).bnd (fun (l40 : (List Int)) =>
 (takI l31 (lenN l31)).bnd (fun (l41 : (List Int)) =>
 (takI (appL l32 l36) (addN (lenN l32) (lenN l36))).bnd (fun (l42 : (List Int)) =>
 some (l40, l41, l42))))).bnd (fun ((l43, l44, l45) : ((List Int) × ((List Int) × (List Int)))) =>
 some (Sum.inr (l43, l44, l45))))
 ((fulI 0 (lenN l33) (lenN l39)).bnd (fun (_ : Unit) =>
 (fulI 0 (lenN l27) (lenN l27)).bnd (fun (_ : Unit) =>
 (fulI 0 (lenN l28) (lenN l28)).bnd (fun (_ : Unit) =>
 (fulI 0 (lenN l29) (lenN l29)).bnd (fun (_ : Unit) =>
 (fulI 0 (lenN l30) (lenN l30)).bnd (fun (_ : Unit) =>
 (fulI 0 (lenN l31) (lenN l31)).bnd (fun (_ : Unit) =>
 (fulI 0 (addN (lenN l32) (lenN l36)) (lenN (appL l32 l36))).bnd (fun (_ : Unit) =>
 some (Sum.inl ((i25, l26), l27, l28, l29, l30, l31, appL l32 l36, l39)))))))))))))))))))
 ((i16, l17), l18, l19, l20, l21, l22, l23, repL k24 (0 : Int)))))))))))))))


theorem dims_pos {D : List Int} (h : dimsG D) {i : Nat} (hi : i < D.length) : ∃ d : Nat, D[i]? = some (d : Int) ∧ D.getD i 0 = (d : Int) ∧ (D.getD i 0).toNat = d ∧ 1 ≤ d ∧ d ≤ 1048576 := by
  have e := getD_some 0 hi
  have hm := h.2 _ (List.mem_of_getElem? e)
  obtain ⟨d, hd⟩ := natI_eq (show 0 ≤ D.getD i 0 by omega)
  exact ⟨d, by rw [e, hd], hd, by rw [hd]; rfl, by omega, by omega⟩

theorem tailP_step {D : List Int} {i : Nat} (hi : i < D.length) : tailP D i = (D.getD i 0).toNat * tailP D (i + 1) := by
  unfold tailP
  rw [drop_cons (getD_some 0 hi), prodN]
theorem tailP_end (D : List Int) : tailP D D.length = 1 := by simp [tailP, prodN]
theorem tailP_0 (D : List Int) : tailP D 0 = prodN D := rfl
theorem prodN_pos : ∀ {D : List Int}, (∀ x ∈ D, 1 ≤ x) → 0 < prodN D
  | [], _ => Nat.one_pos
  | x :: l, h => by
    have h1 := h x List.mem_cons_self
    exact Nat.mul_pos (by omega) (prodN_pos fun y hy => h y (List.mem_cons_of_mem _ hy))
theorem tailP_pos {D : List Int} (h : dimsG D) (i : Nat) : 0 < tailP D i := prodN_pos fun x hx => (h.2 x (List.mem_of_mem_drop hx)).1
theorem prodN_I : ∀ {D : List Int}, (∀ x ∈ D, 1 ≤ x) → prodI D = (prodN D : Int)
  | [], _ => rfl
  | x :: l, h => by
    have h1 := h x List.mem_cons_self
    rw [prodI, prodN, prodN_I fun y hy => h y (List.mem_cons_of_mem _ hy)]
    obtain ⟨x, rfl⟩ := natI_eq (show 0 ≤ x by omega)
    simp
theorem tailP_dvd {D : List Int} {i j : Nat} (h : i ≤ j) (hj : j ≤ D.length) : tailP D j ∣ tailP D i := by
  obtain ⟨k, rfl⟩ : ∃ k, j = i + k := ⟨j - i, by omega⟩
  induction k with
  | zero => exact Nat.dvd_refl _
  | succ k ih =>
    refine Nat.dvd_trans ?_ (ih (by omega) (by omega))
    rw [tailP_step (i := i + k) (by omega)]
    exact Nat.dvd_mul_left _ _

/-- Digits from the place k on are those of n', the others those of n. -/
def mixI (D : List Int) (n n' k : Nat) : List Int := rowL D.length fun q => if k ≤ q then dig D n' q else dig D n q

theorem mix_full (D : List Int) (n n' : Nat) : mixI D n n' 0 = idxN D n' := rowL_congr fun q _ => by simp
theorem mix_none (D : List Int) (n n' : Nat) : mixI D n n' D.length = idxN D n := rowL_congr fun q hq => by simp; intro h; omega
theorem mix_set (D : List Int) (n n' k : Nat) : setL (mixI D n n' (k + 1)) k (dig D n' k) = mixI D n n' k := by
  unfold mixI
  rw [rowL_set]
  refine rowL_congr fun q _ => ?_
  by_cases e : q = k
  · subst e; simp
  · by_cases h : k ≤ q
    · rw [if_neg e, if_pos (by omega), if_pos h]
    · rw [if_neg e, if_neg (by omega), if_neg h]
theorem mix_len (D : List Int) (n n' k : Nat) : lenN (mixI D n n' k) = D.length := rowL_len _ _
theorem mix_at {D : List Int} {n n' k : Nat} (h : k < D.length) : getN (mixI D n n' (k + 1)) k = some (dig D n k) := by
  unfold mixI
  rw [getN_row _ h, if_neg (by omega)]

theorem quoN {a b : Nat} (hb : 0 < b) (ha : a ≤ 1048576) : quoI .i64 (a : Int) (b : Int) = some ((a / b : Nat) : Int) := by
  have e : ((a : Int) / (b : Int)) = ((a / b : Nat) : Int) := by norm_cast
  have : a / b ≤ a := Nat.div_le_self a b
  unfold quoI
  rw [if_neg (by omega), Int.tdiv_eq_ediv_of_nonneg (by omega), e]
  clear e
  generalize a / b = q at *
  rw [wrap_id (by omega) (by omega)]
theorem remNN {a b : Nat} (hb : 0 < b) : remI (a : Int) (b : Int) = some ((a % b : Nat) : Int) := by
  rw [remN (by omega) (by omega)]; norm_cast
theorem subN1 {n : Nat} (h : n ≤ 1048577) : subI .i64 (n : Int) 1 = (n : Int) - 1 := subI_eq (by omega) (by omega)

theorem f_spec_l05Index (x : List Int × Int) (y : List Int) (h : F_spec_l05Index x = some y) : G_spec_l05Index FUEL x = some y := by
  obtain ⟨D, n⟩ := x
  simp only [F_spec_l05Index] at h
  split at h
  · rename_i hc
    obtain ⟨hD, h0, h1⟩ := hc
    rw [← h]
    obtain ⟨n, rfl⟩ := natI_eq h0
    have hl := hD.1
    simp only [G_spec_l05Index, Int.toNat_natCast]
    rw [mkI_nat (n := lenN D) (by simp only [lenN, maxBytes]; omega), bnd_s]
    rw [show fulI 0 (lenN D) (lenN (repL (lenN D) (0 : Int))) = some () from by rw [lenN_repL]; exact fulI_id _, bnd_s]
    rw [loopT_seq (fun j => ((D, ((n / tailP D (D.length - j) : Nat) : Int), (D.length : Int) - j - 1), rowL D.length fun q => if D.length - j ≤ q then dig D n q else 0)) (r := Sum.inl (idxN D n)) D.length ?_ ?_ ?_ (FUEL_gt (by omega))]
    · rw [joinK_l, takI_id, bnd_s]
    · intro j hj
      have hk : D.length - (j + 1) < D.length := by omega
      obtain ⟨d, d1, d2, d3, d4, d5⟩ := dims_pos hD hk
      have ek : (D.length : Int) - j - 1 = ((D.length - (j + 1) : Nat) : Int) := by omega
      have eT : tailP D (D.length - (j + 1)) = d * tailP D (D.length - j) := by rw [tailP_step hk, d3]; congr 2; omega
      have edig : dig D n (D.length - (j + 1)) = ((n / tailP D (D.length - j) % d : Nat) : Int) := by unfold dig; rw [d3]; congr 4; omega
      have hle : n / tailP D (D.length - j) ≤ n := Nat.div_le_self _ _
      simp only
      rw [ek, cnd_t (leI_t (by omega)), getI_nat, d1, bnd_s, remNN (by omega), bnd_s, chkI_row _ hk, bnd_s, addN_0, getN_row _ hk, bnd_s]
      simp only [bnd_s]
      rw [quoN (by omega) (by omega), bnd_s, ← edig, rowL_set]
      simp only [fulI_row, bnd_s]
      rw [subN1 (by omega), Nat.div_div_eq_div_mul, Nat.mul_comm (tailP D (D.length - j)) d, ← eT]
      have er : rowL D.length (fun q => if q = D.length - (j + 1) then dig D n (D.length - (j + 1)) else if D.length - j ≤ q then dig D n q else 0) = rowL D.length fun q => if D.length - (j + 1) ≤ q then dig D n q else 0 := by
        refine rowL_congr fun q _ => ?_
        by_cases e : q = D.length - (j + 1)
        · rw [if_pos e, if_pos (by omega), e]
        · rw [if_neg e]
          by_cases h : D.length - j ≤ q
          · rw [if_pos h, if_pos (by omega)]
          · rw [if_neg h, if_neg (by omega)]
      rw [er]
      congr 5
      omega
    · simp only
      rw [cnd_f (leI_f (by omega))]
      simp only [fulI_row, bnd_s]
      rw [show rowL D.length (fun q => if D.length - D.length ≤ q then dig D n q else 0) = idxN D n from rowL_congr fun q _ => by simp]
    · rw [rowL_rep, Nat.sub_zero, tailP_end, Nat.div_one]
      have e1 : subI .i64 (natI (lenN D)) 1 = (D.length : Int) - ((0 : Nat) : Int) - 1 := by rw [nl, subN1 (by omega)]; omega
      rw [e1]
      have e2 : rowL (lenN D) (fun _ => (0 : Int)) = rowL D.length fun q => if D.length ≤ q then dig D n q else 0 := rowL_congr fun q hq => by rw [if_neg (by have : lenN D = D.length := rfl; omega)]
      rw [e2]
  · cases h

/-- The next number has the same quotient where it is no multiple. -/
theorem div_next {a k : Nat} (hk : 0 < k) (h : (a + 1) % k ≠ 0) : (a + 1) / k = a / k := by
  rw [Nat.succ_div, if_neg (fun hd => h (Nat.mod_eq_zero_of_dvd hd)), Nat.add_zero]
theorem div_next' {a k : Nat} (hk : 0 < k) (h : (a + 1) % k = 0) : (a + 1) / k = a / k + 1 := by
  rw [Nat.succ_div, if_pos (Nat.dvd_of_mod_eq_zero h)]

theorem dig_same {D : List Int} (hD : dimsG D) {n i : Nat} (hi : i ≤ D.length) (h : (n + 1) % tailP D i ≠ 0) {q : Nat} (hq : q < i) : dig D (n + 1) q = dig D n q := by
  unfold dig
  rw [div_next (tailP_pos hD _)]
  intro h0
  exact h (Nat.mod_eq_zero_of_dvd (Nat.dvd_trans (tailP_dvd hq hi) (Nat.dvd_of_mod_eq_zero h0)))

theorem dig_carry {D : List Int} (hD : dimsG D) {n i : Nat} (hi : i < D.length) (h : (n + 1) % tailP D (i + 1) = 0) :
    (dig D n i + 1 < D.getD i 0 → dig D (n + 1) i = dig D n i + 1 ∧ (n + 1) % tailP D i ≠ 0) ∧ (¬ dig D n i + 1 < D.getD i 0 → dig D (n + 1) i = 0 ∧ (n + 1) % tailP D i = 0) := by
  obtain ⟨d, d1, d2, d3, d4, d5⟩ := dims_pos hD hi
  have hT := tailP_pos hD (i + 1)
  have e1 := div_next' hT h
  obtain ⟨c, hc⟩ := Nat.dvd_of_mod_eq_zero h
  have ec : (n + 1) / tailP D (i + 1) = c := by rw [hc, Nat.mul_div_cancel_left _ hT]
  have emod : (n + 1) % tailP D i = tailP D (i + 1) * (c % d) := by rw [tailP_step hi, d3, hc, Nat.mul_comm d, Nat.mul_mod_mul_left]
  unfold dig
  rw [d2, ec, emod]
  simp only [Int.toNat_natCast]
  rw [ec] at e1
  have hlt : n / tailP D (i + 1) % d < d := Nat.mod_lt _ (by omega)
  have key : c % d = if n / tailP D (i + 1) % d + 1 < d then n / tailP D (i + 1) % d + 1 else 0 := by
    rw [e1, Nat.add_mod]
    split
    · rename_i hx
      by_cases hd1 : d = 1
      · omega
      · rw [Nat.mod_eq_of_lt (show 1 < d by omega), Nat.mod_eq_of_lt hx]
    · by_cases hd1 : d = 1
      · subst hd1; omega
      · rw [Nat.mod_eq_of_lt (show 1 < d by omega), show n / tailP D (i + 1) % d + 1 = d by omega, Nat.mod_self]
  constructor
  · intro hx
    rw [key, if_pos (by omega)]
    refine ⟨by omega, ?_⟩
    have := Nat.mul_pos hT (show 0 < n / tailP D (i + 1) % d + 1 by omega)
    omega
  · intro hx
    rw [key, if_neg (by omega)]
    exact ⟨by omega, by simp⟩

theorem f_impl_nextIndex (x : List Int × List Int) (y : Bool × List Int) (h : F_impl_nextIndex x = some y) : G_impl_nextIndex FUEL x = some y := by
  obtain ⟨D, ix⟩ := x
  simp only [F_impl_nextIndex] at h
  split at h
  · rename_i hc
    obtain ⟨hD, hix, hn, hp⟩ := hc
    rw [← h]
    generalize numN D ix D.length = n at *
    subst hix
    have hl := hD.1
    have hlen : (idxN D n).length = D.length := rowL_len _ _
    simp only [G_impl_nextIndex]
    rw [fulI_id, bnd_s]
    -- where the carry ends
    obtain ⟨k, k1, k2, k3⟩ := stop_ex' (fun j => (n + 1) % tailP D (D.length - (j + 1)) = 0) D.length
    have hdiv : ∀ j, j ≤ k → (n + 1) % tailP D (D.length - j) = 0 := fun j hj => by
      cases j with
      | zero => rw [Nat.sub_zero, tailP_end]; omega
      | succ j => exact k2 j (by omega)
    have hstep : ∀ j, j < k → dig D (n + 1) (D.length - (j + 1)) = 0 ∧ ¬ dig D n (D.length - (j + 1)) + 1 < D.getD (D.length - (j + 1)) 0 := fun j hj => by
      have hk : D.length - (j + 1) < D.length := by omega
      have h1 := hdiv j (by omega)
      rw [show D.length - j = D.length - (j + 1) + 1 by omega] at h1
      obtain ⟨c1, c2⟩ := dig_carry hD hk h1
      by_cases hx : dig D n (D.length - (j + 1)) + 1 < D.getD (D.length - (j + 1)) 0
      · exact absurd (hdiv (j + 1) (by omega)) (c1 hx).2
      · exact ⟨(c2 hx).1, hx⟩
    have hd0 : ∀ q, 0 ≤ dig D n q ∧ dig D n q ≤ 1048576 := fun q => by
      unfold dig
      have h1 : n / tailP D (q + 1) % (D.getD q 0).toNat ≤ n / tailP D (q + 1) := Nat.mod_le _ _
      have h2 : n / tailP D (q + 1) ≤ n := Nat.div_le_self _ _
      omega
    have e0 : subI .i64 (natI (lenN D)) 1 = (D.length : Int) - ((0 : Nat) : Int) - 1 := by rw [nl, subN1 (by omega)]; omega
    rw [loopT_seq (fun j => ((D, (D.length : Int) - (j : Int) - 1), mixI D n (n + 1) (D.length - j))) (r := if k = D.length then Sum.inl (idxN D (n + 1)) else Sum.inr (true, idxN D (n + 1))) k ?_ ?_ ?_ (FUEL_gt (by omega))]
    · by_cases hk : k = D.length
      · rw [if_pos hk, joinK_l]
        have hz : (n + 1) % prodN D = 0 := by have := hdiv k (Nat.le_refl _); rwa [hk, Nat.sub_self, tailP_0] at this
        have hnp : ¬ n + 1 < prodN D := fun hx => by rw [Nat.mod_eq_of_lt hx] at hz; omega
        rw [decide_eq_false hnp, samI_ok (by show lenN (idxN D (n + 1)) = lenN (idxN D n); unfold idxN; rw [lenN_row, lenN_row]), bnd_s]
      · rw [if_neg hk, joinK_r]
        have hnz := (k3.resolve_left hk)
        have hnp : n + 1 < prodN D := by
          rcases Nat.lt_or_ge (n + 1) (prodN D) with h | h
          · exact h
          · exfalso
            have e : n + 1 = prodN D := by omega
            apply hnz
            rw [e, ← tailP_0]
            exact Nat.mod_eq_zero_of_dvd (tailP_dvd (Nat.zero_le _) (by omega))
        rw [decide_eq_true hnp]
    · intro j hj
      have hk : D.length - (j + 1) < D.length := by omega
      have ek : (D.length : Int) - j - 1 = ((D.length - (j + 1) : Nat) : Int) := by omega
      obtain ⟨s1, s2⟩ := hstep j hj
      have hdd := hd0 (D.length - (j + 1))
      simp only
      rw [ek, show D.length - j = D.length - (j + 1) + 1 by omega, cnd_t (leI_t (by omega)), chkI_nat (by rw [mix_len]; exact hk), bnd_s, addN_0, mix_at hk, bnd_s]
      simp only [bnd_s, addN_0, mix_at hk]
      rw [addI_eq (by omega) (by omega)]
      have eg : getN (setL (mixI D n (n + 1) (D.length - (j + 1) + 1)) (D.length - (j + 1)) (dig D n (D.length - (j + 1)) + 1)) (D.length - (j + 1)) = some (dig D n (D.length - (j + 1)) + 1) := getN_set (mix_at hk)
      rw [eg, bnd_s, getI_nat, getD_some 0 hk, bnd_s, cnd_f (ltI_f (by omega))]
      try simp only [bnd_s, addN_0, eg]
      rw [setL_setL, ← s1, mix_set, mix_len, mix_len, fulI_id, bnd_s, subN1 (by omega)]
      congr 4
      omega
    · by_cases hk : k = D.length
      · rw [if_pos hk, hk]
        simp only
        rw [cnd_f (leI_f (by omega)), Nat.sub_self, mix_full]
      · rw [if_neg hk]
        have hkl : D.length - (k + 1) < D.length := by omega
        have ek : (D.length : Int) - k - 1 = ((D.length - (k + 1) : Nat) : Int) := by omega
        have h1 := hdiv k (Nat.le_refl _)
        rw [show D.length - k = D.length - (k + 1) + 1 by omega] at h1
        obtain ⟨c1, c2⟩ := dig_carry hD hkl h1
        have hnz := (k3.resolve_left hk)
        have hx : dig D n (D.length - (k + 1)) + 1 < D.getD (D.length - (k + 1)) 0 := by
          rcases Decidable.em (dig D n (D.length - (k + 1)) + 1 < D.getD (D.length - (k + 1)) 0) with h | h
          · exact h
          · exact absurd (c2 h).2 hnz
        obtain ⟨s1, s2⟩ := c1 hx
        have hdd := hd0 (D.length - (k + 1))
        simp only
        rw [ek, show D.length - k = D.length - (k + 1) + 1 by omega, cnd_t (leI_t (by omega)), chkI_nat (by rw [mix_len]; exact hkl), bnd_s, addN_0, mix_at hkl, bnd_s]
        simp only [bnd_s, addN_0, mix_at hkl]
        rw [addI_eq (by omega) (by omega)]
        have eg : getN (setL (mixI D n (n + 1) (D.length - (k + 1) + 1)) (D.length - (k + 1)) (dig D n (D.length - (k + 1)) + 1)) (D.length - (k + 1)) = some (dig D n (D.length - (k + 1)) + 1) := getN_set (mix_at hkl)
        rw [eg, bnd_s, getI_nat, getD_some 0 hkl, bnd_s, cnd_t (ltI_t (by omega))]
        rw [← s1, mix_set]
        have er : mixI D n (n + 1) (D.length - (k + 1)) = idxN D (n + 1) := rowL_congr fun q hq => by
          by_cases h : D.length - (k + 1) ≤ q
          · rw [if_pos h]
          · rw [if_neg h, dig_same hD (by omega) hnz (by omega)]
        rw [er, samI_ok (by show lenN (idxN D (n + 1)) = lenN (idxN D n); unfold idxN; rw [lenN_row, lenN_row]), bnd_s]
        rfl
    · rw [e0, Nat.sub_zero, mix_none]
  · cases h

theorem idxN_getD {D : List Int} {n i : Nat} (hi : i < D.length) : (idxN D n).getD i 0 = dig D n i := by
  rw [List.getD_eq_getElem?_getD, idxN, rowL_get _ hi]; rfl

theorem numN_idx {D : List Int} (hD : dimsG D) {n : Nat} (hn : n < prodN D) : ∀ j, j ≤ D.length → numN D (idxN D n) j = n / tailP D j
  | 0, _ => by rw [tailP_0, Nat.div_eq_of_lt hn]; rfl
  | j + 1, hj => by
    rw [numN, numN_idx hD hn j (by omega), idxN_getD (by omega), dig, Int.toNat_natCast, tailP_step (by omega), Nat.mul_comm (D.getD j 0).toNat, ← Nat.div_div_eq_div_mul, Nat.mul_comm, Nat.div_add_mod]

theorem next_nat {D : List Int} (hD : dimsG D) {n : Nat} (hn : n < prodN D) (hp : prodN D ≤ 1048576) : F_impl_nextIndex (D, idxN D n) = some (decide (n + 1 < prodN D), idxN D (n + 1)) := by
  have e := numN_idx hD hn D.length (Nat.le_refl _)
  rw [tailP_end, Nat.div_one] at e
  simp only [F_impl_nextIndex, e]
  rw [if_pos ⟨hD, trivial, hn, hp⟩]

theorem idxB_idx {D : List Int} (hD : dimsG D) (n : Nat) : idxB D (idxN D n) = true := by
  simp only [idxB, Bool.and_eq_true, decide_eq_true_eq]
  refine ⟨rowL_len _ _, fun i hi => ?_⟩
  obtain ⟨d, d1, d2, d3, d4, d5⟩ := dims_pos hD hi
  rw [idxN_getD hi, dig, d3, d2]
  have := Nat.mod_lt (n / tailP D (i + 1)) (show 0 < d by omega)
  omega

/-! ### tensors of chains -/

theorem rowL_app (n : Nat) (f : Nat → Int) : appL (rowL n f) [f n] = rowL (n + 1) f := by
  unfold appL rowL
  rw [List.range_succ, List.map_append]
  rfl

theorem dims_good {m : Int} {l : List Site} (h : chainOk (m, l) = true) : dimsG (dimsOf l) ∧ (1 ≤ prodN (dimsOf l) ∧ prodN (dimsOf l) ≤ 4096) ∧ (dimsOf l).length ≤ 8 ∧ capProd 4096 (dimsOf l) = (prodN (dimsOf l) : Int) := by
  obtain ⟨_, hl, hp, _, hs⟩ := chainOk_t h
  have hd : ∀ x ∈ dimsOf l, 1 ≤ x ∧ x ≤ 8 := fun x hx => by
    obtain ⟨i, hi⟩ := List.mem_iff_getElem?.1 hx
    have hil : i < l.length := by have := lt_of_get hi; rwa [dims_len] at this
    obtain ⟨p, M, e, _, _, h3, _⟩ := hs i hil
    have := dims_getD l i
    rw [e, List.getD_eq_getElem?_getD, hi] at this
    simp only [Option.getD_some] at this
    omega
  have hI := prodN_I (D := dimsOf l) fun x hx => (hd x hx).1
  have hpos := prodN_pos (D := dimsOf l) fun x hx => (hd x hx).1
  refine ⟨⟨by rw [dims_len]; omega, fun x hx => by have := hd x hx; omega⟩, ⟨hpos, by omega⟩, by rw [dims_len]; omega, ?_⟩
  unfold capProd
  rw [capProd_go (by decide) _ 0 1 (fun x hx => (hd x hx).1) (by decide) (by decide), Int.one_mul, hI, Int.min_eq_left (by omega)]

theorem idx0 {D : List Int} (hD : dimsG D) : repL (lenN D) (0 : Int) = idxN D 0 := by
  rw [rowL_rep]
  refine rowL_congr fun i _ => ?_
  simp [dig]

theorem ten_labels {m : Int} {l : List Site} {n : Nat} (hn : n ≤ 1048576) : fitI (addN (lenN (seqI n)) 1) 8 = some () := fitI_ok (by simp only [addN, seqI, lenN_row, maxBytes]; omega)

theorem f_spec_l32Tensor (x : Int × List Site) (y : List Int × List Int × List Int) (h : F_spec_l32Tensor x = some y) : G_spec_l32Tensor FUEL x = some y := by
  obtain ⟨m, l⟩ := x
  simp only [F_spec_l32Tensor] at h
  split at h
  · rename_i hk
    rw [← h]
    obtain ⟨hm, hl, _, _, _⟩ := chainOk_t hk
    obtain ⟨hD, hp, hDl, hcap⟩ := dims_good hk
    simp only [G_spec_l32Tensor]
    rw [show F_spec_l32Dims (m, l) = some (dimsOf l) from if_pos (by omega), bnd_s]
    rw [show fulI 0 0 (lenN ([] : List Int)) = some () from rfl]
    simp only [bnd_s, fulI_id]
    rw [loopT_seq (fun i => ((natI (lenN l), (i : Int)), (m, l), ([] : List Int), ([] : List Int), ([] : List Int), seqI i, dimsOf l, ([] : List Int))) (r := Sum.inl ((m, l), ([] : List Int), ([] : List Int), ([] : List Int), seqI l.length, dimsOf l, ([] : List Int))) l.length ?_ ?_ ?_ (FUEL_gt (by omega))]
    · rw [joinK_l]
      simp only
      rw [loopT_seq (fun n => ((n : Int), (m, l), ([] : List Int), ([] : List Int), ([] : List Int), seqI l.length, dimsOf l, rowL n fun n => chainAt m l (idxN (dimsOf l) n))) (r := Sum.inl (([] : List Int), ([] : List Int), ([] : List Int), seqI l.length, dimsOf l, rowL (prodN (dimsOf l)) fun n => chainAt m l (idxN (dimsOf l) n))) (prodN (dimsOf l)) ?_ ?_ ?_ (FUEL_gt (by omega))]
      · rw [joinK_l]
        simp only [takI_id, bnd_s]
        rfl
      · intro n hn
        simp only [winI_id, bnd_s, show F_spec_l05Product (dimsOf l, 4096) = some (prodN (dimsOf l) : Int) from by rw [← hcap]; exact if_pos ⟨by decide, hD.1, List.all_eq_true.2 fun x hx => decide_eq_true ⟨by have := hD.2 x hx; omega, by have := hD.2 x hx; omega⟩⟩]
        rw [cnd_t (ltN_t hn), show F_spec_l05Index (dimsOf l, (n : Int)) = some (idxN (dimsOf l) n) from by simp only [F_spec_l05Index]; rw [if_pos ⟨hD, by omega, by omega⟩]; rfl]
        simp only [bnd_s, winI_id]
        rw [show F_spec_l32Elem ((m, l), idxN (dimsOf l) n) = some (chainAt m l (idxN (dimsOf l) n)) from if_pos ⟨hk, idxB_idx hD n⟩]
        simp only [bnd_s, win1, lenN_appL, lenN_row, show ∀ x : Int, lenN [x] = 1 from fun _ => rfl, fulI_id, show fitI (addN n 1) 8 = some () from fitI_ok (by simp only [addN, maxBytes]; omega), addN1 (show n ≤ 1048577 by omega)]
        rw [rowL_app n fun n => chainAt m l (idxN (dimsOf l) n)]
      · simp only [winI_id, bnd_s, show F_spec_l05Product (dimsOf l, 4096) = some (prodN (dimsOf l) : Int) from by rw [← hcap]; exact if_pos ⟨by decide, hD.1, List.all_eq_true.2 fun x hx => decide_eq_true ⟨by have := hD.2 x hx; omega, by have := hD.2 x hx; omega⟩⟩]
        rw [cnd_f (ltN_f (Nat.le_refl _))]
      · rfl
    · intro i hi
      simp only
      rw [cnd_t (ltL_t hi)]
      simp only [bnd_s, win1, lenN_appL, show ∀ x : Int, lenN [x] = 1 from fun _ => rfl, fulI_id, ten_labels (m := m) (l := l) (show i ≤ 1048576 by omega), addN1 (show i ≤ 1048577 by omega)]
      rw [show appL (seqI i) [(i : Int)] = seqI (i + 1) from rowL_app i _]
    · simp only
      rw [cnd_f (ltI_end l)]
    · rfl
  · cases h

theorem f_spec_ChainTensor (x : Int × List Site) (y : List Int × List Int × List Int) (h : F_spec_ChainTensor x = some y) : G_spec_ChainTensor FUEL x = some y := by
  obtain ⟨m, l⟩ := x
  simp only [F_spec_ChainTensor] at h
  split at h
  · rename_i hs
    rw [← h]
    simp only [G_spec_ChainTensor]
    rw [show F_spec_ChainOk (m, l) = some (chainOk (m, l)) from if_pos hs, bnd_s]
    cases hk : chainOk (m, l) with
    | false => rw [cnd_t (by rfl), if_neg (by simp)]
    | true =>
      rw [cnd_f (by rfl), if_pos rfl, show F_spec_l32Tensor (m, l) = some (tensL m l) from if_pos hk, bnd_s]
      simp only [takI_id, bnd_s]
  · cases h

theorem f_impl_ChainTensor (x : Int × List Site) (y : List Int × List Int × List Int) (h : F_impl_ChainTensor x = some y) : G_impl_ChainTensor FUEL x = some y := by
  obtain ⟨m, l⟩ := x
  simp only [F_impl_ChainTensor, F_spec_ChainTensor] at h
  split at h
  · rename_i hs
    rw [← h]
    obtain ⟨hlen, hmm⟩ := sz_Chain_le hs
    simp only [G_impl_ChainTensor]
    rw [show F_impl_ChainOk (m, l) = some (chainOk (m, l)) from if_pos hs, bnd_s]
    cases hk : chainOk (m, l) with
    | false => rw [cnd_t (by rfl), if_neg (by simp)]
    | true =>
      rw [cnd_f (by rfl), if_pos rfl]
      obtain ⟨hm, hl, _, _, _⟩ := chainOk_t hk
      obtain ⟨hD, hp, hDl, hcap⟩ := dims_good hk
      rw [show F_impl_chainDims (m, l) = some (dimsOf l) from if_pos hlen, bnd_s]
      rw [show fulI 0 0 (lenN ([] : List Int)) = some () from rfl]
      simp only [bnd_s, fulI_id]
      rw [loopT_seq (fun i => ((natI (lenN l), (i : Int)), (m, l), ([] : List Int), ([] : List Int), ([] : List Int), seqI i, dimsOf l, ([] : List Int))) (r := Sum.inl ((m, l), ([] : List Int), ([] : List Int), ([] : List Int), seqI l.length, dimsOf l, ([] : List Int))) l.length ?_ ?_ ?_ (FUEL_gt (by omega))]
      · rw [joinK_l]
        simp only
        rw [mkI_nat (n := lenN (dimsOf l)) (by simp only [lenN, maxBytes]; omega), bnd_s, lenN_repL, fulI_id, bnd_s]
        rw [loopT_seq (fun n => ((m, l), ([] : List Int), ([] : List Int), ([] : List Int), seqI l.length, dimsOf l, (rowL n fun n => chainAt m l (idxN (dimsOf l) n)), idxN (dimsOf l) n)) (r := tensL m l) (prodN (dimsOf l) - 1) ?_ ?_ ?_ (FUEL_gt (by omega))]
        · intro n hn
          simp only [winI_id, bnd_s]
          rw [show F_impl_rawChainAt ((m, l), idxN (dimsOf l) n) = some (chainAt m l (idxN (dimsOf l) n)) from if_pos ⟨hk, idxB_idx hD n⟩]
          simp only [bnd_s, win1, lenN_appL, lenN_row, show ∀ x : Int, lenN [x] = 1 from fun _ => rfl, fulI_id, show fitI (addN n 1) 8 = some () from fitI_ok (by simp only [addN, maxBytes]; omega)]
          rw [next_nat hD (by omega) (by omega), bnd_s]
          simp only
          rw [cnd_f (notB_p (by omega)), show fulI 0 (lenN (idxN (dimsOf l) n)) (lenN (idxN (dimsOf l) (n + 1))) = some () from by unfold idxN; exact fulI_row _ _ _, bnd_s, rowL_app n fun n => chainAt m l (idxN (dimsOf l) n)]
        · simp only [winI_id, bnd_s]
          generalize hq : prodN (dimsOf l) - 1 = n
          have hn : prodN (dimsOf l) = n + 1 := by omega
          rw [show F_impl_rawChainAt ((m, l), idxN (dimsOf l) n) = some (chainAt m l (idxN (dimsOf l) n)) from if_pos ⟨hk, idxB_idx hD n⟩]
          simp only [bnd_s, win1, lenN_appL, lenN_row, show ∀ x : Int, lenN [x] = 1 from fun _ => rfl, fulI_id, show fitI (addN n 1) 8 = some () from fitI_ok (by simp only [addN, maxBytes]; omega)]
          rw [next_nat hD (by omega) (by omega), bnd_s]
          simp only
          rw [cnd_t (notB_d (by omega)), rowL_app n fun n => chainAt m l (idxN (dimsOf l) n)]
          simp only [takI_id, bnd_s]
          rw [show addN n 1 = lenN (rowL (n + 1) fun n => chainAt m l (idxN (dimsOf l) n)) from by rw [lenN_row]; rfl, takI_id, bnd_s]
          simp only [bnd_s, tensL, hn]
        · rw [idx0 hD]; rfl
      · intro i hi
        simp only
        rw [cnd_t (ltL_t hi)]
        simp only [bnd_s, win1, lenN_appL, show ∀ x : Int, lenN [x] = 1 from fun _ => rfl, fulI_id, ten_labels (m := m) (l := l) (show i ≤ 1048576 by omega), addN1 (show i ≤ 1048577 by omega)]
        rw [show appL (seqI i) [(i : Int)] = seqI (i + 1) from rowL_app i _]
      · simp only
        rw [cnd_f (ltI_end l)]
      · rfl
  · cases h
end Go.Am
end
