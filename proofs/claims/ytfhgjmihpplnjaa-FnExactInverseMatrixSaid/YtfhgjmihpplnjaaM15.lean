/- Mx, M1, M4, M6, M7, M8, M9, Fm, M14, M15: parts of the proof. No condition. -/
import Derived.Test.YtfhgjmihpplnjaaMT
set_option linter.unusedVariables false
set_option linter.unusedSimpArgs false
section
namespace Go.Am

/-! ### loops -/

/-! ### matrices -/

def genD (r c : Nat) (M : Nat → Nat → Int) : List Int := (List.range (r * c)).map fun n => M (n / c) (n % c)
def ofD (c : Nat) (l : List Int) : Nat → Nat → Int := fun i j => l.getD (i * c + j) 0
def updM (M : Nat → Nat → Int) (i j : Nat) (x : Int) : Nat → Nat → Int := fun a b => if a = i ∧ b = j then x else M a b

theorem idx_lt {r c i j : Nat} (hi : i < r) (hj : j < c) : i * c + j < r * c := by
  have : (i + 1) * c ≤ r * c := Nat.mul_le_mul_right _ hi
  rw [Nat.add_mul] at this
  omega
theorem idx_div {c i j : Nat} (hj : j < c) : (i * c + j) / c = i := by
  rw [Nat.mul_comm, Nat.mul_add_div (by omega), Nat.div_eq_of_lt hj, Nat.add_zero]
theorem idx_mod {c i j : Nat} (hj : j < c) : (i * c + j) % c = j := by
  rw [Nat.mul_comm, Nat.mul_add_mod, Nat.mod_eq_of_lt hj]
theorem genD_len (r c : Nat) (M : Nat → Nat → Int) : (genD r c M).length = r * c := by simp [genD]
theorem genD_get {r c i j : Nat} (M : Nat → Nat → Int) (hi : i < r) (hj : j < c) : (genD r c M)[i * c + j]? = some (M i j) := by
  unfold genD
  rw [List.getElem?_map, List.getElem?_range (idx_lt hi hj)]
  simp [idx_div hj, idx_mod hj]
theorem genD_congr {r c : Nat} {M M' : Nat → Nat → Int} (h : ∀ i, i < r → ∀ j, j < c → M i j = M' i j) : genD r c M = genD r c M' := by
  unfold genD
  refine List.map_congr_left fun n hn => ?_
  have hn := List.mem_range.1 hn
  have hc : 0 < c := by
    rcases Nat.eq_zero_or_pos c with h | h
    · subst h; simp at hn
    · exact h
  exact h _ ((Nat.div_lt_iff_lt_mul hc).2 hn) _ (Nat.mod_lt _ hc)
theorem genD_set {r c i j : Nat} (M : Nat → Nat → Int) (hj : j < c) (x : Int) : (genD r c M).set (i * c + j) x = genD r c (updM M i j x) := by
  apply List.ext_getElem?
  intro n
  rw [List.getElem?_set, genD_len]
  unfold genD
  simp only [List.getElem?_map]
  by_cases hn : n < r * c
  · rw [List.getElem?_range hn]
    have hc : 0 < c := by omega
    by_cases he : i * c + j = n
    · rw [if_pos he, if_pos (by omega)]
      subst he
      simp [updM, idx_div hj, idx_mod hj]
    · rw [if_neg he]
      simp only [Option.map_some, updM]
      rw [if_neg]
      rintro ⟨h1, h2⟩
      apply he
      rw [← h1, ← h2]
      have := Nat.div_add_mod n c
      rw [Nat.mul_comm] at this
      exact this
  · rw [List.getElem?_eq_none (by simp; omega)]
    by_cases he : i * c + j = n
    · rw [if_pos he, if_neg (by omega)]; rfl
    · rw [if_neg he]; rfl
theorem genD_of {r c : Nat} {l : List Int} (h : l.length = r * c) : genD r c (ofD c l) = l := by
  apply List.ext_getElem?
  intro n
  unfold genD
  simp only [List.getElem?_map]
  by_cases hn : n < r * c
  · rw [List.getElem?_range hn, List.getElem?_eq_getElem (by omega)]
    simp only [Option.map_some, ofD]
    have := Nat.div_add_mod n c
    rw [Nat.mul_comm] at this
    rw [this, List.getD_eq_getElem?_getD, List.getElem?_eq_getElem (by omega)]
    rfl
  · rw [List.getElem?_eq_none (by simp; omega), List.getElem?_eq_none (by omega)]
    rfl
theorem ofD_gen {r c i j : Nat} (M : Nat → Nat → Int) (hi : i < r) (hj : j < c) : ofD c (genD r c M) i j = M i j := by
  unfold ofD
  rw [List.getD_eq_getElem?_getD, genD_get M hi hj]
  rfl
theorem genD_rep (r c : Nat) (x : Int) : repL (r * c) x = genD r c (fun _ _ => x) := by
  unfold genD repL
  rw [List.map_const', List.length_range]
/-! ### indices as the program computes them -/

theorem idxI {i c j : Nat} (hi : i ≤ 1048576) (hc : c ≤ 1048576) (hj : j ≤ 1048576) : addI .i64 (mulI .i64 (i : Int) (c : Int)) (j : Int) = ((i * c + j : Nat) : Int) := by
  have h1 : i * c ≤ 1048576 * 1048576 := Nat.mul_le_mul hi hc
  have e : (i : Int) * (c : Int) = ((i * c : Nat) : Int) := by norm_cast
  rw [mulI, wrap_id (by omega) (by omega), addI_eq (by omega) (by omega), e]
  omega
theorem mulN {i c : Nat} (hi : i ≤ 1048576) (hc : c ≤ 1048576) : mulI .i64 (i : Int) (c : Int) = ((i * c : Nat) : Int) := by
  have h1 : i * c ≤ 1048576 * 1048576 := Nat.mul_le_mul hi hc
  have e : (i : Int) * (c : Int) = ((i * c : Nat) : Int) := by norm_cast
  rw [mulI, wrap_id (by omega) (by omega), e]
theorem getI_gen {r c i j : Nat} (M : Nat → Nat → Int) (hi : i < r) (hj : j < c) : getI (genD r c M) ((i * c + j : Nat) : Int) = some (M i j) := by rw [getI_nat, genD_get M hi hj]
theorem chkI_gen {r c i j : Nat} (M : Nat → Nat → Int) (hi : i < r) (hj : j < c) : chkI ((i * c + j : Nat) : Int) (lenN (genD r c M)) = some (i * c + j) := chkI_nat (by unfold lenN; rw [genD_len]; exact idx_lt hi hj)
theorem getN_gen {r c i j : Nat} (M : Nat → Nat → Int) (hi : i < r) (hj : j < c) : getN (genD r c M) (i * c + j) = some (M i j) := genD_get M hi hj
theorem setL_gen {r c i j : Nat} (M : Nat → Nat → Int) (hj : j < c) (x : Int) : setL (genD r c M) (i * c + j) x = genD r c (updM M i j x) := genD_set M hj x
theorem lenN_gen (r c : Nat) (M : Nat → Nat → Int) : lenN (genD r c M) = r * c := genD_len r c M
theorem fulI_gen (r c : Nat) (M M' : Nat → Nat → Int) : fulI 0 (lenN (genD r c M)) (lenN (genD r c M')) = some () := by rw [lenN_gen, lenN_gen]; exact fulI_id _
theorem samI_gen (r c : Nat) (M M' : Nat → Nat → Int) : samI (lenN (genD r c M)) (lenN (genD r c M')) = some () := by rw [lenN_gen, lenN_gen]; exact samI_ok rfl
theorem remN {a p : Int} (ha : 0 ≤ a) (hp : 0 < p) : remI a p = some (a % p) := by
  unfold remI
  rw [if_neg (by omega), Int.tmod_eq_emod_of_nonneg ha]
theorem ltN_t {i n : Nat} (h : i < n) : ltI (i : Int) (n : Int) = true := ltI_t (by omega)
theorem ltN_f {i n : Nat} (h : n ≤ i) : ltI (i : Int) (n : Int) = false := ltI_f (by omega)
theorem addN1 {i : Nat} (h : i ≤ 1048577) : addI .i64 (i : Int) 1 = ((i + 1 : Nat) : Int) := by rw [addI_eq (by omega) (by omega)]; omega

/-- Products modulo p. -/
def pOk (p : Int) : Prop := 2 ≤ p ∧ p ≤ 1000003
instance (p : Int) : Decidable (pOk p) := inferInstanceAs (Decidable (2 ≤ p ∧ p ≤ 1000003))
def inP (p x : Int) : Prop := 0 ≤ x ∧ x < p
instance (p x : Int) : Decidable (inP p x) := inferInstanceAs (Decidable (0 ≤ x ∧ x < p))

theorem emod_in {p : Int} (hp : pOk p) (a : Int) : inP p (a % p) := ⟨Int.emod_nonneg _ (by have := hp.1; omega), Int.emod_lt_of_pos _ (by have := hp.1; omega)⟩
theorem inP.le {p x : Int} (h : inP p x) : 0 ≤ x ∧ x ≤ p := ⟨h.1, Int.le_of_lt h.2⟩
theorem inP.s {p x : Int} (hp : pOk p) (h : inP p x) : 0 ≤ x ∧ x ≤ 1000003000000 := ⟨h.1, by have := h.2; have := hp.2; omega⟩
theorem prod_in {p a b : Int} (hp : pOk p) (ha : 0 ≤ a ∧ a ≤ p) (hb : 0 ≤ b ∧ b ≤ p) : 0 ≤ a * b ∧ a * b ≤ 1000006000009 := by
  refine ⟨Int.mul_nonneg ha.1 hb.1, ?_⟩
  have h1 := hp.2
  have := Int.mul_le_mul (show a ≤ 1000003 by omega) (show b ≤ 1000003 by omega) hb.1 (by omega)
  omega
theorem mulI_in {p a b : Int} (hp : pOk p) (ha : 0 ≤ a ∧ a ≤ p) (hb : 0 ≤ b ∧ b ≤ p) : mulI .i64 a b = a * b := by
  have := prod_in hp ha hb
  exact wrap_id (by omega) (by omega)
theorem macI {p s a b : Int} (hp : pOk p) (hs : 0 ≤ s ∧ s ≤ 1000003000000) (ha : 0 ≤ a ∧ a ≤ p) (hb : 0 ≤ b ∧ b ≤ p) : remI (addI .i64 s (mulI .i64 a b)) p = some ((s + a * b) % p) := by
  have h := prod_in hp ha hb
  rw [mulI_in hp ha hb, addI_eq (by omega) (by omega), remN (by omega) (by have := hp.1; omega)]
theorem mulR {p a b : Int} (hp : pOk p) (ha : 0 ≤ a ∧ a ≤ p) (hb : 0 ≤ b ∧ b ≤ p) : remI (mulI .i64 a b) p = some (a * b % p) := by
  have h := prod_in hp ha hb
  rw [mulI_in hp ha hb, remN h.1 (by have := hp.1; omega)]

/-- All of a matrix's elements are modulo p. -/
def inM (p : Int) (r c : Nat) (M : Nat → Nat → Int) : Prop := ∀ i, i < r → ∀ j, j < c → inP p (M i j)

def allP (p : Int) (l : List Int) : Prop := ∀ x ∈ l, inP p x
instance (p : Int) (l : List Int) : Decidable (allP p l) := inferInstanceAs (Decidable (∀ x ∈ l, inP p x))

theorem allP_gen {p : Int} {r c : Nat} {M : Nat → Nat → Int} : allP p (genD r c M) ↔ inM p r c M := by
  constructor
  · intro h i hi j hj
    exact h _ (List.mem_of_getElem? (genD_get M hi hj))
  · intro h x hx
    unfold genD at hx
    obtain ⟨n, hn, rfl⟩ := List.mem_map.1 hx
    have hn := List.mem_range.1 hn
    have hc : 0 < c := by
      rcases Nat.eq_zero_or_pos c with h | h
      · subst h; simp at hn
      · exact h
    exact h _ ((Nat.div_lt_iff_lt_mul hc).2 hn) _ (Nat.mod_lt _ hc)

/-- A matrix as the program has it. -/
def mOk (x : Int × Int × List Int) : Prop := (0 ≤ x.1 ∧ x.1 ≤ 4096) ∧ (0 ≤ x.2.1 ∧ x.2.1 ≤ 4096) ∧ (x.2.2.length : Int) = x.1 * x.2.1 ∧ x.2.2.length ≤ 1048576
instance (x : Int × Int × List Int) : Decidable (mOk x) := by unfold mOk; infer_instance

/-- What a matrix is. -/
theorem mOk_gen {x : Int × Int × List Int} (h : mOk x) : ∃ (r c : Nat) (M : Nat → Nat → Int), x = ((r : Int), (c : Int), genD r c M) ∧ r ≤ 4096 ∧ c ≤ 4096 ∧ r * c ≤ 1048576 := by
  obtain ⟨r, c, l⟩ := x
  obtain ⟨h1, h2, h3, h4⟩ := h
  simp only at h1 h2 h3 h4
  obtain ⟨r, rfl⟩ := natI_eq h1.1
  obtain ⟨c, rfl⟩ := natI_eq h2.1
  have e : l.length = r * c := by
    have : ((r : Int) * (c : Int)) = ((r * c : Nat) : Int) := by norm_cast
    rw [this] at h3; exact_mod_cast h3
  exact ⟨r, c, ofD c l, by rw [genD_of e], by omega, by omega, by omega⟩

theorem mOk_mk {r c : Nat} (M : Nat → Nat → Int) (hr : r ≤ 4096) (hc : c ≤ 4096) (h : r * c ≤ 1048576) : mOk ((r : Int), (c : Int), genD r c M) := by
  refine ⟨⟨by omega, by show (r : Int) ≤ 4096; omega⟩, ⟨by show (0 : Int) ≤ c; omega, by show (c : Int) ≤ 4096; omega⟩, ?_, ?_⟩
  · simp only [genD_len]; norm_cast
  · simp only [genD_len]; exact h

end Go.Am
end
section
namespace Go.Am
def F_spec_l01In : Int × Int × Int → Option Bool := fun ((a, b, c) : Int × Int × Int) => some (decide (b ≤ a ∧ a ≤ c))
def ag_spec_l01In : Sig := [(.one, [.int .i64]), (.one, [.int .i64]), (.one, [.int .i64])]
def rs_spec_l01In : Sig := [(.one, [.bool])]
def mu_spec_l01In : MSig := []
def G_spec_l01In (NN : Nat) : (Int × (Int × Int)) → (Option Bool) :=
 (fun ((i0, i1, i2) : (Int × (Int × Int))) =>
 cnd (leI i1 i0)
 (some (leI i0 i2))
 (some false))

theorem f_spec_l01In (x : Int × Int × Int) (y : Bool) (h : F_spec_l01In x = some y) : G_spec_l01In FUEL x = some y := by
  obtain ⟨a, b, c⟩ := x
  rw [← h]
  simp only [F_spec_l01In, G_spec_l01In, leI]
  by_cases hc : b ≤ a <;> simp [hc, cnd]

end Go.Am
end
section
namespace Go.Am

/-! ### primes, rows, matrices, automata -/

def divAt (n : Int) (i : Nat) : Bool := decide ((i : Int) * i ≤ n) && decide (n % (i : Int) = 0)
def isPrimeI (n : Int) : Bool := decide (2 ≤ n ∧ n ≤ 1000003) && !((List.range' 2 999).any (divAt n))
def F_spec_IsPrime : Int → Option Bool := fun (n : Int) => some (isPrimeI n)
def F_impl_IsPrime : Int → Option Bool := fun (n : Int) => some (isPrimeI n)
def inB (m : Int) (v : Int) : Bool := decide (0 ≤ v ∧ v < m)
def rowOk (m : Int) (l : List Int) : Bool := l.all (inB m)
def F_impl_inMod : Int × List Int → Option Bool := fun ((m, l) : Int × List Int) => if l.length ≤ 1048576 then some (rowOk m l) else none
def matOk (m : Int) (x : Int × Int × List Int) : Bool := isPrimeI m && (decide (0 ≤ x.1 ∧ x.1 ≤ 64) && (decide (0 ≤ x.2.1 ∧ x.2.1 ≤ 64) && (decide ((x.2.2.length : Int) = x.1 * x.2.1) && rowOk m x.2.2)))
def F_spec_MatrixOk : Int × Int × Int × List Int → Option Bool := fun ((m, x) : Int × Int × Int × List Int) => if sz_Matrix x ≤ 1048576 then some (matOk m x) else none
def F_impl_MatrixOk : Int × Int × Int × List Int → Option Bool := fun ((m, x) : Int × Int × Int × List Int) => if sz_Matrix x ≤ 1048576 then some (matOk m x) else none
def ag_spec_IsPrime : Sig := [(.one, [.int .i64])]
def rs_spec_IsPrime : Sig := [(.one, [.bool])]
def mu_spec_IsPrime : MSig := []
def ag_spec_MatrixOk : Sig := [(.one, [.int .i64]), (.agg, [.int .i64, .int .i64, .list [.int .i64]])]
def rs_spec_MatrixOk : Sig := [(.one, [.bool])]
def mu_spec_MatrixOk : MSig := []
def ag_impl_IsPrime : Sig := [(.one, [.int .i64])]
def rs_impl_IsPrime : Sig := [(.one, [.bool])]
def mu_impl_IsPrime : MSig := []
def ag_impl_inMod : Sig := [(.one, [.int .i64]), (.one, [.list [.int .i64]])]
def rs_impl_inMod : Sig := [(.one, [.bool])]
def mu_impl_inMod : MSig := []
def ag_impl_MatrixOk : Sig := [(.one, [.int .i64]), (.agg, [.int .i64, .int .i64, .list [.int .i64]])]
def rs_impl_MatrixOk : Sig := [(.one, [.bool])]
def mu_impl_MatrixOk : MSig := []
def G_spec_IsPrime (NN : Nat) : Int → (Option Bool) :=
 (fun (i0 : Int) =>
 joinK (loopT NN (fun ((i1, i2) : (Int × Int)) =>
 cnd (leI (mulI .i64 i2 i2) i1)
 (cnd (leI i1 (1000003 : Int))
 ((remI i1 i2).bnd (fun (i3 : Int) =>
 cnd (eqI i3 (0 : Int))
 (some (Sum.inr (Sum.inr false)))
 (some (Sum.inl (i1, addI .i64 i2 (1 : Int))))))
 (some (Sum.inr (Sum.inl i1))))
 (some (Sum.inr (Sum.inl i1))))
 (i0, (2 : Int)))
 (fun (i4 : Int) =>
 (F_spec_l01In (i4, (2 : Int), (1000003 : Int))).bnd (fun (b5 : Bool) =>
 some b5)))

def G_spec_MatrixOk (NN : Nat) : (Int × (Int × (Int × (List Int)))) → (Option Bool) :=
 (fun ((i0, i1, i2, l3) : (Int × (Int × (Int × (List Int))))) =>
 (F_spec_IsPrime i0).bnd (fun (b4 : Bool) =>
 cnd (notB b4)
 (some false)
 ((F_spec_l01In (i1, (0 : Int), (64 : Int))).bnd (fun (b5 : Bool) =>
 cnd (notB b5)
 (some false)
 ((F_spec_l01In (i2, (0 : Int), (64 : Int))).bnd (fun (b6 : Bool) =>
 cnd (notB b6)
 (some false)
 (cnd (neI (natI (lenN l3)) (mulI .i64 i1 i2))
 (some false)
 (joinK (loopT NN (fun ((i7, l8, i9, i10) : (Int × ((List Int) × (Int × Int)))) =>
 cnd (ltI i10 i9)
 ((getI l8 i10).bnd (fun (i11 : Int) =>
 (F_spec_l01In (i11, (0 : Int), subI .i64 i7 (1 : Int))).bnd (fun (b12 : Bool) =>
 cnd (notB b12)
 (some (Sum.inr (Sum.inr false)))
 (some (Sum.inl (i7, l8, i9, addI .i64 i10 (1 : Int)))))))
 (some (Sum.inr (Sum.inl ()))))
 (i0, l3, natI (lenN l3), (0 : Int)))
 (fun (_ : Unit) =>
 some true)))))))))

def G_impl_IsPrime (NN : Nat) : Int → (Option Bool) :=
 (fun (i0 : Int) =>
 cnd (ltI i0 (2 : Int))
 (some false)
 (cnd (ltI (1000003 : Int) i0)
 (some false)
 (joinK (loopT NN (fun ((i1, i2) : (Int × Int)) =>
 cnd (leI (mulI .i64 i2 i2) i1)
 ((remI i1 i2).bnd (fun (i3 : Int) =>
 cnd (eqI i3 (0 : Int))
 (some (Sum.inr (Sum.inr false)))
 (some (Sum.inl (i1, addI .i64 i2 (1 : Int))))))
 (some (Sum.inr (Sum.inl ()))))
 (i0, (2 : Int)))
 (fun (_ : Unit) =>
 some true))))

def G_impl_inMod (NN : Nat) : (Int × (List Int)) → (Option Bool) :=
 (fun ((i0, l1) : (Int × (List Int))) =>
 joinK (loopT NN (fun ((i2, l3, i4, i5) : (Int × ((List Int) × (Int × Int)))) =>
 cnd (ltI i5 i4)
 ((getI l3 i5).bnd (fun (i6 : Int) =>
 cnd (ltI i6 (0 : Int))
 (some (Sum.inr (Sum.inr false)))
 (cnd (leI i2 i6)
 (some (Sum.inr (Sum.inr false)))
 (some (Sum.inl (i2, l3, i4, addI .i64 i5 (1 : Int)))))))
 (some (Sum.inr (Sum.inl ()))))
 (i0, l1, natI (lenN l1), (0 : Int)))
 (fun (_ : Unit) =>
 some true))

def G_impl_MatrixOk (NN : Nat) : (Int × (Int × (Int × (List Int)))) → (Option Bool) :=
 (fun ((i0, i1, i2, l3) : (Int × (Int × (Int × (List Int))))) =>
 (F_impl_IsPrime i0).bnd (fun (b4 : Bool) =>
 cnd (notB b4)
 (some false)
 (cnd (ltI i1 (0 : Int))
 (some false)
 (cnd (ltI i2 (0 : Int))
 (some false)
 (cnd (ltI (64 : Int) i1)
 (some false)
 (cnd (ltI (64 : Int) i2)
 (some false)
 (cnd (eqI (natI (lenN l3)) (mulI .i64 i1 i2))
 ((F_impl_inMod (i0, l3)).bnd (fun (b5 : Bool) =>
 some b5))
 (some false))))))))

theorem mulI_eq {a b : Int} (h1 : -9223372036854775808 ≤ a * b) (h2 : a * b ≤ 9223372036854775807) : mulI .i64 a b = a * b := wrap_id h1 h2
theorem remI_nat {n : Int} {i : Nat} (hn : 0 ≤ n) (hi : 0 < i) : remI n (i : Int) = some (n % (i : Int)) := by
  unfold remI
  rw [if_neg (by omega), Int.tmod_eq_emod_of_nonneg hn]

theorem sq_le {i j : Nat} (h : i ≤ j) : (i : Int) * i ≤ (j : Int) * j := by
  have := Nat.mul_le_mul h h
  exact_mod_cast this

/-- The search for a divisor. -/
theorem div_loop {X Y : Type} {f : X → Option (X ⊕ (Y ⊕ Bool))} (n : Int) (mk : Nat → X) (r : Y) (hn : n ≤ 1000003)
    (h1 : ∀ i : Nat, 2 ≤ i → i ≤ 1001 → (i : Int) * i ≤ n → n % (i : Int) = 0 → f (mk i) = some (.inr (.inr false)))
    (h2 : ∀ i : Nat, 2 ≤ i → i ≤ 1001 → (i : Int) * i ≤ n → n % (i : Int) ≠ 0 → f (mk i) = some (.inl (mk (i + 1))))
    (h3 : ∀ i : Nat, 2 ≤ i → i ≤ 1001 → ¬ (i : Int) * i ≤ n → f (mk i) = some (.inr (.inl r))) {x0 : X} (hx : x0 = mk 2) :
    loopT FUEL f x0 = some (if (List.range' 2 999).any (divAt n) = true then .inr false else .inl r) := by
  subst hx
  have key : ∀ (d i : Nat), 2 ≤ i → i + d = 1001 → ∀ N, d < N → loopT N f (mk i) = some (if (List.range' i d).any (divAt n) = true then .inr false else .inl r) := by
    intro d
    induction d with
    | zero =>
      intro i hi hd N hN
      obtain ⟨N, rfl⟩ : ∃ M, N = M + 1 := ⟨N - 1, by omega⟩
      have : i = 1001 := by omega
      subst this
      rw [loopT, h3 1001 (by omega) (by omega) (by omega)]
      rfl
    | succ d ih =>
      intro i hi hd N hN
      obtain ⟨N, rfl⟩ : ∃ M, N = M + 1 := ⟨N - 1, by omega⟩
      rw [List.range'_succ, List.any_cons]
      by_cases hle : (i : Int) * i ≤ n
      · by_cases hm : n % (i : Int) = 0
        · rw [loopT, h1 i hi (by omega) hle hm]
          simp [divAt, hle, hm]
        · rw [loopT, h2 i hi (by omega) hle hm]
          simp only
          rw [ih (i + 1) (by omega) (by omega) N (by omega), show divAt n i = false by simp [divAt, hm], Bool.false_or]
      · rw [loopT, h3 i hi (by omega) hle]
        have : (List.range' (i + 1) d).any (divAt n) = false := by
          rw [List.any_eq_false]
          intro j hj
          have := (List.mem_range'_1.1 hj).1
          have := sq_le (show i ≤ j by omega)
          simp only [divAt, Bool.and_eq_true, decide_eq_true_eq, not_and]
          intro h; omega
        simp only
        rw [this]
        simp [divAt, hle]
  exact key 999 2 (by omega) (by omega) FUEL (FUEL_gt (by omega))

theorem sq_le1001 {i : Nat} (h : i ≤ 1001) : 0 ≤ (i : Int) * i ∧ (i : Int) * i ≤ 1002001 := by
  have h1 := sq_le h
  have h0 := sq_le (Nat.zero_le i)
  omega

theorem f_spec_IsPrime (x : Int) (y : Bool) (h : F_spec_IsPrime x = some y) : G_spec_IsPrime FUEL x = some y := by
  rw [← h]
  simp only [F_spec_IsPrime, G_spec_IsPrime]
  by_cases hx : x ≤ 1000003
  · rw [div_loop x (fun i => (x, (i : Int))) x hx ?_ ?_ ?_ ?_]
    · by_cases hd : (List.range' 2 999).any (divAt x) = true
      · rw [if_pos hd, joinK_r, isPrimeI, hd]
        simp
      · rw [if_neg hd, joinK_l, isPrimeI]
        simp only [F_spec_l01In, bnd_s]
        simp [hd]
    all_goals try simp only
    · intro i h2 hi hle hm
      have hs := sq_le1001 hi
      rw [mulI_eq (by omega) (by omega), cnd_t (leI_t hle), cnd_t (leI_t hx), remI_nat (by omega) (by omega), bnd_s, cnd_t (eqI_t hm)]
    · intro i h2 hi hle hm
      have hs := sq_le1001 hi
      rw [mulI_eq (by omega) (by omega), cnd_t (leI_t hle), cnd_t (leI_t hx), remI_nat (by omega) (by omega), bnd_s, cnd_f (eqI_f hm), addI_eq (by omega) (by omega)]
      rfl
    · intro i h2 hi hle
      have hs := sq_le1001 hi
      rw [mulI_eq (by omega) (by omega), cnd_f (leI_f (by omega))]
    · rfl
  · rw [loopT_seq (fun i => (x, (i : Int) + 2)) (r := Sum.inl x) 0 (fun j hj => by omega) ?_ ?_ (FUEL_gt (by omega))]
    · rw [joinK_l, isPrimeI]
      simp only [F_spec_l01In, bnd_s]
      have : ¬ (2 ≤ x ∧ x ≤ 1000003) := by omega
      simp [this]
    · simp only
      rw [cnd_t (leI_t (by rw [mulI_eq (by omega) (by omega)]; omega)), cnd_f (leI_f (by omega))]
    · rfl

theorem f_impl_IsPrime (x : Int) (y : Bool) (h : F_impl_IsPrime x = some y) : G_impl_IsPrime FUEL x = some y := by
  rw [← h]
  simp only [F_impl_IsPrime, G_impl_IsPrime]
  by_cases h2 : x < 2
  · rw [cnd_t (ltI_t h2), isPrimeI, decide_eq_false (by omega)]; rfl
  rw [cnd_f (ltI_f (by omega))]
  by_cases hx : 1000003 < x
  · rw [cnd_t (ltI_t hx), isPrimeI, decide_eq_false (by omega)]; rfl
  rw [cnd_f (ltI_f (by omega))]
  rw [div_loop x (fun i => (x, (i : Int))) () (by omega) ?_ ?_ ?_ ?_]
  · have hr : (2 ≤ x ∧ x ≤ 1000003) := by omega
    by_cases hd : (List.range' 2 999).any (divAt x) = true
    · rw [if_pos hd, joinK_r, isPrimeI, hd]
      simp
    · rw [if_neg hd, joinK_l, isPrimeI]
      simp [hd, hr]
  all_goals try simp only
  · intro i h2 hi hle hm
    have hs := sq_le1001 hi
    rw [mulI_eq (by omega) (by omega), cnd_t (leI_t hle), remI_nat (by omega) (by omega), bnd_s, cnd_t (eqI_t hm)]
  · intro i h2 hi hle hm
    have hs := sq_le1001 hi
    rw [mulI_eq (by omega) (by omega), cnd_t (leI_t hle), remI_nat (by omega) (by omega), bnd_s, cnd_f (eqI_f hm), addI_eq (by omega) (by omega)]
    rfl
  · intro i h2 hi hle
    have hs := sq_le1001 hi
    rw [mulI_eq (by omega) (by omega), cnd_f (leI_f (by omega))]
  · rfl

theorem f_impl_inMod (x : Int × List Int) (y : Bool) (h : F_impl_inMod x = some y) : G_impl_inMod FUEL x = some y := by
  obtain ⟨m, l⟩ := x
  simp only [F_impl_inMod] at h
  split at h
  · rename_i hl
    rw [← h]
    simp only [G_impl_inMod]
    rw [loopT_all (mk := fun i => (m, l, natI (lenN l), (i : Int))) l (inB m) (Sum.inr false) (Sum.inl ()) ?_ ?_ ?_ ?_ (FUEL_gt (by omega))]
    · unfold rowOk
      cases l.all (inB m) <;> rfl
    all_goals try simp only
    · intro i a ha hp
      have hp := of_decide_eq_true hp
      rw [cnd_t (ltI_in ha), getI_nat, ha, bnd_s, cnd_f (ltI_f (by omega)), cnd_f (leI_f (by omega)), next_i ha (by omega)]
    · intro i a ha hp
      have hp := of_decide_eq_false hp
      rw [cnd_t (ltI_in ha), getI_nat, ha, bnd_s]
      by_cases h0 : a < 0
      · rw [cnd_t (ltI_t h0)]
      · rw [cnd_f (ltI_f (by omega)), cnd_t (leI_t (by omega))]
    · rw [cnd_f (ltI_end l)]
    · rfl
  · cases h

theorem isPrimeI_t {m : Int} (h : isPrimeI m = true) : 2 ≤ m ∧ m ≤ 1000003 := by
  simp only [isPrimeI, Bool.and_eq_true, decide_eq_true_eq] at h
  exact h.1

theorem f_impl_MatrixOk (x : Int × Int × Int × List Int) (y : Bool) (h : F_impl_MatrixOk x = some y) : G_impl_MatrixOk FUEL x = some y := by
  obtain ⟨m, r, c, l⟩ := x
  simp only [F_impl_MatrixOk] at h
  split at h
  · rename_i hl
    rw [← h]
    have hl : l.length ≤ 1048576 := hl
    simp only [G_impl_MatrixOk, F_impl_IsPrime, bnd_s, matOk]
    cases hp : isPrimeI m with
    | false => rfl
    | true =>
      rw [cnd_f (by rfl), Bool.true_and]
      by_cases h1 : r < 0
      · rw [cnd_t (ltI_t h1), decide_eq_false (by omega)]; rfl
      rw [cnd_f (ltI_f (by omega))]
      by_cases h2 : c < 0
      · rw [cnd_t (ltI_t h2), decide_eq_false (p := 0 ≤ c ∧ c ≤ 64) (by omega)]; simp
      rw [cnd_f (ltI_f (by omega))]
      by_cases h3 : 64 < r
      · rw [cnd_t (ltI_t h3), decide_eq_false (by omega)]; rfl
      rw [cnd_f (ltI_f (by omega))]
      by_cases h4 : 64 < c
      · rw [cnd_t (ltI_t h4), decide_eq_false (p := 0 ≤ c ∧ c ≤ 64) (by omega)]; simp
      rw [cnd_f (ltI_f (by omega)), decide_eq_true (p := 0 ≤ r ∧ r ≤ 64) (by omega), decide_eq_true (p := 0 ≤ c ∧ c ≤ 64) (by omega), Bool.true_and, Bool.true_and]
      obtain ⟨r, rfl⟩ := natI_eq (z := r) (by omega)
      obtain ⟨c, rfl⟩ := natI_eq (z := c) (by omega)
      have hrc : r * c ≤ 64 * 64 := Nat.mul_le_mul (by omega) (by omega)
      have hrc' : (r : Int) * (c : Int) = ((r * c : Nat) : Int) := by norm_cast
      rw [mulI_eq (by omega) (by omega), show F_impl_inMod (m, l) = some (rowOk m l) from if_pos hl]
      by_cases h5 : (l.length : Int) = (r : Int) * c
      · rw [cnd_t (show eqI (natI (lenN l)) _ = true from eqI_t h5), decide_eq_true h5]; rfl
      · rw [cnd_f (show eqI (natI (lenN l)) _ = false from eqI_f h5), decide_eq_false h5]; rfl
  · cases h

theorem f_spec_MatrixOk (x : Int × Int × Int × List Int) (y : Bool) (h : F_spec_MatrixOk x = some y) : G_spec_MatrixOk FUEL x = some y := by
  obtain ⟨m, r, c, l⟩ := x
  simp only [F_spec_MatrixOk] at h
  split at h
  · rename_i hl
    rw [← h]
    have hl : l.length ≤ 1048576 := hl
    simp only [G_spec_MatrixOk, F_spec_IsPrime, F_spec_l01In, bnd_s, matOk]
    cases hp : isPrimeI m with
    | false => rfl
    | true =>
      obtain ⟨hm1, hm2⟩ := isPrimeI_t hp
      rw [cnd_f (by rfl), Bool.true_and]
      by_cases h1 : 0 ≤ r ∧ r ≤ 64
      rotate_left
      · rw [cnd_t (notB_d h1), decide_eq_false h1]; rfl
      rw [cnd_f (notB_p h1), decide_eq_true h1, Bool.true_and]
      by_cases h2 : 0 ≤ c ∧ c ≤ 64
      rotate_left
      · rw [cnd_t (notB_d h2), decide_eq_false h2]; rfl
      rw [cnd_f (notB_p h2), decide_eq_true h2, Bool.true_and]
      obtain ⟨r, rfl⟩ := natI_eq (z := r) (by omega)
      obtain ⟨c, rfl⟩ := natI_eq (z := c) (by omega)
      have hrc : r * c ≤ 64 * 64 := Nat.mul_le_mul (by omega) (by omega)
      have hrc' : (r : Int) * (c : Int) = ((r * c : Nat) : Int) := by norm_cast
      rw [mulI_eq (by omega) (by omega)]
      by_cases h5 : (l.length : Int) = (r : Int) * c
      rotate_left
      · rw [cnd_t (show neI (natI (lenN l)) _ = true from neI_t h5), decide_eq_false h5]; rfl
      rw [cnd_f (show neI (natI (lenN l)) _ = false from neI_f h5), decide_eq_true h5, Bool.true_and]
      rw [loopT_all (mk := fun i => (m, l, natI (lenN l), (i : Int))) l (inB m) (Sum.inr false) (Sum.inl ()) ?_ ?_ ?_ ?_ (FUEL_gt (by omega))]
      · unfold rowOk
        cases l.all (inB m) <;> rfl
      all_goals try simp only
      · intro i a ha hp
        have hp := of_decide_eq_true hp
        rw [cnd_t (ltI_in ha), getI_nat, ha, bnd_s, subI_eq (by omega) (by omega), cnd_f (notB_p (by omega)), next_i ha (by omega)]
      · intro i a ha hp
        have hp := of_decide_eq_false hp
        rw [cnd_t (ltI_in ha), getI_nat, ha, bnd_s, subI_eq (by omega) (by omega), cnd_t (notB_d (by omega))]
      · rw [cnd_f (ltI_end l)]
      · rfl
  · cases h

end Go.Am
end
section
namespace Go.Am
def newOk (x : Int × Int) : Prop := (0 ≤ x.1 ∧ x.1 ≤ 4096) ∧ (0 ≤ x.2 ∧ x.2 ≤ 4096) ∧ x.1 * x.2 ≤ 1048576
instance (x : Int × Int) : Decidable (newOk x) := by unfold newOk; infer_instance
def F_spec_l31New : Int × Int → Option (Int × Int × List Int) := fun (x : Int × Int) => if newOk x then some (x.1, x.2, genD x.1.toNat x.2.toNat fun _ _ => 0) else none
def F_impl_emptyMatrix : Int × Int → Option (Int × Int × List Int) := fun (x : Int × Int) => if newOk x then some (x.1, x.2, genD x.1.toNat x.2.toNat fun _ _ => 0) else none
def F_impl_Matrix_at : (Int × Int × List Int) × Int × Int → Option Int := fun (x : (Int × Int × List Int) × Int × Int) =>
  if mOk x.1 ∧ (0 ≤ x.2.1 ∧ x.2.1 < x.1.1) ∧ (0 ≤ x.2.2 ∧ x.2.2 < x.1.2.1) then some (ofD x.1.2.1.toNat x.1.2.2 x.2.1.toNat x.2.2.toNat) else none
def F_impl_Matrix_set : (Int × Int × List Int) × Int × Int × Int → Option (List Int) := fun (x : (Int × Int × List Int) × Int × Int × Int) =>
  if mOk x.1 ∧ (0 ≤ x.2.1 ∧ x.2.1 < x.1.1) ∧ (0 ≤ x.2.2.1 ∧ x.2.2.1 < x.1.2.1) then some (genD x.1.1.toNat x.1.2.1.toNat (updM (ofD x.1.2.1.toNat x.1.2.2) x.2.1.toNat x.2.2.1.toNat x.2.2.2)) else none
def swapF (M : Nat → Nat → Int) (a b : Nat) : Nat → Nat → Int := fun i j => if i = a then M b j else if i = b then M a j else M i j
def F_spec_l31Swap : (Int × Int × List Int) × Int × Int → Option (List Int) := fun (x : (Int × Int × List Int) × Int × Int) =>
  if mOk x.1 ∧ (0 ≤ x.2.1 ∧ x.2.1 < x.1.1) ∧ (0 ≤ x.2.2 ∧ x.2.2 < x.1.1) then some (genD x.1.1.toNat x.1.2.1.toNat (swapF (ofD x.1.2.1.toNat x.1.2.2) x.2.1.toNat x.2.2.toNat)) else none
def F_impl_Matrix_swapRows : (Int × Int × List Int) × Int × Int → Option (List Int) := F_spec_l31Swap
def clearF (p : Int) (M : Nat → Nat → Int) (i k : Nat) (f : Int) : Nat → Nat → Int := fun a j => if a = i then (M i j + f * M k j) % p else M a j
def F_impl_Matrix_addRow : (Int × Int × List Int) × Int × Int × Int × Int → Option (List Int) := fun (x : (Int × Int × List Int) × Int × Int × Int × Int) =>
  if mOk x.1 ∧ pOk x.2.1 ∧ (0 ≤ x.2.2.1 ∧ x.2.2.1 < x.1.1) ∧ (0 ≤ x.2.2.2.1 ∧ x.2.2.2.1 < x.1.1) ∧ (0 ≤ x.2.2.2.2 ∧ x.2.2.2.2 ≤ x.2.1) ∧ allP x.2.1 x.1.2.2 then
    some (genD x.1.1.toNat x.1.2.1.toNat (clearF x.2.1 (ofD x.1.2.1.toNat x.1.2.2) x.2.2.1.toNat x.2.2.2.1.toNat x.2.2.2.2)) else none
def F_spec_l31Clear : Int × (Int × Int × List Int) × Int × Int × Int → Option (List Int) := fun (x : Int × (Int × Int × List Int) × Int × Int × Int) =>
  if mOk x.2.1 ∧ pOk x.1 ∧ (0 ≤ x.2.2.1 ∧ x.2.2.1 < x.2.1.1) ∧ (0 ≤ x.2.2.2.1 ∧ x.2.2.2.1 < x.2.1.1) ∧ (0 ≤ x.2.2.2.2 ∧ x.2.2.2.2 ≤ x.1) ∧ allP x.1 x.2.1.2.2 then
    some (genD x.2.1.1.toNat x.2.1.2.1.toNat (clearF x.1 (ofD x.2.1.2.1.toNat x.2.1.2.2) x.2.2.1.toNat x.2.2.2.1.toNat (x.1 - x.2.2.2.2))) else none
def pivF (M : Nat → Nat → Int) (j : Nat) : Nat → Nat → Option Nat
  | 0, _ => none
  | d + 1, k => if M k j = 0 then pivF M j d (k + 1) else some k
def pivI (o : Option Nat) : Int := match o with | some k => (k : Int) | none => -1
def F_spec_l31Pivot : (Int × Int × List Int) × Int × Int → Option Int := fun (x : (Int × Int × List Int) × Int × Int) =>
  if mOk x.1 ∧ (0 ≤ x.2.1 ∧ x.2.1 ≤ x.1.1) ∧ (0 ≤ x.2.2 ∧ x.2.2 < x.1.2.1) then some (pivI (pivF (ofD x.1.2.1.toNat x.1.2.2) x.2.2.toNat (x.1.1 - x.2.1).toNat x.2.1.toNat)) else none
def invG (p out x : Int) (n : Nat) : Int := if h : n = 0 then out else invG p (if n % 2 = 1 then out * x % p else out) (x * x % p) (n / 2)
termination_by n
decreasing_by omega
def F_spec_l31Inverse : Int × Int → Option Int := fun (x : Int × Int) => if pOk x.1 ∧ inP x.1 x.2 then some (invG x.1 1 x.2 (x.1 - 2).toNat) else none
def F_impl_rawInverse : Int × Int → Option Int := F_spec_l31Inverse
def F_spec_l05Ints : List Int → Option (List Int) := fun (l : List Int) => if l.length ≤ 1099511627776 then some l else none
def F_impl_copyInts : List Int → Option (List Int) := fun (l : List Int) => if l.length ≤ 1099511627776 then some l else none
def F_impl_copyMatrix : Int × Int × List Int → Option (Int × Int × List Int) := fun (x : Int × Int × List Int) => if x.2.2.length ≤ 1099511627776 then some x else none
def mulOk (x : Int × (Int × Int × List Int) × (Int × Int × List Int)) : Prop := pOk x.1 ∧ mOk x.2.1 ∧ mOk x.2.2 ∧ x.2.1.2.1 = x.2.2.1 ∧ x.2.1.1 * x.2.2.2.1 ≤ 1048576 ∧ allP x.1 x.2.1.2.2 ∧ allP x.1 x.2.2.2.2
instance (x : Int × (Int × Int × List Int) × (Int × Int × List Int)) : Decidable (mulOk x) := by unfold mulOk; infer_instance
def ag_spec_l31New : Sig := [(.one, [.int .i64]), (.one, [.int .i64])]
def rs_spec_l31New : Sig := [(.agg, [.int .i64, .int .i64, .list [.int .i64]])]
def mu_spec_l31New : MSig := []
def ag_impl_emptyMatrix : Sig := [(.one, [.int .i64]), (.one, [.int .i64])]
def rs_impl_emptyMatrix : Sig := [(.agg, [.int .i64, .int .i64, .list [.int .i64]])]
def mu_impl_emptyMatrix : MSig := []
def ag_spec_l05Ints : Sig := [(.one, [.list [.int .i64]])]
def rs_spec_l05Ints : Sig := [(.one, [.list [.int .i64]])]
def mu_spec_l05Ints : MSig := []
def ag_impl_copyInts : Sig := [(.one, [.list [.int .i64]])]
def rs_impl_copyInts : Sig := [(.one, [.list [.int .i64]])]
def mu_impl_copyInts : MSig := []
def ag_impl_copyMatrix : Sig := [(.agg, [.int .i64, .int .i64, .list [.int .i64]])]
def rs_impl_copyMatrix : Sig := [(.agg, [.int .i64, .int .i64, .list [.int .i64]])]
def mu_impl_copyMatrix : MSig := []
def ag_impl_Matrix_at : Sig := [(.agg, [.int .i64, .int .i64, .list [.int .i64]]), (.one, [.int .i64]), (.one, [.int .i64])]
def rs_impl_Matrix_at : Sig := [(.one, [.int .i64])]
def mu_impl_Matrix_at : MSig := []
def ag_impl_Matrix_set : Sig := [(.agg, [.int .i64, .int .i64, .list [.int .i64]]), (.one, [.int .i64]), (.one, [.int .i64]), (.one, [.int .i64])]
def rs_impl_Matrix_set : Sig := [(.one, [.list [.int .i64]])]
def mu_impl_Matrix_set : MSig := [[none, none, some .froz]]
def ag_spec_l31Swap : Sig := [(.agg, [.int .i64, .int .i64, .list [.int .i64]]), (.one, [.int .i64]), (.one, [.int .i64])]
def rs_spec_l31Swap : Sig := [(.one, [.list [.int .i64]])]
def mu_spec_l31Swap : MSig := [[none, none, some .froz]]
def ag_impl_Matrix_swapRows : Sig := [(.agg, [.int .i64, .int .i64, .list [.int .i64]]), (.one, [.int .i64]), (.one, [.int .i64])]
def rs_impl_Matrix_swapRows : Sig := [(.one, [.list [.int .i64]])]
def mu_impl_Matrix_swapRows : MSig := [[none, none, some .froz]]
def ag_impl_Matrix_addRow : Sig := [(.agg, [.int .i64, .int .i64, .list [.int .i64]]), (.one, [.int .i64]), (.one, [.int .i64]), (.one, [.int .i64]), (.one, [.int .i64])]
def rs_impl_Matrix_addRow : Sig := [(.one, [.list [.int .i64]])]
def mu_impl_Matrix_addRow : MSig := [[none, none, some .froz]]
def ag_spec_l31Clear : Sig := [(.one, [.int .i64]), (.agg, [.int .i64, .int .i64, .list [.int .i64]]), (.one, [.int .i64]), (.one, [.int .i64]), (.one, [.int .i64])]
def rs_spec_l31Clear : Sig := [(.one, [.list [.int .i64]])]
def mu_spec_l31Clear : MSig := [[], [none, none, some .froz]]
def ag_spec_l31Pivot : Sig := [(.agg, [.int .i64, .int .i64, .list [.int .i64]]), (.one, [.int .i64]), (.one, [.int .i64])]
def rs_spec_l31Pivot : Sig := [(.one, [.int .i64])]
def mu_spec_l31Pivot : MSig := []
def ag_spec_l31Inverse : Sig := [(.one, [.int .i64]), (.one, [.int .i64])]
def rs_spec_l31Inverse : Sig := [(.one, [.int .i64])]
def mu_spec_l31Inverse : MSig := []
def ag_impl_rawInverse : Sig := [(.one, [.int .i64]), (.one, [.int .i64])]
def rs_impl_rawInverse : Sig := [(.one, [.int .i64])]
def mu_impl_rawInverse : MSig := []
def G_spec_l31New (NN : Nat) : (Int × Int) → (Option (Int × (Int × (List Int)))) :=
 (fun ((i0, i1) : (Int × Int)) =>
 (mkI (mulI .i64 i0 i1) (mulI .i64 i0 i1) 8).bnd (fun (k2 : Nat) =>
 (takI (repL k2 (0 : Int)) k2).bnd (fun (l3 : (List Int)) =>
 some (i0, i1, l3))))

def G_impl_emptyMatrix (NN : Nat) : (Int × Int) → (Option (Int × (Int × (List Int)))) :=
 (fun ((i0, i1) : (Int × Int)) =>
 (mkI (mulI .i64 i0 i1) (mulI .i64 i0 i1) 8).bnd (fun (k2 : Nat) =>
 (takI (repL k2 (0 : Int)) k2).bnd (fun (l3 : (List Int)) =>
 some (i0, i1, l3))))

def G_spec_l05Ints (NN : Nat) : (List Int) → (Option (List Int)) :=
 (fun (l0 : (List Int)) =>
 (fulI 0 0 (lenN (([] : List Int)))).bnd (fun (_ : Unit) =>
 (fitI (addN (lenN (([] : List Int))) (lenN l0)) 8).bnd (fun (_ : Unit) =>
 (takI (appL (([] : List Int)) l0) (addN (lenN (([] : List Int))) (lenN l0))).bnd (fun (l1 : (List Int)) =>
 some l1))))

def G_impl_copyInts (NN : Nat) : (List Int) → (Option (List Int)) :=
 (fun (l0 : (List Int)) =>
 (fitI (addN (lenN (([] : List Int))) (lenN l0)) 8).bnd (fun (_ : Unit) =>
 (takI (appL (([] : List Int)) l0) (addN (lenN (([] : List Int))) (lenN l0))).bnd (fun (l1 : (List Int)) =>
 some l1)))

def G_impl_copyMatrix (NN : Nat) : (Int × (Int × (List Int))) → (Option (Int × (Int × (List Int)))) :=
 (fun ((i0, i1, l2) : (Int × (Int × (List Int)))) =>
 (F_impl_copyInts l2).bnd (fun (l3 : (List Int)) =>
 (takI l3 (lenN l3)).bnd (fun (l4 : (List Int)) =>
 some (i0, i1, l4))))

def G_impl_Matrix_at (NN : Nat) : ((Int × (Int × (List Int))) × (Int × Int)) → (Option Int) :=
 (fun (((i0, i1, l2), i3, i4) : ((Int × (Int × (List Int))) × (Int × Int))) =>
 (getI l2 (addI .i64 (mulI .i64 i3 i1) i4)).bnd (fun (i5 : Int) =>
 some i5))

def G_impl_Matrix_set (NN : Nat) : ((Int × (Int × (List Int))) × (Int × (Int × Int))) → (Option (List Int)) :=
 (fun (((i0, i1, l2), i3, i4, i5) : ((Int × (Int × (List Int))) × (Int × (Int × Int)))) =>
 (chkI (addI .i64 (mulI .i64 i3 i1) i4) (lenN l2)).bnd (fun (k6 : Nat) =>
 (getN l2 (addN 0 k6)).bnd (fun (i7 : Int) =>
 (samI (lenN (setL l2 (addN 0 k6) i5)) (lenN l2)).bnd (fun (_ : Unit) =>
 some (setL l2 (addN 0 k6) i5)))))

def G_spec_l31Swap (NN : Nat) : ((Int × (Int × (List Int))) × (Int × Int)) → (Option (List Int)) :=
 (fun (((i0, i1, l2), i3, i4) : ((Int × (Int × (List Int))) × (Int × Int))) =>
 (fulI 0 (lenN l2) (lenN l2)).bnd (fun (_ : Unit) =>
 loopT NN (fun (((i5, i6, i7), l8, i9, i10) : ((Int × (Int × Int)) × ((List Int) × (Int × Int)))) =>
 cnd (ltI i7 i10)
 ((chkI (addI .i64 (mulI .i64 i5 i10) i7) (lenN l8)).bnd (fun (k11 : Nat) =>
 (getN l8 (addN 0 k11)).bnd (fun (i12 : Int) =>
 (chkI (addI .i64 (mulI .i64 i6 i10) i7) (lenN l8)).bnd (fun (k13 : Nat) =>
 (getN l8 (addN 0 k13)).bnd (fun (i14 : Int) =>
 (chkI (addI .i64 (mulI .i64 i5 i10) i7) (lenN l8)).bnd (fun (k15 : Nat) =>
 (getN l8 (addN 0 k15)).bnd (fun (i16 : Int) =>
 (chkI (addI .i64 (mulI .i64 i6 i10) i7) (lenN l8)).bnd (fun (k17 : Nat) =>
 (getN (setL l8 (addN 0 k15) i14) (addN 0 k17)).bnd (fun (i18 : Int) =>
 (fulI 0 (lenN l8) (lenN (setL (setL l8 (addN 0 k15) i14) (addN 0 k17) i12))).bnd (fun (_ : Unit) =>
 some (Sum.inl ((i5, i6, addI .i64 i7 (1 : Int)), setL (setL l8 (addN 0 k15) i14) (addN 0 k17) i12, i9, i10))))))))))))
 (((samI (lenN l8) (lenN l2)).bnd (fun (_ : Unit) =>
 some l8)).bnd (fun (l19 : (List Int)) =>
 some (Sum.inr l19))))
 ((i3, i4, (0 : Int)), l2, i0, i1)))

def G_impl_Matrix_swapRows (NN : Nat) : ((Int × (Int × (List Int))) × (Int × Int)) → (Option (List Int)) :=
 (fun (((i0, i1, l2), i3, i4) : ((Int × (Int × (List Int))) × (Int × Int))) =>
 (fulI 0 (lenN l2) (lenN l2)).bnd (fun (_ : Unit) =>
 loopT NN (fun (((i5, i6, i7), l8, i9, i10) : ((Int × (Int × Int)) × ((List Int) × (Int × Int)))) =>
 cnd (ltI i7 i10)
 ((winI l8 0 (lenN l8)).bnd (fun (l11 : (List Int)) =>
 (F_impl_Matrix_at ((i9, i10, l11), i5, i7)).bnd (fun (i12 : Int) =>
 (winI l8 0 (lenN l8)).bnd (fun (l13 : (List Int)) =>
 (F_impl_Matrix_at ((i9, i10, l13), i6, i7)).bnd (fun (i14 : Int) =>
 (fulI 0 (lenN l8) (lenN l8)).bnd (fun (_ : Unit) =>
 (F_impl_Matrix_set ((i9, i10, l8), i5, i7, i14)).bnd (fun (l15 : (List Int)) =>
 (fulI 0 (lenN l8) (lenN l15)).bnd (fun (_ : Unit) =>
 (F_impl_Matrix_set ((i9, i10, l15), i6, i7, i12)).bnd (fun (l16 : (List Int)) =>
 (fulI 0 (lenN l8) (lenN l16)).bnd (fun (_ : Unit) =>
 some (Sum.inl ((i5, i6, addI .i64 i7 (1 : Int)), l16, i9, i10))))))))))))
 (((samI (lenN l8) (lenN l2)).bnd (fun (_ : Unit) =>
 some l8)).bnd (fun (l17 : (List Int)) =>
 some (Sum.inr l17))))
 ((i3, i4, (0 : Int)), l2, i0, i1)))

def G_impl_Matrix_addRow (NN : Nat) : ((Int × (Int × (List Int))) × (Int × (Int × (Int × Int)))) → (Option (List Int)) :=
 (fun (((i0, i1, l2), i3, i4, i5, i6) : ((Int × (Int × (List Int))) × (Int × (Int × (Int × Int))))) =>
 (fulI 0 (lenN l2) (lenN l2)).bnd (fun (_ : Unit) =>
 loopT NN (fun (((i7, i8, i9, i10, i11), l12, i13, i14) : ((Int × (Int × (Int × (Int × Int)))) × ((List Int) × (Int × Int)))) =>
 cnd (ltI i11 i14)
 ((winI l12 0 (lenN l12)).bnd (fun (l15 : (List Int)) =>
 (F_impl_Matrix_at ((i13, i14, l15), i8, i11)).bnd (fun (i16 : Int) =>
 (winI l12 0 (lenN l12)).bnd (fun (l17 : (List Int)) =>
 (F_impl_Matrix_at ((i13, i14, l17), i9, i11)).bnd (fun (i18 : Int) =>
 (remI (addI .i64 i16 (mulI .i64 i10 i18)) i7).bnd (fun (i19 : Int) =>
 (fulI 0 (lenN l12) (lenN l12)).bnd (fun (_ : Unit) =>
 (F_impl_Matrix_set ((i13, i14, l12), i8, i11, i19)).bnd (fun (l20 : (List Int)) =>
 (fulI 0 (lenN l12) (lenN l20)).bnd (fun (_ : Unit) =>
 some (Sum.inl ((i7, i8, i9, i10, addI .i64 i11 (1 : Int)), l20, i13, i14)))))))))))
 (((samI (lenN l12) (lenN l2)).bnd (fun (_ : Unit) =>
 some l12)).bnd (fun (l21 : (List Int)) =>
 some (Sum.inr l21))))
 ((i3, i4, i5, i6, (0 : Int)), l2, i0, i1)))

def G_spec_l31Clear (NN : Nat) : (Int × ((Int × (Int × (List Int))) × (Int × (Int × Int)))) → (Option (List Int)) :=
 (fun ((i0, (i1, i2, l3), i4, i5, i6) : (Int × ((Int × (Int × (List Int))) × (Int × (Int × Int))))) =>
 (fulI 0 (lenN l3) (lenN l3)).bnd (fun (_ : Unit) =>
 loopT NN (fun (((i7, i8, i9, i10, i11), l12, i13, i14) : ((Int × (Int × (Int × (Int × Int)))) × ((List Int) × (Int × Int)))) =>
 cnd (ltI i11 i14)
 ((chkI (addI .i64 (mulI .i64 i8 i14) i11) (lenN l12)).bnd (fun (k15 : Nat) =>
 (getN l12 (addN 0 k15)).bnd (fun (i16 : Int) =>
 (chkI (addI .i64 (mulI .i64 i9 i14) i11) (lenN l12)).bnd (fun (k17 : Nat) =>
 (getN l12 (addN 0 k17)).bnd (fun (i18 : Int) =>
 (remI (addI .i64 i16 (mulI .i64 (subI .i64 i7 i10) i18)) i7).bnd (fun (i19 : Int) =>
 (chkI (addI .i64 (mulI .i64 i8 i14) i11) (lenN l12)).bnd (fun (k20 : Nat) =>
 (getN l12 (addN 0 k20)).bnd (fun (i21 : Int) =>
 (fulI 0 (lenN l12) (lenN (setL l12 (addN 0 k20) i19))).bnd (fun (_ : Unit) =>
 some (Sum.inl ((i7, i8, i9, i10, addI .i64 i11 (1 : Int)), setL l12 (addN 0 k20) i19, i13, i14)))))))))))
 (((samI (lenN l12) (lenN l3)).bnd (fun (_ : Unit) =>
 some l12)).bnd (fun (l22 : (List Int)) =>
 some (Sum.inr l22))))
 ((i0, i4, i5, i6, (0 : Int)), l3, i1, i2)))

def G_spec_l31Pivot (NN : Nat) : ((Int × (Int × (List Int))) × (Int × Int)) → (Option Int) :=
 (fun (((i0, i1, l2), i3, i4) : ((Int × (Int × (List Int))) × (Int × Int))) =>
 joinK (loopT NN (fun (((i5, i6), i7, i8, l9) : ((Int × Int) × (Int × (Int × (List Int))))) =>
 cnd (ltI i6 i7)
 ((getI l9 (addI .i64 (mulI .i64 i6 i8) i5)).bnd (fun (i10 : Int) =>
 cnd (neI i10 (0 : Int))
 (some (Sum.inr (Sum.inr i6)))
 (some (Sum.inl ((i5, addI .i64 i6 (1 : Int)), i7, i8, l9)))))
 (some (Sum.inr (Sum.inl ()))))
 ((i4, i3), i0, i1, l2))
 (fun (_ : Unit) =>
 some ((-1 : Int))))

def G_spec_l31Inverse (NN : Nat) : (Int × Int) → (Option Int) :=
 (fun ((i0, i1) : (Int × Int)) =>
 joinK (loopT NN (fun ((i2, i3, i4, i5) : (Int × (Int × (Int × Int)))) =>
 cnd (ltI (0 : Int) i5)
 ((remI i5 (2 : Int)).bnd (fun (i6 : Int) =>
 joinK (cnd (eqI i6 (1 : Int))
 ((remI (mulI .i64 i4 i3) i2).bnd (fun (i7 : Int) =>
 some (Sum.inl (i3, i5, i2, i7))))
 (some (Sum.inl (i3, i5, i2, i4))))
 (fun ((i8, i9, i10, i11) : (Int × (Int × (Int × Int)))) =>
 (remI (mulI .i64 i8 i8) i10).bnd (fun (i12 : Int) =>
 (quoI .i64 i9 (2 : Int)).bnd (fun (i13 : Int) =>
 some (Sum.inl (i10, i12, i11, i13)))))))
 (some (Sum.inr (Sum.inl i4))))
 (i0, i1, (1 : Int), subI .i64 i0 (2 : Int)))
 (fun (i14 : Int) =>
 some i14))

def G_impl_rawInverse (NN : Nat) : (Int × Int) → (Option Int) :=
 (fun ((i0, i1) : (Int × Int)) =>
 joinK (loopT NN (fun ((i2, i3, i4, i5) : (Int × (Int × (Int × Int)))) =>
 cnd (ltI (0 : Int) i5)
 (joinK (cnd (eqI (andI .i64 i5 (1 : Int)) (1 : Int))
 ((remI (mulI .i64 i4 i3) i2).bnd (fun (i6 : Int) =>
 some (Sum.inl (i3, i5, i2, i6))))
 (some (Sum.inl (i3, i5, i2, i4))))
 (fun ((i7, i8, i9, i10) : (Int × (Int × (Int × Int)))) =>
 (remI (mulI .i64 i7 i7) i9).bnd (fun (i11 : Int) =>
 (shrI .i64 i8 (1 : Int)).bnd (fun (i12 : Int) =>
 some (Sum.inl (i9, i11, i10, i12))))))
 (some (Sum.inr (Sum.inl i4))))
 (i0, i1, (1 : Int), subI .i64 i0 (2 : Int)))
 (fun (i13 : Int) =>
 some i13))

theorem newOk_nat {r c : Nat} (hr : r ≤ 4096) (hc : c ≤ 4096) (h : r * c ≤ 1048576) : newOk ((r : Int), (c : Int)) := by
  refine ⟨⟨by omega, by show (r : Int) ≤ 4096; omega⟩, ⟨by show (0 : Int) ≤ c; omega, by show (c : Int) ≤ 4096; omega⟩, ?_⟩
  show (r : Int) * (c : Int) ≤ 1048576
  have e : (r : Int) * (c : Int) = ((r * c : Nat) : Int) := by norm_cast
  omega
theorem newOk_gen {x : Int × Int} (h : newOk x) : ∃ r c : Nat, x = ((r : Int), (c : Int)) ∧ r ≤ 4096 ∧ c ≤ 4096 ∧ r * c ≤ 1048576 := by
  obtain ⟨r, c⟩ := x
  obtain ⟨h1, h2, h3⟩ := h
  simp only at h1 h2 h3
  obtain ⟨r, rfl⟩ := natI_eq h1.1
  obtain ⟨c, rfl⟩ := natI_eq h2.1
  have e : (r : Int) * (c : Int) = ((r * c : Nat) : Int) := by norm_cast
  exact ⟨r, c, rfl, by omega, by omega, by omega⟩
theorem new_nat {r c : Nat} (hr : r ≤ 4096) (hc : c ≤ 4096) (h : r * c ≤ 1048576) : F_spec_l31New ((r : Int), (c : Int)) = some ((r : Int), (c : Int), genD r c fun _ _ => 0) := by
  simp only [F_spec_l31New, Int.toNat_natCast]
  rw [if_pos (newOk_nat hr hc h)]

theorem newI_nat {r c : Nat} (hr : r ≤ 4096) (hc : c ≤ 4096) (h : r * c ≤ 1048576) : F_impl_emptyMatrix ((r : Int), (c : Int)) = some ((r : Int), (c : Int), genD r c fun _ _ => 0) := new_nat hr hc h

theorem g_new {r c : Nat} (hr : r ≤ 4096) (hc : c ≤ 4096) (h : r * c ≤ 1048576) : G_spec_l31New FUEL ((r : Int), (c : Int)) = some ((r : Int), (c : Int), genD r c fun _ _ => 0) := by
  simp only [G_spec_l31New]
  rw [mulN (by omega) (by omega)]
  have := mkI_nat (n := r * c) (by_ := 8) (by unfold maxBytes; omega)
  rw [show ((r * c : Nat) : Int) = natI (r * c) from rfl, this, bnd_s, genD_rep]
  rw [show takI (genD r c fun _ _ => 0) (r * c) = some (genD r c fun _ _ => 0) by
    have := takI_id (genD r c fun _ _ => (0 : Int))
    rwa [lenN_gen] at this]
  rfl
theorem f_spec_l31New (x : Int × Int) (y : Int × Int × List Int) (h : F_spec_l31New x = some y) : G_spec_l31New FUEL x = some y := by
  simp only [F_spec_l31New] at h
  split at h
  · rename_i hc
    obtain ⟨r, c, rfl, h1, h2, h3⟩ := newOk_gen hc
    rw [← h, g_new h1 h2 h3]; rfl
  · cases h
theorem f_impl_emptyMatrix (x : Int × Int) (y : Int × Int × List Int) (h : F_impl_emptyMatrix x = some y) : G_impl_emptyMatrix FUEL x = some y := f_spec_l31New x y h

theorem f_spec_l05Ints (x y : List Int) (h : F_spec_l05Ints x = some y) : G_spec_l05Ints FUEL x = some y := by
  simp only [F_spec_l05Ints] at h
  split at h
  · rename_i hl
    rw [← h]
    simp only [G_spec_l05Ints]
    rw [show fulI 0 0 (lenN ([] : List Int)) = some () from rfl, bnd_s, fitI_ok (by simp only [addN, lenN, List.length_nil, maxBytes]; omega), bnd_s]
    have : appL [] x = x := rfl
    rw [this, show addN (lenN ([] : List Int)) (lenN x) = lenN x by simp [addN, lenN], takI_id]
    rfl
  · cases h
theorem f_impl_copyInts (x y : List Int) (h : F_impl_copyInts x = some y) : G_impl_copyInts FUEL x = some y := by
  simp only [F_impl_copyInts] at h
  split at h
  · rename_i hl
    rw [← h]
    simp only [G_impl_copyInts]
    rw [fitI_ok (by simp only [addN, lenN, List.length_nil, maxBytes]; omega), bnd_s]
    have : appL [] x = x := rfl
    rw [this, show addN (lenN ([] : List Int)) (lenN x) = lenN x by simp [addN, lenN], takI_id]
    rfl
  · cases h
theorem f_impl_copyMatrix (x y : Int × Int × List Int) (h : F_impl_copyMatrix x = some y) : G_impl_copyMatrix FUEL x = some y := by
  obtain ⟨r, c, l⟩ := x
  simp only [F_impl_copyMatrix] at h
  split at h
  · rename_i hl
    rw [← h]
    simp only [G_impl_copyMatrix, F_impl_copyInts, if_pos hl, bnd_s, takI_id]
  · cases h

theorem natP {a b : Int} (h : 0 ≤ a ∧ a < b) : ∃ n : Nat, a = (n : Int) ∧ ∀ m : Nat, b = (m : Int) → n < m := ⟨a.toNat, by omega, fun m hm => by omega⟩
theorem natP' {a b : Int} (h : 0 ≤ a ∧ a ≤ b) : ∃ n : Nat, a = (n : Int) ∧ ∀ m : Nat, b = (m : Int) → n ≤ m := ⟨a.toNat, by omega, fun m hm => by omega⟩

theorem g_at {r c i j : Nat} {M : Nat → Nat → Int} (hr : r ≤ 4096) (hc : c ≤ 4096) (hi : i < r) (hj : j < c) : G_impl_Matrix_at FUEL (((r : Int), (c : Int), genD r c M), (i : Int), (j : Int)) = some (M i j) := by
  simp only [G_impl_Matrix_at]
  rw [idxI (by omega) (by omega) (by omega), getI_gen M hi hj]; rfl
theorem at_nat {r c i j : Nat} {M : Nat → Nat → Int} (hr : r ≤ 4096) (hc : c ≤ 4096) (h : r * c ≤ 1048576) (hi : i < r) (hj : j < c) : F_impl_Matrix_at (((r : Int), (c : Int), genD r c M), (i : Int), (j : Int)) = some (M i j) := by
  simp only [F_impl_Matrix_at, Int.toNat_natCast]
  rw [if_pos ⟨mOk_mk M hr hc h, by omega, by omega⟩]
  rw [ofD_gen M hi hj]
theorem f_impl_Matrix_at (x : (Int × Int × List Int) × Int × Int) (y : Int) (h : F_impl_Matrix_at x = some y) : G_impl_Matrix_at FUEL x = some y := by
  obtain ⟨m, i, j⟩ := x
  simp only [F_impl_Matrix_at] at h
  split at h
  · rename_i hc
    obtain ⟨h1, h2, h3⟩ := hc
    obtain ⟨r, c, M, rfl, hr, hc, hrc⟩ := mOk_gen h1
    obtain ⟨i, rfl, hi⟩ := natP h2
    obtain ⟨j, rfl, hj⟩ := natP h3
    have hi := hi r rfl; have hj := hj c rfl
    rw [← h, g_at hr hc hi hj]
    exact congrArg some (ofD_gen M hi hj).symm
  · cases h

theorem g_set {r c i j : Nat} {M : Nat → Nat → Int} {x : Int} (hr : r ≤ 4096) (hc : c ≤ 4096) (hi : i < r) (hj : j < c) : G_impl_Matrix_set FUEL (((r : Int), (c : Int), genD r c M), (i : Int), (j : Int), x) = some (genD r c (updM M i j x)) := by
  simp only [G_impl_Matrix_set]
  rw [idxI (by omega) (by omega) (by omega), chkI_gen M hi hj, bnd_s, addN_0, getN_gen M hi hj, bnd_s, setL_gen M hj, samI_gen, bnd_s]
theorem set_nat {r c i j : Nat} {M : Nat → Nat → Int} {x : Int} (hr : r ≤ 4096) (hc : c ≤ 4096) (h : r * c ≤ 1048576) (hi : i < r) (hj : j < c) : F_impl_Matrix_set (((r : Int), (c : Int), genD r c M), (i : Int), (j : Int), x) = some (genD r c (updM M i j x)) := by
  simp only [F_impl_Matrix_set, Int.toNat_natCast]
  rw [if_pos ⟨mOk_mk M hr hc h, by omega, by omega⟩]
  refine (congrArg some (genD_congr fun a ha b hb => ?_))
  unfold updM
  rw [ofD_gen M ha hb]
theorem f_impl_Matrix_set (x : (Int × Int × List Int) × Int × Int × Int) (y : List Int) (h : F_impl_Matrix_set x = some y) : G_impl_Matrix_set FUEL x = some y := by
  obtain ⟨m, i, j, v⟩ := x
  have h0 := h
  simp only [F_impl_Matrix_set] at h
  split at h
  · rename_i hc
    obtain ⟨h1, h2, h3⟩ := hc
    obtain ⟨r, c, M, rfl, hr, hc, hrc⟩ := mOk_gen h1
    obtain ⟨i, rfl, hi⟩ := natP h2
    obtain ⟨j, rfl, hj⟩ := natP h3
    have hi := hi r rfl; have hj := hj c rfl
    rw [← h0, g_set hr hc hi hj, set_nat hr hc hrc hi hj]
  · cases h

/-! ### rows -/

def swapTo (M : Nat → Nat → Int) (a b k : Nat) : Nat → Nat → Int := fun i j => if j < k then swapF M a b i j else M i j
theorem swapTo_0 (M : Nat → Nat → Int) (a b : Nat) : swapTo M a b 0 = M := by funext i j; exact if_neg (by omega)
theorem swap_step {r c : Nat} (M : Nat → Nat → Int) (a b k : Nat) : genD r c (updM (updM (swapTo M a b k) a k (M b k)) b k (M a k)) = genD r c (swapTo M a b (k + 1)) := by
  refine genD_congr fun i _ j _ => ?_
  unfold updM swapTo swapF
  by_cases hj : j = k
  · subst hj
    by_cases hb : i = b
    · by_cases ha : i = a
      · subst hb; subst ha; simp
      · have : b ≠ a := fun e => ha (hb.trans e)
        simp [hb, this]
    · by_cases ha : i = a
      · have : a ≠ b := fun e => hb (ha.trans e)
        simp [ha, this]
      · simp [ha, hb]
  · have h1 : ¬ (i = b ∧ j = k) := fun h => hj h.2
    have h2 : ¬ (i = a ∧ j = k) := fun h => hj h.2
    rw [if_neg h1, if_neg h2]
    by_cases hk : j < k
    · simp only [if_pos hk, if_pos (show j < k + 1 by omega)]
    · simp only [if_neg hk, if_neg (show ¬ j < k + 1 by omega)]
theorem swapTo_end {r c : Nat} (M : Nat → Nat → Int) (a b : Nat) : genD r c (swapTo M a b c) = genD r c (swapF M a b) := genD_congr fun i _ j hj => if_pos hj
theorem swapTo_old (M : Nat → Nat → Int) (a b k i : Nat) : swapTo M a b k i k = M i k := if_neg (by omega)

theorem g_swapS {r c a b : Nat} {M : Nat → Nat → Int} (hr : r ≤ 4096) (hc : c ≤ 4096) (ha : a < r) (hb : b < r) : G_spec_l31Swap FUEL (((r : Int), (c : Int), genD r c M), (a : Int), (b : Int)) = some (genD r c (swapF M a b)) := by
  simp only [G_spec_l31Swap, fulI_id, bnd_s]
  refine loopT_seq (fun k => (((a : Int), (b : Int), (k : Int)), genD r c (swapTo M a b k), (r : Int), (c : Int))) c ?_ ?_ ?_ (FUEL_gt (by omega))
  · intro k hk
    simp only
    rw [cnd_t (ltN_t hk), idxI (by omega) (by omega) (by omega), idxI (by omega) (by omega) (by omega)]
    simp only [chkI_gen _ ha hk, chkI_gen _ hb hk, bnd_s, addN_0, getN_gen _ ha hk, getN_gen _ hb hk, setL_gen _ hk, fulI_gen, swapTo_old, addN1 (show k ≤ 1048577 by omega), swap_step]
  · simp only
    rw [cnd_f (ltN_f (Nat.le_refl c)), samI_gen, bnd_s, bnd_s, swapTo_end]
  · rw [swapTo_0]; rfl
theorem swap_nat {r c a b : Nat} {M : Nat → Nat → Int} (hr : r ≤ 4096) (hc : c ≤ 4096) (h : r * c ≤ 1048576) (ha : a < r) (hb : b < r) : F_spec_l31Swap (((r : Int), (c : Int), genD r c M), (a : Int), (b : Int)) = some (genD r c (swapF M a b)) := by
  simp only [F_spec_l31Swap, Int.toNat_natCast]
  rw [if_pos ⟨mOk_mk M hr hc h, by omega, by omega⟩]
  refine (congrArg some (genD_congr fun i hi j hj => ?_))
  unfold swapF
  rw [ofD_gen M hb hj, ofD_gen M ha hj, ofD_gen M hi hj]
theorem f_spec_l31Swap (x : (Int × Int × List Int) × Int × Int) (y : List Int) (h : F_spec_l31Swap x = some y) : G_spec_l31Swap FUEL x = some y := by
  obtain ⟨m, i, j⟩ := x
  have h0 := h
  simp only [F_spec_l31Swap] at h
  split at h
  · rename_i hc
    obtain ⟨h1, h2, h3⟩ := hc
    obtain ⟨r, c, M, rfl, hr, hc, hrc⟩ := mOk_gen h1
    obtain ⟨i, rfl, hi⟩ := natP h2
    obtain ⟨j, rfl, hj⟩ := natP h3
    have hi := hi r rfl; have hj := hj r rfl
    rw [← h0, g_swapS hr hc hi hj, swap_nat hr hc hrc hi hj]
  · cases h
theorem g_swapI {r c a b : Nat} {M : Nat → Nat → Int} (hr : r ≤ 4096) (hc : c ≤ 4096) (h : r * c ≤ 1048576) (ha : a < r) (hb : b < r) : G_impl_Matrix_swapRows FUEL (((r : Int), (c : Int), genD r c M), (a : Int), (b : Int)) = some (genD r c (swapF M a b)) := by
  simp only [G_impl_Matrix_swapRows, fulI_id, bnd_s, winI_id]
  refine loopT_seq (fun k => (((a : Int), (b : Int), (k : Int)), genD r c (swapTo M a b k), (r : Int), (c : Int))) c ?_ ?_ ?_ (FUEL_gt (by omega))
  · intro k hk
    simp only
    rw [cnd_t (ltN_t hk)]
    simp only [at_nat hr hc h ha hk, at_nat hr hc h hb hk, set_nat hr hc h ha hk, set_nat hr hc h hb hk, bnd_s, fulI_gen, swapTo_old, addN1 (show k ≤ 1048577 by omega), swap_step]
  · simp only
    rw [cnd_f (ltN_f (Nat.le_refl c)), samI_gen, bnd_s, bnd_s, swapTo_end]
  · rw [swapTo_0]; rfl
theorem f_impl_Matrix_swapRows (x : (Int × Int × List Int) × Int × Int) (y : List Int) (h : F_impl_Matrix_swapRows x = some y) : G_impl_Matrix_swapRows FUEL x = some y := by
  obtain ⟨m, i, j⟩ := x
  have h0 : F_spec_l31Swap (m, i, j) = some y := h
  simp only [F_impl_Matrix_swapRows, F_spec_l31Swap] at h
  split at h
  · rename_i hc
    obtain ⟨h1, h2, h3⟩ := hc
    obtain ⟨r, c, M, rfl, hr, hc, hrc⟩ := mOk_gen h1
    obtain ⟨i, rfl, hi⟩ := natP h2
    obtain ⟨j, rfl, hj⟩ := natP h3
    have hi := hi r rfl; have hj := hj r rfl
    rw [← h0, g_swapI hr hc hrc hi hj, swap_nat hr hc hrc hi hj]
  · cases h

def clearTo (p : Int) (M : Nat → Nat → Int) (i k : Nat) (f : Int) (n : Nat) : Nat → Nat → Int := fun a j => if j < n then clearF p M i k f a j else M a j
theorem clearTo_0 (p : Int) (M : Nat → Nat → Int) (i k : Nat) (f : Int) : clearTo p M i k f 0 = M := by funext a j; exact if_neg (by omega)
theorem clear_step {r c : Nat} (p : Int) (M : Nat → Nat → Int) (i k : Nat) (f : Int) (n : Nat) : genD r c (updM (clearTo p M i k f n) i n ((M i n + f * M k n) % p)) = genD r c (clearTo p M i k f (n + 1)) := by
  refine genD_congr fun a _ j _ => ?_
  unfold updM clearTo clearF
  by_cases hj : j = n
  · subst hj
    by_cases ha : a = i
    · subst ha; simp
    · simp [ha]
  · rw [if_neg (fun h => hj h.2)]
    by_cases hk : j < n
    · simp only [if_pos hk, if_pos (show j < n + 1 by omega)]
    · simp only [if_neg hk, if_neg (show ¬ j < n + 1 by omega)]
theorem clearTo_end {r c : Nat} (p : Int) (M : Nat → Nat → Int) (i k : Nat) (f : Int) : genD r c (clearTo p M i k f c) = genD r c (clearF p M i k f) := genD_congr fun a _ j hj => if_pos hj
theorem clearTo_old (p : Int) (M : Nat → Nat → Int) (i k : Nat) (f : Int) (n a : Nat) : clearTo p M i k f n a n = M a n := if_neg (by omega)
theorem g_addRow {p f : Int} {r c i k : Nat} {M : Nat → Nat → Int} (hp : pOk p) (hr : r ≤ 4096) (hc : c ≤ 4096) (h : r * c ≤ 1048576) (hi : i < r) (hk : k < r) (hf : 0 ≤ f ∧ f ≤ p) (hM : inM p r c M) :
    G_impl_Matrix_addRow FUEL (((r : Int), (c : Int), genD r c M), p, (i : Int), (k : Int), f) = some (genD r c (clearF p M i k f)) := by
  simp only [G_impl_Matrix_addRow, fulI_id, bnd_s, winI_id]
  refine loopT_seq (fun n => ((p, (i : Int), (k : Int), f, (n : Int)), genD r c (clearTo p M i k f n), (r : Int), (c : Int))) c ?_ ?_ ?_ (FUEL_gt (by omega))
  · intro n hn
    simp only
    rw [cnd_t (ltN_t hn)]
    have h1 := hM i hi n hn
    simp only [at_nat hr hc h hi hn, at_nat hr hc h hk hn, bnd_s, clearTo_old, macI hp (h1.s hp) hf (hM k hk n hn).le, set_nat hr hc h hi hn, fulI_gen, addN1 (show n ≤ 1048577 by omega), clear_step]
  · simp only
    rw [cnd_f (ltN_f (Nat.le_refl c)), samI_gen, bnd_s, bnd_s, clearTo_end]
  · rw [clearTo_0]; rfl
theorem addRow_nat {p f : Int} {r c i k : Nat} {M : Nat → Nat → Int} (hp : pOk p) (hr : r ≤ 4096) (hc : c ≤ 4096) (h : r * c ≤ 1048576) (hi : i < r) (hk : k < r) (hf : 0 ≤ f ∧ f ≤ p) (hM : inM p r c M) :
    F_impl_Matrix_addRow (((r : Int), (c : Int), genD r c M), p, (i : Int), (k : Int), f) = some (genD r c (clearF p M i k f)) := by
  simp only [F_impl_Matrix_addRow, Int.toNat_natCast]
  rw [if_pos ⟨mOk_mk M hr hc h, hp, by omega, by omega, hf, allP_gen.2 hM⟩]
  refine (congrArg some (genD_congr fun a ha j hj => ?_))
  unfold clearF
  rw [ofD_gen M hi hj, ofD_gen M hk hj, ofD_gen M ha hj]
theorem f_impl_Matrix_addRow (x : (Int × Int × List Int) × Int × Int × Int × Int) (y : List Int) (h : F_impl_Matrix_addRow x = some y) : G_impl_Matrix_addRow FUEL x = some y := by
  obtain ⟨m, p, i, k, f⟩ := x
  have h0 := h
  simp only [F_impl_Matrix_addRow] at h
  split at h
  · rename_i hc
    obtain ⟨h1, hp, h2, h3, hf, hM⟩ := hc
    obtain ⟨r, c, M, rfl, hr, hc, hrc⟩ := mOk_gen h1
    obtain ⟨i, rfl, hi⟩ := natP h2
    obtain ⟨k, rfl, hk⟩ := natP h3
    have hi := hi r rfl; have hk := hk r rfl
    have hM := allP_gen.1 hM
    rw [← h0, g_addRow hp hr hc hrc hi hk hf hM, addRow_nat hp hr hc hrc hi hk hf hM]
  · cases h
theorem g_clear {p x : Int} {r c i k : Nat} {M : Nat → Nat → Int} (hp : pOk p) (hr : r ≤ 4096) (hc : c ≤ 4096) (hi : i < r) (hk : k < r) (hf : 0 ≤ x ∧ x ≤ p) (hM : inM p r c M) :
    G_spec_l31Clear FUEL (p, ((r : Int), (c : Int), genD r c M), (i : Int), (k : Int), x) = some (genD r c (clearF p M i k (p - x))) := by
  simp only [G_spec_l31Clear, fulI_id, bnd_s]
  have hp2 := hp.2
  refine loopT_seq (fun n => ((p, (i : Int), (k : Int), x, (n : Int)), genD r c (clearTo p M i k (p - x) n), (r : Int), (c : Int))) c ?_ ?_ ?_ (FUEL_gt (by omega))
  · intro n hn
    simp only
    rw [cnd_t (ltN_t hn), idxI (by omega) (by omega) (by omega), idxI (by omega) (by omega) (by omega), subI_eq (by omega) (by omega)]
    have h1 := hM i hi n hn
    simp only [chkI_gen _ hi hn, chkI_gen _ hk hn, bnd_s, addN_0, getN_gen _ hi hn, getN_gen _ hk hn, clearTo_old, macI hp (h1.s hp) (show 0 ≤ p - x ∧ p - x ≤ p by omega) (hM k hk n hn).le, setL_gen _ hn, fulI_gen, addN1 (show n ≤ 1048577 by omega), clear_step]
  · simp only
    rw [cnd_f (ltN_f (Nat.le_refl c)), samI_gen, bnd_s, bnd_s, clearTo_end]
  · rw [clearTo_0]; rfl
theorem clear_nat {p x : Int} {r c i k : Nat} {M : Nat → Nat → Int} (hp : pOk p) (hr : r ≤ 4096) (hc : c ≤ 4096) (h : r * c ≤ 1048576) (hi : i < r) (hk : k < r) (hf : 0 ≤ x ∧ x ≤ p) (hM : inM p r c M) :
    F_spec_l31Clear (p, ((r : Int), (c : Int), genD r c M), (i : Int), (k : Int), x) = some (genD r c (clearF p M i k (p - x))) := by
  simp only [F_spec_l31Clear, Int.toNat_natCast]
  rw [if_pos ⟨mOk_mk M hr hc h, hp, by omega, by omega, hf, allP_gen.2 hM⟩]
  refine (congrArg some (genD_congr fun a ha j hj => ?_))
  unfold clearF
  rw [ofD_gen M hi hj, ofD_gen M hk hj, ofD_gen M ha hj]
theorem f_spec_l31Clear (x : Int × (Int × Int × List Int) × Int × Int × Int) (y : List Int) (h : F_spec_l31Clear x = some y) : G_spec_l31Clear FUEL x = some y := by
  obtain ⟨p, m, i, k, f⟩ := x
  have h0 := h
  simp only [F_spec_l31Clear] at h
  split at h
  · rename_i hc
    obtain ⟨h1, hp, h2, h3, hf, hM⟩ := hc
    obtain ⟨r, c, M, rfl, hr, hc, hrc⟩ := mOk_gen h1
    obtain ⟨i, rfl, hi⟩ := natP h2
    obtain ⟨k, rfl, hk⟩ := natP h3
    have hi := hi r rfl; have hk := hk r rfl
    have hM := allP_gen.1 hM
    rw [← h0, g_clear hp hr hc hi hk hf hM, clear_nat hp hr hc hrc hi hk hf hM]
  · cases h

/-! ### pivots, inverses -/

theorem piv_loop {r c i j : Nat} {M : Nat → Nat → Int} {f : ((Int × Int) × Int × Int × List Int) → Option (((Int × Int) × Int × Int × List Int) ⊕ (Unit ⊕ Int))}
    (h1 : ∀ k, k < r → f (((j : Int), (k : Int)), (r : Int), (c : Int), genD r c M) = if M k j = 0 then some (.inl (((j : Int), ((k + 1 : Nat) : Int)), (r : Int), (c : Int), genD r c M)) else some (.inr (.inr (k : Int))))
    (h2 : f (((j : Int), (r : Int)), (r : Int), (c : Int), genD r c M) = some (.inr (.inl ()))) :
    ∀ (d k : Nat), k + d = r → ∀ N, d < N → loopT N f (((j : Int), (k : Int)), (r : Int), (c : Int), genD r c M) = some (match pivF M j d k with | some q => .inr (q : Int) | none => .inl ()) := by
  intro d
  induction d with
  | zero =>
    intro k hk N hN
    obtain ⟨N, rfl⟩ : ∃ m, N = m + 1 := ⟨N - 1, by omega⟩
    have : k = r := by omega
    subst this
    simp only [loopT, h2, pivF]
  | succ d ih =>
    intro k hk N hN
    obtain ⟨N, rfl⟩ : ∃ m, N = m + 1 := ⟨N - 1, by omega⟩
    simp only [loopT, h1 k (by omega), pivF]
    by_cases h0 : M k j = 0
    · rw [if_pos h0, if_pos h0]
      exact ih (k + 1) (by omega) N (by omega)
    · rw [if_neg h0, if_neg h0]

theorem pivF_congr {M M' : Nat → Nat → Int} {j : Nat} : ∀ (d k : Nat), (∀ i, k ≤ i → i < k + d → M i j = M' i j) → pivF M j d k = pivF M' j d k
  | 0, k, _ => rfl
  | d + 1, k, h => by
    simp only [pivF]
    rw [h k (by omega) (by omega), pivF_congr d (k + 1) fun i h1 h2 => h i (by omega) (by omega)]
theorem pivF_lt {M : Nat → Nat → Int} {j q : Nat} : ∀ {d k : Nat}, pivF M j d k = some q → k ≤ q ∧ q < k + d ∧ M q j ≠ 0
  | 0, k, h => by cases h
  | d + 1, k, h => by
    simp only [pivF] at h
    split at h
    · have := pivF_lt h
      exact ⟨by omega, by omega, this.2.2⟩
    · rename_i h0
      injection h with h
      subst h
      exact ⟨by omega, by omega, h0⟩

theorem g_pivot {r c i j : Nat} {M : Nat → Nat → Int} (hr : r ≤ 4096) (hc : c ≤ 4096) (hi : i ≤ r) (hj : j < c) : G_spec_l31Pivot FUEL (((r : Int), (c : Int), genD r c M), (i : Int), (j : Int)) = some (pivI (pivF M j (r - i) i)) := by
  simp only [G_spec_l31Pivot]
  rw [piv_loop (M := M) (r := r) (c := c) (i := i) (j := j) ?_ ?_ (r - i) i (by omega) FUEL (FUEL_gt (by omega))]
  · cases pivF M j (r - i) i with
    | none => rfl
    | some q => rfl
  · intro k hk
    simp only
    rw [cnd_t (ltN_t hk), idxI (by omega) (by omega) (by omega), getI_gen M hk hj, bnd_s, addN1 (by omega)]
    by_cases h0 : M k j = 0
    · rw [if_pos h0, cnd_f (neI_f h0)]
    · rw [if_neg h0, cnd_t (neI_t h0)]
  · simp only
    rw [cnd_f (ltN_f (Nat.le_refl r))]
theorem pivot_nat {r c i j : Nat} {M : Nat → Nat → Int} (hr : r ≤ 4096) (hc : c ≤ 4096) (h : r * c ≤ 1048576) (hi : i ≤ r) (hj : j < c) : F_spec_l31Pivot (((r : Int), (c : Int), genD r c M), (i : Int), (j : Int)) = some (pivI (pivF M j (r - i) i)) := by
  simp only [F_spec_l31Pivot, Int.toNat_natCast]
  rw [if_pos ⟨mOk_mk M hr hc h, by omega, by omega⟩]
  rw [show ((r : Int) - (i : Int)).toNat = r - i by omega]
  rw [pivF_congr (M' := M) (r - i) i fun a h1 h2 => ofD_gen M (by omega) hj]
theorem f_spec_l31Pivot (x : (Int × Int × List Int) × Int × Int) (y : Int) (h : F_spec_l31Pivot x = some y) : G_spec_l31Pivot FUEL x = some y := by
  obtain ⟨m, i, j⟩ := x
  have h0 := h
  simp only [F_spec_l31Pivot] at h
  split at h
  · rename_i hc
    obtain ⟨h1, h2, h3⟩ := hc
    obtain ⟨r, c, M, rfl, hr, hc, hrc⟩ := mOk_gen h1
    obtain ⟨i, rfl, hi⟩ := natP' h2
    obtain ⟨j, rfl, hj⟩ := natP h3
    have hi := hi r rfl; have hj := hj c rfl
    rw [← h0, g_pivot hr hc hi hj, pivot_nat hr hc hrc hi hj]
  · cases h

theorem invG_0 (p out x : Int) : invG p out x 0 = out := by rw [invG]; rfl
theorem invG_s {n : Nat} (h : n ≠ 0) (p out x : Int) : invG p out x n = invG p (if n % 2 = 1 then out * x % p else out) (x * x % p) (n / 2) := by
  rw [invG, dif_neg h]
theorem invG_in {p : Int} (hp : pOk p) : ∀ (n : Nat) (out x : Int), inP p out → inP p (invG p out x n) := by
  intro n
  induction n using Nat.strongRecOn with
  | ind n ih =>
    intro out x ho
    by_cases h : n = 0
    · subst h; rw [invG_0]; exact ho
    · rw [invG_s h]
      refine ih (n / 2) (by omega) _ _ ?_
      split
      · exact emod_in hp _
      · exact ho

theorem inv_step {p out x : Int} {n : Nat} {Y : Type} {o : Option (Int × Int × Int × Int ⊕ Y)} (k : Int × Int × Int × Int → Option Y) (b : Bool) (hb : b = decide (n % 2 = 1)) (hp : pOk p) (ho : inP p out) (hx : inP p x) :
    joinK (cnd b ((remI (mulI .i64 out x) p).bnd fun i => some (Sum.inl (x, (n : Int), p, i))) (some (Sum.inl (x, (n : Int), p, out)))) k = k (x, (n : Int), p, if n % 2 = 1 then out * x % p else out) := by
  subst hb
  by_cases h : n % 2 = 1
  · rw [cnd_t (decide_eq_true h), mulR hp ho.le hx.le, bnd_s, joinK_l, if_pos h]
  · rw [cnd_f (decide_eq_false h), joinK_l, if_neg h]

theorem f_spec_l31Inverse (x : Int × Int) (y : Int) (h : F_spec_l31Inverse x = some y) : G_spec_l31Inverse FUEL x = some y := by
  obtain ⟨p, x⟩ := x
  simp only [F_spec_l31Inverse] at h
  split at h
  · rename_i hc
    obtain ⟨hp, hx⟩ := hc
    have hp1 := hp.1; have hp2 := hp.2
    obtain ⟨n, hn⟩ := natI_eq (show 0 ≤ p - 2 by omega)
    rw [← h]
    simp only [G_spec_l31Inverse]
    rw [subI_eq (by omega) (by omega), hn, Int.toNat_natCast]
    rw [loopT_run (r := Sum.inl (invG p 1 x n)) (fun m s => ∃ out x' : Int, s = (p, x', out, (m : Int)) ∧ m ≤ n ∧ inP p out ∧ inP p x' ∧ invG p out x' m = invG p 1 x n) ?_ n _ ⟨1, x, rfl, by omega, ⟨by omega, by omega⟩, hx, rfl⟩ FUEL (FUEL_gt (by omega))]
    · rw [joinK_l]
    · rintro m s ⟨out, x', rfl, hm, ho, hx', he⟩
      simp only
      by_cases h0 : m = 0
      · subst h0
        left
        rw [cnd_f (ltI_f (by omega)), ← he, invG_0]
      · right
        refine ⟨m / 2, _, by omega, ?_, if m % 2 = 1 then out * x' % p else out, x' * x' % p, rfl, by omega, ?_, emod_in hp _, by rw [← he, invG_s h0]⟩
        · rw [cnd_t (ltI_t (by omega)), remN (by omega) (by omega), bnd_s]
          have hb : eqI ((m : Int) % 2) 1 = decide (m % 2 = 1) := by
            by_cases h1 : m % 2 = 1
            · rw [eqI_t (by omega), decide_eq_true h1]
            · rw [eqI_f (by omega), decide_eq_false h1]
          rw [inv_step (o := none) _ _ hb hp ho hx']
          simp only
          rw [mulR hp hx'.le hx'.le, bnd_s]
          have hq : quoI .i64 (m : Int) 2 = some ((m / 2 : Nat) : Int) := by
            unfold quoI
            rw [if_neg (by omega), Int.tdiv_eq_ediv_of_nonneg (by omega), wrap_id (by omega) (by omega)]
            congr 1
          rw [hq, bnd_s]
        · split
          · exact emod_in hp _
          · exact ho
  · cases h
theorem f_impl_rawInverse (x : Int × Int) (y : Int) (h : F_impl_rawInverse x = some y) : G_impl_rawInverse FUEL x = some y := by
  obtain ⟨p, x⟩ := x
  simp only [F_impl_rawInverse, F_spec_l31Inverse] at h
  split at h
  · rename_i hc
    obtain ⟨hp, hx⟩ := hc
    have hp1 := hp.1; have hp2 := hp.2
    obtain ⟨n, hn⟩ := natI_eq (show 0 ≤ p - 2 by omega)
    rw [← h]
    simp only [G_impl_rawInverse]
    rw [subI_eq (by omega) (by omega), hn, Int.toNat_natCast]
    rw [loopT_run (r := Sum.inl (invG p 1 x n)) (fun m s => ∃ out x' : Int, s = (p, x', out, (m : Int)) ∧ m ≤ n ∧ inP p out ∧ inP p x' ∧ invG p out x' m = invG p 1 x n) ?_ n _ ⟨1, x, rfl, by omega, ⟨by omega, by omega⟩, hx, rfl⟩ FUEL (FUEL_gt (by omega))]
    · rw [joinK_l]
    · rintro m s ⟨out, x', rfl, hm, ho, hx', he⟩
      simp only
      by_cases h0 : m = 0
      · subst h0
        left
        rw [cnd_f (ltI_f (by omega)), ← he, invG_0]
      · right
        refine ⟨m / 2, _, by omega, ?_, if m % 2 = 1 then out * x' % p else out, x' * x' % p, rfl, by omega, ?_, emod_in hp _, by rw [← he, invG_s h0]⟩
        · rw [cnd_t (ltI_t (by omega))]
          have hb : eqI (andI .i64 (m : Int) 1) 1 = decide (m % 2 = 1) := by
            rw [show (1 : Int) = ((1 : Nat) : Int) from rfl, andI_nat (by omega) (by omega), Nat.and_one_is_mod]
            by_cases h1 : m % 2 = 1
            · rw [eqI_t (by omega), decide_eq_true h1]
            · rw [eqI_f (by omega), decide_eq_false h1]
          rw [inv_step (o := none) _ _ hb hp ho hx']
          simp only
          rw [mulR hp hx'.le hx'.le, bnd_s]
          have hq : shrI .i64 (m : Int) 1 = some ((m / 2 : Nat) : Int) := by
            rw [show (1 : Int) = ((1 : Nat) : Int) from rfl, shrI_nat (by omega), Nat.shiftRight_eq_div_pow]
          rw [hq, bnd_s]
        · split
          · exact emod_in hp _
          · exact ho
  · cases h

/-! ### transposed -/

/-! ### products -/

def mulTo (W : Nat → Nat → Int) (i j : Nat) : Nat → Nat → Int := fun a b => if a < i ∨ a = i ∧ b < j then W a b else 0
theorem mul_step {r c : Nat} (W : Nat → Nat → Int) (i j : Nat) : genD r c (updM (mulTo W i j) i j (W i j)) = genD r c (mulTo W i (j + 1)) := by
  refine genD_congr fun a _ b _ => ?_
  unfold updM mulTo
  by_cases h : a = i ∧ b = j
  · obtain ⟨rfl, rfl⟩ := h
    simp
  · rw [if_neg h]
    by_cases h1 : a < i ∨ a = i ∧ b < j
    · simp only [if_pos h1, if_pos (show a < i ∨ a = i ∧ b < j + 1 by omega)]
    · simp only [if_neg h1, if_neg (show ¬ (a < i ∨ a = i ∧ b < j + 1) by omega)]
theorem mul_row {r c : Nat} (W : Nat → Nat → Int) (i : Nat) : genD r c (mulTo W i c) = genD r c (mulTo W (i + 1) 0) := by
  refine genD_congr fun a _ b hb => ?_
  unfold mulTo
  by_cases h1 : a < i ∨ a = i ∧ b < c
  · simp only [if_pos h1, if_pos (show a < i + 1 ∨ a = i + 1 ∧ b < 0 by omega)]
  · simp only [if_neg h1, if_neg (show ¬ (a < i + 1 ∨ a = i + 1 ∧ b < 0) by omega)]
theorem mul_end {r c : Nat} (W : Nat → Nat → Int) : genD r c (mulTo W r 0) = genD r c W := genD_congr fun a ha b hb => if_pos (.inl ha)
theorem mul_0 {r c : Nat} (W : Nat → Nat → Int) : genD r c (mulTo W 0 0) = genD r c fun _ _ => 0 := genD_congr fun a ha b hb => if_neg (by omega)

end Go.Am
end
section
namespace Go.Am
/-! ### transposes, products and swaps of good matrices -/

def sopOk (x : Int × Int × Int) : Prop := isPrimeI x.1 = true ∧ (1 ≤ x.2.1 ∧ x.2.1 ≤ 8) ∧ (1 ≤ x.2.2 ∧ x.2.2 ≤ 8)
instance (x : Int × Int × Int) : Decidable (sopOk x) := by unfold sopOk; infer_instance
theorem inM_of {p : Int} {r c : Nat} {l : List Int} (h : l.length = r * c) (hr : rowOk p l = true) : inM p r c (ofD c l) := by
  apply allP_gen.1
  rw [genD_of h]
  intro x hx
  have := List.all_eq_true.1 hr x hx
  exact of_decide_eq_true this
theorem matOk_nat {m : Int} {x : Int × Int × List Int} (h : matOk m x = true) : ∃ (r c : Nat) (M : Nat → Nat → Int), x = ((r : Int), (c : Int), genD r c M) ∧ pOk m ∧ r ≤ 64 ∧ c ≤ 64 ∧ r * c ≤ 4096 ∧ inM m r c M := by
  obtain ⟨r, c, l⟩ := x
  simp only [matOk, Bool.and_eq_true, decide_eq_true_eq] at h
  obtain ⟨h1, h2, h3, h4, h5⟩ := h
  obtain ⟨r, rfl⟩ := natI_eq (z := r) (by omega)
  obtain ⟨c, rfl⟩ := natI_eq (z := c) (by omega)
  have hl : l.length = r * c := by
    have e : (r : Int) * (c : Int) = ((r * c : Nat) : Int) := by norm_cast
    omega
  have hrc : r * c ≤ 64 * 64 := Nat.mul_le_mul (by omega) (by omega)
  exact ⟨r, c, ofD c l, by rw [genD_of hl], isPrimeI_t h1, by omega, by omega, by omega, inM_of hl h5⟩

/-! ### the swap operator -/

theorem addNN {x y : Nat} (h : x + y ≤ 1099511627776) : addI .i64 (x : Int) (y : Int) = ((x + y : Nat) : Int) := by
  rw [addI_eq (by omega) (by omega)]
  omega
end Go.Am
end
section
namespace Go.Am
/-! ### reduced forms -/

abbrev Mat := Nat → Nat → Int
def sclTo (p inv : Int) (M : Mat) (t n : Nat) : Mat := fun a b => if a = t ∧ b < n then M t b * inv % p else M a b
def sclF (p inv : Int) (M : Mat) (t : Nat) : Mat := fun a b => if a = t then M t b * inv % p else M a b
def clrF (p : Int) (M : Mat) (t j n : Nat) : Mat := fun a b => if a < n ∧ a ≠ t then (M a b + (p - M a j) * M t b) % p else M a b
def pivS (p : Int) (M : Mat) (t j k : Nat) : Mat := sclF p (invG p 1 (swapF M t k t j) (p - 2).toNat) (swapF M t k) t
def redD (p : Int) (M : Mat) (t j k : Nat) (d : Int) : Int := (if k = t then d else (p - d) % p) * swapF M t k t j % p
def redS (p : Int) (r : Nat) (s : Mat × List Int × Int) (j : Nat) : Mat × List Int × Int :=
  if s.2.1.length < r then
    match pivF s.1 j (r - s.2.1.length) s.2.1.length with
    | none => s
    | some k => (clrF p (pivS p s.1 s.2.1.length j k) s.2.1.length j r, s.2.1 ++ [(j : Int)], redD p s.1 s.2.1.length j k s.2.2)
  else s
def redN (p : Int) (r : Nat) (M : Mat) : Nat → Mat × List Int × Int
  | 0 => (M, [], 1)
  | j + 1 => redS p r (redN p r M j) j
def redOk (x : Int × Int × Int × List Int) : Prop := pOk x.1 ∧ mOk x.2 ∧ allP x.1 x.2.2.2
instance (x : Int × Int × Int × List Int) : Decidable (redOk x) := by unfold redOk; infer_instance
def redX (x : Int × Int × Int × List Int) : Mat × List Int × Int := redN x.1 x.2.1.toNat (ofD x.2.2.1.toNat x.2.2.2) x.2.2.1.toNat
def F_spec_l31Reduce : Int × Int × Int × List Int → Option ((Int × Int × List Int) × List Int × Int) := fun (x : Int × Int × Int × List Int) =>
  if redOk x then some ((x.2.1, x.2.2.1, genD x.2.1.toNat x.2.2.1.toNat (redX x).1), (redX x).2) else none
def F_impl_rawReduce : Int × Int × Int × List Int → Option ((Int × Int × List Int) × List Int) := fun (x : Int × Int × Int × List Int) =>
  if redOk x then some ((x.2.1, x.2.2.1, genD x.2.1.toNat x.2.2.1.toNat (redX x).1), (redX x).2.1) else none

def ag_spec_l31Reduce : Sig := [(.one, [.int .i64]), (.agg, [.int .i64, .int .i64, .list [.int .i64]])]
def rs_spec_l31Reduce : Sig := [(.agg, [.int .i64, .int .i64, .list [.int .i64]]), (.one, [.list [.int .i64]]), (.one, [.int .i64])]
def mu_spec_l31Reduce : MSig := []
def ag_impl_rawReduce : Sig := [(.one, [.int .i64]), (.agg, [.int .i64, .int .i64, .list [.int .i64]])]
def rs_impl_rawReduce : Sig := [(.agg, [.int .i64, .int .i64, .list [.int .i64]]), (.one, [.list [.int .i64]])]
def mu_impl_rawReduce : MSig := []

def G_spec_l31Reduce (NN : Nat) : (Int × (Int × (Int × (List Int)))) → (Option ((Int × (Int × (List Int))) × ((List Int) × Int))) :=
 (fun ((i0, i1, i2, l3) : (Int × (Int × (Int × (List Int))))) =>
 (F_spec_l05Ints l3).bnd (fun (l4 : (List Int)) =>
 joinK ((fulI 0 0 (lenN (([] : List Int)))).bnd (fun (_ : Unit) =>
 (fulI 0 0 (lenN (([] : List Int)))).bnd (fun (_ : Unit) =>
 (fulI 0 (lenN l4) (lenN l4)).bnd (fun (_ : Unit) =>
 loopT NN (fun (((i5, i6, i7), (i8, i9, l10), (i11, i12), (i13, i14), l15, l16, l17) : ((Int × (Int × Int)) × ((Int × (Int × (List Int))) × ((Int × Int) × ((Int × Int) × ((List Int) × ((List Int) × (List Int)))))))) =>
 cnd (ltI i7 i9)
 (cnd (ltI (natI (lenN l17)) i8)
 (joinK ((winI l16 0 (lenN l16)).bnd (fun (l18 : (List Int)) =>
 (F_spec_l31Pivot ((i13, i14, l18), natI (lenN l17), i7)).bnd (fun (i19 : Int) =>
 cnd (ltI i19 (0 : Int))
 ((fulI 0 (lenN l17) (lenN l17)).bnd (fun (_ : Unit) =>
 (fulI 0 (lenN l15) (lenN l15)).bnd (fun (_ : Unit) =>
 (fulI 0 (lenN l16) (lenN l16)).bnd (fun (_ : Unit) =>
 some (Sum.inl ((i7, i5, i6), (i8, i9, l10), (i11, i12), (i13, i14), l15, l16, l17))))))
 (joinK (cnd (neI i19 (natI (lenN l17)))
 ((fulI 0 (lenN l16) (lenN l16)).bnd (fun (_ : Unit) =>
 (F_spec_l31Swap ((i13, i14, l16), natI (lenN l17), i19)).bnd (fun (l20 : (List Int)) =>
 (remI (subI .i64 i5 i6) i5).bnd (fun (i21 : Int) =>
 (fulI 0 (lenN l17) (lenN l17)).bnd (fun (_ : Unit) =>
 (fulI 0 (lenN l15) (lenN l15)).bnd (fun (_ : Unit) =>
 (fulI 0 (lenN l16) (lenN l20)).bnd (fun (_ : Unit) =>
 some (Sum.inl ((i21, natI (lenN l17), i7, i5), (i8, i9, l10), (i11, i12), (i13, i14), l15, l20, l17)))))))))
 ((fulI 0 (lenN l17) (lenN l17)).bnd (fun (_ : Unit) =>
 (fulI 0 (lenN l15) (lenN l15)).bnd (fun (_ : Unit) =>
 (fulI 0 (lenN l16) (lenN l16)).bnd (fun (_ : Unit) =>
 some (Sum.inl ((i6, natI (lenN l17), i7, i5), (i8, i9, l10), (i11, i12), (i13, i14), l15, l16, l17)))))))
 (fun (((i22, i23, i24, i25), (i26, i27, l28), (i29, i30), (i31, i32), l33, l34, l35) : ((Int × (Int × (Int × Int))) × ((Int × (Int × (List Int))) × ((Int × Int) × ((Int × Int) × ((List Int) × ((List Int) × (List Int)))))))) =>
 (chkI (addI .i64 (mulI .i64 i23 i27) i24) (lenN l34)).bnd (fun (k36 : Nat) =>
 (getN l34 (addN 0 k36)).bnd (fun (i37 : Int) =>
 (remI (mulI .i64 i22 i37) i25).bnd (fun (i38 : Int) =>
 (F_spec_l31Inverse (i25, i37)).bnd (fun (i39 : Int) =>
 joinK ((fulI 0 (lenN l35) (lenN l35)).bnd (fun (_ : Unit) =>
 (fulI 0 (lenN l33) (lenN l33)).bnd (fun (_ : Unit) =>
 (fulI 0 (lenN l34) (lenN l34)).bnd (fun (_ : Unit) =>
 loopT NN (fun (((i40, i41, i42, i43, i44, i45), (i46, i47, l48), (i49, i50), (i51, i52), l53, l54, l55) : ((Int × (Int × (Int × (Int × (Int × Int))))) × ((Int × (Int × (List Int))) × ((Int × Int) × ((Int × Int) × ((List Int) × ((List Int) × (List Int)))))))) =>
 cnd (ltI i45 i47)
 ((chkI (addI .i64 (mulI .i64 i43 i47) i45) (lenN l54)).bnd (fun (k56 : Nat) =>
 (getN l54 (addN 0 k56)).bnd (fun (i57 : Int) =>
 (remI (mulI .i64 i57 i44) i40).bnd (fun (i58 : Int) =>
 (chkI (addI .i64 (mulI .i64 i43 i47) i45) (lenN l54)).bnd (fun (k59 : Nat) =>
 (getN l54 (addN 0 k59)).bnd (fun (i60 : Int) =>
 (fulI 0 (lenN l55) (lenN l55)).bnd (fun (_ : Unit) =>
 (fulI 0 (lenN l53) (lenN l53)).bnd (fun (_ : Unit) =>
 (fulI 0 (lenN l54) (lenN (setL l54 (addN 0 k59) i58))).bnd (fun (_ : Unit) =>
 some (Sum.inl ((i40, i41, i42, i43, i44, addI .i64 i45 (1 : Int)), (i46, i47, l48), (i49, i50), (i51, i52), l53, setL l54 (addN 0 k59) i58, l55)))))))))))
 (((fulI 0 (lenN l55) (lenN l55)).bnd (fun (_ : Unit) =>
 (fulI 0 (lenN l53) (lenN l53)).bnd (fun (_ : Unit) =>
 (fulI 0 (lenN l54) (lenN l54)).bnd (fun (_ : Unit) =>
 some (Sum.inl ((i41, i40, i42, i43), (i46, i47, l48), (i49, i50), (i51, i52), l53, l54, l55)))))).bnd (fun (l61 : (((Int × (Int × (Int × Int))) × ((Int × (Int × (List Int))) × ((Int × Int) × ((Int × Int) × ((List Int) × ((List Int) × (List Int))))))) ⊕ (((Int × (Int × Int)) × ((Int × (Int × (List Int))) × ((Int × Int) × ((Int × Int) × ((List Int) × ((List Int) × (List Int))))))) ⊕ (((Int × (Int × Int)) × ((Int × (Int × (List Int))) × ((Int × Int) × ((Int × Int) × ((List Int) × ((List Int) × (List Int))))))) ⊕ ((Int × ((Int × Int) × ((Int × Int) × ((List Int) × ((List Int) × (List Int)))))) ⊕ ((Int × (Int × (List Int))) × ((List Int) × Int))))))) =>
 some (Sum.inr l61))))
 ((i25, i38, i24, i23, i39, (0 : Int)), (i26, i27, l28), (i29, i30), (i31, i32), l33, l34, l35)))))
 (fun (((i62, i63, i64, i65), (i66, i67, l68), (i69, i70), (i71, i72), l73, l74, l75) : ((Int × (Int × (Int × Int))) × ((Int × (Int × (List Int))) × ((Int × Int) × ((Int × Int) × ((List Int) × ((List Int) × (List Int)))))))) =>
 joinK ((fulI 0 (lenN l75) (lenN l75)).bnd (fun (_ : Unit) =>
 (fulI 0 (lenN l73) (lenN l73)).bnd (fun (_ : Unit) =>
 (fulI 0 (lenN l74) (lenN l74)).bnd (fun (_ : Unit) =>
 loopT NN (fun (((i76, i77, i78, i79, i80), (i81, i82, l83), (i84, i85), (i86, i87), l88, l89, l90) : ((Int × (Int × (Int × (Int × Int)))) × ((Int × (Int × (List Int))) × ((Int × Int) × ((Int × Int) × ((List Int) × ((List Int) × (List Int)))))))) =>
 cnd (ltI i80 i81)
 (cnd (neI i80 i79)
 ((chkI (addI .i64 (mulI .i64 i80 i82) i78) (lenN l89)).bnd (fun (k91 : Nat) =>
 (getN l89 (addN 0 k91)).bnd (fun (i92 : Int) =>
 (fulI 0 (lenN l89) (lenN l89)).bnd (fun (_ : Unit) =>
 (F_spec_l31Clear (i76, (i86, i87, l89), i80, i79, i92)).bnd (fun (l93 : (List Int)) =>
 (fulI 0 (lenN l90) (lenN l90)).bnd (fun (_ : Unit) =>
 (fulI 0 (lenN l88) (lenN l88)).bnd (fun (_ : Unit) =>
 (fulI 0 (lenN l89) (lenN l93)).bnd (fun (_ : Unit) =>
 some (Sum.inl ((i76, i77, i78, i79, addI .i64 i80 (1 : Int)), (i81, i82, l83), (i84, i85), (i86, i87), l88, l93, l90))))))))))
 ((fulI 0 (lenN l90) (lenN l90)).bnd (fun (_ : Unit) =>
 (fulI 0 (lenN l88) (lenN l88)).bnd (fun (_ : Unit) =>
 (fulI 0 (lenN l89) (lenN l89)).bnd (fun (_ : Unit) =>
 some (Sum.inl ((i76, i77, i78, i79, addI .i64 i80 (1 : Int)), (i81, i82, l83), (i84, i85), (i86, i87), l88, l89, l90)))))))
 (((fulI 0 (lenN l90) (lenN l90)).bnd (fun (_ : Unit) =>
 (fulI 0 (lenN l88) (lenN l88)).bnd (fun (_ : Unit) =>
 (fulI 0 (lenN l89) (lenN l89)).bnd (fun (_ : Unit) =>
 some (Sum.inl ((i78, i76, i77), (i81, i82, l83), (i84, i85), (i86, i87), l88, l89, l90)))))).bnd (fun (l94 : (((Int × (Int × Int)) × ((Int × (Int × (List Int))) × ((Int × Int) × ((Int × Int) × ((List Int) × ((List Int) × (List Int))))))) ⊕ (((Int × (Int × Int)) × ((Int × (Int × (List Int))) × ((Int × Int) × ((Int × Int) × ((List Int) × ((List Int) × (List Int))))))) ⊕ (((Int × (Int × Int)) × ((Int × (Int × (List Int))) × ((Int × Int) × ((Int × Int) × ((List Int) × ((List Int) × (List Int))))))) ⊕ ((Int × ((Int × Int) × ((Int × Int) × ((List Int) × ((List Int) × (List Int)))))) ⊕ ((Int × (Int × (List Int))) × ((List Int) × Int))))))) =>
 some (Sum.inr l94))))
 ((i63, i62, i64, i65, (0 : Int)), (i66, i67, l68), (i69, i70), (i71, i72), l73, l74, l75)))))
 (fun (((i95, i96, i97), (i98, i99, l100), (i101, i102), (i103, i104), l105, l106, l107) : ((Int × (Int × Int)) × ((Int × (Int × (List Int))) × ((Int × Int) × ((Int × Int) × ((List Int) × ((List Int) × (List Int)))))))) =>
 (fulI 0 (lenN l107) (lenN l107)).bnd (fun (_ : Unit) =>
 (winI ((i95 :: ([] : List Int))) 0 1).bnd (fun (l108 : (List Int)) =>
 (fitI (addN (lenN l107) (lenN l108)) 8).bnd (fun (_ : Unit) =>
 (fulI 0 (addN (lenN l107) (lenN l108)) (lenN (appL l107 l108))).bnd (fun (_ : Unit) =>
 (fulI 0 (lenN l105) (lenN l105)).bnd (fun (_ : Unit) =>
 (fulI 0 (lenN l106) (lenN l106)).bnd (fun (_ : Unit) =>
 some (Sum.inl ((i95, i96, i97), (i98, i99, l100), (i101, i102), (i103, i104), l105, l106, appL l107 l108)))))))))))))))))))
 (fun (((i109, i110, i111), (i112, i113, l114), (i115, i116), (i117, i118), l119, l120, l121) : ((Int × (Int × Int)) × ((Int × (Int × (List Int))) × ((Int × Int) × ((Int × Int) × ((List Int) × ((List Int) × (List Int)))))))) =>
 (fulI 0 (lenN l121) (lenN l121)).bnd (fun (_ : Unit) =>
 (fulI 0 (lenN l119) (lenN l119)).bnd (fun (_ : Unit) =>
 (fulI 0 (lenN l120) (lenN l120)).bnd (fun (_ : Unit) =>
 some (Sum.inl ((i110, i111, addI .i64 i109 (1 : Int)), (i112, i113, l114), (i115, i116), (i117, i118), l119, l120, l121)))))))
 (((fulI 0 (lenN l17) (lenN l17)).bnd (fun (_ : Unit) =>
 (fulI 0 (lenN l15) (lenN l15)).bnd (fun (_ : Unit) =>
 (fulI 0 (lenN l16) (lenN l16)).bnd (fun (_ : Unit) =>
 some (Sum.inl (i6, (i11, i12), (i13, i14), l15, l16, l17)))))).bnd (fun (l122 : ((Int × ((Int × Int) × ((Int × Int) × ((List Int) × ((List Int) × (List Int)))))) ⊕ ((Int × (Int × (List Int))) × ((List Int) × Int)))) =>
 some (Sum.inr l122))))
 (((fulI 0 (lenN l17) (lenN l17)).bnd (fun (_ : Unit) =>
 (fulI 0 (lenN l15) (lenN l15)).bnd (fun (_ : Unit) =>
 (fulI 0 (lenN l16) (lenN l16)).bnd (fun (_ : Unit) =>
 some (Sum.inl (i6, (i11, i12), (i13, i14), l15, l16, l17)))))).bnd (fun (l123 : ((Int × ((Int × Int) × ((Int × Int) × ((List Int) × ((List Int) × (List Int)))))) ⊕ ((Int × (Int × (List Int))) × ((List Int) × Int)))) =>
 some (Sum.inr l123))))
 ((i0, (1 : Int), (0 : Int)), (i1, i2, l3), ((0 : Int), (0 : Int)), (i1, i2), ([] : List Int), l4, ([] : List Int))))))
 (fun ((i124, (i125, i126), (i127, i128), l129, l130, l131) : (Int × ((Int × Int) × ((Int × Int) × ((List Int) × ((List Int) × (List Int))))))) =>
 (takI l130 (lenN l130)).bnd (fun (l132 : (List Int)) =>
 (takI l131 (lenN l131)).bnd (fun (l133 : (List Int)) =>
 some ((i127, i128, l132), l133, i124))))))

def G_impl_rawReduce (NN : Nat) : (Int × (Int × (Int × (List Int)))) → (Option ((Int × (Int × (List Int))) × (List Int))) :=
 (fun ((i0, i1, i2, l3) : (Int × (Int × (Int × (List Int))))) =>
 (F_impl_copyMatrix (i1, i2, l3)).bnd (fun ((i4, i5, l6) : (Int × (Int × (List Int)))) =>
 joinK ((fulI 0 0 (lenN (([] : List Int)))).bnd (fun (_ : Unit) =>
 (fulI 0 0 (lenN (([] : List Int)))).bnd (fun (_ : Unit) =>
 (fulI 0 (lenN l6) (lenN l6)).bnd (fun (_ : Unit) =>
 loopT NN (fun (((i7, i8), (i9, i10), (i11, i12), l13, l14, l15) : ((Int × Int) × ((Int × Int) × ((Int × Int) × ((List Int) × ((List Int) × (List Int))))))) =>
 cnd (ltI i8 i12)
 (joinK (joinK ((fulI 0 (lenN l15) (lenN l15)).bnd (fun (_ : Unit) =>
 (fulI 0 (lenN l13) (lenN l13)).bnd (fun (_ : Unit) =>
 (fulI 0 (lenN l14) (lenN l14)).bnd (fun (_ : Unit) =>
 loopT NN (fun (((i16, i17, i18, i19), (i20, i21), (i22, i23), l24, l25, l26) : ((Int × (Int × (Int × Int))) × ((Int × Int) × ((Int × Int) × ((List Int) × ((List Int) × (List Int))))))) =>
 cnd (ltI i19 i22)
 ((winI l25 0 (lenN l25)).bnd (fun (l27 : (List Int)) =>
 (F_impl_Matrix_at ((i22, i23, l27), i19, i17)).bnd (fun (i28 : Int) =>
 cnd (eqI i28 (0 : Int))
 ((fulI 0 (lenN l26) (lenN l26)).bnd (fun (_ : Unit) =>
 (fulI 0 (lenN l24) (lenN l24)).bnd (fun (_ : Unit) =>
 (fulI 0 (lenN l25) (lenN l25)).bnd (fun (_ : Unit) =>
 some (Sum.inl ((i16, i17, i18, addI .i64 i19 (1 : Int)), (i20, i21), (i22, i23), l24, l25, l26))))))
 (((fulI 0 (lenN l26) (lenN l26)).bnd (fun (_ : Unit) =>
 (fulI 0 (lenN l24) (lenN l24)).bnd (fun (_ : Unit) =>
 (fulI 0 (lenN l25) (lenN l25)).bnd (fun (_ : Unit) =>
 some (Sum.inl ((i19, i18, i17, i16), (i20, i21), (i22, i23), l24, l25, l26)))))).bnd (fun (l29 : (((Int × (Int × (Int × Int))) × ((Int × Int) × ((Int × Int) × ((List Int) × ((List Int) × (List Int)))))) ⊕ (((Int × Int) × ((Int × Int) × ((Int × Int) × ((List Int) × ((List Int) × (List Int)))))) ⊕ (((Int × Int) × ((Int × Int) × ((Int × Int) × ((List Int) × ((List Int) × (List Int)))))) ⊕ (((Int × Int) × ((Int × Int) × ((List Int) × ((List Int) × (List Int))))) ⊕ ((Int × (Int × (List Int))) × (List Int))))))) =>
 some (Sum.inr l29))))))
 (((fulI 0 (lenN l26) (lenN l26)).bnd (fun (_ : Unit) =>
 (fulI 0 (lenN l24) (lenN l24)).bnd (fun (_ : Unit) =>
 (fulI 0 (lenN l25) (lenN l25)).bnd (fun (_ : Unit) =>
 some (Sum.inl ((i19, i18, i17, i16), (i20, i21), (i22, i23), l24, l25, l26)))))).bnd (fun (l30 : (((Int × (Int × (Int × Int))) × ((Int × Int) × ((Int × Int) × ((List Int) × ((List Int) × (List Int)))))) ⊕ (((Int × Int) × ((Int × Int) × ((Int × Int) × ((List Int) × ((List Int) × (List Int)))))) ⊕ (((Int × Int) × ((Int × Int) × ((Int × Int) × ((List Int) × ((List Int) × (List Int)))))) ⊕ (((Int × Int) × ((Int × Int) × ((List Int) × ((List Int) × (List Int))))) ⊕ ((Int × (Int × (List Int))) × (List Int))))))) =>
 some (Sum.inr l30))))
 ((i7, i8, natI (lenN l15), natI (lenN l15)), (i9, i10), (i11, i12), l13, l14, l15)))))
 (fun (((i31, i32, i33, i34), (i35, i36), (i37, i38), l39, l40, l41) : ((Int × (Int × (Int × Int))) × ((Int × Int) × ((Int × Int) × ((List Int) × ((List Int) × (List Int))))))) =>
 cnd (eqI i31 i37)
 ((fulI 0 (lenN l41) (lenN l41)).bnd (fun (_ : Unit) =>
 (fulI 0 (lenN l39) (lenN l39)).bnd (fun (_ : Unit) =>
 (fulI 0 (lenN l40) (lenN l40)).bnd (fun (_ : Unit) =>
 some (Sum.inl ((i33, i34), (i35, i36), (i37, i38), l39, l40, l41))))))
 ((fulI 0 (lenN l40) (lenN l40)).bnd (fun (_ : Unit) =>
 (F_impl_Matrix_swapRows ((i37, i38, l40), i32, i31)).bnd (fun (l42 : (List Int)) =>
 (winI l42 0 (lenN l40)).bnd (fun (l43 : (List Int)) =>
 (F_impl_Matrix_at ((i37, i38, l43), i32, i33)).bnd (fun (i44 : Int) =>
 (F_impl_rawInverse (i34, i44)).bnd (fun (i45 : Int) =>
 joinK ((fulI 0 (lenN l41) (lenN l41)).bnd (fun (_ : Unit) =>
 (fulI 0 (lenN l39) (lenN l39)).bnd (fun (_ : Unit) =>
 (fulI 0 (lenN l40) (lenN l42)).bnd (fun (_ : Unit) =>
 loopT NN (fun (((i46, i47, i48, i49, i50), (i51, i52), (i53, i54), l55, l56, l57) : ((Int × (Int × (Int × (Int × Int)))) × ((Int × Int) × ((Int × Int) × ((List Int) × ((List Int) × (List Int))))))) =>
 cnd (ltI i50 i54)
 ((winI l56 0 (lenN l56)).bnd (fun (l58 : (List Int)) =>
 (F_impl_Matrix_at ((i53, i54, l58), i48, i50)).bnd (fun (i59 : Int) =>
 (remI (mulI .i64 i59 i49) i46).bnd (fun (i60 : Int) =>
 (fulI 0 (lenN l56) (lenN l56)).bnd (fun (_ : Unit) =>
 (F_impl_Matrix_set ((i53, i54, l56), i48, i50, i60)).bnd (fun (l61 : (List Int)) =>
 (fulI 0 (lenN l57) (lenN l57)).bnd (fun (_ : Unit) =>
 (fulI 0 (lenN l55) (lenN l55)).bnd (fun (_ : Unit) =>
 (fulI 0 (lenN l56) (lenN l61)).bnd (fun (_ : Unit) =>
 some (Sum.inl ((i46, i47, i48, i49, addI .i64 i50 (1 : Int)), (i51, i52), (i53, i54), l55, l61, l57)))))))))))
 (((fulI 0 (lenN l57) (lenN l57)).bnd (fun (_ : Unit) =>
 (fulI 0 (lenN l55) (lenN l55)).bnd (fun (_ : Unit) =>
 (fulI 0 (lenN l56) (lenN l56)).bnd (fun (_ : Unit) =>
 some (Sum.inl ((i46, i47, i48), (i51, i52), (i53, i54), l55, l56, l57)))))).bnd (fun (l62 : (((Int × (Int × Int)) × ((Int × Int) × ((Int × Int) × ((List Int) × ((List Int) × (List Int)))))) ⊕ (((Int × Int) × ((Int × Int) × ((Int × Int) × ((List Int) × ((List Int) × (List Int)))))) ⊕ (((Int × Int) × ((Int × Int) × ((Int × Int) × ((List Int) × ((List Int) × (List Int)))))) ⊕ (((Int × Int) × ((Int × Int) × ((List Int) × ((List Int) × (List Int))))) ⊕ ((Int × (Int × (List Int))) × (List Int))))))) =>
 some (Sum.inr l62))))
 ((i34, i33, i32, i45, (0 : Int)), (i35, i36), (i37, i38), l39, l42, l41)))))
 (fun (((i63, i64, i65), (i66, i67), (i68, i69), l70, l71, l72) : ((Int × (Int × Int)) × ((Int × Int) × ((Int × Int) × ((List Int) × ((List Int) × (List Int))))))) =>
 joinK ((fulI 0 (lenN l72) (lenN l72)).bnd (fun (_ : Unit) =>
 (fulI 0 (lenN l70) (lenN l70)).bnd (fun (_ : Unit) =>
 (fulI 0 (lenN l71) (lenN l71)).bnd (fun (_ : Unit) =>
 loopT NN (fun (((i73, i74, i75, i76), (i77, i78), (i79, i80), l81, l82, l83) : ((Int × (Int × (Int × Int))) × ((Int × Int) × ((Int × Int) × ((List Int) × ((List Int) × (List Int))))))) =>
 cnd (ltI i76 i79)
 (cnd (neI i76 i75)
 ((winI l82 0 (lenN l82)).bnd (fun (l84 : (List Int)) =>
 (F_impl_Matrix_at ((i79, i80, l84), i76, i74)).bnd (fun (i85 : Int) =>
 cnd (neI i85 (0 : Int))
 ((winI l82 0 (lenN l82)).bnd (fun (l86 : (List Int)) =>
 (F_impl_Matrix_at ((i79, i80, l86), i76, i74)).bnd (fun (i87 : Int) =>
 (fulI 0 (lenN l82) (lenN l82)).bnd (fun (_ : Unit) =>
 (F_impl_Matrix_addRow ((i79, i80, l82), i73, i76, i75, subI .i64 i73 i87)).bnd (fun (l88 : (List Int)) =>
 (fulI 0 (lenN l83) (lenN l83)).bnd (fun (_ : Unit) =>
 (fulI 0 (lenN l81) (lenN l81)).bnd (fun (_ : Unit) =>
 (fulI 0 (lenN l82) (lenN l88)).bnd (fun (_ : Unit) =>
 some (Sum.inl ((i73, i74, i75, addI .i64 i76 (1 : Int)), (i77, i78), (i79, i80), l81, l88, l83))))))))))
 ((fulI 0 (lenN l83) (lenN l83)).bnd (fun (_ : Unit) =>
 (fulI 0 (lenN l81) (lenN l81)).bnd (fun (_ : Unit) =>
 (fulI 0 (lenN l82) (lenN l82)).bnd (fun (_ : Unit) =>
 some (Sum.inl ((i73, i74, i75, addI .i64 i76 (1 : Int)), (i77, i78), (i79, i80), l81, l82, l83)))))))))
 ((fulI 0 (lenN l83) (lenN l83)).bnd (fun (_ : Unit) =>
 (fulI 0 (lenN l81) (lenN l81)).bnd (fun (_ : Unit) =>
 (fulI 0 (lenN l82) (lenN l82)).bnd (fun (_ : Unit) =>
 some (Sum.inl ((i73, i74, i75, addI .i64 i76 (1 : Int)), (i77, i78), (i79, i80), l81, l82, l83)))))))
 (((fulI 0 (lenN l83) (lenN l83)).bnd (fun (_ : Unit) =>
 (fulI 0 (lenN l81) (lenN l81)).bnd (fun (_ : Unit) =>
 (fulI 0 (lenN l82) (lenN l82)).bnd (fun (_ : Unit) =>
 some (Sum.inl ((i74, i73), (i77, i78), (i79, i80), l81, l82, l83)))))).bnd (fun (l89 : (((Int × Int) × ((Int × Int) × ((Int × Int) × ((List Int) × ((List Int) × (List Int)))))) ⊕ (((Int × Int) × ((Int × Int) × ((Int × Int) × ((List Int) × ((List Int) × (List Int)))))) ⊕ (((Int × Int) × ((Int × Int) × ((Int × Int) × ((List Int) × ((List Int) × (List Int)))))) ⊕ (((Int × Int) × ((Int × Int) × ((List Int) × ((List Int) × (List Int))))) ⊕ ((Int × (Int × (List Int))) × (List Int))))))) =>
 some (Sum.inr l89))))
 ((i63, i64, i65, (0 : Int)), (i66, i67), (i68, i69), l70, l71, l72)))))
 (fun (((i90, i91), (i92, i93), (i94, i95), l96, l97, l98) : ((Int × Int) × ((Int × Int) × ((Int × Int) × ((List Int) × ((List Int) × (List Int))))))) =>
 (fulI 0 (lenN l98) (lenN l98)).bnd (fun (_ : Unit) =>
 (winI ((i90 :: ([] : List Int))) 0 1).bnd (fun (l99 : (List Int)) =>
 (fitI (addN (lenN l98) (lenN l99)) 8).bnd (fun (_ : Unit) =>
 (fulI 0 (addN (lenN l98) (lenN l99)) (lenN (appL l98 l99))).bnd (fun (_ : Unit) =>
 (fulI 0 (lenN l96) (lenN l96)).bnd (fun (_ : Unit) =>
 (fulI 0 (lenN l97) (lenN l97)).bnd (fun (_ : Unit) =>
 some (Sum.inl ((i90, i91), (i92, i93), (i94, i95), l96, l97, appL l98 l99))))))))))))))))))
 (fun (((i100, i101), (i102, i103), (i104, i105), l106, l107, l108) : ((Int × Int) × ((Int × Int) × ((Int × Int) × ((List Int) × ((List Int) × (List Int))))))) =>
 (fulI 0 (lenN l108) (lenN l108)).bnd (fun (_ : Unit) =>
 (fulI 0 (lenN l106) (lenN l106)).bnd (fun (_ : Unit) =>
 (fulI 0 (lenN l107) (lenN l107)).bnd (fun (_ : Unit) =>
 some (Sum.inl ((i101, addI .i64 i100 (1 : Int)), (i102, i103), (i104, i105), l106, l107, l108)))))))
 (((fulI 0 (lenN l15) (lenN l15)).bnd (fun (_ : Unit) =>
 (fulI 0 (lenN l13) (lenN l13)).bnd (fun (_ : Unit) =>
 (fulI 0 (lenN l14) (lenN l14)).bnd (fun (_ : Unit) =>
 some (Sum.inl ((i9, i10), (i11, i12), l13, l14, l15)))))).bnd (fun (l109 : (((Int × Int) × ((Int × Int) × ((List Int) × ((List Int) × (List Int))))) ⊕ ((Int × (Int × (List Int))) × (List Int)))) =>
 some (Sum.inr l109))))
 ((i0, (0 : Int)), ((0 : Int), (0 : Int)), (i4, i5), ([] : List Int), l6, ([] : List Int))))))
 (fun (((i110, i111), (i112, i113), l114, l115, l116) : ((Int × Int) × ((Int × Int) × ((List Int) × ((List Int) × (List Int)))))) =>
 (takI l115 (lenN l115)).bnd (fun (l117 : (List Int)) =>
 (takI l116 (lenN l116)).bnd (fun (l118 : (List Int)) =>
 some ((i112, i113, l117), l118))))))


theorem stop_ex (P : Nat → Prop) [DecidablePred P] : ∀ c : Nat, ∃ n, n ≤ c ∧ (∀ j, j < n → P j) ∧ (n = c ∨ ¬ P n)
  | 0 => ⟨0, Nat.le_refl 0, fun j hj => absurd hj (Nat.not_lt_zero j), .inl rfl⟩
  | c + 1 => by
    obtain ⟨n, h1, h2, h3⟩ := stop_ex P c
    by_cases h : P n
    · rcases h3 with h3 | h3
      · subst h3
        refine ⟨n + 1, Nat.le_refl _, fun j hj => ?_, .inl rfl⟩
        by_cases hj' : j = n
        · subst hj'; exact h
        · exact h2 j (by omega)
      · exact absurd h h3
    · exact ⟨n, by omega, h2, .inr h⟩

theorem swapF_in {p : Int} {r c : Nat} {M : Mat} (hM : inM p r c M) {a b : Nat} (ha : a < r) (hb : b < r) : inM p r c (swapF M a b) := by
  intro i hi j hj
  unfold swapF
  split
  · exact hM b hb j hj
  · split
    · exact hM a ha j hj
    · exact hM i hi j hj
theorem swapF_self (M : Mat) (a : Nat) : swapF M a a = M := by
  funext i j
  unfold swapF
  split
  · rename_i h; rw [h]
  · rfl
theorem sclF_in {p inv : Int} {r c : Nat} {M : Mat} (hp : pOk p) (hM : inM p r c M) (t : Nat) : inM p r c (sclF p inv M t) := by
  intro i hi j hj
  unfold sclF
  split
  · exact emod_in hp _
  · exact hM i hi j hj
theorem clrF_in {p : Int} {r c : Nat} {M : Mat} (hp : pOk p) (hM : inM p r c M) (t k n : Nat) : inM p r c (clrF p M t k n) := by
  intro i hi j hj
  unfold clrF
  split
  · exact emod_in hp _
  · exact hM i hi j hj
theorem one_in {p : Int} (hp : pOk p) : inP p 1 := ⟨by omega, by have := hp.1; omega⟩
theorem pivS_in {p : Int} {r c : Nat} {M : Mat} (hp : pOk p) (hM : inM p r c M) {t k : Nat} (ht : t < r) (hk : k < r) (j : Nat) : inM p r c (pivS p M t j k) := sclF_in hp (swapF_in hM ht hk) t

structure RI (p : Int) (r c : Nat) (s : Mat × List Int × Int) (j : Nat) : Prop where
  m : inM p r c s.1
  l : s.2.1.length ≤ r
  lj : s.2.1.length ≤ j
  d : inP p s.2.2
  e : ∀ x ∈ s.2.1, 0 ≤ x ∧ x < (j : Int)
theorem RI.step {p : Int} {r c : Nat} {s : Mat × List Int × Int} {j : Nat} (hp : pOk p) (h : RI p r c s j) : RI p r c (redS p r s j) (j + 1) := by
  have keep : RI p r c s (j + 1) := ⟨h.m, h.l, by have := h.lj; omega, h.d, fun x hx => by have := h.e x hx; omega⟩
  unfold redS
  split
  · rename_i hl
    split
    · exact keep
    · rename_i k hk
      have hq := pivF_lt hk
      refine ⟨clrF_in hp (pivS_in hp h.m hl (by omega) j) _ _ _, ?_, ?_, emod_in hp _, ?_⟩
      · simp only [List.length_append, List.length_cons, List.length_nil]; omega
      · have := h.lj
        simp only [List.length_append, List.length_cons, List.length_nil]; omega
      · intro x hx
        simp only [List.mem_append, List.mem_singleton] at hx
        rcases hx with hx | rfl
        · have := h.e x hx; omega
        · omega
  · exact keep
theorem redN_I {p : Int} {r c : Nat} {M : Mat} (hp : pOk p) (hM : inM p r c M) : ∀ j, RI p r c (redN p r M j) j
  | 0 => ⟨hM, Nat.zero_le _, Nat.le_refl 0, one_in hp, fun x hx => absurd hx (List.not_mem_nil)⟩
  | j + 1 => (redN_I hp hM j).step hp
theorem redN_stop {p : Int} {r : Nat} {M : Mat} {n : Nat} (h : ¬ (redN p r M n).2.1.length < r) : ∀ d, redN p r M (n + d) = redN p r M n
  | 0 => rfl
  | d + 1 => by
    have ih := redN_stop h d
    show redS p r (redN p r M (n + d)) (n + d) = _
    rw [ih, redS, if_neg h]

theorem scl_step {r c : Nat} {p inv : Int} (M : Mat) (t n : Nat) : genD r c (updM (sclTo p inv M t n) t n (M t n * inv % p)) = genD r c (sclTo p inv M t (n + 1)) := by
  refine genD_congr fun a _ b _ => ?_
  unfold updM sclTo
  by_cases h : a = t ∧ b = n
  · obtain ⟨rfl, rfl⟩ := h
    simp
  · rw [if_neg h]
    by_cases h1 : a = t ∧ b < n
    · rw [if_pos h1, if_pos ⟨h1.1, by omega⟩]
    · rw [if_neg h1, if_neg (by omega)]
theorem sclTo_0 {p inv : Int} (M : Mat) (t : Nat) : sclTo p inv M t 0 = M := by funext a b; exact if_neg (by omega)
theorem sclTo_old {p inv : Int} (M : Mat) (t n : Nat) : sclTo p inv M t n t n = M t n := if_neg (by omega)
theorem sclTo_end {r c : Nat} {p inv : Int} (M : Mat) (t : Nat) : genD r c (sclTo p inv M t c) = genD r c (sclF p inv M t) := by
  refine genD_congr fun a _ b hb => ?_
  unfold sclTo sclF
  by_cases h : a = t
  · rw [if_pos ⟨h, hb⟩, if_pos h]
  · rw [if_neg (fun q => h q.1), if_neg h]
theorem clrF_0 {p : Int} (M : Mat) (t j : Nat) : clrF p M t j 0 = M := by funext a b; exact if_neg (by omega)
theorem clrF_old {p : Int} (M : Mat) (t j n b : Nat) : clrF p M t j n n b = M n b := if_neg (by omega)
theorem clrF_t {p : Int} (M : Mat) (t j n b : Nat) : clrF p M t j n t b = M t b := if_neg (by omega)
theorem clrF_skip {p : Int} (M : Mat) (t j : Nat) : clrF p M t j (t + 1) = clrF p M t j t := by
  funext a b
  unfold clrF
  by_cases h : a < t
  · rw [if_pos (by omega), if_pos (by omega)]
  · rw [if_neg (by omega), if_neg (by omega)]
theorem clr_step {r c : Nat} {p : Int} (M : Mat) (t j n : Nat) (hn : n ≠ t) : genD r c (clearF p (clrF p M t j n) n t (p - M n j)) = genD r c (clrF p M t j (n + 1)) := by
  refine genD_congr fun a _ b _ => ?_
  unfold clearF
  by_cases h : a = n
  · subst h
    rw [if_pos rfl, clrF_old, clrF_t]
    exact (if_pos ⟨by omega, hn⟩).symm
  · rw [if_neg h]
    unfold clrF
    by_cases h1 : a < n ∧ a ≠ t
    · rw [if_pos h1, if_pos ⟨by omega, h1.2⟩]
    · rw [if_neg h1, if_neg (by omega)]
theorem clr_zero {r c : Nat} {p : Int} (M : Mat) (t j n : Nat) (hM : inM p r c M) (h0 : M n j = 0) : genD r c (clrF p M t j n) = genD r c (clrF p M t j (n + 1)) := by
  refine genD_congr fun a ha b hb => ?_
  unfold clrF
  by_cases h : a = n
  · subst h
    rw [if_neg (by omega)]
    by_cases ht : a = t
    · rw [if_neg (by omega)]
    · rw [if_pos ⟨by omega, ht⟩, h0, Int.sub_zero, Int.add_mul_emod_self_left]
      exact (Int.emod_eq_of_lt (hM a ha b hb).1 (hM a ha b hb).2).symm
  · by_cases h1 : a < n ∧ a ≠ t
    · rw [if_pos h1, if_pos ⟨by omega, h1.2⟩]
    · rw [if_neg h1, if_neg (by omega)]
theorem pivF_none {M : Mat} {j : Nat} : ∀ {d k : Nat}, pivF M j d k = none → ∀ i, k ≤ i → i < k + d → M i j = 0
  | 0, k, _, i, h1, h2 => by omega
  | d + 1, k, h, i, h1, h2 => by
    simp only [pivF] at h
    split at h
    · rename_i h0
      by_cases hi : i = k
      · rw [hi]; exact h0
      · exact pivF_none h i (by omega) (by omega)
    · cases h
theorem pivF_before {M : Mat} {j q : Nat} : ∀ {d k : Nat}, pivF M j d k = some q → ∀ i, k ≤ i → i < q → M i j = 0
  | 0, k, h, i, h1, h2 => by cases h
  | d + 1, k, h, i, h1, h2 => by
    simp only [pivF] at h
    split at h
    · rename_i h0
      by_cases hi : i = k
      · rw [hi]; exact h0
      · exact pivF_before h i (by omega) h2
    · have := Option.some.inj h; omega
theorem subR {p d : Int} (hp : pOk p) (hd : inP p d) : remI (subI .i64 p d) p = some ((p - d) % p) := by
  have h1 := hp.1; have h2 := hp.2; have h3 := hd.1; have h4 := hd.2
  rw [subI_eq (by omega) (by omega), remN (by omega) (by omega)]
theorem redS_n {p : Int} {r : Nat} {s : Mat × List Int × Int} {j : Nat} (hl : s.2.1.length < r) (h : pivF s.1 j (r - s.2.1.length) s.2.1.length = none) : redS p r s j = s := by
  unfold redS
  rw [if_pos hl, h]
theorem redS_s {p : Int} {r : Nat} {s : Mat × List Int × Int} {j k : Nat} (hl : s.2.1.length < r) (h : pivF s.1 j (r - s.2.1.length) s.2.1.length = some k) :
    redS p r s j = (clrF p (pivS p s.1 s.2.1.length j k) s.2.1.length j r, s.2.1 ++ [(j : Int)], redD p s.1 s.2.1.length j k s.2.2) := by
  unfold redS
  rw [if_pos hl, h]
theorem inv_nat {p x : Int} (hp : pOk p) (hx : inP p x) : F_spec_l31Inverse (p, x) = some (invG p 1 x (p - 2).toNat) := if_pos ⟨hp, hx⟩
theorem invI_nat {p x : Int} (hp : pOk p) (hx : inP p x) : F_impl_rawInverse (p, x) = some (invG p 1 x (p - 2).toNat) := if_pos ⟨hp, hx⟩
theorem winI_gen {r c : Nat} (M M' : Mat) : winI (genD r c M) 0 (lenN (genD r c M')) = some (genD r c M) := winI_len (by rw [lenN_gen]; exact (genD_len r c M))
/-! ### the walk of the spec's reduction -/

theorem cnd_eq {α : Type} {b : Bool} {u v x : α} (h1 : b = true → u = x) (h2 : b = false → v = x) : cnd b u v = x := by
  cases b
  · exact h2 rfl
  · exact h1 rfl

section
variable {p : Int} {r c : Nat} {M0 : Mat}

abbrev stS (p : Int) (r c : Nat) (L0 : List Int) (s : Mat × List Int × Int) (j : Nat) : (Int × Int × Int) × (Int × Int × List Int) × (Int × Int) × (Int × Int) × List Int × List Int × List Int :=
  ((p, s.2.2, (j : Int)), ((r : Int), (c : Int), L0), ((0 : Int), (0 : Int)), ((r : Int), (c : Int)), ([] : List Int), genD r c s.1, s.2.1)

theorem g_redS (hp : pOk p) (hr : r ≤ 4096) (hc : c ≤ 4096) (hrc : r * c ≤ 1048576) (hM : inM p r c M0) :
    G_spec_l31Reduce FUEL (p, (r : Int), (c : Int), genD r c M0) = some (((r : Int), (c : Int), genD r c (redN p r M0 c).1), (redN p r M0 c).2.1, (redN p r M0 c).2.2) := by
  obtain ⟨n, hn, hlt, hend⟩ := stop_ex (fun j => (redN p r M0 j).2.1.length < r) c
  have hfin : redN p r M0 c = redN p r M0 n := by
    rcases hend with e | e
    · rw [e]
    · obtain ⟨d, rfl⟩ : ∃ d, c = n + d := ⟨c - n, by omega⟩
      exact redN_stop e d
  rw [hfin]
  have hlen : (genD r c M0).length ≤ 1099511627776 := by rw [genD_len]; omega
  simp only [G_spec_l31Reduce, F_spec_l05Ints, if_pos hlen, bnd_s, fulI_id]
  rw [loopT_seq (r := Sum.inl ((redN p r M0 n).2.2, ((0 : Int), (0 : Int)), ((r : Int), (c : Int)), ([] : List Int), genD r c (redN p r M0 n).1, (redN p r M0 n).2.1)) (fun j => stS p r c (genD r c M0) (redN p r M0 j) j) n ?_ ?_ ?_ (FUEL_gt (by omega))]
  · rw [show fulI 0 0 (lenN ([] : List Int)) = some () from rfl]; simp only [bnd_s]; rw [joinK_l]; simp only [takI_id, bnd_s]
  · intro j hj
    have hI := redN_I hp hM (r := r) (c := c) j
    have hl := hlt j hj
    generalize hs : redN p r M0 j = s at hI hl ⊢
    have hS : redN p r M0 (j + 1) = redS p r s j := by rw [← hs]; rfl
    obtain ⟨M, L, d⟩ := s
    simp only at hl
    have hM' : inM p r c M := hI.m
    have hId : inP p d := hI.d
    simp only [stS]
    rw [cnd_t (ltN_t (show j < c by omega)), cnd_t (show ltI (natI (lenN L)) (r : Int) = true from ltN_t hl)]
    simp only [winI_id, bnd_s]
    rw [show natI (lenN L) = ((L.length : Nat) : Int) from rfl, pivot_nat hr hc hrc (show L.length ≤ r by omega) (show j < c by omega), bnd_s]
    cases hk : pivF M j (r - L.length) L.length with
    | none =>
      rw [hS, redS_n (s := (M, L, d)) hl hk, cnd_t (show ltI (pivI none) 0 = true from rfl), joinK_l]
      simp only [addN1 (show j ≤ 1048577 by omega)]
    | some k =>
      obtain ⟨hq1, hq2, hq3⟩ := pivF_lt hk
      have hkr : k < r := by omega
      rw [hS, redS_s (s := (M, L, d)) hl hk, cnd_f (show ltI (pivI (some k)) 0 = false from ltI_f (by show (0 : Int) ≤ (k : Int); omega))]
      have hb1 := swapF_in hM' hl hkr
      have hx := hb1 L.length hl j (by omega)
      have hinv := invG_in hp (p - 2).toNat 1 (swapF M L.length k L.length j) (one_in hp)
      have hd' : inP p (if k = L.length then d else (p - d) % p) := by split; exact hId; exact emod_in hp _
      rw [cnd_eq (b := neI (pivI (some k)) ((L.length : Nat) : Int)) (x := some (Sum.inl (((if k = L.length then d else (p - d) % p), ((L.length : Nat) : Int), (j : Int), p), ((r : Int), (c : Int), genD r c M0), ((0 : Int), (0 : Int)), ((r : Int), (c : Int)), ([] : List Int), genD r c (swapF M L.length k), L))) ?_ ?_]
      · rw [joinK_l]
        simp only [idxI (show L.length ≤ 1048576 by omega) (show c ≤ 1048576 by omega) (show j ≤ 1048576 by omega), chkI_gen _ hl (show j < c by omega), bnd_s, addN_0, getN_gen _ hl (show j < c by omega)]
        rw [mulR hp hd'.le hx.le, bnd_s, inv_nat hp hx, bnd_s]
        rw [loopT_seq (r := Sum.inl ((redD p M L.length j k d, p, (j : Int), ((L.length : Nat) : Int)), ((r : Int), (c : Int), genD r c M0), ((0 : Int), (0 : Int)), ((r : Int), (c : Int)), ([] : List Int), genD r c (pivS p M L.length j k), L)) (fun b => ((p, redD p M L.length j k d, (j : Int), ((L.length : Nat) : Int), invG p 1 (swapF M L.length k L.length j) (p - 2).toNat, (b : Int)), ((r : Int), (c : Int), genD r c M0), ((0 : Int), (0 : Int)), ((r : Int), (c : Int)), ([] : List Int), genD r c (sclTo p (invG p 1 (swapF M L.length k L.length j) (p - 2).toNat) (swapF M L.length k) L.length b), L)) c ?_ ?_ ?_ (FUEL_gt (by omega))]
        · rw [joinK_l]
          simp only
          have hP : inM p r c (pivS p M L.length j k) := pivS_in hp hM' hl hkr j
          generalize pivS p M L.length j k = P at hP ⊢
          generalize hD : redD p M L.length j k d = D
          rw [loopT_seq (r := Sum.inl (((j : Int), p, D), ((r : Int), (c : Int), genD r c M0), ((0 : Int), (0 : Int)), ((r : Int), (c : Int)), ([] : List Int), genD r c (clrF p P L.length j r), L)) (fun a => ((p, D, (j : Int), ((L.length : Nat) : Int), (a : Int)), ((r : Int), (c : Int), genD r c M0), ((0 : Int), (0 : Int)), ((r : Int), (c : Int)), ([] : List Int), genD r c (clrF p P L.length j a), L)) r ?_ ?_ ?_ (FUEL_gt (by omega))]
          · rw [joinK_l]
            simp only
            rw [winI_len (xs := [(j : Int)]) (n := 1) rfl, bnd_s, fitI_ok (by simp only [addN, lenN, maxBytes, List.length_cons, List.length_nil]; omega), bnd_s, lenN_appL, fulI_id, bnd_s, joinK_l]
            simp only [addN1 (show j ≤ 1048577 by omega), ← hD]
            rfl
          · intro a ha
            simp only
            rw [cnd_t (ltN_t ha)]
            by_cases hat : a = L.length
            · rw [cnd_f (neI_f (by omega))]
              simp only [addN1 (show a ≤ 1048577 by omega)]
              rw [hat, clrF_skip]
            · rw [cnd_t (neI_t (by omega))]
              simp only [idxI (show a ≤ 1048576 by omega) (show c ≤ 1048576 by omega) (show j ≤ 1048576 by omega), chkI_gen _ ha (show j < c by omega), bnd_s, addN_0, getN_gen _ ha (show j < c by omega), clrF_old]
              rw [clear_nat hp hr hc hrc ha hl (hP a ha j (by omega)).le (clrF_in hp hP _ _ _)]
              simp only [bnd_s, fulI_gen, addN1 (show a ≤ 1048577 by omega)]
              rw [clr_step P L.length j a hat]
          · simp only
            rw [cnd_f (ltN_f (Nat.le_refl r))]
          · rw [clrF_0]
            rfl
        · intro b hb
          simp only
          rw [cnd_t (ltN_t hb)]
          simp only [idxI (show L.length ≤ 1048576 by omega) (show c ≤ 1048576 by omega) (show b ≤ 1048576 by omega), chkI_gen _ hl hb, bnd_s, addN_0, getN_gen _ hl hb, sclTo_old]
          rw [mulR hp (hb1 L.length hl b hb).le hinv.le]
          simp only [bnd_s, setL_gen _ hb, fulI_gen, scl_step, addN1 (show b ≤ 1048577 by omega)]
        · simp only
          rw [cnd_f (ltN_f (Nat.le_refl c)), sclTo_end]
          rfl
        · rw [sclTo_0]
          rfl
      · intro hne
        have hne' : k ≠ L.length := by
          intro q; subst q; rw [show neI (pivI (some L.length)) ((L.length : Nat) : Int) = false from neI_f rfl] at hne; cases hne
        rw [if_neg hne', show pivI (some k) = (k : Int) from rfl, swap_nat hr hc hrc hl hkr, bnd_s, subR hp hId]
        simp only [bnd_s, fulI_gen]
      · intro heq
        have heq' : k = L.length := by
          by_cases q : k = L.length
          · exact q
          · rw [show neI (pivI (some k)) ((L.length : Nat) : Int) = true from neI_t (by show ((k : Nat) : Int) ≠ _; omega)] at heq; cases heq
        rw [if_pos heq', heq', swapF_self]
  · simp only [stS]
    by_cases hnc : n = c
    · subst hnc
      rw [cnd_f (ltN_f (Nat.le_refl n))]
    · have he : r ≤ (redN p r M0 n).2.1.length := by
        rcases hend with e | e
        · exact absurd e hnc
        · exact Nat.le_of_not_lt e
      rw [cnd_t (ltN_t (show n < c by omega)), cnd_f (show ltI (natI (lenN (redN p r M0 n).2.1)) (r : Int) = false from ltN_f he)]
  · rfl
end
/-! ### the walk of the program's reduction -/

section
variable {p : Int} {r c : Nat} {M0 : Mat}

abbrev stI (p : Int) (r c : Nat) (s : Mat × List Int × Int) (j : Nat) : (Int × Int) × (Int × Int) × (Int × Int) × List Int × List Int × List Int :=
  ((p, (j : Int)), ((0 : Int), (0 : Int)), ((r : Int), (c : Int)), ([] : List Int), genD r c s.1, s.2.1)

theorem g_redI (hp : pOk p) (hr : r ≤ 4096) (hc : c ≤ 4096) (hrc : r * c ≤ 1048576) (hM : inM p r c M0) :
    G_impl_rawReduce FUEL (p, (r : Int), (c : Int), genD r c M0) = some (((r : Int), (c : Int), genD r c (redN p r M0 c).1), (redN p r M0 c).2.1) := by
  have hlen : (genD r c M0).length ≤ 1099511627776 := by rw [genD_len]; omega
  simp only [G_impl_rawReduce, F_impl_copyMatrix, if_pos hlen, bnd_s, fulI_id]
  rw [loopT_seq (r := Sum.inl (((0 : Int), (0 : Int)), ((r : Int), (c : Int)), ([] : List Int), genD r c (redN p r M0 c).1, (redN p r M0 c).2.1)) (fun j => stI p r c (redN p r M0 j) j) c ?_ ?_ ?_ (FUEL_gt (by omega))]
  · rw [show fulI 0 0 (lenN ([] : List Int)) = some () from rfl]; simp only [bnd_s]; rw [joinK_l]; simp only [takI_id, bnd_s]
  · intro j hj
    have hI := redN_I hp hM (r := r) (c := c) j
    generalize hs : redN p r M0 j = s at hI ⊢
    have hS : redN p r M0 (j + 1) = redS p r s j := by rw [← hs]; rfl
    obtain ⟨M, L, d⟩ := s
    have hM' : inM p r c M := hI.m
    have hl0 : L.length ≤ r := hI.l
    have hlj : L.length ≤ j := hI.lj
    simp only [stI]
    rw [cnd_t (ltN_t hj)]
    have search : ∃ k : Nat, L.length ≤ k ∧ k ≤ r ∧ (∀ i, L.length ≤ i → i < k → M i j = 0) ∧ ((k = r ∧ redS p r (M, L, d) j = (M, L, d)) ∨ (k < r ∧ M k j ≠ 0 ∧ L.length < r ∧ redS p r (M, L, d) j = (clrF p (pivS p M L.length j k) L.length j r, L ++ [(j : Int)], redD p M L.length j k d))) := by
      by_cases hl : L.length < r
      · cases hk : pivF M j (r - L.length) L.length with
        | none => exact ⟨r, hl0, Nat.le_refl r, fun i h1 h2 => pivF_none hk i h1 (by omega), .inl ⟨rfl, redS_n (s := (M, L, d)) hl hk⟩⟩
        | some k =>
          obtain ⟨q1, q2, q3⟩ := pivF_lt hk
          exact ⟨k, q1, by omega, fun i h1 h2 => pivF_before hk i h1 h2, .inr ⟨by omega, q3, hl, redS_s (s := (M, L, d)) hl hk⟩⟩
      · refine ⟨r, hl0, Nat.le_refl r, fun i h1 h2 => by omega, .inl ⟨rfl, ?_⟩⟩
        unfold redS
        exact if_neg hl
    obtain ⟨k, hk1, hk2, hk3, hk4⟩ := search
    rw [loopT_seq (r := Sum.inl (((k : Int), ((L.length : Nat) : Int), (j : Int), p), ((0 : Int), (0 : Int)), ((r : Int), (c : Int)), ([] : List Int), genD r c M, L)) (fun e => ((p, (j : Int), ((L.length : Nat) : Int), ((L.length + e : Nat) : Int)), ((0 : Int), (0 : Int)), ((r : Int), (c : Int)), ([] : List Int), genD r c M, L)) (k - L.length) ?_ ?_ ?_ (FUEL_gt (by omega))]
    · rw [joinK_l]
      simp only
      rcases hk4 with ⟨hkr, hS2⟩ | ⟨hkr, hne, hl, hS2⟩
      · rw [hS, hS2, cnd_t (eqI_t (by omega)), joinK_l]
        simp only [addN1 (show j ≤ 1048577 by omega)]
      · rw [hS, hS2, cnd_f (eqI_f (by omega))]
        have hb1 := swapF_in hM' hl hkr
        have hx := hb1 L.length hl j hj
        have hinv := invG_in hp (p - 2).toNat 1 (swapF M L.length k L.length j) (one_in hp)
        rw [show F_impl_Matrix_swapRows (((r : Int), (c : Int), genD r c M), ((L.length : Nat) : Int), (k : Int)) = some (genD r c (swapF M L.length k)) from swap_nat hr hc hrc hl hkr, bnd_s, winI_gen, bnd_s, at_nat hr hc hrc hl hj, bnd_s, invI_nat hp hx, bnd_s]
        simp only [fulI_gen, bnd_s]
        rw [loopT_seq (r := Sum.inl ((p, (j : Int), ((L.length : Nat) : Int)), ((0 : Int), (0 : Int)), ((r : Int), (c : Int)), ([] : List Int), genD r c (pivS p M L.length j k), L)) (fun b => ((p, (j : Int), ((L.length : Nat) : Int), invG p 1 (swapF M L.length k L.length j) (p - 2).toNat, (b : Int)), ((0 : Int), (0 : Int)), ((r : Int), (c : Int)), ([] : List Int), genD r c (sclTo p (invG p 1 (swapF M L.length k L.length j) (p - 2).toNat) (swapF M L.length k) L.length b), L)) c ?_ ?_ ?_ (FUEL_gt (by omega))]
        · rw [joinK_l]
          simp only
          have hP : inM p r c (pivS p M L.length j k) := pivS_in hp hM' hl hkr j
          generalize pivS p M L.length j k = P at hP ⊢
          rw [loopT_seq (r := Sum.inl (((j : Int), p), ((0 : Int), (0 : Int)), ((r : Int), (c : Int)), ([] : List Int), genD r c (clrF p P L.length j r), L)) (fun a => ((p, (j : Int), ((L.length : Nat) : Int), (a : Int)), ((0 : Int), (0 : Int)), ((r : Int), (c : Int)), ([] : List Int), genD r c (clrF p P L.length j a), L)) r ?_ ?_ ?_ (FUEL_gt (by omega))]
          · rw [joinK_l]
            simp only
            rw [winI_len (xs := [(j : Int)]) (n := 1) rfl, bnd_s, fitI_ok (by simp only [addN, lenN, maxBytes, List.length_cons, List.length_nil]; omega), bnd_s, lenN_appL, fulI_id, bnd_s, joinK_l]
            simp only [addN1 (show j ≤ 1048577 by omega)]
            rfl
          · intro a ha
            simp only
            rw [cnd_t (ltN_t ha)]
            by_cases hat : a = L.length
            · rw [cnd_f (neI_f (by omega))]
              simp only [addN1 (show a ≤ 1048577 by omega)]
              rw [hat, clrF_skip]
            · rw [cnd_t (neI_t (by omega)), winI_gen, bnd_s, at_nat hr hc hrc ha hj, bnd_s, clrF_old]
              have hPa := hP a ha j hj
              by_cases h0 : P a j = 0
              · rw [cnd_f (neI_f h0)]
                simp only [addN1 (show a ≤ 1048577 by omega)]
                rw [clr_zero P L.length j a hP h0]
              · rw [cnd_t (neI_t h0), bnd_s, at_nat hr hc hrc ha hj, bnd_s, clrF_old]
                have hs : subI .i64 p (P a j) = p - P a j := by
                  have h1 := hp.1; have h2 := hp.2; have h3 := hPa.1; have h4 := hPa.2
                  exact subI_eq (by omega) (by omega)
                rw [hs, addRow_nat hp hr hc hrc ha hl (by have h3 := hPa.1; have h4 := hPa.2; omega) (clrF_in hp hP _ _ _)]
                simp only [bnd_s, fulI_gen, addN1 (show a ≤ 1048577 by omega)]
                rw [clr_step P L.length j a hat]
          · simp only
            rw [cnd_f (ltN_f (Nat.le_refl r))]
          · rw [clrF_0]
            rfl
        · intro b hb
          simp only
          rw [cnd_t (ltN_t hb), winI_gen, bnd_s, at_nat hr hc hrc hl hb, bnd_s, sclTo_old, mulR hp (hb1 L.length hl b hb).le hinv.le, bnd_s, set_nat hr hc hrc hl hb]
          simp only [bnd_s, fulI_gen, scl_step, addN1 (show b ≤ 1048577 by omega)]
        · simp only
          rw [cnd_f (ltN_f (Nat.le_refl c)), sclTo_end]
          rfl
        · rw [sclTo_0]
          rfl
    · intro e he
      simp only
      rw [cnd_t (ltN_t (show L.length + e < r by omega)), winI_id, bnd_s, at_nat hr hc hrc (show L.length + e < r by omega) hj, bnd_s, cnd_t (eqI_t (hk3 _ (by omega) (by omega)))]
      simp only [addN1 (show L.length + e ≤ 1048577 by omega)]
      rfl
    · have e1 : L.length + (k - L.length) = k := by omega
      simp only [e1]
      by_cases hkr : k < r
      · have hne : M k j ≠ 0 := by
          rcases hk4 with ⟨h1, _⟩ | ⟨_, h1, _⟩
          · omega
          · exact h1
        rw [cnd_t (ltN_t hkr), winI_id, bnd_s, at_nat hr hc hrc hkr hj, bnd_s, cnd_f (eqI_f hne)]
      · rw [cnd_f (ltN_f (by omega))]
    · rfl
  · simp only [stI]
    rw [cnd_f (ltN_f (Nat.le_refl c))]
  · rfl
end

theorem redOk_nat {x : Int × Int × Int × List Int} (h : redOk x) : ∃ (p : Int) (r c : Nat) (M : Mat), x = (p, (r : Int), (c : Int), genD r c M) ∧ pOk p ∧ r ≤ 4096 ∧ c ≤ 4096 ∧ r * c ≤ 1048576 ∧ inM p r c M ∧ M = ofD c (genD r c M) := by
  obtain ⟨p, x⟩ := x
  obtain ⟨hp, hm, ha⟩ := h
  obtain ⟨r, c, M, rfl, h1, h2, h3⟩ := mOk_gen hm
  simp only at hp ha
  have e : genD r c (ofD c (genD r c M)) = genD r c M := genD_of (genD_len r c M)
  exact ⟨p, r, c, ofD c (genD r c M), by rw [e], hp, h1, h2, h3, allP_gen.1 (by rw [e]; exact ha), by rw [e]⟩
theorem f_spec_l31Reduce (x : Int × Int × Int × List Int) (y : (Int × Int × List Int) × List Int × Int) (h : F_spec_l31Reduce x = some y) : G_spec_l31Reduce FUEL x = some y := by
  simp only [F_spec_l31Reduce] at h
  split at h
  · rename_i hc
    obtain ⟨p, r, c, M, rfl, hp, h1, h2, h3, hM, e⟩ := redOk_nat hc
    rw [← h, g_redS hp h1 h2 h3 hM]
    simp only [redX, Int.toNat_natCast, ← e]
  · cases h
theorem f_impl_rawReduce (x : Int × Int × Int × List Int) (y : (Int × Int × List Int) × List Int) (h : F_impl_rawReduce x = some y) : G_impl_rawReduce FUEL x = some y := by
  simp only [F_impl_rawReduce] at h
  split at h
  · rename_i hc
    obtain ⟨p, r, c, M, rfl, hp, h1, h2, h3, hM, e⟩ := redOk_nat hc
    rw [← h, g_redI hp h1 h2 h3 hM]
    simp only [redX, Int.toNat_natCast, ← e]
  · cases h
end Go.Am
end
section
namespace Go.Am
/-! ### ranks, reduced forms and factors of good matrices -/

theorem matOk_red {m : Int} {x : Int × Int × List Int} (h : matOk m x = true) : ∃ (r c : Nat) (M : Mat), x = ((r : Int), (c : Int), genD r c M) ∧ pOk m ∧ r ≤ 64 ∧ c ≤ 64 ∧ r * c ≤ 4096 ∧ inM m r c M ∧ M = ofD c (genD r c M) ∧ redOk (m, x) := by
  obtain ⟨r, c, M, rfl, hp, hr, hc, hrc, hM⟩ := matOk_nat h
  have e : genD r c (ofD c (genD r c M)) = genD r c M := genD_of (genD_len r c M)
  refine ⟨r, c, ofD c (genD r c M), by rw [e], hp, hr, hc, hrc, allP_gen.1 (by rw [e]; exact allP_gen.2 hM), by rw [e], hp, mOk_mk M (by omega) (by omega) (by omega), allP_gen.2 hM⟩
theorem redX_nat {m : Int} {r c : Nat} {M : Mat} (e : M = ofD c (genD r c M)) : redX (m, (r : Int), (c : Int), genD r c M) = redN m r M c := by
  simp only [redX, Int.toNat_natCast, ← e]

/-! ### factors -/

section
variable {p : Int} {r c : Nat} {M R : Mat} {L : List Int}

end

end Go.Am
end
section
namespace Go.Am

def ch : Nat → Nat → Nat
  | _, 0 => 1
  | 0, _ + 1 => 0
  | n + 1, k + 1 => ch n k + ch n (k + 1)

theorem ch_gt : ∀ {n k : Nat}, n < k → ch n k = 0
  | 0, k + 1, _ => by simp [ch]
  | n + 1, k + 1, h => by simp [ch, ch_gt (show n < k by omega), ch_gt (show n < k + 1 by omega)]
theorem ch_0 (n : Nat) : ch n 0 = 1 := by cases n <;> rfl
theorem ch_self : ∀ n, ch n n = 1
  | 0 => rfl
  | n + 1 => by simp [ch, ch_self n, ch_gt (Nat.lt_succ_self n)]

theorem ch_mul : ∀ (n k : Nat), (k + 1) * ch (n + 1) (k + 1) = (n + 1) * ch n k
  | 0, 0 => by simp [ch]
  | 0, k + 1 => by simp [ch]
  | n + 1, 0 => by
    have h := ch_mul n 0
    simp only [ch_0] at h ⊢
    have e : ch (n + 1 + 1) (0 + 1) = ch (n + 1) 0 + ch (n + 1) (0 + 1) := rfl
    rw [e, ch_0]
    omega
  | n + 1, k + 1 => by
    have h1 := ch_mul n k
    have h2 := ch_mul n (k + 1)
    have e1 : ch (n + 1 + 1) (k + 1 + 1) = ch (n + 1) (k + 1) + ch (n + 1) (k + 1 + 1) := rfl
    have e2 : ch (n + 1) (k + 1) = ch n k + ch n (k + 1) := rfl
    rw [e1]
    generalize ch (n + 1) (k + 1 + 1) = B at *
    generalize ch (n + 1) (k + 1) = A at *
    generalize ch n k = u at *
    generalize ch n (k + 1) = v at *
    subst e2
    grind

def sumF (f : Nat → Nat) : Nat → Nat
  | 0 => 0
  | m + 1 => sumF f m + f m

theorem sum_step (n a : Nat) : ∀ m, sumF (fun k => ch (n + 1) k * a ^ k) (m + 1) = sumF (fun k => ch n k * a ^ k) (m + 1) + a * sumF (fun k => ch n k * a ^ k) m
  | 0 => by simp [sumF, ch_0]
  | m + 1 => by
    have h := sum_step n a m
    simp only [sumF] at h ⊢
    have e : ch (n + 1) (m + 1) = ch n m + ch n (m + 1) := rfl
    rw [h, e, Nat.pow_succ]
    grind

theorem binom (a : Nat) : ∀ n, (a + 1) ^ n = sumF (fun k => ch n k * a ^ k) (n + 1)
  | 0 => by simp [sumF, ch_0]
  | n + 1 => by
    rw [sum_step]
    have e : sumF (fun k => ch n k * a ^ k) (n + 1 + 1) = sumF (fun k => ch n k * a ^ k) (n + 1) := by
      show sumF _ (n + 1) + ch n (n + 1) * a ^ (n + 1) = _
      rw [ch_gt (Nat.lt_succ_self n)]; simp
    rw [e, ← binom a n, Nat.pow_succ]
    grind

theorem sum_mod {p : Nat} {f : Nat → Nat} : ∀ m, (∀ k, 0 < k → k ≤ m → p ∣ f k) → sumF f (m + 1) % p = f 0 % p
  | 0, h => by simp [sumF]
  | m + 1, h => by
    have i := sum_mod m fun k h1 h2 => h k h1 (by omega)
    obtain ⟨c, hc⟩ := h (m + 1) (by omega) (Nat.le_refl _)
    show (sumF f (m + 1) + f (m + 1)) % p = _
    rw [hc, Nat.add_mul_mod_self_left, i]

def PrimeN (p : Nat) : Prop := 2 ≤ p ∧ ∀ d, d ∣ p → d = 1 ∨ d = p

theorem PrimeN.cop {p a : Nat} (hp : PrimeN p) (h : ¬ p ∣ a) : Nat.Coprime p a := by
  have := hp.2 (Nat.gcd p a) (Nat.gcd_dvd_left p a)
  rcases this with h1 | h1
  · exact h1
  · exact absurd (h1 ▸ Nat.gcd_dvd_right p a) h

theorem PrimeN.ch {p k : Nat} (hp : PrimeN p) (h1 : 0 < k) (h2 : k < p) : p ∣ ch p k := by
  obtain ⟨q, rfl⟩ : ∃ q, p = q + 1 := ⟨p - 1, by omega⟩
  obtain ⟨j, rfl⟩ : ∃ j, k = j + 1 := ⟨k - 1, by omega⟩
  have hm := ch_mul q j
  have hd : (q + 1) ∣ (j + 1) * Go.Am.ch (q + 1) (j + 1) := ⟨Go.Am.ch q j, hm⟩
  exact (hp.cop fun h => absurd (Nat.le_of_dvd (by omega) h) (by omega)).dvd_of_dvd_mul_left hd

theorem fermat0 {p : Nat} (hp : PrimeN p) : ∀ a, a ^ p % p = a % p
  | 0 => by rw [Nat.zero_pow (by have := hp.1; omega)]
  | a + 1 => by
    rw [binom]
    show (sumF _ p + Go.Am.ch p p * a ^ p) % p = _
    obtain ⟨q, rfl⟩ : ∃ q, p = q + 1 := ⟨p - 1, by have := hp.1; omega⟩
    have h := sum_mod (p := q + 1) (f := fun k => Go.Am.ch (q + 1) k * a ^ k) q fun k h1 h2 => Nat.dvd_trans (hp.ch h1 (by omega)) (Nat.dvd_mul_right _ _)
    rw [ch_self, Nat.one_mul, Nat.add_mod, h, fermat0 hp a]
    simp only [ch_0, Nat.pow_zero, Nat.mul_one]
    rw [← Nat.add_mod, Nat.add_comm]

theorem fermat {p a : Nat} (hp : PrimeN p) (ha : ¬ p ∣ a) : a * a ^ (p - 2) % p = 1 := by
  have h2 := hp.1
  have h := fermat0 hp a
  have e : a ^ p = a * (a * a ^ (p - 2)) := by
    obtain ⟨q, rfl⟩ : ∃ q, p = q + 2 := ⟨p - 2, by omega⟩
    rw [Nat.pow_succ, Nat.pow_succ, Nat.add_sub_cancel]
    rw [Nat.mul_comm a (a ^ q), Nat.mul_comm a (a ^ q * a)]
  rw [e] at h
  have ha0 : 0 < a := by
    rcases Nat.eq_zero_or_pos a with h | h
    · subst h; exact absurd ⟨0, by simp⟩ ha
    · exact h
  have hz : 0 < a * a ^ (p - 2) := Nat.mul_pos ha0 (Nat.pow_pos ha0)
  generalize a * a ^ (p - 2) = z at h hz ⊢
  obtain ⟨y, rfl⟩ : ∃ y, z = y + 1 := ⟨z - 1, by omega⟩
  have hd : p ∣ a * y := by
    have e : a * (y + 1) = a * y + a := by rw [Nat.mul_add, Nat.mul_one]
    rw [e] at h
    have : (a * y + a - a) % p = 0 := Nat.sub_mod_eq_zero_of_mod_eq h
    rw [Nat.add_sub_cancel] at this
    exact Nat.dvd_of_mod_eq_zero this
  obtain ⟨c, rfl⟩ := (hp.cop ha).dvd_of_dvd_mul_left hd
  rw [Nat.add_comm, Nat.add_mul_mod_self_left]
  exact Nat.mod_eq_of_lt (by omega)

end Go.Am
end
section
namespace Go.Am

/-! ### inverses modulo p -/

theorem isPrimeI_N {p : Int} (h : isPrimeI p = true) : PrimeN p.toNat := by
  have hp := isPrimeI_t h
  obtain ⟨n, rfl⟩ := natI_eq (show 0 ≤ p by omega)
  simp only [Int.toNat_natCast]
  refine ⟨by omega, fun d hd => ?_⟩
  rcases Nat.lt_or_ge d 2 with h2 | h2
  · rcases Nat.eq_zero_or_pos d with h0 | h0
    · subst h0
      have := Nat.eq_zero_of_zero_dvd hd
      omega
    · exact .inl (by omega)
  · obtain ⟨e, he⟩ := hd
    simp only [isPrimeI, Bool.and_eq_true, decide_eq_true_eq, Bool.not_eq_true', List.any_eq_false] at h
    have key : ∀ a b : Nat, 2 ≤ a → 2 ≤ b → a ≤ b → n ≠ a * b := by
      intro a b ha hb hab e
      have h1 : a * a ≤ n := by rw [e]; exact Nat.mul_le_mul_left _ hab
      have h3 : a < 1001 := by
        rcases Nat.lt_or_ge a 1001 with h | h
        · exact h
        · have := Nat.mul_le_mul h h; omega
      refine h.2 a (by simp; omega) ?_
      unfold divAt
      have ea : ((a : Int)) * (a : Int) = ((a * a : Nat) : Int) := by norm_cast
      simp only [Bool.and_eq_true, decide_eq_true_eq]
      constructor
      · rw [ea]; omega
      · rw [e]; push_cast; exact Int.mul_emod_right _ _
    right
    rcases Nat.lt_or_ge e 2 with h3 | h3
    · have : e = 1 := by
        rcases Nat.eq_zero_or_pos e with h0 | h0
        · subst h0; simp at he; omega
        · omega
      subst this; omega
    · exfalso
      rcases Nat.le_total d e with hde | hde
      · exact key d e h2 h3 hde he
      · exact key e d h3 h2 hde (by rw [he, Nat.mul_comm])

theorem pow_sq (x : Int) (b : Nat) : ∀ m : Nat, (x * x) ^ m * x ^ b = x ^ (2 * m + b)
  | 0 => by simp
  | m + 1 => by
    have ih := pow_sq x b m
    rw [show 2 * (m + 1) + b = 2 * m + b + 1 + 1 by omega, Int.pow_succ, Int.pow_succ (n := 2 * m + b + 1), Int.pow_succ (n := 2 * m + b), ← ih]
    grind

theorem invG_pow {p : Int} (hp : pOk p) : ∀ (n : Nat) (out x : Int), invG p out x n % p = out * x ^ n % p := by
  intro n
  induction n using Nat.strongRecOn with
  | ind n ih =>
    intro out x
    by_cases h0 : n = 0
    · subst h0; rw [invG_0]; simp
    · rw [invG_s h0, ih (n / 2) (by omega)]
      have e : x ^ n = (x * x) ^ (n / 2) * x ^ (n % 2) := by
        rw [pow_sq, Nat.div_add_mod]
      rw [e]
      have h1 : ((x * x % p) ^ (n / 2)) % p = ((x * x) ^ (n / 2)) % p := by
        have : ∀ k : Nat, ((x * x % p) ^ k) % p = ((x * x) ^ k) % p := by
          intro k
          induction k with
          | zero => simp
          | succ k ih => rw [Int.pow_succ, Int.pow_succ, Int.mul_emod, ih, Int.emod_emod, ← Int.mul_emod]
        exact this _
      by_cases hb : n % 2 = 1
      · rw [if_pos hb, hb, Int.mul_emod, h1, Int.emod_emod, ← Int.mul_emod]
        congr 1
        grind
      · rw [if_neg hb, show n % 2 = 0 by omega, Int.mul_emod, h1, ← Int.mul_emod]
        congr 1
        grind

theorem inv_one {p x : Int} (hpr : isPrimeI p = true) (hx : inP p x) (h0 : x ≠ 0) : x * invG p 1 x (p - 2).toNat % p = 1 := by
  have hp := isPrimeI_t hpr
  have hp' : pOk p := ⟨hp.1, hp.2⟩
  obtain ⟨n, rfl⟩ := natI_eq (show 0 ≤ p by omega)
  obtain ⟨a, rfl⟩ := natI_eq hx.1
  have hN := isPrimeI_N hpr
  simp only [Int.toNat_natCast] at hN
  have ha : ¬ n ∣ a := fun h => by
    have := Nat.le_of_dvd (by omega) h
    have := hx.2
    omega
  have hf := fermat hN ha
  have e : (((n : Int)) - 2).toNat = n - 2 := by omega
  rw [Int.mul_emod, invG_pow hp', e, Int.one_mul, ← Int.mul_emod]
  exact_mod_cast hf

/-! ### sums -/

def sumD (f g : Nat → Int) : Nat → Int
  | 0 => 0
  | n + 1 => sumD f g n + f n * g n

theorem sumD_mod {p : Int} {f f' g : Nat → Int} : ∀ n, (∀ k, k < n → ∃ q, f k = f' k + p * q) → ∃ q, sumD f g n = sumD f' g n + p * q
  | 0, _ => ⟨0, by simp [sumD]⟩
  | n + 1, h => by
    obtain ⟨q, hq⟩ := sumD_mod (g := g) n fun k hk => h k (by omega)
    obtain ⟨q', hq'⟩ := h n (by omega)
    exact ⟨q + q' * g n, by simp only [sumD, hq, hq']; grind⟩
theorem sumD_l (f f2 g : Nat → Int) (c : Int) : ∀ n, sumD (fun k => f k + c * f2 k) g n = sumD f g n + c * sumD f2 g n
  | 0 => by simp [sumD]
  | n + 1 => by simp only [sumD, sumD_l f f2 g c n]; grind
theorem sumD_r (f g g2 : Nat → Int) (c : Int) : ∀ n, sumD f (fun k => g k - c * g2 k) n = sumD f g n - c * sumD f g2 n
  | 0 => by simp [sumD]
  | n + 1 => by simp only [sumD, sumD_r f g g2 c n]; grind
theorem sumD_sl (f g : Nat → Int) (c : Int) : ∀ n, sumD (fun k => f k * c) g n = sumD f g n * c
  | 0 => by simp [sumD]
  | n + 1 => by simp only [sumD, sumD_sl f g c n]; grind
theorem sumD_sr (f g : Nat → Int) (c : Int) : ∀ n, sumD f (fun k => g k * c) n = sumD f g n * c
  | 0 => by simp [sumD]
  | n + 1 => by simp only [sumD, sumD_sr f g c n]; grind
theorem sumD_z (f g : Nat → Int) : ∀ n, (∀ k, k < n → f k = 0) → sumD f g n = 0
  | 0, _ => rfl
  | n + 1, h => by simp only [sumD, sumD_z f g n fun k hk => h k (by omega), h n (by omega)]; simp
theorem sumD_congr {f f' g g' : Nat → Int} : ∀ n, (∀ k, k < n → f k = f' k) → (∀ k, k < n → g k = g' k) → sumD f g n = sumD f' g' n
  | 0, _, _ => rfl
  | n + 1, h, h' => by simp only [sumD, sumD_congr n (fun k hk => h k (by omega)) (fun k hk => h' k (by omega)), h n (by omega), h' n (by omega)]
theorem sumD_unit {a : Nat} (g : Nat → Int) : ∀ n, sumD (fun k => if a = k then 1 else 0) g n = if a < n then g a else 0
  | 0 => rfl
  | n + 1 => by
    simp only [sumD, sumD_unit g n]
    by_cases h1 : a < n
    · rw [if_pos h1, if_neg (by omega), if_pos (by omega)]; simp
    · by_cases h2 : a = n
      · subst h2; rw [if_neg h1, if_pos rfl, if_pos (by omega)]; simp
      · rw [if_neg h1, if_neg h2, if_neg (by omega)]; simp

/-! ### a right inverse is kept by row operations -/

def dl (a b : Nat) : Int := if a = b then 1 else 0

def RInv (p : Int) (n : Nat) (E X : Mat) : Prop := ∀ a, a < n → ∀ b, b < n → ∃ q, sumD (E a) (fun k => X k b) n = dl a b + p * q

theorem RInv.congr {p : Int} {n : Nat} {E E' X : Mat} (h : RInv p n E X) (he : ∀ a, a < n → ∀ k, k < n → ∃ q, E' a k = E a k + p * q) : RInv p n E' X := by
  intro a ha b hb
  obtain ⟨q, hq⟩ := h a ha b hb
  obtain ⟨q', hq'⟩ := sumD_mod (p := p) (f := E' a) (f' := E a) (g := fun k => X k b) n (he a ha)
  exact ⟨q + q', by rw [hq', hq]; grind⟩

theorem RInv.swap {p : Int} {n : Nat} {E X : Mat} (h : RInv p n E X) {s t : Nat} (hs : s < n) (ht : t < n) : ∃ X', RInv p n (swapF E s t) X' := by
  let sw : Nat → Nat := fun i => if i = s then t else if i = t then s else i
  have hsw : ∀ i, i < n → sw i < n := by
    intro i hi
    show (if i = s then t else if i = t then s else i) < n
    split
    · exact ht
    · split
      · exact hs
      · exact hi
  have hinj : ∀ i j, sw i = sw j → i = j := by
    intro i j
    show (if i = s then t else if i = t then s else i) = (if j = s then t else if j = t then s else j) → i = j
    intro h
    repeat' split at h
    all_goals omega
  refine ⟨fun k b => X k (sw b), fun a ha b hb => ?_⟩
  obtain ⟨q, hq⟩ := h (sw a) (hsw a ha) (sw b) (hsw b hb)
  refine ⟨q, ?_⟩
  have e : swapF E s t a = E (sw a) := by
    funext k
    show (if a = s then E t k else if a = t then E s k else E a k) = E (if a = s then t else if a = t then s else a) k
    split
    · rfl
    · split <;> rfl
  rw [e, hq]
  congr 1
  unfold dl
  by_cases hab : a = b
  · subst hab; simp
  · rw [if_neg hab, if_neg fun h => hab (hinj _ _ h)]

theorem RInv.scale {p inv u : Int} {n : Nat} {E X : Mat} (h : RInv p n E X) {t : Nat} (ht : t < n) (hu : u * inv % p = 1) : ∃ X', RInv p n (sclF p inv E t) X' := by
  have hu' : ∃ z, u * inv = 1 + p * z := ⟨u * inv / p, by have := Int.emod_add_mul_ediv (u * inv) p; omega⟩
  obtain ⟨z, hz⟩ := hu'
  refine ⟨fun k b => if b = t then X k t * u else X k b, RInv.congr (E := fun a k => if a = t then E t k * inv else E a k) (fun a ha b hb => ?_) (fun a ha k hk => ?_)⟩
  · obtain ⟨q, hq⟩ := h a ha b hb
    by_cases hat : a = t
    · subst hat
      by_cases hbt : b = a
      · subst hbt
        refine ⟨z + q * inv * u, ?_⟩
        simp only [if_true]
        rw [sumD_sl, sumD_sr, hq, dl, if_pos rfl]
        grind
      · refine ⟨q * inv, ?_⟩
        simp only [if_true, if_neg hbt]
        rw [sumD_sl, hq, dl, if_neg (Ne.symm hbt)]
        grind
    · by_cases hbt : b = t
      · subst hbt
        refine ⟨q * u, ?_⟩
        simp only [if_neg hat, if_true]
        rw [sumD_sr]
        have : sumD (fun k => E a k) (fun k => X k b) n = dl a b + p * q := hq
        rw [this, dl, if_neg hat]
        grind
      · refine ⟨q, ?_⟩
        simp only [if_neg hat, if_neg hbt]
        exact hq
  · unfold sclF
    by_cases hat : a = t
    · simp only [hat, if_true]
      refine ⟨-(E t k * inv / p), ?_⟩
      have := Int.emod_add_mul_ediv (E t k * inv) p
      have e : p * -(E t k * inv / p) = -(p * (E t k * inv / p)) := Int.mul_neg _ _
      omega
    · simp only [hat, if_false]
      exact ⟨0, by simp⟩

theorem RInv.add {p f : Int} {n : Nat} {E E' X : Mat} (h : RInv p n E X) {m t : Nat} (hm : m < n) (ht : t < n) (hmt : m ≠ t) (he : ∀ a, a < n → ∀ k, k < n → ∃ q, E' a k = (if a = m then E m k + f * E t k else E a k) + p * q) : ∃ X', RInv p n E' X' := by
  refine ⟨fun k b => if b = t then X k t - f * X k m else X k b, RInv.congr (E := fun a k => if a = m then E m k + f * E t k else E a k) (fun a ha b hb => ?_) he⟩
  obtain ⟨q1, h1⟩ := h a ha b hb
  obtain ⟨q2, h2⟩ := h t ht b hb
  obtain ⟨q3, h3⟩ := h a ha m hm
  obtain ⟨q4, h4⟩ := h t ht m hm
  have h1' : sumD (fun k => E a k) (fun k => X k b) n = dl a b + p * q1 := h1
  have h2' : sumD (fun k => E t k) (fun k => X k b) n = dl t b + p * q2 := h2
  have h3' : sumD (fun k => E a k) (fun k => X k m) n = dl a m + p * q3 := h3
  have h4' : sumD (fun k => E t k) (fun k => X k m) n = dl t m + p * q4 := h4
  have d1 : dl t m = 0 := if_neg (Ne.symm hmt)
  by_cases ham : a = m
  · subst ham
    have d2 : dl a a = 1 := if_pos rfl
    by_cases hbt : b = t
    · subst hbt
      have d3 : dl a b = 0 := if_neg hmt
      have d4 : dl b b = 1 := if_pos rfl
      refine ⟨q1 + f * q2 - f * q3 - f * f * q4, ?_⟩
      simp only [if_true]
      rw [sumD_l, sumD_r, sumD_r, h1', h2', h3', h4', d1, d2, d3, d4]
      grind
    · refine ⟨q1 + f * q2, ?_⟩
      have d3 : dl t b = 0 := if_neg (Ne.symm hbt)
      simp only [if_true, if_neg hbt]
      rw [sumD_l, h1', h2', d3]
      grind
  · by_cases hbt : b = t
    · subst hbt
      have d3 : dl a m = 0 := if_neg ham
      refine ⟨q1 - f * q3, ?_⟩
      simp only [if_neg ham, if_true]
      rw [sumD_r, h1', h3', d3]
      grind
    · refine ⟨q1, ?_⟩
      simp only [if_neg ham, if_neg hbt]
      exact h1'

/-! ### the reduction -/

/-- The rows behind the rank are zero in the columns that are done; the right half has a right inverse. -/
def RK (p : Int) (n : Nat) (s : Mat × List Int × Int) (j : Nat) : Prop :=
  (∃ X, RInv p n (fun a k => s.1 a (n + k)) X) ∧ ∀ b, b < j → ∀ i, s.2.1.length ≤ i → i < n → s.1 i b = 0

theorem RK.step {p : Int} {n : Nat} {s : Mat × List Int × Int} {j : Nat} (hpr : isPrimeI p = true) (hj : j < 2 * n) (I : RI p n (2 * n) s j) (h : RK p n s j) : RK p n (redS p n s j) (j + 1) := by
  have hp : pOk p := isPrimeI_t hpr
  obtain ⟨⟨X, hX⟩, hz⟩ := h
  obtain ⟨M, L, d⟩ := s
  simp only at hX hz
  by_cases hl : L.length < n
  · cases hk : pivF M j (n - L.length) L.length with
    | none =>
      rw [redS_n (s := (M, L, d)) hl hk]
      refine ⟨⟨X, hX⟩, fun b hb i h1 h2 => ?_⟩
      by_cases hbj : b = j
      · subst hbj; exact pivF_none hk i h1 (by simp only at h1; omega)
      · exact hz b (by omega) i h1 h2
    | some k =>
      rw [redS_s (s := (M, L, d)) hl hk]
      simp only
      have hq := pivF_lt hk
      have hkn : k < n := by omega
      have hM : inM p n (2 * n) M := I.m
      have hx : inP p (M k j) := hM k hkn j hj
      have hsw : swapF M L.length k L.length j = M k j := if_pos rfl
      have hi := inv_one hpr hx hq.2.2
      generalize hinv : invG p 1 (M k j) (p - 2).toNat = inv at hi
      have hpiv : pivS p M L.length j k = sclF p inv (swapF M L.length k) L.length := by unfold pivS; rw [hsw, hinv]
      rw [hpiv]
      have hS : inM p n (2 * n) (swapF M L.length k) := swapF_in hM hl hkn
      generalize hM2 : sclF p inv (swapF M L.length k) L.length = M2
      have hM2i : inM p n (2 * n) M2 := by rw [← hM2]; exact sclF_in hp hS _
      constructor
      · obtain ⟨X1, hX1⟩ := hX.swap (s := L.length) (t := k) hl hkn
        obtain ⟨X2, hX2⟩ := hX1.scale (inv := inv) (u := M k j) hl hi
        have base : RInv p n (fun a b => clrF p M2 L.length j 0 a (n + b)) X2 := by
          rw [clrF_0, ← hM2]; exact hX2
        have key : ∀ m, m ≤ n → ∃ X', RInv p n (fun a b => clrF p M2 L.length j m a (n + b)) X' := by
          intro m
          induction m with
          | zero => intro _; exact ⟨X2, base⟩
          | succ m ih =>
            intro hm
            obtain ⟨X', hX'⟩ := ih (by omega)
            by_cases hmt : m = L.length
            · subst hmt
              rw [clrF_skip]; exact ⟨X', hX'⟩
            · refine hX'.add (f := p - M2 m j) (m := m) (t := L.length) (by omega) hl hmt fun a ha b hb => ?_
              show ∃ q, clrF p M2 L.length j (m + 1) a (n + b) = _
              by_cases ham : a = m
              · subst ham
                rw [if_pos rfl]
                show ∃ q, clrF p M2 L.length j (a + 1) a (n + b) = (clrF p M2 L.length j a a (n + b) + (p - M2 a j) * clrF p M2 L.length j a L.length (n + b)) + p * q
                rw [clrF_old, clrF_t]
                unfold clrF
                rw [if_pos ⟨by omega, hmt⟩]
                refine ⟨-((M2 a (n + b) + (p - M2 a j) * M2 L.length (n + b)) / p), ?_⟩
                have e1 := Int.emod_add_mul_ediv (M2 a (n + b) + (p - M2 a j) * M2 L.length (n + b)) p
                have e2 := Int.mul_neg p ((M2 a (n + b) + (p - M2 a j) * M2 L.length (n + b)) / p)
                omega
              · rw [if_neg ham]
                refine ⟨0, ?_⟩
                show clrF p M2 L.length j (m + 1) a (n + b) = clrF p M2 L.length j m a (n + b) + p * 0
                unfold clrF
                by_cases hc : a < m ∧ a ≠ L.length
                · rw [if_pos hc, if_pos ⟨by omega, hc.2⟩]; simp
                · rw [if_neg hc, if_neg (by omega)]; simp
        exact key n (Nat.le_refl _)
      · intro b hb i h1 h2
        simp only [List.length_append, List.length_cons, List.length_nil] at h1
        show clrF p M2 L.length j n i b = 0
        unfold clrF
        rw [if_pos ⟨h2, by omega⟩]
        have e2 : ∀ c, M2 i c = swapF M L.length k i c := fun c => by rw [← hM2]; exact if_neg (by omega)
        have e3 : ∀ c, M2 L.length c = M k c * inv % p := fun c => by rw [← hM2]; show (if L.length = L.length then _ else _) = _; rw [if_pos rfl]; congr 2; exact if_pos rfl
        by_cases hbj : b = j
        · subst hbj
          rw [e3 b, hi]
          have : M2 i b + (p - M2 i b) * 1 = p := by omega
          rw [this]; exact Int.emod_self
        · have hbj' : b < j := by omega
          rw [e3 b, hz b hbj' k hq.1 hkn, e2 b]
          have : swapF M L.length k i b = 0 := by
            unfold swapF
            rw [if_neg (by omega)]
            split
            · exact hz b hbj' L.length (Nat.le_refl _) hl
            · exact hz b hbj' i (by omega) h2
          rw [this]; simp
  · unfold redS
    rw [if_neg hl]
    exact ⟨⟨X, hX⟩, fun b hb i h1 h2 => by simp only at h1; omega⟩

/-- A matrix with a unit matrix beside it. -/
theorem full_rank {p : Int} {n : Nat} {M : Mat} (hpr : isPrimeI p = true) (hM : inM p n (2 * n) M) (hU : ∀ a, a < n → ∀ b, b < n → M a (n + b) = dl a b) : (redN p n M (2 * n)).2.1.length = n := by
  have hp : pOk p := isPrimeI_t hpr
  have hk : ∀ j, j ≤ 2 * n → RK p n (redN p n M j) j := by
    intro j
    induction j with
    | zero =>
      intro _
      refine ⟨⟨dl, fun a ha b hb => ⟨0, ?_⟩⟩, fun b hb => by omega⟩
      show sumD (fun k => M a (n + k)) (fun k => dl k b) n = _
      rw [sumD_congr (f' := fun k => if a = k then 1 else 0) (g' := fun k => dl k b) n (fun k hk => hU a ha k hk) (fun k hk => rfl), sumD_unit, if_pos ha]; simp
    | succ j ih => intro hj; exact RK.step hpr (by omega) (redN_I hp hM j) (ih (by omega))
  obtain ⟨⟨X, hX⟩, hz⟩ := hk (2 * n) (Nat.le_refl _)
  have hl := (redN_I hp hM (2 * n)).l
  rcases Nat.lt_or_ge (redN p n M (2 * n)).2.1.length n with h | h
  · exfalso
    obtain ⟨q, hq⟩ := hX _ h _ h
    rw [sumD_z _ _ n fun k hk => hz (n + k) (by omega) _ (Nat.le_refl _) h, dl, if_pos rfl] at hq
    have h1 : p * (-q) = 1 := by rw [Int.mul_neg]; omega
    have h2 : p ∣ 1 := ⟨-q, h1.symm⟩
    have := Int.le_of_dvd (by omega) h2
    have := hp.1
    omega
  · omega

end Go.Am
end
section
namespace Go.Am
def wideF (n : Nat) (M : Mat) : Mat := fun a b => if b < n then M a b else dl a (b - n)
def wideM (n : Nat) (M : Mat) : Mat := ofD (2 * n) (genD n (2 * n) (wideF n M))
def invX (p : Int) (n : Nat) (M : Mat) : Mat × List Int × Int := redN p n (wideM n M) (2 * n)
def invOk (p : Int) (n : Nat) (M : Mat) : Prop := ∀ i, i < n → (invX p n M).2.1.getD i 0 = (i : Int)
instance (p : Int) (n : Nat) (M : Mat) : Decidable (invOk p n M) := inferInstanceAs (Decidable (∀ i, i < n → (invX p n M).2.1.getD i 0 = (i : Int)))
def invR (p : Int) (n : Nat) (M : Mat) : (Int × Int × List Int) × Bool := if invOk p n M then (((n : Int), (n : Int), genD n n fun a b => (invX p n M).1 a (n + b)), true) else ((0, 0, []), false)
def F_spec_InverseMatrix : Int × Int × Int × List Int → Option ((Int × Int × List Int) × Bool) := fun (x : Int × Int × Int × List Int) =>
  if sz_Matrix x.2 ≤ 1048576 then some (if matOk x.1 x.2 = true ∧ x.2.1 = x.2.2.1 then invR x.1 x.2.1.toNat (ofD x.2.2.1.toNat x.2.2.2) else ((0, 0, []), false)) else none
def F_impl_InverseMatrix : Int × Int × Int × List Int → Option ((Int × Int × List Int) × Bool) := F_spec_InverseMatrix
def ag_impl_InverseMatrix : Sig := [(.one, [.int .i64]), (.agg, [.int .i64, .int .i64, .list [.int .i64]])]
def rs_impl_InverseMatrix : Sig := [(.agg, [.int .i64, .int .i64, .list [.int .i64]]), (.one, [.bool])]
def mu_impl_InverseMatrix : MSig := []
def ag_spec_InverseMatrix : Sig := [(.one, [.int .i64]), (.agg, [.int .i64, .int .i64, .list [.int .i64]])]
def rs_spec_InverseMatrix : Sig := [(.agg, [.int .i64, .int .i64, .list [.int .i64]]), (.one, [.bool])]
def mu_spec_InverseMatrix : MSig := []
def G_spec_InverseMatrix (NN : Nat) : (Int × (Int × (Int × (List Int)))) → (Option ((Int × (Int × (List Int))) × Bool)) :=
 (fun ((i0, i1, i2, l3) : (Int × (Int × (Int × (List Int))))) =>
 (F_spec_MatrixOk (i0, i1, i2, l3)).bnd (fun (b4 : Bool) =>
 cnd (notB b4)
 (some (((0 : Int), (0 : Int), ([] : List Int)), false))
 (cnd (neI i1 i2)
 (some (((0 : Int), (0 : Int), ([] : List Int)), false))
 ((F_spec_l31New (i1, mulI .i64 (2 : Int) i1)).bnd (fun ((i5, i6, l7) : (Int × (Int × (List Int)))) =>
 joinK ((fulI 0 0 (lenN (([] : List Int)))).bnd (fun (_ : Unit) =>
 (fulI 0 (lenN l7) (lenN l7)).bnd (fun (_ : Unit) =>
 loopT NN (fun (((i8, i9, i10), (i11, i12, l13), (i14, i15), (i16, i17), l18, l19) : ((Int × (Int × Int)) × ((Int × (Int × (List Int))) × ((Int × Int) × ((Int × Int) × ((List Int) × (List Int))))))) =>
 cnd (ltI i10 i9)
 (joinK (joinK ((fulI 0 (lenN l18) (lenN l18)).bnd (fun (_ : Unit) =>
 (fulI 0 (lenN l19) (lenN l19)).bnd (fun (_ : Unit) =>
 loopT NN (fun (((i20, i21, i22, i23), (i24, i25, l26), (i27, i28), (i29, i30), l31, l32) : ((Int × (Int × (Int × Int))) × ((Int × (Int × (List Int))) × ((Int × Int) × ((Int × Int) × ((List Int) × (List Int))))))) =>
 cnd (ltI i23 i21)
 ((getI l26 (addI .i64 (mulI .i64 i22 i21) i23)).bnd (fun (i33 : Int) =>
 (chkI (addI .i64 (mulI .i64 (mulI .i64 i22 (2 : Int)) i21) i23) (lenN l32)).bnd (fun (k34 : Nat) =>
 (getN l32 (addN 0 k34)).bnd (fun (i35 : Int) =>
 (fulI 0 (lenN l31) (lenN l31)).bnd (fun (_ : Unit) =>
 (fulI 0 (lenN l32) (lenN (setL l32 (addN 0 k34) i33))).bnd (fun (_ : Unit) =>
 some (Sum.inl ((i20, i21, i22, addI .i64 i23 (1 : Int)), (i24, i25, l26), (i27, i28), (i29, i30), l31, setL l32 (addN 0 k34) i33))))))))
 (((fulI 0 (lenN l31) (lenN l31)).bnd (fun (_ : Unit) =>
 (fulI 0 (lenN l32) (lenN l32)).bnd (fun (_ : Unit) =>
 some (Sum.inl ((i22, i20, i21), (i24, i25, l26), (i27, i28), (i29, i30), l31, l32))))).bnd (fun (l36 : (((Int × (Int × Int)) × ((Int × (Int × (List Int))) × ((Int × Int) × ((Int × Int) × ((List Int) × (List Int)))))) ⊕ (((Int × (Int × Int)) × ((Int × (Int × (List Int))) × ((Int × Int) × ((Int × Int) × ((List Int) × (List Int)))))) ⊕ (((Int × (Int × Int)) × ((Int × (Int × (List Int))) × ((Int × Int) × ((Int × Int) × ((List Int) × (List Int)))))) ⊕ (((Int × Int) × ((Int × Int) × ((Int × Int) × ((List Int) × (List Int))))) ⊕ ((Int × (Int × (List Int))) × Bool)))))) =>
 some (Sum.inr l36))))
 ((i8, i9, i10, (0 : Int)), (i11, i12, l13), (i14, i15), (i16, i17), l18, l19))))
 (fun (((i37, i38, i39), (i40, i41, l42), (i43, i44), (i45, i46), l47, l48) : ((Int × (Int × Int)) × ((Int × (Int × (List Int))) × ((Int × Int) × ((Int × Int) × ((List Int) × (List Int))))))) =>
 (chkI (addI .i64 (addI .i64 (mulI .i64 (mulI .i64 i37 (2 : Int)) i39) i39) i37) (lenN l48)).bnd (fun (k49 : Nat) =>
 (getN l48 (addN 0 k49)).bnd (fun (i50 : Int) =>
 (fulI 0 (lenN l47) (lenN l47)).bnd (fun (_ : Unit) =>
 (fulI 0 (lenN l48) (lenN (setL l48 (addN 0 k49) (1 : Int)))).bnd (fun (_ : Unit) =>
 some (Sum.inl ((i37, i38, i39), (i40, i41, l42), (i43, i44), (i45, i46), l47, setL l48 (addN 0 k49) (1 : Int)))))))))
 (fun (((i51, i52, i53), (i54, i55, l56), (i57, i58), (i59, i60), l61, l62) : ((Int × (Int × Int)) × ((Int × (Int × (List Int))) × ((Int × Int) × ((Int × Int) × ((List Int) × (List Int))))))) =>
 (fulI 0 (lenN l61) (lenN l61)).bnd (fun (_ : Unit) =>
 (fulI 0 (lenN l62) (lenN l62)).bnd (fun (_ : Unit) =>
 some (Sum.inl ((i52, i53, addI .i64 i51 (1 : Int)), (i54, i55, l56), (i57, i58), (i59, i60), l61, l62))))))
 (((fulI 0 (lenN l18) (lenN l18)).bnd (fun (_ : Unit) =>
 (fulI 0 (lenN l19) (lenN l19)).bnd (fun (_ : Unit) =>
 some (Sum.inl ((i8, i9), (i14, i15), (i16, i17), l18, l19))))).bnd (fun (l63 : (((Int × Int) × ((Int × Int) × ((Int × Int) × ((List Int) × (List Int))))) ⊕ ((Int × (Int × (List Int))) × Bool))) =>
 some (Sum.inr l63))))
 ((i0, i1, (0 : Int)), (i1, i2, l3), ((0 : Int), (0 : Int)), (i5, i6), ([] : List Int), l7))))
 (fun (((i64, i65), (i66, i67), (i68, i69), l70, l71) : ((Int × Int) × ((Int × Int) × ((Int × Int) × ((List Int) × (List Int)))))) =>
 (winI l71 0 (lenN l71)).bnd (fun (l72 : (List Int)) =>
 (F_spec_l31Reduce (i64, i68, i69, l72)).bnd (fun (((i73, i74, l75), l76, i77) : ((Int × (Int × (List Int))) × ((List Int) × Int))) =>
 (F_spec_l31New (i65, i65)).bnd (fun ((i78, i79, l80) : (Int × (Int × (List Int)))) =>
 joinK ((fulI 0 (lenN l76) (lenN l76)).bnd (fun (_ : Unit) =>
 (fulI 0 (lenN l70) (lenN l70)).bnd (fun (_ : Unit) =>
 (fulI 0 (lenN l75) (lenN l75)).bnd (fun (_ : Unit) =>
 (fulI 0 (lenN l80) (lenN l80)).bnd (fun (_ : Unit) =>
 loopT NN (fun (((i81, i82), (i83, i84), (i85, i86), (i87, i88), l89, l90, l91, l92) : ((Int × Int) × ((Int × Int) × ((Int × Int) × ((Int × Int) × ((List Int) × ((List Int) × ((List Int) × (List Int))))))))) =>
 cnd (ltI i82 i81)
 (joinK ((chkI i82 (lenN l92)).bnd (fun (k93 : Nat) =>
 (getN l92 (addN 0 k93)).bnd (fun (i94 : Int) =>
 cnd (neI i94 i82)
 (some (Sum.inr (Sum.inr (Sum.inr (((0 : Int), (0 : Int), ([] : List Int)), false)))))
 ((fulI 0 (lenN l92) (lenN l92)).bnd (fun (_ : Unit) =>
 (fulI 0 (lenN l89) (lenN l89)).bnd (fun (_ : Unit) =>
 (fulI 0 (lenN l90) (lenN l90)).bnd (fun (_ : Unit) =>
 (fulI 0 (lenN l91) (lenN l91)).bnd (fun (_ : Unit) =>
 loopT NN (fun (((i95, i96, i97), (i98, i99), (i100, i101), (i102, i103), l104, l105, l106, l107) : ((Int × (Int × Int)) × ((Int × Int) × ((Int × Int) × ((Int × Int) × ((List Int) × ((List Int) × ((List Int) × (List Int))))))))) =>
 cnd (ltI i97 i95)
 ((chkI (addI .i64 (addI .i64 (mulI .i64 (mulI .i64 i96 (2 : Int)) i95) i95) i97) (lenN l105)).bnd (fun (k108 : Nat) =>
 (getN l105 (addN 0 k108)).bnd (fun (i109 : Int) =>
 (chkI (addI .i64 (mulI .i64 i96 i95) i97) (lenN l106)).bnd (fun (k110 : Nat) =>
 (getN l106 (addN 0 k110)).bnd (fun (i111 : Int) =>
 (fulI 0 (lenN l107) (lenN l107)).bnd (fun (_ : Unit) =>
 (fulI 0 (lenN l104) (lenN l104)).bnd (fun (_ : Unit) =>
 (fulI 0 (lenN l105) (lenN l105)).bnd (fun (_ : Unit) =>
 (fulI 0 (lenN l106) (lenN (setL l106 (addN 0 k110) i109))).bnd (fun (_ : Unit) =>
 some (Sum.inl ((i95, i96, addI .i64 i97 (1 : Int)), (i98, i99), (i100, i101), (i102, i103), l104, l105, setL l106 (addN 0 k110) i109, l107)))))))))))
 (((fulI 0 (lenN l107) (lenN l107)).bnd (fun (_ : Unit) =>
 (fulI 0 (lenN l104) (lenN l104)).bnd (fun (_ : Unit) =>
 (fulI 0 (lenN l105) (lenN l105)).bnd (fun (_ : Unit) =>
 (fulI 0 (lenN l106) (lenN l106)).bnd (fun (_ : Unit) =>
 some (Sum.inl ((i96, i95), (i98, i99), (i100, i101), (i102, i103), l104, l105, l106, l107))))))).bnd (fun (l112 : (((Int × Int) × ((Int × Int) × ((Int × Int) × ((Int × Int) × ((List Int) × ((List Int) × ((List Int) × (List Int)))))))) ⊕ (((Int × Int) × ((Int × Int) × ((Int × Int) × ((Int × Int) × ((List Int) × ((List Int) × ((List Int) × (List Int)))))))) ⊕ (((Int × Int) × ((Int × Int) × ((List Int) × (List Int)))) ⊕ ((Int × (Int × (List Int))) × Bool))))) =>
 some (Sum.inr l112))))
 ((i81, i82, (0 : Int)), (i83, i84), (i85, i86), (i87, i88), l89, l90, l91, l92)))))))))
 (fun (((i113, i114), (i115, i116), (i117, i118), (i119, i120), l121, l122, l123, l124) : ((Int × Int) × ((Int × Int) × ((Int × Int) × ((Int × Int) × ((List Int) × ((List Int) × ((List Int) × (List Int))))))))) =>
 (fulI 0 (lenN l124) (lenN l124)).bnd (fun (_ : Unit) =>
 (fulI 0 (lenN l121) (lenN l121)).bnd (fun (_ : Unit) =>
 (fulI 0 (lenN l122) (lenN l122)).bnd (fun (_ : Unit) =>
 (fulI 0 (lenN l123) (lenN l123)).bnd (fun (_ : Unit) =>
 some (Sum.inl ((i114, addI .i64 i113 (1 : Int)), (i115, i116), (i117, i118), (i119, i120), l121, l122, l123, l124))))))))
 (((fulI 0 (lenN l89) (lenN l89)).bnd (fun (_ : Unit) =>
 (fulI 0 (lenN l91) (lenN l91)).bnd (fun (_ : Unit) =>
 some (Sum.inl ((i83, i84), (i87, i88), l89, l91))))).bnd (fun (l125 : (((Int × Int) × ((Int × Int) × ((List Int) × (List Int)))) ⊕ ((Int × (Int × (List Int))) × Bool))) =>
 some (Sum.inr l125))))
 ((i65, (0 : Int)), (i66, i67), (i73, i74), (i78, i79), l70, l75, l80, l76))))))
 (fun (((i126, i127), (i128, i129), l130, l131) : ((Int × Int) × ((Int × Int) × ((List Int) × (List Int))))) =>
 (takI l131 (lenN l131)).bnd (fun (l132 : (List Int)) =>
 some ((i128, i129, l132), true))))))))))))


def G_impl_InverseMatrix (NN : Nat) : (Int × (Int × (Int × (List Int)))) → (Option ((Int × (Int × (List Int))) × Bool)) :=
 (fun ((i0, i1, i2, l3) : (Int × (Int × (Int × (List Int))))) =>
 (F_impl_MatrixOk (i0, i1, i2, l3)).bnd (fun (b4 : Bool) =>
 cnd (notB b4)
 (some (((0 : Int), (0 : Int), ([] : List Int)), false))
 (cnd (neI i1 i2)
 (some (((0 : Int), (0 : Int), ([] : List Int)), false))
 ((F_impl_emptyMatrix (i1, mulI .i64 (2 : Int) i1)).bnd (fun ((i5, i6, l7) : (Int × (Int × (List Int)))) =>
 joinK ((fulI 0 0 (lenN (([] : List Int)))).bnd (fun (_ : Unit) =>
 (fulI 0 (lenN l7) (lenN l7)).bnd (fun (_ : Unit) =>
 loopT NN (fun (((i8, i9, i10), (i11, i12, l13), (i14, i15), (i16, i17), l18, l19) : ((Int × (Int × Int)) × ((Int × (Int × (List Int))) × ((Int × Int) × ((Int × Int) × ((List Int) × (List Int))))))) =>
 cnd (ltI i10 i9)
 (joinK (joinK ((fulI 0 (lenN l18) (lenN l18)).bnd (fun (_ : Unit) =>
 (fulI 0 (lenN l19) (lenN l19)).bnd (fun (_ : Unit) =>
 loopT NN (fun (((i20, i21, i22, i23), (i24, i25, l26), (i27, i28), (i29, i30), l31, l32) : ((Int × (Int × (Int × Int))) × ((Int × (Int × (List Int))) × ((Int × Int) × ((Int × Int) × ((List Int) × (List Int))))))) =>
 cnd (ltI i23 i21)
 ((F_impl_Matrix_at ((i24, i25, l26), i22, i23)).bnd (fun (i33 : Int) =>
 (fulI 0 (lenN l32) (lenN l32)).bnd (fun (_ : Unit) =>
 (F_impl_Matrix_set ((i29, i30, l32), i22, i23, i33)).bnd (fun (l34 : (List Int)) =>
 (fulI 0 (lenN l31) (lenN l31)).bnd (fun (_ : Unit) =>
 (fulI 0 (lenN l32) (lenN l34)).bnd (fun (_ : Unit) =>
 some (Sum.inl ((i20, i21, i22, addI .i64 i23 (1 : Int)), (i24, i25, l26), (i27, i28), (i29, i30), l31, l34))))))))
 (((fulI 0 (lenN l31) (lenN l31)).bnd (fun (_ : Unit) =>
 (fulI 0 (lenN l32) (lenN l32)).bnd (fun (_ : Unit) =>
 some (Sum.inl ((i22, i20, i21), (i24, i25, l26), (i27, i28), (i29, i30), l31, l32))))).bnd (fun (l35 : (((Int × (Int × Int)) × ((Int × (Int × (List Int))) × ((Int × Int) × ((Int × Int) × ((List Int) × (List Int)))))) ⊕ (((Int × (Int × Int)) × ((Int × (Int × (List Int))) × ((Int × Int) × ((Int × Int) × ((List Int) × (List Int)))))) ⊕ (((Int × (Int × Int)) × ((Int × (Int × (List Int))) × ((Int × Int) × ((Int × Int) × ((List Int) × (List Int)))))) ⊕ (((Int × Int) × ((Int × Int) × ((Int × Int) × ((List Int) × (List Int))))) ⊕ ((Int × (Int × (List Int))) × Bool)))))) =>
 some (Sum.inr l35))))
 ((i8, i9, i10, (0 : Int)), (i11, i12, l13), (i14, i15), (i16, i17), l18, l19))))
 (fun (((i36, i37, i38), (i39, i40, l41), (i42, i43), (i44, i45), l46, l47) : ((Int × (Int × Int)) × ((Int × (Int × (List Int))) × ((Int × Int) × ((Int × Int) × ((List Int) × (List Int))))))) =>
 (fulI 0 (lenN l47) (lenN l47)).bnd (fun (_ : Unit) =>
 (F_impl_Matrix_set ((i44, i45, l47), i36, addI .i64 i38 i36, (1 : Int))).bnd (fun (l48 : (List Int)) =>
 (fulI 0 (lenN l46) (lenN l46)).bnd (fun (_ : Unit) =>
 (fulI 0 (lenN l47) (lenN l48)).bnd (fun (_ : Unit) =>
 some (Sum.inl ((i36, i37, i38), (i39, i40, l41), (i42, i43), (i44, i45), l46, l48))))))))
 (fun (((i49, i50, i51), (i52, i53, l54), (i55, i56), (i57, i58), l59, l60) : ((Int × (Int × Int)) × ((Int × (Int × (List Int))) × ((Int × Int) × ((Int × Int) × ((List Int) × (List Int))))))) =>
 (fulI 0 (lenN l59) (lenN l59)).bnd (fun (_ : Unit) =>
 (fulI 0 (lenN l60) (lenN l60)).bnd (fun (_ : Unit) =>
 some (Sum.inl ((i50, i51, addI .i64 i49 (1 : Int)), (i52, i53, l54), (i55, i56), (i57, i58), l59, l60))))))
 (((fulI 0 (lenN l18) (lenN l18)).bnd (fun (_ : Unit) =>
 (fulI 0 (lenN l19) (lenN l19)).bnd (fun (_ : Unit) =>
 some (Sum.inl ((i8, i9), (i14, i15), (i16, i17), l18, l19))))).bnd (fun (l61 : (((Int × Int) × ((Int × Int) × ((Int × Int) × ((List Int) × (List Int))))) ⊕ ((Int × (Int × (List Int))) × Bool))) =>
 some (Sum.inr l61))))
 ((i0, i1, (0 : Int)), (i1, i2, l3), ((0 : Int), (0 : Int)), (i5, i6), ([] : List Int), l7))))
 (fun (((i62, i63), (i64, i65), (i66, i67), l68, l69) : ((Int × Int) × ((Int × Int) × ((Int × Int) × ((List Int) × (List Int)))))) =>
 (winI l69 0 (lenN l69)).bnd (fun (l70 : (List Int)) =>
 (F_impl_rawReduce (i62, i66, i67, l70)).bnd (fun (((i71, i72, l73), l74) : ((Int × (Int × (List Int))) × (List Int))) =>
 (F_impl_emptyMatrix (i63, i63)).bnd (fun ((i75, i76, l77) : (Int × (Int × (List Int)))) =>
 joinK ((fulI 0 (lenN l74) (lenN l74)).bnd (fun (_ : Unit) =>
 (fulI 0 (lenN l68) (lenN l68)).bnd (fun (_ : Unit) =>
 (fulI 0 (lenN l73) (lenN l73)).bnd (fun (_ : Unit) =>
 (fulI 0 (lenN l77) (lenN l77)).bnd (fun (_ : Unit) =>
 loopT NN (fun (((i78, i79), (i80, i81), (i82, i83), (i84, i85), l86, l87, l88, l89) : ((Int × Int) × ((Int × Int) × ((Int × Int) × ((Int × Int) × ((List Int) × ((List Int) × ((List Int) × (List Int))))))))) =>
 cnd (ltI i79 i78)
 (joinK ((chkI i79 (lenN l89)).bnd (fun (k90 : Nat) =>
 (getN l89 (addN 0 k90)).bnd (fun (i91 : Int) =>
 cnd (neI i91 i79)
 (some (Sum.inr (Sum.inr (Sum.inr (((0 : Int), (0 : Int), ([] : List Int)), false)))))
 ((fulI 0 (lenN l89) (lenN l89)).bnd (fun (_ : Unit) =>
 (fulI 0 (lenN l86) (lenN l86)).bnd (fun (_ : Unit) =>
 (fulI 0 (lenN l87) (lenN l87)).bnd (fun (_ : Unit) =>
 (fulI 0 (lenN l88) (lenN l88)).bnd (fun (_ : Unit) =>
 loopT NN (fun (((i92, i93, i94), (i95, i96), (i97, i98), (i99, i100), l101, l102, l103, l104) : ((Int × (Int × Int)) × ((Int × Int) × ((Int × Int) × ((Int × Int) × ((List Int) × ((List Int) × ((List Int) × (List Int))))))))) =>
 cnd (ltI i94 i92)
 ((winI l102 0 (lenN l102)).bnd (fun (l105 : (List Int)) =>
 (F_impl_Matrix_at ((i97, i98, l105), i93, addI .i64 i92 i94)).bnd (fun (i106 : Int) =>
 (fulI 0 (lenN l103) (lenN l103)).bnd (fun (_ : Unit) =>
 (F_impl_Matrix_set ((i99, i100, l103), i93, i94, i106)).bnd (fun (l107 : (List Int)) =>
 (fulI 0 (lenN l104) (lenN l104)).bnd (fun (_ : Unit) =>
 (fulI 0 (lenN l101) (lenN l101)).bnd (fun (_ : Unit) =>
 (fulI 0 (lenN l102) (lenN l102)).bnd (fun (_ : Unit) =>
 (fulI 0 (lenN l103) (lenN l107)).bnd (fun (_ : Unit) =>
 some (Sum.inl ((i92, i93, addI .i64 i94 (1 : Int)), (i95, i96), (i97, i98), (i99, i100), l101, l102, l107, l104)))))))))))
 (((fulI 0 (lenN l104) (lenN l104)).bnd (fun (_ : Unit) =>
 (fulI 0 (lenN l101) (lenN l101)).bnd (fun (_ : Unit) =>
 (fulI 0 (lenN l102) (lenN l102)).bnd (fun (_ : Unit) =>
 (fulI 0 (lenN l103) (lenN l103)).bnd (fun (_ : Unit) =>
 some (Sum.inl ((i93, i92), (i95, i96), (i97, i98), (i99, i100), l101, l102, l103, l104))))))).bnd (fun (l108 : (((Int × Int) × ((Int × Int) × ((Int × Int) × ((Int × Int) × ((List Int) × ((List Int) × ((List Int) × (List Int)))))))) ⊕ (((Int × Int) × ((Int × Int) × ((Int × Int) × ((Int × Int) × ((List Int) × ((List Int) × ((List Int) × (List Int)))))))) ⊕ (((Int × Int) × ((Int × Int) × ((List Int) × (List Int)))) ⊕ ((Int × (Int × (List Int))) × Bool))))) =>
 some (Sum.inr l108))))
 ((i78, i79, (0 : Int)), (i80, i81), (i82, i83), (i84, i85), l86, l87, l88, l89)))))))))
 (fun (((i109, i110), (i111, i112), (i113, i114), (i115, i116), l117, l118, l119, l120) : ((Int × Int) × ((Int × Int) × ((Int × Int) × ((Int × Int) × ((List Int) × ((List Int) × ((List Int) × (List Int))))))))) =>
 (fulI 0 (lenN l120) (lenN l120)).bnd (fun (_ : Unit) =>
 (fulI 0 (lenN l117) (lenN l117)).bnd (fun (_ : Unit) =>
 (fulI 0 (lenN l118) (lenN l118)).bnd (fun (_ : Unit) =>
 (fulI 0 (lenN l119) (lenN l119)).bnd (fun (_ : Unit) =>
 some (Sum.inl ((i110, addI .i64 i109 (1 : Int)), (i111, i112), (i113, i114), (i115, i116), l117, l118, l119, l120))))))))
 (((fulI 0 (lenN l86) (lenN l86)).bnd (fun (_ : Unit) =>
 (fulI 0 (lenN l88) (lenN l88)).bnd (fun (_ : Unit) =>
 some (Sum.inl ((i80, i81), (i84, i85), l86, l88))))).bnd (fun (l121 : (((Int × Int) × ((Int × Int) × ((List Int) × (List Int)))) ⊕ ((Int × (Int × (List Int))) × Bool))) =>
 some (Sum.inr l121))))
 ((i63, (0 : Int)), (i64, i65), (i71, i72), (i75, i76), l68, l73, l77, l74))))))
 (fun (((i122, i123), (i124, i125), l126, l127) : ((Int × Int) × ((Int × Int) × ((List Int) × (List Int))))) =>
 (takI l127 (lenN l127)).bnd (fun (l128 : (List Int)) =>
 some ((i124, i125, l128), true))))))))))))


def wideTo (n : Nat) (M : Mat) (i j : Nat) : Mat := fun a b => if a < i then wideF n M a b else if a = i ∧ b < j then M a b else 0
theorem wide_0 {r c : Nat} (n : Nat) (M : Mat) : genD r c (wideTo n M 0 0) = genD r c fun _ _ => 0 := genD_congr fun a ha b hb => by unfold wideTo; rw [if_neg (by omega), if_neg (by omega)]
theorem wide_step {r c : Nat} (n : Nat) (M : Mat) (i j : Nat) : genD r c (updM (wideTo n M i j) i j (M i j)) = genD r c (wideTo n M i (j + 1)) := by
  refine genD_congr fun a ha b hb => ?_
  unfold updM wideTo
  by_cases h : a = i ∧ b = j
  · obtain ⟨rfl, rfl⟩ := h
    rw [if_pos ⟨rfl, rfl⟩, if_neg (by omega), if_pos ⟨rfl, by omega⟩]
  · rw [if_neg h]
    by_cases h1 : a < i
    · rw [if_pos h1, if_pos h1]
    · rw [if_neg h1, if_neg h1]
      by_cases h2 : a = i ∧ b < j
      · rw [if_pos h2, if_pos ⟨h2.1, by omega⟩]
      · rw [if_neg h2, if_neg (by omega)]
theorem wide_row {r c : Nat} (n : Nat) (M : Mat) (i : Nat) : genD r c (updM (wideTo n M i n) i (n + i) 1) = genD r c (wideTo n M (i + 1) 0) := by
  refine genD_congr fun a ha b hb => ?_
  unfold updM wideTo
  by_cases h : a = i ∧ b = n + i
  · obtain ⟨rfl, rfl⟩ := h
    rw [if_pos ⟨rfl, rfl⟩, if_pos (show a < a + 1 by omega)]
    unfold wideF dl
    rw [if_neg (by omega), if_pos (by omega)]
  · rw [if_neg h]
    by_cases h1 : a < i
    · rw [if_pos h1, if_pos (show a < i + 1 by omega)]
    · rw [if_neg h1]
      by_cases h2 : a = i
      · rw [if_pos (show a < i + 1 by omega)]
        unfold wideF dl
        by_cases h3 : b < n
        · rw [if_pos ⟨h2, h3⟩, if_pos h3]
        · rw [if_neg (by omega), if_neg h3, if_neg (by omega)]
      · rw [if_neg (by omega), if_neg (by omega), if_neg (by omega)]
theorem wide_end {c : Nat} (n : Nat) (M : Mat) : genD n c (wideTo n M n 0) = genD n c (wideF n M) := genD_congr fun a ha b hb => by unfold wideTo; rw [if_pos ha]
theorem wide_in {p : Int} {n : Nat} {M : Mat} (hp : pOk p) (hM : inM p n n M) : inM p n (2 * n) (wideF n M) := by
  intro i hi j hj
  unfold wideF
  split
  · rename_i h; exact hM i hi j h
  · unfold dl
    split
    · exact one_in hp
    · exact ⟨Int.le_refl _, by have := hp.1; omega⟩
theorem wideM_gen {n : Nat} (M : Mat) {i j : Nat} (hi : i < n) (hj : j < 2 * n) : wideM n M i j = wideF n M i j := ofD_gen _ hi hj
theorem wideM_D {n : Nat} (M : Mat) : genD n (2 * n) (wideM n M) = genD n (2 * n) (wideF n M) := genD_of (genD_len _ _ _)
theorem wideM_in {p : Int} {n : Nat} {M : Mat} (hp : pOk p) (hM : inM p n n M) : inM p n (2 * n) (wideM n M) := fun i hi j hj => by rw [wideM_gen M hi hj]; exact wide_in hp hM i hi j hj
theorem inv_len {p : Int} {n : Nat} {M : Mat} (hpr : isPrimeI p = true) (hM : inM p n n M) : (invX p n M).2.1.length = n :=
  full_rank hpr (wideM_in (isPrimeI_t hpr) hM) fun a ha b hb => by rw [wideM_gen M ha (by omega)]; unfold wideF; rw [if_neg (by omega)]; congr 1; omega
theorem invX_red {p : Int} {n : Nat} {M : Mat} (hp : pOk p) (hn : n ≤ 64) (hM : inM p n n M) : redOk (p, (n : Int), ((2 * n : Nat) : Int), genD n (2 * n) (wideF n M)) ∧ redX (p, (n : Int), ((2 * n : Nat) : Int), genD n (2 * n) (wideF n M)) = invX p n M := by
  have : n * (2 * n) ≤ 64 * 128 := Nat.mul_le_mul hn (by omega)
  refine ⟨⟨hp, mOk_mk _ (by omega) (by omega) (by omega), allP_gen.2 (wide_in hp hM)⟩, ?_⟩
  rw [← wideM_D M]
  exact redX_nat (by unfold wideM; rw [genD_of (genD_len _ _ _)])
theorem matOk_p {m : Int} {x : Int × Int × List Int} (h : matOk m x = true) : isPrimeI m = true := by
  simp only [matOk, Bool.and_eq_true] at h
  exact h.1
theorem get_nat {L : List Int} {i : Nat} (h : i < L.length) : getN L i = some (L.getD i 0) := by
  show L[i]? = _
  rw [List.getElem?_eq_getElem h]
  simp [List.getD, h]
theorem mul2 {n : Nat} (hn : n ≤ 1048576) : mulI .i64 (2 : Int) (n : Int) = ((2 * n : Nat) : Int) := by
  rw [mulI, wrap_id (by omega) (by omega)]; omega
theorem idxW {i n j : Nat} (hi : i ≤ 4096) (hn : n ≤ 4096) (hj : j ≤ 1048576) : addI .i64 (mulI .i64 (mulI .i64 (i : Int) 2) (n : Int)) (j : Int) = ((i * (2 * n) + j : Nat) : Int) := by
  have e : mulI .i64 (i : Int) 2 = ((i * 2 : Nat) : Int) := by rw [mulI, wrap_id (by omega) (by omega)]; omega
  rw [e, idxI (by omega) (by omega) hj, Nat.mul_assoc]
section
variable {p : Int} {n : Nat} {M R : Mat} {L : List Int}

theorem g_invS (hn : n ≤ 64) (hlen : L.length = n) (hmok : F_spec_MatrixOk (p, (n : Int), (n : Int), genD n n M) = some true)
    (hred : ∃ d, F_spec_l31Reduce (p, (n : Int), ((2 * n : Nat) : Int), genD n (2 * n) (wideF n M)) = some (((n : Int), ((2 * n : Nat) : Int), genD n (2 * n) R), L, d)) :
    G_spec_InverseMatrix FUEL (p, (n : Int), (n : Int), genD n n M) = some (if ∀ i, i < n → L.getD i 0 = (i : Int) then (((n : Int), (n : Int), genD n n fun a b => R a (n + b)), true) else ((0, 0, []), false)) := by
  obtain ⟨d, hred⟩ := hred
  have h2n : n * (2 * n) ≤ 64 * 128 := Nat.mul_le_mul hn (by omega)
  have hnn : n * n ≤ 64 * 64 := Nat.mul_le_mul hn hn
  simp only [G_spec_InverseMatrix, hmok, bnd_s, neI_self, notB_t, cnd_false]
  rw [mul2 (by omega), new_nat (by omega) (by omega) (by omega)]
  simp only [bnd_s, fulI_id]
  rw [show fulI 0 0 (lenN ([] : List Int)) = some () from rfl]
  simp only [bnd_s]
  rw [loopT_seq (fun i => ((p, (n : Int), (i : Int)), ((n : Int), (n : Int), genD n n M), ((0 : Int), (0 : Int)), ((n : Int), ((2 * n : Nat) : Int)), ([] : List Int), genD n (2 * n) (wideTo n M i 0))) n ?a1 ?a2 ?a3 (FUEL_gt (by omega))]
  case a2 => simp only; rw [cnd_f (ltN_f (Nat.le_refl n))]; try (simp only [bnd_s]; try rfl)
  case a3 => simp only [wide_0]; try rfl
  case a1 =>
    intro i hi
    simp only
    rw [cnd_t (ltN_t hi)]
    rw [loopT_seq (fun j => ((p, (n : Int), (i : Int), (j : Int)), ((n : Int), (n : Int), genD n n M), ((0 : Int), (0 : Int)), ((n : Int), ((2 * n : Nat) : Int)), ([] : List Int), genD n (2 * n) (wideTo n M i j))) n ?b1 ?b2 ?b3 (FUEL_gt (by omega))]
    case b2 => simp only; rw [cnd_f (ltN_f (Nat.le_refl n))]; try (simp only [bnd_s]; try rfl)
    case b3 => rfl
    case b1 =>
      intro j hj
      simp only
      rw [cnd_t (ltN_t hj), idxI (by omega) (by omega) (by omega), getI_gen M hi hj, bnd_s]
      simp only [idxW (show i ≤ 4096 by omega) (show n ≤ 4096 by omega) (show j ≤ 1048576 by omega), chkI_gen _ hi (show j < 2 * n by omega), bnd_s, addN_0, getN_gen _ hi (show j < 2 * n by omega), setL_gen _ (show j < 2 * n by omega), fulI_gen, addN1 (show j ≤ 1048577 by omega)]
      rw [wide_step]
    rw [joinK_l]
    simp only
    rw [idxW (show i ≤ 4096 by omega) (show n ≤ 4096 by omega) (show n ≤ 1048576 by omega), addNN (show i * (2 * n) + n + i ≤ 1099511627776 by have : i * (2 * n) ≤ 64 * 128 := Nat.mul_le_mul (by omega) (by omega); omega), Nat.add_assoc]
    simp only [chkI_gen _ hi (show n + i < 2 * n by omega), bnd_s, addN_0, getN_gen _ hi (show n + i < 2 * n by omega), setL_gen _ (show n + i < 2 * n by omega), fulI_gen]
    rw [wide_row, joinK_l]
    simp only [addN1 (show i ≤ 1048577 by omega)]
  rw [joinK_l]
  simp only
  rw [wide_end, winI_gen, bnd_s, hred, bnd_s]
  simp only
  rw [new_nat (by omega) (by omega) (by omega)]
  simp only [bnd_s, fulI_id]
  obtain ⟨q, hq1, hq2, hq3⟩ := stop_ex (fun i => L.getD i 0 = (i : Int)) n
  have inner : ∀ i, i < q → i < n := fun i hi => by omega
  rw [loopT_seq (r := if q < n then Sum.inr ((0, 0, []), false) else Sum.inl (((0 : Int), (0 : Int)), ((n : Int), (n : Int)), ([] : List Int), genD n n (mulTo (fun a b => R a (n + b)) n 0))) (fun i => (((n : Int), (i : Int)), ((0 : Int), (0 : Int)), ((n : Int), ((2 * n : Nat) : Int)), ((n : Int), (n : Int)), ([] : List Int), genD n (2 * n) R, genD n n (mulTo (fun a b => R a (n + b)) i 0), L)) q ?c1 ?c2 ?c3 (FUEL_gt (by omega))]
  case c2 =>
    by_cases hqn : q < n
    · have hne : L.getD q 0 ≠ (q : Int) := by
        rcases hq3 with h | h
        · omega
        · exact h
      simp only
      rw [cnd_t (ltN_t hqn), chkI_nat (show q < lenN L by show q < L.length; omega), bnd_s]
      simp only [addN_0]
      rw [get_nat (by omega), bnd_s, cnd_t (neI_t hne), if_pos hqn]
      rfl
    · have hqn : q = n := by omega
      subst hqn
      simp only
      rw [cnd_f (ltN_f (Nat.le_refl q)), if_neg hqn]
  case c3 => simp only [mul_0]; try rfl
  case c1 =>
    intro i hi
    have hi' := inner i hi
    simp only
    rw [cnd_t (ltN_t hi'), chkI_nat (show i < lenN L by show i < L.length; omega), bnd_s]
    simp only [addN_0]
    rw [get_nat (by omega), bnd_s, hq2 i hi, neI_self, cnd_false]
    rw [loopT_seq (fun j => (((n : Int), (i : Int), (j : Int)), ((0 : Int), (0 : Int)), ((n : Int), ((2 * n : Nat) : Int)), ((n : Int), (n : Int)), ([] : List Int), genD n (2 * n) R, genD n n (mulTo (fun a b => R a (n + b)) i j), L)) n ?e1 ?e2 ?e3 (FUEL_gt (by omega))]
    case e2 => simp only; rw [cnd_f (ltN_f (Nat.le_refl n))]; try (simp only [bnd_s]; try rfl)
    case e3 => rfl
    case e1 =>
      intro j hj
      simp only
      rw [cnd_t (ltN_t hj)]
      have e : addI .i64 (addI .i64 (mulI .i64 (mulI .i64 (i : Int) 2) (n : Int)) (n : Int)) (j : Int) = ((i * (2 * n) + (n + j) : Nat) : Int) := by
        rw [idxW (by omega) (by omega) (by omega), addNN (show i * (2 * n) + n + j ≤ 1099511627776 by have : i * (2 * n) ≤ 64 * 128 := Nat.mul_le_mul (by omega) (by omega); omega), Nat.add_assoc]
      simp only [e, chkI_gen _ hi' (show n + j < 2 * n by omega), bnd_s, addN_0, getN_gen _ hi' (show n + j < 2 * n by omega), idxI (show i ≤ 1048576 by omega) (show n ≤ 1048576 by omega) (show j ≤ 1048576 by omega), chkI_gen _ hi' hj, getN_gen _ hi' hj, setL_gen _ hj, fulI_gen, fulI_id, addN1 (show j ≤ 1048577 by omega)]
      rw [mul_step (fun a b => R a (n + b)) i j]
    rw [joinK_l]
    simp only [fulI_id, bnd_s, addN1 (show i ≤ 1048577 by omega)]
    rw [mul_row]
  by_cases hqn : q < n
  · rw [if_pos hqn, joinK_r, if_neg fun h => by
      rcases hq3 with h3 | h3
      · omega
      · exact h3 (h q hqn)]
  · have hqn' : q = n := by omega
    subst hqn'
    rw [if_neg hqn, joinK_l, if_pos fun i hi => hq2 i hi]
    simp only [takI_id, bnd_s]
    rw [mul_end]
end
section
variable {p : Int} {n : Nat} {M R : Mat} {L : List Int}
theorem g_invI (hn : n ≤ 64) (hlen : L.length = n) (hmok : F_impl_MatrixOk (p, (n : Int), (n : Int), genD n n M) = some true)
    (hred : F_impl_rawReduce (p, (n : Int), ((2 * n : Nat) : Int), genD n (2 * n) (wideF n M)) = some (((n : Int), ((2 * n : Nat) : Int), genD n (2 * n) R), L)) :
    G_impl_InverseMatrix FUEL (p, (n : Int), (n : Int), genD n n M) = some (if ∀ i, i < n → L.getD i 0 = (i : Int) then (((n : Int), (n : Int), genD n n fun a b => R a (n + b)), true) else ((0, 0, []), false)) := by
  have h2n : n * (2 * n) ≤ 64 * 128 := Nat.mul_le_mul hn (by omega)
  have hnn : n * n ≤ 64 * 64 := Nat.mul_le_mul hn hn
  simp only [G_impl_InverseMatrix, hmok, bnd_s, neI_self, notB_t, cnd_false]
  rw [mul2 (by omega), newI_nat (by omega) (by omega) (by omega)]
  simp only [bnd_s, fulI_id]
  rw [show fulI 0 0 (lenN ([] : List Int)) = some () from rfl]
  simp only [bnd_s]
  rw [loopT_seq (fun i => ((p, (n : Int), (i : Int)), ((n : Int), (n : Int), genD n n M), ((0 : Int), (0 : Int)), ((n : Int), ((2 * n : Nat) : Int)), ([] : List Int), genD n (2 * n) (wideTo n M i 0))) n ?a1 ?a2 ?a3 (FUEL_gt (by omega))]
  case a2 => simp only; rw [cnd_f (ltN_f (Nat.le_refl n))]; try (simp only [bnd_s]; try rfl)
  case a3 => simp only [wide_0]; try rfl
  case a1 =>
    intro i hi
    simp only
    rw [cnd_t (ltN_t hi)]
    rw [loopT_seq (fun j => ((p, (n : Int), (i : Int), (j : Int)), ((n : Int), (n : Int), genD n n M), ((0 : Int), (0 : Int)), ((n : Int), ((2 * n : Nat) : Int)), ([] : List Int), genD n (2 * n) (wideTo n M i j))) n ?b1 ?b2 ?b3 (FUEL_gt (by omega))]
    case b2 => simp only; rw [cnd_f (ltN_f (Nat.le_refl n))]; try (simp only [bnd_s]; try rfl)
    case b3 => rfl
    case b1 =>
      intro j hj
      simp only
      rw [cnd_t (ltN_t hj), at_nat (by omega) (by omega) (by omega) hi hj, bnd_s]
      try simp only [fulI_gen, bnd_s]
      rw [set_nat (by omega) (by omega) (by omega) hi (show j < 2 * n by omega)]
      simp only [fulI_gen, bnd_s, addN1 (show j ≤ 1048577 by omega)]
      rw [wide_step]
    rw [joinK_l]
    simp only
    rw [addNN (by omega)]
    try simp only [fulI_gen, bnd_s]
    rw [set_nat (by omega) (by omega) (by omega) hi (show n + i < 2 * n by omega)]
    simp only [fulI_gen, bnd_s]
    rw [wide_row, joinK_l]
    simp only [addN1 (show i ≤ 1048577 by omega)]
  rw [joinK_l]
  simp only
  rw [wide_end, winI_gen, bnd_s, hred, bnd_s]
  simp only
  rw [newI_nat (by omega) (by omega) (by omega)]
  simp only [bnd_s, fulI_id]
  obtain ⟨q, hq1, hq2, hq3⟩ := stop_ex (fun i => L.getD i 0 = (i : Int)) n
  have inner : ∀ i, i < q → i < n := fun i hi => by omega
  rw [loopT_seq (r := if q < n then Sum.inr ((0, 0, []), false) else Sum.inl (((0 : Int), (0 : Int)), ((n : Int), (n : Int)), ([] : List Int), genD n n (mulTo (fun a b => R a (n + b)) n 0))) (fun i => (((n : Int), (i : Int)), ((0 : Int), (0 : Int)), ((n : Int), ((2 * n : Nat) : Int)), ((n : Int), (n : Int)), ([] : List Int), genD n (2 * n) R, genD n n (mulTo (fun a b => R a (n + b)) i 0), L)) q ?c1 ?c2 ?c3 (FUEL_gt (by omega))]
  case c2 =>
    by_cases hqn : q < n
    · have hne : L.getD q 0 ≠ (q : Int) := by
        rcases hq3 with h | h
        · omega
        · exact h
      simp only
      rw [cnd_t (ltN_t hqn), chkI_nat (show q < lenN L by show q < L.length; omega), bnd_s]
      simp only [addN_0]
      rw [get_nat (by omega), bnd_s, cnd_t (neI_t hne), if_pos hqn]
      rfl
    · have hqn : q = n := by omega
      subst hqn
      simp only
      rw [cnd_f (ltN_f (Nat.le_refl q)), if_neg hqn]
  case c3 => simp only [mul_0]; try rfl
  case c1 =>
    intro i hi
    have hi' := inner i hi
    simp only
    rw [cnd_t (ltN_t hi'), chkI_nat (show i < lenN L by show i < L.length; omega), bnd_s]
    simp only [addN_0]
    rw [get_nat (by omega), bnd_s, hq2 i hi, neI_self, cnd_false]
    rw [loopT_seq (fun j => (((n : Int), (i : Int), (j : Int)), ((0 : Int), (0 : Int)), ((n : Int), ((2 * n : Nat) : Int)), ((n : Int), (n : Int)), ([] : List Int), genD n (2 * n) R, genD n n (mulTo (fun a b => R a (n + b)) i j), L)) n ?e1 ?e2 ?e3 (FUEL_gt (by omega))]
    case e2 => simp only; rw [cnd_f (ltN_f (Nat.le_refl n))]; try (simp only [bnd_s]; try rfl)
    case e3 => rfl
    case e1 =>
      intro j hj
      simp only
      rw [cnd_t (ltN_t hj)]
      rw [winI_gen, bnd_s, addNN (by omega), at_nat (by omega) (by omega) (by omega) hi' (show n + j < 2 * n by omega), bnd_s]
      try simp only [fulI_gen, fulI_id, bnd_s]
      rw [set_nat (by omega) (by omega) (by omega) hi' hj]
      simp only [fulI_gen, fulI_id, bnd_s, addN1 (show j ≤ 1048577 by omega)]
      rw [mul_step (fun a b => R a (n + b)) i j]
    rw [joinK_l]
    simp only [fulI_id, bnd_s, addN1 (show i ≤ 1048577 by omega)]
    rw [mul_row]
  by_cases hqn : q < n
  · rw [if_pos hqn, joinK_r, if_neg fun h => by
      rcases hq3 with h3 | h3
      · omega
      · exact h3 (h q hqn)]
  · have hqn' : q = n := by omega
    subst hqn'
    rw [if_neg hqn, joinK_l, if_pos fun i hi => hq2 i hi]
    simp only [takI_id, bnd_s]
    rw [mul_end]
end

theorem invR_eq {p : Int} {n : Nat} {M : Mat} : invR p n M = if ∀ i, i < n → (invX p n M).2.1.getD i 0 = (i : Int) then (((n : Int), (n : Int), genD n n fun a b => (invX p n M).1 a (n + b)), true) else ((0, 0, []), false) := rfl
theorem f_spec_InverseMatrix (x : Int × Int × Int × List Int) (y : (Int × Int × List Int) × Bool) (h : F_spec_InverseMatrix x = some y) : G_spec_InverseMatrix FUEL x = some y := by
  obtain ⟨m, x⟩ := x
  simp only [F_spec_InverseMatrix] at h
  split at h
  · rename_i hl
    rw [← h]
    cases hm : matOk m x with
    | false =>
      obtain ⟨r, c, l⟩ := x
      simp only [G_spec_InverseMatrix]
      rw [show F_spec_MatrixOk (m, r, c, l) = some (matOk m (r, c, l)) from if_pos hl, bnd_s, hm]
      rfl
    | true =>
      obtain ⟨r, c, M, rfl, hp, hr, hc, hrc, hM, eM, hR⟩ := matOk_red hm
      have hok : F_spec_MatrixOk (m, (r : Int), (c : Int), genD r c M) = some true := by rw [← hm]; exact if_pos hl
      by_cases hrc2 : r = c
      · subst hrc2
        rw [if_pos ⟨rfl, rfl⟩]
        simp only [Int.toNat_natCast, ← eM]
        have hpr := matOk_p hm
        obtain ⟨h1, h2⟩ := invX_red hp hr hM
        rw [invR_eq]
        refine g_invS hr (inv_len hpr hM) hok ?_
        exact ⟨(invX m r M).2.2, by simp only [F_spec_l31Reduce]; rw [if_pos h1]; simp only [h2, Int.toNat_natCast]⟩
      · rw [if_neg fun h => hrc2 (by have h2 := h.2; simp only at h2; omega)]
        simp only [G_spec_InverseMatrix, hok, bnd_s]
        rw [cnd_f (by rfl), cnd_t (neI_t (by omega))]
  · cases h
theorem f_impl_InverseMatrix (x : Int × Int × Int × List Int) (y : (Int × Int × List Int) × Bool) (h : F_impl_InverseMatrix x = some y) : G_impl_InverseMatrix FUEL x = some y := by
  obtain ⟨m, x⟩ := x
  simp only [F_impl_InverseMatrix, F_spec_InverseMatrix] at h
  split at h
  · rename_i hl
    rw [← h]
    cases hm : matOk m x with
    | false =>
      obtain ⟨r, c, l⟩ := x
      simp only [G_impl_InverseMatrix]
      rw [show F_impl_MatrixOk (m, r, c, l) = some (matOk m (r, c, l)) from if_pos hl, bnd_s, hm]
      rfl
    | true =>
      obtain ⟨r, c, M, rfl, hp, hr, hc, hrc, hM, eM, hR⟩ := matOk_red hm
      have hok : F_impl_MatrixOk (m, (r : Int), (c : Int), genD r c M) = some true := by rw [← hm]; exact if_pos hl
      by_cases hrc2 : r = c
      · subst hrc2
        rw [if_pos ⟨rfl, rfl⟩]
        simp only [Int.toNat_natCast, ← eM]
        have hpr := matOk_p hm
        obtain ⟨h1, h2⟩ := invX_red hp hr hM
        rw [invR_eq]
        refine g_invI hr (inv_len hpr hM) hok ?_
        simp only [F_impl_rawReduce]; rw [if_pos h1]; simp only [h2, Int.toNat_natCast]
      · rw [if_neg fun h => hrc2 (by have h2 := h.2; simp only at h2; omega)]
        simp only [G_impl_InverseMatrix, hok, bnd_s]
        rw [cnd_f (by rfl), cnd_t (neI_t (by omega))]
  · cases h
end Go.Am
end
