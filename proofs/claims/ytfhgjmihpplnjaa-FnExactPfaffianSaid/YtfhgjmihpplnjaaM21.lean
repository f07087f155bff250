/- Mx, M1, M4, M6, M7, M8, M9, Fm, M14, M15, M12, M20, M21: parts of the proof. No condition. -/
import Derived.Test.YtfhgjmihpplnjaaMT
set_option linter.unusedVariables false
set_option linter.unusedSimpArgs false
section
namespace Go.Am

/-! ### loops -/

/-! ### matrices -/

def genD (r c : Nat) (M : Nat → Nat → Int) : List Int := (List.range (r * c)).map fun n => M (n / c) (n % c)
def ofD (c : Nat) (l : List Int) : Nat → Nat → Int := fun i j => l.getD (i * c + j) 0
def updM (M : Nat → Nat → Int) (i j : Nat) (x : Int) : Nat → Nat → Int := fun a b => if a = i ∧ b = j then x else M a b

theorem idx_lt {r c i j : Nat} (hi : i < r) (hj : j < c) : i * c + j < r * c := by
  have : (i + 1) * c ≤ r * c := Nat.mul_le_mul_right _ hi
  rw [Nat.add_mul] at this
  omega
theorem idx_div {c i j : Nat} (hj : j < c) : (i * c + j) / c = i := by
  rw [Nat.mul_comm, Nat.mul_add_div (by omega), Nat.div_eq_of_lt hj, Nat.add_zero]
theorem idx_mod {c i j : Nat} (hj : j < c) : (i * c + j) % c = j := by
  rw [Nat.mul_comm, Nat.mul_add_mod, Nat.mod_eq_of_lt hj]
theorem genD_len (r c : Nat) (M : Nat → Nat → Int) : (genD r c M).length = r * c := by simp [genD]
theorem genD_get {r c i j : Nat} (M : Nat → Nat → Int) (hi : i < r) (hj : j < c) : (genD r c M)[i * c + j]? = some (M i j) := by
  unfold genD
  rw [List.getElem?_map, List.getElem?_range (idx_lt hi hj)]
  simp [idx_div hj, idx_mod hj]
theorem genD_congr {r c : Nat} {M M' : Nat → Nat → Int} (h : ∀ i, i < r → ∀ j, j < c → M i j = M' i j) : genD r c M = genD r c M' := by
  unfold genD
  refine List.map_congr_left fun n hn => ?_
  have hn := List.mem_range.1 hn
  have hc : 0 < c := by
    rcases Nat.eq_zero_or_pos c with h | h
    · subst h; simp at hn
    · exact h
  exact h _ ((Nat.div_lt_iff_lt_mul hc).2 hn) _ (Nat.mod_lt _ hc)
theorem genD_set {r c i j : Nat} (M : Nat → Nat → Int) (hj : j < c) (x : Int) : (genD r c M).set (i * c + j) x = genD r c (updM M i j x) := by
  apply List.ext_getElem?
  intro n
  rw [List.getElem?_set, genD_len]
  unfold genD
  simp only [List.getElem?_map]
  by_cases hn : n < r * c
  · rw [List.getElem?_range hn]
    have hc : 0 < c := by omega
    by_cases he : i * c + j = n
    · rw [if_pos he, if_pos (by omega)]
      subst he
      simp [updM, idx_div hj, idx_mod hj]
    · rw [if_neg he]
      simp only [Option.map_some, updM]
      rw [if_neg]
      rintro ⟨h1, h2⟩
      apply he
      rw [← h1, ← h2]
      have := Nat.div_add_mod n c
      rw [Nat.mul_comm] at this
      exact this
  · rw [List.getElem?_eq_none (by simp; omega)]
    by_cases he : i * c + j = n
    · rw [if_pos he, if_neg (by omega)]; rfl
    · rw [if_neg he]; rfl
theorem genD_of {r c : Nat} {l : List Int} (h : l.length = r * c) : genD r c (ofD c l) = l := by
  apply List.ext_getElem?
  intro n
  unfold genD
  simp only [List.getElem?_map]
  by_cases hn : n < r * c
  · rw [List.getElem?_range hn, List.getElem?_eq_getElem (by omega)]
    simp only [Option.map_some, ofD]
    have := Nat.div_add_mod n c
    rw [Nat.mul_comm] at this
    rw [this, List.getD_eq_getElem?_getD, List.getElem?_eq_getElem (by omega)]
    rfl
  · rw [List.getElem?_eq_none (by simp; omega), List.getElem?_eq_none (by omega)]
    rfl
theorem ofD_gen {r c i j : Nat} (M : Nat → Nat → Int) (hi : i < r) (hj : j < c) : ofD c (genD r c M) i j = M i j := by
  unfold ofD
  rw [List.getD_eq_getElem?_getD, genD_get M hi hj]
  rfl
theorem genD_rep (r c : Nat) (x : Int) : repL (r * c) x = genD r c (fun _ _ => x) := by
  unfold genD repL
  rw [List.map_const', List.length_range]
/-! ### indices as the program computes them -/

theorem idxI {i c j : Nat} (hi : i ≤ 1048576) (hc : c ≤ 1048576) (hj : j ≤ 1048576) : addI .i64 (mulI .i64 (i : Int) (c : Int)) (j : Int) = ((i * c + j : Nat) : Int) := by
  have h1 : i * c ≤ 1048576 * 1048576 := Nat.mul_le_mul hi hc
  have e : (i : Int) * (c : Int) = ((i * c : Nat) : Int) := by norm_cast
  rw [mulI, wrap_id (by omega) (by omega), addI_eq (by omega) (by omega), e]
  omega
theorem mulN {i c : Nat} (hi : i ≤ 1048576) (hc : c ≤ 1048576) : mulI .i64 (i : Int) (c : Int) = ((i * c : Nat) : Int) := by
  have h1 : i * c ≤ 1048576 * 1048576 := Nat.mul_le_mul hi hc
  have e : (i : Int) * (c : Int) = ((i * c : Nat) : Int) := by norm_cast
  rw [mulI, wrap_id (by omega) (by omega), e]
theorem getI_gen {r c i j : Nat} (M : Nat → Nat → Int) (hi : i < r) (hj : j < c) : getI (genD r c M) ((i * c + j : Nat) : Int) = some (M i j) := by rw [getI_nat, genD_get M hi hj]
theorem chkI_gen {r c i j : Nat} (M : Nat → Nat → Int) (hi : i < r) (hj : j < c) : chkI ((i * c + j : Nat) : Int) (lenN (genD r c M)) = some (i * c + j) := chkI_nat (by unfold lenN; rw [genD_len]; exact idx_lt hi hj)
theorem getN_gen {r c i j : Nat} (M : Nat → Nat → Int) (hi : i < r) (hj : j < c) : getN (genD r c M) (i * c + j) = some (M i j) := genD_get M hi hj
theorem setL_gen {r c i j : Nat} (M : Nat → Nat → Int) (hj : j < c) (x : Int) : setL (genD r c M) (i * c + j) x = genD r c (updM M i j x) := genD_set M hj x
theorem lenN_gen (r c : Nat) (M : Nat → Nat → Int) : lenN (genD r c M) = r * c := genD_len r c M
theorem fulI_gen (r c : Nat) (M M' : Nat → Nat → Int) : fulI 0 (lenN (genD r c M)) (lenN (genD r c M')) = some () := by rw [lenN_gen, lenN_gen]; exact fulI_id _
theorem samI_gen (r c : Nat) (M M' : Nat → Nat → Int) : samI (lenN (genD r c M)) (lenN (genD r c M')) = some () := by rw [lenN_gen, lenN_gen]; exact samI_ok rfl
theorem remN {a p : Int} (ha : 0 ≤ a) (hp : 0 < p) : remI a p = some (a % p) := by
  unfold remI
  rw [if_neg (by omega), Int.tmod_eq_emod_of_nonneg ha]
theorem ltN_t {i n : Nat} (h : i < n) : ltI (i : Int) (n : Int) = true := ltI_t (by omega)
theorem ltN_f {i n : Nat} (h : n ≤ i) : ltI (i : Int) (n : Int) = false := ltI_f (by omega)
theorem addN1 {i : Nat} (h : i ≤ 1048577) : addI .i64 (i : Int) 1 = ((i + 1 : Nat) : Int) := by rw [addI_eq (by omega) (by omega)]; omega

/-- Products modulo p. -/
def pOk (p : Int) : Prop := 2 ≤ p ∧ p ≤ 1000003
instance (p : Int) : Decidable (pOk p) := inferInstanceAs (Decidable (2 ≤ p ∧ p ≤ 1000003))
def inP (p x : Int) : Prop := 0 ≤ x ∧ x < p
instance (p x : Int) : Decidable (inP p x) := inferInstanceAs (Decidable (0 ≤ x ∧ x < p))

theorem emod_in {p : Int} (hp : pOk p) (a : Int) : inP p (a % p) := ⟨Int.emod_nonneg _ (by have := hp.1; omega), Int.emod_lt_of_pos _ (by have := hp.1; omega)⟩
theorem inP.le {p x : Int} (h : inP p x) : 0 ≤ x ∧ x ≤ p := ⟨h.1, Int.le_of_lt h.2⟩
theorem inP.s {p x : Int} (hp : pOk p) (h : inP p x) : 0 ≤ x ∧ x ≤ 1000003000000 := ⟨h.1, by have := h.2; have := hp.2; omega⟩
theorem prod_in {p a b : Int} (hp : pOk p) (ha : 0 ≤ a ∧ a ≤ p) (hb : 0 ≤ b ∧ b ≤ p) : 0 ≤ a * b ∧ a * b ≤ 1000006000009 := by
  refine ⟨Int.mul_nonneg ha.1 hb.1, ?_⟩
  have h1 := hp.2
  have := Int.mul_le_mul (show a ≤ 1000003 by omega) (show b ≤ 1000003 by omega) hb.1 (by omega)
  omega
theorem mulI_in {p a b : Int} (hp : pOk p) (ha : 0 ≤ a ∧ a ≤ p) (hb : 0 ≤ b ∧ b ≤ p) : mulI .i64 a b = a * b := by
  have := prod_in hp ha hb
  exact wrap_id (by omega) (by omega)
theorem macI {p s a b : Int} (hp : pOk p) (hs : 0 ≤ s ∧ s ≤ 1000003000000) (ha : 0 ≤ a ∧ a ≤ p) (hb : 0 ≤ b ∧ b ≤ p) : remI (addI .i64 s (mulI .i64 a b)) p = some ((s + a * b) % p) := by
  have h := prod_in hp ha hb
  rw [mulI_in hp ha hb, addI_eq (by omega) (by omega), remN (by omega) (by have := hp.1; omega)]
theorem mulR {p a b : Int} (hp : pOk p) (ha : 0 ≤ a ∧ a ≤ p) (hb : 0 ≤ b ∧ b ≤ p) : remI (mulI .i64 a b) p = some (a * b % p) := by
  have h := prod_in hp ha hb
  rw [mulI_in hp ha hb, remN h.1 (by have := hp.1; omega)]

/-- All of a matrix's elements are modulo p. -/
def inM (p : Int) (r c : Nat) (M : Nat → Nat → Int) : Prop := ∀ i, i < r → ∀ j, j < c → inP p (M i j)

def allP (p : Int) (l : List Int) : Prop := ∀ x ∈ l, inP p x
instance (p : Int) (l : List Int) : Decidable (allP p l) := inferInstanceAs (Decidable (∀ x ∈ l, inP p x))

theorem allP_gen {p : Int} {r c : Nat} {M : Nat → Nat → Int} : allP p (genD r c M) ↔ inM p r c M := by
  constructor
  · intro h i hi j hj
    exact h _ (List.mem_of_getElem? (genD_get M hi hj))
  · intro h x hx
    unfold genD at hx
    obtain ⟨n, hn, rfl⟩ := List.mem_map.1 hx
    have hn := List.mem_range.1 hn
    have hc : 0 < c := by
      rcases Nat.eq_zero_or_pos c with h | h
      · subst h; simp at hn
      · exact h
    exact h _ ((Nat.div_lt_iff_lt_mul hc).2 hn) _ (Nat.mod_lt _ hc)

/-- A matrix as the program has it. -/
def mOk (x : Int × Int × List Int) : Prop := (0 ≤ x.1 ∧ x.1 ≤ 4096) ∧ (0 ≤ x.2.1 ∧ x.2.1 ≤ 4096) ∧ (x.2.2.length : Int) = x.1 * x.2.1 ∧ x.2.2.length ≤ 1048576
instance (x : Int × Int × List Int) : Decidable (mOk x) := by unfold mOk; infer_instance

/-- What a matrix is. -/
theorem mOk_gen {x : Int × Int × List Int} (h : mOk x) : ∃ (r c : Nat) (M : Nat → Nat → Int), x = ((r : Int), (c : Int), genD r c M) ∧ r ≤ 4096 ∧ c ≤ 4096 ∧ r * c ≤ 1048576 := by
  obtain ⟨r, c, l⟩ := x
  obtain ⟨h1, h2, h3, h4⟩ := h
  simp only at h1 h2 h3 h4
  obtain ⟨r, rfl⟩ := natI_eq h1.1
  obtain ⟨c, rfl⟩ := natI_eq h2.1
  have e : l.length = r * c := by
    have : ((r : Int) * (c : Int)) = ((r * c : Nat) : Int) := by norm_cast
    rw [this] at h3; exact_mod_cast h3
  exact ⟨r, c, ofD c l, by rw [genD_of e], by omega, by omega, by omega⟩

theorem mOk_mk {r c : Nat} (M : Nat → Nat → Int) (hr : r ≤ 4096) (hc : c ≤ 4096) (h : r * c ≤ 1048576) : mOk ((r : Int), (c : Int), genD r c M) := by
  refine ⟨⟨by omega, by show (r : Int) ≤ 4096; omega⟩, ⟨by show (0 : Int) ≤ c; omega, by show (c : Int) ≤ 4096; omega⟩, ?_, ?_⟩
  · simp only [genD_len]; norm_cast
  · simp only [genD_len]; exact h

end Go.Am
end
section
namespace Go.Am
def F_spec_l01In : Int × Int × Int → Option Bool := fun ((a, b, c) : Int × Int × Int) => some (decide (b ≤ a ∧ a ≤ c))
def ag_spec_l01In : Sig := [(.one, [.int .i64]), (.one, [.int .i64]), (.one, [.int .i64])]
def rs_spec_l01In : Sig := [(.one, [.bool])]
def mu_spec_l01In : MSig := []
def G_spec_l01In (NN : Nat) : (Int × (Int × Int)) → (Option Bool) :=
 (fun ((i0, i1, i2) : (Int × (Int × Int))) =>
 cnd (leI i1 i0)
 (some (leI i0 i2))
 (some false))

theorem f_spec_l01In (x : Int × Int × Int) (y : Bool) (h : F_spec_l01In x = some y) : G_spec_l01In FUEL x = some y := by
  obtain ⟨a, b, c⟩ := x
  rw [← h]
  simp only [F_spec_l01In, G_spec_l01In, leI]
  by_cases hc : b ≤ a <;> simp [hc, cnd]

end Go.Am
end
section
namespace Go.Am

/-! ### primes, rows, matrices, automata -/

def divAt (n : Int) (i : Nat) : Bool := decide ((i : Int) * i ≤ n) && decide (n % (i : Int) = 0)
def isPrimeI (n : Int) : Bool := decide (2 ≤ n ∧ n ≤ 1000003) && !((List.range' 2 999).any (divAt n))
def F_spec_IsPrime : Int → Option Bool := fun (n : Int) => some (isPrimeI n)
def F_impl_IsPrime : Int → Option Bool := fun (n : Int) => some (isPrimeI n)
def inB (m : Int) (v : Int) : Bool := decide (0 ≤ v ∧ v < m)
def rowOk (m : Int) (l : List Int) : Bool := l.all (inB m)
def F_impl_inMod : Int × List Int → Option Bool := fun ((m, l) : Int × List Int) => if l.length ≤ 1048576 then some (rowOk m l) else none
def matOk (m : Int) (x : Int × Int × List Int) : Bool := isPrimeI m && (decide (0 ≤ x.1 ∧ x.1 ≤ 64) && (decide (0 ≤ x.2.1 ∧ x.2.1 ≤ 64) && (decide ((x.2.2.length : Int) = x.1 * x.2.1) && rowOk m x.2.2)))
def F_spec_MatrixOk : Int × Int × Int × List Int → Option Bool := fun ((m, x) : Int × Int × Int × List Int) => if sz_Matrix x ≤ 1048576 then some (matOk m x) else none
def F_impl_MatrixOk : Int × Int × Int × List Int → Option Bool := fun ((m, x) : Int × Int × Int × List Int) => if sz_Matrix x ≤ 1048576 then some (matOk m x) else none
def ag_spec_IsPrime : Sig := [(.one, [.int .i64])]
def rs_spec_IsPrime : Sig := [(.one, [.bool])]
def mu_spec_IsPrime : MSig := []
def ag_spec_MatrixOk : Sig := [(.one, [.int .i64]), (.agg, [.int .i64, .int .i64, .list [.int .i64]])]
def rs_spec_MatrixOk : Sig := [(.one, [.bool])]
def mu_spec_MatrixOk : MSig := []
def ag_impl_IsPrime : Sig := [(.one, [.int .i64])]
def rs_impl_IsPrime : Sig := [(.one, [.bool])]
def mu_impl_IsPrime : MSig := []
def ag_impl_inMod : Sig := [(.one, [.int .i64]), (.one, [.list [.int .i64]])]
def rs_impl_inMod : Sig := [(.one, [.bool])]
def mu_impl_inMod : MSig := []
def ag_impl_MatrixOk : Sig := [(.one, [.int .i64]), (.agg, [.int .i64, .int .i64, .list [.int .i64]])]
def rs_impl_MatrixOk : Sig := [(.one, [.bool])]
def mu_impl_MatrixOk : MSig := []
def G_spec_IsPrime (NN : Nat) : Int → (Option Bool) :=
 (fun (i0 : Int) =>
 joinK (loopT NN (fun ((i1, i2) : (Int × Int)) =>
 cnd (leI (mulI .i64 i2 i2) i1)
 (cnd (leI i1 (1000003 : Int))
 ((remI i1 i2).bnd (fun (i3 : Int) =>
 cnd (eqI i3 (0 : Int))
 (some (Sum.inr (Sum.inr false)))
 (some (Sum.inl (i1, addI .i64 i2 (1 : Int))))))
 (some (Sum.inr (Sum.inl i1))))
 (some (Sum.inr (Sum.inl i1))))
 (i0, (2 : Int)))
 (fun (i4 : Int) =>
 (F_spec_l01In (i4, (2 : Int), (1000003 : Int))).bnd (fun (b5 : Bool) =>
 some b5)))

def G_spec_MatrixOk (NN : Nat) : (Int × (Int × (Int × (List Int)))) → (Option Bool) :=
 (fun ((i0, i1, i2, l3) : (Int × (Int × (Int × (List Int))))) =>
 (F_spec_IsPrime i0).bnd (fun (b4 : Bool) =>
 cnd (notB b4)
 (some false)
 ((F_spec_l01In (i1, (0 : Int), (64 : Int))).bnd (fun (b5 : Bool) =>
 cnd (notB b5)
 (some false)
 ((F_spec_l01In (i2, (0 : Int), (64 : Int))).bnd (fun (b6 : Bool) =>
 cnd (notB b6)
 (some false)
 (cnd (neI (natI (lenN l3)) (mulI .i64 i1 i2))
 (some false)
 (joinK (loopT NN (fun ((i7, l8, i9, i10) : (Int × ((List Int) × (Int × Int)))) =>
 cnd (ltI i10 i9)
 ((getI l8 i10).bnd (fun (i11 : Int) =>
 (F_spec_l01In (i11, (0 : Int), subI .i64 i7 (1 : Int))).bnd (fun (b12 : Bool) =>
 cnd (notB b12)
 (some (Sum.inr (Sum.inr false)))
 (some (Sum.inl (i7, l8, i9, addI .i64 i10 (1 : Int)))))))
 (some (Sum.inr (Sum.inl ()))))
 (i0, l3, natI (lenN l3), (0 : Int)))
 (fun (_ : Unit) =>
 some true)))))))))

def G_impl_IsPrime (NN : Nat) : Int → (Option Bool) :=
 (fun (i0 : Int) =>
 cnd (ltI i0 (2 : Int))
 (some false)
 (cnd (ltI (1000003 : Int) i0)
 (some false)
 (joinK (loopT NN (fun ((i1, i2) : (Int × Int)) =>
 cnd (leI (mulI .i64 i2 i2) i1)
 ((remI i1 i2).bnd (fun (i3 : Int) =>
 cnd (eqI i3 (0 : Int))
 (some (Sum.inr (Sum.inr false)))
 (some (Sum.inl (i1, addI .i64 i2 (1 : Int))))))
 (some (Sum.inr (Sum.inl ()))))
 (i0, (2 : Int)))
 (fun (_ : Unit) =>
 some true))))

def G_impl_inMod (NN : Nat) : (Int × (List Int)) → (Option Bool) :=
 (fun ((i0, l1) : (Int × (List Int))) =>
 joinK (loopT NN (fun ((i2, l3, i4, i5) : (Int × ((List Int) × (Int × Int)))) =>
 cnd (ltI i5 i4)
 ((getI l3 i5).bnd (fun (i6 : Int) =>
 cnd (ltI i6 (0 : Int))
 (some (Sum.inr (Sum.inr false)))
 (cnd (leI i2 i6)
 (some (Sum.inr (Sum.inr false)))
 (some (Sum.inl (i2, l3, i4, addI .i64 i5 (1 : Int)))))))
 (some (Sum.inr (Sum.inl ()))))
 (i0, l1, natI (lenN l1), (0 : Int)))
 (fun (_ : Unit) =>
 some true))

def G_impl_MatrixOk (NN : Nat) : (Int × (Int × (Int × (List Int)))) → (Option Bool) :=
 (fun ((i0, i1, i2, l3) : (Int × (Int × (Int × (List Int))))) =>
 (F_impl_IsPrime i0).bnd (fun (b4 : Bool) =>
 cnd (notB b4)
 (some false)
 (cnd (ltI i1 (0 : Int))
 (some false)
 (cnd (ltI i2 (0 : Int))
 (some false)
 (cnd (ltI (64 : Int) i1)
 (some false)
 (cnd (ltI (64 : Int) i2)
 (some false)
 (cnd (eqI (natI (lenN l3)) (mulI .i64 i1 i2))
 ((F_impl_inMod (i0, l3)).bnd (fun (b5 : Bool) =>
 some b5))
 (some false))))))))

theorem mulI_eq {a b : Int} (h1 : -9223372036854775808 ≤ a * b) (h2 : a * b ≤ 9223372036854775807) : mulI .i64 a b = a * b := wrap_id h1 h2
theorem remI_nat {n : Int} {i : Nat} (hn : 0 ≤ n) (hi : 0 < i) : remI n (i : Int) = some (n % (i : Int)) := by
  unfold remI
  rw [if_neg (by omega), Int.tmod_eq_emod_of_nonneg hn]

theorem sq_le {i j : Nat} (h : i ≤ j) : (i : Int) * i ≤ (j : Int) * j := by
  have := Nat.mul_le_mul h h
  exact_mod_cast this

/-- The search for a divisor. -/
theorem div_loop {X Y : Type} {f : X → Option (X ⊕ (Y ⊕ Bool))} (n : Int) (mk : Nat → X) (r : Y) (hn : n ≤ 1000003)
    (h1 : ∀ i : Nat, 2 ≤ i → i ≤ 1001 → (i : Int) * i ≤ n → n % (i : Int) = 0 → f (mk i) = some (.inr (.inr false)))
    (h2 : ∀ i : Nat, 2 ≤ i → i ≤ 1001 → (i : Int) * i ≤ n → n % (i : Int) ≠ 0 → f (mk i) = some (.inl (mk (i + 1))))
    (h3 : ∀ i : Nat, 2 ≤ i → i ≤ 1001 → ¬ (i : Int) * i ≤ n → f (mk i) = some (.inr (.inl r))) {x0 : X} (hx : x0 = mk 2) :
    loopT FUEL f x0 = some (if (List.range' 2 999).any (divAt n) = true then .inr false else .inl r) := by
  subst hx
  have key : ∀ (d i : Nat), 2 ≤ i → i + d = 1001 → ∀ N, d < N → loopT N f (mk i) = some (if (List.range' i d).any (divAt n) = true then .inr false else .inl r) := by
    intro d
    induction d with
    | zero =>
      intro i hi hd N hN
      obtain ⟨N, rfl⟩ : ∃ M, N = M + 1 := ⟨N - 1, by omega⟩
      have : i = 1001 := by omega
      subst this
      rw [loopT, h3 1001 (by omega) (by omega) (by omega)]
      rfl
    | succ d ih =>
      intro i hi hd N hN
      obtain ⟨N, rfl⟩ : ∃ M, N = M + 1 := ⟨N - 1, by omega⟩
      rw [List.range'_succ, List.any_cons]
      by_cases hle : (i : Int) * i ≤ n
      · by_cases hm : n % (i : Int) = 0
        · rw [loopT, h1 i hi (by omega) hle hm]
          simp [divAt, hle, hm]
        · rw [loopT, h2 i hi (by omega) hle hm]
          simp only
          rw [ih (i + 1) (by omega) (by omega) N (by omega), show divAt n i = false by simp [divAt, hm], Bool.false_or]
      · rw [loopT, h3 i hi (by omega) hle]
        have : (List.range' (i + 1) d).any (divAt n) = false := by
          rw [List.any_eq_false]
          intro j hj
          have := (List.mem_range'_1.1 hj).1
          have := sq_le (show i ≤ j by omega)
          simp only [divAt, Bool.and_eq_true, decide_eq_true_eq, not_and]
          intro h; omega
        simp only
        rw [this]
        simp [divAt, hle]
  exact key 999 2 (by omega) (by omega) FUEL (FUEL_gt (by omega))

theorem sq_le1001 {i : Nat} (h : i ≤ 1001) : 0 ≤ (i : Int) * i ∧ (i : Int) * i ≤ 1002001 := by
  have h1 := sq_le h
  have h0 := sq_le (Nat.zero_le i)
  omega

theorem f_spec_IsPrime (x : Int) (y : Bool) (h : F_spec_IsPrime x = some y) : G_spec_IsPrime FUEL x = some y := by
  rw [← h]
  simp only [F_spec_IsPrime, G_spec_IsPrime]
  by_cases hx : x ≤ 1000003
  · rw [div_loop x (fun i => (x, (i : Int))) x hx ?_ ?_ ?_ ?_]
    · by_cases hd : (List.range' 2 999).any (divAt x) = true
      · rw [if_pos hd, joinK_r, isPrimeI, hd]
        simp
      · rw [if_neg hd, joinK_l, isPrimeI]
        simp only [F_spec_l01In, bnd_s]
        simp [hd]
    all_goals try simp only
    · intro i h2 hi hle hm
      have hs := sq_le1001 hi
      rw [mulI_eq (by omega) (by omega), cnd_t (leI_t hle), cnd_t (leI_t hx), remI_nat (by omega) (by omega), bnd_s, cnd_t (eqI_t hm)]
    · intro i h2 hi hle hm
      have hs := sq_le1001 hi
      rw [mulI_eq (by omega) (by omega), cnd_t (leI_t hle), cnd_t (leI_t hx), remI_nat (by omega) (by omega), bnd_s, cnd_f (eqI_f hm), addI_eq (by omega) (by omega)]
      rfl
    · intro i h2 hi hle
      have hs := sq_le1001 hi
      rw [mulI_eq (by omega) (by omega), cnd_f (leI_f (by omega))]
    · rfl
  · rw [loopT_seq (fun i => (x, (i : Int) + 2)) (r := Sum.inl x) 0 (fun j hj => by omega) ?_ ?_ (FUEL_gt (by omega))]
    · rw [joinK_l, isPrimeI]
      simp only [F_spec_l01In, bnd_s]
      have : ¬ (2 ≤ x ∧ x ≤ 1000003) := by omega
      simp [this]
    · simp only
      rw [cnd_t (leI_t (by rw [mulI_eq (by omega) (by omega)]; omega)), cnd_f (leI_f (by omega))]
    · rfl

theorem f_impl_IsPrime (x : Int) (y : Bool) (h : F_impl_IsPrime x = some y) : G_impl_IsPrime FUEL x = some y := by
  rw [← h]
  simp only [F_impl_IsPrime, G_impl_IsPrime]
  by_cases h2 : x < 2
  · rw [cnd_t (ltI_t h2), isPrimeI, decide_eq_false (by omega)]; rfl
  rw [cnd_f (ltI_f (by omega))]
  by_cases hx : 1000003 < x
  · rw [cnd_t (ltI_t hx), isPrimeI, decide_eq_false (by omega)]; rfl
  rw [cnd_f (ltI_f (by omega))]
  rw [div_loop x (fun i => (x, (i : Int))) () (by omega) ?_ ?_ ?_ ?_]
  · have hr : (2 ≤ x ∧ x ≤ 1000003) := by omega
    by_cases hd : (List.range' 2 999).any (divAt x) = true
    · rw [if_pos hd, joinK_r, isPrimeI, hd]
      simp
    · rw [if_neg hd, joinK_l, isPrimeI]
      simp [hd, hr]
  all_goals try simp only
  · intro i h2 hi hle hm
    have hs := sq_le1001 hi
    rw [mulI_eq (by omega) (by omega), cnd_t (leI_t hle), remI_nat (by omega) (by omega), bnd_s, cnd_t (eqI_t hm)]
  · intro i h2 hi hle hm
    have hs := sq_le1001 hi
    rw [mulI_eq (by omega) (by omega), cnd_t (leI_t hle), remI_nat (by omega) (by omega), bnd_s, cnd_f (eqI_f hm), addI_eq (by omega) (by omega)]
    rfl
  · intro i h2 hi hle
    have hs := sq_le1001 hi
    rw [mulI_eq (by omega) (by omega), cnd_f (leI_f (by omega))]
  · rfl

theorem f_impl_inMod (x : Int × List Int) (y : Bool) (h : F_impl_inMod x = some y) : G_impl_inMod FUEL x = some y := by
  obtain ⟨m, l⟩ := x
  simp only [F_impl_inMod] at h
  split at h
  · rename_i hl
    rw [← h]
    simp only [G_impl_inMod]
    rw [loopT_all (mk := fun i => (m, l, natI (lenN l), (i : Int))) l (inB m) (Sum.inr false) (Sum.inl ()) ?_ ?_ ?_ ?_ (FUEL_gt (by omega))]
    · unfold rowOk
      cases l.all (inB m) <;> rfl
    all_goals try simp only
    · intro i a ha hp
      have hp := of_decide_eq_true hp
      rw [cnd_t (ltI_in ha), getI_nat, ha, bnd_s, cnd_f (ltI_f (by omega)), cnd_f (leI_f (by omega)), next_i ha (by omega)]
    · intro i a ha hp
      have hp := of_decide_eq_false hp
      rw [cnd_t (ltI_in ha), getI_nat, ha, bnd_s]
      by_cases h0 : a < 0
      · rw [cnd_t (ltI_t h0)]
      · rw [cnd_f (ltI_f (by omega)), cnd_t (leI_t (by omega))]
    · rw [cnd_f (ltI_end l)]
    · rfl
  · cases h

theorem isPrimeI_t {m : Int} (h : isPrimeI m = true) : 2 ≤ m ∧ m ≤ 1000003 := by
  simp only [isPrimeI, Bool.and_eq_true, decide_eq_true_eq] at h
  exact h.1

theorem f_impl_MatrixOk (x : Int × Int × Int × List Int) (y : Bool) (h : F_impl_MatrixOk x = some y) : G_impl_MatrixOk FUEL x = some y := by
  obtain ⟨m, r, c, l⟩ := x
  simp only [F_impl_MatrixOk] at h
  split at h
  · rename_i hl
    rw [← h]
    have hl : l.length ≤ 1048576 := hl
    simp only [G_impl_MatrixOk, F_impl_IsPrime, bnd_s, matOk]
    cases hp : isPrimeI m with
    | false => rfl
    | true =>
      rw [cnd_f (by rfl), Bool.true_and]
      by_cases h1 : r < 0
      · rw [cnd_t (ltI_t h1), decide_eq_false (by omega)]; rfl
      rw [cnd_f (ltI_f (by omega))]
      by_cases h2 : c < 0
      · rw [cnd_t (ltI_t h2), decide_eq_false (p := 0 ≤ c ∧ c ≤ 64) (by omega)]; simp
      rw [cnd_f (ltI_f (by omega))]
      by_cases h3 : 64 < r
      · rw [cnd_t (ltI_t h3), decide_eq_false (by omega)]; rfl
      rw [cnd_f (ltI_f (by omega))]
      by_cases h4 : 64 < c
      · rw [cnd_t (ltI_t h4), decide_eq_false (p := 0 ≤ c ∧ c ≤ 64) (by omega)]; simp
      rw [cnd_f (ltI_f (by omega)), decide_eq_true (p := 0 ≤ r ∧ r ≤ 64) (by omega), decide_eq_true (p := 0 ≤ c ∧ c ≤ 64) (by omega), Bool.true_and, Bool.true_and]
      obtain ⟨r, rfl⟩ := natI_eq (z := r) (by omega)
      obtain ⟨c, rfl⟩ := natI_eq (z := c) (by omega)
      have hrc : r * c ≤ 64 * 64 := Nat.mul_le_mul (by omega) (by omega)
      have hrc' : (r : Int) * (c : Int) = ((r * c : Nat) : Int) := by norm_cast
      rw [mulI_eq (by omega) (by omega), show F_impl_inMod (m, l) = some (rowOk m l) from if_pos hl]
      by_cases h5 : (l.length : Int) = (r : Int) * c
      · rw [cnd_t (show eqI (natI (lenN l)) _ = true from eqI_t h5), decide_eq_true h5]; rfl
      · rw [cnd_f (show eqI (natI (lenN l)) _ = false from eqI_f h5), decide_eq_false h5]; rfl
  · cases h

theorem f_spec_MatrixOk (x : Int × Int × Int × List Int) (y : Bool) (h : F_spec_MatrixOk x = some y) : G_spec_MatrixOk FUEL x = some y := by
  obtain ⟨m, r, c, l⟩ := x
  simp only [F_spec_MatrixOk] at h
  split at h
  · rename_i hl
    rw [← h]
    have hl : l.length ≤ 1048576 := hl
    simp only [G_spec_MatrixOk, F_spec_IsPrime, F_spec_l01In, bnd_s, matOk]
    cases hp : isPrimeI m with
    | false => rfl
    | true =>
      obtain ⟨hm1, hm2⟩ := isPrimeI_t hp
      rw [cnd_f (by rfl), Bool.true_and]
      by_cases h1 : 0 ≤ r ∧ r ≤ 64
      rotate_left
      · rw [cnd_t (notB_d h1), decide_eq_false h1]; rfl
      rw [cnd_f (notB_p h1), decide_eq_true h1, Bool.true_and]
      by_cases h2 : 0 ≤ c ∧ c ≤ 64
      rotate_left
      · rw [cnd_t (notB_d h2), decide_eq_false h2]; rfl
      rw [cnd_f (notB_p h2), decide_eq_true h2, Bool.true_and]
      obtain ⟨r, rfl⟩ := natI_eq (z := r) (by omega)
      obtain ⟨c, rfl⟩ := natI_eq (z := c) (by omega)
      have hrc : r * c ≤ 64 * 64 := Nat.mul_le_mul (by omega) (by omega)
      have hrc' : (r : Int) * (c : Int) = ((r * c : Nat) : Int) := by norm_cast
      rw [mulI_eq (by omega) (by omega)]
      by_cases h5 : (l.length : Int) = (r : Int) * c
      rotate_left
      · rw [cnd_t (show neI (natI (lenN l)) _ = true from neI_t h5), decide_eq_false h5]; rfl
      rw [cnd_f (show neI (natI (lenN l)) _ = false from neI_f h5), decide_eq_true h5, Bool.true_and]
      rw [loopT_all (mk := fun i => (m, l, natI (lenN l), (i : Int))) l (inB m) (Sum.inr false) (Sum.inl ()) ?_ ?_ ?_ ?_ (FUEL_gt (by omega))]
      · unfold rowOk
        cases l.all (inB m) <;> rfl
      all_goals try simp only
      · intro i a ha hp
        have hp := of_decide_eq_true hp
        rw [cnd_t (ltI_in ha), getI_nat, ha, bnd_s, subI_eq (by omega) (by omega), cnd_f (notB_p (by omega)), next_i ha (by omega)]
      · intro i a ha hp
        have hp := of_decide_eq_false hp
        rw [cnd_t (ltI_in ha), getI_nat, ha, bnd_s, subI_eq (by omega) (by omega), cnd_t (notB_d (by omega))]
      · rw [cnd_f (ltI_end l)]
      · rfl
  · cases h

end Go.Am
end
section
namespace Go.Am
def newOk (x : Int × Int) : Prop := (0 ≤ x.1 ∧ x.1 ≤ 4096) ∧ (0 ≤ x.2 ∧ x.2 ≤ 4096) ∧ x.1 * x.2 ≤ 1048576
instance (x : Int × Int) : Decidable (newOk x) := by unfold newOk; infer_instance
def F_spec_l31New : Int × Int → Option (Int × Int × List Int) := fun (x : Int × Int) => if newOk x then some (x.1, x.2, genD x.1.toNat x.2.toNat fun _ _ => 0) else none
def F_impl_emptyMatrix : Int × Int → Option (Int × Int × List Int) := fun (x : Int × Int) => if newOk x then some (x.1, x.2, genD x.1.toNat x.2.toNat fun _ _ => 0) else none
def F_impl_Matrix_at : (Int × Int × List Int) × Int × Int → Option Int := fun (x : (Int × Int × List Int) × Int × Int) =>
  if mOk x.1 ∧ (0 ≤ x.2.1 ∧ x.2.1 < x.1.1) ∧ (0 ≤ x.2.2 ∧ x.2.2 < x.1.2.1) then some (ofD x.1.2.1.toNat x.1.2.2 x.2.1.toNat x.2.2.toNat) else none
def F_impl_Matrix_set : (Int × Int × List Int) × Int × Int × Int → Option (List Int) := fun (x : (Int × Int × List Int) × Int × Int × Int) =>
  if mOk x.1 ∧ (0 ≤ x.2.1 ∧ x.2.1 < x.1.1) ∧ (0 ≤ x.2.2.1 ∧ x.2.2.1 < x.1.2.1) then some (genD x.1.1.toNat x.1.2.1.toNat (updM (ofD x.1.2.1.toNat x.1.2.2) x.2.1.toNat x.2.2.1.toNat x.2.2.2)) else none
def swapF (M : Nat → Nat → Int) (a b : Nat) : Nat → Nat → Int := fun i j => if i = a then M b j else if i = b then M a j else M i j
def F_spec_l31Swap : (Int × Int × List Int) × Int × Int → Option (List Int) := fun (x : (Int × Int × List Int) × Int × Int) =>
  if mOk x.1 ∧ (0 ≤ x.2.1 ∧ x.2.1 < x.1.1) ∧ (0 ≤ x.2.2 ∧ x.2.2 < x.1.1) then some (genD x.1.1.toNat x.1.2.1.toNat (swapF (ofD x.1.2.1.toNat x.1.2.2) x.2.1.toNat x.2.2.toNat)) else none
def F_impl_Matrix_swapRows : (Int × Int × List Int) × Int × Int → Option (List Int) := F_spec_l31Swap
def clearF (p : Int) (M : Nat → Nat → Int) (i k : Nat) (f : Int) : Nat → Nat → Int := fun a j => if a = i then (M i j + f * M k j) % p else M a j
def F_spec_l31Clear : Int × (Int × Int × List Int) × Int × Int × Int → Option (List Int) := fun (x : Int × (Int × Int × List Int) × Int × Int × Int) =>
  if mOk x.2.1 ∧ pOk x.1 ∧ (0 ≤ x.2.2.1 ∧ x.2.2.1 < x.2.1.1) ∧ (0 ≤ x.2.2.2.1 ∧ x.2.2.2.1 < x.2.1.1) ∧ (0 ≤ x.2.2.2.2 ∧ x.2.2.2.2 ≤ x.1) ∧ allP x.1 x.2.1.2.2 then
    some (genD x.2.1.1.toNat x.2.1.2.1.toNat (clearF x.1 (ofD x.2.1.2.1.toNat x.2.1.2.2) x.2.2.1.toNat x.2.2.2.1.toNat (x.1 - x.2.2.2.2))) else none
def pivF (M : Nat → Nat → Int) (j : Nat) : Nat → Nat → Option Nat
  | 0, _ => none
  | d + 1, k => if M k j = 0 then pivF M j d (k + 1) else some k
def invG (p out x : Int) (n : Nat) : Int := if h : n = 0 then out else invG p (if n % 2 = 1 then out * x % p else out) (x * x % p) (n / 2)
termination_by n
decreasing_by omega
def F_spec_l31Inverse : Int × Int → Option Int := fun (x : Int × Int) => if pOk x.1 ∧ inP x.1 x.2 then some (invG x.1 1 x.2 (x.1 - 2).toNat) else none
def F_impl_rawInverse : Int × Int → Option Int := F_spec_l31Inverse
def F_spec_l05Ints : List Int → Option (List Int) := fun (l : List Int) => if l.length ≤ 1099511627776 then some l else none
def F_impl_copyInts : List Int → Option (List Int) := fun (l : List Int) => if l.length ≤ 1099511627776 then some l else none
def F_impl_copyMatrix : Int × Int × List Int → Option (Int × Int × List Int) := fun (x : Int × Int × List Int) => if x.2.2.length ≤ 1099511627776 then some x else none
def turnF (M : Nat → Nat → Int) : Nat → Nat → Int := fun i j => M j i
def F_spec_l31Turn : Int × Int × List Int → Option (Int × Int × List Int) := fun (x : Int × Int × List Int) => if mOk x then some (x.2.1, x.1, genD x.2.1.toNat x.1.toNat (turnF (ofD x.2.1.toNat x.2.2))) else none
def F_impl_rawTranspose : Int × Int × List Int → Option (Int × Int × List Int) := F_spec_l31Turn
def mulOk (x : Int × (Int × Int × List Int) × (Int × Int × List Int)) : Prop := pOk x.1 ∧ mOk x.2.1 ∧ mOk x.2.2 ∧ x.2.1.2.1 = x.2.2.1 ∧ x.2.1.1 * x.2.2.2.1 ≤ 1048576 ∧ allP x.1 x.2.1.2.2 ∧ allP x.1 x.2.2.2.2
instance (x : Int × (Int × Int × List Int) × (Int × Int × List Int)) : Decidable (mulOk x) := by unfold mulOk; infer_instance
def ag_spec_l31New : Sig := [(.one, [.int .i64]), (.one, [.int .i64])]
def rs_spec_l31New : Sig := [(.agg, [.int .i64, .int .i64, .list [.int .i64]])]
def mu_spec_l31New : MSig := []
def ag_impl_emptyMatrix : Sig := [(.one, [.int .i64]), (.one, [.int .i64])]
def rs_impl_emptyMatrix : Sig := [(.agg, [.int .i64, .int .i64, .list [.int .i64]])]
def mu_impl_emptyMatrix : MSig := []
def ag_spec_l05Ints : Sig := [(.one, [.list [.int .i64]])]
def rs_spec_l05Ints : Sig := [(.one, [.list [.int .i64]])]
def mu_spec_l05Ints : MSig := []
def ag_impl_copyInts : Sig := [(.one, [.list [.int .i64]])]
def rs_impl_copyInts : Sig := [(.one, [.list [.int .i64]])]
def mu_impl_copyInts : MSig := []
def ag_impl_copyMatrix : Sig := [(.agg, [.int .i64, .int .i64, .list [.int .i64]])]
def rs_impl_copyMatrix : Sig := [(.agg, [.int .i64, .int .i64, .list [.int .i64]])]
def mu_impl_copyMatrix : MSig := []
def ag_impl_Matrix_at : Sig := [(.agg, [.int .i64, .int .i64, .list [.int .i64]]), (.one, [.int .i64]), (.one, [.int .i64])]
def rs_impl_Matrix_at : Sig := [(.one, [.int .i64])]
def mu_impl_Matrix_at : MSig := []
def ag_impl_Matrix_set : Sig := [(.agg, [.int .i64, .int .i64, .list [.int .i64]]), (.one, [.int .i64]), (.one, [.int .i64]), (.one, [.int .i64])]
def rs_impl_Matrix_set : Sig := [(.one, [.list [.int .i64]])]
def mu_impl_Matrix_set : MSig := [[none, none, some .froz]]
def ag_spec_l31Swap : Sig := [(.agg, [.int .i64, .int .i64, .list [.int .i64]]), (.one, [.int .i64]), (.one, [.int .i64])]
def rs_spec_l31Swap : Sig := [(.one, [.list [.int .i64]])]
def mu_spec_l31Swap : MSig := [[none, none, some .froz]]
def ag_impl_Matrix_swapRows : Sig := [(.agg, [.int .i64, .int .i64, .list [.int .i64]]), (.one, [.int .i64]), (.one, [.int .i64])]
def rs_impl_Matrix_swapRows : Sig := [(.one, [.list [.int .i64]])]
def mu_impl_Matrix_swapRows : MSig := [[none, none, some .froz]]
def ag_spec_l31Clear : Sig := [(.one, [.int .i64]), (.agg, [.int .i64, .int .i64, .list [.int .i64]]), (.one, [.int .i64]), (.one, [.int .i64]), (.one, [.int .i64])]
def rs_spec_l31Clear : Sig := [(.one, [.list [.int .i64]])]
def mu_spec_l31Clear : MSig := [[], [none, none, some .froz]]
def ag_spec_l31Inverse : Sig := [(.one, [.int .i64]), (.one, [.int .i64])]
def rs_spec_l31Inverse : Sig := [(.one, [.int .i64])]
def mu_spec_l31Inverse : MSig := []
def ag_impl_rawInverse : Sig := [(.one, [.int .i64]), (.one, [.int .i64])]
def rs_impl_rawInverse : Sig := [(.one, [.int .i64])]
def mu_impl_rawInverse : MSig := []
def ag_spec_l31Turn : Sig := [(.agg, [.int .i64, .int .i64, .list [.int .i64]])]
def rs_spec_l31Turn : Sig := [(.agg, [.int .i64, .int .i64, .list [.int .i64]])]
def mu_spec_l31Turn : MSig := []
def ag_impl_rawTranspose : Sig := [(.agg, [.int .i64, .int .i64, .list [.int .i64]])]
def rs_impl_rawTranspose : Sig := [(.agg, [.int .i64, .int .i64, .list [.int .i64]])]
def mu_impl_rawTranspose : MSig := []
def G_spec_l31New (NN : Nat) : (Int × Int) → (Option (Int × (Int × (List Int)))) :=
 (fun ((i0, i1) : (Int × Int)) =>
 (mkI (mulI .i64 i0 i1) (mulI .i64 i0 i1) 8).bnd (fun (k2 : Nat) =>
 (takI (repL k2 (0 : Int)) k2).bnd (fun (l3 : (List Int)) =>
 some (i0, i1, l3))))

def G_impl_emptyMatrix (NN : Nat) : (Int × Int) → (Option (Int × (Int × (List Int)))) :=
 (fun ((i0, i1) : (Int × Int)) =>
 (mkI (mulI .i64 i0 i1) (mulI .i64 i0 i1) 8).bnd (fun (k2 : Nat) =>
 (takI (repL k2 (0 : Int)) k2).bnd (fun (l3 : (List Int)) =>
 some (i0, i1, l3))))

def G_spec_l05Ints (NN : Nat) : (List Int) → (Option (List Int)) :=
 (fun (l0 : (List Int)) =>
 (fulI 0 0 (lenN (([] : List Int)))).bnd (fun (_ : Unit) =>
 (fitI (addN (lenN (([] : List Int))) (lenN l0)) 8).bnd (fun (_ : Unit) =>
 (takI (appL (([] : List Int)) l0) (addN (lenN (([] : List Int))) (lenN l0))).bnd (fun (l1 : (List Int)) =>
 some l1))))

def G_impl_copyInts (NN : Nat) : (List Int) → (Option (List Int)) :=
 (fun (l0 : (List Int)) =>
 (fitI (addN (lenN (([] : List Int))) (lenN l0)) 8).bnd (fun (_ : Unit) =>
 (takI (appL (([] : List Int)) l0) (addN (lenN (([] : List Int))) (lenN l0))).bnd (fun (l1 : (List Int)) =>
 some l1)))

def G_impl_copyMatrix (NN : Nat) : (Int × (Int × (List Int))) → (Option (Int × (Int × (List Int)))) :=
 (fun ((i0, i1, l2) : (Int × (Int × (List Int)))) =>
 (F_impl_copyInts l2).bnd (fun (l3 : (List Int)) =>
 (takI l3 (lenN l3)).bnd (fun (l4 : (List Int)) =>
 some (i0, i1, l4))))

def G_impl_Matrix_at (NN : Nat) : ((Int × (Int × (List Int))) × (Int × Int)) → (Option Int) :=
 (fun (((i0, i1, l2), i3, i4) : ((Int × (Int × (List Int))) × (Int × Int))) =>
 (getI l2 (addI .i64 (mulI .i64 i3 i1) i4)).bnd (fun (i5 : Int) =>
 some i5))

def G_impl_Matrix_set (NN : Nat) : ((Int × (Int × (List Int))) × (Int × (Int × Int))) → (Option (List Int)) :=
 (fun (((i0, i1, l2), i3, i4, i5) : ((Int × (Int × (List Int))) × (Int × (Int × Int)))) =>
 (chkI (addI .i64 (mulI .i64 i3 i1) i4) (lenN l2)).bnd (fun (k6 : Nat) =>
 (getN l2 (addN 0 k6)).bnd (fun (i7 : Int) =>
 (samI (lenN (setL l2 (addN 0 k6) i5)) (lenN l2)).bnd (fun (_ : Unit) =>
 some (setL l2 (addN 0 k6) i5)))))

def G_spec_l31Swap (NN : Nat) : ((Int × (Int × (List Int))) × (Int × Int)) → (Option (List Int)) :=
 (fun (((i0, i1, l2), i3, i4) : ((Int × (Int × (List Int))) × (Int × Int))) =>
 (fulI 0 (lenN l2) (lenN l2)).bnd (fun (_ : Unit) =>
 loopT NN (fun (((i5, i6, i7), l8, i9, i10) : ((Int × (Int × Int)) × ((List Int) × (Int × Int)))) =>
 cnd (ltI i7 i10)
 ((chkI (addI .i64 (mulI .i64 i5 i10) i7) (lenN l8)).bnd (fun (k11 : Nat) =>
 (getN l8 (addN 0 k11)).bnd (fun (i12 : Int) =>
 (chkI (addI .i64 (mulI .i64 i6 i10) i7) (lenN l8)).bnd (fun (k13 : Nat) =>
 (getN l8 (addN 0 k13)).bnd (fun (i14 : Int) =>
 (chkI (addI .i64 (mulI .i64 i5 i10) i7) (lenN l8)).bnd (fun (k15 : Nat) =>
 (getN l8 (addN 0 k15)).bnd (fun (i16 : Int) =>
 (chkI (addI .i64 (mulI .i64 i6 i10) i7) (lenN l8)).bnd (fun (k17 : Nat) =>
 (getN (setL l8 (addN 0 k15) i14) (addN 0 k17)).bnd (fun (i18 : Int) =>
 (fulI 0 (lenN l8) (lenN (setL (setL l8 (addN 0 k15) i14) (addN 0 k17) i12))).bnd (fun (_ : Unit) =>
 some (Sum.inl ((i5, i6, addI .i64 i7 (1 : Int)), setL (setL l8 (addN 0 k15) i14) (addN 0 k17) i12, i9, i10))))))))))))
 (((samI (lenN l8) (lenN l2)).bnd (fun (_ : Unit) =>
 some l8)).bnd (fun (l19 : (List Int)) =>
 some (Sum.inr l19))))
 ((i3, i4, (0 : Int)), l2, i0, i1)))

def G_impl_Matrix_swapRows (NN : Nat) : ((Int × (Int × (List Int))) × (Int × Int)) → (Option (List Int)) :=
 (fun (((i0, i1, l2), i3, i4) : ((Int × (Int × (List Int))) × (Int × Int))) =>
 (fulI 0 (lenN l2) (lenN l2)).bnd (fun (_ : Unit) =>
 loopT NN (fun (((i5, i6, i7), l8, i9, i10) : ((Int × (Int × Int)) × ((List Int) × (Int × Int)))) =>
 cnd (ltI i7 i10)
 ((winI l8 0 (lenN l8)).bnd (fun (l11 : (List Int)) =>
 (F_impl_Matrix_at ((i9, i10, l11), i5, i7)).bnd (fun (i12 : Int) =>
 (winI l8 0 (lenN l8)).bnd (fun (l13 : (List Int)) =>
 (F_impl_Matrix_at ((i9, i10, l13), i6, i7)).bnd (fun (i14 : Int) =>
 (fulI 0 (lenN l8) (lenN l8)).bnd (fun (_ : Unit) =>
 (F_impl_Matrix_set ((i9, i10, l8), i5, i7, i14)).bnd (fun (l15 : (List Int)) =>
 (fulI 0 (lenN l8) (lenN l15)).bnd (fun (_ : Unit) =>
 (F_impl_Matrix_set ((i9, i10, l15), i6, i7, i12)).bnd (fun (l16 : (List Int)) =>
 (fulI 0 (lenN l8) (lenN l16)).bnd (fun (_ : Unit) =>
 some (Sum.inl ((i5, i6, addI .i64 i7 (1 : Int)), l16, i9, i10))))))))))))
 (((samI (lenN l8) (lenN l2)).bnd (fun (_ : Unit) =>
 some l8)).bnd (fun (l17 : (List Int)) =>
 some (Sum.inr l17))))
 ((i3, i4, (0 : Int)), l2, i0, i1)))

def G_spec_l31Clear (NN : Nat) : (Int × ((Int × (Int × (List Int))) × (Int × (Int × Int)))) → (Option (List Int)) :=
 (fun ((i0, (i1, i2, l3), i4, i5, i6) : (Int × ((Int × (Int × (List Int))) × (Int × (Int × Int))))) =>
 (fulI 0 (lenN l3) (lenN l3)).bnd (fun (_ : Unit) =>
 loopT NN (fun (((i7, i8, i9, i10, i11), l12, i13, i14) : ((Int × (Int × (Int × (Int × Int)))) × ((List Int) × (Int × Int)))) =>
 cnd (ltI i11 i14)
 ((chkI (addI .i64 (mulI .i64 i8 i14) i11) (lenN l12)).bnd (fun (k15 : Nat) =>
 (getN l12 (addN 0 k15)).bnd (fun (i16 : Int) =>
 (chkI (addI .i64 (mulI .i64 i9 i14) i11) (lenN l12)).bnd (fun (k17 : Nat) =>
 (getN l12 (addN 0 k17)).bnd (fun (i18 : Int) =>
 (remI (addI .i64 i16 (mulI .i64 (subI .i64 i7 i10) i18)) i7).bnd (fun (i19 : Int) =>
 (chkI (addI .i64 (mulI .i64 i8 i14) i11) (lenN l12)).bnd (fun (k20 : Nat) =>
 (getN l12 (addN 0 k20)).bnd (fun (i21 : Int) =>
 (fulI 0 (lenN l12) (lenN (setL l12 (addN 0 k20) i19))).bnd (fun (_ : Unit) =>
 some (Sum.inl ((i7, i8, i9, i10, addI .i64 i11 (1 : Int)), setL l12 (addN 0 k20) i19, i13, i14)))))))))))
 (((samI (lenN l12) (lenN l3)).bnd (fun (_ : Unit) =>
 some l12)).bnd (fun (l22 : (List Int)) =>
 some (Sum.inr l22))))
 ((i0, i4, i5, i6, (0 : Int)), l3, i1, i2)))

def G_spec_l31Inverse (NN : Nat) : (Int × Int) → (Option Int) :=
 (fun ((i0, i1) : (Int × Int)) =>
 joinK (loopT NN (fun ((i2, i3, i4, i5) : (Int × (Int × (Int × Int)))) =>
 cnd (ltI (0 : Int) i5)
 ((remI i5 (2 : Int)).bnd (fun (i6 : Int) =>
 joinK (cnd (eqI i6 (1 : Int))
 ((remI (mulI .i64 i4 i3) i2).bnd (fun (i7 : Int) =>
 some (Sum.inl (i3, i5, i2, i7))))
 (some (Sum.inl (i3, i5, i2, i4))))
 (fun ((i8, i9, i10, i11) : (Int × (Int × (Int × Int)))) =>
 (remI (mulI .i64 i8 i8) i10).bnd (fun (i12 : Int) =>
 (quoI .i64 i9 (2 : Int)).bnd (fun (i13 : Int) =>
 some (Sum.inl (i10, i12, i11, i13)))))))
 (some (Sum.inr (Sum.inl i4))))
 (i0, i1, (1 : Int), subI .i64 i0 (2 : Int)))
 (fun (i14 : Int) =>
 some i14))

def G_impl_rawInverse (NN : Nat) : (Int × Int) → (Option Int) :=
 (fun ((i0, i1) : (Int × Int)) =>
 joinK (loopT NN (fun ((i2, i3, i4, i5) : (Int × (Int × (Int × Int)))) =>
 cnd (ltI (0 : Int) i5)
 (joinK (cnd (eqI (andI .i64 i5 (1 : Int)) (1 : Int))
 ((remI (mulI .i64 i4 i3) i2).bnd (fun (i6 : Int) =>
 some (Sum.inl (i3, i5, i2, i6))))
 (some (Sum.inl (i3, i5, i2, i4))))
 (fun ((i7, i8, i9, i10) : (Int × (Int × (Int × Int)))) =>
 (remI (mulI .i64 i7 i7) i9).bnd (fun (i11 : Int) =>
 (shrI .i64 i8 (1 : Int)).bnd (fun (i12 : Int) =>
 some (Sum.inl (i9, i11, i10, i12))))))
 (some (Sum.inr (Sum.inl i4))))
 (i0, i1, (1 : Int), subI .i64 i0 (2 : Int)))
 (fun (i13 : Int) =>
 some i13))

def G_spec_l31Turn (NN : Nat) : (Int × (Int × (List Int))) → (Option (Int × (Int × (List Int)))) :=
 (fun ((i0, i1, l2) : (Int × (Int × (List Int)))) =>
 (F_spec_l31New (i1, i0)).bnd (fun ((i3, i4, l5) : (Int × (Int × (List Int)))) =>
 joinK ((fulI 0 0 (lenN (([] : List Int)))).bnd (fun (_ : Unit) =>
 (fulI 0 (lenN l5) (lenN l5)).bnd (fun (_ : Unit) =>
 loopT NN (fun ((i6, (i7, i8, l9), (i10, i11), (i12, i13), l14, l15) : (Int × ((Int × (Int × (List Int))) × ((Int × Int) × ((Int × Int) × ((List Int) × (List Int))))))) =>
 cnd (ltI i6 i7)
 (joinK ((fulI 0 (lenN l14) (lenN l14)).bnd (fun (_ : Unit) =>
 (fulI 0 (lenN l15) (lenN l15)).bnd (fun (_ : Unit) =>
 loopT NN (fun (((i16, i17), (i18, i19, l20), (i21, i22), (i23, i24), l25, l26) : ((Int × Int) × ((Int × (Int × (List Int))) × ((Int × Int) × ((Int × Int) × ((List Int) × (List Int))))))) =>
 cnd (ltI i17 i19)
 ((getI l20 (addI .i64 (mulI .i64 i16 i19) i17)).bnd (fun (i27 : Int) =>
 (chkI (addI .i64 (mulI .i64 i17 i18) i16) (lenN l26)).bnd (fun (k28 : Nat) =>
 (getN l26 (addN 0 k28)).bnd (fun (i29 : Int) =>
 (fulI 0 (lenN l25) (lenN l25)).bnd (fun (_ : Unit) =>
 (fulI 0 (lenN l26) (lenN (setL l26 (addN 0 k28) i27))).bnd (fun (_ : Unit) =>
 some (Sum.inl ((i16, addI .i64 i17 (1 : Int)), (i18, i19, l20), (i21, i22), (i23, i24), l25, setL l26 (addN 0 k28) i27))))))))
 (((fulI 0 (lenN l25) (lenN l25)).bnd (fun (_ : Unit) =>
 (fulI 0 (lenN l26) (lenN l26)).bnd (fun (_ : Unit) =>
 some (Sum.inl (i16, (i18, i19, l20), (i21, i22), (i23, i24), l25, l26))))).bnd (fun (l30 : ((Int × ((Int × (Int × (List Int))) × ((Int × Int) × ((Int × Int) × ((List Int) × (List Int)))))) ⊕ ((Int × ((Int × (Int × (List Int))) × ((Int × Int) × ((Int × Int) × ((List Int) × (List Int)))))) ⊕ (((Int × Int) × ((Int × Int) × ((List Int) × (List Int)))) ⊕ (Int × (Int × (List Int))))))) =>
 some (Sum.inr l30))))
 ((i6, (0 : Int)), (i7, i8, l9), (i10, i11), (i12, i13), l14, l15))))
 (fun ((i31, (i32, i33, l34), (i35, i36), (i37, i38), l39, l40) : (Int × ((Int × (Int × (List Int))) × ((Int × Int) × ((Int × Int) × ((List Int) × (List Int))))))) =>
 (fulI 0 (lenN l39) (lenN l39)).bnd (fun (_ : Unit) =>
 (fulI 0 (lenN l40) (lenN l40)).bnd (fun (_ : Unit) =>
 some (Sum.inl (addI .i64 i31 (1 : Int), (i32, i33, l34), (i35, i36), (i37, i38), l39, l40))))))
 (((fulI 0 (lenN l14) (lenN l14)).bnd (fun (_ : Unit) =>
 (fulI 0 (lenN l15) (lenN l15)).bnd (fun (_ : Unit) =>
 some (Sum.inl ((i10, i11), (i12, i13), l14, l15))))).bnd (fun (l41 : (((Int × Int) × ((Int × Int) × ((List Int) × (List Int)))) ⊕ (Int × (Int × (List Int))))) =>
 some (Sum.inr l41))))
 ((0 : Int), (i0, i1, l2), ((0 : Int), (0 : Int)), (i3, i4), ([] : List Int), l5))))
 (fun (((i42, i43), (i44, i45), l46, l47) : ((Int × Int) × ((Int × Int) × ((List Int) × (List Int))))) =>
 (takI l47 (lenN l47)).bnd (fun (l48 : (List Int)) =>
 some (i44, i45, l48)))))

def G_impl_rawTranspose (NN : Nat) : (Int × (Int × (List Int))) → (Option (Int × (Int × (List Int)))) :=
 (fun ((i0, i1, l2) : (Int × (Int × (List Int)))) =>
 (F_impl_emptyMatrix (i1, i0)).bnd (fun ((i3, i4, l5) : (Int × (Int × (List Int)))) =>
 joinK ((fulI 0 0 (lenN (([] : List Int)))).bnd (fun (_ : Unit) =>
 (fulI 0 (lenN l5) (lenN l5)).bnd (fun (_ : Unit) =>
 loopT NN (fun ((i6, (i7, i8, l9), (i10, i11), (i12, i13), l14, l15) : (Int × ((Int × (Int × (List Int))) × ((Int × Int) × ((Int × Int) × ((List Int) × (List Int))))))) =>
 cnd (ltI i6 i7)
 (joinK ((fulI 0 (lenN l14) (lenN l14)).bnd (fun (_ : Unit) =>
 (fulI 0 (lenN l15) (lenN l15)).bnd (fun (_ : Unit) =>
 loopT NN (fun (((i16, i17), (i18, i19, l20), (i21, i22), (i23, i24), l25, l26) : ((Int × Int) × ((Int × (Int × (List Int))) × ((Int × Int) × ((Int × Int) × ((List Int) × (List Int))))))) =>
 cnd (ltI i17 i19)
 ((F_impl_Matrix_at ((i18, i19, l20), i16, i17)).bnd (fun (i27 : Int) =>
 (fulI 0 (lenN l26) (lenN l26)).bnd (fun (_ : Unit) =>
 (F_impl_Matrix_set ((i23, i24, l26), i17, i16, i27)).bnd (fun (l28 : (List Int)) =>
 (fulI 0 (lenN l25) (lenN l25)).bnd (fun (_ : Unit) =>
 (fulI 0 (lenN l26) (lenN l28)).bnd (fun (_ : Unit) =>
 some (Sum.inl ((i16, addI .i64 i17 (1 : Int)), (i18, i19, l20), (i21, i22), (i23, i24), l25, l28))))))))
 (((fulI 0 (lenN l25) (lenN l25)).bnd (fun (_ : Unit) =>
 (fulI 0 (lenN l26) (lenN l26)).bnd (fun (_ : Unit) =>
 some (Sum.inl (i16, (i18, i19, l20), (i21, i22), (i23, i24), l25, l26))))).bnd (fun (l29 : ((Int × ((Int × (Int × (List Int))) × ((Int × Int) × ((Int × Int) × ((List Int) × (List Int)))))) ⊕ ((Int × ((Int × (Int × (List Int))) × ((Int × Int) × ((Int × Int) × ((List Int) × (List Int)))))) ⊕ (((Int × Int) × ((Int × Int) × ((List Int) × (List Int)))) ⊕ (Int × (Int × (List Int))))))) =>
 some (Sum.inr l29))))
 ((i6, (0 : Int)), (i7, i8, l9), (i10, i11), (i12, i13), l14, l15))))
 (fun ((i30, (i31, i32, l33), (i34, i35), (i36, i37), l38, l39) : (Int × ((Int × (Int × (List Int))) × ((Int × Int) × ((Int × Int) × ((List Int) × (List Int))))))) =>
 (fulI 0 (lenN l38) (lenN l38)).bnd (fun (_ : Unit) =>
 (fulI 0 (lenN l39) (lenN l39)).bnd (fun (_ : Unit) =>
 some (Sum.inl (addI .i64 i30 (1 : Int), (i31, i32, l33), (i34, i35), (i36, i37), l38, l39))))))
 (((fulI 0 (lenN l14) (lenN l14)).bnd (fun (_ : Unit) =>
 (fulI 0 (lenN l15) (lenN l15)).bnd (fun (_ : Unit) =>
 some (Sum.inl ((i10, i11), (i12, i13), l14, l15))))).bnd (fun (l40 : (((Int × Int) × ((Int × Int) × ((List Int) × (List Int)))) ⊕ (Int × (Int × (List Int))))) =>
 some (Sum.inr l40))))
 ((0 : Int), (i0, i1, l2), ((0 : Int), (0 : Int)), (i3, i4), ([] : List Int), l5))))
 (fun (((i41, i42), (i43, i44), l45, l46) : ((Int × Int) × ((Int × Int) × ((List Int) × (List Int))))) =>
 (takI l46 (lenN l46)).bnd (fun (l47 : (List Int)) =>
 some (i43, i44, l47)))))

theorem newOk_nat {r c : Nat} (hr : r ≤ 4096) (hc : c ≤ 4096) (h : r * c ≤ 1048576) : newOk ((r : Int), (c : Int)) := by
  refine ⟨⟨by omega, by show (r : Int) ≤ 4096; omega⟩, ⟨by show (0 : Int) ≤ c; omega, by show (c : Int) ≤ 4096; omega⟩, ?_⟩
  show (r : Int) * (c : Int) ≤ 1048576
  have e : (r : Int) * (c : Int) = ((r * c : Nat) : Int) := by norm_cast
  omega
theorem newOk_gen {x : Int × Int} (h : newOk x) : ∃ r c : Nat, x = ((r : Int), (c : Int)) ∧ r ≤ 4096 ∧ c ≤ 4096 ∧ r * c ≤ 1048576 := by
  obtain ⟨r, c⟩ := x
  obtain ⟨h1, h2, h3⟩ := h
  simp only at h1 h2 h3
  obtain ⟨r, rfl⟩ := natI_eq h1.1
  obtain ⟨c, rfl⟩ := natI_eq h2.1
  have e : (r : Int) * (c : Int) = ((r * c : Nat) : Int) := by norm_cast
  exact ⟨r, c, rfl, by omega, by omega, by omega⟩
theorem new_nat {r c : Nat} (hr : r ≤ 4096) (hc : c ≤ 4096) (h : r * c ≤ 1048576) : F_spec_l31New ((r : Int), (c : Int)) = some ((r : Int), (c : Int), genD r c fun _ _ => 0) := by
  simp only [F_spec_l31New, Int.toNat_natCast]
  rw [if_pos (newOk_nat hr hc h)]

theorem newI_nat {r c : Nat} (hr : r ≤ 4096) (hc : c ≤ 4096) (h : r * c ≤ 1048576) : F_impl_emptyMatrix ((r : Int), (c : Int)) = some ((r : Int), (c : Int), genD r c fun _ _ => 0) := new_nat hr hc h

theorem g_new {r c : Nat} (hr : r ≤ 4096) (hc : c ≤ 4096) (h : r * c ≤ 1048576) : G_spec_l31New FUEL ((r : Int), (c : Int)) = some ((r : Int), (c : Int), genD r c fun _ _ => 0) := by
  simp only [G_spec_l31New]
  rw [mulN (by omega) (by omega)]
  have := mkI_nat (n := r * c) (by_ := 8) (by unfold maxBytes; omega)
  rw [show ((r * c : Nat) : Int) = natI (r * c) from rfl, this, bnd_s, genD_rep]
  rw [show takI (genD r c fun _ _ => 0) (r * c) = some (genD r c fun _ _ => 0) by
    have := takI_id (genD r c fun _ _ => (0 : Int))
    rwa [lenN_gen] at this]
  rfl
theorem f_spec_l31New (x : Int × Int) (y : Int × Int × List Int) (h : F_spec_l31New x = some y) : G_spec_l31New FUEL x = some y := by
  simp only [F_spec_l31New] at h
  split at h
  · rename_i hc
    obtain ⟨r, c, rfl, h1, h2, h3⟩ := newOk_gen hc
    rw [← h, g_new h1 h2 h3]; rfl
  · cases h
theorem f_impl_emptyMatrix (x : Int × Int) (y : Int × Int × List Int) (h : F_impl_emptyMatrix x = some y) : G_impl_emptyMatrix FUEL x = some y := f_spec_l31New x y h

theorem f_spec_l05Ints (x y : List Int) (h : F_spec_l05Ints x = some y) : G_spec_l05Ints FUEL x = some y := by
  simp only [F_spec_l05Ints] at h
  split at h
  · rename_i hl
    rw [← h]
    simp only [G_spec_l05Ints]
    rw [show fulI 0 0 (lenN ([] : List Int)) = some () from rfl, bnd_s, fitI_ok (by simp only [addN, lenN, List.length_nil, maxBytes]; omega), bnd_s]
    have : appL [] x = x := rfl
    rw [this, show addN (lenN ([] : List Int)) (lenN x) = lenN x by simp [addN, lenN], takI_id]
    rfl
  · cases h
theorem f_impl_copyInts (x y : List Int) (h : F_impl_copyInts x = some y) : G_impl_copyInts FUEL x = some y := by
  simp only [F_impl_copyInts] at h
  split at h
  · rename_i hl
    rw [← h]
    simp only [G_impl_copyInts]
    rw [fitI_ok (by simp only [addN, lenN, List.length_nil, maxBytes]; omega), bnd_s]
    have : appL [] x = x := rfl
    rw [this, show addN (lenN ([] : List Int)) (lenN x) = lenN x by simp [addN, lenN], takI_id]
    rfl
  · cases h
theorem f_impl_copyMatrix (x y : Int × Int × List Int) (h : F_impl_copyMatrix x = some y) : G_impl_copyMatrix FUEL x = some y := by
  obtain ⟨r, c, l⟩ := x
  simp only [F_impl_copyMatrix] at h
  split at h
  · rename_i hl
    rw [← h]
    simp only [G_impl_copyMatrix, F_impl_copyInts, if_pos hl, bnd_s, takI_id]
  · cases h

theorem natP {a b : Int} (h : 0 ≤ a ∧ a < b) : ∃ n : Nat, a = (n : Int) ∧ ∀ m : Nat, b = (m : Int) → n < m := ⟨a.toNat, by omega, fun m hm => by omega⟩
theorem g_at {r c i j : Nat} {M : Nat → Nat → Int} (hr : r ≤ 4096) (hc : c ≤ 4096) (hi : i < r) (hj : j < c) : G_impl_Matrix_at FUEL (((r : Int), (c : Int), genD r c M), (i : Int), (j : Int)) = some (M i j) := by
  simp only [G_impl_Matrix_at]
  rw [idxI (by omega) (by omega) (by omega), getI_gen M hi hj]; rfl
theorem at_nat {r c i j : Nat} {M : Nat → Nat → Int} (hr : r ≤ 4096) (hc : c ≤ 4096) (h : r * c ≤ 1048576) (hi : i < r) (hj : j < c) : F_impl_Matrix_at (((r : Int), (c : Int), genD r c M), (i : Int), (j : Int)) = some (M i j) := by
  simp only [F_impl_Matrix_at, Int.toNat_natCast]
  rw [if_pos ⟨mOk_mk M hr hc h, by omega, by omega⟩]
  rw [ofD_gen M hi hj]
theorem f_impl_Matrix_at (x : (Int × Int × List Int) × Int × Int) (y : Int) (h : F_impl_Matrix_at x = some y) : G_impl_Matrix_at FUEL x = some y := by
  obtain ⟨m, i, j⟩ := x
  simp only [F_impl_Matrix_at] at h
  split at h
  · rename_i hc
    obtain ⟨h1, h2, h3⟩ := hc
    obtain ⟨r, c, M, rfl, hr, hc, hrc⟩ := mOk_gen h1
    obtain ⟨i, rfl, hi⟩ := natP h2
    obtain ⟨j, rfl, hj⟩ := natP h3
    have hi := hi r rfl; have hj := hj c rfl
    rw [← h, g_at hr hc hi hj]
    exact congrArg some (ofD_gen M hi hj).symm
  · cases h

theorem g_set {r c i j : Nat} {M : Nat → Nat → Int} {x : Int} (hr : r ≤ 4096) (hc : c ≤ 4096) (hi : i < r) (hj : j < c) : G_impl_Matrix_set FUEL (((r : Int), (c : Int), genD r c M), (i : Int), (j : Int), x) = some (genD r c (updM M i j x)) := by
  simp only [G_impl_Matrix_set]
  rw [idxI (by omega) (by omega) (by omega), chkI_gen M hi hj, bnd_s, addN_0, getN_gen M hi hj, bnd_s, setL_gen M hj, samI_gen, bnd_s]
theorem set_nat {r c i j : Nat} {M : Nat → Nat → Int} {x : Int} (hr : r ≤ 4096) (hc : c ≤ 4096) (h : r * c ≤ 1048576) (hi : i < r) (hj : j < c) : F_impl_Matrix_set (((r : Int), (c : Int), genD r c M), (i : Int), (j : Int), x) = some (genD r c (updM M i j x)) := by
  simp only [F_impl_Matrix_set, Int.toNat_natCast]
  rw [if_pos ⟨mOk_mk M hr hc h, by omega, by omega⟩]
  refine (congrArg some (genD_congr fun a ha b hb => ?_))
  unfold updM
  rw [ofD_gen M ha hb]
theorem f_impl_Matrix_set (x : (Int × Int × List Int) × Int × Int × Int) (y : List Int) (h : F_impl_Matrix_set x = some y) : G_impl_Matrix_set FUEL x = some y := by
  obtain ⟨m, i, j, v⟩ := x
  have h0 := h
  simp only [F_impl_Matrix_set] at h
  split at h
  · rename_i hc
    obtain ⟨h1, h2, h3⟩ := hc
    obtain ⟨r, c, M, rfl, hr, hc, hrc⟩ := mOk_gen h1
    obtain ⟨i, rfl, hi⟩ := natP h2
    obtain ⟨j, rfl, hj⟩ := natP h3
    have hi := hi r rfl; have hj := hj c rfl
    rw [← h0, g_set hr hc hi hj, set_nat hr hc hrc hi hj]
  · cases h

/-! ### rows -/

def swapTo (M : Nat → Nat → Int) (a b k : Nat) : Nat → Nat → Int := fun i j => if j < k then swapF M a b i j else M i j
theorem swapTo_0 (M : Nat → Nat → Int) (a b : Nat) : swapTo M a b 0 = M := by funext i j; exact if_neg (by omega)
theorem swap_step {r c : Nat} (M : Nat → Nat → Int) (a b k : Nat) : genD r c (updM (updM (swapTo M a b k) a k (M b k)) b k (M a k)) = genD r c (swapTo M a b (k + 1)) := by
  refine genD_congr fun i _ j _ => ?_
  unfold updM swapTo swapF
  by_cases hj : j = k
  · subst hj
    by_cases hb : i = b
    · by_cases ha : i = a
      · subst hb; subst ha; simp
      · have : b ≠ a := fun e => ha (hb.trans e)
        simp [hb, this]
    · by_cases ha : i = a
      · have : a ≠ b := fun e => hb (ha.trans e)
        simp [ha, this]
      · simp [ha, hb]
  · have h1 : ¬ (i = b ∧ j = k) := fun h => hj h.2
    have h2 : ¬ (i = a ∧ j = k) := fun h => hj h.2
    rw [if_neg h1, if_neg h2]
    by_cases hk : j < k
    · simp only [if_pos hk, if_pos (show j < k + 1 by omega)]
    · simp only [if_neg hk, if_neg (show ¬ j < k + 1 by omega)]
theorem swapTo_end {r c : Nat} (M : Nat → Nat → Int) (a b : Nat) : genD r c (swapTo M a b c) = genD r c (swapF M a b) := genD_congr fun i _ j hj => if_pos hj
theorem swapTo_old (M : Nat → Nat → Int) (a b k i : Nat) : swapTo M a b k i k = M i k := if_neg (by omega)

theorem g_swapS {r c a b : Nat} {M : Nat → Nat → Int} (hr : r ≤ 4096) (hc : c ≤ 4096) (ha : a < r) (hb : b < r) : G_spec_l31Swap FUEL (((r : Int), (c : Int), genD r c M), (a : Int), (b : Int)) = some (genD r c (swapF M a b)) := by
  simp only [G_spec_l31Swap, fulI_id, bnd_s]
  refine loopT_seq (fun k => (((a : Int), (b : Int), (k : Int)), genD r c (swapTo M a b k), (r : Int), (c : Int))) c ?_ ?_ ?_ (FUEL_gt (by omega))
  · intro k hk
    simp only
    rw [cnd_t (ltN_t hk), idxI (by omega) (by omega) (by omega), idxI (by omega) (by omega) (by omega)]
    simp only [chkI_gen _ ha hk, chkI_gen _ hb hk, bnd_s, addN_0, getN_gen _ ha hk, getN_gen _ hb hk, setL_gen _ hk, fulI_gen, swapTo_old, addN1 (show k ≤ 1048577 by omega), swap_step]
  · simp only
    rw [cnd_f (ltN_f (Nat.le_refl c)), samI_gen, bnd_s, bnd_s, swapTo_end]
  · rw [swapTo_0]; rfl
theorem swap_nat {r c a b : Nat} {M : Nat → Nat → Int} (hr : r ≤ 4096) (hc : c ≤ 4096) (h : r * c ≤ 1048576) (ha : a < r) (hb : b < r) : F_spec_l31Swap (((r : Int), (c : Int), genD r c M), (a : Int), (b : Int)) = some (genD r c (swapF M a b)) := by
  simp only [F_spec_l31Swap, Int.toNat_natCast]
  rw [if_pos ⟨mOk_mk M hr hc h, by omega, by omega⟩]
  refine (congrArg some (genD_congr fun i hi j hj => ?_))
  unfold swapF
  rw [ofD_gen M hb hj, ofD_gen M ha hj, ofD_gen M hi hj]
theorem f_spec_l31Swap (x : (Int × Int × List Int) × Int × Int) (y : List Int) (h : F_spec_l31Swap x = some y) : G_spec_l31Swap FUEL x = some y := by
  obtain ⟨m, i, j⟩ := x
  have h0 := h
  simp only [F_spec_l31Swap] at h
  split at h
  · rename_i hc
    obtain ⟨h1, h2, h3⟩ := hc
    obtain ⟨r, c, M, rfl, hr, hc, hrc⟩ := mOk_gen h1
    obtain ⟨i, rfl, hi⟩ := natP h2
    obtain ⟨j, rfl, hj⟩ := natP h3
    have hi := hi r rfl; have hj := hj r rfl
    rw [← h0, g_swapS hr hc hi hj, swap_nat hr hc hrc hi hj]
  · cases h
theorem g_swapI {r c a b : Nat} {M : Nat → Nat → Int} (hr : r ≤ 4096) (hc : c ≤ 4096) (h : r * c ≤ 1048576) (ha : a < r) (hb : b < r) : G_impl_Matrix_swapRows FUEL (((r : Int), (c : Int), genD r c M), (a : Int), (b : Int)) = some (genD r c (swapF M a b)) := by
  simp only [G_impl_Matrix_swapRows, fulI_id, bnd_s, winI_id]
  refine loopT_seq (fun k => (((a : Int), (b : Int), (k : Int)), genD r c (swapTo M a b k), (r : Int), (c : Int))) c ?_ ?_ ?_ (FUEL_gt (by omega))
  · intro k hk
    simp only
    rw [cnd_t (ltN_t hk)]
    simp only [at_nat hr hc h ha hk, at_nat hr hc h hb hk, set_nat hr hc h ha hk, set_nat hr hc h hb hk, bnd_s, fulI_gen, swapTo_old, addN1 (show k ≤ 1048577 by omega), swap_step]
  · simp only
    rw [cnd_f (ltN_f (Nat.le_refl c)), samI_gen, bnd_s, bnd_s, swapTo_end]
  · rw [swapTo_0]; rfl
theorem f_impl_Matrix_swapRows (x : (Int × Int × List Int) × Int × Int) (y : List Int) (h : F_impl_Matrix_swapRows x = some y) : G_impl_Matrix_swapRows FUEL x = some y := by
  obtain ⟨m, i, j⟩ := x
  have h0 : F_spec_l31Swap (m, i, j) = some y := h
  simp only [F_impl_Matrix_swapRows, F_spec_l31Swap] at h
  split at h
  · rename_i hc
    obtain ⟨h1, h2, h3⟩ := hc
    obtain ⟨r, c, M, rfl, hr, hc, hrc⟩ := mOk_gen h1
    obtain ⟨i, rfl, hi⟩ := natP h2
    obtain ⟨j, rfl, hj⟩ := natP h3
    have hi := hi r rfl; have hj := hj r rfl
    rw [← h0, g_swapI hr hc hrc hi hj, swap_nat hr hc hrc hi hj]
  · cases h

def clearTo (p : Int) (M : Nat → Nat → Int) (i k : Nat) (f : Int) (n : Nat) : Nat → Nat → Int := fun a j => if j < n then clearF p M i k f a j else M a j
theorem clearTo_0 (p : Int) (M : Nat → Nat → Int) (i k : Nat) (f : Int) : clearTo p M i k f 0 = M := by funext a j; exact if_neg (by omega)
theorem clear_step {r c : Nat} (p : Int) (M : Nat → Nat → Int) (i k : Nat) (f : Int) (n : Nat) : genD r c (updM (clearTo p M i k f n) i n ((M i n + f * M k n) % p)) = genD r c (clearTo p M i k f (n + 1)) := by
  refine genD_congr fun a _ j _ => ?_
  unfold updM clearTo clearF
  by_cases hj : j = n
  · subst hj
    by_cases ha : a = i
    · subst ha; simp
    · simp [ha]
  · rw [if_neg (fun h => hj h.2)]
    by_cases hk : j < n
    · simp only [if_pos hk, if_pos (show j < n + 1 by omega)]
    · simp only [if_neg hk, if_neg (show ¬ j < n + 1 by omega)]
theorem clearTo_end {r c : Nat} (p : Int) (M : Nat → Nat → Int) (i k : Nat) (f : Int) : genD r c (clearTo p M i k f c) = genD r c (clearF p M i k f) := genD_congr fun a _ j hj => if_pos hj
theorem clearTo_old (p : Int) (M : Nat → Nat → Int) (i k : Nat) (f : Int) (n a : Nat) : clearTo p M i k f n a n = M a n := if_neg (by omega)
theorem g_clear {p x : Int} {r c i k : Nat} {M : Nat → Nat → Int} (hp : pOk p) (hr : r ≤ 4096) (hc : c ≤ 4096) (hi : i < r) (hk : k < r) (hf : 0 ≤ x ∧ x ≤ p) (hM : inM p r c M) :
    G_spec_l31Clear FUEL (p, ((r : Int), (c : Int), genD r c M), (i : Int), (k : Int), x) = some (genD r c (clearF p M i k (p - x))) := by
  simp only [G_spec_l31Clear, fulI_id, bnd_s]
  have hp2 := hp.2
  refine loopT_seq (fun n => ((p, (i : Int), (k : Int), x, (n : Int)), genD r c (clearTo p M i k (p - x) n), (r : Int), (c : Int))) c ?_ ?_ ?_ (FUEL_gt (by omega))
  · intro n hn
    simp only
    rw [cnd_t (ltN_t hn), idxI (by omega) (by omega) (by omega), idxI (by omega) (by omega) (by omega), subI_eq (by omega) (by omega)]
    have h1 := hM i hi n hn
    simp only [chkI_gen _ hi hn, chkI_gen _ hk hn, bnd_s, addN_0, getN_gen _ hi hn, getN_gen _ hk hn, clearTo_old, macI hp (h1.s hp) (show 0 ≤ p - x ∧ p - x ≤ p by omega) (hM k hk n hn).le, setL_gen _ hn, fulI_gen, addN1 (show n ≤ 1048577 by omega), clear_step]
  · simp only
    rw [cnd_f (ltN_f (Nat.le_refl c)), samI_gen, bnd_s, bnd_s, clearTo_end]
  · rw [clearTo_0]; rfl
theorem clear_nat {p x : Int} {r c i k : Nat} {M : Nat → Nat → Int} (hp : pOk p) (hr : r ≤ 4096) (hc : c ≤ 4096) (h : r * c ≤ 1048576) (hi : i < r) (hk : k < r) (hf : 0 ≤ x ∧ x ≤ p) (hM : inM p r c M) :
    F_spec_l31Clear (p, ((r : Int), (c : Int), genD r c M), (i : Int), (k : Int), x) = some (genD r c (clearF p M i k (p - x))) := by
  simp only [F_spec_l31Clear, Int.toNat_natCast]
  rw [if_pos ⟨mOk_mk M hr hc h, hp, by omega, by omega, hf, allP_gen.2 hM⟩]
  refine (congrArg some (genD_congr fun a ha j hj => ?_))
  unfold clearF
  rw [ofD_gen M hi hj, ofD_gen M hk hj, ofD_gen M ha hj]
theorem f_spec_l31Clear (x : Int × (Int × Int × List Int) × Int × Int × Int) (y : List Int) (h : F_spec_l31Clear x = some y) : G_spec_l31Clear FUEL x = some y := by
  obtain ⟨p, m, i, k, f⟩ := x
  have h0 := h
  simp only [F_spec_l31Clear] at h
  split at h
  · rename_i hc
    obtain ⟨h1, hp, h2, h3, hf, hM⟩ := hc
    obtain ⟨r, c, M, rfl, hr, hc, hrc⟩ := mOk_gen h1
    obtain ⟨i, rfl, hi⟩ := natP h2
    obtain ⟨k, rfl, hk⟩ := natP h3
    have hi := hi r rfl; have hk := hk r rfl
    have hM := allP_gen.1 hM
    rw [← h0, g_clear hp hr hc hi hk hf hM, clear_nat hp hr hc hrc hi hk hf hM]
  · cases h

/-! ### pivots, inverses -/

theorem pivF_congr {M M' : Nat → Nat → Int} {j : Nat} : ∀ (d k : Nat), (∀ i, k ≤ i → i < k + d → M i j = M' i j) → pivF M j d k = pivF M' j d k
  | 0, k, _ => rfl
  | d + 1, k, h => by
    simp only [pivF]
    rw [h k (by omega) (by omega), pivF_congr d (k + 1) fun i h1 h2 => h i (by omega) (by omega)]
theorem pivF_lt {M : Nat → Nat → Int} {j q : Nat} : ∀ {d k : Nat}, pivF M j d k = some q → k ≤ q ∧ q < k + d ∧ M q j ≠ 0
  | 0, k, h => by cases h
  | d + 1, k, h => by
    simp only [pivF] at h
    split at h
    · have := pivF_lt h
      exact ⟨by omega, by omega, this.2.2⟩
    · rename_i h0
      injection h with h
      subst h
      exact ⟨by omega, by omega, h0⟩

theorem invG_0 (p out x : Int) : invG p out x 0 = out := by rw [invG]; rfl
theorem invG_s {n : Nat} (h : n ≠ 0) (p out x : Int) : invG p out x n = invG p (if n % 2 = 1 then out * x % p else out) (x * x % p) (n / 2) := by
  rw [invG, dif_neg h]
theorem invG_in {p : Int} (hp : pOk p) : ∀ (n : Nat) (out x : Int), inP p out → inP p (invG p out x n) := by
  intro n
  induction n using Nat.strongRecOn with
  | ind n ih =>
    intro out x ho
    by_cases h : n = 0
    · subst h; rw [invG_0]; exact ho
    · rw [invG_s h]
      refine ih (n / 2) (by omega) _ _ ?_
      split
      · exact emod_in hp _
      · exact ho

theorem inv_step {p out x : Int} {n : Nat} {Y : Type} {o : Option (Int × Int × Int × Int ⊕ Y)} (k : Int × Int × Int × Int → Option Y) (b : Bool) (hb : b = decide (n % 2 = 1)) (hp : pOk p) (ho : inP p out) (hx : inP p x) :
    joinK (cnd b ((remI (mulI .i64 out x) p).bnd fun i => some (Sum.inl (x, (n : Int), p, i))) (some (Sum.inl (x, (n : Int), p, out)))) k = k (x, (n : Int), p, if n % 2 = 1 then out * x % p else out) := by
  subst hb
  by_cases h : n % 2 = 1
  · rw [cnd_t (decide_eq_true h), mulR hp ho.le hx.le, bnd_s, joinK_l, if_pos h]
  · rw [cnd_f (decide_eq_false h), joinK_l, if_neg h]

theorem f_spec_l31Inverse (x : Int × Int) (y : Int) (h : F_spec_l31Inverse x = some y) : G_spec_l31Inverse FUEL x = some y := by
  obtain ⟨p, x⟩ := x
  simp only [F_spec_l31Inverse] at h
  split at h
  · rename_i hc
    obtain ⟨hp, hx⟩ := hc
    have hp1 := hp.1; have hp2 := hp.2
    obtain ⟨n, hn⟩ := natI_eq (show 0 ≤ p - 2 by omega)
    rw [← h]
    simp only [G_spec_l31Inverse]
    rw [subI_eq (by omega) (by omega), hn, Int.toNat_natCast]
    rw [loopT_run (r := Sum.inl (invG p 1 x n)) (fun m s => ∃ out x' : Int, s = (p, x', out, (m : Int)) ∧ m ≤ n ∧ inP p out ∧ inP p x' ∧ invG p out x' m = invG p 1 x n) ?_ n _ ⟨1, x, rfl, by omega, ⟨by omega, by omega⟩, hx, rfl⟩ FUEL (FUEL_gt (by omega))]
    · rw [joinK_l]
    · rintro m s ⟨out, x', rfl, hm, ho, hx', he⟩
      simp only
      by_cases h0 : m = 0
      · subst h0
        left
        rw [cnd_f (ltI_f (by omega)), ← he, invG_0]
      · right
        refine ⟨m / 2, _, by omega, ?_, if m % 2 = 1 then out * x' % p else out, x' * x' % p, rfl, by omega, ?_, emod_in hp _, by rw [← he, invG_s h0]⟩
        · rw [cnd_t (ltI_t (by omega)), remN (by omega) (by omega), bnd_s]
          have hb : eqI ((m : Int) % 2) 1 = decide (m % 2 = 1) := by
            by_cases h1 : m % 2 = 1
            · rw [eqI_t (by omega), decide_eq_true h1]
            · rw [eqI_f (by omega), decide_eq_false h1]
          rw [inv_step (o := none) _ _ hb hp ho hx']
          simp only
          rw [mulR hp hx'.le hx'.le, bnd_s]
          have hq : quoI .i64 (m : Int) 2 = some ((m / 2 : Nat) : Int) := by
            unfold quoI
            rw [if_neg (by omega), Int.tdiv_eq_ediv_of_nonneg (by omega), wrap_id (by omega) (by omega)]
            congr 1
          rw [hq, bnd_s]
        · split
          · exact emod_in hp _
          · exact ho
  · cases h
theorem f_impl_rawInverse (x : Int × Int) (y : Int) (h : F_impl_rawInverse x = some y) : G_impl_rawInverse FUEL x = some y := by
  obtain ⟨p, x⟩ := x
  simp only [F_impl_rawInverse, F_spec_l31Inverse] at h
  split at h
  · rename_i hc
    obtain ⟨hp, hx⟩ := hc
    have hp1 := hp.1; have hp2 := hp.2
    obtain ⟨n, hn⟩ := natI_eq (show 0 ≤ p - 2 by omega)
    rw [← h]
    simp only [G_impl_rawInverse]
    rw [subI_eq (by omega) (by omega), hn, Int.toNat_natCast]
    rw [loopT_run (r := Sum.inl (invG p 1 x n)) (fun m s => ∃ out x' : Int, s = (p, x', out, (m : Int)) ∧ m ≤ n ∧ inP p out ∧ inP p x' ∧ invG p out x' m = invG p 1 x n) ?_ n _ ⟨1, x, rfl, by omega, ⟨by omega, by omega⟩, hx, rfl⟩ FUEL (FUEL_gt (by omega))]
    · rw [joinK_l]
    · rintro m s ⟨out, x', rfl, hm, ho, hx', he⟩
      simp only
      by_cases h0 : m = 0
      · subst h0
        left
        rw [cnd_f (ltI_f (by omega)), ← he, invG_0]
      · right
        refine ⟨m / 2, _, by omega, ?_, if m % 2 = 1 then out * x' % p else out, x' * x' % p, rfl, by omega, ?_, emod_in hp _, by rw [← he, invG_s h0]⟩
        · rw [cnd_t (ltI_t (by omega))]
          have hb : eqI (andI .i64 (m : Int) 1) 1 = decide (m % 2 = 1) := by
            rw [show (1 : Int) = ((1 : Nat) : Int) from rfl, andI_nat (by omega) (by omega), Nat.and_one_is_mod]
            by_cases h1 : m % 2 = 1
            · rw [eqI_t (by omega), decide_eq_true h1]
            · rw [eqI_f (by omega), decide_eq_false h1]
          rw [inv_step (o := none) _ _ hb hp ho hx']
          simp only
          rw [mulR hp hx'.le hx'.le, bnd_s]
          have hq : shrI .i64 (m : Int) 1 = some ((m / 2 : Nat) : Int) := by
            rw [show (1 : Int) = ((1 : Nat) : Int) from rfl, shrI_nat (by omega), Nat.shiftRight_eq_div_pow]
          rw [hq, bnd_s]
        · split
          · exact emod_in hp _
          · exact ho
  · cases h

/-! ### transposed -/

def turnTo (M : Nat → Nat → Int) (i j : Nat) : Nat → Nat → Int := fun a b => if b < i ∨ b = i ∧ a < j then M b a else 0
theorem turn_step {r c : Nat} (M : Nat → Nat → Int) (i j : Nat) : genD c r (updM (turnTo M i j) j i (M i j)) = genD c r (turnTo M i (j + 1)) := by
  refine genD_congr fun a _ b _ => ?_
  unfold updM turnTo
  by_cases h : a = j ∧ b = i
  · obtain ⟨rfl, rfl⟩ := h
    simp
  · rw [if_neg h]
    by_cases h1 : b < i ∨ b = i ∧ a < j
    · simp only [if_pos h1, if_pos (show b < i ∨ b = i ∧ a < j + 1 by omega)]
    · simp only [if_neg h1, if_neg (show ¬ (b < i ∨ b = i ∧ a < j + 1) by omega)]
theorem turn_row {r c : Nat} (M : Nat → Nat → Int) (i : Nat) : genD c r (turnTo M i c) = genD c r (turnTo M (i + 1) 0) := by
  refine genD_congr fun a ha b _ => ?_
  unfold turnTo
  by_cases h1 : b < i ∨ b = i ∧ a < c
  · rw [if_pos h1, if_pos (by omega)]
  · rw [if_neg h1, if_neg (by omega)]
theorem turn_end {r c : Nat} (M : Nat → Nat → Int) : genD c r (turnTo M r 0) = genD c r (turnF M) := genD_congr fun a ha b hb => if_pos (.inl hb)
theorem turn_0 {r c : Nat} (M : Nat → Nat → Int) : genD c r (turnTo M 0 0) = genD c r fun _ _ => 0 := genD_congr fun a ha b hb => if_neg (by omega)

theorem g_turn {r c : Nat} {M : Nat → Nat → Int} (hr : r ≤ 4096) (hc : c ≤ 4096) (h : r * c ≤ 1048576) : G_spec_l31Turn FUEL ((r : Int), (c : Int), genD r c M) = some ((c : Int), (r : Int), genD c r (turnF M)) := by
  simp only [G_spec_l31Turn, new_nat hc hr (by rw [Nat.mul_comm]; exact h), bnd_s, fulI_id]
  rw [show fulI 0 0 (lenN ([] : List Int)) = some () from rfl, bnd_s]
  rw [loopT_seq (r := Sum.inl (((0 : Int), (0 : Int)), ((c : Int), (r : Int)), ([] : List Int), genD c r (turnF M))) (fun i => ((i : Int), ((r : Int), (c : Int), genD r c M), ((0 : Int), (0 : Int)), ((c : Int), (r : Int)), ([] : List Int), genD c r (turnTo M i 0))) r ?_ ?_ ?_ (FUEL_gt (by omega))]
  · rw [joinK_l]; simp only [takI_id, bnd_s]
  · intro i hi
    simp only
    rw [cnd_t (ltN_t hi)]
    rw [loopT_seq (r := Sum.inl ((i : Int), ((r : Int), (c : Int), genD r c M), ((0 : Int), (0 : Int)), ((c : Int), (r : Int)), ([] : List Int), genD c r (turnTo M (i + 1) 0))) (fun j => (((i : Int), (j : Int)), ((r : Int), (c : Int), genD r c M), ((0 : Int), (0 : Int)), ((c : Int), (r : Int)), ([] : List Int), genD c r (turnTo M i j))) c ?_ ?_ ?_ (FUEL_gt (by omega))]
    · rw [joinK_l]; simp only [addN1 (show i ≤ 1048577 by omega)]
    · intro j hj
      simp only
      rw [cnd_t (ltN_t hj), idxI (by omega) (by omega) (by omega), idxI (by omega) (by omega) (by omega), getI_gen M hi hj, bnd_s]
      simp only [chkI_gen _ hj hi, bnd_s, addN_0, getN_gen _ hj hi, setL_gen _ hi, fulI_gen, turn_step (r := r) (c := c), addN1 (show j ≤ 1048577 by omega)]
    · simp only
      rw [cnd_f (ltN_f (Nat.le_refl c)), turn_row]
    · rfl
  · simp only
    rw [cnd_f (ltN_f (Nat.le_refl r)), turn_end]
  · rw [turn_0]; rfl
theorem turn_nat {r c : Nat} {M : Nat → Nat → Int} (hr : r ≤ 4096) (hc : c ≤ 4096) (h : r * c ≤ 1048576) : F_spec_l31Turn ((r : Int), (c : Int), genD r c M) = some ((c : Int), (r : Int), genD c r (turnF M)) := by
  simp only [F_spec_l31Turn, Int.toNat_natCast]
  rw [if_pos (mOk_mk M hr hc h)]
  refine (congrArg (fun l => some ((c : Int), (r : Int), l)) (genD_congr fun a ha b hb => ofD_gen M hb ha))
theorem f_spec_l31Turn (x y : Int × Int × List Int) (h : F_spec_l31Turn x = some y) : G_spec_l31Turn FUEL x = some y := by
  have h0 := h
  simp only [F_spec_l31Turn] at h
  split at h
  · rename_i hc
    obtain ⟨r, c, M, rfl, hr, hc, hrc⟩ := mOk_gen hc
    rw [← h0, g_turn hr hc hrc, turn_nat hr hc hrc]
  · cases h
theorem g_turnI {r c : Nat} {M : Nat → Nat → Int} (hr : r ≤ 4096) (hc : c ≤ 4096) (h : r * c ≤ 1048576) : G_impl_rawTranspose FUEL ((r : Int), (c : Int), genD r c M) = some ((c : Int), (r : Int), genD c r (turnF M)) := by
  have h' : c * r ≤ 1048576 := by rw [Nat.mul_comm]; exact h
  simp only [G_impl_rawTranspose, newI_nat hc hr h', bnd_s, fulI_id]
  rw [show fulI 0 0 (lenN ([] : List Int)) = some () from rfl, bnd_s]
  rw [loopT_seq (r := Sum.inl (((0 : Int), (0 : Int)), ((c : Int), (r : Int)), ([] : List Int), genD c r (turnF M))) (fun i => ((i : Int), ((r : Int), (c : Int), genD r c M), ((0 : Int), (0 : Int)), ((c : Int), (r : Int)), ([] : List Int), genD c r (turnTo M i 0))) r ?_ ?_ ?_ (FUEL_gt (by omega))]
  · rw [joinK_l]; simp only [takI_id, bnd_s]
  · intro i hi
    simp only
    rw [cnd_t (ltN_t hi)]
    rw [loopT_seq (r := Sum.inl ((i : Int), ((r : Int), (c : Int), genD r c M), ((0 : Int), (0 : Int)), ((c : Int), (r : Int)), ([] : List Int), genD c r (turnTo M (i + 1) 0))) (fun j => (((i : Int), (j : Int)), ((r : Int), (c : Int), genD r c M), ((0 : Int), (0 : Int)), ((c : Int), (r : Int)), ([] : List Int), genD c r (turnTo M i j))) c ?_ ?_ ?_ (FUEL_gt (by omega))]
    · rw [joinK_l]; simp only [addN1 (show i ≤ 1048577 by omega)]
    · intro j hj
      simp only
      rw [cnd_t (ltN_t hj)]
      simp only [at_nat hr hc h hi hj, set_nat hc hr h' hj hi, bnd_s, fulI_gen, turn_step (r := r) (c := c), addN1 (show j ≤ 1048577 by omega)]
    · simp only
      rw [cnd_f (ltN_f (Nat.le_refl c)), turn_row]
    · rfl
  · simp only
    rw [cnd_f (ltN_f (Nat.le_refl r)), turn_end]
  · rw [turn_0]; rfl
theorem f_impl_rawTranspose (x y : Int × Int × List Int) (h : F_impl_rawTranspose x = some y) : G_impl_rawTranspose FUEL x = some y := by
  have h0 : F_spec_l31Turn x = some y := h
  simp only [F_impl_rawTranspose, F_spec_l31Turn] at h
  split at h
  · rename_i hc
    obtain ⟨r, c, M, rfl, hr, hc, hrc⟩ := mOk_gen hc
    rw [← h0, g_turnI hr hc hrc, turn_nat hr hc hrc]
  · cases h

/-! ### products -/

end Go.Am
end
section
namespace Go.Am
/-! ### transposes, products and swaps of good matrices -/

def sopOk (x : Int × Int × Int) : Prop := isPrimeI x.1 = true ∧ (1 ≤ x.2.1 ∧ x.2.1 ≤ 8) ∧ (1 ≤ x.2.2 ∧ x.2.2 ≤ 8)
instance (x : Int × Int × Int) : Decidable (sopOk x) := by unfold sopOk; infer_instance
theorem inM_of {p : Int} {r c : Nat} {l : List Int} (h : l.length = r * c) (hr : rowOk p l = true) : inM p r c (ofD c l) := by
  apply allP_gen.1
  rw [genD_of h]
  intro x hx
  have := List.all_eq_true.1 hr x hx
  exact of_decide_eq_true this
theorem matOk_nat {m : Int} {x : Int × Int × List Int} (h : matOk m x = true) : ∃ (r c : Nat) (M : Nat → Nat → Int), x = ((r : Int), (c : Int), genD r c M) ∧ pOk m ∧ r ≤ 64 ∧ c ≤ 64 ∧ r * c ≤ 4096 ∧ inM m r c M := by
  obtain ⟨r, c, l⟩ := x
  simp only [matOk, Bool.and_eq_true, decide_eq_true_eq] at h
  obtain ⟨h1, h2, h3, h4, h5⟩ := h
  obtain ⟨r, rfl⟩ := natI_eq (z := r) (by omega)
  obtain ⟨c, rfl⟩ := natI_eq (z := c) (by omega)
  have hl : l.length = r * c := by
    have e : (r : Int) * (c : Int) = ((r * c : Nat) : Int) := by norm_cast
    omega
  have hrc : r * c ≤ 64 * 64 := Nat.mul_le_mul (by omega) (by omega)
  exact ⟨r, c, ofD c l, by rw [genD_of hl], isPrimeI_t h1, by omega, by omega, by omega, inM_of hl h5⟩

/-! ### the swap operator -/

theorem addNN {x y : Nat} (h : x + y ≤ 1099511627776) : addI .i64 (x : Int) (y : Int) = ((x + y : Nat) : Int) := by
  rw [addI_eq (by omega) (by omega)]
  omega
end Go.Am
end
section
namespace Go.Am
/-! ### reduced forms -/

abbrev Mat := Nat → Nat → Int
def sclF (p inv : Int) (M : Mat) (t : Nat) : Mat := fun a b => if a = t then M t b * inv % p else M a b
def clrF (p : Int) (M : Mat) (t j n : Nat) : Mat := fun a b => if a < n ∧ a ≠ t then (M a b + (p - M a j) * M t b) % p else M a b
def pivS (p : Int) (M : Mat) (t j k : Nat) : Mat := sclF p (invG p 1 (swapF M t k t j) (p - 2).toNat) (swapF M t k) t
def redD (p : Int) (M : Mat) (t j k : Nat) (d : Int) : Int := (if k = t then d else (p - d) % p) * swapF M t k t j % p
def redS (p : Int) (r : Nat) (s : Mat × List Int × Int) (j : Nat) : Mat × List Int × Int :=
  if s.2.1.length < r then
    match pivF s.1 j (r - s.2.1.length) s.2.1.length with
    | none => s
    | some k => (clrF p (pivS p s.1 s.2.1.length j k) s.2.1.length j r, s.2.1 ++ [(j : Int)], redD p s.1 s.2.1.length j k s.2.2)
  else s
def redN (p : Int) (r : Nat) (M : Mat) : Nat → Mat × List Int × Int
  | 0 => (M, [], 1)
  | j + 1 => redS p r (redN p r M j) j
def redOk (x : Int × Int × Int × List Int) : Prop := pOk x.1 ∧ mOk x.2 ∧ allP x.1 x.2.2.2
instance (x : Int × Int × Int × List Int) : Decidable (redOk x) := by unfold redOk; infer_instance
theorem stop_ex (P : Nat → Prop) [DecidablePred P] : ∀ c : Nat, ∃ n, n ≤ c ∧ (∀ j, j < n → P j) ∧ (n = c ∨ ¬ P n)
  | 0 => ⟨0, Nat.le_refl 0, fun j hj => absurd hj (Nat.not_lt_zero j), .inl rfl⟩
  | c + 1 => by
    obtain ⟨n, h1, h2, h3⟩ := stop_ex P c
    by_cases h : P n
    · rcases h3 with h3 | h3
      · subst h3
        refine ⟨n + 1, Nat.le_refl _, fun j hj => ?_, .inl rfl⟩
        by_cases hj' : j = n
        · subst hj'; exact h
        · exact h2 j (by omega)
      · exact absurd h h3
    · exact ⟨n, by omega, h2, .inr h⟩

theorem swapF_in {p : Int} {r c : Nat} {M : Mat} (hM : inM p r c M) {a b : Nat} (ha : a < r) (hb : b < r) : inM p r c (swapF M a b) := by
  intro i hi j hj
  unfold swapF
  split
  · exact hM b hb j hj
  · split
    · exact hM a ha j hj
    · exact hM i hi j hj
theorem sclF_in {p inv : Int} {r c : Nat} {M : Mat} (hp : pOk p) (hM : inM p r c M) (t : Nat) : inM p r c (sclF p inv M t) := by
  intro i hi j hj
  unfold sclF
  split
  · exact emod_in hp _
  · exact hM i hi j hj
theorem clrF_in {p : Int} {r c : Nat} {M : Mat} (hp : pOk p) (hM : inM p r c M) (t k n : Nat) : inM p r c (clrF p M t k n) := by
  intro i hi j hj
  unfold clrF
  split
  · exact emod_in hp _
  · exact hM i hi j hj
theorem one_in {p : Int} (hp : pOk p) : inP p 1 := ⟨by omega, by have := hp.1; omega⟩
theorem pivS_in {p : Int} {r c : Nat} {M : Mat} (hp : pOk p) (hM : inM p r c M) {t k : Nat} (ht : t < r) (hk : k < r) (j : Nat) : inM p r c (pivS p M t j k) := sclF_in hp (swapF_in hM ht hk) t

structure RI (p : Int) (r c : Nat) (s : Mat × List Int × Int) (j : Nat) : Prop where
  m : inM p r c s.1
  l : s.2.1.length ≤ r
  lj : s.2.1.length ≤ j
  d : inP p s.2.2
  e : ∀ x ∈ s.2.1, 0 ≤ x ∧ x < (j : Int)
theorem RI.step {p : Int} {r c : Nat} {s : Mat × List Int × Int} {j : Nat} (hp : pOk p) (h : RI p r c s j) : RI p r c (redS p r s j) (j + 1) := by
  have keep : RI p r c s (j + 1) := ⟨h.m, h.l, by have := h.lj; omega, h.d, fun x hx => by have := h.e x hx; omega⟩
  unfold redS
  split
  · rename_i hl
    split
    · exact keep
    · rename_i k hk
      have hq := pivF_lt hk
      refine ⟨clrF_in hp (pivS_in hp h.m hl (by omega) j) _ _ _, ?_, ?_, emod_in hp _, ?_⟩
      · simp only [List.length_append, List.length_cons, List.length_nil]; omega
      · have := h.lj
        simp only [List.length_append, List.length_cons, List.length_nil]; omega
      · intro x hx
        simp only [List.mem_append, List.mem_singleton] at hx
        rcases hx with hx | rfl
        · have := h.e x hx; omega
        · omega
  · exact keep
theorem clrF_0 {p : Int} (M : Mat) (t j : Nat) : clrF p M t j 0 = M := by funext a b; exact if_neg (by omega)
theorem clrF_old {p : Int} (M : Mat) (t j n b : Nat) : clrF p M t j n n b = M n b := if_neg (by omega)
theorem clrF_t {p : Int} (M : Mat) (t j n b : Nat) : clrF p M t j n t b = M t b := if_neg (by omega)
theorem clrF_skip {p : Int} (M : Mat) (t j : Nat) : clrF p M t j (t + 1) = clrF p M t j t := by
  funext a b
  unfold clrF
  by_cases h : a < t
  · rw [if_pos (by omega), if_pos (by omega)]
  · rw [if_neg (by omega), if_neg (by omega)]
theorem pivF_none {M : Mat} {j : Nat} : ∀ {d k : Nat}, pivF M j d k = none → ∀ i, k ≤ i → i < k + d → M i j = 0
  | 0, k, _, i, h1, h2 => by omega
  | d + 1, k, h, i, h1, h2 => by
    simp only [pivF] at h
    split at h
    · rename_i h0
      by_cases hi : i = k
      · rw [hi]; exact h0
      · exact pivF_none h i (by omega) (by omega)
    · cases h
theorem pivF_before {M : Mat} {j q : Nat} : ∀ {d k : Nat}, pivF M j d k = some q → ∀ i, k ≤ i → i < q → M i j = 0
  | 0, k, h, i, h1, h2 => by cases h
  | d + 1, k, h, i, h1, h2 => by
    simp only [pivF] at h
    split at h
    · rename_i h0
      by_cases hi : i = k
      · rw [hi]; exact h0
      · exact pivF_before h i (by omega) h2
    · have := Option.some.inj h; omega
theorem subR {p d : Int} (hp : pOk p) (hd : inP p d) : remI (subI .i64 p d) p = some ((p - d) % p) := by
  have h1 := hp.1; have h2 := hp.2; have h3 := hd.1; have h4 := hd.2
  rw [subI_eq (by omega) (by omega), remN (by omega) (by omega)]
theorem redS_n {p : Int} {r : Nat} {s : Mat × List Int × Int} {j : Nat} (hl : s.2.1.length < r) (h : pivF s.1 j (r - s.2.1.length) s.2.1.length = none) : redS p r s j = s := by
  unfold redS
  rw [if_pos hl, h]
theorem redS_s {p : Int} {r : Nat} {s : Mat × List Int × Int} {j k : Nat} (hl : s.2.1.length < r) (h : pivF s.1 j (r - s.2.1.length) s.2.1.length = some k) :
    redS p r s j = (clrF p (pivS p s.1 s.2.1.length j k) s.2.1.length j r, s.2.1 ++ [(j : Int)], redD p s.1 s.2.1.length j k s.2.2) := by
  unfold redS
  rw [if_pos hl, h]
theorem inv_nat {p x : Int} (hp : pOk p) (hx : inP p x) : F_spec_l31Inverse (p, x) = some (invG p 1 x (p - 2).toNat) := if_pos ⟨hp, hx⟩
theorem invI_nat {p x : Int} (hp : pOk p) (hx : inP p x) : F_impl_rawInverse (p, x) = some (invG p 1 x (p - 2).toNat) := if_pos ⟨hp, hx⟩
theorem winI_gen {r c : Nat} (M M' : Mat) : winI (genD r c M) 0 (lenN (genD r c M')) = some (genD r c M) := winI_len (by rw [lenN_gen]; exact (genD_len r c M))
/-! ### the walk of the spec's reduction -/

section
variable {p : Int} {r c : Nat} {M0 : Mat}

end
/-! ### the walk of the program's reduction -/

section
variable {p : Int} {r c : Nat} {M0 : Mat}

end

end Go.Am
end
section
namespace Go.Am
/-! ### ranks, reduced forms and factors of good matrices -/

theorem matOk_red {m : Int} {x : Int × Int × List Int} (h : matOk m x = true) : ∃ (r c : Nat) (M : Mat), x = ((r : Int), (c : Int), genD r c M) ∧ pOk m ∧ r ≤ 64 ∧ c ≤ 64 ∧ r * c ≤ 4096 ∧ inM m r c M ∧ M = ofD c (genD r c M) ∧ redOk (m, x) := by
  obtain ⟨r, c, M, rfl, hp, hr, hc, hrc, hM⟩ := matOk_nat h
  have e : genD r c (ofD c (genD r c M)) = genD r c M := genD_of (genD_len r c M)
  refine ⟨r, c, ofD c (genD r c M), by rw [e], hp, hr, hc, hrc, allP_gen.1 (by rw [e]; exact allP_gen.2 hM), by rw [e], hp, mOk_mk M (by omega) (by omega) (by omega), allP_gen.2 hM⟩
/-! ### factors -/

section
variable {p : Int} {r c : Nat} {M R : Mat} {L : List Int}

end

end Go.Am
end
section
namespace Go.Am

def ch : Nat → Nat → Nat
  | _, 0 => 1
  | 0, _ + 1 => 0
  | n + 1, k + 1 => ch n k + ch n (k + 1)

theorem ch_gt : ∀ {n k : Nat}, n < k → ch n k = 0
  | 0, k + 1, _ => by simp [ch]
  | n + 1, k + 1, h => by simp [ch, ch_gt (show n < k by omega), ch_gt (show n < k + 1 by omega)]
theorem ch_0 (n : Nat) : ch n 0 = 1 := by cases n <;> rfl
theorem ch_self : ∀ n, ch n n = 1
  | 0 => rfl
  | n + 1 => by simp [ch, ch_self n, ch_gt (Nat.lt_succ_self n)]

theorem ch_mul : ∀ (n k : Nat), (k + 1) * ch (n + 1) (k + 1) = (n + 1) * ch n k
  | 0, 0 => by simp [ch]
  | 0, k + 1 => by simp [ch]
  | n + 1, 0 => by
    have h := ch_mul n 0
    simp only [ch_0] at h ⊢
    have e : ch (n + 1 + 1) (0 + 1) = ch (n + 1) 0 + ch (n + 1) (0 + 1) := rfl
    rw [e, ch_0]
    omega
  | n + 1, k + 1 => by
    have h1 := ch_mul n k
    have h2 := ch_mul n (k + 1)
    have e1 : ch (n + 1 + 1) (k + 1 + 1) = ch (n + 1) (k + 1) + ch (n + 1) (k + 1 + 1) := rfl
    have e2 : ch (n + 1) (k + 1) = ch n k + ch n (k + 1) := rfl
    rw [e1]
    generalize ch (n + 1) (k + 1 + 1) = B at *
    generalize ch (n + 1) (k + 1) = A at *
    generalize ch n k = u at *
    generalize ch n (k + 1) = v at *
    subst e2
    grind

def sumF (f : Nat → Nat) : Nat → Nat
  | 0 => 0
  | m + 1 => sumF f m + f m

theorem sum_step (n a : Nat) : ∀ m, sumF (fun k => ch (n + 1) k * a ^ k) (m + 1) = sumF (fun k => ch n k * a ^ k) (m + 1) + a * sumF (fun k => ch n k * a ^ k) m
  | 0 => by simp [sumF, ch_0]
  | m + 1 => by
    have h := sum_step n a m
    simp only [sumF] at h ⊢
    have e : ch (n + 1) (m + 1) = ch n m + ch n (m + 1) := rfl
    rw [h, e, Nat.pow_succ]
    grind

theorem binom (a : Nat) : ∀ n, (a + 1) ^ n = sumF (fun k => ch n k * a ^ k) (n + 1)
  | 0 => by simp [sumF, ch_0]
  | n + 1 => by
    rw [sum_step]
    have e : sumF (fun k => ch n k * a ^ k) (n + 1 + 1) = sumF (fun k => ch n k * a ^ k) (n + 1) := by
      show sumF _ (n + 1) + ch n (n + 1) * a ^ (n + 1) = _
      rw [ch_gt (Nat.lt_succ_self n)]; simp
    rw [e, ← binom a n, Nat.pow_succ]
    grind

theorem sum_mod {p : Nat} {f : Nat → Nat} : ∀ m, (∀ k, 0 < k → k ≤ m → p ∣ f k) → sumF f (m + 1) % p = f 0 % p
  | 0, h => by simp [sumF]
  | m + 1, h => by
    have i := sum_mod m fun k h1 h2 => h k h1 (by omega)
    obtain ⟨c, hc⟩ := h (m + 1) (by omega) (Nat.le_refl _)
    show (sumF f (m + 1) + f (m + 1)) % p = _
    rw [hc, Nat.add_mul_mod_self_left, i]

def PrimeN (p : Nat) : Prop := 2 ≤ p ∧ ∀ d, d ∣ p → d = 1 ∨ d = p

theorem PrimeN.cop {p a : Nat} (hp : PrimeN p) (h : ¬ p ∣ a) : Nat.Coprime p a := by
  have := hp.2 (Nat.gcd p a) (Nat.gcd_dvd_left p a)
  rcases this with h1 | h1
  · exact h1
  · exact absurd (h1 ▸ Nat.gcd_dvd_right p a) h

theorem PrimeN.ch {p k : Nat} (hp : PrimeN p) (h1 : 0 < k) (h2 : k < p) : p ∣ ch p k := by
  obtain ⟨q, rfl⟩ : ∃ q, p = q + 1 := ⟨p - 1, by omega⟩
  obtain ⟨j, rfl⟩ : ∃ j, k = j + 1 := ⟨k - 1, by omega⟩
  have hm := ch_mul q j
  have hd : (q + 1) ∣ (j + 1) * Go.Am.ch (q + 1) (j + 1) := ⟨Go.Am.ch q j, hm⟩
  exact (hp.cop fun h => absurd (Nat.le_of_dvd (by omega) h) (by omega)).dvd_of_dvd_mul_left hd

theorem fermat0 {p : Nat} (hp : PrimeN p) : ∀ a, a ^ p % p = a % p
  | 0 => by rw [Nat.zero_pow (by have := hp.1; omega)]
  | a + 1 => by
    rw [binom]
    show (sumF _ p + Go.Am.ch p p * a ^ p) % p = _
    obtain ⟨q, rfl⟩ : ∃ q, p = q + 1 := ⟨p - 1, by have := hp.1; omega⟩
    have h := sum_mod (p := q + 1) (f := fun k => Go.Am.ch (q + 1) k * a ^ k) q fun k h1 h2 => Nat.dvd_trans (hp.ch h1 (by omega)) (Nat.dvd_mul_right _ _)
    rw [ch_self, Nat.one_mul, Nat.add_mod, h, fermat0 hp a]
    simp only [ch_0, Nat.pow_zero, Nat.mul_one]
    rw [← Nat.add_mod, Nat.add_comm]

theorem fermat {p a : Nat} (hp : PrimeN p) (ha : ¬ p ∣ a) : a * a ^ (p - 2) % p = 1 := by
  have h2 := hp.1
  have h := fermat0 hp a
  have e : a ^ p = a * (a * a ^ (p - 2)) := by
    obtain ⟨q, rfl⟩ : ∃ q, p = q + 2 := ⟨p - 2, by omega⟩
    rw [Nat.pow_succ, Nat.pow_succ, Nat.add_sub_cancel]
    rw [Nat.mul_comm a (a ^ q), Nat.mul_comm a (a ^ q * a)]
  rw [e] at h
  have ha0 : 0 < a := by
    rcases Nat.eq_zero_or_pos a with h | h
    · subst h; exact absurd ⟨0, by simp⟩ ha
    · exact h
  have hz : 0 < a * a ^ (p - 2) := Nat.mul_pos ha0 (Nat.pow_pos ha0)
  generalize a * a ^ (p - 2) = z at h hz ⊢
  obtain ⟨y, rfl⟩ : ∃ y, z = y + 1 := ⟨z - 1, by omega⟩
  have hd : p ∣ a * y := by
    have e : a * (y + 1) = a * y + a := by rw [Nat.mul_add, Nat.mul_one]
    rw [e] at h
    have : (a * y + a - a) % p = 0 := Nat.sub_mod_eq_zero_of_mod_eq h
    rw [Nat.add_sub_cancel] at this
    exact Nat.dvd_of_mod_eq_zero this
  obtain ⟨c, rfl⟩ := (hp.cop ha).dvd_of_dvd_mul_left hd
  rw [Nat.add_comm, Nat.add_mul_mod_self_left]
  exact Nat.mod_eq_of_lt (by omega)

end Go.Am
end
section
namespace Go.Am

/-! ### inverses modulo p -/

theorem isPrimeI_N {p : Int} (h : isPrimeI p = true) : PrimeN p.toNat := by
  have hp := isPrimeI_t h
  obtain ⟨n, rfl⟩ := natI_eq (show 0 ≤ p by omega)
  simp only [Int.toNat_natCast]
  refine ⟨by omega, fun d hd => ?_⟩
  rcases Nat.lt_or_ge d 2 with h2 | h2
  · rcases Nat.eq_zero_or_pos d with h0 | h0
    · subst h0
      have := Nat.eq_zero_of_zero_dvd hd
      omega
    · exact .inl (by omega)
  · obtain ⟨e, he⟩ := hd
    simp only [isPrimeI, Bool.and_eq_true, decide_eq_true_eq, Bool.not_eq_true', List.any_eq_false] at h
    have key : ∀ a b : Nat, 2 ≤ a → 2 ≤ b → a ≤ b → n ≠ a * b := by
      intro a b ha hb hab e
      have h1 : a * a ≤ n := by rw [e]; exact Nat.mul_le_mul_left _ hab
      have h3 : a < 1001 := by
        rcases Nat.lt_or_ge a 1001 with h | h
        · exact h
        · have := Nat.mul_le_mul h h; omega
      refine h.2 a (by simp; omega) ?_
      unfold divAt
      have ea : ((a : Int)) * (a : Int) = ((a * a : Nat) : Int) := by norm_cast
      simp only [Bool.and_eq_true, decide_eq_true_eq]
      constructor
      · rw [ea]; omega
      · rw [e]; push_cast; exact Int.mul_emod_right _ _
    right
    rcases Nat.lt_or_ge e 2 with h3 | h3
    · have : e = 1 := by
        rcases Nat.eq_zero_or_pos e with h0 | h0
        · subst h0; simp at he; omega
        · omega
      subst this; omega
    · exfalso
      rcases Nat.le_total d e with hde | hde
      · exact key d e h2 h3 hde he
      · exact key e d h3 h2 hde (by rw [he, Nat.mul_comm])

theorem pow_sq (x : Int) (b : Nat) : ∀ m : Nat, (x * x) ^ m * x ^ b = x ^ (2 * m + b)
  | 0 => by simp
  | m + 1 => by
    have ih := pow_sq x b m
    rw [show 2 * (m + 1) + b = 2 * m + b + 1 + 1 by omega, Int.pow_succ, Int.pow_succ (n := 2 * m + b + 1), Int.pow_succ (n := 2 * m + b), ← ih]
    grind

theorem invG_pow {p : Int} (hp : pOk p) : ∀ (n : Nat) (out x : Int), invG p out x n % p = out * x ^ n % p := by
  intro n
  induction n using Nat.strongRecOn with
  | ind n ih =>
    intro out x
    by_cases h0 : n = 0
    · subst h0; rw [invG_0]; simp
    · rw [invG_s h0, ih (n / 2) (by omega)]
      have e : x ^ n = (x * x) ^ (n / 2) * x ^ (n % 2) := by
        rw [pow_sq, Nat.div_add_mod]
      rw [e]
      have h1 : ((x * x % p) ^ (n / 2)) % p = ((x * x) ^ (n / 2)) % p := by
        have : ∀ k : Nat, ((x * x % p) ^ k) % p = ((x * x) ^ k) % p := by
          intro k
          induction k with
          | zero => simp
          | succ k ih => rw [Int.pow_succ, Int.pow_succ, Int.mul_emod, ih, Int.emod_emod, ← Int.mul_emod]
        exact this _
      by_cases hb : n % 2 = 1
      · rw [if_pos hb, hb, Int.mul_emod, h1, Int.emod_emod, ← Int.mul_emod]
        congr 1
        grind
      · rw [if_neg hb, show n % 2 = 0 by omega, Int.mul_emod, h1, ← Int.mul_emod]
        congr 1
        grind

theorem inv_one {p x : Int} (hpr : isPrimeI p = true) (hx : inP p x) (h0 : x ≠ 0) : x * invG p 1 x (p - 2).toNat % p = 1 := by
  have hp := isPrimeI_t hpr
  have hp' : pOk p := ⟨hp.1, hp.2⟩
  obtain ⟨n, rfl⟩ := natI_eq (show 0 ≤ p by omega)
  obtain ⟨a, rfl⟩ := natI_eq hx.1
  have hN := isPrimeI_N hpr
  simp only [Int.toNat_natCast] at hN
  have ha : ¬ n ∣ a := fun h => by
    have := Nat.le_of_dvd (by omega) h
    have := hx.2
    omega
  have hf := fermat hN ha
  have e : (((n : Int)) - 2).toNat = n - 2 := by omega
  rw [Int.mul_emod, invG_pow hp', e, Int.one_mul, ← Int.mul_emod]
  exact_mod_cast hf

/-! ### sums -/

def sumD (f g : Nat → Int) : Nat → Int
  | 0 => 0
  | n + 1 => sumD f g n + f n * g n

theorem sumD_mod {p : Int} {f f' g : Nat → Int} : ∀ n, (∀ k, k < n → ∃ q, f k = f' k + p * q) → ∃ q, sumD f g n = sumD f' g n + p * q
  | 0, _ => ⟨0, by simp [sumD]⟩
  | n + 1, h => by
    obtain ⟨q, hq⟩ := sumD_mod (g := g) n fun k hk => h k (by omega)
    obtain ⟨q', hq'⟩ := h n (by omega)
    exact ⟨q + q' * g n, by simp only [sumD, hq, hq']; grind⟩
theorem sumD_l (f f2 g : Nat → Int) (c : Int) : ∀ n, sumD (fun k => f k + c * f2 k) g n = sumD f g n + c * sumD f2 g n
  | 0 => by simp [sumD]
  | n + 1 => by simp only [sumD, sumD_l f f2 g c n]; grind
theorem sumD_r (f g g2 : Nat → Int) (c : Int) : ∀ n, sumD f (fun k => g k - c * g2 k) n = sumD f g n - c * sumD f g2 n
  | 0 => by simp [sumD]
  | n + 1 => by simp only [sumD, sumD_r f g g2 c n]; grind
theorem sumD_sl (f g : Nat → Int) (c : Int) : ∀ n, sumD (fun k => f k * c) g n = sumD f g n * c
  | 0 => by simp [sumD]
  | n + 1 => by simp only [sumD, sumD_sl f g c n]; grind
theorem sumD_sr (f g : Nat → Int) (c : Int) : ∀ n, sumD f (fun k => g k * c) n = sumD f g n * c
  | 0 => by simp [sumD]
  | n + 1 => by simp only [sumD, sumD_sr f g c n]; grind
/-! ### a right inverse is kept by row operations -/

def dl (a b : Nat) : Int := if a = b then 1 else 0

def RInv (p : Int) (n : Nat) (E X : Mat) : Prop := ∀ a, a < n → ∀ b, b < n → ∃ q, sumD (E a) (fun k => X k b) n = dl a b + p * q

theorem RInv.congr {p : Int} {n : Nat} {E E' X : Mat} (h : RInv p n E X) (he : ∀ a, a < n → ∀ k, k < n → ∃ q, E' a k = E a k + p * q) : RInv p n E' X := by
  intro a ha b hb
  obtain ⟨q, hq⟩ := h a ha b hb
  obtain ⟨q', hq'⟩ := sumD_mod (p := p) (f := E' a) (f' := E a) (g := fun k => X k b) n (he a ha)
  exact ⟨q + q', by rw [hq', hq]; grind⟩

theorem RInv.swap {p : Int} {n : Nat} {E X : Mat} (h : RInv p n E X) {s t : Nat} (hs : s < n) (ht : t < n) : ∃ X', RInv p n (swapF E s t) X' := by
  let sw : Nat → Nat := fun i => if i = s then t else if i = t then s else i
  have hsw : ∀ i, i < n → sw i < n := by
    intro i hi
    show (if i = s then t else if i = t then s else i) < n
    split
    · exact ht
    · split
      · exact hs
      · exact hi
  have hinj : ∀ i j, sw i = sw j → i = j := by
    intro i j
    show (if i = s then t else if i = t then s else i) = (if j = s then t else if j = t then s else j) → i = j
    intro h
    repeat' split at h
    all_goals omega
  refine ⟨fun k b => X k (sw b), fun a ha b hb => ?_⟩
  obtain ⟨q, hq⟩ := h (sw a) (hsw a ha) (sw b) (hsw b hb)
  refine ⟨q, ?_⟩
  have e : swapF E s t a = E (sw a) := by
    funext k
    show (if a = s then E t k else if a = t then E s k else E a k) = E (if a = s then t else if a = t then s else a) k
    split
    · rfl
    · split <;> rfl
  rw [e, hq]
  congr 1
  unfold dl
  by_cases hab : a = b
  · subst hab; simp
  · rw [if_neg hab, if_neg fun h => hab (hinj _ _ h)]

theorem RInv.scale {p inv u : Int} {n : Nat} {E X : Mat} (h : RInv p n E X) {t : Nat} (ht : t < n) (hu : u * inv % p = 1) : ∃ X', RInv p n (sclF p inv E t) X' := by
  have hu' : ∃ z, u * inv = 1 + p * z := ⟨u * inv / p, by have := Int.emod_add_mul_ediv (u * inv) p; omega⟩
  obtain ⟨z, hz⟩ := hu'
  refine ⟨fun k b => if b = t then X k t * u else X k b, RInv.congr (E := fun a k => if a = t then E t k * inv else E a k) (fun a ha b hb => ?_) (fun a ha k hk => ?_)⟩
  · obtain ⟨q, hq⟩ := h a ha b hb
    by_cases hat : a = t
    · subst hat
      by_cases hbt : b = a
      · subst hbt
        refine ⟨z + q * inv * u, ?_⟩
        simp only [if_true]
        rw [sumD_sl, sumD_sr, hq, dl, if_pos rfl]
        grind
      · refine ⟨q * inv, ?_⟩
        simp only [if_true, if_neg hbt]
        rw [sumD_sl, hq, dl, if_neg (Ne.symm hbt)]
        grind
    · by_cases hbt : b = t
      · subst hbt
        refine ⟨q * u, ?_⟩
        simp only [if_neg hat, if_true]
        rw [sumD_sr]
        have : sumD (fun k => E a k) (fun k => X k b) n = dl a b + p * q := hq
        rw [this, dl, if_neg hat]
        grind
      · refine ⟨q, ?_⟩
        simp only [if_neg hat, if_neg hbt]
        exact hq
  · unfold sclF
    by_cases hat : a = t
    · simp only [hat, if_true]
      refine ⟨-(E t k * inv / p), ?_⟩
      have := Int.emod_add_mul_ediv (E t k * inv) p
      have e : p * -(E t k * inv / p) = -(p * (E t k * inv / p)) := Int.mul_neg _ _
      omega
    · simp only [hat, if_false]
      exact ⟨0, by simp⟩

theorem RInv.add {p f : Int} {n : Nat} {E E' X : Mat} (h : RInv p n E X) {m t : Nat} (hm : m < n) (ht : t < n) (hmt : m ≠ t) (he : ∀ a, a < n → ∀ k, k < n → ∃ q, E' a k = (if a = m then E m k + f * E t k else E a k) + p * q) : ∃ X', RInv p n E' X' := by
  refine ⟨fun k b => if b = t then X k t - f * X k m else X k b, RInv.congr (E := fun a k => if a = m then E m k + f * E t k else E a k) (fun a ha b hb => ?_) he⟩
  obtain ⟨q1, h1⟩ := h a ha b hb
  obtain ⟨q2, h2⟩ := h t ht b hb
  obtain ⟨q3, h3⟩ := h a ha m hm
  obtain ⟨q4, h4⟩ := h t ht m hm
  have h1' : sumD (fun k => E a k) (fun k => X k b) n = dl a b + p * q1 := h1
  have h2' : sumD (fun k => E t k) (fun k => X k b) n = dl t b + p * q2 := h2
  have h3' : sumD (fun k => E a k) (fun k => X k m) n = dl a m + p * q3 := h3
  have h4' : sumD (fun k => E t k) (fun k => X k m) n = dl t m + p * q4 := h4
  have d1 : dl t m = 0 := if_neg (Ne.symm hmt)
  by_cases ham : a = m
  · subst ham
    have d2 : dl a a = 1 := if_pos rfl
    by_cases hbt : b = t
    · subst hbt
      have d3 : dl a b = 0 := if_neg hmt
      have d4 : dl b b = 1 := if_pos rfl
      refine ⟨q1 + f * q2 - f * q3 - f * f * q4, ?_⟩
      simp only [if_true]
      rw [sumD_l, sumD_r, sumD_r, h1', h2', h3', h4', d1, d2, d3, d4]
      grind
    · refine ⟨q1 + f * q2, ?_⟩
      have d3 : dl t b = 0 := if_neg (Ne.symm hbt)
      simp only [if_true, if_neg hbt]
      rw [sumD_l, h1', h2', d3]
      grind
  · by_cases hbt : b = t
    · subst hbt
      have d3 : dl a m = 0 := if_neg ham
      refine ⟨q1 - f * q3, ?_⟩
      simp only [if_neg ham, if_true]
      rw [sumD_r, h1', h3', d3]
      grind
    · refine ⟨q1, ?_⟩
      simp only [if_neg ham, if_neg hbt]
      exact h1'

/-! ### the reduction -/

/-- The rows behind the rank are zero in the columns that are done; the right half has a right inverse. -/
def RK (p : Int) (n : Nat) (s : Mat × List Int × Int) (j : Nat) : Prop :=
  (∃ X, RInv p n (fun a k => s.1 a (n + k)) X) ∧ ∀ b, b < j → ∀ i, s.2.1.length ≤ i → i < n → s.1 i b = 0

theorem RK.step {p : Int} {n : Nat} {s : Mat × List Int × Int} {j : Nat} (hpr : isPrimeI p = true) (hj : j < 2 * n) (I : RI p n (2 * n) s j) (h : RK p n s j) : RK p n (redS p n s j) (j + 1) := by
  have hp : pOk p := isPrimeI_t hpr
  obtain ⟨⟨X, hX⟩, hz⟩ := h
  obtain ⟨M, L, d⟩ := s
  simp only at hX hz
  by_cases hl : L.length < n
  · cases hk : pivF M j (n - L.length) L.length with
    | none =>
      rw [redS_n (s := (M, L, d)) hl hk]
      refine ⟨⟨X, hX⟩, fun b hb i h1 h2 => ?_⟩
      by_cases hbj : b = j
      · subst hbj; exact pivF_none hk i h1 (by simp only at h1; omega)
      · exact hz b (by omega) i h1 h2
    | some k =>
      rw [redS_s (s := (M, L, d)) hl hk]
      simp only
      have hq := pivF_lt hk
      have hkn : k < n := by omega
      have hM : inM p n (2 * n) M := I.m
      have hx : inP p (M k j) := hM k hkn j hj
      have hsw : swapF M L.length k L.length j = M k j := if_pos rfl
      have hi := inv_one hpr hx hq.2.2
      generalize hinv : invG p 1 (M k j) (p - 2).toNat = inv at hi
      have hpiv : pivS p M L.length j k = sclF p inv (swapF M L.length k) L.length := by unfold pivS; rw [hsw, hinv]
      rw [hpiv]
      have hS : inM p n (2 * n) (swapF M L.length k) := swapF_in hM hl hkn
      generalize hM2 : sclF p inv (swapF M L.length k) L.length = M2
      have hM2i : inM p n (2 * n) M2 := by rw [← hM2]; exact sclF_in hp hS _
      constructor
      · obtain ⟨X1, hX1⟩ := hX.swap (s := L.length) (t := k) hl hkn
        obtain ⟨X2, hX2⟩ := hX1.scale (inv := inv) (u := M k j) hl hi
        have base : RInv p n (fun a b => clrF p M2 L.length j 0 a (n + b)) X2 := by
          rw [clrF_0, ← hM2]; exact hX2
        have key : ∀ m, m ≤ n → ∃ X', RInv p n (fun a b => clrF p M2 L.length j m a (n + b)) X' := by
          intro m
          induction m with
          | zero => intro _; exact ⟨X2, base⟩
          | succ m ih =>
            intro hm
            obtain ⟨X', hX'⟩ := ih (by omega)
            by_cases hmt : m = L.length
            · subst hmt
              rw [clrF_skip]; exact ⟨X', hX'⟩
            · refine hX'.add (f := p - M2 m j) (m := m) (t := L.length) (by omega) hl hmt fun a ha b hb => ?_
              show ∃ q, clrF p M2 L.length j (m + 1) a (n + b) = _
              by_cases ham : a = m
              · subst ham
                rw [if_pos rfl]
                show ∃ q, clrF p M2 L.length j (a + 1) a (n + b) = (clrF p M2 L.length j a a (n + b) + (p - M2 a j) * clrF p M2 L.length j a L.length (n + b)) + p * q
                rw [clrF_old, clrF_t]
                unfold clrF
                rw [if_pos ⟨by omega, hmt⟩]
                refine ⟨-((M2 a (n + b) + (p - M2 a j) * M2 L.length (n + b)) / p), ?_⟩
                have e1 := Int.emod_add_mul_ediv (M2 a (n + b) + (p - M2 a j) * M2 L.length (n + b)) p
                have e2 := Int.mul_neg p ((M2 a (n + b) + (p - M2 a j) * M2 L.length (n + b)) / p)
                omega
              · rw [if_neg ham]
                refine ⟨0, ?_⟩
                show clrF p M2 L.length j (m + 1) a (n + b) = clrF p M2 L.length j m a (n + b) + p * 0
                unfold clrF
                by_cases hc : a < m ∧ a ≠ L.length
                · rw [if_pos hc, if_pos ⟨by omega, hc.2⟩]; simp
                · rw [if_neg hc, if_neg (by omega)]; simp
        exact key n (Nat.le_refl _)
      · intro b hb i h1 h2
        simp only [List.length_append, List.length_cons, List.length_nil] at h1
        show clrF p M2 L.length j n i b = 0
        unfold clrF
        rw [if_pos ⟨h2, by omega⟩]
        have e2 : ∀ c, M2 i c = swapF M L.length k i c := fun c => by rw [← hM2]; exact if_neg (by omega)
        have e3 : ∀ c, M2 L.length c = M k c * inv % p := fun c => by rw [← hM2]; show (if L.length = L.length then _ else _) = _; rw [if_pos rfl]; congr 2; exact if_pos rfl
        by_cases hbj : b = j
        · subst hbj
          rw [e3 b, hi]
          have : M2 i b + (p - M2 i b) * 1 = p := by omega
          rw [this]; exact Int.emod_self
        · have hbj' : b < j := by omega
          rw [e3 b, hz b hbj' k hq.1 hkn, e2 b]
          have : swapF M L.length k i b = 0 := by
            unfold swapF
            rw [if_neg (by omega)]
            split
            · exact hz b hbj' L.length (Nat.le_refl _) hl
            · exact hz b hbj' i (by omega) h2
          rw [this]; simp
  · unfold redS
    rw [if_neg hl]
    exact ⟨⟨X, hX⟩, fun b hb i h1 h2 => by simp only at h1; omega⟩

end Go.Am
end
section
namespace Go.Am
def wideF (n : Nat) (M : Mat) : Mat := fun a b => if b < n then M a b else dl a (b - n)
def wideM (n : Nat) (M : Mat) : Mat := ofD (2 * n) (genD n (2 * n) (wideF n M))
def invX (p : Int) (n : Nat) (M : Mat) : Mat × List Int × Int := redN p n (wideM n M) (2 * n)
def invOk (p : Int) (n : Nat) (M : Mat) : Prop := ∀ i, i < n → (invX p n M).2.1.getD i 0 = (i : Int)
instance (p : Int) (n : Nat) (M : Mat) : Decidable (invOk p n M) := inferInstanceAs (Decidable (∀ i, i < n → (invX p n M).2.1.getD i 0 = (i : Int)))
section
variable {p : Int} {n : Nat} {M R : Mat} {L : List Int}

end
section
variable {p : Int} {n : Nat} {M R : Mat} {L : List Int}
end

end Go.Am
end
section
namespace Go.Am
/-! ### alternating matrices -/

def altP (p : Int) (M : Mat) (i j : Nat) : Prop := (M i j + M j i) % p = 0 ∧ (i = j → M i j = 0)
instance (p : Int) (M : Mat) (i j : Nat) : Decidable (altP p M i j) := by unfold altP; infer_instance
def altR (p : Int) (M : Mat) (i : Nat) : Prop := ∀ j, j < i + 1 → altP p M i j
instance (p : Int) (M : Mat) (i : Nat) : Decidable (altR p M i) := by unfold altR; infer_instance
def altOk (p : Int) (n : Nat) (M : Mat) : Bool := decide (∀ i, i < n → altR p M i)
def F_impl_alternating : Int × Int × Int × List Int → Option Bool := fun (x : Int × Int × Int × List Int) =>
  if pOk x.1 ∧ mOk x.2 ∧ x.2.1 = x.2.2.1 ∧ allP x.1 x.2.2.2 then some (altOk x.1 x.2.1.toNat (ofD x.2.1.toNat x.2.2.2)) else none

def ag_impl_alternating : Sig := [(.one, [.int .i64]), (.agg, [.int .i64, .int .i64, .list [.int .i64]])]
def rs_impl_alternating : Sig := [(.one, [.bool])]
def mu_impl_alternating : MSig := []

def G_impl_alternating (NN : Nat) : (Int × (Int × (Int × (List Int)))) → (Option Bool) :=
 (fun ((i0, i1, i2, l3) : (Int × (Int × (Int × (List Int))))) =>
 joinK (loopT NN (fun (((i4, i5), i6, i7, l8) : ((Int × Int) × (Int × (Int × (List Int))))) =>
 cnd (ltI i5 i6)
 (joinK (loopT NN (fun (((i9, i10, i11), i12, i13, l14) : ((Int × (Int × Int)) × (Int × (Int × (List Int))))) =>
 cnd (leI i11 i10)
 ((F_impl_Matrix_at ((i12, i13, l14), i10, i11)).bnd (fun (i15 : Int) =>
 (F_impl_Matrix_at ((i12, i13, l14), i11, i10)).bnd (fun (i16 : Int) =>
 (remI (addI .i64 i15 i16) i9).bnd (fun (i17 : Int) =>
 cnd (neI i17 (0 : Int))
 (some (Sum.inr (Sum.inr (Sum.inr (Sum.inr false)))))
 (cnd (eqI i10 i11)
 ((F_impl_Matrix_at ((i12, i13, l14), i10, i10)).bnd (fun (i18 : Int) =>
 cnd (neI i18 (0 : Int))
 (some (Sum.inr (Sum.inr (Sum.inr (Sum.inr false)))))
 (some (Sum.inl ((i9, i10, addI .i64 i11 (1 : Int)), i12, i13, l14)))))
 (cnd (false)
 (some (Sum.inr (Sum.inr (Sum.inr (Sum.inr false)))))
 (some (Sum.inl ((i9, i10, addI .i64 i11 (1 : Int)), i12, i13, l14)))))))))
 (some (Sum.inr (Sum.inl ((i10, i9), i12, i13, l14)))))
 ((i4, i5, (0 : Int)), i6, i7, l8))
 (fun (((i19, i20), i21, i22, l23) : ((Int × Int) × (Int × (Int × (List Int))))) =>
 some (Sum.inl ((i20, addI .i64 i19 (1 : Int)), i21, i22, l23))))
 (some (Sum.inr (Sum.inl ()))))
 ((i0, (0 : Int)), i1, i2, l3))
 (fun (_ : Unit) =>
 some true))


theorem leN_t {i n : Nat} (h : i ≤ n) : leI (i : Int) (n : Int) = true := leI_t (by omega)
theorem leN_f {i n : Nat} (h : n < i) : leI (i : Int) (n : Int) = false := leI_f (by omega)
theorem sumR {p a b : Int} (hp : pOk p) (ha : inP p a) (hb : inP p b) : remI (addI .i64 a b) p = some ((a + b) % p) := by
  have h1 := hp.1; have h2 := hp.2; have h3 := ha.1; have h4 := ha.2; have h5 := hb.1; have h6 := hb.2
  rw [addI_eq (by omega) (by omega), remN (by omega) (by omega)]

theorem g_alt {p : Int} {n : Nat} {M : Mat} (hp : pOk p) (hn : n ≤ 4096) (hnn : n * n ≤ 1048576) (hM : inM p n n M) :
    G_impl_alternating FUEL (p, (n : Int), (n : Int), genD n n M) = some (altOk p n M) := by
  simp only [G_impl_alternating]
  obtain ⟨q, hq, hlt, hend⟩ := stop_ex (altR p M) n
  rw [loopT_seq (fun i => ((p, (i : Int)), (n : Int), (n : Int), genD n n M)) (r := if q < n then Sum.inr false else Sum.inl ()) q ?_ ?_ ?_ (FUEL_gt (by omega))]
  · unfold altOk
    by_cases h : q < n
    · rw [if_pos h, decide_eq_false (fun e => (hend.resolve_left (by omega)) (e q h))]; rfl
    · rw [if_neg h, decide_eq_true (fun i hi => hlt i (by omega))]; rfl
  · intro i hi
    have hin : i < n := by omega
    simp only
    rw [cnd_t (ltN_t hin)]
    rw [loopT_seq (fun j => ((p, (i : Int), (j : Int)), (n : Int), (n : Int), genD n n M)) (r := Sum.inl (((i : Int), p), (n : Int), (n : Int), genD n n M)) (i + 1) ?_ ?_ ?_ (FUEL_gt (by omega))]
    · rw [joinK_l]
      simp only [addN1 (show i ≤ 1048577 by omega)]
    · intro j hj
      simp only
      have hjn : j < n := by omega
      obtain ⟨a1, a2⟩ := hlt i hi j hj
      rw [cnd_t (leN_t (by omega)), at_nat hn hn hnn hin hjn, bnd_s, at_nat hn hn hnn hjn hin, bnd_s, sumR hp (hM i hin j hjn) (hM j hjn i hin), bnd_s, cnd_f (neI_f a1)]
      by_cases e : i = j
      · subst e
        rw [cnd_t (eqI_t rfl), at_nat hn hn hnn hin hin, bnd_s, cnd_f (neI_f (a2 rfl))]
        simp only [addN1 (show i ≤ 1048577 by omega)]
      · rw [cnd_f (eqI_f (by omega)), cnd_false]
        simp only [addN1 (show j ≤ 1048577 by omega)]
    · simp only
      rw [cnd_f (leN_f (by omega))]
    · rfl
  · simp only
    by_cases h : q < n
    · have hno := hend.resolve_left (by omega)
      rw [if_pos h, cnd_t (ltN_t h)]
      obtain ⟨t, ht, hlt2, hend2⟩ := stop_ex (altP p M q) (q + 1)
      have htq : t < q + 1 := by
        rcases hend2 with e | e
        · exact absurd (fun j hj => hlt2 j (by omega)) hno
        · by_cases k : t < q + 1
          · exact k
          · exact absurd (fun j hj => hlt2 j (by omega)) hno
      have hbad : ¬ altP p M q t := hend2.resolve_left (by omega)
      rw [loopT_seq (fun j => ((p, (q : Int), (j : Int)), (n : Int), (n : Int), genD n n M)) (r := Sum.inr (Sum.inr (Sum.inr false))) t ?_ ?_ ?_ (FUEL_gt (by omega))]
      · rfl
      · intro j hj
        simp only
        have hjn : j < n := by omega
        obtain ⟨a1, a2⟩ := hlt2 j hj
        rw [cnd_t (leN_t (by omega)), at_nat hn hn hnn h hjn, bnd_s, at_nat hn hn hnn hjn h, bnd_s, sumR hp (hM q h j hjn) (hM j hjn q h), bnd_s, cnd_f (neI_f a1)]
        by_cases e : q = j
        · subst e
          rw [cnd_t (eqI_t rfl), at_nat hn hn hnn h h, bnd_s, cnd_f (neI_f (a2 rfl))]
          simp only [addN1 (show q ≤ 1048577 by omega)]
        · rw [cnd_f (eqI_f (by omega)), cnd_false]
          simp only [addN1 (show j ≤ 1048577 by omega)]
      · simp only
        have htn : t < n := by omega
        rw [cnd_t (leN_t (by omega)), at_nat hn hn hnn h htn, bnd_s, at_nat hn hn hnn htn h, bnd_s, sumR hp (hM q h t htn) (hM t htn q h), bnd_s]
        by_cases a1 : (M q t + M t q) % p = 0
        · rw [cnd_f (neI_f a1)]
          by_cases e : q = t
          · subst e
            have a2 : M q q ≠ 0 := fun z => hbad ⟨a1, fun _ => z⟩
            rw [cnd_t (eqI_t rfl), at_nat hn hn hnn h h, bnd_s, cnd_t (neI_t a2)]
          · exact absurd ⟨a1, fun z => absurd z e⟩ hbad
        · rw [cnd_t (neI_t a1)]
      · rfl
    · rw [if_neg h, cnd_f (ltN_f (by omega))]
  · rfl
theorem f_impl_alternating (x : Int × Int × Int × List Int) (y : Bool) (h : F_impl_alternating x = some y) : G_impl_alternating FUEL x = some y := by
  obtain ⟨p, x⟩ := x
  simp only [F_impl_alternating] at h
  split at h
  · rename_i hc
    obtain ⟨hp, hm, hs, ha⟩ := hc
    obtain ⟨r, c, M, rfl, h1, h2, h3⟩ := mOk_gen hm
    simp only at hs ha
    have : c = r := by omega
    subst this
    have e : genD c c (ofD c (genD c c M)) = genD c c M := genD_of (genD_len c c M)
    have hM : inM p c c (ofD c (genD c c M)) := allP_gen.1 (by rw [e]; exact ha)
    rw [← h]
    have := g_alt hp h1 h3 hM
    rw [e] at this
    rw [this]
    simp only [Int.toNat_natCast]
  · cases h
end Go.Am
end
section
namespace Go.Am

/-- Rows and columns change places. -/
def swB (A : Mat) (s t : Nat) : Mat := turnF (swapF (turnF (swapF A s t)) s t)
/-- x times row k goes off row r, and the same with columns. -/
def clB (p : Int) (A : Mat) (r k : Nat) (y : Int) : Mat := turnF (clearF p (turnF (clearF p A r k (p - y))) r k (p - y))
/-- The spec's elimination, from row k + 2 on, d rows. -/
def elS (p : Int) (A : Mat) (k : Nat) (inv : Int) : Nat → Mat
  | 0 => A
  | d + 1 => clB p (elS p A k inv d) (k + 2 + d) (k + 1) (elS p A k inv d k (k + 2 + d) * inv % p)
/-- The program's elimination. -/
def elI (p : Int) (A : Mat) (s : Nat) (inv : Int) : Mat := fun i j =>
  if s + 2 ≤ i ∧ s + 2 ≤ j then (A i j + (A (s + 1) i * A s j + (p - A s i) * A (s + 1) j) % p * inv) % p else A i j

def eqm (p a b : Int) : Prop := ∃ q, a = b + p * q
theorem eqm.refl (p a : Int) : eqm p a a := ⟨0, by simp⟩
theorem eqm_mod (p a : Int) : eqm p (a % p) a := ⟨-(a / p), by have := Int.emod_add_mul_ediv a p; have e := Int.mul_neg p (a / p); omega⟩
theorem eqm.trans {p a b c : Int} (h : eqm p a b) (h' : eqm p b c) : eqm p a c := by
  obtain ⟨q, rfl⟩ := h; obtain ⟨q', rfl⟩ := h'; exact ⟨q' + q, by rw [Int.mul_add]; omega⟩
theorem eqm.symm {p a b : Int} (h : eqm p a b) : eqm p b a := by
  obtain ⟨q, rfl⟩ := h; exact ⟨-q, by rw [Int.mul_neg]; omega⟩
theorem eqm.add {p a b c d : Int} (h : eqm p a b) (h' : eqm p c d) : eqm p (a + c) (b + d) := by
  obtain ⟨q, rfl⟩ := h; obtain ⟨q', rfl⟩ := h'; exact ⟨q + q', by grind⟩
theorem eqm.mul {p a b c d : Int} (h : eqm p a b) (h' : eqm p c d) : eqm p (a * c) (b * d) := by
  obtain ⟨q, rfl⟩ := h; obtain ⟨q', rfl⟩ := h'; exact ⟨q * d + b * q' + p * q * q', by grind⟩
theorem eqm_in {p a b : Int} (h : eqm p a b) (ha : inP p a) (hb : inP p b) : a = b := by
  obtain ⟨q, hq⟩ := h
  have h1 := ha.1; have h2 := ha.2; have h3 := hb.1; have h4 := hb.2
  have hp : 0 < p := by omega
  rcases Int.lt_trichotomy q 0 with h | h | h
  · have : p * q ≤ p * (-1) := Int.mul_le_mul_of_nonneg_left (by omega) (by omega)
    omega
  · subst h; omega
  · have : p * 1 ≤ p * q := Int.mul_le_mul_of_nonneg_left (by omega) (by omega)
    omega

/-- The block from k on is alternating. -/
def AltB (p : Int) (n k : Nat) (A : Mat) : Prop := (∀ i, k ≤ i → i < n → A i i = 0) ∧ ∀ i j, k ≤ i → i < n → k ≤ j → j < n → eqm p (A i j + A j i) 0
/-- Two blocks agree from k on. -/
def EqB (n k : Nat) (A C : Mat) : Prop := ∀ i j, k ≤ i → i < n → k ≤ j → j < n → A i j = C i j

theorem swB_val (A : Mat) (s t i j : Nat) : swB A s t i j = A (if i = s then t else if i = t then s else i) (if j = s then t else if j = t then s else j) := by
  unfold swB turnF swapF
  simp only
  repeat' split
  all_goals rfl
theorem clB_val (p : Int) (A : Mat) (r k : Nat) (y : Int) (i j : Nat) : eqm p (clB p A r k y i j) (A i j - (if i = r then y * A k j else 0) - (if j = r then y * ((if i = r then A r k - y * A k k else A i k)) else 0)) := by
  have m1 : ∀ a b, eqm p (clearF p A r k (p - y) a b) (A a b - if a = r then y * A k b else 0) := by
    intro a b
    unfold clearF
    by_cases h : a = r
    · subst h
      rw [if_pos rfl, if_pos rfl]
      exact (eqm_mod _ _).trans ⟨A k b, by grind⟩
    · rw [if_neg h, if_neg h]
      exact ⟨0, by simp⟩
  show eqm p (clearF p (turnF (clearF p A r k (p - y))) r k (p - y) j i) _
  unfold clearF turnF
  dsimp only
  by_cases h : j = r
  · subst h
    rw [if_pos rfl, if_pos rfl]
    refine (eqm_mod _ _).trans ?_
    have e1 := m1 i j
    have e2 := m1 i k
    unfold clearF at e1 e2
    obtain ⟨q1, h1⟩ := e1
    obtain ⟨q2, h2⟩ := e2
    rw [h1, h2]
    by_cases hi : i = j
    · subst hi
      simp only [if_true]
      exact ⟨q1 + (p - y) * q2 + (A i k - y * A k k), by grind⟩
    · simp only [hi, if_false]
      exact ⟨q1 + (p - y) * q2 + A i k, by grind⟩
  · rw [if_neg h, if_neg h]
    have e1 := m1 i j
    unfold clearF at e1
    obtain ⟨q1, h1⟩ := e1
    exact ⟨q1, by rw [h1]; omega⟩

section
variable {p inv : Int} {n k : Nat} {A : Mat}

/-- What the spec's elimination makes of the block, after d rows. -/
theorem elS_val (hz : A (k + 1) (k + 1) = 0) : ∀ d i j, eqm p (elS p A k inv d i j)
    (A i j - (if k + 2 ≤ i ∧ i < k + 2 + d then A k i * inv % p * A (k + 1) j else 0) - (if k + 2 ≤ j ∧ j < k + 2 + d then A k j * inv % p * A i (k + 1) else 0))
  | 0, i, j => by
    rw [if_neg (by omega), if_neg (by omega)]
    exact ⟨0, by simp [elS]⟩
  | d + 1, i, j => by
    have ih := elS_val hz d
    show eqm p (clB p (elS p A k inv d) (k + 2 + d) (k + 1) (elS p A k inv d k (k + 2 + d) * inv % p) i j) _
    refine (clB_val p (elS p A k inv d) (k + 2 + d) (k + 1) (elS p A k inv d k (k + 2 + d) * inv % p) i j).trans ?_
    -- row k + 1 and column k + 1 stay
    have row : ∀ j, eqm p (elS p A k inv d (k + 1) j) (A (k + 1) j) := fun j => by
      refine (ih (k + 1) j).trans ?_
      rw [if_neg (by omega), hz]
      exact ⟨0, by split <;> simp⟩
    have col : ∀ i, eqm p (elS p A k inv d i (k + 1)) (A i (k + 1)) := fun i => by
      refine (ih i (k + 1)).trans ?_
      rw [if_neg (show ¬ (k + 2 ≤ k + 1 ∧ k + 1 < k + 2 + d) by omega), hz]
      exact ⟨0, by split <;> simp⟩
    have ky : eqm p (elS p A k inv d k (k + 2 + d) * inv % p) (A k (k + 2 + d) * inv % p) := by
      refine (eqm_mod _ _).trans (eqm.trans ?_ (eqm_mod _ _).symm)
      refine eqm.mul ?_ (eqm.refl _ _)
      refine (ih k (k + 2 + d)).trans ?_
      rw [if_neg (by omega), if_neg (by omega)]
      exact ⟨0, by simp⟩
    generalize elS p A k inv d k (k + 2 + d) * inv % p = y at ky ⊢
    have hij := ih i j
    have hrow := row j
    have hcol := col i
    have hcr := col (k + 2 + d)
    have hkk := row (k + 1)
    rw [hz] at hkk
    generalize elS p A k inv d = E at hij hrow hcol hcr hkk ⊢
    obtain ⟨q1, h1⟩ := hij
    obtain ⟨q2, h2⟩ := hrow
    obtain ⟨q3, h3⟩ := hcol
    obtain ⟨q4, h4⟩ := hcr
    obtain ⟨q5, h5⟩ := hkk
    obtain ⟨q6, h6⟩ := ky
    rw [h1, h2, h3, h4, h5, h6]
    by_cases hi : i = k + 2 + d
    · subst hi
      rw [if_pos rfl, if_pos rfl]
      rw [if_neg (show ¬ (k + 2 ≤ k + 2 + d ∧ k + 2 + d < k + 2 + d) by omega), if_pos (show k + 2 ≤ k + 2 + d ∧ k + 2 + d < k + 2 + (d + 1) by omega)]
      by_cases hj : j = k + 2 + d
      · subst hj
        rw [if_pos rfl, if_neg (show ¬ (k + 2 ≤ k + 2 + d ∧ k + 2 + d < k + 2 + d) by omega), if_pos (show k + 2 ≤ k + 2 + d ∧ k + 2 + d < k + 2 + (d + 1) by omega)]
        exact ⟨q1 - q6 * A (k + 1) (k + 2 + d) - (A k (k + 2 + d) * inv % p + p * q6) * q2 - q6 * A (k + 2 + d) (k + 1) - (A k (k + 2 + d) * inv % p + p * q6) * (q4 - (A k (k + 2 + d) * inv % p + p * q6) * q5), by grind⟩
      · rw [if_neg hj]
        have ej : (k + 2 ≤ j ∧ j < k + 2 + (d + 1)) ↔ (k + 2 ≤ j ∧ j < k + 2 + d) := by omega
        simp only [ej]
        exact ⟨q1 - q6 * A (k + 1) j - (A k (k + 2 + d) * inv % p + p * q6) * q2, by grind⟩
    · rw [if_neg hi, if_neg hi]
      have ei : (k + 2 ≤ i ∧ i < k + 2 + (d + 1)) ↔ (k + 2 ≤ i ∧ i < k + 2 + d) := by omega
      simp only [ei]
      by_cases hj : j = k + 2 + d
      · subst hj
        rw [if_pos rfl, if_neg (show ¬ (k + 2 ≤ k + 2 + d ∧ k + 2 + d < k + 2 + d) by omega), if_pos (show k + 2 ≤ k + 2 + d ∧ k + 2 + d < k + 2 + (d + 1) by omega)]
        exact ⟨q1 - q6 * A i (k + 1) - (A k (k + 2 + d) * inv % p + p * q6) * q3, by grind⟩
      · rw [if_neg hj]
        have ej : (k + 2 ≤ j ∧ j < k + 2 + (d + 1)) ↔ (k + 2 ≤ j ∧ j < k + 2 + d) := by omega
        simp only [ej]
        exact ⟨q1, by grind⟩

theorem turnF_in {p : Int} {n : Nat} {M : Mat} (h : inM p n n M) : inM p n n (turnF M) := fun i hi j hj => h j hj i hi
theorem clearF_inN {p : Int} {n : Nat} {M : Mat} (hp : pOk p) (h : inM p n n M) (i k : Nat) (f : Int) : inM p n n (clearF p M i k f) := by
  intro a ha b hb
  unfold clearF
  split
  · exact emod_in hp _
  · exact h a ha b hb
theorem elS_in (hp : pOk p) (h : inM p n n A) : ∀ d, inM p n n (elS p A k inv d)
  | 0 => h
  | d + 1 => turnF_in (clearF_inN hp (turnF_in (clearF_inN hp (elS_in hp h d) _ _ _)) _ _ _)
theorem elI_in (hp : pOk p) (h : inM p n n A) : inM p n n (elI p A k inv) := by
  intro a ha b hb
  unfold elI
  split
  · exact emod_in hp _
  · exact h a ha b hb

/-- Both eliminations agree behind the two rows that are done. -/
theorem el_agree (hp : pOk p) {C : Mat} (hA : inM p n n A) (hC : inM p n n C) (hk : k + 1 < n) (hAC : EqB n k A C) (hz : A (k + 1) (k + 1) = 0) (halt : AltB p n k A) :
    EqB n (k + 2) (elS p A k inv (n - (k + 2))) (elI p C k inv) ∧ AltB p n (k + 2) (elS p A k inv (n - (k + 2))) := by
  have val : ∀ i j, k + 2 ≤ i → i < n → k + 2 ≤ j → j < n → eqm p (elS p A k inv (n - (k + 2)) i j) (A i j - A k i * inv * A (k + 1) j + A k j * inv * A (k + 1) i) := by
    intro i j hi hi' hj hj'
    refine (elS_val hz (n - (k + 2)) i j).trans ?_
    rw [if_pos (by omega), if_pos (by omega)]
    obtain ⟨q1, h1⟩ := eqm_mod p (A k i * inv)
    obtain ⟨q2, h2⟩ := eqm_mod p (A k j * inv)
    obtain ⟨q3, h3⟩ := halt.2 i (k + 1) (by omega) hi' (by omega) hk
    rw [h1, h2]
    have e : A i (k + 1) = p * q3 - A (k + 1) i := by omega
    rw [e]
    exact ⟨- q1 * A (k + 1) j - q2 * (p * q3 - A (k + 1) i) - A k j * inv * q3, by grind⟩
  constructor
  · intro i j hi hi' hj hj'
    refine eqm_in ?_ (elS_in hp hA _ i hi' j hj') (elI_in hp hC i hi' j hj')
    refine (val i j hi hi' hj hj').trans ?_
    unfold elI
    rw [if_pos ⟨hi, hj⟩]
    refine eqm.symm ((eqm_mod _ _).trans ?_)
    obtain ⟨q, hq⟩ := eqm_mod p (C (k + 1) i * C k j + (p - C k i) * C (k + 1) j)
    rw [hq, ← hAC i j (by omega) hi' (by omega) hj', ← hAC (k + 1) i (by omega) hk (by omega) hi', ← hAC k j (by omega) (by omega) (by omega) hj', ← hAC k i (by omega) (by omega) (by omega) hi', ← hAC (k + 1) j (by omega) hk (by omega) hj']
    exact ⟨(A (k + 1) j + q) * inv, by grind⟩
  · constructor
    · intro i hi hi'
      refine eqm_in ((val i i hi hi' hi hi').trans ?_) (elS_in hp hA _ i hi' i hi') ⟨Int.le_refl _, by have := hp.1; omega⟩
      rw [halt.1 i (by omega) hi']
      exact ⟨0, by grind⟩
    · intro i j hi hi' hj hj'
      obtain ⟨q1, h1⟩ := val i j hi hi' hj hj'
      obtain ⟨q2, h2⟩ := val j i hj hj' hi hi'
      obtain ⟨q3, h3⟩ := halt.2 i j (by omega) hi' (by omega) hj'
      rw [h1, h2]
      exact ⟨q1 + q2 + q3, by grind⟩

theorem sw_lt {s t i : Nat} (hs : s < n) (ht : t < n) (hi : i < n) : (if i = s then t else if i = t then s else i) < n := by
  split
  · exact ht
  · split
    · exact hs
    · exact hi
theorem sw_ge {s t i : Nat} (hs : k ≤ s) (ht : k ≤ t) (hi : k ≤ i) : k ≤ (if i = s then t else if i = t then s else i) := by
  split
  · exact ht
  · split
    · exact hs
    · exact hi
theorem swB_in {s t : Nat} (hs : s < n) (ht : t < n) (h : inM p n n A) : inM p n n (swB A s t) := fun i hi j hj => by
  rw [swB_val]; exact h _ (sw_lt hs ht hi) _ (sw_lt hs ht hj)
theorem swB_eq {s t : Nat} {C : Mat} (hs : k ≤ s ∧ s < n) (ht : k ≤ t ∧ t < n) (h : EqB n k A C) : EqB n k (swB A s t) (swB C s t) := fun i j hi hi' hj hj' => by
  rw [swB_val, swB_val]; exact h _ _ (sw_ge hs.1 ht.1 hi) (sw_lt hs.2 ht.2 hi') (sw_ge hs.1 ht.1 hj) (sw_lt hs.2 ht.2 hj')
theorem swB_alt {s t : Nat} (hs : k ≤ s ∧ s < n) (ht : k ≤ t ∧ t < n) (h : AltB p n k A) : AltB p n k (swB A s t) :=
  ⟨fun i hi hi' => by rw [swB_val]; exact h.1 _ (sw_ge hs.1 ht.1 hi) (sw_lt hs.2 ht.2 hi'),
   fun i j hi hi' hj hj' => by rw [swB_val, swB_val]; exact h.2 _ _ (sw_ge hs.1 ht.1 hi) (sw_lt hs.2 ht.2 hi') (sw_ge hs.1 ht.1 hj) (sw_lt hs.2 ht.2 hj')⟩
end

end Go.Am
end
section
namespace Go.Am
def pivC (A : Mat) (n k : Nat) : Option Nat := pivF (turnF A) k (n - (k + 1)) (k + 1)
def swA (A : Mat) (k i : Nat) : Mat := if i = k + 1 then A else swB A (k + 1) i
def pfOut (p out : Int) (A : Mat) (k i : Nat) : Int := (if i = k + 1 then out else (p - out) % p) * swA A k i k (k + 1) % p
def pfInv (p : Int) (A : Mat) (k i : Nat) : Int := invG p 1 (swA A k i k (k + 1)) (p - 2).toNat
def pfS (p : Int) (n : Nat) (A0 : Mat) : Nat → Option (Mat × Int)
  | 0 => some (A0, 1)
  | j + 1 => match pfS p n A0 j with
    | none => none
    | some s => match pivC s.1 n (2 * j) with
      | none => none
      | some i => some (elS p (swA s.1 (2 * j) i) (2 * j) (pfInv p s.1 (2 * j) i) (n - (2 * j + 2)), pfOut p s.2 s.1 (2 * j) i)
def pfI (p : Int) (n : Nat) (A0 : Mat) : Nat → Option (Mat × Int)
  | 0 => some (A0, 1)
  | j + 1 => match pfI p n A0 j with
    | none => none
    | some s => match pivC s.1 n (2 * j) with
      | none => none
      | some i => some (elI p (swA s.1 (2 * j) i) (2 * j) (pfInv p s.1 (2 * j) i), pfOut p s.2 s.1 (2 * j) i)
def pfV (o : Option (Mat × Int)) : Int := match o with
  | some s => s.2
  | none => 0
def pfR (p : Int) (n : Nat) (M : Mat) : Int × Bool := if altOk p n M = true then (if n % 2 = 1 then 0 else pfV (pfS p n M (n / 2)), true) else (0, false)
def F_spec_Pfaffian : Int × Int × Int × List Int → Option (Int × Bool) := fun (x : Int × Int × Int × List Int) =>
  if sz_Matrix x.2 ≤ 1048576 then some (if matOk x.1 x.2 = true ∧ x.2.1 = x.2.2.1 then pfR x.1 x.2.1.toNat (ofD x.2.2.1.toNat x.2.2.2) else (0, false)) else none
def F_impl_Pfaffian : Int × Int × Int × List Int → Option (Int × Bool) := F_spec_Pfaffian

def ag_spec_Pfaffian : Sig := [(.one, [.int .i64]), (.agg, [.int .i64, .int .i64, .list [.int .i64]])]
def rs_spec_Pfaffian : Sig := [(.one, [.int .i64]), (.one, [.bool])]
def mu_spec_Pfaffian : MSig := []
def ag_impl_Pfaffian : Sig := [(.one, [.int .i64]), (.agg, [.int .i64, .int .i64, .list [.int .i64]])]
def rs_impl_Pfaffian : Sig := [(.one, [.int .i64]), (.one, [.bool])]
def mu_impl_Pfaffian : MSig := []

def G_spec_Pfaffian (NN : Nat) : (Int × (Int × (Int × (List Int)))) → (Option (Int × Bool)) :=
 (fun ((i0, i1, i2, l3) : (Int × (Int × (Int × (List Int))))) =>
 (F_spec_MatrixOk (i0, i1, i2, l3)).bnd (fun (b4 : Bool) =>
 cnd (notB b4)
 (some ((0 : Int), false))
 (cnd (neI i1 i2)
 (some ((0 : Int), false))
 (joinK (loopT NN (fun (((i5, i6, i7), i8, i9, l10) : ((Int × (Int × Int)) × (Int × (Int × (List Int))))) =>
 cnd (ltI i7 i6)
 (joinK (loopT NN (fun (((i11, i12, i13, i14), i15, i16, l17) : ((Int × (Int × (Int × Int))) × (Int × (Int × (List Int))))) =>
 cnd (leI i14 i13)
 ((getI l17 (addI .i64 (mulI .i64 i13 i12) i14)).bnd (fun (i18 : Int) =>
 (getI l17 (addI .i64 (mulI .i64 i14 i12) i13)).bnd (fun (i19 : Int) =>
 (remI (subI .i64 i11 i19) i11).bnd (fun (i20 : Int) =>
 cnd (neI i18 i20)
 (some (Sum.inr (Sum.inr (Sum.inr (Sum.inr ((0 : Int), false))))))
 (cnd (eqI i13 i14)
 (cnd (neI i18 (0 : Int))
 (some (Sum.inr (Sum.inr (Sum.inr (Sum.inr ((0 : Int), false))))))
 (some (Sum.inl ((i11, i12, i13, addI .i64 i14 (1 : Int)), i15, i16, l17))))
 (cnd (false)
 (some (Sum.inr (Sum.inr (Sum.inr (Sum.inr ((0 : Int), false))))))
 (some (Sum.inl ((i11, i12, i13, addI .i64 i14 (1 : Int)), i15, i16, l17)))))))))
 (some (Sum.inr (Sum.inl ((i13, i11, i12), i15, i16, l17)))))
 ((i5, i6, i7, (0 : Int)), i8, i9, l10))
 (fun (((i21, i22, i23), i24, i25, l26) : ((Int × (Int × Int)) × (Int × (Int × (List Int))))) =>
 some (Sum.inl ((i22, i23, addI .i64 i21 (1 : Int)), i24, i25, l26))))
 (some (Sum.inr (Sum.inl ((i5, i6), i8, i9, l10)))))
 ((i0, i1, (0 : Int)), i1, i2, l3))
 (fun (((i27, i28), i29, i30, l31) : ((Int × Int) × (Int × (Int × (List Int))))) =>
 (remI i28 (2 : Int)).bnd (fun (i32 : Int) =>
 cnd (eqI i32 (1 : Int))
 (some ((0 : Int), true))
 ((F_spec_l05Ints l31).bnd (fun (l33 : (List Int)) =>
 joinK ((fulI 0 (lenN l33) (lenN l33)).bnd (fun (_ : Unit) =>
 loopT NN (fun (((i34, i35, i36, i37), (i38, i39), l40) : ((Int × (Int × (Int × Int))) × ((Int × Int) × (List Int)))) =>
 cnd (ltI i37 i35)
 (joinK (joinK ((fulI 0 (lenN l40) (lenN l40)).bnd (fun (_ : Unit) =>
 loopT NN (fun (((i41, i42, i43, i44, i45), (i46, i47), l48) : ((Int × (Int × (Int × (Int × Int)))) × ((Int × Int) × (List Int)))) =>
 cnd (ltI i45 i42)
 ((chkI (addI .i64 (mulI .i64 i44 i42) i45) (lenN l48)).bnd (fun (k49 : Nat) =>
 (getN l48 (addN 0 k49)).bnd (fun (i50 : Int) =>
 cnd (eqI i50 (0 : Int))
 ((fulI 0 (lenN l48) (lenN l48)).bnd (fun (_ : Unit) =>
 some (Sum.inl ((i41, i42, i43, i44, addI .i64 i45 (1 : Int)), (i46, i47), l48))))
 (((fulI 0 (lenN l48) (lenN l48)).bnd (fun (_ : Unit) =>
 some (Sum.inl ((i45, i43, i42, i41, i44), (i46, i47), l48)))).bnd (fun (l51 : (((Int × (Int × (Int × (Int × Int)))) × ((Int × Int) × (List Int))) ⊕ (((Int × (Int × (Int × Int))) × ((Int × Int) × (List Int))) ⊕ (((Int × (Int × (Int × Int))) × ((Int × Int) × (List Int))) ⊕ (Int ⊕ (Int × Bool)))))) =>
 some (Sum.inr l51))))))
 (((fulI 0 (lenN l48) (lenN l48)).bnd (fun (_ : Unit) =>
 some (Sum.inl ((i45, i43, i42, i41, i44), (i46, i47), l48)))).bnd (fun (l52 : (((Int × (Int × (Int × (Int × Int)))) × ((Int × Int) × (List Int))) ⊕ (((Int × (Int × (Int × Int))) × ((Int × Int) × (List Int))) ⊕ (((Int × (Int × (Int × Int))) × ((Int × Int) × (List Int))) ⊕ (Int ⊕ (Int × Bool)))))) =>
 some (Sum.inr l52))))
 ((i34, i35, i36, i37, addI .i64 i37 (1 : Int)), (i38, i39), l40)))
 (fun (((i53, i54, i55, i56, i57), (i58, i59), l60) : ((Int × (Int × (Int × (Int × Int)))) × ((Int × Int) × (List Int)))) =>
 cnd (eqI i53 i55)
 (some (Sum.inr (Sum.inr (Sum.inr ((0 : Int), true)))))
 (joinK (cnd (ltI (addI .i64 i57 (1 : Int)) i53)
 ((fulI 0 (lenN l60) (lenN l60)).bnd (fun (_ : Unit) =>
 (F_spec_l31Swap ((i58, i59, l60), addI .i64 i57 (1 : Int), i53)).bnd (fun (l61 : (List Int)) =>
 (winI l61 0 (lenN l60)).bnd (fun (l62 : (List Int)) =>
 (F_spec_l31Turn (i58, i59, l62)).bnd (fun ((i63, i64, l65) : (Int × (Int × (List Int)))) =>
 (fulI 0 (lenN l65) (lenN l65)).bnd (fun (_ : Unit) =>
 (F_spec_l31Swap ((i63, i64, l65), addI .i64 i57 (1 : Int), i53)).bnd (fun (l66 : (List Int)) =>
 (winI l66 0 (lenN l65)).bnd (fun (l67 : (List Int)) =>
 (F_spec_l31Turn (i63, i64, l67)).bnd (fun ((i68, i69, l70) : (Int × (Int × (List Int)))) =>
 (remI (subI .i64 i56 i54) i56).bnd (fun (i71 : Int) =>
 (fulI 0 (lenN l70) (lenN l70)).bnd (fun (_ : Unit) =>
 some (Sum.inl ((i71, i55, i56, i57), (i68, i69), l70)))))))))))))
 ((fulI 0 (lenN l60) (lenN l60)).bnd (fun (_ : Unit) =>
 some (Sum.inl ((i54, i55, i56, i57), (i58, i59), l60)))))
 (fun (((i72, i73, i74, i75), (i76, i77), l78) : ((Int × (Int × (Int × Int))) × ((Int × Int) × (List Int)))) =>
 (chkI (addI .i64 (addI .i64 (mulI .i64 i75 i73) i75) (1 : Int)) (lenN l78)).bnd (fun (k79 : Nat) =>
 (getN l78 (addN 0 k79)).bnd (fun (i80 : Int) =>
 (remI (mulI .i64 i72 i80) i74).bnd (fun (i81 : Int) =>
 (F_spec_l31Inverse (i74, i80)).bnd (fun (i82 : Int) =>
 (fulI 0 (lenN l78) (lenN l78)).bnd (fun (_ : Unit) =>
 loopT NN (fun (((i83, i84, i85, i86, i87, i88), (i89, i90), l91) : ((Int × (Int × (Int × (Int × (Int × Int))))) × ((Int × Int) × (List Int)))) =>
 cnd (ltI i88 i84)
 ((chkI (addI .i64 (mulI .i64 i86 i84) i88) (lenN l91)).bnd (fun (k92 : Nat) =>
 (getN l91 (addN 0 k92)).bnd (fun (i93 : Int) =>
 (remI (mulI .i64 i93 i87) i83).bnd (fun (i94 : Int) =>
 (fulI 0 (lenN l91) (lenN l91)).bnd (fun (_ : Unit) =>
 (F_spec_l31Clear (i83, (i89, i90, l91), i88, addI .i64 i86 (1 : Int), i94)).bnd (fun (l95 : (List Int)) =>
 (winI l95 0 (lenN l91)).bnd (fun (l96 : (List Int)) =>
 (F_spec_l31Turn (i89, i90, l96)).bnd (fun ((i97, i98, l99) : (Int × (Int × (List Int)))) =>
 (fulI 0 (lenN l99) (lenN l99)).bnd (fun (_ : Unit) =>
 (F_spec_l31Clear (i83, (i97, i98, l99), i88, addI .i64 i86 (1 : Int), i94)).bnd (fun (l100 : (List Int)) =>
 (winI l100 0 (lenN l99)).bnd (fun (l101 : (List Int)) =>
 (F_spec_l31Turn (i97, i98, l101)).bnd (fun ((i102, i103, l104) : (Int × (Int × (List Int)))) =>
 (fulI 0 (lenN l104) (lenN l104)).bnd (fun (_ : Unit) =>
 some (Sum.inl ((i83, i84, i85, i86, i87, addI .i64 i88 (1 : Int)), (i102, i103), l104)))))))))))))))
 (((fulI 0 (lenN l91) (lenN l91)).bnd (fun (_ : Unit) =>
 some (Sum.inl ((i86, i83, i84, i85), (i89, i90), l91)))).bnd (fun (l105 : (((Int × (Int × (Int × Int))) × ((Int × Int) × (List Int))) ⊕ (((Int × (Int × (Int × Int))) × ((Int × Int) × (List Int))) ⊕ (Int ⊕ (Int × Bool))))) =>
 some (Sum.inr l105))))
 ((i74, i73, i81, i75, i82, addI .i64 i75 (2 : Int)), (i76, i77), l78))))))))))
 (fun (((i106, i107, i108, i109), (i110, i111), l112) : ((Int × (Int × (Int × Int))) × ((Int × Int) × (List Int)))) =>
 (fulI 0 (lenN l112) (lenN l112)).bnd (fun (_ : Unit) =>
 some (Sum.inl ((i107, i108, i109, addI .i64 i106 (2 : Int)), (i110, i111), l112)))))
 (some (Sum.inr (Sum.inl i36))))
 ((i27, i28, (1 : Int), (0 : Int)), (i28, i28), l33)))
 (fun (i113 : Int) =>
 some (i113, true))))))))))


def G_impl_Pfaffian (NN : Nat) : (Int × (Int × (Int × (List Int)))) → (Option (Int × Bool)) :=
 (fun ((i0, i1, i2, l3) : (Int × (Int × (Int × (List Int))))) =>
 (F_impl_MatrixOk (i0, i1, i2, l3)).bnd (fun (b4 : Bool) =>
 cnd (notB b4)
 (some ((0 : Int), false))
 (cnd (neI i1 i2)
 (some ((0 : Int), false))
 ((F_impl_alternating (i0, i1, i2, l3)).bnd (fun (b5 : Bool) =>
 cnd (notB b5)
 (some ((0 : Int), false))
 ((remI i1 (2 : Int)).bnd (fun (i6 : Int) =>
 cnd (eqI i6 (1 : Int))
 (some ((0 : Int), true))
 ((F_impl_copyMatrix (i1, i2, l3)).bnd (fun ((i7, i8, l9) : (Int × (Int × (List Int)))) =>
 joinK ((fulI 0 (lenN l9) (lenN l9)).bnd (fun (_ : Unit) =>
 loopT NN (fun (((i10, i11, i12), (i13, i14), l15) : ((Int × (Int × Int)) × ((Int × Int) × (List Int)))) =>
 cnd (ltI i12 i13)
 (joinK (joinK ((fulI 0 (lenN l15) (lenN l15)).bnd (fun (_ : Unit) =>
 loopT NN (fun (((i16, i17, i18, i19), (i20, i21), l22) : ((Int × (Int × (Int × Int))) × ((Int × Int) × (List Int)))) =>
 cnd (ltI i19 i20)
 ((winI l22 0 (lenN l22)).bnd (fun (l23 : (List Int)) =>
 (F_impl_Matrix_at ((i20, i21, l23), i18, i19)).bnd (fun (i24 : Int) =>
 cnd (eqI i24 (0 : Int))
 ((fulI 0 (lenN l22) (lenN l22)).bnd (fun (_ : Unit) =>
 some (Sum.inl ((i16, i17, i18, addI .i64 i19 (1 : Int)), (i20, i21), l22))))
 (((fulI 0 (lenN l22) (lenN l22)).bnd (fun (_ : Unit) =>
 some (Sum.inl ((i19, i17, i16, i18), (i20, i21), l22)))).bnd (fun (l25 : (((Int × (Int × (Int × Int))) × ((Int × Int) × (List Int))) ⊕ (((Int × (Int × Int)) × ((Int × Int) × (List Int))) ⊕ (((Int × (Int × Int)) × ((Int × Int) × (List Int))) ⊕ (Int ⊕ (Int × Bool)))))) =>
 some (Sum.inr l25))))))
 (((fulI 0 (lenN l22) (lenN l22)).bnd (fun (_ : Unit) =>
 some (Sum.inl ((i19, i17, i16, i18), (i20, i21), l22)))).bnd (fun (l26 : (((Int × (Int × (Int × Int))) × ((Int × Int) × (List Int))) ⊕ (((Int × (Int × Int)) × ((Int × Int) × (List Int))) ⊕ (((Int × (Int × Int)) × ((Int × Int) × (List Int))) ⊕ (Int ⊕ (Int × Bool)))))) =>
 some (Sum.inr l26))))
 ((i10, i11, i12, addI .i64 i12 (1 : Int)), (i13, i14), l15)))
 (fun (((i27, i28, i29, i30), (i31, i32), l33) : ((Int × (Int × (Int × Int))) × ((Int × Int) × (List Int)))) =>
 cnd (eqI i27 i31)
 (some (Sum.inr (Sum.inr (Sum.inr ((0 : Int), true)))))
 (joinK (cnd (neI i27 (addI .i64 i30 (1 : Int)))
 ((fulI 0 (lenN l33) (lenN l33)).bnd (fun (_ : Unit) =>
 (F_impl_Matrix_swapRows ((i31, i32, l33), addI .i64 i30 (1 : Int), i27)).bnd (fun (l34 : (List Int)) =>
 (winI l34 0 (lenN l33)).bnd (fun (l35 : (List Int)) =>
 (F_impl_rawTranspose (i31, i32, l35)).bnd (fun ((i36, i37, l38) : (Int × (Int × (List Int)))) =>
 (fulI 0 (lenN l38) (lenN l38)).bnd (fun (_ : Unit) =>
 (F_impl_Matrix_swapRows ((i36, i37, l38), addI .i64 i30 (1 : Int), i27)).bnd (fun (l39 : (List Int)) =>
 (winI l39 0 (lenN l38)).bnd (fun (l40 : (List Int)) =>
 (F_impl_rawTranspose (i36, i37, l40)).bnd (fun ((i41, i42, l43) : (Int × (Int × (List Int)))) =>
 (remI (subI .i64 i29 i28) i29).bnd (fun (i44 : Int) =>
 (fulI 0 (lenN l43) (lenN l43)).bnd (fun (_ : Unit) =>
 some (Sum.inl ((i44, i29, i30), (i41, i42), l43)))))))))))))
 ((fulI 0 (lenN l33) (lenN l33)).bnd (fun (_ : Unit) =>
 some (Sum.inl ((i28, i29, i30), (i31, i32), l33)))))
 (fun (((i45, i46, i47), (i48, i49), l50) : ((Int × (Int × Int)) × ((Int × Int) × (List Int)))) =>
 (winI l50 0 (lenN l50)).bnd (fun (l51 : (List Int)) =>
 (F_impl_Matrix_at ((i48, i49, l51), i47, addI .i64 i47 (1 : Int))).bnd (fun (i52 : Int) =>
 (remI (mulI .i64 i45 i52) i46).bnd (fun (i53 : Int) =>
 (winI l50 0 (lenN l50)).bnd (fun (l54 : (List Int)) =>
 (F_impl_Matrix_at ((i48, i49, l54), i47, addI .i64 i47 (1 : Int))).bnd (fun (i55 : Int) =>
 (F_impl_rawInverse (i46, i55)).bnd (fun (i56 : Int) =>
 (fulI 0 (lenN l50) (lenN l50)).bnd (fun (_ : Unit) =>
 loopT NN (fun (((i57, i58, i59, i60, i61), (i62, i63), l64) : ((Int × (Int × (Int × (Int × Int)))) × ((Int × Int) × (List Int)))) =>
 cnd (ltI i61 i62)
 (joinK ((fulI 0 (lenN l64) (lenN l64)).bnd (fun (_ : Unit) =>
 loopT NN (fun (((i65, i66, i67, i68, i69, i70), (i71, i72), l73) : ((Int × (Int × (Int × (Int × (Int × Int))))) × ((Int × Int) × (List Int)))) =>
 cnd (ltI i70 i71)
 ((winI l73 0 (lenN l73)).bnd (fun (l74 : (List Int)) =>
 (F_impl_Matrix_at ((i71, i72, l74), addI .i64 i67 (1 : Int), i69)).bnd (fun (i75 : Int) =>
 (winI l73 0 (lenN l73)).bnd (fun (l76 : (List Int)) =>
 (F_impl_Matrix_at ((i71, i72, l76), i67, i70)).bnd (fun (i77 : Int) =>
 (winI l73 0 (lenN l73)).bnd (fun (l78 : (List Int)) =>
 (F_impl_Matrix_at ((i71, i72, l78), i67, i69)).bnd (fun (i79 : Int) =>
 (winI l73 0 (lenN l73)).bnd (fun (l80 : (List Int)) =>
 (F_impl_Matrix_at ((i71, i72, l80), addI .i64 i67 (1 : Int), i70)).bnd (fun (i81 : Int) =>
 (remI (addI .i64 (mulI .i64 i75 i77) (mulI .i64 (subI .i64 i65 i79) i81)) i65).bnd (fun (i82 : Int) =>
 (winI l73 0 (lenN l73)).bnd (fun (l83 : (List Int)) =>
 (F_impl_Matrix_at ((i71, i72, l83), i69, i70)).bnd (fun (i84 : Int) =>
 (remI (addI .i64 i84 (mulI .i64 i82 i68)) i65).bnd (fun (i85 : Int) =>
 (fulI 0 (lenN l73) (lenN l73)).bnd (fun (_ : Unit) =>
 (F_impl_Matrix_set ((i71, i72, l73), i69, i70, i85)).bnd (fun (l86 : (List Int)) =>
 (fulI 0 (lenN l73) (lenN l86)).bnd (fun (_ : Unit) =>
 some (Sum.inl ((i65, i66, i67, i68, i69, addI .i64 i70 (1 : Int)), (i71, i72), l86))))))))))))))))))
 (((fulI 0 (lenN l73) (lenN l73)).bnd (fun (_ : Unit) =>
 some (Sum.inl ((i69, i65, i66, i67, i68), (i71, i72), l73)))).bnd (fun (l87 : (((Int × (Int × (Int × (Int × Int)))) × ((Int × Int) × (List Int))) ⊕ (((Int × (Int × (Int × (Int × Int)))) × ((Int × Int) × (List Int))) ⊕ (((Int × (Int × Int)) × ((Int × Int) × (List Int))) ⊕ (((Int × (Int × Int)) × ((Int × Int) × (List Int))) ⊕ (Int ⊕ (Int × Bool))))))) =>
 some (Sum.inr l87))))
 ((i57, i58, i59, i60, i61, addI .i64 i59 (2 : Int)), (i62, i63), l64)))
 (fun (((i88, i89, i90, i91, i92), (i93, i94), l95) : ((Int × (Int × (Int × (Int × Int)))) × ((Int × Int) × (List Int)))) =>
 (fulI 0 (lenN l95) (lenN l95)).bnd (fun (_ : Unit) =>
 some (Sum.inl ((i89, i90, i91, i92, addI .i64 i88 (1 : Int)), (i93, i94), l95)))))
 (((fulI 0 (lenN l64) (lenN l64)).bnd (fun (_ : Unit) =>
 some (Sum.inl ((i59, i57, i58), (i62, i63), l64)))).bnd (fun (l96 : (((Int × (Int × Int)) × ((Int × Int) × (List Int))) ⊕ (((Int × (Int × Int)) × ((Int × Int) × (List Int))) ⊕ (Int ⊕ (Int × Bool))))) =>
 some (Sum.inr l96))))
 ((i46, i53, i47, i56, addI .i64 i47 (2 : Int)), (i48, i49), l50))))))))))))
 (fun (((i97, i98, i99), (i100, i101), l102) : ((Int × (Int × Int)) × ((Int × Int) × (List Int)))) =>
 (fulI 0 (lenN l102) (lenN l102)).bnd (fun (_ : Unit) =>
 some (Sum.inl ((i98, i99, addI .i64 i97 (2 : Int)), (i100, i101), l102)))))
 (some (Sum.inr (Sum.inl i11))))
 ((i0, (1 : Int), (0 : Int)), (i7, i8), l9)))
 (fun (i103 : Int) =>
 some (i103, true)))))))))))


theorem remNN' {a b : Nat} (hb : 0 < b) : remI (a : Int) (b : Int) = some ((a % b : Nat) : Int) := by
  rw [remN (by omega) (by omega)]; rfl

/-! ### both runs give the same -/

theorem altOk_B {p : Int} {n : Nat} {M : Mat} (hM : inM p n n M) (h : altOk p n M = true) : AltB p n 0 M := by
  have h := of_decide_eq_true h
  have key : ∀ i j, i < n → j ≤ i → eqm p (M i j + M j i) 0 := fun i j hi hj => by
    have := (h i hi j (by omega)).1
    exact (eqm_mod p _).symm.trans (by rw [this]; exact eqm.refl _ _)
  refine ⟨fun i _ hi => (h i hi i (by omega)).2 rfl, fun i j _ hi _ hj => ?_⟩
  rcases Nat.le_total j i with h1 | h1
  · exact key i j hi h1
  · rw [Int.add_comm]; exact key j i hj h1

theorem pivC_some {A : Mat} {n k i : Nat} (h : pivC A n k = some i) (hk : k < n) : k + 1 ≤ i ∧ i < n ∧ A k i ≠ 0 := by
  have := pivF_lt h
  exact ⟨this.1, by omega, this.2.2⟩
theorem pivC_eq {A C : Mat} {n k : Nat} (h : EqB n k A C) (hk : k < n) : pivC A n k = pivC C n k :=
  pivF_congr (n - (k + 1)) (k + 1) fun i h1 h2 => h k i (Nat.le_refl k) hk (by omega) (by omega)
theorem swA_in {p : Int} {A : Mat} {n k i : Nat} (h1 : k + 1 ≤ i) (h2 : i < n) (h : inM p n n A) : inM p n n (swA A k i) := by
  unfold swA
  split
  · exact h
  · exact swB_in (by omega) h2 h
theorem swA_eq {A C : Mat} {n k i : Nat} (h1 : k + 1 ≤ i) (h2 : i < n) (h : EqB n k A C) : EqB n k (swA A k i) (swA C k i) := by
  unfold swA
  split
  · exact h
  · exact swB_eq ⟨by omega, by omega⟩ ⟨by omega, h2⟩ h
theorem swA_alt {p : Int} {A : Mat} {n k i : Nat} (h1 : k + 1 ≤ i) (h2 : i < n) (h : AltB p n k A) : AltB p n k (swA A k i) := by
  unfold swA
  split
  · exact h
  · exact swB_alt ⟨by omega, by omega⟩ ⟨by omega, h2⟩ h

/-- Both runs stand at the same place. -/
def PfRel (p : Int) (n : Nat) (A0 : Mat) (j : Nat) : Prop :=
  (pfS p n A0 j = none ∧ pfI p n A0 j = none) ∨ ∃ A C out, pfS p n A0 j = some (A, out) ∧ pfI p n A0 j = some (C, out) ∧ inM p n n A ∧ inM p n n C ∧ EqB n (2 * j) A C ∧ AltB p n (2 * j) A ∧ inP p out

theorem pf_rel {p : Int} {n : Nat} {A0 : Mat} (hp : pOk p) (h0 : inM p n n A0) (hA : AltB p n 0 A0) : ∀ j, 2 * j ≤ n → n % 2 = 0 → PfRel p n A0 j
  | 0, _, _ => .inr ⟨A0, A0, 1, rfl, rfl, h0, h0, fun _ _ _ _ _ _ => rfl, hA, one_in hp⟩
  | j + 1, hj, hn => by
    rcases pf_rel hp h0 hA j (by omega) hn with ⟨h1, h2⟩ | ⟨A, C, out, h1, h2, iA, iC, hE, hAl, ho⟩
    · exact .inl ⟨by simp only [pfS, h1], by simp only [pfI, h2]⟩
    · have hk : 2 * j < n := by omega
      have hpv := pivC_eq hE hk
      cases hc : pivC A n (2 * j) with
      | none => exact .inl ⟨by simp only [pfS, h1, hc], by simp only [pfI, h2, ← hpv, hc]⟩
      | some i =>
        obtain ⟨i1, i2, i3⟩ := pivC_some hc hk
        have jA := swA_in i1 i2 iA
        have jC := swA_in i1 i2 iC
        have jE := swA_eq i1 i2 hE
        have jL := swA_alt i1 i2 hAl
        have ex : swA C (2 * j) i (2 * j) (2 * j + 1) = swA A (2 * j) i (2 * j) (2 * j + 1) := (jE _ _ (Nat.le_refl _) hk (by omega) (by omega)).symm
        have eo : pfOut p out C (2 * j) i = pfOut p out A (2 * j) i := by unfold pfOut; rw [ex]
        have ei : pfInv p C (2 * j) i = pfInv p A (2 * j) i := by unfold pfInv; rw [ex]
        obtain ⟨g1, g2⟩ := el_agree (inv := pfInv p A (2 * j) i) hp jA jC (by omega) jE (jL.1 _ (by omega) (by omega)) jL
        refine .inr ⟨_, _, pfOut p out A (2 * j) i, by simp only [pfS, h1, hc], by simp only [pfI, h2, ← hpv, hc, eo, ei], elS_in hp jA _, elI_in hp jC, g1, g2, emod_in hp _⟩

theorem pf_val {p : Int} {n : Nat} {A0 : Mat} (hp : pOk p) (h0 : inM p n n A0) (hA : AltB p n 0 A0) (hn : n % 2 = 0) : pfV (pfI p n A0 (n / 2)) = pfV (pfS p n A0 (n / 2)) := by
  rcases pf_rel hp h0 hA (n / 2) (by omega) hn with ⟨h1, h2⟩ | ⟨A, C, out, h1, h2, _⟩
  · rw [h1, h2]
  · rw [h1, h2]; rfl

theorem pfS_none {p : Int} {n : Nat} {A0 : Mat} {j : Nat} (h : pfS p n A0 j = none) : ∀ d, pfS p n A0 (j + d) = none
  | 0 => h
  | d + 1 => by
    show (match pfS p n A0 (j + d) with | none => none | some s => _) = none
    rw [pfS_none h d]
theorem pfI_none {p : Int} {n : Nat} {A0 : Mat} {j : Nat} (h : pfI p n A0 j = none) : ∀ d, pfI p n A0 (j + d) = none
  | 0 => h
  | d + 1 => by
    show (match pfI p n A0 (j + d) with | none => none | some s => _) = none
    rw [pfI_none h d]

/-! ### the program's walk -/

theorem joinK_cnd {X Y : Type} {b : Bool} {u v : Option (X ⊕ Y)} {f : X → Option Y} {s : X} (h1 : b = true → u = some (.inl s)) (h2 : b = false → v = some (.inl s)) : joinK (cnd b u v) f = f s := by
  cases b
  · rw [cnd_false, h2 rfl, joinK_l]
  · rw [cnd_true, h1 rfl, joinK_l]

theorem pfI_in {p : Int} {n : Nat} {A0 : Mat} (hp : pOk p) (h0 : inM p n n A0) : ∀ j s, 2 * j ≤ n → pfI p n A0 j = some s → inM p n n s.1 ∧ inP p s.2
  | 0, s, _, h => by injection h with h; subst h; exact ⟨h0, one_in hp⟩
  | j + 1, s, hj, h => by
    simp only [pfI] at h
    split at h
    · cases h
    · rename_i s0 e
      have i0 := pfI_in hp h0 j s0 (by omega) e
      split at h
      · cases h
      · rename_i i hc
        injection h with h
        subst h
        obtain ⟨i1, i2, _⟩ := pivC_some hc (by omega)
        exact ⟨elI_in hp (swA_in i1 i2 i0.1), emod_in hp _⟩
theorem pfS_in {p : Int} {n : Nat} {A0 : Mat} (hp : pOk p) (h0 : inM p n n A0) : ∀ j s, 2 * j ≤ n → pfS p n A0 j = some s → inM p n n s.1 ∧ inP p s.2
  | 0, s, _, h => by injection h with h; subst h; exact ⟨h0, one_in hp⟩
  | j + 1, s, hj, h => by
    simp only [pfS] at h
    split at h
    · cases h
    · rename_i s0 e
      have i0 := pfS_in hp h0 j s0 (by omega) e
      split at h
      · cases h
      · rename_i i hc
        injection h with h
        subst h
        obtain ⟨i1, i2, _⟩ := pivC_some hc (by omega)
        exact ⟨elS_in hp (swA_in i1 i2 i0.1) _, emod_in hp _⟩

def elT (p : Int) (A : Mat) (s : Nat) (inv : Int) (i j : Nat) : Mat := fun a b =>
  if s + 2 ≤ a ∧ s + 2 ≤ b ∧ (a < i ∨ a = i ∧ b < j) then (A a b + (A (s + 1) a * A s b + (p - A s a) * A (s + 1) b) % p * inv) % p else A a b
theorem elT_0 (p : Int) (A : Mat) (s : Nat) (inv : Int) : elT p A s inv (s + 2) (s + 2) = A := by
  funext a b; exact if_neg (by omega)
theorem elT_step {r c : Nat} {p : Int} {A : Mat} {s : Nat} {inv : Int} {i j : Nat} (hi : s + 2 ≤ i) (hj : s + 2 ≤ j) :
    genD r c (updM (elT p A s inv i j) i j ((A i j + (A (s + 1) i * A s j + (p - A s i) * A (s + 1) j) % p * inv) % p)) = genD r c (elT p A s inv i (j + 1)) := by
  refine genD_congr fun a ha b hb => ?_
  unfold updM elT
  by_cases h : a = i ∧ b = j
  · obtain ⟨rfl, rfl⟩ := h
    rw [if_pos ⟨rfl, rfl⟩, if_pos (by omega)]
  · rw [if_neg h]
    by_cases h1 : s + 2 ≤ a ∧ s + 2 ≤ b ∧ (a < i ∨ a = i ∧ b < j)
    · rw [if_pos h1, if_pos (by omega)]
    · rw [if_neg h1, if_neg (by omega)]
theorem elT_row {r n : Nat} {p : Int} {A : Mat} {s : Nat} {inv : Int} {i : Nat} : genD r n (elT p A s inv i n) = genD r n (elT p A s inv (i + 1) (s + 2)) := by
  refine genD_congr fun a ha b hb => ?_
  unfold elT
  by_cases h1 : s + 2 ≤ a ∧ s + 2 ≤ b ∧ (a < i ∨ a = i ∧ b < n)
  · rw [if_pos h1, if_pos (by omega)]
  · rw [if_neg h1, if_neg (by omega)]
theorem elT_end {n c : Nat} {p : Int} {A : Mat} {s : Nat} {inv : Int} : genD n c (elT p A s inv n (s + 2)) = genD n c (elI p A s inv) := by
  refine genD_congr fun a ha b hb => ?_
  unfold elT elI
  by_cases h1 : s + 2 ≤ a ∧ s + 2 ≤ b
  · rw [if_pos (by omega), if_pos h1]
  · rw [if_neg (by omega), if_neg h1]
theorem chgR {p a b c d : Int} (hp : pOk p) (ha : inP p a) (hb : inP p b) (hc : inP p c) (hd : inP p d) : remI (addI .i64 (mulI .i64 a b) (mulI .i64 (subI .i64 p c) d)) p = some ((a * b + (p - c) * d) % p) := by
  have h1 := prod_in hp ha.le hb.le
  have hc' : 0 ≤ p - c ∧ p - c ≤ p := by have := hc.1; have := hc.2; omega
  have h2 := prod_in hp hc' hd.le
  have h3 := hp.1; have h4 := hp.2; have h5 := hc.1; have h6 := hc.2
  rw [mulI_in hp ha.le hb.le, subI_eq (by omega) (by omega), mulI_in hp hc' hd.le, addI_eq (by omega) (by omega), remN (by omega) (by omega)]
theorem pivC_zero {A : Mat} {n k i t : Nat} (h : pivC A n k = some i) (h1 : k + 1 + t < i) : A k (k + 1 + t) = 0 := pivF_before h (k + 1 + t) (by omega) h1
theorem pivC_none {A : Mat} {n k t : Nat} (h : pivC A n k = none) (h1 : k + 1 + t < n) : A k (k + 1 + t) = 0 := pivF_none h (k + 1 + t) (by omega) (by omega)
/-- How far the search goes. -/
theorem pivC_w {A : Mat} {n k : Nat} (hk : k < n) : ∃ w, k + 1 + w ≤ n ∧ (∀ t, t < w → A k (k + 1 + t) = 0) ∧ ((pivC A n k = none ∧ k + 1 + w = n) ∨ (pivC A n k = some (k + 1 + w) ∧ k + 1 + w < n ∧ A k (k + 1 + w) ≠ 0)) := by
  cases hc : pivC A n k with
  | none => exact ⟨n - (k + 1), by omega, fun t ht => pivC_none hc (by omega), .inl ⟨rfl, by omega⟩⟩
  | some i =>
    obtain ⟨i1, i2, i3⟩ := pivC_some hc hk
    obtain ⟨w, rfl⟩ : ∃ w, i = k + 1 + w := ⟨i - (k + 1), by omega⟩
    exact ⟨w, by omega, fun t ht => pivC_zero hc (by omega), .inr ⟨rfl, i2, i3⟩⟩

section
variable {p : Int} {n : Nat} {M : Mat}

theorem g_pfI (hp : pOk p) (hn : n ≤ 64) (hM : inM p n n M) (hev : n % 2 = 0) (hmok : F_impl_MatrixOk (p, (n : Int), (n : Int), genD n n M) = some true) (hal : F_impl_alternating (p, (n : Int), (n : Int), genD n n M) = some true) :
    G_impl_Pfaffian FUEL (p, (n : Int), (n : Int), genD n n M) = some (pfV (pfI p n M (n / 2)), true) := by
  have hnn : n * n ≤ 64 * 64 := Nat.mul_le_mul hn hn
  have h1 := hp.1
  have h2 := hp.2
  simp only [G_impl_Pfaffian, hmok, bnd_s, neI_self, notB_t, cnd_false, hal]
  rw [show (2 : Int) = ((2 : Nat) : Int) from rfl, remNN' (by omega), bnd_s, hev, cnd_f (by decide)]
  rw [show F_impl_copyMatrix ((n : Int), (n : Int), genD n n M) = some ((n : Int), (n : Int), genD n n M) from if_pos (by show (genD n n M).length ≤ _; rw [genD_len]; omega), bnd_s]
  simp only [fulI_id, bnd_s]
  obtain ⟨q, hq1, hq2, hq3⟩ := stop_ex (fun j => (pfI p n M (j + 1)).isSome = true) (n / 2)
  have some_at : ∀ j, j ≤ q → ∃ s, pfI p n M j = some s := by
    intro j hj
    cases j with
    | zero => exact ⟨_, rfl⟩
    | succ j => exact Option.isSome_iff_exists.1 (hq2 j (by omega))
  rw [loopT_seq (r := if q < n / 2 then Sum.inr (0, true) else Sum.inl ((pfI p n M q).getD (M, 1)).2) (fun j => ((p, ((pfI p n M j).getD (M, 1)).2, ((2 * j : Nat) : Int)), ((n : Int), (n : Int)), genD n n ((pfI p n M j).getD (M, 1)).1)) q ?a1 ?a2 ?a3 (FUEL_gt (by omega))]
  case a3 => rfl
  case a2 =>
    obtain ⟨s, hs⟩ := some_at q (Nat.le_refl q)
    rw [hs]
    simp only [Option.getD_some]
    by_cases hlt : q < n / 2
    · have hk : 2 * q < n := by omega
      obtain ⟨i1, i2⟩ := pfI_in hp hM q s (by omega) hs
      obtain ⟨A, out⟩ := s
      simp only at i1 i2 ⊢
      have hnone : pfI p n M (q + 1) = none := by
        rcases hq3 with h | h
        · omega
        · cases hx : pfI p n M (q + 1) with
          | none => rfl
          | some z => rw [hx] at h; exact absurd rfl h
      have hpc : pivC A n (2 * q) = none := by
        simp only [pfI, hs] at hnone
        cases hx : pivC A n (2 * q) with
        | none => rfl
        | some z => rw [hx] at hnone; cases hnone
      rw [cnd_t (ltN_t hk), if_pos hlt]
      rw [loopT_seq (fun t => ((p, out, ((2 * q : Nat) : Int), ((2 * q + 1 + t : Nat) : Int)), ((n : Int), (n : Int)), genD n n A)) (n - (2 * q + 1)) ?b1 ?b2 ?b3 (FUEL_gt (by omega))]
      case b3 => simp only [addN1 (show 2 * q ≤ 1048577 by omega)]; try rfl
      case b2 => simp only; rw [cnd_f (ltN_f (by omega))]; try (simp only [fulI_id, bnd_s])
      case b1 =>
        intro t ht
        simp only
        rw [cnd_t (ltN_t (show 2 * q + 1 + t < n by omega)), winI_gen, bnd_s, at_nat (by omega) (by omega) (by omega) hk (show 2 * q + 1 + t < n by omega), bnd_s, pivC_none hpc (by omega), cnd_t (by rfl)]
        simp only [fulI_id, bnd_s, addN1 (show 2 * q + 1 + t ≤ 1048577 by omega)]
        try rfl
      rw [joinK_l]
      simp only
      rw [show 2 * q + 1 + (n - (2 * q + 1)) = n by omega, cnd_t (by simp [eqI])]
      rfl
    · rw [cnd_f (ltN_f (by omega)), if_neg hlt]
  case a1 =>
    intro j hj
    have hk : 2 * j < n := by omega
    obtain ⟨s, hs⟩ := some_at j (by omega)
    obtain ⟨s', hs'⟩ := some_at (j + 1) (by omega)
    obtain ⟨iA, io⟩ := pfI_in hp hM j s (by omega) hs
    rw [hs', hs]
    simp only [Option.getD_some]
    obtain ⟨A, out⟩ := s
    simp only at iA io ⊢
    simp only [pfI, hs] at hs'
    obtain ⟨w, w1, w2, w3⟩ := pivC_w (A := A) hk
    rcases w3 with ⟨w3, _⟩ | ⟨w3, w4, w5⟩
    · rw [w3] at hs'; cases hs'
    rw [w3] at hs'
    injection hs' with hs'
    subst hs'
    generalize hi : 2 * j + 1 + w = i at *
    rw [cnd_t (ltN_t hk)]
    rw [loopT_seq (fun t => ((p, out, ((2 * j : Nat) : Int), ((2 * j + 1 + t : Nat) : Int)), ((n : Int), (n : Int)), genD n n A)) w ?b1 ?b2 ?b3 (FUEL_gt (by omega))]
    case b3 => simp only [addN1 (show 2 * j ≤ 1048577 by omega)]; try rfl
    case b2 =>
      simp only
      rw [hi, cnd_t (ltN_t w4), winI_gen, bnd_s, at_nat (by omega) (by omega) (by omega) hk w4, bnd_s, cnd_f (by simp [eqI, w5])]
      try (simp only [fulI_id, bnd_s])
    case b1 =>
      intro t ht
      simp only
      rw [cnd_t (ltN_t (show 2 * j + 1 + t < n by omega)), winI_gen, bnd_s, at_nat (by omega) (by omega) (by omega) hk (show 2 * j + 1 + t < n by omega), bnd_s, w2 t ht, cnd_t (by rfl)]
      simp only [fulI_id, bnd_s, addN1 (show 2 * j + 1 + t ≤ 1048577 by omega)]
      try rfl
    rw [joinK_l]
    simp only
    have i1 : 2 * j + 1 ≤ i := by omega
    have jA := swA_in i1 w4 iA
    rw [cnd_f (by simp [eqI]; omega), addN1 (show 2 * j ≤ 1048577 by omega)]
    rw [joinK_cnd (s := (((if i = 2 * j + 1 then out else (p - out) % p), p, ((2 * j : Nat) : Int)), ((n : Int), (n : Int)), genD n n (swA A (2 * j) i))) ?c1 ?c2]
    case c1 =>
      intro hb
      have hne : i ≠ 2 * j + 1 := fun e => by subst e; simp [neI] at hb
      have sw1 : ∀ B : Mat, F_impl_Matrix_swapRows (((n : Int), (n : Int), genD n n B), ((2 * j + 1 : Nat) : Int), (i : Int)) = some (genD n n (swapF B (2 * j + 1) i)) := fun B => swap_nat (by omega) (by omega) (by omega) (show 2 * j + 1 < n by omega) w4
      have tn : ∀ B : Mat, F_impl_rawTranspose ((n : Int), (n : Int), genD n n B) = some ((n : Int), (n : Int), genD n n (turnF B)) := fun B => turn_nat (by omega) (by omega) (by omega)
      simp only [sw1, tn, winI_gen, fulI_gen, fulI_id, bnd_s, subR hp io]
      rw [if_neg hne]
      unfold swA
      rw [if_neg hne]
      rfl
    case c2 =>
      intro hb
      have he : i = 2 * j + 1 := by
        rcases Nat.lt_trichotomy i (2 * j + 1) with h | h | h
        · omega
        · exact h
        · simp [neI] at hb; omega
      rw [if_pos he]
      unfold swA
      rw [if_pos he]
      try simp only [fulI_id, bnd_s]
    simp only
    have ho1 : inP p (if i = 2 * j + 1 then out else (p - out) % p) := by
      split
      · exact io
      · exact emod_in hp _
    have hx : inP p (swA A (2 * j) i (2 * j) (2 * j + 1)) := jA _ hk _ (by omega)
    have eo : pfOut p out A (2 * j) i = (if i = 2 * j + 1 then out else (p - out) % p) * swA A (2 * j) i (2 * j) (2 * j + 1) % p := rfl
    have ei : pfInv p A (2 * j) i = invG p 1 (swA A (2 * j) i (2 * j) (2 * j + 1)) (p - 2).toNat := rfl
    generalize (if i = 2 * j + 1 then out else (p - out) % p) = out1 at *
    generalize swA A (2 * j) i = B at *
    have hI : inP p (invG p 1 (B (2 * j) (2 * j + 1)) (p - 2).toNat) := invG_in hp _ _ _ (one_in hp)
    rw [winI_gen, bnd_s, addN1 (show 2 * j ≤ 1048577 by omega), at_nat (by omega) (by omega) (by omega) hk (show 2 * j + 1 < n by omega), bnd_s, mulR hp ho1.le hx.le, bnd_s]
    try simp only [bnd_s]
    rw [← eo]
    try rw [winI_gen, bnd_s]
    rw [at_nat (by omega) (by omega) (by omega) hk (show 2 * j + 1 < n by omega), bnd_s]
    rw [invI_nat hp hx, bnd_s, ← ei]
    rw [← ei] at hI
    generalize pfInv p A (2 * j) i = inv at *
    generalize pfOut p out A (2 * j) i = out2 at *
    have e2 : addI .i64 ((2 * j : Nat) : Int) ((2 : Nat) : Int) = ((2 * j + 2 : Nat) : Int) := addNN (by omega)
    try simp only [fulI_id, bnd_s, e2]
    rw [loopT_seq (fun t => ((p, out2, ((2 * j : Nat) : Int), inv, ((2 * j + 2 + t : Nat) : Int)), ((n : Int), (n : Int)), genD n n (elT p B (2 * j) inv (2 * j + 2 + t) (2 * j + 2)))) (n - (2 * j + 2)) ?d1 ?d2 ?d3 (FUEL_gt (by omega))]
    case d3 => simp only [show 2 * j + 2 + 0 = 2 * j + 2 from rfl, elT_0]
    case d2 =>
      simp only
      rw [cnd_f (ltN_f (by omega))]
      try simp only [fulI_id, bnd_s]
      try rfl
    case d1 =>
      intro t ht
      simp only
      have hi2 : 2 * j + 2 + t < n := by omega
      rw [cnd_t (ltN_t hi2), e2]
      rw [loopT_seq (fun u => ((p, out2, ((2 * j : Nat) : Int), inv, ((2 * j + 2 + t : Nat) : Int), ((2 * j + 2 + u : Nat) : Int)), ((n : Int), (n : Int)), genD n n (elT p B (2 * j) inv (2 * j + 2 + t) (2 * j + 2 + u)))) (n - (2 * j + 2)) ?k1 ?k2 ?k3 (FUEL_gt (by omega))]
      case k3 => rfl
      case k2 =>
        simp only
        rw [cnd_f (ltN_f (by omega))]
        try simp only [fulI_id, bnd_s]
        try rfl
      case k1 =>
        intro u hu
        simp only
        have hj2 : 2 * j + 2 + u < n := by omega
        have l1 : ∀ a b, a < 2 * j + 2 → elT p B (2 * j) inv (2 * j + 2 + t) (2 * j + 2 + u) a b = B a b := fun a b h => if_neg (by omega)
        have l2 : elT p B (2 * j) inv (2 * j + 2 + t) (2 * j + 2 + u) (2 * j + 2 + t) (2 * j + 2 + u) = B (2 * j + 2 + t) (2 * j + 2 + u) := if_neg (by omega)
        have k1 : 2 * j + 1 < n := by omega
        have A : ∀ a b, a < 2 * j + 2 → b < n → F_impl_Matrix_at (((n : Int), (n : Int), genD n n (elT p B (2 * j) inv (2 * j + 2 + t) (2 * j + 2 + u))), (a : Int), (b : Int)) = some (B a b) := fun a b h h' => by
          rw [at_nat (by omega) (by omega) (by omega) (by omega) h', l1 a b h]
        have A5 : F_impl_Matrix_at (((n : Int), (n : Int), genD n n (elT p B (2 * j) inv (2 * j + 2 + t) (2 * j + 2 + u))), ((2 * j + 2 + t : Nat) : Int), ((2 * j + 2 + u : Nat) : Int)) = some (B (2 * j + 2 + t) (2 * j + 2 + u)) := by
          rw [at_nat (by omega) (by omega) (by omega) hi2 hj2, l2]
        rw [cnd_t (ltN_t hj2), addN1 (show 2 * j ≤ 1048577 by omega)]
        simp only [winI_gen, bnd_s, A _ _ (show 2 * j + 1 < 2 * j + 2 by omega) hi2, A _ _ (show 2 * j < 2 * j + 2 by omega) hj2, A _ _ (show 2 * j < 2 * j + 2 by omega) hi2, A _ _ (show 2 * j + 1 < 2 * j + 2 by omega) hj2, A5]
        have q1 : inP p (B (2 * j + 1) (2 * j + 2 + t)) := jA _ k1 _ hi2
        have q2 : inP p (B (2 * j) (2 * j + 2 + u)) := jA _ hk _ hj2
        have q3 : inP p (B (2 * j) (2 * j + 2 + t)) := jA _ hk _ hi2
        have q4 : inP p (B (2 * j + 1) (2 * j + 2 + u)) := jA _ k1 _ hj2
        have q5 : inP p (B (2 * j + 2 + t) (2 * j + 2 + u)) := jA _ hi2 _ hj2
        rw [chgR hp q1 q2 q3 q4, bnd_s, macI hp ⟨q5.1, by have := q5.2; omega⟩ (emod_in hp _).le hI.le, bnd_s, set_nat (by omega) (by omega) (by omega) hi2 hj2, bnd_s, fulI_gen, bnd_s, elT_step (by omega) (by omega), addN1 (show 2 * j + 2 + u ≤ 1048577 by omega)]
        rfl
      rw [joinK_l]
      simp only
      rw [show 2 * j + 2 + (n - (2 * j + 2)) = n by omega, elT_row, addN1 (show 2 * j + 2 + t ≤ 1048577 by omega)]
      rfl
    rw [joinK_l]
    simp only
    rw [show 2 * j + 2 + (n - (2 * j + 2)) = n by omega, elT_end, e2]
    rfl
  by_cases hlt : q < n / 2
  · rw [if_pos hlt, joinK_r]
    have hnone : pfI p n M (q + 1) = none := by
      rcases hq3 with h | h
      · omega
      · cases hx : pfI p n M (q + 1) with
        | none => rfl
        | some z => rw [hx] at h; exact absurd rfl h
    have hz := pfI_none hnone (n / 2 - (q + 1))
    rw [show q + 1 + (n / 2 - (q + 1)) = n / 2 by omega] at hz
    rw [hz]
    rfl
  · rw [if_neg hlt, joinK_l]
    have hqe : q = n / 2 := by omega
    obtain ⟨s, hs⟩ := some_at q (Nat.le_refl q)
    rw [← hqe, hs]
    rfl
end

/-! ### the spec's walk -/

theorem negR_iff {p a b : Int} (ha : inP p a) (hb : inP p b) : a = (p - b) % p ↔ (a + b) % p = 0 := by
  have h1 := ha.1; have h2 := ha.2; have h3 := hb.1; have h4 := hb.2
  by_cases h : b = 0
  · subst h
    rw [Int.sub_zero, Int.emod_self, Int.add_zero, Int.emod_eq_of_lt h1 h2]
  · rw [Int.emod_eq_of_lt (by omega) (by omega)]
    by_cases h5 : a + b < p
    · rw [Int.emod_eq_of_lt (by omega) h5]; omega
    · have : (a + b) % p = a + b - p := by
        rw [← Int.sub_emod_right, Int.emod_eq_of_lt (by omega) (by omega)]
      omega

section
variable {p : Int} {n : Nat} {M : Mat}

theorem g_pfS (hp : pOk p) (hn : n ≤ 64) (hM : inM p n n M) (hmok : F_spec_MatrixOk (p, (n : Int), (n : Int), genD n n M) = some true) :
    G_spec_Pfaffian FUEL (p, (n : Int), (n : Int), genD n n M) = some (pfR p n M) := by
  have hnn : n * n ≤ 64 * 64 := Nat.mul_le_mul hn hn
  have h1 := hp.1
  have h2 := hp.2
  simp only [G_spec_Pfaffian, hmok, bnd_s, neI_self, notB_t, cnd_false]
  have at' : ∀ i j, i < n → j < n → getI (genD n n M) (addI .i64 (mulI .i64 (i : Int) (n : Int)) (j : Int)) = some (M i j) := fun i j hi hj => by
    rw [idxI (by omega) (by omega) (by omega), getI_gen M hi hj]
  obtain ⟨q, hq, hlt, hend⟩ := stop_ex (altR p M) n
  rw [loopT_seq (fun i => ((p, (n : Int), (i : Int)), (n : Int), (n : Int), genD n n M)) (r := if q < n then Sum.inr (0, false) else Sum.inl ((p, (n : Int)), (n : Int), (n : Int), genD n n M)) q ?z1 ?z2 ?z3 (FUEL_gt (by omega))]
  case z3 => rfl
  case z1 =>
    intro i hi
    have hin : i < n := by omega
    simp only
    rw [cnd_t (ltN_t hin)]
    rw [loopT_seq (fun j => ((p, (n : Int), (i : Int), (j : Int)), (n : Int), (n : Int), genD n n M)) (r := Sum.inl (((i : Int), p, (n : Int)), (n : Int), (n : Int), genD n n M)) (i + 1) ?_ ?_ ?_ (FUEL_gt (by omega))]
    · rw [joinK_l]
      simp only [addN1 (show i ≤ 1048577 by omega)]
    · intro j hj
      simp only
      have hjn : j < n := by omega
      obtain ⟨a1, a2⟩ := hlt i hi j hj
      have a3 := (negR_iff (hM i hin j hjn) (hM j hjn i hin)).2 a1
      rw [cnd_t (leN_t (by omega)), at' i j hin hjn, bnd_s, at' j i hjn hin, bnd_s, subR hp (hM j hjn i hin), bnd_s, cnd_f (neI_f a3)]
      by_cases e : i = j
      · subst e
        rw [cnd_t (eqI_t rfl), cnd_f (neI_f (a2 rfl))]
        simp only [addN1 (show i ≤ 1048577 by omega)]
      · rw [cnd_f (eqI_f (by omega))]
        simp only [addN1 (show j ≤ 1048577 by omega)]
    · simp only
      rw [cnd_f (leN_f (by omega))]
    · rfl
  case z2 =>
    simp only
    by_cases h : q < n
    · have hno := hend.resolve_left (by omega)
      rw [if_pos h, cnd_t (ltN_t h)]
      obtain ⟨t, ht, hlt2, hend2⟩ := stop_ex (altP p M q) (q + 1)
      have htq : t < q + 1 := by
        rcases hend2 with e | e
        · exact absurd (fun j hj => hlt2 j (by omega)) hno
        · by_cases k : t < q + 1
          · exact k
          · exact absurd (fun j hj => hlt2 j (by omega)) hno
      have hbad : ¬ altP p M q t := hend2.resolve_left (by omega)
      rw [loopT_seq (fun j => ((p, (n : Int), (q : Int), (j : Int)), (n : Int), (n : Int), genD n n M)) (r := Sum.inr (Sum.inr (Sum.inr (0, false)))) t ?_ ?_ ?_ (FUEL_gt (by omega))]
      · rfl
      · intro j hj
        simp only
        have hjn : j < n := by omega
        obtain ⟨a1, a2⟩ := hlt2 j hj
        have a3 := (negR_iff (hM q h j hjn) (hM j hjn q h)).2 a1
        rw [cnd_t (leN_t (by omega)), at' q j h hjn, bnd_s, at' j q hjn h, bnd_s, subR hp (hM j hjn q h), bnd_s, cnd_f (neI_f a3)]
        by_cases e : q = j
        · subst e
          rw [cnd_t (eqI_t rfl), cnd_f (neI_f (a2 rfl))]
          simp only [addN1 (show q ≤ 1048577 by omega)]
        · rw [cnd_f (eqI_f (by omega))]
          simp only [addN1 (show j ≤ 1048577 by omega)]
      · simp only
        have htn : t < n := by omega
        rw [cnd_t (leN_t (by omega)), at' q t h htn, bnd_s, at' t q htn h, bnd_s, subR hp (hM t htn q h), bnd_s]
        by_cases a1 : (M q t + M t q) % p = 0
        · rw [cnd_f (neI_f ((negR_iff (hM q h t htn) (hM t htn q h)).2 a1))]
          by_cases e : q = t
          · subst e
            have a2 : M q q ≠ 0 := fun z => hbad ⟨a1, fun _ => z⟩
            rw [cnd_t (eqI_t rfl), cnd_t (neI_t a2)]
          · exact absurd ⟨a1, fun z => absurd z e⟩ hbad
        · rw [cnd_t (neI_t (fun e => a1 ((negR_iff (hM q h t htn) (hM t htn q h)).1 e)))]
      · rfl
    · rw [if_neg h, cnd_f (ltN_f (by omega))]
  by_cases h : q < n
  · rw [if_pos h, joinK_r]
    unfold pfR altOk
    rw [decide_eq_false (fun e => (hend.resolve_left (by omega)) (e q h))]
    rfl
  have hal : altOk p n M = true := decide_eq_true (fun i hi => hlt i (by omega))
  rw [if_neg h, joinK_l]
  unfold pfR
  rw [if_pos hal]
  clear hq hlt hend h
  simp only
  rw [show (2 : Int) = ((2 : Nat) : Int) from rfl, remNN' (by omega), bnd_s]
  by_cases hev : n % 2 = 1
  · rw [hev, cnd_t (by decide), if_pos rfl]
  replace hev : n % 2 = 0 := by omega
  rw [hev, cnd_f (by decide), if_neg (by decide)]
  rw [show F_spec_l05Ints (genD n n M) = some (genD n n M) from if_pos (by rw [genD_len]; omega), bnd_s]
  simp only [fulI_id, bnd_s]
  obtain ⟨q, hq1, hq2, hq3⟩ := stop_ex (fun j => (pfS p n M (j + 1)).isSome = true) (n / 2)
  have some_at : ∀ j, j ≤ q → ∃ s, pfS p n M j = some s := by
    intro j hj
    cases j with
    | zero => exact ⟨_, rfl⟩
    | succ j => exact Option.isSome_iff_exists.1 (hq2 j (by omega))
  have atS : ∀ (A : Mat) i j, i < n → j < n → (chkI (addI .i64 (mulI .i64 (i : Int) (n : Int)) (j : Int)) (lenN (genD n n A))) = some (i * n + j) ∧ getN (genD n n A) (addN 0 (i * n + j)) = some (A i j) := fun A i j hi hj => by
    rw [idxI (by omega) (by omega) (by omega), chkI_gen A hi hj, addN_0, getN_gen A hi hj]
    exact ⟨rfl, rfl⟩
  rw [loopT_seq (r := if q < n / 2 then Sum.inr (0, true) else Sum.inl ((pfS p n M q).getD (M, 1)).2) (fun j => ((p, (n : Int), ((pfS p n M j).getD (M, 1)).2, ((2 * j : Nat) : Int)), ((n : Int), (n : Int)), genD n n ((pfS p n M j).getD (M, 1)).1)) q ?a1 ?a2 ?a3 (FUEL_gt (by omega))]
  case a3 => rfl
  case a2 =>
    obtain ⟨s, hs⟩ := some_at q (Nat.le_refl q)
    rw [hs]
    simp only [Option.getD_some]
    by_cases hlt : q < n / 2
    · have hk : 2 * q < n := by omega
      obtain ⟨i1, i2⟩ := pfS_in hp hM q s (by omega) hs
      obtain ⟨A, out⟩ := s
      simp only at i1 i2 ⊢
      have hnone : pfS p n M (q + 1) = none := by
        rcases hq3 with h | h
        · omega
        · cases hx : pfS p n M (q + 1) with
          | none => rfl
          | some z => rw [hx] at h; exact absurd rfl h
      have hpc : pivC A n (2 * q) = none := by
        simp only [pfS, hs] at hnone
        cases hx : pivC A n (2 * q) with
        | none => rfl
        | some z => rw [hx] at hnone; cases hnone
      rw [cnd_t (ltN_t hk), if_pos hlt]
      rw [loopT_seq (fun t => ((p, (n : Int), out, ((2 * q : Nat) : Int), ((2 * q + 1 + t : Nat) : Int)), ((n : Int), (n : Int)), genD n n A)) (n - (2 * q + 1)) ?b1 ?b2 ?b3 (FUEL_gt (by omega))]
      case b3 => simp only [addN1 (show 2 * q ≤ 1048577 by omega)]; try rfl
      case b2 => simp only; rw [cnd_f (ltN_f (by omega))]; try (simp only [fulI_id, bnd_s])
      case b1 =>
        intro t ht
        simp only
        obtain ⟨z1, z2⟩ := atS A (2 * q) (2 * q + 1 + t) hk (by omega)
        rw [cnd_t (ltN_t (show 2 * q + 1 + t < n by omega)), z1, bnd_s, z2, bnd_s, pivC_none hpc (by omega), cnd_t (by rfl)]
        simp only [fulI_id, bnd_s, addN1 (show 2 * q + 1 + t ≤ 1048577 by omega)]
        try rfl
      rw [joinK_l]
      simp only
      rw [show 2 * q + 1 + (n - (2 * q + 1)) = n by omega, cnd_t (by simp [eqI])]
      rfl
    · rw [cnd_f (ltN_f (by omega)), if_neg hlt]
  case a1 =>
    intro j hj
    have hk : 2 * j < n := by omega
    obtain ⟨s, hs⟩ := some_at j (by omega)
    obtain ⟨s', hs'⟩ := some_at (j + 1) (by omega)
    obtain ⟨iA, io⟩ := pfS_in hp hM j s (by omega) hs
    rw [hs', hs]
    simp only [Option.getD_some]
    obtain ⟨A, out⟩ := s
    simp only at iA io ⊢
    simp only [pfS, hs] at hs'
    obtain ⟨w, w1, w2, w3⟩ := pivC_w (A := A) hk
    rcases w3 with ⟨w3, _⟩ | ⟨w3, w4, w5⟩
    · rw [w3] at hs'; cases hs'
    rw [w3] at hs'
    injection hs' with hs'
    subst hs'
    generalize hi : 2 * j + 1 + w = i at *
    rw [cnd_t (ltN_t hk)]
    rw [loopT_seq (fun t => ((p, (n : Int), out, ((2 * j : Nat) : Int), ((2 * j + 1 + t : Nat) : Int)), ((n : Int), (n : Int)), genD n n A)) w ?b1 ?b2 ?b3 (FUEL_gt (by omega))]
    case b3 => simp only [addN1 (show 2 * j ≤ 1048577 by omega)]; try rfl
    case b2 =>
      simp only
      obtain ⟨z1, z2⟩ := atS A (2 * j) i hk w4
      rw [hi, cnd_t (ltN_t w4), z1, bnd_s, z2, bnd_s, cnd_f (by simp [eqI, w5])]
      try (simp only [fulI_id, bnd_s])
    case b1 =>
      intro t ht
      simp only
      obtain ⟨z1, z2⟩ := atS A (2 * j) (2 * j + 1 + t) hk (by omega)
      rw [cnd_t (ltN_t (show 2 * j + 1 + t < n by omega)), z1, bnd_s, z2, bnd_s, w2 t ht, cnd_t (by rfl)]
      simp only [fulI_id, bnd_s, addN1 (show 2 * j + 1 + t ≤ 1048577 by omega)]
      try rfl
    rw [joinK_l]
    simp only
    have i1 : 2 * j + 1 ≤ i := by omega
    have jA := swA_in i1 w4 iA
    rw [cnd_f (by simp [eqI]; omega), addN1 (show 2 * j ≤ 1048577 by omega)]
    have tn : ∀ B : Mat, F_spec_l31Turn ((n : Int), (n : Int), genD n n B) = some ((n : Int), (n : Int), genD n n (turnF B)) := fun B => turn_nat (by omega) (by omega) (by omega)
    rw [joinK_cnd (s := (((if i = 2 * j + 1 then out else (p - out) % p), (n : Int), p, ((2 * j : Nat) : Int)), ((n : Int), (n : Int)), genD n n (swA A (2 * j) i))) ?c1 ?c2]
    case c1 =>
      intro hb
      have hne : i ≠ 2 * j + 1 := fun e => by subst e; simp [ltI] at hb
      have sw1 : ∀ B : Mat, F_spec_l31Swap (((n : Int), (n : Int), genD n n B), ((2 * j + 1 : Nat) : Int), (i : Int)) = some (genD n n (swapF B (2 * j + 1) i)) := fun B => swap_nat (by omega) (by omega) (by omega) (show 2 * j + 1 < n by omega) w4
      simp only [sw1, tn, winI_gen, fulI_gen, fulI_id, bnd_s, subR hp io]
      rw [if_neg hne]
      unfold swA
      rw [if_neg hne]
      rfl
    case c2 =>
      intro hb
      have he : i = 2 * j + 1 := by
        rcases Nat.lt_trichotomy i (2 * j + 1) with h | h | h
        · omega
        · exact h
        · rw [ltN_t h] at hb; cases hb
      rw [if_pos he]
      unfold swA
      rw [if_pos he]
      try simp only [fulI_id, bnd_s]
    simp only
    have ho1 : inP p (if i = 2 * j + 1 then out else (p - out) % p) := by
      split
      · exact io
      · exact emod_in hp _
    have hx : inP p (swA A (2 * j) i (2 * j) (2 * j + 1)) := jA _ hk _ (by omega)
    have eo : pfOut p out A (2 * j) i = (if i = 2 * j + 1 then out else (p - out) % p) * swA A (2 * j) i (2 * j) (2 * j + 1) % p := rfl
    have ei : pfInv p A (2 * j) i = invG p 1 (swA A (2 * j) i (2 * j) (2 * j + 1)) (p - 2).toNat := rfl
    generalize (if i = 2 * j + 1 then out else (p - out) % p) = out1 at *
    generalize swA A (2 * j) i = B at *
    have hI : inP p (invG p 1 (B (2 * j) (2 * j + 1)) (p - 2).toNat) := invG_in hp _ _ _ (one_in hp)
    obtain ⟨z1, z2⟩ := atS B (2 * j) (2 * j + 1) hk (by omega)
    have zi : addI .i64 (addI .i64 (mulI .i64 ((2 * j : Nat) : Int) (n : Int)) ((2 * j : Nat) : Int)) 1 = addI .i64 (mulI .i64 ((2 * j : Nat) : Int) (n : Int)) ((2 * j + 1 : Nat) : Int) := by
      have hh : 2 * j * n ≤ 64 * 64 := Nat.mul_le_mul (by omega) hn
      rw [idxI (by omega) (by omega) (by omega), idxI (by omega) (by omega) (by omega), addN1 (by omega)]
      rfl
    rw [zi, z1, bnd_s, z2, bnd_s, mulR hp ho1.le hx.le, bnd_s, ← eo, inv_nat hp hx, bnd_s, ← ei]
    rw [← ei] at hI
    generalize pfInv p A (2 * j) i = inv at *
    generalize pfOut p out A (2 * j) i = out2 at *
    have e2 : addI .i64 ((2 * j : Nat) : Int) ((2 : Nat) : Int) = ((2 * j + 2 : Nat) : Int) := addNN (by omega)
    try simp only [fulI_id, bnd_s, e2]
    rw [loopT_seq (fun t => ((p, (n : Int), out2, ((2 * j : Nat) : Int), inv, ((2 * j + 2 + t : Nat) : Int)), ((n : Int), (n : Int)), genD n n (elS p B (2 * j) inv t))) (n - (2 * j + 2)) ?d1 ?d2 ?d3 (FUEL_gt (by omega))]
    case d3 => rfl
    case d2 =>
      simp only
      rw [cnd_f (ltN_f (by omega))]
      try simp only [fulI_id, bnd_s]
      try rfl
    case d1 =>
      intro t ht
      simp only
      have hi2 : 2 * j + 2 + t < n := by omega
      have iE := elS_in (inv := inv) (k := 2 * j) hp jA t
      have hE : elS p B (2 * j) inv (t + 1) = clB p (elS p B (2 * j) inv t) (2 * j + 2 + t) (2 * j + 1) (elS p B (2 * j) inv t (2 * j) (2 * j + 2 + t) * inv % p) := rfl
      rw [hE]
      generalize elS p B (2 * j) inv t = E at *
      obtain ⟨z1, z2⟩ := atS E (2 * j) (2 * j + 2 + t) hk hi2
      rw [cnd_t (ltN_t hi2), z1, bnd_s, z2, bnd_s, mulR hp (iE _ hk _ hi2).le hI.le, bnd_s]
      have iy : inP p (E (2 * j) (2 * j + 2 + t) * inv % p) := emod_in hp _
      generalize E (2 * j) (2 * j + 2 + t) * inv % p = y at *
      rw [addN1 (show 2 * j ≤ 1048577 by omega)]
      rw [clear_nat hp (by omega) (by omega) (by omega) hi2 (show 2 * j + 1 < n by omega) iy.le iE, bnd_s, winI_gen, bnd_s, tn, bnd_s]
      have iE2 := turnF_in (clearF_inN hp iE (2 * j + 2 + t) (2 * j + 1) (p - y))
      simp only
      rw [clear_nat hp (by omega) (by omega) (by omega) hi2 (show 2 * j + 1 < n by omega) iy.le iE2, bnd_s, winI_gen, bnd_s, tn, bnd_s, addN1 (show 2 * j + 2 + t ≤ 1048577 by omega)]
      rfl
    rw [joinK_l]
    simp only
    rw [e2]
    rfl
  by_cases hlt : q < n / 2
  · rw [if_pos hlt, joinK_r]
    have hnone : pfS p n M (q + 1) = none := by
      rcases hq3 with h | h
      · omega
      · cases hx : pfS p n M (q + 1) with
        | none => rfl
        | some z => rw [hx] at h; exact absurd rfl h
    have hz := pfS_none hnone (n / 2 - (q + 1))
    rw [show q + 1 + (n / 2 - (q + 1)) = n / 2 by omega] at hz
    rw [hz]
    rfl
  · rw [if_neg hlt, joinK_l]
    have hqe : q = n / 2 := by omega
    obtain ⟨s, hs⟩ := some_at q (Nat.le_refl q)
    rw [← hqe, hs]
    rfl
end

theorem f_spec_Pfaffian (x : Int × Int × Int × List Int) (y : Int × Bool) (h : F_spec_Pfaffian x = some y) : G_spec_Pfaffian FUEL x = some y := by
  obtain ⟨m, x⟩ := x
  simp only [F_spec_Pfaffian] at h
  split at h
  · rename_i hl
    rw [← h]
    cases hm : matOk m x with
    | false =>
      obtain ⟨r, c, l⟩ := x
      simp only [G_spec_Pfaffian]
      rw [show F_spec_MatrixOk (m, r, c, l) = some (matOk m (r, c, l)) from if_pos hl, bnd_s, hm]
      rfl
    | true =>
      obtain ⟨r, c, M, rfl, hp, hr, hc, hrc, hM, eM, hR⟩ := matOk_red hm
      have hok : F_spec_MatrixOk (m, (r : Int), (c : Int), genD r c M) = some true := by rw [← hm]; exact if_pos hl
      by_cases hrc2 : r = c
      · subst hrc2
        rw [if_pos ⟨rfl, rfl⟩]
        simp only [Int.toNat_natCast, ← eM]
        exact g_pfS hp hr hM hok
      · rw [if_neg fun h => hrc2 (by have h2 := h.2; simp only at h2; omega)]
        simp only [G_spec_Pfaffian, hok, bnd_s]
        rw [cnd_f (by rfl), cnd_t (neI_t (by omega))]
  · cases h
theorem f_impl_Pfaffian (x : Int × Int × Int × List Int) (y : Int × Bool) (h : F_impl_Pfaffian x = some y) : G_impl_Pfaffian FUEL x = some y := by
  obtain ⟨m, x⟩ := x
  simp only [F_impl_Pfaffian, F_spec_Pfaffian] at h
  split at h
  · rename_i hl
    rw [← h]
    cases hm : matOk m x with
    | false =>
      obtain ⟨r, c, l⟩ := x
      simp only [G_impl_Pfaffian]
      rw [show F_impl_MatrixOk (m, r, c, l) = some (matOk m (r, c, l)) from if_pos hl, bnd_s, hm]
      rfl
    | true =>
      obtain ⟨r, c, M, rfl, hp, hr, hc, hrc, hM, eM, hR⟩ := matOk_red hm
      have hok : F_impl_MatrixOk (m, (r : Int), (c : Int), genD r c M) = some true := by rw [← hm]; exact if_pos hl
      by_cases hrc2 : r = c
      · subst hrc2
        rw [if_pos ⟨rfl, rfl⟩]
        simp only [Int.toNat_natCast, ← eM]
        have hnn : r * r ≤ 64 * 64 := Nat.mul_le_mul hr hr
        have hal : F_impl_alternating (m, (r : Int), (r : Int), genD r r M) = some (altOk m r M) := by
          refine (if_pos ⟨hp, mOk_mk M (by omega) (by omega) (by omega), rfl, allP_gen.2 hM⟩).trans ?_
          simp only [Int.toNat_natCast, ← eM]
        unfold pfR
        by_cases ha : altOk m r M = true
        · rw [if_pos ha]
          rw [ha] at hal
          by_cases hev : r % 2 = 1
          · simp only [G_impl_Pfaffian, hok, bnd_s]
            rw [cnd_f (by rfl), cnd_f (neI_f rfl), hal, bnd_s, cnd_f (by rfl), show (2 : Int) = ((2 : Nat) : Int) from rfl, remNN' (by omega), bnd_s, hev, cnd_t (by rfl), if_pos rfl]
          · rw [if_neg hev]
            rw [g_pfI hp hr hM (by omega) hok hal, pf_val hp hM (altOk_B hM ha) (by omega)]
        · rw [if_neg ha]
          rw [show altOk m r M = false by simpa using ha] at hal
          simp only [G_impl_Pfaffian, hok, bnd_s]
          rw [cnd_f (by rfl), cnd_f (neI_f rfl), hal, bnd_s, cnd_t (by rfl)]
      · rw [if_neg fun h => hrc2 (by have h2 := h.2; simp only at h2; omega)]
        simp only [G_impl_Pfaffian, hok, bnd_s]
        rw [cnd_f (by rfl), cnd_t (neI_t (by omega))]
  · cases h
end Go.Am
end
