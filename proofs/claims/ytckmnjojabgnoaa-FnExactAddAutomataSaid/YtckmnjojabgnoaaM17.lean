/- Mx, M1, M4, M6, M7, M8, M9, Fm, M14, M15, M16, M17: parts of the proof. No condition. -/
import Derived.Test.YtckmnjojabgnoaaMT
set_option linter.unusedVariables false
set_option linter.unusedSimpArgs false
section
namespace Go.Am

/-! ### loops -/

/-! ### matrices -/

def genD (r c : Nat) (M : Nat → Nat → Int) : List Int := (List.range (r * c)).map fun n => M (n / c) (n % c)
def ofD (c : Nat) (l : List Int) : Nat → Nat → Int := fun i j => l.getD (i * c + j) 0
def updM (M : Nat → Nat → Int) (i j : Nat) (x : Int) : Nat → Nat → Int := fun a b => if a = i ∧ b = j then x else M a b

theorem idx_lt {r c i j : Nat} (hi : i < r) (hj : j < c) : i * c + j < r * c := by
  have : (i + 1) * c ≤ r * c := Nat.mul_le_mul_right _ hi
  rw [Nat.add_mul] at this
  omega
theorem idx_div {c i j : Nat} (hj : j < c) : (i * c + j) / c = i := by
  rw [Nat.mul_comm, Nat.mul_add_div (by omega), Nat.div_eq_of_lt hj, Nat.add_zero]
theorem idx_mod {c i j : Nat} (hj : j < c) : (i * c + j) % c = j := by
  rw [Nat.mul_comm, Nat.mul_add_mod, Nat.mod_eq_of_lt hj]
theorem genD_len (r c : Nat) (M : Nat → Nat → Int) : (genD r c M).length = r * c := by simp [genD]
theorem genD_get {r c i j : Nat} (M : Nat → Nat → Int) (hi : i < r) (hj : j < c) : (genD r c M)[i * c + j]? = some (M i j) := by
  unfold genD
  rw [List.getElem?_map, List.getElem?_range (idx_lt hi hj)]
  simp [idx_div hj, idx_mod hj]
theorem genD_congr {r c : Nat} {M M' : Nat → Nat → Int} (h : ∀ i, i < r → ∀ j, j < c → M i j = M' i j) : genD r c M = genD r c M' := by
  unfold genD
  refine List.map_congr_left fun n hn => ?_
  have hn := List.mem_range.1 hn
  have hc : 0 < c := by
    rcases Nat.eq_zero_or_pos c with h | h
    · subst h; simp at hn
    · exact h
  exact h _ ((Nat.div_lt_iff_lt_mul hc).2 hn) _ (Nat.mod_lt _ hc)
theorem genD_set {r c i j : Nat} (M : Nat → Nat → Int) (hj : j < c) (x : Int) : (genD r c M).set (i * c + j) x = genD r c (updM M i j x) := by
  apply List.ext_getElem?
  intro n
  rw [List.getElem?_set, genD_len]
  unfold genD
  simp only [List.getElem?_map]
  by_cases hn : n < r * c
  · rw [List.getElem?_range hn]
    have hc : 0 < c := by omega
    by_cases he : i * c + j = n
    · rw [if_pos he, if_pos (by omega)]
      subst he
      simp [updM, idx_div hj, idx_mod hj]
    · rw [if_neg he]
      simp only [Option.map_some, updM]
      rw [if_neg]
      rintro ⟨h1, h2⟩
      apply he
      rw [← h1, ← h2]
      have := Nat.div_add_mod n c
      rw [Nat.mul_comm] at this
      exact this
  · rw [List.getElem?_eq_none (by simp; omega)]
    by_cases he : i * c + j = n
    · rw [if_pos he, if_neg (by omega)]; rfl
    · rw [if_neg he]; rfl
theorem genD_of {r c : Nat} {l : List Int} (h : l.length = r * c) : genD r c (ofD c l) = l := by
  apply List.ext_getElem?
  intro n
  unfold genD
  simp only [List.getElem?_map]
  by_cases hn : n < r * c
  · rw [List.getElem?_range hn, List.getElem?_eq_getElem (by omega)]
    simp only [Option.map_some, ofD]
    have := Nat.div_add_mod n c
    rw [Nat.mul_comm] at this
    rw [this, List.getD_eq_getElem?_getD, List.getElem?_eq_getElem (by omega)]
    rfl
  · rw [List.getElem?_eq_none (by simp; omega), List.getElem?_eq_none (by omega)]
    rfl
theorem ofD_gen {r c i j : Nat} (M : Nat → Nat → Int) (hi : i < r) (hj : j < c) : ofD c (genD r c M) i j = M i j := by
  unfold ofD
  rw [List.getD_eq_getElem?_getD, genD_get M hi hj]
  rfl
theorem genD_rep (r c : Nat) (x : Int) : repL (r * c) x = genD r c (fun _ _ => x) := by
  unfold genD repL
  rw [List.map_const', List.length_range]
/-! ### indices as the program computes them -/

theorem idxI {i c j : Nat} (hi : i ≤ 1048576) (hc : c ≤ 1048576) (hj : j ≤ 1048576) : addI .i64 (mulI .i64 (i : Int) (c : Int)) (j : Int) = ((i * c + j : Nat) : Int) := by
  have h1 : i * c ≤ 1048576 * 1048576 := Nat.mul_le_mul hi hc
  have e : (i : Int) * (c : Int) = ((i * c : Nat) : Int) := by norm_cast
  rw [mulI, wrap_id (by omega) (by omega), addI_eq (by omega) (by omega), e]
  omega
theorem mulN {i c : Nat} (hi : i ≤ 1048576) (hc : c ≤ 1048576) : mulI .i64 (i : Int) (c : Int) = ((i * c : Nat) : Int) := by
  have h1 : i * c ≤ 1048576 * 1048576 := Nat.mul_le_mul hi hc
  have e : (i : Int) * (c : Int) = ((i * c : Nat) : Int) := by norm_cast
  rw [mulI, wrap_id (by omega) (by omega), e]
theorem getI_gen {r c i j : Nat} (M : Nat → Nat → Int) (hi : i < r) (hj : j < c) : getI (genD r c M) ((i * c + j : Nat) : Int) = some (M i j) := by rw [getI_nat, genD_get M hi hj]
theorem chkI_gen {r c i j : Nat} (M : Nat → Nat → Int) (hi : i < r) (hj : j < c) : chkI ((i * c + j : Nat) : Int) (lenN (genD r c M)) = some (i * c + j) := chkI_nat (by unfold lenN; rw [genD_len]; exact idx_lt hi hj)
theorem getN_gen {r c i j : Nat} (M : Nat → Nat → Int) (hi : i < r) (hj : j < c) : getN (genD r c M) (i * c + j) = some (M i j) := genD_get M hi hj
theorem setL_gen {r c i j : Nat} (M : Nat → Nat → Int) (hj : j < c) (x : Int) : setL (genD r c M) (i * c + j) x = genD r c (updM M i j x) := genD_set M hj x
theorem lenN_gen (r c : Nat) (M : Nat → Nat → Int) : lenN (genD r c M) = r * c := genD_len r c M
theorem fulI_gen (r c : Nat) (M M' : Nat → Nat → Int) : fulI 0 (lenN (genD r c M)) (lenN (genD r c M')) = some () := by rw [lenN_gen, lenN_gen]; exact fulI_id _
theorem samI_gen (r c : Nat) (M M' : Nat → Nat → Int) : samI (lenN (genD r c M)) (lenN (genD r c M')) = some () := by rw [lenN_gen, lenN_gen]; exact samI_ok rfl
theorem remN {a p : Int} (ha : 0 ≤ a) (hp : 0 < p) : remI a p = some (a % p) := by
  unfold remI
  rw [if_neg (by omega), Int.tmod_eq_emod_of_nonneg ha]
theorem ltN_t {i n : Nat} (h : i < n) : ltI (i : Int) (n : Int) = true := ltI_t (by omega)
theorem ltN_f {i n : Nat} (h : n ≤ i) : ltI (i : Int) (n : Int) = false := ltI_f (by omega)
theorem addN1 {i : Nat} (h : i ≤ 1048577) : addI .i64 (i : Int) 1 = ((i + 1 : Nat) : Int) := by rw [addI_eq (by omega) (by omega)]; omega

/-- Products modulo p. -/
def pOk (p : Int) : Prop := 2 ≤ p ∧ p ≤ 1000003
instance (p : Int) : Decidable (pOk p) := inferInstanceAs (Decidable (2 ≤ p ∧ p ≤ 1000003))
def inP (p x : Int) : Prop := 0 ≤ x ∧ x < p
instance (p x : Int) : Decidable (inP p x) := inferInstanceAs (Decidable (0 ≤ x ∧ x < p))

theorem emod_in {p : Int} (hp : pOk p) (a : Int) : inP p (a % p) := ⟨Int.emod_nonneg _ (by have := hp.1; omega), Int.emod_lt_of_pos _ (by have := hp.1; omega)⟩
theorem inP.le {p x : Int} (h : inP p x) : 0 ≤ x ∧ x ≤ p := ⟨h.1, Int.le_of_lt h.2⟩
theorem inP.s {p x : Int} (hp : pOk p) (h : inP p x) : 0 ≤ x ∧ x ≤ 1000003000000 := ⟨h.1, by have := h.2; have := hp.2; omega⟩
theorem prod_in {p a b : Int} (hp : pOk p) (ha : 0 ≤ a ∧ a ≤ p) (hb : 0 ≤ b ∧ b ≤ p) : 0 ≤ a * b ∧ a * b ≤ 1000006000009 := by
  refine ⟨Int.mul_nonneg ha.1 hb.1, ?_⟩
  have h1 := hp.2
  have := Int.mul_le_mul (show a ≤ 1000003 by omega) (show b ≤ 1000003 by omega) hb.1 (by omega)
  omega
theorem mulI_in {p a b : Int} (hp : pOk p) (ha : 0 ≤ a ∧ a ≤ p) (hb : 0 ≤ b ∧ b ≤ p) : mulI .i64 a b = a * b := by
  have := prod_in hp ha hb
  exact wrap_id (by omega) (by omega)
theorem mulR {p a b : Int} (hp : pOk p) (ha : 0 ≤ a ∧ a ≤ p) (hb : 0 ≤ b ∧ b ≤ p) : remI (mulI .i64 a b) p = some (a * b % p) := by
  have h := prod_in hp ha hb
  rw [mulI_in hp ha hb, remN h.1 (by have := hp.1; omega)]

/-- All of a matrix's elements are modulo p. -/
def inM (p : Int) (r c : Nat) (M : Nat → Nat → Int) : Prop := ∀ i, i < r → ∀ j, j < c → inP p (M i j)

def allP (p : Int) (l : List Int) : Prop := ∀ x ∈ l, inP p x
instance (p : Int) (l : List Int) : Decidable (allP p l) := inferInstanceAs (Decidable (∀ x ∈ l, inP p x))

theorem allP_gen {p : Int} {r c : Nat} {M : Nat → Nat → Int} : allP p (genD r c M) ↔ inM p r c M := by
  constructor
  · intro h i hi j hj
    exact h _ (List.mem_of_getElem? (genD_get M hi hj))
  · intro h x hx
    unfold genD at hx
    obtain ⟨n, hn, rfl⟩ := List.mem_map.1 hx
    have hn := List.mem_range.1 hn
    have hc : 0 < c := by
      rcases Nat.eq_zero_or_pos c with h | h
      · subst h; simp at hn
      · exact h
    exact h _ ((Nat.div_lt_iff_lt_mul hc).2 hn) _ (Nat.mod_lt _ hc)

/-- A matrix as the program has it. -/
def mOk (x : Int × Int × List Int) : Prop := (0 ≤ x.1 ∧ x.1 ≤ 4096) ∧ (0 ≤ x.2.1 ∧ x.2.1 ≤ 4096) ∧ (x.2.2.length : Int) = x.1 * x.2.1 ∧ x.2.2.length ≤ 1048576
instance (x : Int × Int × List Int) : Decidable (mOk x) := by unfold mOk; infer_instance

/-- What a matrix is. -/
theorem mOk_gen {x : Int × Int × List Int} (h : mOk x) : ∃ (r c : Nat) (M : Nat → Nat → Int), x = ((r : Int), (c : Int), genD r c M) ∧ r ≤ 4096 ∧ c ≤ 4096 ∧ r * c ≤ 1048576 := by
  obtain ⟨r, c, l⟩ := x
  obtain ⟨h1, h2, h3, h4⟩ := h
  simp only at h1 h2 h3 h4
  obtain ⟨r, rfl⟩ := natI_eq h1.1
  obtain ⟨c, rfl⟩ := natI_eq h2.1
  have e : l.length = r * c := by
    have : ((r : Int) * (c : Int)) = ((r * c : Nat) : Int) := by norm_cast
    rw [this] at h3; exact_mod_cast h3
  exact ⟨r, c, ofD c l, by rw [genD_of e], by omega, by omega, by omega⟩

theorem mOk_mk {r c : Nat} (M : Nat → Nat → Int) (hr : r ≤ 4096) (hc : c ≤ 4096) (h : r * c ≤ 1048576) : mOk ((r : Int), (c : Int), genD r c M) := by
  refine ⟨⟨by omega, by show (r : Int) ≤ 4096; omega⟩, ⟨by show (0 : Int) ≤ c; omega, by show (c : Int) ≤ 4096; omega⟩, ?_, ?_⟩
  · simp only [genD_len]; norm_cast
  · simp only [genD_len]; exact h

end Go.Am
end
section
namespace Go.Am
def F_spec_l01In : Int × Int × Int → Option Bool := fun ((a, b, c) : Int × Int × Int) => some (decide (b ≤ a ∧ a ≤ c))
def ag_spec_l01In : Sig := [(.one, [.int .i64]), (.one, [.int .i64]), (.one, [.int .i64])]
def rs_spec_l01In : Sig := [(.one, [.bool])]
def mu_spec_l01In : MSig := []
def G_spec_l01In (NN : Nat) : (Int × (Int × Int)) → (Option Bool) :=
 (fun ((i0, i1, i2) : (Int × (Int × Int))) =>
 cnd (leI i1 i0)
 (some (leI i0 i2))
 (some false))

theorem f_spec_l01In (x : Int × Int × Int) (y : Bool) (h : F_spec_l01In x = some y) : G_spec_l01In FUEL x = some y := by
  obtain ⟨a, b, c⟩ := x
  rw [← h]
  simp only [F_spec_l01In, G_spec_l01In, leI]
  by_cases hc : b ≤ a <;> simp [hc, cnd]

end Go.Am
end
section
namespace Go.Am

/-! ### primes, rows, matrices, automata -/

def divAt (n : Int) (i : Nat) : Bool := decide ((i : Int) * i ≤ n) && decide (n % (i : Int) = 0)
def isPrimeI (n : Int) : Bool := decide (2 ≤ n ∧ n ≤ 1000003) && !((List.range' 2 999).any (divAt n))
def F_spec_IsPrime : Int → Option Bool := fun (n : Int) => some (isPrimeI n)
def F_impl_IsPrime : Int → Option Bool := fun (n : Int) => some (isPrimeI n)
def inB (m : Int) (v : Int) : Bool := decide (0 ≤ v ∧ v < m)
def rowOk (m : Int) (l : List Int) : Bool := l.all (inB m)
def F_impl_inMod : Int × List Int → Option Bool := fun ((m, l) : Int × List Int) => if l.length ≤ 1048576 then some (rowOk m l) else none
def F_spec_l34Row : Int × List Int × Int → Option Bool := fun ((m, l, n) : Int × List Int × Int) => if (1 ≤ m ∧ m ≤ 1000003) ∧ l.length ≤ 1048576 then some (rowOk m l && decide ((l.length : Int) = n)) else none
def matOk (m : Int) (x : Int × Int × List Int) : Bool := isPrimeI m && (decide (0 ≤ x.1 ∧ x.1 ≤ 64) && (decide (0 ≤ x.2.1 ∧ x.2.1 ≤ 64) && (decide ((x.2.2.length : Int) = x.1 * x.2.1) && rowOk m x.2.2)))
def F_spec_MatrixOk : Int × Int × Int × List Int → Option Bool := fun ((m, x) : Int × Int × Int × List Int) => if sz_Matrix x ≤ 1048576 then some (matOk m x) else none
def F_impl_MatrixOk : Int × Int × Int × List Int → Option Bool := fun ((m, x) : Int × Int × Int × List Int) => if sz_Matrix x ≤ 1048576 then some (matOk m x) else none
def matsOk (m n : Int) (x : Int × Int × List Int) : Bool := matOk m x && (decide (x.1 = n) && decide (x.2.1 = n))
def autOk (x : Int × Int × List Int × List (Int × Int × List Int) × List Int) : Bool := match x with
  | (m, n, a, ms, b) => isPrimeI m && (decide (0 ≤ n ∧ n ≤ 12) && ((rowOk m a && decide ((a.length : Int) = n)) && ((rowOk m b && decide ((b.length : Int) = n)) && (decide (1 ≤ ms.length ∧ ms.length ≤ 4) && ms.all (matsOk m n)))))
def F_spec_AutomatonOk : Int × Int × List Int × List (Int × Int × List Int) × List Int → Option Bool := fun x => if sz_Automaton x ≤ 1048576 then some (autOk x) else none
def F_impl_AutomatonOk : Int × Int × List Int × List (Int × Int × List Int) × List Int → Option Bool := fun x => if sz_Automaton x ≤ 1048576 then some (autOk x) else none

def ag_spec_IsPrime : Sig := [(.one, [.int .i64])]
def rs_spec_IsPrime : Sig := [(.one, [.bool])]
def mu_spec_IsPrime : MSig := []
def ag_spec_l34Row : Sig := [(.one, [.int .i64]), (.one, [.list [.int .i64]]), (.one, [.int .i64])]
def rs_spec_l34Row : Sig := [(.one, [.bool])]
def mu_spec_l34Row : MSig := []
def ag_spec_MatrixOk : Sig := [(.one, [.int .i64]), (.agg, [.int .i64, .int .i64, .list [.int .i64]])]
def rs_spec_MatrixOk : Sig := [(.one, [.bool])]
def mu_spec_MatrixOk : MSig := []
def ag_spec_AutomatonOk : Sig := [(.agg, [.int .i64, .int .i64, .list [.int .i64], .list [.int .i64, .int .i64, .list [.int .i64]], .list [.int .i64]])]
def rs_spec_AutomatonOk : Sig := [(.one, [.bool])]
def mu_spec_AutomatonOk : MSig := []
def ag_impl_IsPrime : Sig := [(.one, [.int .i64])]
def rs_impl_IsPrime : Sig := [(.one, [.bool])]
def mu_impl_IsPrime : MSig := []
def ag_impl_inMod : Sig := [(.one, [.int .i64]), (.one, [.list [.int .i64]])]
def rs_impl_inMod : Sig := [(.one, [.bool])]
def mu_impl_inMod : MSig := []
def ag_impl_MatrixOk : Sig := [(.one, [.int .i64]), (.agg, [.int .i64, .int .i64, .list [.int .i64]])]
def rs_impl_MatrixOk : Sig := [(.one, [.bool])]
def mu_impl_MatrixOk : MSig := []
def ag_impl_AutomatonOk : Sig := [(.agg, [.int .i64, .int .i64, .list [.int .i64], .list [.int .i64, .int .i64, .list [.int .i64]], .list [.int .i64]])]
def rs_impl_AutomatonOk : Sig := [(.one, [.bool])]
def mu_impl_AutomatonOk : MSig := []

def G_spec_IsPrime (NN : Nat) : Int → (Option Bool) :=
 (fun (i0 : Int) =>
 joinK (loopT NN (fun ((i1, i2) : (Int × Int)) =>
 cnd (leI (mulI .i64 i2 i2) i1)
 (cnd (leI i1 (1000003 : Int))
 ((remI i1 i2).bnd (fun (i3 : Int) =>
 cnd (eqI i3 (0 : Int))
 (some (Sum.inr (Sum.inr false)))
 (some (Sum.inl (i1, addI .i64 i2 (1 : Int))))))
 (some (Sum.inr (Sum.inl i1))))
 (some (Sum.inr (Sum.inl i1))))
 (i0, (2 : Int)))
 (fun (i4 : Int) =>
 (F_spec_l01In (i4, (2 : Int), (1000003 : Int))).bnd (fun (b5 : Bool) =>
 some b5)))

def G_spec_l34Row (NN : Nat) : (Int × ((List Int) × Int)) → (Option Bool) :=
 (fun ((i0, l1, i2) : (Int × ((List Int) × Int))) =>
 joinK (loopT NN (fun ((i3, l4, i5, l6, i7, i8) : (Int × ((List Int) × (Int × ((List Int) × (Int × Int)))))) =>
 cnd (ltI i8 i7)
 ((getI l6 i8).bnd (fun (i9 : Int) =>
 (F_spec_l01In (i9, (0 : Int), subI .i64 i3 (1 : Int))).bnd (fun (b10 : Bool) =>
 cnd (notB b10)
 (some (Sum.inr (Sum.inr false)))
 (some (Sum.inl (i3, l4, i5, l6, i7, addI .i64 i8 (1 : Int)))))))
 (some (Sum.inr (Sum.inl (l4, i5)))))
 (i0, l1, i2, l1, natI (lenN l1), (0 : Int)))
 (fun ((l11, i12) : ((List Int) × Int)) =>
 some (eqI (natI (lenN l11)) i12)))

def G_spec_MatrixOk (NN : Nat) : (Int × (Int × (Int × (List Int)))) → (Option Bool) :=
 (fun ((i0, i1, i2, l3) : (Int × (Int × (Int × (List Int))))) =>
 (F_spec_IsPrime i0).bnd (fun (b4 : Bool) =>
 cnd (notB b4)
 (some false)
 ((F_spec_l01In (i1, (0 : Int), (64 : Int))).bnd (fun (b5 : Bool) =>
 cnd (notB b5)
 (some false)
 ((F_spec_l01In (i2, (0 : Int), (64 : Int))).bnd (fun (b6 : Bool) =>
 cnd (notB b6)
 (some false)
 (cnd (neI (natI (lenN l3)) (mulI .i64 i1 i2))
 (some false)
 (joinK (loopT NN (fun ((i7, l8, i9, i10) : (Int × ((List Int) × (Int × Int)))) =>
 cnd (ltI i10 i9)
 ((getI l8 i10).bnd (fun (i11 : Int) =>
 (F_spec_l01In (i11, (0 : Int), subI .i64 i7 (1 : Int))).bnd (fun (b12 : Bool) =>
 cnd (notB b12)
 (some (Sum.inr (Sum.inr false)))
 (some (Sum.inl (i7, l8, i9, addI .i64 i10 (1 : Int)))))))
 (some (Sum.inr (Sum.inl ()))))
 (i0, l3, natI (lenN l3), (0 : Int)))
 (fun (_ : Unit) =>
 some true)))))))))

def G_spec_AutomatonOk (NN : Nat) : (Int × (Int × ((List Int) × ((List (Int × (Int × (List Int)))) × (List Int))))) → (Option Bool) :=
 (fun ((i0, i1, l2, l3, l4) : (Int × (Int × ((List Int) × ((List (Int × (Int × (List Int)))) × (List Int)))))) =>
 (F_spec_IsPrime i0).bnd (fun (b5 : Bool) =>
 cnd (notB b5)
 (some false)
 ((F_spec_l01In (i1, (0 : Int), (12 : Int))).bnd (fun (b6 : Bool) =>
 cnd (notB b6)
 (some false)
 ((F_spec_l34Row (i0, l2, i1)).bnd (fun (b7 : Bool) =>
 cnd (notB b7)
 (some false)
 ((F_spec_l34Row (i0, l4, i1)).bnd (fun (b8 : Bool) =>
 cnd (notB b8)
 (some false)
 ((F_spec_l01In (natI (lenN l3), (1 : Int), (4 : Int))).bnd (fun (b9 : Bool) =>
 cnd (notB b9)
 (some false)
 (joinK (loopT NN (fun (((l10, i11, i12), i13, i14, l15, l16, l17) : (((List (Int × (Int × (List Int)))) × (Int × Int)) × (Int × (Int × ((List Int) × ((List (Int × (Int × (List Int)))) × (List Int))))))) =>
 cnd (ltI i12 i11)
 ((getI l10 i12).bnd (fun ((i18, i19, l20) : (Int × (Int × (List Int)))) =>
 (F_spec_MatrixOk (i13, i18, i19, l20)).bnd (fun (b21 : Bool) =>
 cnd (notB b21)
 (some (Sum.inr (Sum.inr false)))
 (cnd (neI i18 i14)
 (some (Sum.inr (Sum.inr false)))
 (cnd (neI i19 i14)
 (some (Sum.inr (Sum.inr false)))
 (some (Sum.inl ((l10, i11, addI .i64 i12 (1 : Int)), i13, i14, l15, l16, l17))))))))
 (some (Sum.inr (Sum.inl ()))))
 ((l3, natI (lenN l3), (0 : Int)), i0, i1, l2, l3, l4))
 (fun (_ : Unit) =>
 some true))))))))))))

def G_impl_IsPrime (NN : Nat) : Int → (Option Bool) :=
 (fun (i0 : Int) =>
 cnd (ltI i0 (2 : Int))
 (some false)
 (cnd (ltI (1000003 : Int) i0)
 (some false)
 (joinK (loopT NN (fun ((i1, i2) : (Int × Int)) =>
 cnd (leI (mulI .i64 i2 i2) i1)
 ((remI i1 i2).bnd (fun (i3 : Int) =>
 cnd (eqI i3 (0 : Int))
 (some (Sum.inr (Sum.inr false)))
 (some (Sum.inl (i1, addI .i64 i2 (1 : Int))))))
 (some (Sum.inr (Sum.inl ()))))
 (i0, (2 : Int)))
 (fun (_ : Unit) =>
 some true))))

def G_impl_inMod (NN : Nat) : (Int × (List Int)) → (Option Bool) :=
 (fun ((i0, l1) : (Int × (List Int))) =>
 joinK (loopT NN (fun ((i2, l3, i4, i5) : (Int × ((List Int) × (Int × Int)))) =>
 cnd (ltI i5 i4)
 ((getI l3 i5).bnd (fun (i6 : Int) =>
 cnd (ltI i6 (0 : Int))
 (some (Sum.inr (Sum.inr false)))
 (cnd (leI i2 i6)
 (some (Sum.inr (Sum.inr false)))
 (some (Sum.inl (i2, l3, i4, addI .i64 i5 (1 : Int)))))))
 (some (Sum.inr (Sum.inl ()))))
 (i0, l1, natI (lenN l1), (0 : Int)))
 (fun (_ : Unit) =>
 some true))

def G_impl_MatrixOk (NN : Nat) : (Int × (Int × (Int × (List Int)))) → (Option Bool) :=
 (fun ((i0, i1, i2, l3) : (Int × (Int × (Int × (List Int))))) =>
 (F_impl_IsPrime i0).bnd (fun (b4 : Bool) =>
 cnd (notB b4)
 (some false)
 (cnd (ltI i1 (0 : Int))
 (some false)
 (cnd (ltI i2 (0 : Int))
 (some false)
 (cnd (ltI (64 : Int) i1)
 (some false)
 (cnd (ltI (64 : Int) i2)
 (some false)
 (cnd (eqI (natI (lenN l3)) (mulI .i64 i1 i2))
 ((F_impl_inMod (i0, l3)).bnd (fun (b5 : Bool) =>
 some b5))
 (some false))))))))

def G_impl_AutomatonOk (NN : Nat) : (Int × (Int × ((List Int) × ((List (Int × (Int × (List Int)))) × (List Int))))) → (Option Bool) :=
 (fun ((i0, i1, l2, l3, l4) : (Int × (Int × ((List Int) × ((List (Int × (Int × (List Int)))) × (List Int)))))) =>
 (F_impl_IsPrime i0).bnd (fun (b5 : Bool) =>
 cnd (notB b5)
 (some false)
 (cnd (ltI i1 (0 : Int))
 (some false)
 (cnd (ltI (12 : Int) i1)
 (some false)
 (cnd (neI (natI (lenN l2)) i1)
 (some false)
 (cnd (neI (natI (lenN l4)) i1)
 (some false)
 ((F_impl_inMod (i0, l2)).bnd (fun (b6 : Bool) =>
 cnd (notB b6)
 (some false)
 ((F_impl_inMod (i0, l4)).bnd (fun (b7 : Bool) =>
 cnd (notB b7)
 (some false)
 (cnd (ltI (natI (lenN l3)) (1 : Int))
 (some false)
 (cnd (ltI (4 : Int) (natI (lenN l3)))
 (some false)
 (joinK (loopT NN (fun (((l8, i9, i10), i11, i12, l13, l14, l15) : (((List (Int × (Int × (List Int)))) × (Int × Int)) × (Int × (Int × ((List Int) × ((List (Int × (Int × (List Int)))) × (List Int))))))) =>
 cnd (ltI i10 i9)
 ((getI l8 i10).bnd (fun ((i16, i17, l18) : (Int × (Int × (List Int)))) =>
 (F_impl_MatrixOk (i11, i16, i17, l18)).bnd (fun (b19 : Bool) =>
 cnd (notB b19)
 (some (Sum.inr (Sum.inr false)))
 (cnd (neI i16 i12)
 (some (Sum.inr (Sum.inr false)))
 (cnd (neI i17 i12)
 (some (Sum.inr (Sum.inr false)))
 (some (Sum.inl ((l8, i9, addI .i64 i10 (1 : Int)), i11, i12, l13, l14, l15))))))))
 (some (Sum.inr (Sum.inl ()))))
 ((l3, natI (lenN l3), (0 : Int)), i0, i1, l2, l3, l4))
 (fun (_ : Unit) =>
 some true))))))))))))))



theorem mulI_eq {a b : Int} (h1 : -9223372036854775808 ≤ a * b) (h2 : a * b ≤ 9223372036854775807) : mulI .i64 a b = a * b := wrap_id h1 h2
theorem remI_nat {n : Int} {i : Nat} (hn : 0 ≤ n) (hi : 0 < i) : remI n (i : Int) = some (n % (i : Int)) := by
  unfold remI
  rw [if_neg (by omega), Int.tmod_eq_emod_of_nonneg hn]

theorem sq_le {i j : Nat} (h : i ≤ j) : (i : Int) * i ≤ (j : Int) * j := by
  have := Nat.mul_le_mul h h
  exact_mod_cast this

/-- The search for a divisor. -/
theorem div_loop {X Y : Type} {f : X → Option (X ⊕ (Y ⊕ Bool))} (n : Int) (mk : Nat → X) (r : Y) (hn : n ≤ 1000003)
    (h1 : ∀ i : Nat, 2 ≤ i → i ≤ 1001 → (i : Int) * i ≤ n → n % (i : Int) = 0 → f (mk i) = some (.inr (.inr false)))
    (h2 : ∀ i : Nat, 2 ≤ i → i ≤ 1001 → (i : Int) * i ≤ n → n % (i : Int) ≠ 0 → f (mk i) = some (.inl (mk (i + 1))))
    (h3 : ∀ i : Nat, 2 ≤ i → i ≤ 1001 → ¬ (i : Int) * i ≤ n → f (mk i) = some (.inr (.inl r))) {x0 : X} (hx : x0 = mk 2) :
    loopT FUEL f x0 = some (if (List.range' 2 999).any (divAt n) = true then .inr false else .inl r) := by
  subst hx
  have key : ∀ (d i : Nat), 2 ≤ i → i + d = 1001 → ∀ N, d < N → loopT N f (mk i) = some (if (List.range' i d).any (divAt n) = true then .inr false else .inl r) := by
    intro d
    induction d with
    | zero =>
      intro i hi hd N hN
      obtain ⟨N, rfl⟩ : ∃ M, N = M + 1 := ⟨N - 1, by omega⟩
      have : i = 1001 := by omega
      subst this
      rw [loopT, h3 1001 (by omega) (by omega) (by omega)]
      rfl
    | succ d ih =>
      intro i hi hd N hN
      obtain ⟨N, rfl⟩ : ∃ M, N = M + 1 := ⟨N - 1, by omega⟩
      rw [List.range'_succ, List.any_cons]
      by_cases hle : (i : Int) * i ≤ n
      · by_cases hm : n % (i : Int) = 0
        · rw [loopT, h1 i hi (by omega) hle hm]
          simp [divAt, hle, hm]
        · rw [loopT, h2 i hi (by omega) hle hm]
          simp only
          rw [ih (i + 1) (by omega) (by omega) N (by omega), show divAt n i = false by simp [divAt, hm], Bool.false_or]
      · rw [loopT, h3 i hi (by omega) hle]
        have : (List.range' (i + 1) d).any (divAt n) = false := by
          rw [List.any_eq_false]
          intro j hj
          have := (List.mem_range'_1.1 hj).1
          have := sq_le (show i ≤ j by omega)
          simp only [divAt, Bool.and_eq_true, decide_eq_true_eq, not_and]
          intro h; omega
        simp only
        rw [this]
        simp [divAt, hle]
  exact key 999 2 (by omega) (by omega) FUEL (FUEL_gt (by omega))

theorem sq_le1001 {i : Nat} (h : i ≤ 1001) : 0 ≤ (i : Int) * i ∧ (i : Int) * i ≤ 1002001 := by
  have h1 := sq_le h
  have h0 := sq_le (Nat.zero_le i)
  omega

theorem f_spec_IsPrime (x : Int) (y : Bool) (h : F_spec_IsPrime x = some y) : G_spec_IsPrime FUEL x = some y := by
  rw [← h]
  simp only [F_spec_IsPrime, G_spec_IsPrime]
  by_cases hx : x ≤ 1000003
  · rw [div_loop x (fun i => (x, (i : Int))) x hx ?_ ?_ ?_ ?_]
    · by_cases hd : (List.range' 2 999).any (divAt x) = true
      · rw [if_pos hd, joinK_r, isPrimeI, hd]
        simp
      · rw [if_neg hd, joinK_l, isPrimeI]
        simp only [F_spec_l01In, bnd_s]
        simp [hd]
    all_goals try simp only
    · intro i h2 hi hle hm
      have hs := sq_le1001 hi
      rw [mulI_eq (by omega) (by omega), cnd_t (leI_t hle), cnd_t (leI_t hx), remI_nat (by omega) (by omega), bnd_s, cnd_t (eqI_t hm)]
    · intro i h2 hi hle hm
      have hs := sq_le1001 hi
      rw [mulI_eq (by omega) (by omega), cnd_t (leI_t hle), cnd_t (leI_t hx), remI_nat (by omega) (by omega), bnd_s, cnd_f (eqI_f hm), addI_eq (by omega) (by omega)]
      rfl
    · intro i h2 hi hle
      have hs := sq_le1001 hi
      rw [mulI_eq (by omega) (by omega), cnd_f (leI_f (by omega))]
    · rfl
  · rw [loopT_seq (fun i => (x, (i : Int) + 2)) (r := Sum.inl x) 0 (fun j hj => by omega) ?_ ?_ (FUEL_gt (by omega))]
    · rw [joinK_l, isPrimeI]
      simp only [F_spec_l01In, bnd_s]
      have : ¬ (2 ≤ x ∧ x ≤ 1000003) := by omega
      simp [this]
    · simp only
      rw [cnd_t (leI_t (by rw [mulI_eq (by omega) (by omega)]; omega)), cnd_f (leI_f (by omega))]
    · rfl

theorem f_impl_IsPrime (x : Int) (y : Bool) (h : F_impl_IsPrime x = some y) : G_impl_IsPrime FUEL x = some y := by
  rw [← h]
  simp only [F_impl_IsPrime, G_impl_IsPrime]
  by_cases h2 : x < 2
  · rw [cnd_t (ltI_t h2), isPrimeI, decide_eq_false (by omega)]; rfl
  rw [cnd_f (ltI_f (by omega))]
  by_cases hx : 1000003 < x
  · rw [cnd_t (ltI_t hx), isPrimeI, decide_eq_false (by omega)]; rfl
  rw [cnd_f (ltI_f (by omega))]
  rw [div_loop x (fun i => (x, (i : Int))) () (by omega) ?_ ?_ ?_ ?_]
  · have hr : (2 ≤ x ∧ x ≤ 1000003) := by omega
    by_cases hd : (List.range' 2 999).any (divAt x) = true
    · rw [if_pos hd, joinK_r, isPrimeI, hd]
      simp
    · rw [if_neg hd, joinK_l, isPrimeI]
      simp [hd, hr]
  all_goals try simp only
  · intro i h2 hi hle hm
    have hs := sq_le1001 hi
    rw [mulI_eq (by omega) (by omega), cnd_t (leI_t hle), remI_nat (by omega) (by omega), bnd_s, cnd_t (eqI_t hm)]
  · intro i h2 hi hle hm
    have hs := sq_le1001 hi
    rw [mulI_eq (by omega) (by omega), cnd_t (leI_t hle), remI_nat (by omega) (by omega), bnd_s, cnd_f (eqI_f hm), addI_eq (by omega) (by omega)]
    rfl
  · intro i h2 hi hle
    have hs := sq_le1001 hi
    rw [mulI_eq (by omega) (by omega), cnd_f (leI_f (by omega))]
  · rfl

theorem f_impl_inMod (x : Int × List Int) (y : Bool) (h : F_impl_inMod x = some y) : G_impl_inMod FUEL x = some y := by
  obtain ⟨m, l⟩ := x
  simp only [F_impl_inMod] at h
  split at h
  · rename_i hl
    rw [← h]
    simp only [G_impl_inMod]
    rw [loopT_all (mk := fun i => (m, l, natI (lenN l), (i : Int))) l (inB m) (Sum.inr false) (Sum.inl ()) ?_ ?_ ?_ ?_ (FUEL_gt (by omega))]
    · unfold rowOk
      cases l.all (inB m) <;> rfl
    all_goals try simp only
    · intro i a ha hp
      have hp := of_decide_eq_true hp
      rw [cnd_t (ltI_in ha), getI_nat, ha, bnd_s, cnd_f (ltI_f (by omega)), cnd_f (leI_f (by omega)), next_i ha (by omega)]
    · intro i a ha hp
      have hp := of_decide_eq_false hp
      rw [cnd_t (ltI_in ha), getI_nat, ha, bnd_s]
      by_cases h0 : a < 0
      · rw [cnd_t (ltI_t h0)]
      · rw [cnd_f (ltI_f (by omega)), cnd_t (leI_t (by omega))]
    · rw [cnd_f (ltI_end l)]
    · rfl
  · cases h

theorem f_spec_l34Row (x : Int × List Int × Int) (y : Bool) (h : F_spec_l34Row x = some y) : G_spec_l34Row FUEL x = some y := by
  obtain ⟨m, l, n⟩ := x
  simp only [F_spec_l34Row] at h
  split at h
  · rename_i hl
    obtain ⟨hm, hl⟩ := hl
    rw [← h]
    simp only [G_spec_l34Row]
    rw [loopT_all (mk := fun i => (m, l, n, l, natI (lenN l), (i : Int))) l (inB m) (Sum.inr false) (Sum.inl (l, n)) ?_ ?_ ?_ ?_ (FUEL_gt (by omega))]
    · unfold rowOk
      cases l.all (inB m)
      · rfl
      · rw [if_pos rfl, joinK_l]
        simp only [Bool.true_and]
        rfl
    all_goals try simp only
    · intro i a ha hp
      have hp := of_decide_eq_true hp
      rw [cnd_t (ltI_in ha), getI_nat, ha, bnd_s, subI_eq (by omega) (by omega)]
      simp only [F_spec_l01In, bnd_s]
      rw [cnd_f (notB_p (by omega)), next_i ha (by omega)]
    · intro i a ha hp
      have hp := of_decide_eq_false hp
      rw [cnd_t (ltI_in ha), getI_nat, ha, bnd_s, subI_eq (by omega) (by omega)]
      simp only [F_spec_l01In, bnd_s]
      rw [cnd_t (notB_d (by omega))]
    · rw [cnd_f (ltI_end l)]
    · rfl
  · cases h

theorem isPrimeI_t {m : Int} (h : isPrimeI m = true) : 2 ≤ m ∧ m ≤ 1000003 := by
  simp only [isPrimeI, Bool.and_eq_true, decide_eq_true_eq] at h
  exact h.1

theorem f_impl_MatrixOk (x : Int × Int × Int × List Int) (y : Bool) (h : F_impl_MatrixOk x = some y) : G_impl_MatrixOk FUEL x = some y := by
  obtain ⟨m, r, c, l⟩ := x
  simp only [F_impl_MatrixOk] at h
  split at h
  · rename_i hl
    rw [← h]
    have hl : l.length ≤ 1048576 := hl
    simp only [G_impl_MatrixOk, F_impl_IsPrime, bnd_s, matOk]
    cases hp : isPrimeI m with
    | false => rfl
    | true =>
      rw [cnd_f (by rfl), Bool.true_and]
      by_cases h1 : r < 0
      · rw [cnd_t (ltI_t h1), decide_eq_false (by omega)]; rfl
      rw [cnd_f (ltI_f (by omega))]
      by_cases h2 : c < 0
      · rw [cnd_t (ltI_t h2), decide_eq_false (p := 0 ≤ c ∧ c ≤ 64) (by omega)]; simp
      rw [cnd_f (ltI_f (by omega))]
      by_cases h3 : 64 < r
      · rw [cnd_t (ltI_t h3), decide_eq_false (by omega)]; rfl
      rw [cnd_f (ltI_f (by omega))]
      by_cases h4 : 64 < c
      · rw [cnd_t (ltI_t h4), decide_eq_false (p := 0 ≤ c ∧ c ≤ 64) (by omega)]; simp
      rw [cnd_f (ltI_f (by omega)), decide_eq_true (p := 0 ≤ r ∧ r ≤ 64) (by omega), decide_eq_true (p := 0 ≤ c ∧ c ≤ 64) (by omega), Bool.true_and, Bool.true_and]
      obtain ⟨r, rfl⟩ := natI_eq (z := r) (by omega)
      obtain ⟨c, rfl⟩ := natI_eq (z := c) (by omega)
      have hrc : r * c ≤ 64 * 64 := Nat.mul_le_mul (by omega) (by omega)
      have hrc' : (r : Int) * (c : Int) = ((r * c : Nat) : Int) := by norm_cast
      rw [mulI_eq (by omega) (by omega), show F_impl_inMod (m, l) = some (rowOk m l) from if_pos hl]
      by_cases h5 : (l.length : Int) = (r : Int) * c
      · rw [cnd_t (show eqI (natI (lenN l)) _ = true from eqI_t h5), decide_eq_true h5]; rfl
      · rw [cnd_f (show eqI (natI (lenN l)) _ = false from eqI_f h5), decide_eq_false h5]; rfl
  · cases h

theorem f_spec_MatrixOk (x : Int × Int × Int × List Int) (y : Bool) (h : F_spec_MatrixOk x = some y) : G_spec_MatrixOk FUEL x = some y := by
  obtain ⟨m, r, c, l⟩ := x
  simp only [F_spec_MatrixOk] at h
  split at h
  · rename_i hl
    rw [← h]
    have hl : l.length ≤ 1048576 := hl
    simp only [G_spec_MatrixOk, F_spec_IsPrime, F_spec_l01In, bnd_s, matOk]
    cases hp : isPrimeI m with
    | false => rfl
    | true =>
      obtain ⟨hm1, hm2⟩ := isPrimeI_t hp
      rw [cnd_f (by rfl), Bool.true_and]
      by_cases h1 : 0 ≤ r ∧ r ≤ 64
      rotate_left
      · rw [cnd_t (notB_d h1), decide_eq_false h1]; rfl
      rw [cnd_f (notB_p h1), decide_eq_true h1, Bool.true_and]
      by_cases h2 : 0 ≤ c ∧ c ≤ 64
      rotate_left
      · rw [cnd_t (notB_d h2), decide_eq_false h2]; rfl
      rw [cnd_f (notB_p h2), decide_eq_true h2, Bool.true_and]
      obtain ⟨r, rfl⟩ := natI_eq (z := r) (by omega)
      obtain ⟨c, rfl⟩ := natI_eq (z := c) (by omega)
      have hrc : r * c ≤ 64 * 64 := Nat.mul_le_mul (by omega) (by omega)
      have hrc' : (r : Int) * (c : Int) = ((r * c : Nat) : Int) := by norm_cast
      rw [mulI_eq (by omega) (by omega)]
      by_cases h5 : (l.length : Int) = (r : Int) * c
      rotate_left
      · rw [cnd_t (show neI (natI (lenN l)) _ = true from neI_t h5), decide_eq_false h5]; rfl
      rw [cnd_f (show neI (natI (lenN l)) _ = false from neI_f h5), decide_eq_true h5, Bool.true_and]
      rw [loopT_all (mk := fun i => (m, l, natI (lenN l), (i : Int))) l (inB m) (Sum.inr false) (Sum.inl ()) ?_ ?_ ?_ ?_ (FUEL_gt (by omega))]
      · unfold rowOk
        cases l.all (inB m) <;> rfl
      all_goals try simp only
      · intro i a ha hp
        have hp := of_decide_eq_true hp
        rw [cnd_t (ltI_in ha), getI_nat, ha, bnd_s, subI_eq (by omega) (by omega), cnd_f (notB_p (by omega)), next_i ha (by omega)]
      · intro i a ha hp
        have hp := of_decide_eq_false hp
        rw [cnd_t (ltI_in ha), getI_nat, ha, bnd_s, subI_eq (by omega) (by omega), cnd_t (notB_d (by omega))]
      · rw [cnd_f (ltI_end l)]
      · rfl
  · cases h

theorem sz_Automaton_le {m n : Int} {a : List Int} {ms : List (Int × Int × List Int)} {b : List Int} (h : sz_Automaton (m, n, a, ms, b) ≤ 1048576) : a.length ≤ 1048576 ∧ b.length ≤ 1048576 ∧ ms.length ≤ 1048576 ∧ ∀ e ∈ ms, sz_Matrix e ≤ 1048576 := by
  have h1 : a.length + sz_MatrixS ms + b.length ≤ 1048576 := h
  have h2 := sz_MatrixS_mem (l := ms) (by omega)
  exact ⟨by omega, by omega, h2.1, h2.2⟩

theorem f_spec_AutomatonOk (x : Int × Int × List Int × List (Int × Int × List Int) × List Int) (y : Bool) (h : F_spec_AutomatonOk x = some y) : G_spec_AutomatonOk FUEL x = some y := by
  obtain ⟨m, n, a, ms, b⟩ := x
  simp only [F_spec_AutomatonOk] at h
  split at h
  · rename_i hl
    rw [← h]
    obtain ⟨ha, hb, hms, hmm⟩ := sz_Automaton_le hl
    simp only [G_spec_AutomatonOk, F_spec_IsPrime, F_spec_l01In, bnd_s, autOk]
    cases hp : isPrimeI m with
    | false => rfl
    | true =>
      have hm := isPrimeI_t hp
      rw [cnd_f (by rfl), Bool.true_and]
      by_cases h1 : 0 ≤ n ∧ n ≤ 12
      rotate_left
      · rw [cnd_t (notB_d h1), decide_eq_false h1]; rfl
      rw [cnd_f (notB_p h1), decide_eq_true h1, Bool.true_and]
      rw [show F_spec_l34Row (m, a, n) = some (rowOk m a && decide ((a.length : Int) = n)) from if_pos ⟨by omega, ha⟩, bnd_s]
      rw [show F_spec_l34Row (m, b, n) = some (rowOk m b && decide ((b.length : Int) = n)) from if_pos ⟨by omega, hb⟩, bnd_s]
      cases (rowOk m a && decide ((a.length : Int) = n)) with
      | false => rfl
      | true =>
      rw [cnd_f (by rfl), Bool.true_and]
      cases (rowOk m b && decide ((b.length : Int) = n)) with
      | false => rfl
      | true =>
      rw [cnd_f (by rfl), Bool.true_and]
      by_cases h2 : 1 ≤ ms.length ∧ ms.length ≤ 4
      rotate_left
      · rw [cnd_t (notB_d (by have := nl ms; omega)), decide_eq_false h2]; rfl
      rw [cnd_f (notB_p (by have := nl ms; omega)), decide_eq_true h2, Bool.true_and]
      rw [loopT_all (mk := fun i => ((ms, natI (lenN ms), (i : Int)), m, n, a, ms, b)) ms (matsOk m n) (Sum.inr false) (Sum.inl ()) ?_ ?_ ?_ ?_ (FUEL_gt (by omega))]
      · cases ms.all (matsOk m n) <;> rfl
      all_goals try simp only
      · rintro i ⟨r, c, l⟩ hi hp
        simp only [matsOk, Bool.and_eq_true, decide_eq_true_eq] at hp
        obtain ⟨p1, p2, p3⟩ := hp
        rw [cnd_t (ltI_in hi), getI_nat, hi, bnd_s]
        simp only
        rw [show F_spec_MatrixOk (m, r, c, l) = some (matOk m (r, c, l)) from if_pos (hmm _ (List.mem_of_getElem? hi)), bnd_s, p1, cnd_f (by rfl), cnd_f (neI_f p2), cnd_f (neI_f p3), next_i hi (by omega)]
      · rintro i ⟨r, c, l⟩ hi hp
        rw [cnd_t (ltI_in hi), getI_nat, hi, bnd_s]
        simp only
        rw [show F_spec_MatrixOk (m, r, c, l) = some (matOk m (r, c, l)) from if_pos (hmm _ (List.mem_of_getElem? hi)), bnd_s]
        cases p1 : matOk m (r, c, l) with
        | false => rw [cnd_t (by rfl)]
        | true =>
          rw [cnd_f (by rfl)]
          by_cases p2 : r = n
          · rw [cnd_f (neI_f p2)]
            by_cases p3 : c = n
            · simp [matsOk, p1, p2, p3] at hp
              rw [p2, p3] at p1
              rw [p1] at hp
              cases hp
            · rw [cnd_t (neI_t p3)]
          · rw [cnd_t (neI_t p2)]
      · rw [cnd_f (ltI_end ms)]
      · rfl
  · cases h

theorem f_impl_AutomatonOk (x : Int × Int × List Int × List (Int × Int × List Int) × List Int) (y : Bool) (h : F_impl_AutomatonOk x = some y) : G_impl_AutomatonOk FUEL x = some y := by
  obtain ⟨m, n, a, ms, b⟩ := x
  simp only [F_impl_AutomatonOk] at h
  split at h
  · rename_i hl
    rw [← h]
    obtain ⟨ha, hb, hms, hmm⟩ := sz_Automaton_le hl
    simp only [G_impl_AutomatonOk, F_impl_IsPrime, bnd_s, autOk]
    cases hp : isPrimeI m with
    | false => rfl
    | true =>
      have hm := isPrimeI_t hp
      rw [cnd_f (by rfl), Bool.true_and]
      by_cases h0 : n < 0
      · rw [cnd_t (ltI_t h0), decide_eq_false (by omega)]; rfl
      rw [cnd_f (ltI_f (by omega))]
      by_cases h1 : 12 < n
      · rw [cnd_t (ltI_t h1), decide_eq_false (by omega)]; rfl
      rw [cnd_f (ltI_f (by omega)), decide_eq_true (p := 0 ≤ n ∧ n ≤ 12) (by omega), Bool.true_and]
      by_cases e1 : (a.length : Int) = n
      rotate_left
      · rw [cnd_t (show neI (natI (lenN a)) _ = true from neI_t e1), decide_eq_false e1, Bool.and_false, Bool.false_and]
      rw [cnd_f (show neI (natI (lenN a)) _ = false from neI_f e1), decide_eq_true e1, Bool.and_true]
      by_cases e2 : (b.length : Int) = n
      rotate_left
      · rw [cnd_t (show neI (natI (lenN b)) _ = true from neI_t e2), decide_eq_false e2, Bool.and_false, Bool.false_and, Bool.and_false]
      rw [cnd_f (show neI (natI (lenN b)) _ = false from neI_f e2), decide_eq_true e2, Bool.and_true]
      rw [show F_impl_inMod (m, a) = some (rowOk m a) from if_pos ha, bnd_s]
      rw [show F_impl_inMod (m, b) = some (rowOk m b) from if_pos hb, bnd_s]
      cases rowOk m a with
      | false => rfl
      | true =>
      rw [cnd_f (by rfl), Bool.true_and]
      cases rowOk m b with
      | false => rfl
      | true =>
      rw [cnd_f (by rfl), Bool.true_and]
      by_cases h2 : ms.length < 1
      · rw [cnd_t (ltI_t (by have := nl ms; omega)), decide_eq_false (by omega)]; rfl
      rw [cnd_f (ltI_f (by have := nl ms; omega))]
      by_cases h3 : 4 < ms.length
      · rw [cnd_t (ltI_t (by have := nl ms; omega)), decide_eq_false (by omega)]; rfl
      rw [cnd_f (ltI_f (by have := nl ms; omega)), decide_eq_true (by omega), Bool.true_and]
      rw [loopT_all (mk := fun i => ((ms, natI (lenN ms), (i : Int)), m, n, a, ms, b)) ms (matsOk m n) (Sum.inr false) (Sum.inl ()) ?_ ?_ ?_ ?_ (FUEL_gt (by omega))]
      · cases ms.all (matsOk m n) <;> rfl
      all_goals try simp only
      · rintro i ⟨r, c, l⟩ hi hp
        simp only [matsOk, Bool.and_eq_true, decide_eq_true_eq] at hp
        obtain ⟨p1, p2, p3⟩ := hp
        rw [cnd_t (ltI_in hi), getI_nat, hi, bnd_s]
        simp only
        rw [show F_impl_MatrixOk (m, r, c, l) = some (matOk m (r, c, l)) from if_pos (hmm _ (List.mem_of_getElem? hi)), bnd_s, p1, cnd_f (by rfl), cnd_f (neI_f p2), cnd_f (neI_f p3), next_i hi (by omega)]
      · rintro i ⟨r, c, l⟩ hi hp
        rw [cnd_t (ltI_in hi), getI_nat, hi, bnd_s]
        simp only
        rw [show F_impl_MatrixOk (m, r, c, l) = some (matOk m (r, c, l)) from if_pos (hmm _ (List.mem_of_getElem? hi)), bnd_s]
        cases p1 : matOk m (r, c, l) with
        | false => rw [cnd_t (by rfl)]
        | true =>
          rw [cnd_f (by rfl)]
          by_cases p2 : r = n
          · rw [cnd_f (neI_f p2)]
            by_cases p3 : c = n
            · simp [matsOk, p1, p2, p3] at hp
              rw [p2, p3] at p1
              rw [p1] at hp
              cases hp
            · rw [cnd_t (neI_t p3)]
          · rw [cnd_t (neI_t p2)]
      · rw [cnd_f (ltI_end ms)]
      · rfl
  · cases h

end Go.Am
end
section
namespace Go.Am
def newOk (x : Int × Int) : Prop := (0 ≤ x.1 ∧ x.1 ≤ 4096) ∧ (0 ≤ x.2 ∧ x.2 ≤ 4096) ∧ x.1 * x.2 ≤ 1048576
instance (x : Int × Int) : Decidable (newOk x) := by unfold newOk; infer_instance
def F_spec_l31New : Int × Int → Option (Int × Int × List Int) := fun (x : Int × Int) => if newOk x then some (x.1, x.2, genD x.1.toNat x.2.toNat fun _ _ => 0) else none
def F_impl_emptyMatrix : Int × Int → Option (Int × Int × List Int) := fun (x : Int × Int) => if newOk x then some (x.1, x.2, genD x.1.toNat x.2.toNat fun _ _ => 0) else none
def F_impl_Matrix_at : (Int × Int × List Int) × Int × Int → Option Int := fun (x : (Int × Int × List Int) × Int × Int) =>
  if mOk x.1 ∧ (0 ≤ x.2.1 ∧ x.2.1 < x.1.1) ∧ (0 ≤ x.2.2 ∧ x.2.2 < x.1.2.1) then some (ofD x.1.2.1.toNat x.1.2.2 x.2.1.toNat x.2.2.toNat) else none
def F_impl_Matrix_set : (Int × Int × List Int) × Int × Int × Int → Option (List Int) := fun (x : (Int × Int × List Int) × Int × Int × Int) =>
  if mOk x.1 ∧ (0 ≤ x.2.1 ∧ x.2.1 < x.1.1) ∧ (0 ≤ x.2.2.1 ∧ x.2.2.1 < x.1.2.1) then some (genD x.1.1.toNat x.1.2.1.toNat (updM (ofD x.1.2.1.toNat x.1.2.2) x.2.1.toNat x.2.2.1.toNat x.2.2.2)) else none
def swapF (M : Nat → Nat → Int) (a b : Nat) : Nat → Nat → Int := fun i j => if i = a then M b j else if i = b then M a j else M i j
def pivF (M : Nat → Nat → Int) (j : Nat) : Nat → Nat → Option Nat
  | 0, _ => none
  | d + 1, k => if M k j = 0 then pivF M j d (k + 1) else some k
def invG (p out x : Int) (n : Nat) : Int := if h : n = 0 then out else invG p (if n % 2 = 1 then out * x % p else out) (x * x % p) (n / 2)
termination_by n
decreasing_by omega
def F_spec_l05Ints : List Int → Option (List Int) := fun (l : List Int) => if l.length ≤ 1099511627776 then some l else none
def F_impl_copyInts : List Int → Option (List Int) := fun (l : List Int) => if l.length ≤ 1099511627776 then some l else none
def mulOk (x : Int × (Int × Int × List Int) × (Int × Int × List Int)) : Prop := pOk x.1 ∧ mOk x.2.1 ∧ mOk x.2.2 ∧ x.2.1.2.1 = x.2.2.1 ∧ x.2.1.1 * x.2.2.2.1 ≤ 1048576 ∧ allP x.1 x.2.1.2.2 ∧ allP x.1 x.2.2.2.2
instance (x : Int × (Int × Int × List Int) × (Int × Int × List Int)) : Decidable (mulOk x) := by unfold mulOk; infer_instance
def ag_spec_l31New : Sig := [(.one, [.int .i64]), (.one, [.int .i64])]
def rs_spec_l31New : Sig := [(.agg, [.int .i64, .int .i64, .list [.int .i64]])]
def mu_spec_l31New : MSig := []
def ag_impl_emptyMatrix : Sig := [(.one, [.int .i64]), (.one, [.int .i64])]
def rs_impl_emptyMatrix : Sig := [(.agg, [.int .i64, .int .i64, .list [.int .i64]])]
def mu_impl_emptyMatrix : MSig := []
def ag_spec_l05Ints : Sig := [(.one, [.list [.int .i64]])]
def rs_spec_l05Ints : Sig := [(.one, [.list [.int .i64]])]
def mu_spec_l05Ints : MSig := []
def ag_impl_copyInts : Sig := [(.one, [.list [.int .i64]])]
def rs_impl_copyInts : Sig := [(.one, [.list [.int .i64]])]
def mu_impl_copyInts : MSig := []
def ag_impl_Matrix_at : Sig := [(.agg, [.int .i64, .int .i64, .list [.int .i64]]), (.one, [.int .i64]), (.one, [.int .i64])]
def rs_impl_Matrix_at : Sig := [(.one, [.int .i64])]
def mu_impl_Matrix_at : MSig := []
def ag_impl_Matrix_set : Sig := [(.agg, [.int .i64, .int .i64, .list [.int .i64]]), (.one, [.int .i64]), (.one, [.int .i64]), (.one, [.int .i64])]
def rs_impl_Matrix_set : Sig := [(.one, [.list [.int .i64]])]
def mu_impl_Matrix_set : MSig := [[none, none, some .froz]]
def G_spec_l31New (NN : Nat) : (Int × Int) → (Option (Int × (Int × (List Int)))) :=
 (fun ((i0, i1) : (Int × Int)) =>
 (mkI (mulI .i64 i0 i1) (mulI .i64 i0 i1) 8).bnd (fun (k2 : Nat) =>
 (takI (repL k2 (0 : Int)) k2).bnd (fun (l3 : (List Int)) =>
 some (i0, i1, l3))))

def G_impl_emptyMatrix (NN : Nat) : (Int × Int) → (Option (Int × (Int × (List Int)))) :=
 (fun ((i0, i1) : (Int × Int)) =>
 (mkI (mulI .i64 i0 i1) (mulI .i64 i0 i1) 8).bnd (fun (k2 : Nat) =>
 (takI (repL k2 (0 : Int)) k2).bnd (fun (l3 : (List Int)) =>
 some (i0, i1, l3))))

def G_spec_l05Ints (NN : Nat) : (List Int) → (Option (List Int)) :=
 (fun (l0 : (List Int)) =>
 (fulI 0 0 (lenN (([] : List Int)))).bnd (fun (_ : Unit) =>
 (fitI (addN (lenN (([] : List Int))) (lenN l0)) 8).bnd (fun (_ : Unit) =>
 (takI (appL (([] : List Int)) l0) (addN (lenN (([] : List Int))) (lenN l0))).bnd (fun (l1 : (List Int)) =>
 some l1))))

def G_impl_copyInts (NN : Nat) : (List Int) → (Option (List Int)) :=
 (fun (l0 : (List Int)) =>
 (fitI (addN (lenN (([] : List Int))) (lenN l0)) 8).bnd (fun (_ : Unit) =>
 (takI (appL (([] : List Int)) l0) (addN (lenN (([] : List Int))) (lenN l0))).bnd (fun (l1 : (List Int)) =>
 some l1)))

def G_impl_Matrix_at (NN : Nat) : ((Int × (Int × (List Int))) × (Int × Int)) → (Option Int) :=
 (fun (((i0, i1, l2), i3, i4) : ((Int × (Int × (List Int))) × (Int × Int))) =>
 (getI l2 (addI .i64 (mulI .i64 i3 i1) i4)).bnd (fun (i5 : Int) =>
 some i5))

def G_impl_Matrix_set (NN : Nat) : ((Int × (Int × (List Int))) × (Int × (Int × Int))) → (Option (List Int)) :=
 (fun (((i0, i1, l2), i3, i4, i5) : ((Int × (Int × (List Int))) × (Int × (Int × Int)))) =>
 (chkI (addI .i64 (mulI .i64 i3 i1) i4) (lenN l2)).bnd (fun (k6 : Nat) =>
 (getN l2 (addN 0 k6)).bnd (fun (i7 : Int) =>
 (samI (lenN (setL l2 (addN 0 k6) i5)) (lenN l2)).bnd (fun (_ : Unit) =>
 some (setL l2 (addN 0 k6) i5)))))

theorem newOk_nat {r c : Nat} (hr : r ≤ 4096) (hc : c ≤ 4096) (h : r * c ≤ 1048576) : newOk ((r : Int), (c : Int)) := by
  refine ⟨⟨by omega, by show (r : Int) ≤ 4096; omega⟩, ⟨by show (0 : Int) ≤ c; omega, by show (c : Int) ≤ 4096; omega⟩, ?_⟩
  show (r : Int) * (c : Int) ≤ 1048576
  have e : (r : Int) * (c : Int) = ((r * c : Nat) : Int) := by norm_cast
  omega
theorem newOk_gen {x : Int × Int} (h : newOk x) : ∃ r c : Nat, x = ((r : Int), (c : Int)) ∧ r ≤ 4096 ∧ c ≤ 4096 ∧ r * c ≤ 1048576 := by
  obtain ⟨r, c⟩ := x
  obtain ⟨h1, h2, h3⟩ := h
  simp only at h1 h2 h3
  obtain ⟨r, rfl⟩ := natI_eq h1.1
  obtain ⟨c, rfl⟩ := natI_eq h2.1
  have e : (r : Int) * (c : Int) = ((r * c : Nat) : Int) := by norm_cast
  exact ⟨r, c, rfl, by omega, by omega, by omega⟩
theorem new_nat {r c : Nat} (hr : r ≤ 4096) (hc : c ≤ 4096) (h : r * c ≤ 1048576) : F_spec_l31New ((r : Int), (c : Int)) = some ((r : Int), (c : Int), genD r c fun _ _ => 0) := by
  simp only [F_spec_l31New, Int.toNat_natCast]
  rw [if_pos (newOk_nat hr hc h)]

theorem newI_nat {r c : Nat} (hr : r ≤ 4096) (hc : c ≤ 4096) (h : r * c ≤ 1048576) : F_impl_emptyMatrix ((r : Int), (c : Int)) = some ((r : Int), (c : Int), genD r c fun _ _ => 0) := new_nat hr hc h

theorem g_new {r c : Nat} (hr : r ≤ 4096) (hc : c ≤ 4096) (h : r * c ≤ 1048576) : G_spec_l31New FUEL ((r : Int), (c : Int)) = some ((r : Int), (c : Int), genD r c fun _ _ => 0) := by
  simp only [G_spec_l31New]
  rw [mulN (by omega) (by omega)]
  have := mkI_nat (n := r * c) (by_ := 8) (by unfold maxBytes; omega)
  rw [show ((r * c : Nat) : Int) = natI (r * c) from rfl, this, bnd_s, genD_rep]
  rw [show takI (genD r c fun _ _ => 0) (r * c) = some (genD r c fun _ _ => 0) by
    have := takI_id (genD r c fun _ _ => (0 : Int))
    rwa [lenN_gen] at this]
  rfl
theorem f_spec_l31New (x : Int × Int) (y : Int × Int × List Int) (h : F_spec_l31New x = some y) : G_spec_l31New FUEL x = some y := by
  simp only [F_spec_l31New] at h
  split at h
  · rename_i hc
    obtain ⟨r, c, rfl, h1, h2, h3⟩ := newOk_gen hc
    rw [← h, g_new h1 h2 h3]; rfl
  · cases h
theorem f_impl_emptyMatrix (x : Int × Int) (y : Int × Int × List Int) (h : F_impl_emptyMatrix x = some y) : G_impl_emptyMatrix FUEL x = some y := f_spec_l31New x y h

theorem f_spec_l05Ints (x y : List Int) (h : F_spec_l05Ints x = some y) : G_spec_l05Ints FUEL x = some y := by
  simp only [F_spec_l05Ints] at h
  split at h
  · rename_i hl
    rw [← h]
    simp only [G_spec_l05Ints]
    rw [show fulI 0 0 (lenN ([] : List Int)) = some () from rfl, bnd_s, fitI_ok (by simp only [addN, lenN, List.length_nil, maxBytes]; omega), bnd_s]
    have : appL [] x = x := rfl
    rw [this, show addN (lenN ([] : List Int)) (lenN x) = lenN x by simp [addN, lenN], takI_id]
    rfl
  · cases h
theorem f_impl_copyInts (x y : List Int) (h : F_impl_copyInts x = some y) : G_impl_copyInts FUEL x = some y := by
  simp only [F_impl_copyInts] at h
  split at h
  · rename_i hl
    rw [← h]
    simp only [G_impl_copyInts]
    rw [fitI_ok (by simp only [addN, lenN, List.length_nil, maxBytes]; omega), bnd_s]
    have : appL [] x = x := rfl
    rw [this, show addN (lenN ([] : List Int)) (lenN x) = lenN x by simp [addN, lenN], takI_id]
    rfl
  · cases h
theorem natP {a b : Int} (h : 0 ≤ a ∧ a < b) : ∃ n : Nat, a = (n : Int) ∧ ∀ m : Nat, b = (m : Int) → n < m := ⟨a.toNat, by omega, fun m hm => by omega⟩
theorem g_at {r c i j : Nat} {M : Nat → Nat → Int} (hr : r ≤ 4096) (hc : c ≤ 4096) (hi : i < r) (hj : j < c) : G_impl_Matrix_at FUEL (((r : Int), (c : Int), genD r c M), (i : Int), (j : Int)) = some (M i j) := by
  simp only [G_impl_Matrix_at]
  rw [idxI (by omega) (by omega) (by omega), getI_gen M hi hj]; rfl
theorem at_nat {r c i j : Nat} {M : Nat → Nat → Int} (hr : r ≤ 4096) (hc : c ≤ 4096) (h : r * c ≤ 1048576) (hi : i < r) (hj : j < c) : F_impl_Matrix_at (((r : Int), (c : Int), genD r c M), (i : Int), (j : Int)) = some (M i j) := by
  simp only [F_impl_Matrix_at, Int.toNat_natCast]
  rw [if_pos ⟨mOk_mk M hr hc h, by omega, by omega⟩]
  rw [ofD_gen M hi hj]
theorem f_impl_Matrix_at (x : (Int × Int × List Int) × Int × Int) (y : Int) (h : F_impl_Matrix_at x = some y) : G_impl_Matrix_at FUEL x = some y := by
  obtain ⟨m, i, j⟩ := x
  simp only [F_impl_Matrix_at] at h
  split at h
  · rename_i hc
    obtain ⟨h1, h2, h3⟩ := hc
    obtain ⟨r, c, M, rfl, hr, hc, hrc⟩ := mOk_gen h1
    obtain ⟨i, rfl, hi⟩ := natP h2
    obtain ⟨j, rfl, hj⟩ := natP h3
    have hi := hi r rfl; have hj := hj c rfl
    rw [← h, g_at hr hc hi hj]
    exact congrArg some (ofD_gen M hi hj).symm
  · cases h

theorem g_set {r c i j : Nat} {M : Nat → Nat → Int} {x : Int} (hr : r ≤ 4096) (hc : c ≤ 4096) (hi : i < r) (hj : j < c) : G_impl_Matrix_set FUEL (((r : Int), (c : Int), genD r c M), (i : Int), (j : Int), x) = some (genD r c (updM M i j x)) := by
  simp only [G_impl_Matrix_set]
  rw [idxI (by omega) (by omega) (by omega), chkI_gen M hi hj, bnd_s, addN_0, getN_gen M hi hj, bnd_s, setL_gen M hj, samI_gen, bnd_s]
theorem set_nat {r c i j : Nat} {M : Nat → Nat → Int} {x : Int} (hr : r ≤ 4096) (hc : c ≤ 4096) (h : r * c ≤ 1048576) (hi : i < r) (hj : j < c) : F_impl_Matrix_set (((r : Int), (c : Int), genD r c M), (i : Int), (j : Int), x) = some (genD r c (updM M i j x)) := by
  simp only [F_impl_Matrix_set, Int.toNat_natCast]
  rw [if_pos ⟨mOk_mk M hr hc h, by omega, by omega⟩]
  refine (congrArg some (genD_congr fun a ha b hb => ?_))
  unfold updM
  rw [ofD_gen M ha hb]
theorem f_impl_Matrix_set (x : (Int × Int × List Int) × Int × Int × Int) (y : List Int) (h : F_impl_Matrix_set x = some y) : G_impl_Matrix_set FUEL x = some y := by
  obtain ⟨m, i, j, v⟩ := x
  have h0 := h
  simp only [F_impl_Matrix_set] at h
  split at h
  · rename_i hc
    obtain ⟨h1, h2, h3⟩ := hc
    obtain ⟨r, c, M, rfl, hr, hc, hrc⟩ := mOk_gen h1
    obtain ⟨i, rfl, hi⟩ := natP h2
    obtain ⟨j, rfl, hj⟩ := natP h3
    have hi := hi r rfl; have hj := hj c rfl
    rw [← h0, g_set hr hc hi hj, set_nat hr hc hrc hi hj]
  · cases h

/-! ### rows -/

/-! ### pivots, inverses -/

theorem pivF_lt {M : Nat → Nat → Int} {j q : Nat} : ∀ {d k : Nat}, pivF M j d k = some q → k ≤ q ∧ q < k + d ∧ M q j ≠ 0
  | 0, k, h => by cases h
  | d + 1, k, h => by
    simp only [pivF] at h
    split at h
    · have := pivF_lt h
      exact ⟨by omega, by omega, this.2.2⟩
    · rename_i h0
      injection h with h
      subst h
      exact ⟨by omega, by omega, h0⟩

theorem invG_0 (p out x : Int) : invG p out x 0 = out := by rw [invG]; rfl
theorem invG_s {n : Nat} (h : n ≠ 0) (p out x : Int) : invG p out x n = invG p (if n % 2 = 1 then out * x % p else out) (x * x % p) (n / 2) := by
  rw [invG, dif_neg h]
/-! ### transposed -/

/-! ### products -/

end Go.Am
end
section
namespace Go.Am
/-! ### transposes, products and swaps of good matrices -/

def sopOk (x : Int × Int × Int) : Prop := isPrimeI x.1 = true ∧ (1 ≤ x.2.1 ∧ x.2.1 ≤ 8) ∧ (1 ≤ x.2.2 ∧ x.2.2 ≤ 8)
instance (x : Int × Int × Int) : Decidable (sopOk x) := by unfold sopOk; infer_instance
theorem inM_of {p : Int} {r c : Nat} {l : List Int} (h : l.length = r * c) (hr : rowOk p l = true) : inM p r c (ofD c l) := by
  apply allP_gen.1
  rw [genD_of h]
  intro x hx
  have := List.all_eq_true.1 hr x hx
  exact of_decide_eq_true this
theorem matOk_nat {m : Int} {x : Int × Int × List Int} (h : matOk m x = true) : ∃ (r c : Nat) (M : Nat → Nat → Int), x = ((r : Int), (c : Int), genD r c M) ∧ pOk m ∧ r ≤ 64 ∧ c ≤ 64 ∧ r * c ≤ 4096 ∧ inM m r c M := by
  obtain ⟨r, c, l⟩ := x
  simp only [matOk, Bool.and_eq_true, decide_eq_true_eq] at h
  obtain ⟨h1, h2, h3, h4, h5⟩ := h
  obtain ⟨r, rfl⟩ := natI_eq (z := r) (by omega)
  obtain ⟨c, rfl⟩ := natI_eq (z := c) (by omega)
  have hl : l.length = r * c := by
    have e : (r : Int) * (c : Int) = ((r * c : Nat) : Int) := by norm_cast
    omega
  have hrc : r * c ≤ 64 * 64 := Nat.mul_le_mul (by omega) (by omega)
  exact ⟨r, c, ofD c l, by rw [genD_of hl], isPrimeI_t h1, by omega, by omega, by omega, inM_of hl h5⟩

/-! ### the swap operator -/

theorem addNN {x y : Nat} (h : x + y ≤ 1099511627776) : addI .i64 (x : Int) (y : Int) = ((x + y : Nat) : Int) := by
  rw [addI_eq (by omega) (by omega)]
  omega
end Go.Am
end
section
namespace Go.Am
/-! ### reduced forms -/

abbrev Mat := Nat → Nat → Int
def sclF (p inv : Int) (M : Mat) (t : Nat) : Mat := fun a b => if a = t then M t b * inv % p else M a b
def clrF (p : Int) (M : Mat) (t j n : Nat) : Mat := fun a b => if a < n ∧ a ≠ t then (M a b + (p - M a j) * M t b) % p else M a b
def pivS (p : Int) (M : Mat) (t j k : Nat) : Mat := sclF p (invG p 1 (swapF M t k t j) (p - 2).toNat) (swapF M t k) t
def redD (p : Int) (M : Mat) (t j k : Nat) (d : Int) : Int := (if k = t then d else (p - d) % p) * swapF M t k t j % p
def redS (p : Int) (r : Nat) (s : Mat × List Int × Int) (j : Nat) : Mat × List Int × Int :=
  if s.2.1.length < r then
    match pivF s.1 j (r - s.2.1.length) s.2.1.length with
    | none => s
    | some k => (clrF p (pivS p s.1 s.2.1.length j k) s.2.1.length j r, s.2.1 ++ [(j : Int)], redD p s.1 s.2.1.length j k s.2.2)
  else s
def redN (p : Int) (r : Nat) (M : Mat) : Nat → Mat × List Int × Int
  | 0 => (M, [], 1)
  | j + 1 => redS p r (redN p r M j) j
def redOk (x : Int × Int × Int × List Int) : Prop := pOk x.1 ∧ mOk x.2 ∧ allP x.1 x.2.2.2
instance (x : Int × Int × Int × List Int) : Decidable (redOk x) := by unfold redOk; infer_instance
theorem swapF_in {p : Int} {r c : Nat} {M : Mat} (hM : inM p r c M) {a b : Nat} (ha : a < r) (hb : b < r) : inM p r c (swapF M a b) := by
  intro i hi j hj
  unfold swapF
  split
  · exact hM b hb j hj
  · split
    · exact hM a ha j hj
    · exact hM i hi j hj
theorem sclF_in {p inv : Int} {r c : Nat} {M : Mat} (hp : pOk p) (hM : inM p r c M) (t : Nat) : inM p r c (sclF p inv M t) := by
  intro i hi j hj
  unfold sclF
  split
  · exact emod_in hp _
  · exact hM i hi j hj
theorem clrF_in {p : Int} {r c : Nat} {M : Mat} (hp : pOk p) (hM : inM p r c M) (t k n : Nat) : inM p r c (clrF p M t k n) := by
  intro i hi j hj
  unfold clrF
  split
  · exact emod_in hp _
  · exact hM i hi j hj
theorem pivS_in {p : Int} {r c : Nat} {M : Mat} (hp : pOk p) (hM : inM p r c M) {t k : Nat} (ht : t < r) (hk : k < r) (j : Nat) : inM p r c (pivS p M t j k) := sclF_in hp (swapF_in hM ht hk) t

structure RI (p : Int) (r c : Nat) (s : Mat × List Int × Int) (j : Nat) : Prop where
  m : inM p r c s.1
  l : s.2.1.length ≤ r
  lj : s.2.1.length ≤ j
  d : inP p s.2.2
  e : ∀ x ∈ s.2.1, 0 ≤ x ∧ x < (j : Int)
theorem RI.step {p : Int} {r c : Nat} {s : Mat × List Int × Int} {j : Nat} (hp : pOk p) (h : RI p r c s j) : RI p r c (redS p r s j) (j + 1) := by
  have keep : RI p r c s (j + 1) := ⟨h.m, h.l, by have := h.lj; omega, h.d, fun x hx => by have := h.e x hx; omega⟩
  unfold redS
  split
  · rename_i hl
    split
    · exact keep
    · rename_i k hk
      have hq := pivF_lt hk
      refine ⟨clrF_in hp (pivS_in hp h.m hl (by omega) j) _ _ _, ?_, ?_, emod_in hp _, ?_⟩
      · simp only [List.length_append, List.length_cons, List.length_nil]; omega
      · have := h.lj
        simp only [List.length_append, List.length_cons, List.length_nil]; omega
      · intro x hx
        simp only [List.mem_append, List.mem_singleton] at hx
        rcases hx with hx | rfl
        · have := h.e x hx; omega
        · omega
  · exact keep
theorem clrF_0 {p : Int} (M : Mat) (t j : Nat) : clrF p M t j 0 = M := by funext a b; exact if_neg (by omega)
theorem clrF_old {p : Int} (M : Mat) (t j n b : Nat) : clrF p M t j n n b = M n b := if_neg (by omega)
theorem clrF_t {p : Int} (M : Mat) (t j n b : Nat) : clrF p M t j n t b = M t b := if_neg (by omega)
theorem clrF_skip {p : Int} (M : Mat) (t j : Nat) : clrF p M t j (t + 1) = clrF p M t j t := by
  funext a b
  unfold clrF
  by_cases h : a < t
  · rw [if_pos (by omega), if_pos (by omega)]
  · rw [if_neg (by omega), if_neg (by omega)]
theorem pivF_none {M : Mat} {j : Nat} : ∀ {d k : Nat}, pivF M j d k = none → ∀ i, k ≤ i → i < k + d → M i j = 0
  | 0, k, _, i, h1, h2 => by omega
  | d + 1, k, h, i, h1, h2 => by
    simp only [pivF] at h
    split at h
    · rename_i h0
      by_cases hi : i = k
      · rw [hi]; exact h0
      · exact pivF_none h i (by omega) (by omega)
    · cases h
theorem redS_n {p : Int} {r : Nat} {s : Mat × List Int × Int} {j : Nat} (hl : s.2.1.length < r) (h : pivF s.1 j (r - s.2.1.length) s.2.1.length = none) : redS p r s j = s := by
  unfold redS
  rw [if_pos hl, h]
theorem redS_s {p : Int} {r : Nat} {s : Mat × List Int × Int} {j k : Nat} (hl : s.2.1.length < r) (h : pivF s.1 j (r - s.2.1.length) s.2.1.length = some k) :
    redS p r s j = (clrF p (pivS p s.1 s.2.1.length j k) s.2.1.length j r, s.2.1 ++ [(j : Int)], redD p s.1 s.2.1.length j k s.2.2) := by
  unfold redS
  rw [if_pos hl, h]
/-! ### the walk of the spec's reduction -/

section
variable {p : Int} {r c : Nat} {M0 : Mat}

end
/-! ### the walk of the program's reduction -/

section
variable {p : Int} {r c : Nat} {M0 : Mat}

end

end Go.Am
end
section
namespace Go.Am
/-! ### ranks, reduced forms and factors of good matrices -/

/-! ### factors -/

section
variable {p : Int} {r c : Nat} {M R : Mat} {L : List Int}

end

end Go.Am
end
section
namespace Go.Am

def ch : Nat → Nat → Nat
  | _, 0 => 1
  | 0, _ + 1 => 0
  | n + 1, k + 1 => ch n k + ch n (k + 1)

theorem ch_gt : ∀ {n k : Nat}, n < k → ch n k = 0
  | 0, k + 1, _ => by simp [ch]
  | n + 1, k + 1, h => by simp [ch, ch_gt (show n < k by omega), ch_gt (show n < k + 1 by omega)]
theorem ch_0 (n : Nat) : ch n 0 = 1 := by cases n <;> rfl
theorem ch_self : ∀ n, ch n n = 1
  | 0 => rfl
  | n + 1 => by simp [ch, ch_self n, ch_gt (Nat.lt_succ_self n)]

theorem ch_mul : ∀ (n k : Nat), (k + 1) * ch (n + 1) (k + 1) = (n + 1) * ch n k
  | 0, 0 => by simp [ch]
  | 0, k + 1 => by simp [ch]
  | n + 1, 0 => by
    have h := ch_mul n 0
    simp only [ch_0] at h ⊢
    have e : ch (n + 1 + 1) (0 + 1) = ch (n + 1) 0 + ch (n + 1) (0 + 1) := rfl
    rw [e, ch_0]
    omega
  | n + 1, k + 1 => by
    have h1 := ch_mul n k
    have h2 := ch_mul n (k + 1)
    have e1 : ch (n + 1 + 1) (k + 1 + 1) = ch (n + 1) (k + 1) + ch (n + 1) (k + 1 + 1) := rfl
    have e2 : ch (n + 1) (k + 1) = ch n k + ch n (k + 1) := rfl
    rw [e1]
    generalize ch (n + 1) (k + 1 + 1) = B at *
    generalize ch (n + 1) (k + 1) = A at *
    generalize ch n k = u at *
    generalize ch n (k + 1) = v at *
    subst e2
    grind

def sumF (f : Nat → Nat) : Nat → Nat
  | 0 => 0
  | m + 1 => sumF f m + f m

theorem sum_step (n a : Nat) : ∀ m, sumF (fun k => ch (n + 1) k * a ^ k) (m + 1) = sumF (fun k => ch n k * a ^ k) (m + 1) + a * sumF (fun k => ch n k * a ^ k) m
  | 0 => by simp [sumF, ch_0]
  | m + 1 => by
    have h := sum_step n a m
    simp only [sumF] at h ⊢
    have e : ch (n + 1) (m + 1) = ch n m + ch n (m + 1) := rfl
    rw [h, e, Nat.pow_succ]
    grind

theorem binom (a : Nat) : ∀ n, (a + 1) ^ n = sumF (fun k => ch n k * a ^ k) (n + 1)
  | 0 => by simp [sumF, ch_0]
  | n + 1 => by
    rw [sum_step]
    have e : sumF (fun k => ch n k * a ^ k) (n + 1 + 1) = sumF (fun k => ch n k * a ^ k) (n + 1) := by
      show sumF _ (n + 1) + ch n (n + 1) * a ^ (n + 1) = _
      rw [ch_gt (Nat.lt_succ_self n)]; simp
    rw [e, ← binom a n, Nat.pow_succ]
    grind

theorem sum_mod {p : Nat} {f : Nat → Nat} : ∀ m, (∀ k, 0 < k → k ≤ m → p ∣ f k) → sumF f (m + 1) % p = f 0 % p
  | 0, h => by simp [sumF]
  | m + 1, h => by
    have i := sum_mod m fun k h1 h2 => h k h1 (by omega)
    obtain ⟨c, hc⟩ := h (m + 1) (by omega) (Nat.le_refl _)
    show (sumF f (m + 1) + f (m + 1)) % p = _
    rw [hc, Nat.add_mul_mod_self_left, i]

def PrimeN (p : Nat) : Prop := 2 ≤ p ∧ ∀ d, d ∣ p → d = 1 ∨ d = p

theorem PrimeN.cop {p a : Nat} (hp : PrimeN p) (h : ¬ p ∣ a) : Nat.Coprime p a := by
  have := hp.2 (Nat.gcd p a) (Nat.gcd_dvd_left p a)
  rcases this with h1 | h1
  · exact h1
  · exact absurd (h1 ▸ Nat.gcd_dvd_right p a) h

theorem PrimeN.ch {p k : Nat} (hp : PrimeN p) (h1 : 0 < k) (h2 : k < p) : p ∣ ch p k := by
  obtain ⟨q, rfl⟩ : ∃ q, p = q + 1 := ⟨p - 1, by omega⟩
  obtain ⟨j, rfl⟩ : ∃ j, k = j + 1 := ⟨k - 1, by omega⟩
  have hm := ch_mul q j
  have hd : (q + 1) ∣ (j + 1) * Go.Am.ch (q + 1) (j + 1) := ⟨Go.Am.ch q j, hm⟩
  exact (hp.cop fun h => absurd (Nat.le_of_dvd (by omega) h) (by omega)).dvd_of_dvd_mul_left hd

theorem fermat0 {p : Nat} (hp : PrimeN p) : ∀ a, a ^ p % p = a % p
  | 0 => by rw [Nat.zero_pow (by have := hp.1; omega)]
  | a + 1 => by
    rw [binom]
    show (sumF _ p + Go.Am.ch p p * a ^ p) % p = _
    obtain ⟨q, rfl⟩ : ∃ q, p = q + 1 := ⟨p - 1, by have := hp.1; omega⟩
    have h := sum_mod (p := q + 1) (f := fun k => Go.Am.ch (q + 1) k * a ^ k) q fun k h1 h2 => Nat.dvd_trans (hp.ch h1 (by omega)) (Nat.dvd_mul_right _ _)
    rw [ch_self, Nat.one_mul, Nat.add_mod, h, fermat0 hp a]
    simp only [ch_0, Nat.pow_zero, Nat.mul_one]
    rw [← Nat.add_mod, Nat.add_comm]

theorem fermat {p a : Nat} (hp : PrimeN p) (ha : ¬ p ∣ a) : a * a ^ (p - 2) % p = 1 := by
  have h2 := hp.1
  have h := fermat0 hp a
  have e : a ^ p = a * (a * a ^ (p - 2)) := by
    obtain ⟨q, rfl⟩ : ∃ q, p = q + 2 := ⟨p - 2, by omega⟩
    rw [Nat.pow_succ, Nat.pow_succ, Nat.add_sub_cancel]
    rw [Nat.mul_comm a (a ^ q), Nat.mul_comm a (a ^ q * a)]
  rw [e] at h
  have ha0 : 0 < a := by
    rcases Nat.eq_zero_or_pos a with h | h
    · subst h; exact absurd ⟨0, by simp⟩ ha
    · exact h
  have hz : 0 < a * a ^ (p - 2) := Nat.mul_pos ha0 (Nat.pow_pos ha0)
  generalize a * a ^ (p - 2) = z at h hz ⊢
  obtain ⟨y, rfl⟩ : ∃ y, z = y + 1 := ⟨z - 1, by omega⟩
  have hd : p ∣ a * y := by
    have e : a * (y + 1) = a * y + a := by rw [Nat.mul_add, Nat.mul_one]
    rw [e] at h
    have : (a * y + a - a) % p = 0 := Nat.sub_mod_eq_zero_of_mod_eq h
    rw [Nat.add_sub_cancel] at this
    exact Nat.dvd_of_mod_eq_zero this
  obtain ⟨c, rfl⟩ := (hp.cop ha).dvd_of_dvd_mul_left hd
  rw [Nat.add_comm, Nat.add_mul_mod_self_left]
  exact Nat.mod_eq_of_lt (by omega)

end Go.Am
end
section
namespace Go.Am

/-! ### inverses modulo p -/

theorem isPrimeI_N {p : Int} (h : isPrimeI p = true) : PrimeN p.toNat := by
  have hp := isPrimeI_t h
  obtain ⟨n, rfl⟩ := natI_eq (show 0 ≤ p by omega)
  simp only [Int.toNat_natCast]
  refine ⟨by omega, fun d hd => ?_⟩
  rcases Nat.lt_or_ge d 2 with h2 | h2
  · rcases Nat.eq_zero_or_pos d with h0 | h0
    · subst h0
      have := Nat.eq_zero_of_zero_dvd hd
      omega
    · exact .inl (by omega)
  · obtain ⟨e, he⟩ := hd
    simp only [isPrimeI, Bool.and_eq_true, decide_eq_true_eq, Bool.not_eq_true', List.any_eq_false] at h
    have key : ∀ a b : Nat, 2 ≤ a → 2 ≤ b → a ≤ b → n ≠ a * b := by
      intro a b ha hb hab e
      have h1 : a * a ≤ n := by rw [e]; exact Nat.mul_le_mul_left _ hab
      have h3 : a < 1001 := by
        rcases Nat.lt_or_ge a 1001 with h | h
        · exact h
        · have := Nat.mul_le_mul h h; omega
      refine h.2 a (by simp; omega) ?_
      unfold divAt
      have ea : ((a : Int)) * (a : Int) = ((a * a : Nat) : Int) := by norm_cast
      simp only [Bool.and_eq_true, decide_eq_true_eq]
      constructor
      · rw [ea]; omega
      · rw [e]; push_cast; exact Int.mul_emod_right _ _
    right
    rcases Nat.lt_or_ge e 2 with h3 | h3
    · have : e = 1 := by
        rcases Nat.eq_zero_or_pos e with h0 | h0
        · subst h0; simp at he; omega
        · omega
      subst this; omega
    · exfalso
      rcases Nat.le_total d e with hde | hde
      · exact key d e h2 h3 hde he
      · exact key e d h3 h2 hde (by rw [he, Nat.mul_comm])

theorem pow_sq (x : Int) (b : Nat) : ∀ m : Nat, (x * x) ^ m * x ^ b = x ^ (2 * m + b)
  | 0 => by simp
  | m + 1 => by
    have ih := pow_sq x b m
    rw [show 2 * (m + 1) + b = 2 * m + b + 1 + 1 by omega, Int.pow_succ, Int.pow_succ (n := 2 * m + b + 1), Int.pow_succ (n := 2 * m + b), ← ih]
    grind

theorem invG_pow {p : Int} (hp : pOk p) : ∀ (n : Nat) (out x : Int), invG p out x n % p = out * x ^ n % p := by
  intro n
  induction n using Nat.strongRecOn with
  | ind n ih =>
    intro out x
    by_cases h0 : n = 0
    · subst h0; rw [invG_0]; simp
    · rw [invG_s h0, ih (n / 2) (by omega)]
      have e : x ^ n = (x * x) ^ (n / 2) * x ^ (n % 2) := by
        rw [pow_sq, Nat.div_add_mod]
      rw [e]
      have h1 : ((x * x % p) ^ (n / 2)) % p = ((x * x) ^ (n / 2)) % p := by
        have : ∀ k : Nat, ((x * x % p) ^ k) % p = ((x * x) ^ k) % p := by
          intro k
          induction k with
          | zero => simp
          | succ k ih => rw [Int.pow_succ, Int.pow_succ, Int.mul_emod, ih, Int.emod_emod, ← Int.mul_emod]
        exact this _
      by_cases hb : n % 2 = 1
      · rw [if_pos hb, hb, Int.mul_emod, h1, Int.emod_emod, ← Int.mul_emod]
        congr 1
        grind
      · rw [if_neg hb, show n % 2 = 0 by omega, Int.mul_emod, h1, ← Int.mul_emod]
        congr 1
        grind

theorem inv_one {p x : Int} (hpr : isPrimeI p = true) (hx : inP p x) (h0 : x ≠ 0) : x * invG p 1 x (p - 2).toNat % p = 1 := by
  have hp := isPrimeI_t hpr
  have hp' : pOk p := ⟨hp.1, hp.2⟩
  obtain ⟨n, rfl⟩ := natI_eq (show 0 ≤ p by omega)
  obtain ⟨a, rfl⟩ := natI_eq hx.1
  have hN := isPrimeI_N hpr
  simp only [Int.toNat_natCast] at hN
  have ha : ¬ n ∣ a := fun h => by
    have := Nat.le_of_dvd (by omega) h
    have := hx.2
    omega
  have hf := fermat hN ha
  have e : (((n : Int)) - 2).toNat = n - 2 := by omega
  rw [Int.mul_emod, invG_pow hp', e, Int.one_mul, ← Int.mul_emod]
  exact_mod_cast hf

/-! ### sums -/

def sumD (f g : Nat → Int) : Nat → Int
  | 0 => 0
  | n + 1 => sumD f g n + f n * g n

theorem sumD_mod {p : Int} {f f' g : Nat → Int} : ∀ n, (∀ k, k < n → ∃ q, f k = f' k + p * q) → ∃ q, sumD f g n = sumD f' g n + p * q
  | 0, _ => ⟨0, by simp [sumD]⟩
  | n + 1, h => by
    obtain ⟨q, hq⟩ := sumD_mod (g := g) n fun k hk => h k (by omega)
    obtain ⟨q', hq'⟩ := h n (by omega)
    exact ⟨q + q' * g n, by simp only [sumD, hq, hq']; grind⟩
theorem sumD_l (f f2 g : Nat → Int) (c : Int) : ∀ n, sumD (fun k => f k + c * f2 k) g n = sumD f g n + c * sumD f2 g n
  | 0 => by simp [sumD]
  | n + 1 => by simp only [sumD, sumD_l f f2 g c n]; grind
theorem sumD_r (f g g2 : Nat → Int) (c : Int) : ∀ n, sumD f (fun k => g k - c * g2 k) n = sumD f g n - c * sumD f g2 n
  | 0 => by simp [sumD]
  | n + 1 => by simp only [sumD, sumD_r f g g2 c n]; grind
theorem sumD_sl (f g : Nat → Int) (c : Int) : ∀ n, sumD (fun k => f k * c) g n = sumD f g n * c
  | 0 => by simp [sumD]
  | n + 1 => by simp only [sumD, sumD_sl f g c n]; grind
theorem sumD_sr (f g : Nat → Int) (c : Int) : ∀ n, sumD f (fun k => g k * c) n = sumD f g n * c
  | 0 => by simp [sumD]
  | n + 1 => by simp only [sumD, sumD_sr f g c n]; grind
/-! ### a right inverse is kept by row operations -/

def dl (a b : Nat) : Int := if a = b then 1 else 0

def RInv (p : Int) (n : Nat) (E X : Mat) : Prop := ∀ a, a < n → ∀ b, b < n → ∃ q, sumD (E a) (fun k => X k b) n = dl a b + p * q

theorem RInv.congr {p : Int} {n : Nat} {E E' X : Mat} (h : RInv p n E X) (he : ∀ a, a < n → ∀ k, k < n → ∃ q, E' a k = E a k + p * q) : RInv p n E' X := by
  intro a ha b hb
  obtain ⟨q, hq⟩ := h a ha b hb
  obtain ⟨q', hq'⟩ := sumD_mod (p := p) (f := E' a) (f' := E a) (g := fun k => X k b) n (he a ha)
  exact ⟨q + q', by rw [hq', hq]; grind⟩

theorem RInv.swap {p : Int} {n : Nat} {E X : Mat} (h : RInv p n E X) {s t : Nat} (hs : s < n) (ht : t < n) : ∃ X', RInv p n (swapF E s t) X' := by
  let sw : Nat → Nat := fun i => if i = s then t else if i = t then s else i
  have hsw : ∀ i, i < n → sw i < n := by
    intro i hi
    show (if i = s then t else if i = t then s else i) < n
    split
    · exact ht
    · split
      · exact hs
      · exact hi
  have hinj : ∀ i j, sw i = sw j → i = j := by
    intro i j
    show (if i = s then t else if i = t then s else i) = (if j = s then t else if j = t then s else j) → i = j
    intro h
    repeat' split at h
    all_goals omega
  refine ⟨fun k b => X k (sw b), fun a ha b hb => ?_⟩
  obtain ⟨q, hq⟩ := h (sw a) (hsw a ha) (sw b) (hsw b hb)
  refine ⟨q, ?_⟩
  have e : swapF E s t a = E (sw a) := by
    funext k
    show (if a = s then E t k else if a = t then E s k else E a k) = E (if a = s then t else if a = t then s else a) k
    split
    · rfl
    · split <;> rfl
  rw [e, hq]
  congr 1
  unfold dl
  by_cases hab : a = b
  · subst hab; simp
  · rw [if_neg hab, if_neg fun h => hab (hinj _ _ h)]

theorem RInv.scale {p inv u : Int} {n : Nat} {E X : Mat} (h : RInv p n E X) {t : Nat} (ht : t < n) (hu : u * inv % p = 1) : ∃ X', RInv p n (sclF p inv E t) X' := by
  have hu' : ∃ z, u * inv = 1 + p * z := ⟨u * inv / p, by have := Int.emod_add_mul_ediv (u * inv) p; omega⟩
  obtain ⟨z, hz⟩ := hu'
  refine ⟨fun k b => if b = t then X k t * u else X k b, RInv.congr (E := fun a k => if a = t then E t k * inv else E a k) (fun a ha b hb => ?_) (fun a ha k hk => ?_)⟩
  · obtain ⟨q, hq⟩ := h a ha b hb
    by_cases hat : a = t
    · subst hat
      by_cases hbt : b = a
      · subst hbt
        refine ⟨z + q * inv * u, ?_⟩
        simp only [if_true]
        rw [sumD_sl, sumD_sr, hq, dl, if_pos rfl]
        grind
      · refine ⟨q * inv, ?_⟩
        simp only [if_true, if_neg hbt]
        rw [sumD_sl, hq, dl, if_neg (Ne.symm hbt)]
        grind
    · by_cases hbt : b = t
      · subst hbt
        refine ⟨q * u, ?_⟩
        simp only [if_neg hat, if_true]
        rw [sumD_sr]
        have : sumD (fun k => E a k) (fun k => X k b) n = dl a b + p * q := hq
        rw [this, dl, if_neg hat]
        grind
      · refine ⟨q, ?_⟩
        simp only [if_neg hat, if_neg hbt]
        exact hq
  · unfold sclF
    by_cases hat : a = t
    · simp only [hat, if_true]
      refine ⟨-(E t k * inv / p), ?_⟩
      have := Int.emod_add_mul_ediv (E t k * inv) p
      have e : p * -(E t k * inv / p) = -(p * (E t k * inv / p)) := Int.mul_neg _ _
      omega
    · simp only [hat, if_false]
      exact ⟨0, by simp⟩

theorem RInv.add {p f : Int} {n : Nat} {E E' X : Mat} (h : RInv p n E X) {m t : Nat} (hm : m < n) (ht : t < n) (hmt : m ≠ t) (he : ∀ a, a < n → ∀ k, k < n → ∃ q, E' a k = (if a = m then E m k + f * E t k else E a k) + p * q) : ∃ X', RInv p n E' X' := by
  refine ⟨fun k b => if b = t then X k t - f * X k m else X k b, RInv.congr (E := fun a k => if a = m then E m k + f * E t k else E a k) (fun a ha b hb => ?_) he⟩
  obtain ⟨q1, h1⟩ := h a ha b hb
  obtain ⟨q2, h2⟩ := h t ht b hb
  obtain ⟨q3, h3⟩ := h a ha m hm
  obtain ⟨q4, h4⟩ := h t ht m hm
  have h1' : sumD (fun k => E a k) (fun k => X k b) n = dl a b + p * q1 := h1
  have h2' : sumD (fun k => E t k) (fun k => X k b) n = dl t b + p * q2 := h2
  have h3' : sumD (fun k => E a k) (fun k => X k m) n = dl a m + p * q3 := h3
  have h4' : sumD (fun k => E t k) (fun k => X k m) n = dl t m + p * q4 := h4
  have d1 : dl t m = 0 := if_neg (Ne.symm hmt)
  by_cases ham : a = m
  · subst ham
    have d2 : dl a a = 1 := if_pos rfl
    by_cases hbt : b = t
    · subst hbt
      have d3 : dl a b = 0 := if_neg hmt
      have d4 : dl b b = 1 := if_pos rfl
      refine ⟨q1 + f * q2 - f * q3 - f * f * q4, ?_⟩
      simp only [if_true]
      rw [sumD_l, sumD_r, sumD_r, h1', h2', h3', h4', d1, d2, d3, d4]
      grind
    · refine ⟨q1 + f * q2, ?_⟩
      have d3 : dl t b = 0 := if_neg (Ne.symm hbt)
      simp only [if_true, if_neg hbt]
      rw [sumD_l, h1', h2', d3]
      grind
  · by_cases hbt : b = t
    · subst hbt
      have d3 : dl a m = 0 := if_neg ham
      refine ⟨q1 - f * q3, ?_⟩
      simp only [if_neg ham, if_true]
      rw [sumD_r, h1', h3', d3]
      grind
    · refine ⟨q1, ?_⟩
      simp only [if_neg ham, if_neg hbt]
      exact h1'

/-! ### the reduction -/

/-- The rows behind the rank are zero in the columns that are done; the right half has a right inverse. -/
def RK (p : Int) (n : Nat) (s : Mat × List Int × Int) (j : Nat) : Prop :=
  (∃ X, RInv p n (fun a k => s.1 a (n + k)) X) ∧ ∀ b, b < j → ∀ i, s.2.1.length ≤ i → i < n → s.1 i b = 0

theorem RK.step {p : Int} {n : Nat} {s : Mat × List Int × Int} {j : Nat} (hpr : isPrimeI p = true) (hj : j < 2 * n) (I : RI p n (2 * n) s j) (h : RK p n s j) : RK p n (redS p n s j) (j + 1) := by
  have hp : pOk p := isPrimeI_t hpr
  obtain ⟨⟨X, hX⟩, hz⟩ := h
  obtain ⟨M, L, d⟩ := s
  simp only at hX hz
  by_cases hl : L.length < n
  · cases hk : pivF M j (n - L.length) L.length with
    | none =>
      rw [redS_n (s := (M, L, d)) hl hk]
      refine ⟨⟨X, hX⟩, fun b hb i h1 h2 => ?_⟩
      by_cases hbj : b = j
      · subst hbj; exact pivF_none hk i h1 (by simp only at h1; omega)
      · exact hz b (by omega) i h1 h2
    | some k =>
      rw [redS_s (s := (M, L, d)) hl hk]
      simp only
      have hq := pivF_lt hk
      have hkn : k < n := by omega
      have hM : inM p n (2 * n) M := I.m
      have hx : inP p (M k j) := hM k hkn j hj
      have hsw : swapF M L.length k L.length j = M k j := if_pos rfl
      have hi := inv_one hpr hx hq.2.2
      generalize hinv : invG p 1 (M k j) (p - 2).toNat = inv at hi
      have hpiv : pivS p M L.length j k = sclF p inv (swapF M L.length k) L.length := by unfold pivS; rw [hsw, hinv]
      rw [hpiv]
      have hS : inM p n (2 * n) (swapF M L.length k) := swapF_in hM hl hkn
      generalize hM2 : sclF p inv (swapF M L.length k) L.length = M2
      have hM2i : inM p n (2 * n) M2 := by rw [← hM2]; exact sclF_in hp hS _
      constructor
      · obtain ⟨X1, hX1⟩ := hX.swap (s := L.length) (t := k) hl hkn
        obtain ⟨X2, hX2⟩ := hX1.scale (inv := inv) (u := M k j) hl hi
        have base : RInv p n (fun a b => clrF p M2 L.length j 0 a (n + b)) X2 := by
          rw [clrF_0, ← hM2]; exact hX2
        have key : ∀ m, m ≤ n → ∃ X', RInv p n (fun a b => clrF p M2 L.length j m a (n + b)) X' := by
          intro m
          induction m with
          | zero => intro _; exact ⟨X2, base⟩
          | succ m ih =>
            intro hm
            obtain ⟨X', hX'⟩ := ih (by omega)
            by_cases hmt : m = L.length
            · subst hmt
              rw [clrF_skip]; exact ⟨X', hX'⟩
            · refine hX'.add (f := p - M2 m j) (m := m) (t := L.length) (by omega) hl hmt fun a ha b hb => ?_
              show ∃ q, clrF p M2 L.length j (m + 1) a (n + b) = _
              by_cases ham : a = m
              · subst ham
                rw [if_pos rfl]
                show ∃ q, clrF p M2 L.length j (a + 1) a (n + b) = (clrF p M2 L.length j a a (n + b) + (p - M2 a j) * clrF p M2 L.length j a L.length (n + b)) + p * q
                rw [clrF_old, clrF_t]
                unfold clrF
                rw [if_pos ⟨by omega, hmt⟩]
                refine ⟨-((M2 a (n + b) + (p - M2 a j) * M2 L.length (n + b)) / p), ?_⟩
                have e1 := Int.emod_add_mul_ediv (M2 a (n + b) + (p - M2 a j) * M2 L.length (n + b)) p
                have e2 := Int.mul_neg p ((M2 a (n + b) + (p - M2 a j) * M2 L.length (n + b)) / p)
                omega
              · rw [if_neg ham]
                refine ⟨0, ?_⟩
                show clrF p M2 L.length j (m + 1) a (n + b) = clrF p M2 L.length j m a (n + b) + p * 0
                unfold clrF
                by_cases hc : a < m ∧ a ≠ L.length
                · rw [if_pos hc, if_pos ⟨by omega, hc.2⟩]; simp
                · rw [if_neg hc, if_neg (by omega)]; simp
        exact key n (Nat.le_refl _)
      · intro b hb i h1 h2
        simp only [List.length_append, List.length_cons, List.length_nil] at h1
        show clrF p M2 L.length j n i b = 0
        unfold clrF
        rw [if_pos ⟨h2, by omega⟩]
        have e2 : ∀ c, M2 i c = swapF M L.length k i c := fun c => by rw [← hM2]; exact if_neg (by omega)
        have e3 : ∀ c, M2 L.length c = M k c * inv % p := fun c => by rw [← hM2]; show (if L.length = L.length then _ else _) = _; rw [if_pos rfl]; congr 2; exact if_pos rfl
        by_cases hbj : b = j
        · subst hbj
          rw [e3 b, hi]
          have : M2 i b + (p - M2 i b) * 1 = p := by omega
          rw [this]; exact Int.emod_self
        · have hbj' : b < j := by omega
          rw [e3 b, hz b hbj' k hq.1 hkn, e2 b]
          have : swapF M L.length k i b = 0 := by
            unfold swapF
            rw [if_neg (by omega)]
            split
            · exact hz b hbj' L.length (Nat.le_refl _) hl
            · exact hz b hbj' i (by omega) h2
          rw [this]; simp
  · unfold redS
    rw [if_neg hl]
    exact ⟨⟨X, hX⟩, fun b hb i h1 h2 => by simp only at h1; omega⟩

end Go.Am
end
section
namespace Go.Am
def wideF (n : Nat) (M : Mat) : Mat := fun a b => if b < n then M a b else dl a (b - n)
def wideM (n : Nat) (M : Mat) : Mat := ofD (2 * n) (genD n (2 * n) (wideF n M))
def invX (p : Int) (n : Nat) (M : Mat) : Mat × List Int × Int := redN p n (wideM n M) (2 * n)
def invOk (p : Int) (n : Nat) (M : Mat) : Prop := ∀ i, i < n → (invX p n M).2.1.getD i 0 = (i : Int)
instance (p : Int) (n : Nat) (M : Mat) : Decidable (invOk p n M) := inferInstanceAs (Decidable (∀ i, i < n → (invX p n M).2.1.getD i 0 = (i : Int)))
theorem get_nat {L : List Int} {i : Nat} (h : i < L.length) : getN L i = some (L.getD i 0) := by
  show L[i]? = _
  rw [List.getElem?_eq_getElem h]
  simp [List.getD, h]
section
variable {p : Int} {n : Nat} {M R : Mat} {L : List Int}

end
section
variable {p : Int} {n : Nat} {M R : Mat} {L : List Int}
end

end Go.Am
end
section
namespace Go.Am
abbrev Mx3 := Int × Int × List Int
abbrev Aut := Int × Int × List Int × List (Int × Int × List Int) × List Int
def wOk (k : Nat) (w : List Int) : Prop := ∀ c ∈ w, 0 ≤ c ∧ c < (k : Int)
instance (k : Nat) (w : List Int) : Decidable (wOk k w) := inferInstanceAs (Decidable (∀ c ∈ w, 0 ≤ c ∧ c < (k : Int)))
def reachOk (x : Aut × List Int) : Prop := autOk x.1 = true ∧ wOk x.1.2.2.2.1.length x.2 ∧ x.2.length ≤ 1048576
instance (x : Aut × List Int) : Decidable (reachOk x) := by unfold reachOk; infer_instance
/-! ### good automata -/

theorem rowOk_P {m : Int} {l : List Int} : rowOk m l = true ↔ allP m l := by
  simp only [rowOk, allP, List.all_eq_true, inB, decide_eq_true_eq, inP]

structure AutOk (p : Int) (n : Nat) (a : List Int) (ms : List Mx3) (b : List Int) : Prop where
  pr : isPrimeI p = true
  hn : n ≤ 12
  al : a.length = n
  ap : allP p a
  bl : b.length = n
  bp : allP p b
  l1 : 1 ≤ ms.length
  l4 : ms.length ≤ 4
  hm : ∀ x ∈ ms, ∃ M : Mat, x = ((n : Int), (n : Int), genD n n M) ∧ inM p n n M

theorem AutOk.p {p : Int} {n : Nat} {a b : List Int} {ms : List Mx3} (h : AutOk p n a ms b) : pOk p := isPrimeI_t h.pr

theorem autOk_nat {x : Aut} (h : autOk x = true) : ∃ (p : Int) (n : Nat) (a : List Int) (ms : List Mx3) (b : List Int), x = (p, (n : Int), a, ms, b) ∧ AutOk p n a ms b := by
  obtain ⟨p, n, a, ms, b⟩ := x
  simp only [autOk, Bool.and_eq_true, decide_eq_true_eq] at h
  obtain ⟨h1, h2, ⟨h3, h4⟩, ⟨h5, h6⟩, h7, h8⟩ := h
  obtain ⟨n, rfl⟩ := natI_eq h2.1
  refine ⟨p, n, a, ms, b, rfl, h1, by omega, by omega, rowOk_P.1 h3, by omega, rowOk_P.1 h5, by omega, by omega, fun x hx => ?_⟩
  have hm := List.all_eq_true.1 h8 x hx
  simp only [matsOk, Bool.and_eq_true, decide_eq_true_eq] at hm
  obtain ⟨hm, hr, hc⟩ := hm
  obtain ⟨r, c, M, rfl, hp, hr', hc', hrc, hM⟩ := matOk_nat hm
  simp only at hr hc
  have er : r = n := by omega
  have ec : c = n := by omega
  subst er ec
  exact ⟨M, rfl, hM⟩

theorem ofD_in {p : Int} {r c : Nat} {l : List Int} (hl : l.length = r * c) (h : allP p l) : inM p r c (ofD c l) := allP_gen.1 (by rw [genD_of hl]; exact h)

section
variable {p : Int} {n : Nat} {a b : List Int} {ms : List Mx3}

end

end Go.Am
end
section
namespace Go.Am
def alikeB (x y : Aut) : Bool := autOk x && (autOk y && (decide (x.1 = y.1) && decide (x.2.2.2.1.length = y.2.2.2.1.length)))
def F_spec_l34Alike : Aut × Aut → Option Bool := fun (x : Aut × Aut) => if sz_Automaton x.1 ≤ 1048576 ∧ sz_Automaton x.2 ≤ 1048576 then some (alikeB x.1 x.2) else none
def F_impl_sameLetters : Aut × Aut → Option Bool := F_spec_l34Alike
def stM (n : Nat) (ms : List Mx3) (k : Nat) : Mat := ofD n (ms.getD k (0, 0, [])).2.2
def sumM (n : Nat) (A B : Mat) : Mat := fun i j => if i < n ∧ j < n then A i j else if n ≤ i ∧ n ≤ j then B (i - n) (j - n) else 0
def sumSt (n m : Nat) (ms ms2 : List Mx3) (k : Nat) : List Mx3 := (List.range k).map fun t => (((n + m : Nat) : Int), ((n + m : Nat) : Int), genD (n + m) (n + m) (sumM n (stM n ms t) (stM m ms2 t)))
def sumX (x y : Aut) (sg : Int) : Aut := (x.1, ((x.2.1.toNat + y.2.1.toNat : Nat) : Int), x.2.2.1 ++ y.2.2.1, sumSt x.2.1.toNat y.2.1.toNat x.2.2.2.1 y.2.2.2.1 x.2.2.2.1.length, x.2.2.2.2 ++ y.2.2.2.2.map fun v => v * sg % x.1)
def F_spec_l34Sum : Aut × Aut × Int → Option Aut := fun (x : Aut × Aut × Int) => if alikeB x.1 x.2.1 = true ∧ (0 ≤ x.2.2 ∧ x.2.2 ≤ x.1.1) then some (sumX x.1 x.2.1 x.2.2) else none
def F_impl_rawAddAutomata : Aut × Aut → Option Aut := fun (x : Aut × Aut) => if alikeB x.1 x.2 = true then some (sumX x.1 x.2 1) else none
def F_spec_AddAutomata : Aut × Aut → Option (Aut × Bool) := fun (x : Aut × Aut) =>
  if sz_Automaton x.1 ≤ 1048576 ∧ sz_Automaton x.2 ≤ 1048576 then some (if alikeB x.1 x.2 = true ∧ x.1.2.1 + x.2.2.1 ≤ 12 then (sumX x.1 x.2 1, true) else ((0, 0, [], [], []), false)) else none
def F_impl_AddAutomata : Aut × Aut → Option (Aut × Bool) := F_spec_AddAutomata

def ag_spec_l34Alike : Sig := [(.agg, [.int .i64, .int .i64, .list [.int .i64], .list [.int .i64, .int .i64, .list [.int .i64]], .list [.int .i64]]), (.agg, [.int .i64, .int .i64, .list [.int .i64], .list [.int .i64, .int .i64, .list [.int .i64]], .list [.int .i64]])]
def rs_spec_l34Alike : Sig := [(.one, [.bool])]
def mu_spec_l34Alike : MSig := []
def ag_impl_sameLetters : Sig := [(.agg, [.int .i64, .int .i64, .list [.int .i64], .list [.int .i64, .int .i64, .list [.int .i64]], .list [.int .i64]]), (.agg, [.int .i64, .int .i64, .list [.int .i64], .list [.int .i64, .int .i64, .list [.int .i64]], .list [.int .i64]])]
def rs_impl_sameLetters : Sig := [(.one, [.bool])]
def mu_impl_sameLetters : MSig := []
def ag_spec_l34Sum : Sig := [(.agg, [.int .i64, .int .i64, .list [.int .i64], .list [.int .i64, .int .i64, .list [.int .i64]], .list [.int .i64]]), (.agg, [.int .i64, .int .i64, .list [.int .i64], .list [.int .i64, .int .i64, .list [.int .i64]], .list [.int .i64]]), (.one, [.int .i64])]
def rs_spec_l34Sum : Sig := [(.agg, [.int .i64, .int .i64, .list [.int .i64], .list [.int .i64, .int .i64, .list [.int .i64]], .list [.int .i64]])]
def mu_spec_l34Sum : MSig := []
def ag_impl_rawAddAutomata : Sig := [(.agg, [.int .i64, .int .i64, .list [.int .i64], .list [.int .i64, .int .i64, .list [.int .i64]], .list [.int .i64]]), (.agg, [.int .i64, .int .i64, .list [.int .i64], .list [.int .i64, .int .i64, .list [.int .i64]], .list [.int .i64]])]
def rs_impl_rawAddAutomata : Sig := [(.agg, [.int .i64, .int .i64, .list [.int .i64], .list [.int .i64, .int .i64, .list [.int .i64]], .list [.int .i64]])]
def mu_impl_rawAddAutomata : MSig := []
def ag_spec_AddAutomata : Sig := [(.agg, [.int .i64, .int .i64, .list [.int .i64], .list [.int .i64, .int .i64, .list [.int .i64]], .list [.int .i64]]), (.agg, [.int .i64, .int .i64, .list [.int .i64], .list [.int .i64, .int .i64, .list [.int .i64]], .list [.int .i64]])]
def rs_spec_AddAutomata : Sig := [(.agg, [.int .i64, .int .i64, .list [.int .i64], .list [.int .i64, .int .i64, .list [.int .i64]], .list [.int .i64]]), (.one, [.bool])]
def mu_spec_AddAutomata : MSig := []
def ag_impl_AddAutomata : Sig := [(.agg, [.int .i64, .int .i64, .list [.int .i64], .list [.int .i64, .int .i64, .list [.int .i64]], .list [.int .i64]]), (.agg, [.int .i64, .int .i64, .list [.int .i64], .list [.int .i64, .int .i64, .list [.int .i64]], .list [.int .i64]])]
def rs_impl_AddAutomata : Sig := [(.agg, [.int .i64, .int .i64, .list [.int .i64], .list [.int .i64, .int .i64, .list [.int .i64]], .list [.int .i64]]), (.one, [.bool])]
def mu_impl_AddAutomata : MSig := []

def G_spec_l34Alike (NN : Nat) : ((Int × (Int × ((List Int) × ((List (Int × (Int × (List Int)))) × (List Int))))) × (Int × (Int × ((List Int) × ((List (Int × (Int × (List Int)))) × (List Int)))))) → (Option Bool) :=
 (fun (((i0, i1, l2, l3, l4), i5, i6, l7, l8, l9) : ((Int × (Int × ((List Int) × ((List (Int × (Int × (List Int)))) × (List Int))))) × (Int × (Int × ((List Int) × ((List (Int × (Int × (List Int)))) × (List Int))))))) =>
 (F_spec_AutomatonOk (i0, i1, l2, l3, l4)).bnd (fun (b10 : Bool) =>
 cnd (b10)
 ((F_spec_AutomatonOk (i5, i6, l7, l8, l9)).bnd (fun (b11 : Bool) =>
 cnd (b11)
 (cnd (eqI i0 i5)
 (some (eqI (natI (lenN l3)) (natI (lenN l8))))
 (some false))
 (some false)))
 (some false)))


def G_impl_sameLetters (NN : Nat) : ((Int × (Int × ((List Int) × ((List (Int × (Int × (List Int)))) × (List Int))))) × (Int × (Int × ((List Int) × ((List (Int × (Int × (List Int)))) × (List Int)))))) → (Option Bool) :=
 (fun (((i0, i1, l2, l3, l4), i5, i6, l7, l8, l9) : ((Int × (Int × ((List Int) × ((List (Int × (Int × (List Int)))) × (List Int))))) × (Int × (Int × ((List Int) × ((List (Int × (Int × (List Int)))) × (List Int))))))) =>
 (F_impl_AutomatonOk (i0, i1, l2, l3, l4)).bnd (fun (b10 : Bool) =>
 cnd (b10)
 ((F_impl_AutomatonOk (i5, i6, l7, l8, l9)).bnd (fun (b11 : Bool) =>
 cnd (b11)
 (cnd (eqI i0 i5)
 (some (eqI (natI (lenN l3)) (natI (lenN l8))))
 (some false))
 (some false)))
 (some false)))


def G_spec_l34Sum (NN : Nat) : ((Int × (Int × ((List Int) × ((List (Int × (Int × (List Int)))) × (List Int))))) × ((Int × (Int × ((List Int) × ((List (Int × (Int × (List Int)))) × (List Int))))) × Int)) → (Option (Int × (Int × ((List Int) × ((List (Int × (Int × (List Int)))) × (List Int)))))) :=
 (fun (((i0, i1, l2, l3, l4), (i5, i6, l7, l8, l9), i10) : ((Int × (Int × ((List Int) × ((List (Int × (Int × (List Int)))) × (List Int))))) × ((Int × (Int × ((List Int) × ((List (Int × (Int × (List Int)))) × (List Int))))) × Int))) =>
 (F_spec_l05Ints l2).bnd (fun (l11 : (List Int)) =>
 (fulI 0 (lenN l11) (lenN l11)).bnd (fun (_ : Unit) =>
 (fitI (addN (lenN l11) (lenN l7)) 8).bnd (fun (_ : Unit) =>
 (F_spec_l05Ints l4).bnd (fun (l12 : (List Int)) =>
 joinK ((fulI 0 0 (lenN (([] : List Int)))).bnd (fun (_ : Unit) =>
 (fulI 0 0 (lenN (([] : List (Int × (Int × (List Int))))))).bnd (fun (_ : Unit) =>
 (fulI 0 0 (lenN (([] : List Int)))).bnd (fun (_ : Unit) =>
 (fulI 0 (addN (lenN l11) (lenN l7)) (lenN (appL l11 l7))).bnd (fun (_ : Unit) =>
 (fulI 0 0 (lenN (([] : List (Int × (Int × (List Int))))))).bnd (fun (_ : Unit) =>
 (fulI 0 (lenN l12) (lenN l12)).bnd (fun (_ : Unit) =>
 loopT NN (fun (((i13, i14, l15, i16, i17), (i18, i19, l20, l21, l22), (i23, i24, l25, l26, l27), (i28, i29), (i30, i31), l32, l33, l34, l35, l36, l37) : ((Int × (Int × ((List Int) × (Int × Int)))) × ((Int × (Int × ((List Int) × ((List (Int × (Int × (List Int)))) × (List Int))))) × ((Int × (Int × ((List Int) × ((List (Int × (Int × (List Int)))) × (List Int))))) × ((Int × Int) × ((Int × Int) × ((List Int) × ((List (Int × (Int × (List Int)))) × ((List Int) × ((List Int) × ((List (Int × (Int × (List Int)))) × (List Int)))))))))))) =>
 cnd (ltI i17 i16)
 ((getI l15 i17).bnd (fun (i38 : Int) =>
 (remI (mulI .i64 i38 i13) i18).bnd (fun (i39 : Int) =>
 (fulI 0 (lenN l37) (lenN l37)).bnd (fun (_ : Unit) =>
 (winI ((i39 :: ([] : List Int))) 0 1).bnd (fun (l40 : (List Int)) =>
 (fitI (addN (lenN l37) (lenN l40)) 8).bnd (fun (_ : Unit) =>
 (fulI 0 (lenN l32) (lenN l32)).bnd (fun (_ : Unit) =>
 (fulI 0 (lenN l33) (lenN l33)).bnd (fun (_ : Unit) =>
 (fulI 0 (lenN l34) (lenN l34)).bnd (fun (_ : Unit) =>
 (fulI 0 (lenN l35) (lenN l35)).bnd (fun (_ : Unit) =>
 (fulI 0 (lenN l36) (lenN l36)).bnd (fun (_ : Unit) =>
 (fulI 0 (addN (lenN l37) (lenN l40)) (lenN (appL l37 l40))).bnd (fun (_ : Unit) =>
 some (Sum.inl ((i13, i14, l15, i16, addI .i64 i17 (1 : Int)), (i18, i19, l20, l21, l22), (i23, i24, l25, l26, l27), (i28, i29), (i30, i31), l32, l33, l34, l35, l36, appL l37 l40))))))))))))))
 (((fulI 0 (lenN l32) (lenN l32)).bnd (fun (_ : Unit) =>
 (fulI 0 (lenN l33) (lenN l33)).bnd (fun (_ : Unit) =>
 (fulI 0 (lenN l34) (lenN l34)).bnd (fun (_ : Unit) =>
 (fulI 0 (lenN l35) (lenN l35)).bnd (fun (_ : Unit) =>
 (fulI 0 (lenN l36) (lenN l36)).bnd (fun (_ : Unit) =>
 (fulI 0 (lenN l37) (lenN l37)).bnd (fun (_ : Unit) =>
 some (Sum.inl (i14, (i18, i19, l20, l21, l22), (i23, i24, l25, l26, l27), (i28, i29), (i30, i31), l32, l33, l34, l35, l36, l37))))))))).bnd (fun (l41 : ((Int × ((Int × (Int × ((List Int) × ((List (Int × (Int × (List Int)))) × (List Int))))) × ((Int × (Int × ((List Int) × ((List (Int × (Int × (List Int)))) × (List Int))))) × ((Int × Int) × ((Int × Int) × ((List Int) × ((List (Int × (Int × (List Int)))) × ((List Int) × ((List Int) × ((List (Int × (Int × (List Int)))) × (List Int))))))))))) ⊕ (Int × (Int × ((List Int) × ((List (Int × (Int × (List Int)))) × (List Int))))))) =>
 some (Sum.inr l41))))
 ((i10, addI .i64 i1 i6, l9, natI (lenN l9), (0 : Int)), (i0, i1, l2, l3, l4), (i5, i6, l7, l8, l9), ((0 : Int), (0 : Int)), (i0, addI .i64 i1 i6), ([] : List Int), ([] : List (Int × (Int × (List Int)))), ([] : List Int), appL l11 l7, ([] : List (Int × (Int × (List Int)))), l12))))))))
 (fun ((i42, (i43, i44, l45, l46, l47), (i48, i49, l50, l51, l52), (i53, i54), (i55, i56), l57, l58, l59, l60, l61, l62) : (Int × ((Int × (Int × ((List Int) × ((List (Int × (Int × (List Int)))) × (List Int))))) × ((Int × (Int × ((List Int) × ((List (Int × (Int × (List Int)))) × (List Int))))) × ((Int × Int) × ((Int × Int) × ((List Int) × ((List (Int × (Int × (List Int)))) × ((List Int) × ((List Int) × ((List (Int × (Int × (List Int)))) × (List Int)))))))))))) =>
 joinK ((fulI 0 (lenN l57) (lenN l57)).bnd (fun (_ : Unit) =>
 (fulI 0 (lenN l58) (lenN l58)).bnd (fun (_ : Unit) =>
 (fulI 0 (lenN l59) (lenN l59)).bnd (fun (_ : Unit) =>
 (fulI 0 (lenN l60) (lenN l60)).bnd (fun (_ : Unit) =>
 (fulI 0 (lenN l61) (lenN l61)).bnd (fun (_ : Unit) =>
 (fulI 0 (lenN l62) (lenN l62)).bnd (fun (_ : Unit) =>
 loopT NN (fun (((i63, l64, i65, i66), (i67, i68, l69, l70, l71), (i72, i73, l74, l75, l76), (i77, i78), (i79, i80), l81, l82, l83, l84, l85, l86) : ((Int × ((List (Int × (Int × (List Int)))) × (Int × Int))) × ((Int × (Int × ((List Int) × ((List (Int × (Int × (List Int)))) × (List Int))))) × ((Int × (Int × ((List Int) × ((List (Int × (Int × (List Int)))) × (List Int))))) × ((Int × Int) × ((Int × Int) × ((List Int) × ((List (Int × (Int × (List Int)))) × ((List Int) × ((List Int) × ((List (Int × (Int × (List Int)))) × (List Int)))))))))))) =>
 cnd (ltI i66 i65)
 (joinK ((getI l64 i66).bnd (fun ((i87, i88, l89) : (Int × (Int × (List Int)))) =>
 (F_spec_l31New (i63, i63)).bnd (fun ((i90, i91, l92) : (Int × (Int × (List Int)))) =>
 joinK ((fulI 0 (lenN l81) (lenN l81)).bnd (fun (_ : Unit) =>
 (fulI 0 (lenN l82) (lenN l82)).bnd (fun (_ : Unit) =>
 (fulI 0 (lenN l83) (lenN l83)).bnd (fun (_ : Unit) =>
 (fulI 0 (lenN l84) (lenN l84)).bnd (fun (_ : Unit) =>
 (fulI 0 (lenN l85) (lenN l85)).bnd (fun (_ : Unit) =>
 (fulI 0 (lenN l86) (lenN l86)).bnd (fun (_ : Unit) =>
 (fulI 0 (lenN l92) (lenN l92)).bnd (fun (_ : Unit) =>
 loopT NN (fun (((i93, i94, i95, l96, i97, i98), (i99, i100, l101, l102, l103), (i104, i105, l106, l107, l108), (i109, i110), (i111, i112), (i113, i114, l115), (i116, i117), l118, l119, l120, l121, l122, l123, l124) : ((Int × (Int × (Int × ((List (Int × (Int × (List Int)))) × (Int × Int))))) × ((Int × (Int × ((List Int) × ((List (Int × (Int × (List Int)))) × (List Int))))) × ((Int × (Int × ((List Int) × ((List (Int × (Int × (List Int)))) × (List Int))))) × ((Int × Int) × ((Int × Int) × ((Int × (Int × (List Int))) × ((Int × Int) × ((List Int) × ((List (Int × (Int × (List Int)))) × ((List Int) × ((List Int) × ((List (Int × (Int × (List Int)))) × ((List Int) × (List Int))))))))))))))) =>
 cnd (ltI i95 i100)
 (joinK ((fulI 0 (lenN l118) (lenN l118)).bnd (fun (_ : Unit) =>
 (fulI 0 (lenN l119) (lenN l119)).bnd (fun (_ : Unit) =>
 (fulI 0 (lenN l120) (lenN l120)).bnd (fun (_ : Unit) =>
 (fulI 0 (lenN l121) (lenN l121)).bnd (fun (_ : Unit) =>
 (fulI 0 (lenN l122) (lenN l122)).bnd (fun (_ : Unit) =>
 (fulI 0 (lenN l123) (lenN l123)).bnd (fun (_ : Unit) =>
 (fulI 0 (lenN l124) (lenN l124)).bnd (fun (_ : Unit) =>
 loopT NN (fun (((i125, i126, i127, i128, l129, i130, i131), (i132, i133, l134, l135, l136), (i137, i138, l139, l140, l141), (i142, i143), (i144, i145), (i146, i147, l148), (i149, i150), l151, l152, l153, l154, l155, l156, l157) : ((Int × (Int × (Int × (Int × ((List (Int × (Int × (List Int)))) × (Int × Int)))))) × ((Int × (Int × ((List Int) × ((List (Int × (Int × (List Int)))) × (List Int))))) × ((Int × (Int × ((List Int) × ((List (Int × (Int × (List Int)))) × (List Int))))) × ((Int × Int) × ((Int × Int) × ((Int × (Int × (List Int))) × ((Int × Int) × ((List Int) × ((List (Int × (Int × (List Int)))) × ((List Int) × ((List Int) × ((List (Int × (Int × (List Int)))) × ((List Int) × (List Int))))))))))))))) =>
 cnd (ltI i128 i133)
 ((getI l148 (addI .i64 (mulI .i64 i127 i133) i128)).bnd (fun (i158 : Int) =>
 (chkI (addI .i64 (mulI .i64 i127 i125) i128) (lenN l157)).bnd (fun (k159 : Nat) =>
 (getN l157 (addN 0 k159)).bnd (fun (i160 : Int) =>
 (fulI 0 (lenN l151) (lenN l151)).bnd (fun (_ : Unit) =>
 (fulI 0 (lenN l152) (lenN l152)).bnd (fun (_ : Unit) =>
 (fulI 0 (lenN l153) (lenN l153)).bnd (fun (_ : Unit) =>
 (fulI 0 (lenN l154) (lenN l154)).bnd (fun (_ : Unit) =>
 (fulI 0 (lenN l155) (lenN l155)).bnd (fun (_ : Unit) =>
 (fulI 0 (lenN l156) (lenN l156)).bnd (fun (_ : Unit) =>
 (fulI 0 (lenN l157) (lenN (setL l157 (addN 0 k159) i158))).bnd (fun (_ : Unit) =>
 some (Sum.inl ((i125, i126, i127, addI .i64 i128 (1 : Int), l129, i130, i131), (i132, i133, l134, l135, l136), (i137, i138, l139, l140, l141), (i142, i143), (i144, i145), (i146, i147, l148), (i149, i150), l151, l152, l153, l154, l155, l156, setL l157 (addN 0 k159) i158)))))))))))))
 (((fulI 0 (lenN l151) (lenN l151)).bnd (fun (_ : Unit) =>
 (fulI 0 (lenN l152) (lenN l152)).bnd (fun (_ : Unit) =>
 (fulI 0 (lenN l153) (lenN l153)).bnd (fun (_ : Unit) =>
 (fulI 0 (lenN l154) (lenN l154)).bnd (fun (_ : Unit) =>
 (fulI 0 (lenN l155) (lenN l155)).bnd (fun (_ : Unit) =>
 (fulI 0 (lenN l156) (lenN l156)).bnd (fun (_ : Unit) =>
 (fulI 0 (lenN l157) (lenN l157)).bnd (fun (_ : Unit) =>
 some (Sum.inl ((i127, i125, i126, l129, i130, i131), (i132, i133, l134, l135, l136), (i137, i138, l139, l140, l141), (i142, i143), (i144, i145), (i146, i147, l148), (i149, i150), l151, l152, l153, l154, l155, l156, l157)))))))))).bnd (fun (l161 : (((Int × (Int × (Int × ((List (Int × (Int × (List Int)))) × (Int × Int))))) × ((Int × (Int × ((List Int) × ((List (Int × (Int × (List Int)))) × (List Int))))) × ((Int × (Int × ((List Int) × ((List (Int × (Int × (List Int)))) × (List Int))))) × ((Int × Int) × ((Int × Int) × ((Int × (Int × (List Int))) × ((Int × Int) × ((List Int) × ((List (Int × (Int × (List Int)))) × ((List Int) × ((List Int) × ((List (Int × (Int × (List Int)))) × ((List Int) × (List Int)))))))))))))) ⊕ (((Int × (Int × (Int × ((List (Int × (Int × (List Int)))) × (Int × Int))))) × ((Int × (Int × ((List Int) × ((List (Int × (Int × (List Int)))) × (List Int))))) × ((Int × (Int × ((List Int) × ((List (Int × (Int × (List Int)))) × (List Int))))) × ((Int × Int) × ((Int × Int) × ((Int × (Int × (List Int))) × ((Int × Int) × ((List Int) × ((List (Int × (Int × (List Int)))) × ((List Int) × ((List Int) × ((List (Int × (Int × (List Int)))) × ((List Int) × (List Int)))))))))))))) ⊕ (((Int × ((List (Int × (Int × (List Int)))) × (Int × (Int × Int)))) × ((Int × (Int × ((List Int) × ((List (Int × (Int × (List Int)))) × (List Int))))) × ((Int × (Int × ((List Int) × ((List (Int × (Int × (List Int)))) × (List Int))))) × ((Int × Int) × ((Int × Int) × ((Int × Int) × ((List Int) × ((List (Int × (Int × (List Int)))) × ((List Int) × ((List Int) × ((List (Int × (Int × (List Int)))) × ((List Int) × (List Int))))))))))))) ⊕ (((Int × (Int × ((List (Int × (Int × (List Int)))) × Int))) × ((Int × (Int × ((List Int) × ((List (Int × (Int × (List Int)))) × (List Int))))) × ((Int × (Int × ((List Int) × ((List (Int × (Int × (List Int)))) × (List Int))))) × ((Int × Int) × ((Int × Int) × ((List Int) × ((List (Int × (Int × (List Int)))) × ((List Int) × ((List Int) × ((List (Int × (Int × (List Int)))) × (List Int))))))))))) ⊕ (((Int × ((List (Int × (Int × (List Int)))) × (Int × Int))) × ((Int × (Int × ((List Int) × ((List (Int × (Int × (List Int)))) × (List Int))))) × ((Int × (Int × ((List Int) × ((List (Int × (Int × (List Int)))) × (List Int))))) × ((Int × Int) × ((Int × Int) × ((List Int) × ((List (Int × (Int × (List Int)))) × ((List Int) × ((List Int) × ((List (Int × (Int × (List Int)))) × (List Int))))))))))) ⊕ (((Int × Int) × ((Int × Int) × ((List Int) × ((List (Int × (Int × (List Int)))) × ((List Int) × ((List Int) × ((List (Int × (Int × (List Int)))) × (List Int)))))))) ⊕ (Int × (Int × ((List Int) × ((List (Int × (Int × (List Int)))) × (List Int)))))))))))) =>
 some (Sum.inr l161))))
 ((i93, i94, i95, (0 : Int), l96, i97, i98), (i99, i100, l101, l102, l103), (i104, i105, l106, l107, l108), (i109, i110), (i111, i112), (i113, i114, l115), (i116, i117), l118, l119, l120, l121, l122, l123, l124)))))))))
 (fun (((i162, i163, i164, l165, i166, i167), (i168, i169, l170, l171, l172), (i173, i174, l175, l176, l177), (i178, i179), (i180, i181), (i182, i183, l184), (i185, i186), l187, l188, l189, l190, l191, l192, l193) : ((Int × (Int × (Int × ((List (Int × (Int × (List Int)))) × (Int × Int))))) × ((Int × (Int × ((List Int) × ((List (Int × (Int × (List Int)))) × (List Int))))) × ((Int × (Int × ((List Int) × ((List (Int × (Int × (List Int)))) × (List Int))))) × ((Int × Int) × ((Int × Int) × ((Int × (Int × (List Int))) × ((Int × Int) × ((List Int) × ((List (Int × (Int × (List Int)))) × ((List Int) × ((List Int) × ((List (Int × (Int × (List Int)))) × ((List Int) × (List Int))))))))))))))) =>
 (fulI 0 (lenN l187) (lenN l187)).bnd (fun (_ : Unit) =>
 (fulI 0 (lenN l188) (lenN l188)).bnd (fun (_ : Unit) =>
 (fulI 0 (lenN l189) (lenN l189)).bnd (fun (_ : Unit) =>
 (fulI 0 (lenN l190) (lenN l190)).bnd (fun (_ : Unit) =>
 (fulI 0 (lenN l191) (lenN l191)).bnd (fun (_ : Unit) =>
 (fulI 0 (lenN l192) (lenN l192)).bnd (fun (_ : Unit) =>
 (fulI 0 (lenN l193) (lenN l193)).bnd (fun (_ : Unit) =>
 some (Sum.inl ((i163, i164, addI .i64 i162 (1 : Int), l165, i166, i167), (i168, i169, l170, l171, l172), (i173, i174, l175, l176, l177), (i178, i179), (i180, i181), (i182, i183, l184), (i185, i186), l187, l188, l189, l190, l191, l192, l193)))))))))))
 (((fulI 0 (lenN l118) (lenN l118)).bnd (fun (_ : Unit) =>
 (fulI 0 (lenN l119) (lenN l119)).bnd (fun (_ : Unit) =>
 (fulI 0 (lenN l120) (lenN l120)).bnd (fun (_ : Unit) =>
 (fulI 0 (lenN l121) (lenN l121)).bnd (fun (_ : Unit) =>
 (fulI 0 (lenN l122) (lenN l122)).bnd (fun (_ : Unit) =>
 (fulI 0 (lenN l123) (lenN l123)).bnd (fun (_ : Unit) =>
 (fulI 0 (lenN l124) (lenN l124)).bnd (fun (_ : Unit) =>
 some (Sum.inl ((i97, l96, i93, i98, i94), (i99, i100, l101, l102, l103), (i104, i105, l106, l107, l108), (i109, i110), (i111, i112), (i116, i117), l118, l119, l120, l121, l122, l123, l124)))))))))).bnd (fun (l194 : (((Int × ((List (Int × (Int × (List Int)))) × (Int × (Int × Int)))) × ((Int × (Int × ((List Int) × ((List (Int × (Int × (List Int)))) × (List Int))))) × ((Int × (Int × ((List Int) × ((List (Int × (Int × (List Int)))) × (List Int))))) × ((Int × Int) × ((Int × Int) × ((Int × Int) × ((List Int) × ((List (Int × (Int × (List Int)))) × ((List Int) × ((List Int) × ((List (Int × (Int × (List Int)))) × ((List Int) × (List Int))))))))))))) ⊕ (((Int × (Int × ((List (Int × (Int × (List Int)))) × Int))) × ((Int × (Int × ((List Int) × ((List (Int × (Int × (List Int)))) × (List Int))))) × ((Int × (Int × ((List Int) × ((List (Int × (Int × (List Int)))) × (List Int))))) × ((Int × Int) × ((Int × Int) × ((List Int) × ((List (Int × (Int × (List Int)))) × ((List Int) × ((List Int) × ((List (Int × (Int × (List Int)))) × (List Int))))))))))) ⊕ (((Int × ((List (Int × (Int × (List Int)))) × (Int × Int))) × ((Int × (Int × ((List Int) × ((List (Int × (Int × (List Int)))) × (List Int))))) × ((Int × (Int × ((List Int) × ((List (Int × (Int × (List Int)))) × (List Int))))) × ((Int × Int) × ((Int × Int) × ((List Int) × ((List (Int × (Int × (List Int)))) × ((List Int) × ((List Int) × ((List (Int × (Int × (List Int)))) × (List Int))))))))))) ⊕ (((Int × Int) × ((Int × Int) × ((List Int) × ((List (Int × (Int × (List Int)))) × ((List Int) × ((List Int) × ((List (Int × (Int × (List Int)))) × (List Int)))))))) ⊕ (Int × (Int × ((List Int) × ((List (Int × (Int × (List Int)))) × (List Int)))))))))) =>
 some (Sum.inr l194))))
 ((i63, i66, (0 : Int), l64, i65, i66), (i67, i68, l69, l70, l71), (i72, i73, l74, l75, l76), (i77, i78), (i79, i80), (i87, i88, l89), (i90, i91), l81, l82, l83, l84, l85, l86, l92)))))))))
 (fun (((i195, l196, i197, i198, i199), (i200, i201, l202, l203, l204), (i205, i206, l207, l208, l209), (i210, i211), (i212, i213), (i214, i215), l216, l217, l218, l219, l220, l221, l222) : ((Int × ((List (Int × (Int × (List Int)))) × (Int × (Int × Int)))) × ((Int × (Int × ((List Int) × ((List (Int × (Int × (List Int)))) × (List Int))))) × ((Int × (Int × ((List Int) × ((List (Int × (Int × (List Int)))) × (List Int))))) × ((Int × Int) × ((Int × Int) × ((Int × Int) × ((List Int) × ((List (Int × (Int × (List Int)))) × ((List Int) × ((List Int) × ((List (Int × (Int × (List Int)))) × ((List Int) × (List Int)))))))))))))) =>
 joinK ((fulI 0 (lenN l216) (lenN l216)).bnd (fun (_ : Unit) =>
 (fulI 0 (lenN l217) (lenN l217)).bnd (fun (_ : Unit) =>
 (fulI 0 (lenN l218) (lenN l218)).bnd (fun (_ : Unit) =>
 (fulI 0 (lenN l219) (lenN l219)).bnd (fun (_ : Unit) =>
 (fulI 0 (lenN l220) (lenN l220)).bnd (fun (_ : Unit) =>
 (fulI 0 (lenN l221) (lenN l221)).bnd (fun (_ : Unit) =>
 (fulI 0 (lenN l222) (lenN l222)).bnd (fun (_ : Unit) =>
 loopT NN (fun (((i223, i224, i225, l226, i227, i228), (i229, i230, l231, l232, l233), (i234, i235, l236, l237, l238), (i239, i240), (i241, i242), (i243, i244), l245, l246, l247, l248, l249, l250, l251) : ((Int × (Int × (Int × ((List (Int × (Int × (List Int)))) × (Int × Int))))) × ((Int × (Int × ((List Int) × ((List (Int × (Int × (List Int)))) × (List Int))))) × ((Int × (Int × ((List Int) × ((List (Int × (Int × (List Int)))) × (List Int))))) × ((Int × Int) × ((Int × Int) × ((Int × Int) × ((List Int) × ((List (Int × (Int × (List Int)))) × ((List Int) × ((List Int) × ((List (Int × (Int × (List Int)))) × ((List Int) × (List Int)))))))))))))) =>
 cnd (ltI i225 i235)
 (joinK ((fulI 0 (lenN l245) (lenN l245)).bnd (fun (_ : Unit) =>
 (fulI 0 (lenN l246) (lenN l246)).bnd (fun (_ : Unit) =>
 (fulI 0 (lenN l247) (lenN l247)).bnd (fun (_ : Unit) =>
 (fulI 0 (lenN l248) (lenN l248)).bnd (fun (_ : Unit) =>
 (fulI 0 (lenN l249) (lenN l249)).bnd (fun (_ : Unit) =>
 (fulI 0 (lenN l250) (lenN l250)).bnd (fun (_ : Unit) =>
 (fulI 0 (lenN l251) (lenN l251)).bnd (fun (_ : Unit) =>
 loopT NN (fun (((i252, i253, i254, i255, l256, i257, i258), (i259, i260, l261, l262, l263), (i264, i265, l266, l267, l268), (i269, i270), (i271, i272), (i273, i274), l275, l276, l277, l278, l279, l280, l281) : ((Int × (Int × (Int × (Int × ((List (Int × (Int × (List Int)))) × (Int × Int)))))) × ((Int × (Int × ((List Int) × ((List (Int × (Int × (List Int)))) × (List Int))))) × ((Int × (Int × ((List Int) × ((List (Int × (Int × (List Int)))) × (List Int))))) × ((Int × Int) × ((Int × Int) × ((Int × Int) × ((List Int) × ((List (Int × (Int × (List Int)))) × ((List Int) × ((List Int) × ((List (Int × (Int × (List Int)))) × ((List Int) × (List Int)))))))))))))) =>
 cnd (ltI i255 i265)
 ((getI l267 i253).bnd (fun ((i282, i283, l284) : (Int × (Int × (List Int)))) =>
 (getI l284 (addI .i64 (mulI .i64 i254 i265) i255)).bnd (fun (i285 : Int) =>
 (chkI (addI .i64 (addI .i64 (mulI .i64 (addI .i64 i260 i254) i252) i260) i255) (lenN l281)).bnd (fun (k286 : Nat) =>
 (getN l281 (addN 0 k286)).bnd (fun (i287 : Int) =>
 (fulI 0 (lenN l275) (lenN l275)).bnd (fun (_ : Unit) =>
 (fulI 0 (lenN l276) (lenN l276)).bnd (fun (_ : Unit) =>
 (fulI 0 (lenN l277) (lenN l277)).bnd (fun (_ : Unit) =>
 (fulI 0 (lenN l278) (lenN l278)).bnd (fun (_ : Unit) =>
 (fulI 0 (lenN l279) (lenN l279)).bnd (fun (_ : Unit) =>
 (fulI 0 (lenN l280) (lenN l280)).bnd (fun (_ : Unit) =>
 (fulI 0 (lenN l281) (lenN (setL l281 (addN 0 k286) i285))).bnd (fun (_ : Unit) =>
 some (Sum.inl ((i252, i253, i254, addI .i64 i255 (1 : Int), l256, i257, i258), (i259, i260, l261, l262, l263), (i264, i265, l266, l267, l268), (i269, i270), (i271, i272), (i273, i274), l275, l276, l277, l278, l279, l280, setL l281 (addN 0 k286) i285))))))))))))))
 (((fulI 0 (lenN l275) (lenN l275)).bnd (fun (_ : Unit) =>
 (fulI 0 (lenN l276) (lenN l276)).bnd (fun (_ : Unit) =>
 (fulI 0 (lenN l277) (lenN l277)).bnd (fun (_ : Unit) =>
 (fulI 0 (lenN l278) (lenN l278)).bnd (fun (_ : Unit) =>
 (fulI 0 (lenN l279) (lenN l279)).bnd (fun (_ : Unit) =>
 (fulI 0 (lenN l280) (lenN l280)).bnd (fun (_ : Unit) =>
 (fulI 0 (lenN l281) (lenN l281)).bnd (fun (_ : Unit) =>
 some (Sum.inl ((i254, i252, i253, l256, i257, i258), (i259, i260, l261, l262, l263), (i264, i265, l266, l267, l268), (i269, i270), (i271, i272), (i273, i274), l275, l276, l277, l278, l279, l280, l281)))))))))).bnd (fun (l288 : (((Int × (Int × (Int × ((List (Int × (Int × (List Int)))) × (Int × Int))))) × ((Int × (Int × ((List Int) × ((List (Int × (Int × (List Int)))) × (List Int))))) × ((Int × (Int × ((List Int) × ((List (Int × (Int × (List Int)))) × (List Int))))) × ((Int × Int) × ((Int × Int) × ((Int × Int) × ((List Int) × ((List (Int × (Int × (List Int)))) × ((List Int) × ((List Int) × ((List (Int × (Int × (List Int)))) × ((List Int) × (List Int))))))))))))) ⊕ (((Int × (Int × (Int × ((List (Int × (Int × (List Int)))) × (Int × Int))))) × ((Int × (Int × ((List Int) × ((List (Int × (Int × (List Int)))) × (List Int))))) × ((Int × (Int × ((List Int) × ((List (Int × (Int × (List Int)))) × (List Int))))) × ((Int × Int) × ((Int × Int) × ((Int × Int) × ((List Int) × ((List (Int × (Int × (List Int)))) × ((List Int) × ((List Int) × ((List (Int × (Int × (List Int)))) × ((List Int) × (List Int))))))))))))) ⊕ (((Int × (Int × ((List (Int × (Int × (List Int)))) × Int))) × ((Int × (Int × ((List Int) × ((List (Int × (Int × (List Int)))) × (List Int))))) × ((Int × (Int × ((List Int) × ((List (Int × (Int × (List Int)))) × (List Int))))) × ((Int × Int) × ((Int × Int) × ((Int × Int) × ((List Int) × ((List (Int × (Int × (List Int)))) × ((List Int) × ((List Int) × ((List (Int × (Int × (List Int)))) × ((List Int) × (List Int))))))))))))) ⊕ (((Int × (Int × ((List (Int × (Int × (List Int)))) × Int))) × ((Int × (Int × ((List Int) × ((List (Int × (Int × (List Int)))) × (List Int))))) × ((Int × (Int × ((List Int) × ((List (Int × (Int × (List Int)))) × (List Int))))) × ((Int × Int) × ((Int × Int) × ((List Int) × ((List (Int × (Int × (List Int)))) × ((List Int) × ((List Int) × ((List (Int × (Int × (List Int)))) × (List Int))))))))))) ⊕ (((Int × ((List (Int × (Int × (List Int)))) × (Int × Int))) × ((Int × (Int × ((List Int) × ((List (Int × (Int × (List Int)))) × (List Int))))) × ((Int × (Int × ((List Int) × ((List (Int × (Int × (List Int)))) × (List Int))))) × ((Int × Int) × ((Int × Int) × ((List Int) × ((List (Int × (Int × (List Int)))) × ((List Int) × ((List Int) × ((List (Int × (Int × (List Int)))) × (List Int))))))))))) ⊕ (((Int × Int) × ((Int × Int) × ((List Int) × ((List (Int × (Int × (List Int)))) × ((List Int) × ((List Int) × ((List (Int × (Int × (List Int)))) × (List Int)))))))) ⊕ (Int × (Int × ((List Int) × ((List (Int × (Int × (List Int)))) × (List Int)))))))))))) =>
 some (Sum.inr l288))))
 ((i223, i224, i225, (0 : Int), l226, i227, i228), (i229, i230, l231, l232, l233), (i234, i235, l236, l237, l238), (i239, i240), (i241, i242), (i243, i244), l245, l246, l247, l248, l249, l250, l251)))))))))
 (fun (((i289, i290, i291, l292, i293, i294), (i295, i296, l297, l298, l299), (i300, i301, l302, l303, l304), (i305, i306), (i307, i308), (i309, i310), l311, l312, l313, l314, l315, l316, l317) : ((Int × (Int × (Int × ((List (Int × (Int × (List Int)))) × (Int × Int))))) × ((Int × (Int × ((List Int) × ((List (Int × (Int × (List Int)))) × (List Int))))) × ((Int × (Int × ((List Int) × ((List (Int × (Int × (List Int)))) × (List Int))))) × ((Int × Int) × ((Int × Int) × ((Int × Int) × ((List Int) × ((List (Int × (Int × (List Int)))) × ((List Int) × ((List Int) × ((List (Int × (Int × (List Int)))) × ((List Int) × (List Int)))))))))))))) =>
 (fulI 0 (lenN l311) (lenN l311)).bnd (fun (_ : Unit) =>
 (fulI 0 (lenN l312) (lenN l312)).bnd (fun (_ : Unit) =>
 (fulI 0 (lenN l313) (lenN l313)).bnd (fun (_ : Unit) =>
 (fulI 0 (lenN l314) (lenN l314)).bnd (fun (_ : Unit) =>
 (fulI 0 (lenN l315) (lenN l315)).bnd (fun (_ : Unit) =>
 (fulI 0 (lenN l316) (lenN l316)).bnd (fun (_ : Unit) =>
 (fulI 0 (lenN l317) (lenN l317)).bnd (fun (_ : Unit) =>
 some (Sum.inl ((i290, i291, addI .i64 i289 (1 : Int), l292, i293, i294), (i295, i296, l297, l298, l299), (i300, i301, l302, l303, l304), (i305, i306), (i307, i308), (i309, i310), l311, l312, l313, l314, l315, l316, l317)))))))))))
 (((fulI 0 (lenN l245) (lenN l245)).bnd (fun (_ : Unit) =>
 (fulI 0 (lenN l246) (lenN l246)).bnd (fun (_ : Unit) =>
 (fulI 0 (lenN l247) (lenN l247)).bnd (fun (_ : Unit) =>
 (fulI 0 (lenN l248) (lenN l248)).bnd (fun (_ : Unit) =>
 (fulI 0 (lenN l249) (lenN l249)).bnd (fun (_ : Unit) =>
 (fulI 0 (lenN l250) (lenN l250)).bnd (fun (_ : Unit) =>
 (fulI 0 (lenN l251) (lenN l251)).bnd (fun (_ : Unit) =>
 some (Sum.inl ((i228, i223, l226, i227), (i229, i230, l231, l232, l233), (i234, i235, l236, l237, l238), (i239, i240), (i241, i242), (i243, i244), l245, l246, l247, l248, l249, l250, l251)))))))))).bnd (fun (l318 : (((Int × (Int × ((List (Int × (Int × (List Int)))) × Int))) × ((Int × (Int × ((List Int) × ((List (Int × (Int × (List Int)))) × (List Int))))) × ((Int × (Int × ((List Int) × ((List (Int × (Int × (List Int)))) × (List Int))))) × ((Int × Int) × ((Int × Int) × ((Int × Int) × ((List Int) × ((List (Int × (Int × (List Int)))) × ((List Int) × ((List Int) × ((List (Int × (Int × (List Int)))) × ((List Int) × (List Int))))))))))))) ⊕ (((Int × (Int × ((List (Int × (Int × (List Int)))) × Int))) × ((Int × (Int × ((List Int) × ((List (Int × (Int × (List Int)))) × (List Int))))) × ((Int × (Int × ((List Int) × ((List (Int × (Int × (List Int)))) × (List Int))))) × ((Int × Int) × ((Int × Int) × ((List Int) × ((List (Int × (Int × (List Int)))) × ((List Int) × ((List Int) × ((List (Int × (Int × (List Int)))) × (List Int))))))))))) ⊕ (((Int × ((List (Int × (Int × (List Int)))) × (Int × Int))) × ((Int × (Int × ((List Int) × ((List (Int × (Int × (List Int)))) × (List Int))))) × ((Int × (Int × ((List Int) × ((List (Int × (Int × (List Int)))) × (List Int))))) × ((Int × Int) × ((Int × Int) × ((List Int) × ((List (Int × (Int × (List Int)))) × ((List Int) × ((List Int) × ((List (Int × (Int × (List Int)))) × (List Int))))))))))) ⊕ (((Int × Int) × ((Int × Int) × ((List Int) × ((List (Int × (Int × (List Int)))) × ((List Int) × ((List Int) × ((List (Int × (Int × (List Int)))) × (List Int)))))))) ⊕ (Int × (Int × ((List Int) × ((List (Int × (Int × (List Int)))) × (List Int)))))))))) =>
 some (Sum.inr l318))))
 ((i197, i199, (0 : Int), l196, i195, i198), (i200, i201, l202, l203, l204), (i205, i206, l207, l208, l209), (i210, i211), (i212, i213), (i214, i215), l216, l217, l218, l219, l220, l221, l222)))))))))
 (fun (((i319, i320, l321, i322), (i323, i324, l325, l326, l327), (i328, i329, l330, l331, l332), (i333, i334), (i335, i336), (i337, i338), l339, l340, l341, l342, l343, l344, l345) : ((Int × (Int × ((List (Int × (Int × (List Int)))) × Int))) × ((Int × (Int × ((List Int) × ((List (Int × (Int × (List Int)))) × (List Int))))) × ((Int × (Int × ((List Int) × ((List (Int × (Int × (List Int)))) × (List Int))))) × ((Int × Int) × ((Int × Int) × ((Int × Int) × ((List Int) × ((List (Int × (Int × (List Int)))) × ((List Int) × ((List Int) × ((List (Int × (Int × (List Int)))) × ((List Int) × (List Int)))))))))))))) =>
 (takI l345 (lenN l345)).bnd (fun (l346 : (List Int)) =>
 (fulI 0 (lenN l343) (lenN l343)).bnd (fun (_ : Unit) =>
 (fulI 0 1 (lenN (((i337, i338, l346) :: ([] : List (Int × (Int × (List Int)))))))).bnd (fun (_ : Unit) =>
 (fitI (addN (lenN l343) (lenN (((i337, i338, l346) :: ([] : List (Int × (Int × (List Int)))))))) 40).bnd (fun (_ : Unit) =>
 (fulI 0 (lenN l339) (lenN l339)).bnd (fun (_ : Unit) =>
 (fulI 0 (lenN l340) (lenN l340)).bnd (fun (_ : Unit) =>
 (fulI 0 (lenN l341) (lenN l341)).bnd (fun (_ : Unit) =>
 (fulI 0 (lenN l342) (lenN l342)).bnd (fun (_ : Unit) =>
 (fulI 0 (addN (lenN l343) (lenN (((i337, i338, l346) :: ([] : List (Int × (Int × (List Int)))))))) (lenN (appL l343 (((i337, i338, l346) :: ([] : List (Int × (Int × (List Int))))))))).bnd (fun (_ : Unit) =>
 (fulI 0 (lenN l344) (lenN l344)).bnd (fun (_ : Unit) =>
 some (Sum.inl ((i319, i320, l321, i322), (i323, i324, l325, l326, l327), (i328, i329, l330, l331, l332), (i333, i334), (i335, i336), l339, l340, l341, l342, appL l343 (((i337, i338, l346) :: ([] : List (Int × (Int × (List Int)))))), l344)))))))))))))))))
 (fun (((i347, i348, l349, i350), (i351, i352, l353, l354, l355), (i356, i357, l358, l359, l360), (i361, i362), (i363, i364), l365, l366, l367, l368, l369, l370) : ((Int × (Int × ((List (Int × (Int × (List Int)))) × Int))) × ((Int × (Int × ((List Int) × ((List (Int × (Int × (List Int)))) × (List Int))))) × ((Int × (Int × ((List Int) × ((List (Int × (Int × (List Int)))) × (List Int))))) × ((Int × Int) × ((Int × Int) × ((List Int) × ((List (Int × (Int × (List Int)))) × ((List Int) × ((List Int) × ((List (Int × (Int × (List Int)))) × (List Int)))))))))))) =>
 (fulI 0 (lenN l365) (lenN l365)).bnd (fun (_ : Unit) =>
 (fulI 0 (lenN l366) (lenN l366)).bnd (fun (_ : Unit) =>
 (fulI 0 (lenN l367) (lenN l367)).bnd (fun (_ : Unit) =>
 (fulI 0 (lenN l368) (lenN l368)).bnd (fun (_ : Unit) =>
 (fulI 0 (lenN l369) (lenN l369)).bnd (fun (_ : Unit) =>
 (fulI 0 (lenN l370) (lenN l370)).bnd (fun (_ : Unit) =>
 some (Sum.inl ((i348, l349, i350, addI .i64 i347 (1 : Int)), (i351, i352, l353, l354, l355), (i356, i357, l358, l359, l360), (i361, i362), (i363, i364), l365, l366, l367, l368, l369, l370))))))))))
 (((fulI 0 (lenN l81) (lenN l81)).bnd (fun (_ : Unit) =>
 (fulI 0 (lenN l82) (lenN l82)).bnd (fun (_ : Unit) =>
 (fulI 0 (lenN l83) (lenN l83)).bnd (fun (_ : Unit) =>
 (fulI 0 (lenN l84) (lenN l84)).bnd (fun (_ : Unit) =>
 (fulI 0 (lenN l85) (lenN l85)).bnd (fun (_ : Unit) =>
 (fulI 0 (lenN l86) (lenN l86)).bnd (fun (_ : Unit) =>
 some (Sum.inl ((i77, i78), (i79, i80), l81, l82, l83, l84, l85, l86))))))))).bnd (fun (l371 : (((Int × Int) × ((Int × Int) × ((List Int) × ((List (Int × (Int × (List Int)))) × ((List Int) × ((List Int) × ((List (Int × (Int × (List Int)))) × (List Int)))))))) ⊕ (Int × (Int × ((List Int) × ((List (Int × (Int × (List Int)))) × (List Int))))))) =>
 some (Sum.inr l371))))
 ((i42, l46, natI (lenN l46), (0 : Int)), (i43, i44, l45, l46, l47), (i48, i49, l50, l51, l52), (i53, i54), (i55, i56), l57, l58, l59, l60, l61, l62))))))))
 (fun (((i372, i373), (i374, i375), l376, l377, l378, l379, l380, l381) : ((Int × Int) × ((Int × Int) × ((List Int) × ((List (Int × (Int × (List Int)))) × ((List Int) × ((List Int) × ((List (Int × (Int × (List Int)))) × (List Int))))))))) =>
 (takI l379 (lenN l379)).bnd (fun (l382 : (List Int)) =>
 (takI l380 (lenN l380)).bnd (fun (l383 : (List (Int × (Int × (List Int))))) =>
 (takI l381 (lenN l381)).bnd (fun (l384 : (List Int)) =>
 some (i374, i375, l382, l383, l384)))))))))))


def G_impl_rawAddAutomata (NN : Nat) : ((Int × (Int × ((List Int) × ((List (Int × (Int × (List Int)))) × (List Int))))) × (Int × (Int × ((List Int) × ((List (Int × (Int × (List Int)))) × (List Int)))))) → (Option (Int × (Int × ((List Int) × ((List (Int × (Int × (List Int)))) × (List Int)))))) :=
 (fun (((i0, i1, l2, l3, l4), i5, i6, l7, l8, l9) : ((Int × (Int × ((List Int) × ((List (Int × (Int × (List Int)))) × (List Int))))) × (Int × (Int × ((List Int) × ((List (Int × (Int × (List Int)))) × (List Int))))))) =>
 (F_impl_copyInts l2).bnd (fun (l10 : (List Int)) =>
 (fulI 0 (lenN l10) (lenN l10)).bnd (fun (_ : Unit) =>
 (fitI (addN (lenN l10) (lenN l7)) 8).bnd (fun (_ : Unit) =>
 (F_impl_copyInts l4).bnd (fun (l11 : (List Int)) =>
 (fulI 0 (lenN l11) (lenN l11)).bnd (fun (_ : Unit) =>
 (fitI (addN (lenN l11) (lenN l9)) 8).bnd (fun (_ : Unit) =>
 joinK ((fulI 0 0 (lenN (([] : List Int)))).bnd (fun (_ : Unit) =>
 (fulI 0 0 (lenN (([] : List (Int × (Int × (List Int))))))).bnd (fun (_ : Unit) =>
 (fulI 0 0 (lenN (([] : List Int)))).bnd (fun (_ : Unit) =>
 (fulI 0 (addN (lenN l10) (lenN l7)) (lenN (appL l10 l7))).bnd (fun (_ : Unit) =>
 (fulI 0 0 (lenN (([] : List (Int × (Int × (List Int))))))).bnd (fun (_ : Unit) =>
 (fulI 0 (addN (lenN l11) (lenN l9)) (lenN (appL l11 l9))).bnd (fun (_ : Unit) =>
 loopT NN (fun (((l12, i13, i14), (i15, i16, l17, l18, l19), (i20, i21, l22, l23, l24), (i25, i26), (i27, i28), l29, l30, l31, l32, l33, l34) : (((List (Int × (Int × (List Int)))) × (Int × Int)) × ((Int × (Int × ((List Int) × ((List (Int × (Int × (List Int)))) × (List Int))))) × ((Int × (Int × ((List Int) × ((List (Int × (Int × (List Int)))) × (List Int))))) × ((Int × Int) × ((Int × Int) × ((List Int) × ((List (Int × (Int × (List Int)))) × ((List Int) × ((List Int) × ((List (Int × (Int × (List Int)))) × (List Int)))))))))))) =>
 cnd (ltI i14 i13)
 (joinK ((getI l12 i14).bnd (fun ((i35, i36, l37) : (Int × (Int × (List Int)))) =>
 (F_impl_emptyMatrix (i28, i28)).bnd (fun ((i38, i39, l40) : (Int × (Int × (List Int)))) =>
 joinK ((fulI 0 (lenN l29) (lenN l29)).bnd (fun (_ : Unit) =>
 (fulI 0 (lenN l30) (lenN l30)).bnd (fun (_ : Unit) =>
 (fulI 0 (lenN l31) (lenN l31)).bnd (fun (_ : Unit) =>
 (fulI 0 (lenN l32) (lenN l32)).bnd (fun (_ : Unit) =>
 (fulI 0 (lenN l33) (lenN l33)).bnd (fun (_ : Unit) =>
 (fulI 0 (lenN l34) (lenN l34)).bnd (fun (_ : Unit) =>
 (fulI 0 (lenN l40) (lenN l40)).bnd (fun (_ : Unit) =>
 loopT NN (fun (((i41, i42, l43, i44, i45), (i46, i47, l48, l49, l50), (i51, i52, l53, l54, l55), (i56, i57), (i58, i59), (i60, i61, l62), (i63, i64), l65, l66, l67, l68, l69, l70, l71) : ((Int × (Int × ((List (Int × (Int × (List Int)))) × (Int × Int)))) × ((Int × (Int × ((List Int) × ((List (Int × (Int × (List Int)))) × (List Int))))) × ((Int × (Int × ((List Int) × ((List (Int × (Int × (List Int)))) × (List Int))))) × ((Int × Int) × ((Int × Int) × ((Int × (Int × (List Int))) × ((Int × Int) × ((List Int) × ((List (Int × (Int × (List Int)))) × ((List Int) × ((List Int) × ((List (Int × (Int × (List Int)))) × ((List Int) × (List Int))))))))))))))) =>
 cnd (ltI i42 i47)
 (joinK ((fulI 0 (lenN l65) (lenN l65)).bnd (fun (_ : Unit) =>
 (fulI 0 (lenN l66) (lenN l66)).bnd (fun (_ : Unit) =>
 (fulI 0 (lenN l67) (lenN l67)).bnd (fun (_ : Unit) =>
 (fulI 0 (lenN l68) (lenN l68)).bnd (fun (_ : Unit) =>
 (fulI 0 (lenN l69) (lenN l69)).bnd (fun (_ : Unit) =>
 (fulI 0 (lenN l70) (lenN l70)).bnd (fun (_ : Unit) =>
 (fulI 0 (lenN l71) (lenN l71)).bnd (fun (_ : Unit) =>
 loopT NN (fun (((i72, i73, i74, l75, i76, i77), (i78, i79, l80, l81, l82), (i83, i84, l85, l86, l87), (i88, i89), (i90, i91), (i92, i93, l94), (i95, i96), l97, l98, l99, l100, l101, l102, l103) : ((Int × (Int × (Int × ((List (Int × (Int × (List Int)))) × (Int × Int))))) × ((Int × (Int × ((List Int) × ((List (Int × (Int × (List Int)))) × (List Int))))) × ((Int × (Int × ((List Int) × ((List (Int × (Int × (List Int)))) × (List Int))))) × ((Int × Int) × ((Int × Int) × ((Int × (Int × (List Int))) × ((Int × Int) × ((List Int) × ((List (Int × (Int × (List Int)))) × ((List Int) × ((List Int) × ((List (Int × (Int × (List Int)))) × ((List Int) × (List Int))))))))))))))) =>
 cnd (ltI i74 i79)
 ((F_impl_Matrix_at ((i92, i93, l94), i73, i74)).bnd (fun (i104 : Int) =>
 (fulI 0 (lenN l103) (lenN l103)).bnd (fun (_ : Unit) =>
 (F_impl_Matrix_set ((i95, i96, l103), i73, i74, i104)).bnd (fun (l105 : (List Int)) =>
 (fulI 0 (lenN l97) (lenN l97)).bnd (fun (_ : Unit) =>
 (fulI 0 (lenN l98) (lenN l98)).bnd (fun (_ : Unit) =>
 (fulI 0 (lenN l99) (lenN l99)).bnd (fun (_ : Unit) =>
 (fulI 0 (lenN l100) (lenN l100)).bnd (fun (_ : Unit) =>
 (fulI 0 (lenN l101) (lenN l101)).bnd (fun (_ : Unit) =>
 (fulI 0 (lenN l102) (lenN l102)).bnd (fun (_ : Unit) =>
 (fulI 0 (lenN l103) (lenN l105)).bnd (fun (_ : Unit) =>
 some (Sum.inl ((i72, i73, addI .i64 i74 (1 : Int), l75, i76, i77), (i78, i79, l80, l81, l82), (i83, i84, l85, l86, l87), (i88, i89), (i90, i91), (i92, i93, l94), (i95, i96), l97, l98, l99, l100, l101, l102, l105)))))))))))))
 (((fulI 0 (lenN l97) (lenN l97)).bnd (fun (_ : Unit) =>
 (fulI 0 (lenN l98) (lenN l98)).bnd (fun (_ : Unit) =>
 (fulI 0 (lenN l99) (lenN l99)).bnd (fun (_ : Unit) =>
 (fulI 0 (lenN l100) (lenN l100)).bnd (fun (_ : Unit) =>
 (fulI 0 (lenN l101) (lenN l101)).bnd (fun (_ : Unit) =>
 (fulI 0 (lenN l102) (lenN l102)).bnd (fun (_ : Unit) =>
 (fulI 0 (lenN l103) (lenN l103)).bnd (fun (_ : Unit) =>
 some (Sum.inl ((i73, i72, l75, i76, i77), (i78, i79, l80, l81, l82), (i83, i84, l85, l86, l87), (i88, i89), (i90, i91), (i92, i93, l94), (i95, i96), l97, l98, l99, l100, l101, l102, l103)))))))))).bnd (fun (l106 : (((Int × (Int × ((List (Int × (Int × (List Int)))) × (Int × Int)))) × ((Int × (Int × ((List Int) × ((List (Int × (Int × (List Int)))) × (List Int))))) × ((Int × (Int × ((List Int) × ((List (Int × (Int × (List Int)))) × (List Int))))) × ((Int × Int) × ((Int × Int) × ((Int × (Int × (List Int))) × ((Int × Int) × ((List Int) × ((List (Int × (Int × (List Int)))) × ((List Int) × ((List Int) × ((List (Int × (Int × (List Int)))) × ((List Int) × (List Int)))))))))))))) ⊕ (((Int × (Int × ((List (Int × (Int × (List Int)))) × (Int × Int)))) × ((Int × (Int × ((List Int) × ((List (Int × (Int × (List Int)))) × (List Int))))) × ((Int × (Int × ((List Int) × ((List (Int × (Int × (List Int)))) × (List Int))))) × ((Int × Int) × ((Int × Int) × ((Int × (Int × (List Int))) × ((Int × Int) × ((List Int) × ((List (Int × (Int × (List Int)))) × ((List Int) × ((List Int) × ((List (Int × (Int × (List Int)))) × ((List Int) × (List Int)))))))))))))) ⊕ (((Int × ((List (Int × (Int × (List Int)))) × (Int × Int))) × ((Int × (Int × ((List Int) × ((List (Int × (Int × (List Int)))) × (List Int))))) × ((Int × (Int × ((List Int) × ((List (Int × (Int × (List Int)))) × (List Int))))) × ((Int × Int) × ((Int × Int) × ((Int × Int) × ((List Int) × ((List (Int × (Int × (List Int)))) × ((List Int) × ((List Int) × ((List (Int × (Int × (List Int)))) × ((List Int) × (List Int))))))))))))) ⊕ (((Int × ((List (Int × (Int × (List Int)))) × Int)) × ((Int × (Int × ((List Int) × ((List (Int × (Int × (List Int)))) × (List Int))))) × ((Int × (Int × ((List Int) × ((List (Int × (Int × (List Int)))) × (List Int))))) × ((Int × Int) × ((Int × Int) × ((List Int) × ((List (Int × (Int × (List Int)))) × ((List Int) × ((List Int) × ((List (Int × (Int × (List Int)))) × (List Int))))))))))) ⊕ ((((List (Int × (Int × (List Int)))) × (Int × Int)) × ((Int × (Int × ((List Int) × ((List (Int × (Int × (List Int)))) × (List Int))))) × ((Int × (Int × ((List Int) × ((List (Int × (Int × (List Int)))) × (List Int))))) × ((Int × Int) × ((Int × Int) × ((List Int) × ((List (Int × (Int × (List Int)))) × ((List Int) × ((List Int) × ((List (Int × (Int × (List Int)))) × (List Int))))))))))) ⊕ (((Int × Int) × ((Int × Int) × ((List Int) × ((List (Int × (Int × (List Int)))) × ((List Int) × ((List Int) × ((List (Int × (Int × (List Int)))) × (List Int)))))))) ⊕ (Int × (Int × ((List Int) × ((List (Int × (Int × (List Int)))) × (List Int)))))))))))) =>
 some (Sum.inr l106))))
 ((i41, i42, (0 : Int), l43, i44, i45), (i46, i47, l48, l49, l50), (i51, i52, l53, l54, l55), (i56, i57), (i58, i59), (i60, i61, l62), (i63, i64), l65, l66, l67, l68, l69, l70, l71)))))))))
 (fun (((i107, i108, l109, i110, i111), (i112, i113, l114, l115, l116), (i117, i118, l119, l120, l121), (i122, i123), (i124, i125), (i126, i127, l128), (i129, i130), l131, l132, l133, l134, l135, l136, l137) : ((Int × (Int × ((List (Int × (Int × (List Int)))) × (Int × Int)))) × ((Int × (Int × ((List Int) × ((List (Int × (Int × (List Int)))) × (List Int))))) × ((Int × (Int × ((List Int) × ((List (Int × (Int × (List Int)))) × (List Int))))) × ((Int × Int) × ((Int × Int) × ((Int × (Int × (List Int))) × ((Int × Int) × ((List Int) × ((List (Int × (Int × (List Int)))) × ((List Int) × ((List Int) × ((List (Int × (Int × (List Int)))) × ((List Int) × (List Int))))))))))))))) =>
 (fulI 0 (lenN l131) (lenN l131)).bnd (fun (_ : Unit) =>
 (fulI 0 (lenN l132) (lenN l132)).bnd (fun (_ : Unit) =>
 (fulI 0 (lenN l133) (lenN l133)).bnd (fun (_ : Unit) =>
 (fulI 0 (lenN l134) (lenN l134)).bnd (fun (_ : Unit) =>
 (fulI 0 (lenN l135) (lenN l135)).bnd (fun (_ : Unit) =>
 (fulI 0 (lenN l136) (lenN l136)).bnd (fun (_ : Unit) =>
 (fulI 0 (lenN l137) (lenN l137)).bnd (fun (_ : Unit) =>
 some (Sum.inl ((i108, addI .i64 i107 (1 : Int), l109, i110, i111), (i112, i113, l114, l115, l116), (i117, i118, l119, l120, l121), (i122, i123), (i124, i125), (i126, i127, l128), (i129, i130), l131, l132, l133, l134, l135, l136, l137)))))))))))
 (((fulI 0 (lenN l65) (lenN l65)).bnd (fun (_ : Unit) =>
 (fulI 0 (lenN l66) (lenN l66)).bnd (fun (_ : Unit) =>
 (fulI 0 (lenN l67) (lenN l67)).bnd (fun (_ : Unit) =>
 (fulI 0 (lenN l68) (lenN l68)).bnd (fun (_ : Unit) =>
 (fulI 0 (lenN l69) (lenN l69)).bnd (fun (_ : Unit) =>
 (fulI 0 (lenN l70) (lenN l70)).bnd (fun (_ : Unit) =>
 (fulI 0 (lenN l71) (lenN l71)).bnd (fun (_ : Unit) =>
 some (Sum.inl ((i44, l43, i45, i41), (i46, i47, l48, l49, l50), (i51, i52, l53, l54, l55), (i56, i57), (i58, i59), (i63, i64), l65, l66, l67, l68, l69, l70, l71)))))))))).bnd (fun (l138 : (((Int × ((List (Int × (Int × (List Int)))) × (Int × Int))) × ((Int × (Int × ((List Int) × ((List (Int × (Int × (List Int)))) × (List Int))))) × ((Int × (Int × ((List Int) × ((List (Int × (Int × (List Int)))) × (List Int))))) × ((Int × Int) × ((Int × Int) × ((Int × Int) × ((List Int) × ((List (Int × (Int × (List Int)))) × ((List Int) × ((List Int) × ((List (Int × (Int × (List Int)))) × ((List Int) × (List Int))))))))))))) ⊕ (((Int × ((List (Int × (Int × (List Int)))) × Int)) × ((Int × (Int × ((List Int) × ((List (Int × (Int × (List Int)))) × (List Int))))) × ((Int × (Int × ((List Int) × ((List (Int × (Int × (List Int)))) × (List Int))))) × ((Int × Int) × ((Int × Int) × ((List Int) × ((List (Int × (Int × (List Int)))) × ((List Int) × ((List Int) × ((List (Int × (Int × (List Int)))) × (List Int))))))))))) ⊕ ((((List (Int × (Int × (List Int)))) × (Int × Int)) × ((Int × (Int × ((List Int) × ((List (Int × (Int × (List Int)))) × (List Int))))) × ((Int × (Int × ((List Int) × ((List (Int × (Int × (List Int)))) × (List Int))))) × ((Int × Int) × ((Int × Int) × ((List Int) × ((List (Int × (Int × (List Int)))) × ((List Int) × ((List Int) × ((List (Int × (Int × (List Int)))) × (List Int))))))))))) ⊕ (((Int × Int) × ((Int × Int) × ((List Int) × ((List (Int × (Int × (List Int)))) × ((List Int) × ((List Int) × ((List (Int × (Int × (List Int)))) × (List Int)))))))) ⊕ (Int × (Int × ((List Int) × ((List (Int × (Int × (List Int)))) × (List Int)))))))))) =>
 some (Sum.inr l138))))
 ((i14, (0 : Int), l12, i13, i14), (i15, i16, l17, l18, l19), (i20, i21, l22, l23, l24), (i25, i26), (i27, i28), (i35, i36, l37), (i38, i39), l29, l30, l31, l32, l33, l34, l40)))))))))
 (fun (((i139, l140, i141, i142), (i143, i144, l145, l146, l147), (i148, i149, l150, l151, l152), (i153, i154), (i155, i156), (i157, i158), l159, l160, l161, l162, l163, l164, l165) : ((Int × ((List (Int × (Int × (List Int)))) × (Int × Int))) × ((Int × (Int × ((List Int) × ((List (Int × (Int × (List Int)))) × (List Int))))) × ((Int × (Int × ((List Int) × ((List (Int × (Int × (List Int)))) × (List Int))))) × ((Int × Int) × ((Int × Int) × ((Int × Int) × ((List Int) × ((List (Int × (Int × (List Int)))) × ((List Int) × ((List Int) × ((List (Int × (Int × (List Int)))) × ((List Int) × (List Int)))))))))))))) =>
 joinK ((fulI 0 (lenN l159) (lenN l159)).bnd (fun (_ : Unit) =>
 (fulI 0 (lenN l160) (lenN l160)).bnd (fun (_ : Unit) =>
 (fulI 0 (lenN l161) (lenN l161)).bnd (fun (_ : Unit) =>
 (fulI 0 (lenN l162) (lenN l162)).bnd (fun (_ : Unit) =>
 (fulI 0 (lenN l163) (lenN l163)).bnd (fun (_ : Unit) =>
 (fulI 0 (lenN l164) (lenN l164)).bnd (fun (_ : Unit) =>
 (fulI 0 (lenN l165) (lenN l165)).bnd (fun (_ : Unit) =>
 loopT NN (fun (((i166, i167, l168, i169, i170), (i171, i172, l173, l174, l175), (i176, i177, l178, l179, l180), (i181, i182), (i183, i184), (i185, i186), l187, l188, l189, l190, l191, l192, l193) : ((Int × (Int × ((List (Int × (Int × (List Int)))) × (Int × Int)))) × ((Int × (Int × ((List Int) × ((List (Int × (Int × (List Int)))) × (List Int))))) × ((Int × (Int × ((List Int) × ((List (Int × (Int × (List Int)))) × (List Int))))) × ((Int × Int) × ((Int × Int) × ((Int × Int) × ((List Int) × ((List (Int × (Int × (List Int)))) × ((List Int) × ((List Int) × ((List (Int × (Int × (List Int)))) × ((List Int) × (List Int)))))))))))))) =>
 cnd (ltI i167 i177)
 (joinK ((fulI 0 (lenN l187) (lenN l187)).bnd (fun (_ : Unit) =>
 (fulI 0 (lenN l188) (lenN l188)).bnd (fun (_ : Unit) =>
 (fulI 0 (lenN l189) (lenN l189)).bnd (fun (_ : Unit) =>
 (fulI 0 (lenN l190) (lenN l190)).bnd (fun (_ : Unit) =>
 (fulI 0 (lenN l191) (lenN l191)).bnd (fun (_ : Unit) =>
 (fulI 0 (lenN l192) (lenN l192)).bnd (fun (_ : Unit) =>
 (fulI 0 (lenN l193) (lenN l193)).bnd (fun (_ : Unit) =>
 loopT NN (fun (((i194, i195, i196, l197, i198, i199), (i200, i201, l202, l203, l204), (i205, i206, l207, l208, l209), (i210, i211), (i212, i213), (i214, i215), l216, l217, l218, l219, l220, l221, l222) : ((Int × (Int × (Int × ((List (Int × (Int × (List Int)))) × (Int × Int))))) × ((Int × (Int × ((List Int) × ((List (Int × (Int × (List Int)))) × (List Int))))) × ((Int × (Int × ((List Int) × ((List (Int × (Int × (List Int)))) × (List Int))))) × ((Int × Int) × ((Int × Int) × ((Int × Int) × ((List Int) × ((List (Int × (Int × (List Int)))) × ((List Int) × ((List Int) × ((List (Int × (Int × (List Int)))) × ((List Int) × (List Int)))))))))))))) =>
 cnd (ltI i196 i206)
 ((getI l208 i194).bnd (fun ((i223, i224, l225) : (Int × (Int × (List Int)))) =>
 (F_impl_Matrix_at ((i223, i224, l225), i195, i196)).bnd (fun (i226 : Int) =>
 (fulI 0 (lenN l222) (lenN l222)).bnd (fun (_ : Unit) =>
 (F_impl_Matrix_set ((i214, i215, l222), addI .i64 i201 i195, addI .i64 i201 i196, i226)).bnd (fun (l227 : (List Int)) =>
 (fulI 0 (lenN l216) (lenN l216)).bnd (fun (_ : Unit) =>
 (fulI 0 (lenN l217) (lenN l217)).bnd (fun (_ : Unit) =>
 (fulI 0 (lenN l218) (lenN l218)).bnd (fun (_ : Unit) =>
 (fulI 0 (lenN l219) (lenN l219)).bnd (fun (_ : Unit) =>
 (fulI 0 (lenN l220) (lenN l220)).bnd (fun (_ : Unit) =>
 (fulI 0 (lenN l221) (lenN l221)).bnd (fun (_ : Unit) =>
 (fulI 0 (lenN l222) (lenN l227)).bnd (fun (_ : Unit) =>
 some (Sum.inl ((i194, i195, addI .i64 i196 (1 : Int), l197, i198, i199), (i200, i201, l202, l203, l204), (i205, i206, l207, l208, l209), (i210, i211), (i212, i213), (i214, i215), l216, l217, l218, l219, l220, l221, l227))))))))))))))
 (((fulI 0 (lenN l216) (lenN l216)).bnd (fun (_ : Unit) =>
 (fulI 0 (lenN l217) (lenN l217)).bnd (fun (_ : Unit) =>
 (fulI 0 (lenN l218) (lenN l218)).bnd (fun (_ : Unit) =>
 (fulI 0 (lenN l219) (lenN l219)).bnd (fun (_ : Unit) =>
 (fulI 0 (lenN l220) (lenN l220)).bnd (fun (_ : Unit) =>
 (fulI 0 (lenN l221) (lenN l221)).bnd (fun (_ : Unit) =>
 (fulI 0 (lenN l222) (lenN l222)).bnd (fun (_ : Unit) =>
 some (Sum.inl ((i195, i194, l197, i198, i199), (i200, i201, l202, l203, l204), (i205, i206, l207, l208, l209), (i210, i211), (i212, i213), (i214, i215), l216, l217, l218, l219, l220, l221, l222)))))))))).bnd (fun (l228 : (((Int × (Int × ((List (Int × (Int × (List Int)))) × (Int × Int)))) × ((Int × (Int × ((List Int) × ((List (Int × (Int × (List Int)))) × (List Int))))) × ((Int × (Int × ((List Int) × ((List (Int × (Int × (List Int)))) × (List Int))))) × ((Int × Int) × ((Int × Int) × ((Int × Int) × ((List Int) × ((List (Int × (Int × (List Int)))) × ((List Int) × ((List Int) × ((List (Int × (Int × (List Int)))) × ((List Int) × (List Int))))))))))))) ⊕ (((Int × (Int × ((List (Int × (Int × (List Int)))) × (Int × Int)))) × ((Int × (Int × ((List Int) × ((List (Int × (Int × (List Int)))) × (List Int))))) × ((Int × (Int × ((List Int) × ((List (Int × (Int × (List Int)))) × (List Int))))) × ((Int × Int) × ((Int × Int) × ((Int × Int) × ((List Int) × ((List (Int × (Int × (List Int)))) × ((List Int) × ((List Int) × ((List (Int × (Int × (List Int)))) × ((List Int) × (List Int))))))))))))) ⊕ (((Int × ((List (Int × (Int × (List Int)))) × Int)) × ((Int × (Int × ((List Int) × ((List (Int × (Int × (List Int)))) × (List Int))))) × ((Int × (Int × ((List Int) × ((List (Int × (Int × (List Int)))) × (List Int))))) × ((Int × Int) × ((Int × Int) × ((Int × Int) × ((List Int) × ((List (Int × (Int × (List Int)))) × ((List Int) × ((List Int) × ((List (Int × (Int × (List Int)))) × ((List Int) × (List Int))))))))))))) ⊕ (((Int × ((List (Int × (Int × (List Int)))) × Int)) × ((Int × (Int × ((List Int) × ((List (Int × (Int × (List Int)))) × (List Int))))) × ((Int × (Int × ((List Int) × ((List (Int × (Int × (List Int)))) × (List Int))))) × ((Int × Int) × ((Int × Int) × ((List Int) × ((List (Int × (Int × (List Int)))) × ((List Int) × ((List Int) × ((List (Int × (Int × (List Int)))) × (List Int))))))))))) ⊕ ((((List (Int × (Int × (List Int)))) × (Int × Int)) × ((Int × (Int × ((List Int) × ((List (Int × (Int × (List Int)))) × (List Int))))) × ((Int × (Int × ((List Int) × ((List (Int × (Int × (List Int)))) × (List Int))))) × ((Int × Int) × ((Int × Int) × ((List Int) × ((List (Int × (Int × (List Int)))) × ((List Int) × ((List Int) × ((List (Int × (Int × (List Int)))) × (List Int))))))))))) ⊕ (((Int × Int) × ((Int × Int) × ((List Int) × ((List (Int × (Int × (List Int)))) × ((List Int) × ((List Int) × ((List (Int × (Int × (List Int)))) × (List Int)))))))) ⊕ (Int × (Int × ((List Int) × ((List (Int × (Int × (List Int)))) × (List Int)))))))))))) =>
 some (Sum.inr l228))))
 ((i166, i167, (0 : Int), l168, i169, i170), (i171, i172, l173, l174, l175), (i176, i177, l178, l179, l180), (i181, i182), (i183, i184), (i185, i186), l187, l188, l189, l190, l191, l192, l193)))))))))
 (fun (((i229, i230, l231, i232, i233), (i234, i235, l236, l237, l238), (i239, i240, l241, l242, l243), (i244, i245), (i246, i247), (i248, i249), l250, l251, l252, l253, l254, l255, l256) : ((Int × (Int × ((List (Int × (Int × (List Int)))) × (Int × Int)))) × ((Int × (Int × ((List Int) × ((List (Int × (Int × (List Int)))) × (List Int))))) × ((Int × (Int × ((List Int) × ((List (Int × (Int × (List Int)))) × (List Int))))) × ((Int × Int) × ((Int × Int) × ((Int × Int) × ((List Int) × ((List (Int × (Int × (List Int)))) × ((List Int) × ((List Int) × ((List (Int × (Int × (List Int)))) × ((List Int) × (List Int)))))))))))))) =>
 (fulI 0 (lenN l250) (lenN l250)).bnd (fun (_ : Unit) =>
 (fulI 0 (lenN l251) (lenN l251)).bnd (fun (_ : Unit) =>
 (fulI 0 (lenN l252) (lenN l252)).bnd (fun (_ : Unit) =>
 (fulI 0 (lenN l253) (lenN l253)).bnd (fun (_ : Unit) =>
 (fulI 0 (lenN l254) (lenN l254)).bnd (fun (_ : Unit) =>
 (fulI 0 (lenN l255) (lenN l255)).bnd (fun (_ : Unit) =>
 (fulI 0 (lenN l256) (lenN l256)).bnd (fun (_ : Unit) =>
 some (Sum.inl ((i230, addI .i64 i229 (1 : Int), l231, i232, i233), (i234, i235, l236, l237, l238), (i239, i240, l241, l242, l243), (i244, i245), (i246, i247), (i248, i249), l250, l251, l252, l253, l254, l255, l256)))))))))))
 (((fulI 0 (lenN l187) (lenN l187)).bnd (fun (_ : Unit) =>
 (fulI 0 (lenN l188) (lenN l188)).bnd (fun (_ : Unit) =>
 (fulI 0 (lenN l189) (lenN l189)).bnd (fun (_ : Unit) =>
 (fulI 0 (lenN l190) (lenN l190)).bnd (fun (_ : Unit) =>
 (fulI 0 (lenN l191) (lenN l191)).bnd (fun (_ : Unit) =>
 (fulI 0 (lenN l192) (lenN l192)).bnd (fun (_ : Unit) =>
 (fulI 0 (lenN l193) (lenN l193)).bnd (fun (_ : Unit) =>
 some (Sum.inl ((i170, l168, i169), (i171, i172, l173, l174, l175), (i176, i177, l178, l179, l180), (i181, i182), (i183, i184), (i185, i186), l187, l188, l189, l190, l191, l192, l193)))))))))).bnd (fun (l257 : (((Int × ((List (Int × (Int × (List Int)))) × Int)) × ((Int × (Int × ((List Int) × ((List (Int × (Int × (List Int)))) × (List Int))))) × ((Int × (Int × ((List Int) × ((List (Int × (Int × (List Int)))) × (List Int))))) × ((Int × Int) × ((Int × Int) × ((Int × Int) × ((List Int) × ((List (Int × (Int × (List Int)))) × ((List Int) × ((List Int) × ((List (Int × (Int × (List Int)))) × ((List Int) × (List Int))))))))))))) ⊕ (((Int × ((List (Int × (Int × (List Int)))) × Int)) × ((Int × (Int × ((List Int) × ((List (Int × (Int × (List Int)))) × (List Int))))) × ((Int × (Int × ((List Int) × ((List (Int × (Int × (List Int)))) × (List Int))))) × ((Int × Int) × ((Int × Int) × ((List Int) × ((List (Int × (Int × (List Int)))) × ((List Int) × ((List Int) × ((List (Int × (Int × (List Int)))) × (List Int))))))))))) ⊕ ((((List (Int × (Int × (List Int)))) × (Int × Int)) × ((Int × (Int × ((List Int) × ((List (Int × (Int × (List Int)))) × (List Int))))) × ((Int × (Int × ((List Int) × ((List (Int × (Int × (List Int)))) × (List Int))))) × ((Int × Int) × ((Int × Int) × ((List Int) × ((List (Int × (Int × (List Int)))) × ((List Int) × ((List Int) × ((List (Int × (Int × (List Int)))) × (List Int))))))))))) ⊕ (((Int × Int) × ((Int × Int) × ((List Int) × ((List (Int × (Int × (List Int)))) × ((List Int) × ((List Int) × ((List (Int × (Int × (List Int)))) × (List Int)))))))) ⊕ (Int × (Int × ((List Int) × ((List (Int × (Int × (List Int)))) × (List Int)))))))))) =>
 some (Sum.inr l257))))
 ((i142, (0 : Int), l140, i139, i141), (i143, i144, l145, l146, l147), (i148, i149, l150, l151, l152), (i153, i154), (i155, i156), (i157, i158), l159, l160, l161, l162, l163, l164, l165)))))))))
 (fun (((i258, l259, i260), (i261, i262, l263, l264, l265), (i266, i267, l268, l269, l270), (i271, i272), (i273, i274), (i275, i276), l277, l278, l279, l280, l281, l282, l283) : ((Int × ((List (Int × (Int × (List Int)))) × Int)) × ((Int × (Int × ((List Int) × ((List (Int × (Int × (List Int)))) × (List Int))))) × ((Int × (Int × ((List Int) × ((List (Int × (Int × (List Int)))) × (List Int))))) × ((Int × Int) × ((Int × Int) × ((Int × Int) × ((List Int) × ((List (Int × (Int × (List Int)))) × ((List Int) × ((List Int) × ((List (Int × (Int × (List Int)))) × ((List Int) × (List Int)))))))))))))) =>
 (takI l283 (lenN l283)).bnd (fun (l284 : (List Int)) =>
 (fulI 0 (lenN l281) (lenN l281)).bnd (fun (_ : Unit) =>
 (fulI 0 1 (lenN (((i275, i276, l284) :: ([] : List (Int × (Int × (List Int)))))))).bnd (fun (_ : Unit) =>
 (fitI (addN (lenN l281) (lenN (((i275, i276, l284) :: ([] : List (Int × (Int × (List Int)))))))) 40).bnd (fun (_ : Unit) =>
 (fulI 0 (lenN l277) (lenN l277)).bnd (fun (_ : Unit) =>
 (fulI 0 (lenN l278) (lenN l278)).bnd (fun (_ : Unit) =>
 (fulI 0 (lenN l279) (lenN l279)).bnd (fun (_ : Unit) =>
 (fulI 0 (lenN l280) (lenN l280)).bnd (fun (_ : Unit) =>
 (fulI 0 (addN (lenN l281) (lenN (((i275, i276, l284) :: ([] : List (Int × (Int × (List Int)))))))) (lenN (appL l281 (((i275, i276, l284) :: ([] : List (Int × (Int × (List Int))))))))).bnd (fun (_ : Unit) =>
 (fulI 0 (lenN l282) (lenN l282)).bnd (fun (_ : Unit) =>
 some (Sum.inl ((i258, l259, i260), (i261, i262, l263, l264, l265), (i266, i267, l268, l269, l270), (i271, i272), (i273, i274), l277, l278, l279, l280, appL l281 (((i275, i276, l284) :: ([] : List (Int × (Int × (List Int)))))), l282)))))))))))))))))
 (fun (((i285, l286, i287), (i288, i289, l290, l291, l292), (i293, i294, l295, l296, l297), (i298, i299), (i300, i301), l302, l303, l304, l305, l306, l307) : ((Int × ((List (Int × (Int × (List Int)))) × Int)) × ((Int × (Int × ((List Int) × ((List (Int × (Int × (List Int)))) × (List Int))))) × ((Int × (Int × ((List Int) × ((List (Int × (Int × (List Int)))) × (List Int))))) × ((Int × Int) × ((Int × Int) × ((List Int) × ((List (Int × (Int × (List Int)))) × ((List Int) × ((List Int) × ((List (Int × (Int × (List Int)))) × (List Int)))))))))))) =>
 (fulI 0 (lenN l302) (lenN l302)).bnd (fun (_ : Unit) =>
 (fulI 0 (lenN l303) (lenN l303)).bnd (fun (_ : Unit) =>
 (fulI 0 (lenN l304) (lenN l304)).bnd (fun (_ : Unit) =>
 (fulI 0 (lenN l305) (lenN l305)).bnd (fun (_ : Unit) =>
 (fulI 0 (lenN l306) (lenN l306)).bnd (fun (_ : Unit) =>
 (fulI 0 (lenN l307) (lenN l307)).bnd (fun (_ : Unit) =>
 some (Sum.inl ((l286, i287, addI .i64 i285 (1 : Int)), (i288, i289, l290, l291, l292), (i293, i294, l295, l296, l297), (i298, i299), (i300, i301), l302, l303, l304, l305, l306, l307))))))))))
 (((fulI 0 (lenN l29) (lenN l29)).bnd (fun (_ : Unit) =>
 (fulI 0 (lenN l30) (lenN l30)).bnd (fun (_ : Unit) =>
 (fulI 0 (lenN l31) (lenN l31)).bnd (fun (_ : Unit) =>
 (fulI 0 (lenN l32) (lenN l32)).bnd (fun (_ : Unit) =>
 (fulI 0 (lenN l33) (lenN l33)).bnd (fun (_ : Unit) =>
 (fulI 0 (lenN l34) (lenN l34)).bnd (fun (_ : Unit) =>
 some (Sum.inl ((i25, i26), (i27, i28), l29, l30, l31, l32, l33, l34))))))))).bnd (fun (l308 : (((Int × Int) × ((Int × Int) × ((List Int) × ((List (Int × (Int × (List Int)))) × ((List Int) × ((List Int) × ((List (Int × (Int × (List Int)))) × (List Int)))))))) ⊕ (Int × (Int × ((List Int) × ((List (Int × (Int × (List Int)))) × (List Int))))))) =>
 some (Sum.inr l308))))
 ((l3, natI (lenN l3), (0 : Int)), (i0, i1, l2, l3, l4), (i5, i6, l7, l8, l9), ((0 : Int), (0 : Int)), (i0, addI .i64 i1 i6), ([] : List Int), ([] : List (Int × (Int × (List Int)))), ([] : List Int), appL l10 l7, ([] : List (Int × (Int × (List Int)))), appL l11 l9))))))))
 (fun (((i309, i310), (i311, i312), l313, l314, l315, l316, l317, l318) : ((Int × Int) × ((Int × Int) × ((List Int) × ((List (Int × (Int × (List Int)))) × ((List Int) × ((List Int) × ((List (Int × (Int × (List Int)))) × (List Int))))))))) =>
 (takI l316 (lenN l316)).bnd (fun (l319 : (List Int)) =>
 (takI l317 (lenN l317)).bnd (fun (l320 : (List (Int × (Int × (List Int))))) =>
 (takI l318 (lenN l318)).bnd (fun (l321 : (List Int)) =>
 some (i311, i312, l319, l320, l321))))))))))))


def G_spec_AddAutomata (NN : Nat) : ((Int × (Int × ((List Int) × ((List (Int × (Int × (List Int)))) × (List Int))))) × (Int × (Int × ((List Int) × ((List (Int × (Int × (List Int)))) × (List Int)))))) → (Option ((Int × (Int × ((List Int) × ((List (Int × (Int × (List Int)))) × (List Int))))) × Bool)) :=
 (fun (((i0, i1, l2, l3, l4), i5, i6, l7, l8, l9) : ((Int × (Int × ((List Int) × ((List (Int × (Int × (List Int)))) × (List Int))))) × (Int × (Int × ((List Int) × ((List (Int × (Int × (List Int)))) × (List Int))))))) =>
 (F_spec_l34Alike ((i0, i1, l2, l3, l4), i5, i6, l7, l8, l9)).bnd (fun (b10 : Bool) =>
 cnd (notB b10)
 (some (((0 : Int), (0 : Int), ([] : List Int), ([] : List (Int × (Int × (List Int)))), ([] : List Int)), false))
 (cnd (ltI (12 : Int) (addI .i64 i1 i6))
 (some (((0 : Int), (0 : Int), ([] : List Int), ([] : List (Int × (Int × (List Int)))), ([] : List Int)), false))
 ((F_spec_l34Sum ((i0, i1, l2, l3, l4), (i5, i6, l7, l8, l9), (1 : Int))).bnd (fun ((i11, i12, l13, l14, l15) : (Int × (Int × ((List Int) × ((List (Int × (Int × (List Int)))) × (List Int)))))) =>
 (takI l13 (lenN l13)).bnd (fun (l16 : (List Int)) =>
 (takI l14 (lenN l14)).bnd (fun (l17 : (List (Int × (Int × (List Int))))) =>
 (takI l15 (lenN l15)).bnd (fun (l18 : (List Int)) =>
 some ((i11, i12, l16, l17, l18), true)))))))))


def G_impl_AddAutomata (NN : Nat) : ((Int × (Int × ((List Int) × ((List (Int × (Int × (List Int)))) × (List Int))))) × (Int × (Int × ((List Int) × ((List (Int × (Int × (List Int)))) × (List Int)))))) → (Option ((Int × (Int × ((List Int) × ((List (Int × (Int × (List Int)))) × (List Int))))) × Bool)) :=
 (fun (((i0, i1, l2, l3, l4), i5, i6, l7, l8, l9) : ((Int × (Int × ((List Int) × ((List (Int × (Int × (List Int)))) × (List Int))))) × (Int × (Int × ((List Int) × ((List (Int × (Int × (List Int)))) × (List Int))))))) =>
 (F_impl_sameLetters ((i0, i1, l2, l3, l4), i5, i6, l7, l8, l9)).bnd (fun (b10 : Bool) =>
 cnd (notB b10)
 (some (((0 : Int), (0 : Int), ([] : List Int), ([] : List (Int × (Int × (List Int)))), ([] : List Int)), false))
 (cnd (ltI (12 : Int) (addI .i64 i1 i6))
 (some (((0 : Int), (0 : Int), ([] : List Int), ([] : List (Int × (Int × (List Int)))), ([] : List Int)), false))
 ((F_impl_rawAddAutomata ((i0, i1, l2, l3, l4), i5, i6, l7, l8, l9)).bnd (fun ((i11, i12, l13, l14, l15) : (Int × (Int × ((List Int) × ((List (Int × (Int × (List Int)))) × (List Int)))))) =>
 (takI l13 (lenN l13)).bnd (fun (l16 : (List Int)) =>
 (takI l14 (lenN l14)).bnd (fun (l17 : (List (Int × (Int × (List Int))))) =>
 (takI l15 (lenN l15)).bnd (fun (l18 : (List Int)) =>
 some ((i11, i12, l16, l17, l18), true)))))))))


/-! ### sums of automata -/

def sum1 (n : Nat) (A : Mat) (i j : Nat) : Mat := fun a b => if a < i ∧ b < n ∨ a = i ∧ b < j then A a b else 0
def sum2 (n : Nat) (A B : Mat) (i j : Nat) : Mat := fun a b => if a < n ∧ b < n then A a b else if n ≤ a ∧ n ≤ b ∧ (a < n + i ∨ a = n + i ∧ b < n + j) then B (a - n) (b - n) else 0

theorem sum1_0 {r c : Nat} (n : Nat) (A : Mat) : genD r c (sum1 n A 0 0) = genD r c fun _ _ => 0 := genD_congr fun a _ b _ => if_neg (by omega)
theorem sum1_step {r c : Nat} (n : Nat) (A : Mat) (i j : Nat) : genD r c (updM (sum1 n A i j) i j (A i j)) = genD r c (sum1 n A i (j + 1)) := by
  refine genD_congr fun a ha b hb => ?_
  unfold updM sum1
  by_cases h : a = i ∧ b = j
  · obtain ⟨rfl, rfl⟩ := h
    rw [if_pos ⟨rfl, rfl⟩, if_pos (by omega)]
  · rw [if_neg h]
    by_cases h1 : a < i ∧ b < n ∨ a = i ∧ b < j
    · rw [if_pos h1, if_pos (by omega)]
    · rw [if_neg h1, if_neg (by omega)]
theorem sum1_row {r c : Nat} (n : Nat) (A : Mat) (i : Nat) : genD r c (sum1 n A i n) = genD r c (sum1 n A (i + 1) 0) := by
  refine genD_congr fun a ha b hb => ?_
  unfold sum1
  by_cases h1 : a < i ∧ b < n ∨ a = i ∧ b < n
  · rw [if_pos h1, if_pos (by omega)]
  · rw [if_neg h1, if_neg (by omega)]
theorem sum12 {r c : Nat} (n : Nat) (A B : Mat) : genD r c (sum1 n A n 0) = genD r c (sum2 n A B 0 0) := by
  refine genD_congr fun a ha b hb => ?_
  unfold sum1 sum2
  by_cases h1 : a < n ∧ b < n
  · rw [if_pos (by omega), if_pos h1]
  · rw [if_neg (by omega), if_neg h1, if_neg (by omega)]
theorem sum2_step {r c : Nat} (n : Nat) (A B : Mat) (i j : Nat) : genD r c (updM (sum2 n A B i j) (n + i) (n + j) (B i j)) = genD r c (sum2 n A B i (j + 1)) := by
  refine genD_congr fun a ha b hb => ?_
  unfold updM sum2
  by_cases h : a = n + i ∧ b = n + j
  · obtain ⟨rfl, rfl⟩ := h
    rw [if_pos ⟨rfl, rfl⟩, if_neg (by omega), if_pos (by omega), Nat.add_sub_cancel_left, Nat.add_sub_cancel_left]
  · rw [if_neg h]
    by_cases h0 : a < n ∧ b < n
    · rw [if_pos h0, if_pos h0]
    · rw [if_neg h0, if_neg h0]
      by_cases h1 : n ≤ a ∧ n ≤ b ∧ (a < n + i ∨ a = n + i ∧ b < n + j)
      · rw [if_pos h1, if_pos (by omega)]
      · rw [if_neg h1, if_neg (by omega)]
theorem sum2_row {r m : Nat} (n : Nat) (A B : Mat) (i : Nat) : genD r (n + m) (sum2 n A B i m) = genD r (n + m) (sum2 n A B (i + 1) 0) := by
  refine genD_congr fun a ha b hb => ?_
  unfold sum2
  by_cases h0 : a < n ∧ b < n
  · rw [if_pos h0, if_pos h0]
  · rw [if_neg h0, if_neg h0]
    by_cases h1 : n ≤ a ∧ n ≤ b ∧ (a < n + i ∨ a = n + i ∧ b < n + m)
    · rw [if_pos h1, if_pos (by omega)]
    · rw [if_neg h1, if_neg (by omega)]
theorem sum2_end {m c : Nat} (n : Nat) (A B : Mat) : genD (n + m) c (sum2 n A B m 0) = genD (n + m) c (sumM n A B) := by
  refine genD_congr fun a ha b hb => ?_
  unfold sum2 sumM
  by_cases h0 : a < n ∧ b < n
  · rw [if_pos h0, if_pos h0]
  · rw [if_neg h0, if_neg h0]
    by_cases h1 : n ≤ a ∧ n ≤ b
    · rw [if_pos h1, if_pos (by omega)]
    · rw [if_neg h1, if_neg (by omega)]
theorem sumSt_succ (n m : Nat) (ms ms2 : List Mx3) (k : Nat) : sumSt n m ms ms2 k ++ [(((n + m : Nat) : Int), ((n + m : Nat) : Int), genD (n + m) (n + m) (sumM n (stM n ms k) (stM m ms2 k)))] = sumSt n m ms ms2 (k + 1) := by
  unfold sumSt
  rw [List.range_succ, List.map_append]
  rfl
theorem sumSt_len (n m : Nat) (ms ms2 : List Mx3) (k : Nat) : (sumSt n m ms ms2 k).length = k := by simp [sumSt]
theorem app_len {α : Type} (l r : List α) : fulI 0 (addN (lenN l) (lenN r)) (lenN (l ++ r)) = some () := fulI_ok (by simp [addN, lenN])
theorem fulI_nil {α : Type} : fulI 0 0 (lenN ([] : List α)) = some () := rfl
theorem appL_eq {α : Type} (l r : List α) : appL l r = l ++ r := rfl

section
variable {p : Int} {n m : Nat} {a b a2 b2 : List Int} {ms ms2 : List Mx3}

theorem stM_get (H : AutOk p n a ms b) {k : Nat} (hk : k < ms.length) : ms[k]? = some ((n : Int), (n : Int), genD n n (stM n ms k)) ∧ inM p n n (stM n ms k) := by
  obtain ⟨M, hM, hi⟩ := H.hm ms[k] (List.getElem_mem hk)
  have e : ms.getD k (0, 0, []) = ms[k] := by simp [List.getD, hk]
  have e2 : genD n n (stM n ms k) = genD n n M := by unfold stM; rw [e, hM]; exact genD_of (genD_len _ _ _)
  refine ⟨by rw [List.getElem?_eq_getElem hk, e2, hM], ?_⟩
  unfold stM
  rw [e, hM]
  exact ofD_in (genD_len _ _ _) (allP_gen.2 hi)

theorem g_rawAdd (H : AutOk p n a ms b) (H2 : AutOk p m a2 ms2 b2) (hms : ms.length = ms2.length) :
    G_impl_rawAddAutomata FUEL ((p, (n : Int), a, ms, b), p, (m : Int), a2, ms2, b2) = some (p, ((n + m : Nat) : Int), a ++ a2, sumSt n m ms ms2 ms.length, b ++ b2) := by
  have hn := H.hn
  have hm := H2.hn
  have h4 := H.l4
  have h3 := H.al
  have h5 := H.bl
  have h6 := H2.al
  have h7 := H2.bl
  have hNN : (n + m) * (n + m) ≤ 24 * 24 := Nat.mul_le_mul (by omega) (by omega)
  have hnn : n * n ≤ 24 * 24 := Nat.mul_le_mul (by omega) (by omega)
  have hmm : m * m ≤ 24 * 24 := Nat.mul_le_mul (by omega) (by omega)
  simp only [G_impl_rawAddAutomata]
  rw [show F_impl_copyInts a = some a from if_pos (by omega), bnd_s]
  try simp only [fulI_id, fulI_nil, bnd_s]
  rw [fitI_ok (show (addN (lenN a) (lenN a2)) * 8 ≤ maxBytes by simp only [addN, lenN, maxBytes]; omega), bnd_s, show F_impl_copyInts b = some b from if_pos (by omega), bnd_s]
  try simp only [fulI_id, fulI_nil, bnd_s]
  rw [fitI_ok (show (addN (lenN b) (lenN b2)) * 8 ≤ maxBytes by simp only [addN, lenN, maxBytes]; omega), bnd_s]
  simp only [fulI_id, fulI_nil, bnd_s, appL_eq, app_len, addNN (show n + m ≤ 1099511627776 by omega), nl]
  rw [loopT_seq (fun k => ((ms, (ms.length : Int), (k : Int)), (p, (n : Int), a, ms, b), (p, (m : Int), a2, ms2, b2), ((0 : Int), (0 : Int)), (p, ((n + m : Nat) : Int)), ([] : List Int), ([] : List (Int × Int × List Int)), ([] : List Int), (a ++ a2), sumSt n m ms ms2 k, (b ++ b2))) ms.length ?a1 ?a2 ?a3 (FUEL_gt (by omega))]
  case a3 => rfl
  case a2 => simp only; rw [cnd_f (ltN_f (Nat.le_refl _))]; try (simp only [fulI_id, fulI_nil, bnd_s])
  case a1 =>
    intro k hk
    obtain ⟨g1, g2⟩ := stM_get H hk
    obtain ⟨g3, g4⟩ := stM_get H2 (show k < ms2.length by omega)
    simp only
    rw [cnd_t (ltN_t hk), getI_nat, g1, bnd_s]
    simp only
    rw [newI_nat (by omega) (by omega) (by omega), bnd_s]
    try simp only [fulI_id, fulI_nil, bnd_s]
    rw [loopT_seq (fun i => (((k : Int), (i : Int), ms, (ms.length : Int), (k : Int)), (p, (n : Int), a, ms, b), (p, (m : Int), a2, ms2, b2), ((0 : Int), (0 : Int)), (p, ((n + m : Nat) : Int)), ((n : Int), (n : Int), genD n n (stM n ms k)), (((n + m : Nat) : Int), ((n + m : Nat) : Int)), ([] : List Int), ([] : List (Int × Int × List Int)), ([] : List Int), (a ++ a2), sumSt n m ms ms2 k, (b ++ b2), genD (n + m) (n + m) (sum1 n (stM n ms k) i 0))) n ?b1 ?b2 ?b3 (FUEL_gt (by omega))]
    case b3 => simp only [sum1_0]; try rfl
    case b2 => simp only; rw [cnd_f (ltN_f (Nat.le_refl _))]; try (simp only [fulI_id, fulI_nil, bnd_s])
    case b1 =>
      intro i hi
      simp only
      rw [cnd_t (ltN_t hi)]
      rw [loopT_seq (fun j => (((k : Int), (i : Int), (j : Int), ms, (ms.length : Int), (k : Int)), (p, (n : Int), a, ms, b), (p, (m : Int), a2, ms2, b2), ((0 : Int), (0 : Int)), (p, ((n + m : Nat) : Int)), ((n : Int), (n : Int), genD n n (stM n ms k)), (((n + m : Nat) : Int), ((n + m : Nat) : Int)), ([] : List Int), ([] : List (Int × Int × List Int)), ([] : List Int), (a ++ a2), sumSt n m ms ms2 k, (b ++ b2), genD (n + m) (n + m) (sum1 n (stM n ms k) i j))) n ?c1 ?c2 ?c3 (FUEL_gt (by omega))]
      case c3 => rfl
      case c2 => simp only; rw [cnd_f (ltN_f (Nat.le_refl _))]; try (simp only [fulI_id, fulI_nil, bnd_s])
      case c1 =>
        intro j hj
        simp only
        rw [cnd_t (ltN_t hj), at_nat (by omega) (by omega) (by omega) hi hj, bnd_s, set_nat (by omega) (by omega) (by omega) (show i < n + m by omega) (show j < n + m by omega)]
        simp only [bnd_s, fulI_gen, addN1 (show j ≤ 1048577 by omega)]
        rw [sum1_step]
      rw [joinK_l]
      simp only [addN1 (show i ≤ 1048577 by omega)]
      rw [sum1_row]
    rw [joinK_l]
    simp only
    rw [loopT_seq (fun i => (((k : Int), (i : Int), ms, (ms.length : Int), (k : Int)), (p, (n : Int), a, ms, b), (p, (m : Int), a2, ms2, b2), ((0 : Int), (0 : Int)), (p, ((n + m : Nat) : Int)), (((n + m : Nat) : Int), ((n + m : Nat) : Int)), ([] : List Int), ([] : List (Int × Int × List Int)), ([] : List Int), (a ++ a2), sumSt n m ms ms2 k, (b ++ b2), genD (n + m) (n + m) (sum2 n (stM n ms k) (stM m ms2 k) i 0))) m ?d1 ?d2 ?d3 (FUEL_gt (by omega))]
    case d3 => simp only [sum12 n (stM n ms k) (stM m ms2 k)]; try rfl
    case d2 => simp only; rw [cnd_f (ltN_f (Nat.le_refl _))]; try (simp only [fulI_id, fulI_nil, bnd_s])
    case d1 =>
      intro i hi
      simp only
      rw [cnd_t (ltN_t hi)]
      rw [loopT_seq (fun j => (((k : Int), (i : Int), (j : Int), ms, (ms.length : Int), (k : Int)), (p, (n : Int), a, ms, b), (p, (m : Int), a2, ms2, b2), ((0 : Int), (0 : Int)), (p, ((n + m : Nat) : Int)), (((n + m : Nat) : Int), ((n + m : Nat) : Int)), ([] : List Int), ([] : List (Int × Int × List Int)), ([] : List Int), (a ++ a2), sumSt n m ms ms2 k, (b ++ b2), genD (n + m) (n + m) (sum2 n (stM n ms k) (stM m ms2 k) i j))) m ?e1 ?e2 ?e3 (FUEL_gt (by omega))]
      case e3 => rfl
      case e2 => simp only; rw [cnd_f (ltN_f (Nat.le_refl _))]; try (simp only [fulI_id, fulI_nil, bnd_s])
      case e1 =>
        intro j hj
        simp only
        rw [cnd_t (ltN_t hj), getI_nat, g3, bnd_s]
        simp only
        rw [at_nat (by omega) (by omega) (by omega) hi hj, bnd_s, addNN (show n + i ≤ 1099511627776 by omega), addNN (show n + j ≤ 1099511627776 by omega), set_nat (by omega) (by omega) (by omega) (show n + i < n + m by omega) (show n + j < n + m by omega)]
        simp only [bnd_s, fulI_gen, addN1 (show j ≤ 1048577 by omega)]
        rw [sum2_step]
      rw [joinK_l]
      simp only [addN1 (show i ≤ 1048577 by omega)]
      rw [sum2_row]
    rw [joinK_l]
    simp only [takI_id, bnd_s]
    rw [sum2_end]
    simp only [show fulI 0 1 (lenN [(((n + m : Nat) : Int), ((n + m : Nat) : Int), genD (n + m) (n + m) (sumM n (stM n ms k) (stM m ms2 k)))]) = some () from rfl, bnd_s]
    rw [fitI_ok (show (addN (lenN (sumSt n m ms ms2 k)) (lenN [(((n + m : Nat) : Int), ((n + m : Nat) : Int), genD (n + m) (n + m) (sumM n (stM n ms k) (stM m ms2 k)))])) * 40 ≤ maxBytes by simp only [addN, lenN, maxBytes, sumSt_len, List.length_cons, List.length_nil]; omega), bnd_s]
    try simp only [fulI_id, fulI_nil, bnd_s, appL_eq, app_len]
    rw [sumSt_succ, joinK_l]
    try simp only [addN1 (show k ≤ 1048577 by omega)]
  rw [joinK_l]
  simp only [takI_id, bnd_s]
end

section
variable {p sg : Int} {n m : Nat} {a b a2 b2 : List Int} {ms ms2 : List Mx3}

theorem tk_step {f : Int → Int} {l xs : List Int} {t : Nat} {x : Int} (h : xs[t]? = some x) : (l ++ (xs.take t).map f) ++ [f x] = l ++ (xs.take (t + 1)).map f := by
  rw [List.take_add_one, h, List.map_append, ← List.append_assoc]
  rfl

theorem idxS {n m i j : Nat} (hn : n ≤ 12) (hm : m ≤ 12) (hi : i < m) (hj : j < m) : addI .i64 (addI .i64 (mulI .i64 (addI .i64 (n : Int) (i : Int)) ((n + m : Nat) : Int)) (n : Int)) (j : Int) = (((n + i) * (n + m) + (n + j) : Nat) : Int) := by
  have h : (n + i) * (n + m) ≤ 24 * 24 := Nat.mul_le_mul (by omega) (by omega)
  rw [addNN (by omega), idxI (by omega) (by omega) (by omega), addNN (by omega), Nat.add_assoc]

theorem g_sumS (H : AutOk p n a ms b) (H2 : AutOk p m a2 ms2 b2) (hms : ms.length = ms2.length) (hsg : 0 ≤ sg ∧ sg ≤ p) :
    G_spec_l34Sum FUEL ((p, (n : Int), a, ms, b), (p, (m : Int), a2, ms2, b2), sg) = some (p, ((n + m : Nat) : Int), a ++ a2, sumSt n m ms ms2 ms.length, b ++ b2.map fun x => x * sg % p) := by
  have hn := H.hn
  have hm := H2.hn
  have h4 := H.l4
  have h3 := H.al
  have h5 := H.bl
  have h6 := H2.al
  have h7 := H2.bl
  have hp := H.p
  have hNN : (n + m) * (n + m) ≤ 24 * 24 := Nat.mul_le_mul (by omega) (by omega)
  have hnn : n * n ≤ 24 * 24 := Nat.mul_le_mul (by omega) (by omega)
  have hmm : m * m ≤ 24 * 24 := Nat.mul_le_mul (by omega) (by omega)
  simp only [G_spec_l34Sum]
  rw [show F_spec_l05Ints a = some a from if_pos (by omega), bnd_s]
  simp only [fulI_id, fulI_nil, bnd_s]
  rw [fitI_ok (show (addN (lenN a) (lenN a2)) * 8 ≤ maxBytes by simp only [addN, lenN, maxBytes]; omega), bnd_s, show F_spec_l05Ints b = some b from if_pos (by omega), bnd_s]
  simp only [fulI_id, fulI_nil, bnd_s, appL_eq, app_len, addNN (show n + m ≤ 1099511627776 by omega), nl]
  rw [loopT_seq (fun t => ((sg, ((n + m : Nat) : Int), b2, (b2.length : Int), (t : Int)), (p, (n : Int), a, ms, b), (p, (m : Int), a2, ms2, b2), ((0 : Int), (0 : Int)), (p, ((n + m : Nat) : Int)), ([] : List Int), ([] : List (Int × Int × List Int)), ([] : List Int), (a ++ a2), ([] : List (Int × Int × List Int)), (b ++ (b2.take t).map fun x => x * sg % p))) b2.length ?z1 ?z2 ?z3 (FUEL_gt (by omega))]
  case z3 => simp only [List.take_zero, List.map_nil, List.append_nil]; try rfl
  case z2 => simp only; rw [cnd_f (ltN_f (Nat.le_refl _))]; try (simp only [fulI_id, fulI_nil, bnd_s])
  case z1 =>
    intro t ht
    have g1 : b2[t]? = some (b2.getD t 0) := get_nat ht
    have i1 := H2.bp _ (List.mem_of_getElem? g1)
    simp only
    rw [cnd_t (ltN_t ht), getI_nat, g1, bnd_s, mulR hp i1.le hsg, bnd_s]
    simp only [fulI_id, fulI_nil, bnd_s, show ∀ y : Int, winI [y] 0 1 = some [y] from fun y => rfl]
    rw [fitI_ok (show (addN (lenN (b ++ (b2.take t).map fun x => x * sg % p)) (lenN [b2.getD t 0 * sg % p])) * 8 ≤ maxBytes by simp only [addN, lenN, maxBytes, List.length_append, List.length_map, List.length_take, List.length_cons, List.length_nil]; omega), bnd_s]
    try simp only [fulI_id, fulI_nil, bnd_s, appL_eq, app_len]
    rw [tk_step (f := fun x => x * sg % p) g1]
    try simp only [addN1 (show t ≤ 1048577 by omega)]
  rw [joinK_l]
  simp only [List.take_length]
  try simp only [fulI_id, fulI_nil, bnd_s]
  rw [loopT_seq (fun k => ((((n + m : Nat) : Int), ms, (ms.length : Int), (k : Int)), (p, (n : Int), a, ms, b), (p, (m : Int), a2, ms2, b2), ((0 : Int), (0 : Int)), (p, ((n + m : Nat) : Int)), ([] : List Int), ([] : List (Int × Int × List Int)), ([] : List Int), (a ++ a2), sumSt n m ms ms2 k, (b ++ b2.map fun x => x * sg % p))) ms.length ?a1 ?a2 ?a3 (FUEL_gt (by omega))]
  case a3 => rfl
  case a2 => simp only; rw [cnd_f (ltN_f (Nat.le_refl _))]; try (simp only [fulI_id, fulI_nil, bnd_s])
  case a1 =>
    intro k hk
    obtain ⟨g1, g2⟩ := stM_get H hk
    obtain ⟨g3, g4⟩ := stM_get H2 (show k < ms2.length by omega)
    simp only
    rw [cnd_t (ltN_t hk), getI_nat, g1, bnd_s]
    simp only
    rw [new_nat (by omega) (by omega) (by omega), bnd_s]
    try simp only [fulI_id, fulI_nil, bnd_s]
    rw [loopT_seq (fun i => ((((n + m : Nat) : Int), (k : Int), (i : Int), ms, (ms.length : Int), (k : Int)), (p, (n : Int), a, ms, b), (p, (m : Int), a2, ms2, b2), ((0 : Int), (0 : Int)), (p, ((n + m : Nat) : Int)), ((n : Int), (n : Int), genD n n (stM n ms k)), (((n + m : Nat) : Int), ((n + m : Nat) : Int)), ([] : List Int), ([] : List (Int × Int × List Int)), ([] : List Int), (a ++ a2), sumSt n m ms ms2 k, (b ++ b2.map fun x => x * sg % p), genD (n + m) (n + m) (sum1 n (stM n ms k) i 0))) n ?b1 ?b2 ?b3 (FUEL_gt (by omega))]
    case b3 => simp only [sum1_0]; try rfl
    case b2 => simp only; rw [cnd_f (ltN_f (Nat.le_refl _))]; try (simp only [fulI_id, fulI_nil, bnd_s])
    case b1 =>
      intro i hi
      simp only
      rw [cnd_t (ltN_t hi)]
      rw [loopT_seq (fun j => ((((n + m : Nat) : Int), (k : Int), (i : Int), (j : Int), ms, (ms.length : Int), (k : Int)), (p, (n : Int), a, ms, b), (p, (m : Int), a2, ms2, b2), ((0 : Int), (0 : Int)), (p, ((n + m : Nat) : Int)), ((n : Int), (n : Int), genD n n (stM n ms k)), (((n + m : Nat) : Int), ((n + m : Nat) : Int)), ([] : List Int), ([] : List (Int × Int × List Int)), ([] : List Int), (a ++ a2), sumSt n m ms ms2 k, (b ++ b2.map fun x => x * sg % p), genD (n + m) (n + m) (sum1 n (stM n ms k) i j))) n ?c1 ?c2 ?c3 (FUEL_gt (by omega))]
      case c3 => rfl
      case c2 => simp only; rw [cnd_f (ltN_f (Nat.le_refl _))]; try (simp only [fulI_id, fulI_nil, bnd_s])
      case c1 =>
        intro j hj
        have i2 : i < n + m := by omega
        have j2 : j < n + m := by omega
        simp only
        rw [cnd_t (ltN_t hj), idxI (by omega) (by omega) (by omega), getI_gen _ hi hj, bnd_s]
        simp only [idxI (show i ≤ 1048576 by omega) (show n + m ≤ 1048576 by omega) (show j ≤ 1048576 by omega), chkI_gen _ i2 j2, bnd_s, addN_0, getN_gen _ i2 j2, setL_gen _ j2, fulI_gen, fulI_id, addN1 (show j ≤ 1048577 by omega)]
        rw [sum1_step]
      rw [joinK_l]
      simp only [addN1 (show i ≤ 1048577 by omega)]
      rw [sum1_row]
    rw [joinK_l]
    simp only
    rw [loopT_seq (fun i => ((((n + m : Nat) : Int), (k : Int), (i : Int), ms, (ms.length : Int), (k : Int)), (p, (n : Int), a, ms, b), (p, (m : Int), a2, ms2, b2), ((0 : Int), (0 : Int)), (p, ((n + m : Nat) : Int)), (((n + m : Nat) : Int), ((n + m : Nat) : Int)), ([] : List Int), ([] : List (Int × Int × List Int)), ([] : List Int), (a ++ a2), sumSt n m ms ms2 k, (b ++ b2.map fun x => x * sg % p), genD (n + m) (n + m) (sum2 n (stM n ms k) (stM m ms2 k) i 0))) m ?d1 ?d2 ?d3 (FUEL_gt (by omega))]
    case d3 => simp only [sum12 n (stM n ms k) (stM m ms2 k)]; try rfl
    case d2 => simp only; rw [cnd_f (ltN_f (Nat.le_refl _))]; try (simp only [fulI_id, fulI_nil, bnd_s])
    case d1 =>
      intro i hi
      simp only
      rw [cnd_t (ltN_t hi)]
      rw [loopT_seq (fun j => ((((n + m : Nat) : Int), (k : Int), (i : Int), (j : Int), ms, (ms.length : Int), (k : Int)), (p, (n : Int), a, ms, b), (p, (m : Int), a2, ms2, b2), ((0 : Int), (0 : Int)), (p, ((n + m : Nat) : Int)), (((n + m : Nat) : Int), ((n + m : Nat) : Int)), ([] : List Int), ([] : List (Int × Int × List Int)), ([] : List Int), (a ++ a2), sumSt n m ms ms2 k, (b ++ b2.map fun x => x * sg % p), genD (n + m) (n + m) (sum2 n (stM n ms k) (stM m ms2 k) i j))) m ?e1 ?e2 ?e3 (FUEL_gt (by omega))]
      case e3 => rfl
      case e2 => simp only; rw [cnd_f (ltN_f (Nat.le_refl _))]; try (simp only [fulI_id, fulI_nil, bnd_s])
      case e1 =>
        intro j hj
        have i2 : n + i < n + m := by omega
        have j2 : n + j < n + m := by omega
        simp only
        rw [cnd_t (ltN_t hj), getI_nat, g3, bnd_s]
        simp only
        rw [idxI (by omega) (by omega) (by omega), getI_gen _ hi hj, bnd_s]
        simp only [idxS hn hm hi hj, chkI_gen _ i2 j2, bnd_s, addN_0, getN_gen _ i2 j2, setL_gen _ j2, fulI_gen, fulI_id, addN1 (show j ≤ 1048577 by omega)]
        rw [sum2_step]
      rw [joinK_l]
      simp only [addN1 (show i ≤ 1048577 by omega)]
      rw [sum2_row]
    rw [joinK_l]
    simp only [takI_id, bnd_s]
    rw [sum2_end]
    simp only [show fulI 0 1 (lenN [(((n + m : Nat) : Int), ((n + m : Nat) : Int), genD (n + m) (n + m) (sumM n (stM n ms k) (stM m ms2 k)))]) = some () from rfl, bnd_s]
    rw [fitI_ok (show (addN (lenN (sumSt n m ms ms2 k)) (lenN [(((n + m : Nat) : Int), ((n + m : Nat) : Int), genD (n + m) (n + m) (sumM n (stM n ms k) (stM m ms2 k)))])) * 40 ≤ maxBytes by simp only [addN, lenN, maxBytes, sumSt_len, List.length_cons, List.length_nil]; omega), bnd_s]
    try simp only [fulI_id, fulI_nil, bnd_s, appL_eq, app_len]
    rw [sumSt_succ, joinK_l]
    try simp only [addN1 (show k ≤ 1048577 by omega)]
  rw [joinK_l]
  simp only [takI_id, bnd_s]
end

theorem alikeB_nat {x y : Aut} (h : alikeB x y = true) : ∃ (p : Int) (n m : Nat) (a b a2 b2 : List Int) (ms ms2 : List Mx3), x = (p, (n : Int), a, ms, b) ∧ y = (p, (m : Int), a2, ms2, b2) ∧ AutOk p n a ms b ∧ AutOk p m a2 ms2 b2 ∧ ms.length = ms2.length := by
  simp only [alikeB, Bool.and_eq_true, decide_eq_true_eq] at h
  obtain ⟨h1, h2, h3, h4⟩ := h
  obtain ⟨p, n, a, ms, b, rfl, H⟩ := autOk_nat h1
  obtain ⟨q, m, a2, ms2, b2, rfl, H2⟩ := autOk_nat h2
  simp only at h3 h4
  subst h3
  exact ⟨p, n, m, a, b, a2, b2, ms, ms2, rfl, rfl, H, H2, h4⟩

theorem f_spec_l34Alike (x : Aut × Aut) (y : Bool) (h : F_spec_l34Alike x = some y) : G_spec_l34Alike FUEL x = some y := by
  obtain ⟨x, z⟩ := x
  simp only [F_spec_l34Alike] at h
  split at h
  · rename_i hl
    rw [← h]
    have e1 : F_spec_AutomatonOk x = some (autOk x) := if_pos hl.1
    have e2 : F_spec_AutomatonOk z = some (autOk z) := if_pos hl.2
    obtain ⟨x0, x1, x2, x3, x4⟩ := x
    obtain ⟨z0, z1, z2, z3, z4⟩ := z
    simp only [G_spec_l34Alike, e1, e2, bnd_s, alikeB]
    cases autOk (x0, x1, x2, x3, x4) with
    | false => rfl
    | true =>
      cases autOk (z0, z1, z2, z3, z4) with
      | false => rfl
      | true =>
        simp only [cnd_true, Bool.true_and]
        by_cases e : x0 = z0
        · rw [cnd_t (by simp [eqI, e]), decide_eq_true e, Bool.true_and]
          congr 1
          rw [nl, nl, eqI]
          rw [Bool.eq_iff_iff]
          simp
          constructor <;> (intro h; omega)
        · rw [cnd_f (by simp [eqI, e]), decide_eq_false e, Bool.false_and]
  · cases h
theorem f_impl_sameLetters (x : Aut × Aut) (y : Bool) (h : F_impl_sameLetters x = some y) : G_impl_sameLetters FUEL x = some y := by
  obtain ⟨x, z⟩ := x
  simp only [F_impl_sameLetters, F_spec_l34Alike] at h
  split at h
  · rename_i hl
    rw [← h]
    have e1 : F_impl_AutomatonOk x = some (autOk x) := if_pos hl.1
    have e2 : F_impl_AutomatonOk z = some (autOk z) := if_pos hl.2
    obtain ⟨x0, x1, x2, x3, x4⟩ := x
    obtain ⟨z0, z1, z2, z3, z4⟩ := z
    simp only [G_impl_sameLetters, e1, e2, bnd_s, alikeB]
    cases autOk (x0, x1, x2, x3, x4) with
    | false => rfl
    | true =>
      cases autOk (z0, z1, z2, z3, z4) with
      | false => rfl
      | true =>
        simp only [cnd_true, Bool.true_and]
        by_cases e : x0 = z0
        · rw [cnd_t (by simp [eqI, e]), decide_eq_true e, Bool.true_and]
          congr 1
          rw [nl, nl, eqI]
          rw [Bool.eq_iff_iff]
          simp
          constructor <;> (intro h; omega)
        · rw [cnd_f (by simp [eqI, e]), decide_eq_false e, Bool.false_and]
  · cases h

theorem mul1_map {p : Int} {l : List Int} (h : allP p l) : (l.map fun v => v * 1 % p) = l := by
  have : ∀ v ∈ l, v * 1 % p = v := fun v hv => by rw [Int.mul_one]; exact Int.emod_eq_of_lt (h v hv).1 (h v hv).2
  rw [List.map_congr_left this, List.map_id']

theorem f_spec_l34Sum (x : Aut × Aut × Int) (y : Aut) (h : F_spec_l34Sum x = some y) : G_spec_l34Sum FUEL x = some y := by
  obtain ⟨x, z, sg⟩ := x
  simp only [F_spec_l34Sum] at h
  split at h
  · rename_i hc
    obtain ⟨p, n, m, a, b, a2, b2, ms, ms2, rfl, rfl, H, H2, hl⟩ := alikeB_nat hc.1
    rw [← h]
    exact g_sumS H H2 hl hc.2
  · cases h
theorem f_impl_rawAddAutomata (x : Aut × Aut) (y : Aut) (h : F_impl_rawAddAutomata x = some y) : G_impl_rawAddAutomata FUEL x = some y := by
  obtain ⟨x, z⟩ := x
  simp only [F_impl_rawAddAutomata] at h
  split at h
  · rename_i hc
    obtain ⟨p, n, m, a, b, a2, b2, ms, ms2, rfl, rfl, H, H2, hl⟩ := alikeB_nat hc
    rw [← h, g_rawAdd H H2 hl]
    simp only [sumX, Int.toNat_natCast, mul1_map H2.bp]
  · cases h

theorem f_spec_AddAutomata (x : Aut × Aut) (y : Aut × Bool) (h : F_spec_AddAutomata x = some y) : G_spec_AddAutomata FUEL x = some y := by
  obtain ⟨x, z⟩ := x
  simp only [F_spec_AddAutomata] at h
  split at h
  · rename_i hl
    rw [← h]
    have e0 : F_spec_l34Alike (x, z) = some (alikeB x z) := if_pos hl
    cases hb : alikeB x z with
    | false =>
      obtain ⟨x0, x1, x2, x3, x4⟩ := x
      obtain ⟨z0, z1, z2, z3, z4⟩ := z
      simp only [G_spec_AddAutomata, e0, bnd_s, hb]
      rfl
    | true =>
      have hb' := hb
      rw [hb] at e0
      obtain ⟨p, n, m, a, b, a2, b2, ms, ms2, rfl, rfl, H, H2, hl2⟩ := alikeB_nat hb
      have hn := H.hn
      have hm := H2.hn
      have hp := H.p
      simp only [G_spec_AddAutomata, e0, bnd_s]
      rw [cnd_f (by rfl), addNN (show n + m ≤ 1099511627776 by omega)]
      by_cases h12 : n + m ≤ 12
      · rw [cnd_f (ltI_f (by omega)), if_pos (show _ ∧ _ from ⟨by first | trivial | rfl, by show (n : Int) + (m : Int) ≤ 12; omega⟩)]
        rw [show F_spec_l34Sum ((p, (n : Int), a, ms, b), (p, (m : Int), a2, ms2, b2), 1) = some _ from if_pos ⟨hb', by constructor; (show (0 : Int) ≤ 1; omega); have := hp.1; show (1 : Int) ≤ p; omega⟩, bnd_s]
        simp only [sumX, takI_id, bnd_s]
      · rw [cnd_t (ltI_t (by omega)), if_neg (fun h => h12 (by have h2 : (n : Int) + (m : Int) ≤ 12 := h.2; omega))]
  · cases h
theorem f_impl_AddAutomata (x : Aut × Aut) (y : Aut × Bool) (h : F_impl_AddAutomata x = some y) : G_impl_AddAutomata FUEL x = some y := by
  obtain ⟨x, z⟩ := x
  simp only [F_impl_AddAutomata, F_spec_AddAutomata] at h
  split at h
  · rename_i hl
    rw [← h]
    have e0 : F_impl_sameLetters (x, z) = some (alikeB x z) := if_pos hl
    cases hb : alikeB x z with
    | false =>
      obtain ⟨x0, x1, x2, x3, x4⟩ := x
      obtain ⟨z0, z1, z2, z3, z4⟩ := z
      simp only [G_impl_AddAutomata, e0, bnd_s, hb]
      rfl
    | true =>
      have hb' := hb
      rw [hb] at e0
      obtain ⟨p, n, m, a, b, a2, b2, ms, ms2, rfl, rfl, H, H2, hl2⟩ := alikeB_nat hb
      have hn := H.hn
      have hm := H2.hn
      simp only [G_impl_AddAutomata, e0, bnd_s]
      rw [cnd_f (by rfl), addNN (show n + m ≤ 1099511627776 by omega)]
      by_cases h12 : n + m ≤ 12
      · rw [cnd_f (ltI_f (by omega)), if_pos (show _ ∧ _ from ⟨by first | trivial | rfl, by show (n : Int) + (m : Int) ≤ 12; omega⟩)]
        rw [show F_impl_rawAddAutomata ((p, (n : Int), a, ms, b), (p, (m : Int), a2, ms2, b2)) = some _ from if_pos hb', bnd_s]
        simp only [sumX, takI_id, bnd_s]
      · rw [cnd_t (ltI_t (by omega)), if_neg (fun h => h12 (by have h2 : (n : Int) + (m : Int) ≤ 12 := h.2; omega))]
  · cases h
end Go.Am
end
