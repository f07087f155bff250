/- Mx, M1, M4, M6, M7, M8, M9, Fm, M14, M15, M16, M17, M18: parts of the proof. No condition. -/
import Derived.Test.YtckmnjojabgnoaaMT
set_option linter.unusedVariables false
set_option linter.unusedSimpArgs false
section
namespace Go.Am

/-! ### loops -/

/-! ### matrices -/

def genD (r c : Nat) (M : Nat → Nat → Int) : List Int := (List.range (r * c)).map fun n => M (n / c) (n % c)
def ofD (c : Nat) (l : List Int) : Nat → Nat → Int := fun i j => l.getD (i * c + j) 0
def updM (M : Nat → Nat → Int) (i j : Nat) (x : Int) : Nat → Nat → Int := fun a b => if a = i ∧ b = j then x else M a b

theorem idx_lt {r c i j : Nat} (hi : i < r) (hj : j < c) : i * c + j < r * c := by
  have : (i + 1) * c ≤ r * c := Nat.mul_le_mul_right _ hi
  rw [Nat.add_mul] at this
  omega
theorem idx_div {c i j : Nat} (hj : j < c) : (i * c + j) / c = i := by
  rw [Nat.mul_comm, Nat.mul_add_div (by omega), Nat.div_eq_of_lt hj, Nat.add_zero]
theorem idx_mod {c i j : Nat} (hj : j < c) : (i * c + j) % c = j := by
  rw [Nat.mul_comm, Nat.mul_add_mod, Nat.mod_eq_of_lt hj]
theorem idx_inj {c i j i' j' : Nat} (hj : j < c) (hj' : j' < c) (h : i * c + j = i' * c + j') : i = i' ∧ j = j' := by
  have h1 := idx_div (i := i) hj
  have h2 := idx_div (i := i') hj'
  have h3 := idx_mod (i := i) hj
  have h4 := idx_mod (i := i') hj'
  rw [h] at h1 h3
  exact ⟨h1.symm.trans h2, h3.symm.trans h4⟩

theorem genD_len (r c : Nat) (M : Nat → Nat → Int) : (genD r c M).length = r * c := by simp [genD]
theorem genD_get {r c i j : Nat} (M : Nat → Nat → Int) (hi : i < r) (hj : j < c) : (genD r c M)[i * c + j]? = some (M i j) := by
  unfold genD
  rw [List.getElem?_map, List.getElem?_range (idx_lt hi hj)]
  simp [idx_div hj, idx_mod hj]
theorem genD_congr {r c : Nat} {M M' : Nat → Nat → Int} (h : ∀ i, i < r → ∀ j, j < c → M i j = M' i j) : genD r c M = genD r c M' := by
  unfold genD
  refine List.map_congr_left fun n hn => ?_
  have hn := List.mem_range.1 hn
  have hc : 0 < c := by
    rcases Nat.eq_zero_or_pos c with h | h
    · subst h; simp at hn
    · exact h
  exact h _ ((Nat.div_lt_iff_lt_mul hc).2 hn) _ (Nat.mod_lt _ hc)
theorem genD_set {r c i j : Nat} (M : Nat → Nat → Int) (hj : j < c) (x : Int) : (genD r c M).set (i * c + j) x = genD r c (updM M i j x) := by
  apply List.ext_getElem?
  intro n
  rw [List.getElem?_set, genD_len]
  unfold genD
  simp only [List.getElem?_map]
  by_cases hn : n < r * c
  · rw [List.getElem?_range hn]
    have hc : 0 < c := by omega
    by_cases he : i * c + j = n
    · rw [if_pos he, if_pos (by omega)]
      subst he
      simp [updM, idx_div hj, idx_mod hj]
    · rw [if_neg he]
      simp only [Option.map_some, updM]
      rw [if_neg]
      rintro ⟨h1, h2⟩
      apply he
      rw [← h1, ← h2]
      have := Nat.div_add_mod n c
      rw [Nat.mul_comm] at this
      exact this
  · rw [List.getElem?_eq_none (by simp; omega)]
    by_cases he : i * c + j = n
    · rw [if_pos he, if_neg (by omega)]; rfl
    · rw [if_neg he]; rfl
theorem genD_of {r c : Nat} {l : List Int} (h : l.length = r * c) : genD r c (ofD c l) = l := by
  apply List.ext_getElem?
  intro n
  unfold genD
  simp only [List.getElem?_map]
  by_cases hn : n < r * c
  · rw [List.getElem?_range hn, List.getElem?_eq_getElem (by omega)]
    simp only [Option.map_some, ofD]
    have := Nat.div_add_mod n c
    rw [Nat.mul_comm] at this
    rw [this, List.getD_eq_getElem?_getD, List.getElem?_eq_getElem (by omega)]
    rfl
  · rw [List.getElem?_eq_none (by simp; omega), List.getElem?_eq_none (by omega)]
    rfl
theorem ofD_gen {r c i j : Nat} (M : Nat → Nat → Int) (hi : i < r) (hj : j < c) : ofD c (genD r c M) i j = M i j := by
  unfold ofD
  rw [List.getD_eq_getElem?_getD, genD_get M hi hj]
  rfl
theorem genD_rep (r c : Nat) (x : Int) : repL (r * c) x = genD r c (fun _ _ => x) := by
  unfold genD repL
  rw [List.map_const', List.length_range]
/-! ### indices as the program computes them -/

theorem idxI {i c j : Nat} (hi : i ≤ 1048576) (hc : c ≤ 1048576) (hj : j ≤ 1048576) : addI .i64 (mulI .i64 (i : Int) (c : Int)) (j : Int) = ((i * c + j : Nat) : Int) := by
  have h1 : i * c ≤ 1048576 * 1048576 := Nat.mul_le_mul hi hc
  have e : (i : Int) * (c : Int) = ((i * c : Nat) : Int) := by norm_cast
  rw [mulI, wrap_id (by omega) (by omega), addI_eq (by omega) (by omega), e]
  omega
theorem mulN {i c : Nat} (hi : i ≤ 1048576) (hc : c ≤ 1048576) : mulI .i64 (i : Int) (c : Int) = ((i * c : Nat) : Int) := by
  have h1 : i * c ≤ 1048576 * 1048576 := Nat.mul_le_mul hi hc
  have e : (i : Int) * (c : Int) = ((i * c : Nat) : Int) := by norm_cast
  rw [mulI, wrap_id (by omega) (by omega), e]
theorem getI_gen {r c i j : Nat} (M : Nat → Nat → Int) (hi : i < r) (hj : j < c) : getI (genD r c M) ((i * c + j : Nat) : Int) = some (M i j) := by rw [getI_nat, genD_get M hi hj]
theorem chkI_gen {r c i j : Nat} (M : Nat → Nat → Int) (hi : i < r) (hj : j < c) : chkI ((i * c + j : Nat) : Int) (lenN (genD r c M)) = some (i * c + j) := chkI_nat (by unfold lenN; rw [genD_len]; exact idx_lt hi hj)
theorem getN_gen {r c i j : Nat} (M : Nat → Nat → Int) (hi : i < r) (hj : j < c) : getN (genD r c M) (i * c + j) = some (M i j) := genD_get M hi hj
theorem setL_gen {r c i j : Nat} (M : Nat → Nat → Int) (hj : j < c) (x : Int) : setL (genD r c M) (i * c + j) x = genD r c (updM M i j x) := genD_set M hj x
theorem lenN_gen (r c : Nat) (M : Nat → Nat → Int) : lenN (genD r c M) = r * c := genD_len r c M
theorem fulI_gen (r c : Nat) (M M' : Nat → Nat → Int) : fulI 0 (lenN (genD r c M)) (lenN (genD r c M')) = some () := by rw [lenN_gen, lenN_gen]; exact fulI_id _
theorem samI_gen (r c : Nat) (M M' : Nat → Nat → Int) : samI (lenN (genD r c M)) (lenN (genD r c M')) = some () := by rw [lenN_gen, lenN_gen]; exact samI_ok rfl
theorem remN {a p : Int} (ha : 0 ≤ a) (hp : 0 < p) : remI a p = some (a % p) := by
  unfold remI
  rw [if_neg (by omega), Int.tmod_eq_emod_of_nonneg ha]
theorem ltN_t {i n : Nat} (h : i < n) : ltI (i : Int) (n : Int) = true := ltI_t (by omega)
theorem ltN_f {i n : Nat} (h : n ≤ i) : ltI (i : Int) (n : Int) = false := ltI_f (by omega)
theorem addN1 {i : Nat} (h : i ≤ 1048577) : addI .i64 (i : Int) 1 = ((i + 1 : Nat) : Int) := by rw [addI_eq (by omega) (by omega)]; omega

/-- Products modulo p. -/
def pOk (p : Int) : Prop := 2 ≤ p ∧ p ≤ 1000003
instance (p : Int) : Decidable (pOk p) := inferInstanceAs (Decidable (2 ≤ p ∧ p ≤ 1000003))
def inP (p x : Int) : Prop := 0 ≤ x ∧ x < p
instance (p x : Int) : Decidable (inP p x) := inferInstanceAs (Decidable (0 ≤ x ∧ x < p))

theorem emod_in {p : Int} (hp : pOk p) (a : Int) : inP p (a % p) := ⟨Int.emod_nonneg _ (by have := hp.1; omega), Int.emod_lt_of_pos _ (by have := hp.1; omega)⟩
theorem inP.le {p x : Int} (h : inP p x) : 0 ≤ x ∧ x ≤ p := ⟨h.1, Int.le_of_lt h.2⟩
theorem inP.s {p x : Int} (hp : pOk p) (h : inP p x) : 0 ≤ x ∧ x ≤ 1000003000000 := ⟨h.1, by have := h.2; have := hp.2; omega⟩
theorem prod_in {p a b : Int} (hp : pOk p) (ha : 0 ≤ a ∧ a ≤ p) (hb : 0 ≤ b ∧ b ≤ p) : 0 ≤ a * b ∧ a * b ≤ 1000006000009 := by
  refine ⟨Int.mul_nonneg ha.1 hb.1, ?_⟩
  have h1 := hp.2
  have := Int.mul_le_mul (show a ≤ 1000003 by omega) (show b ≤ 1000003 by omega) hb.1 (by omega)
  omega
theorem mulI_in {p a b : Int} (hp : pOk p) (ha : 0 ≤ a ∧ a ≤ p) (hb : 0 ≤ b ∧ b ≤ p) : mulI .i64 a b = a * b := by
  have := prod_in hp ha hb
  exact wrap_id (by omega) (by omega)
theorem mulR {p a b : Int} (hp : pOk p) (ha : 0 ≤ a ∧ a ≤ p) (hb : 0 ≤ b ∧ b ≤ p) : remI (mulI .i64 a b) p = some (a * b % p) := by
  have h := prod_in hp ha hb
  rw [mulI_in hp ha hb, remN h.1 (by have := hp.1; omega)]

/-- All of a matrix's elements are modulo p. -/
def inM (p : Int) (r c : Nat) (M : Nat → Nat → Int) : Prop := ∀ i, i < r → ∀ j, j < c → inP p (M i j)

def allP (p : Int) (l : List Int) : Prop := ∀ x ∈ l, inP p x
instance (p : Int) (l : List Int) : Decidable (allP p l) := inferInstanceAs (Decidable (∀ x ∈ l, inP p x))

theorem allP_gen {p : Int} {r c : Nat} {M : Nat → Nat → Int} : allP p (genD r c M) ↔ inM p r c M := by
  constructor
  · intro h i hi j hj
    exact h _ (List.mem_of_getElem? (genD_get M hi hj))
  · intro h x hx
    unfold genD at hx
    obtain ⟨n, hn, rfl⟩ := List.mem_map.1 hx
    have hn := List.mem_range.1 hn
    have hc : 0 < c := by
      rcases Nat.eq_zero_or_pos c with h | h
      · subst h; simp at hn
      · exact h
    exact h _ ((Nat.div_lt_iff_lt_mul hc).2 hn) _ (Nat.mod_lt _ hc)

/-- A matrix as the program has it. -/
def mOk (x : Int × Int × List Int) : Prop := (0 ≤ x.1 ∧ x.1 ≤ 4096) ∧ (0 ≤ x.2.1 ∧ x.2.1 ≤ 4096) ∧ (x.2.2.length : Int) = x.1 * x.2.1 ∧ x.2.2.length ≤ 1048576
instance (x : Int × Int × List Int) : Decidable (mOk x) := by unfold mOk; infer_instance

/-- What a matrix is. -/
theorem mOk_gen {x : Int × Int × List Int} (h : mOk x) : ∃ (r c : Nat) (M : Nat → Nat → Int), x = ((r : Int), (c : Int), genD r c M) ∧ r ≤ 4096 ∧ c ≤ 4096 ∧ r * c ≤ 1048576 := by
  obtain ⟨r, c, l⟩ := x
  obtain ⟨h1, h2, h3, h4⟩ := h
  simp only at h1 h2 h3 h4
  obtain ⟨r, rfl⟩ := natI_eq h1.1
  obtain ⟨c, rfl⟩ := natI_eq h2.1
  have e : l.length = r * c := by
    have : ((r : Int) * (c : Int)) = ((r * c : Nat) : Int) := by norm_cast
    rw [this] at h3; exact_mod_cast h3
  exact ⟨r, c, ofD c l, by rw [genD_of e], by omega, by omega, by omega⟩

theorem mOk_mk {r c : Nat} (M : Nat → Nat → Int) (hr : r ≤ 4096) (hc : c ≤ 4096) (h : r * c ≤ 1048576) : mOk ((r : Int), (c : Int), genD r c M) := by
  refine ⟨⟨by omega, by show (r : Int) ≤ 4096; omega⟩, ⟨by show (0 : Int) ≤ c; omega, by show (c : Int) ≤ 4096; omega⟩, ?_, ?_⟩
  · simp only [genD_len]; norm_cast
  · simp only [genD_len]; exact h

end Go.Am
end
section
namespace Go.Am
def F_spec_l01In : Int × Int × Int → Option Bool := fun ((a, b, c) : Int × Int × Int) => some (decide (b ≤ a ∧ a ≤ c))
def ag_spec_l01In : Sig := [(.one, [.int .i64]), (.one, [.int .i64]), (.one, [.int .i64])]
def rs_spec_l01In : Sig := [(.one, [.bool])]
def mu_spec_l01In : MSig := []
def G_spec_l01In (NN : Nat) : (Int × (Int × Int)) → (Option Bool) :=
 (fun ((i0, i1, i2) : (Int × (Int × Int))) =>
 cnd (leI i1 i0)
 (some (leI i0 i2))
 (some false))

theorem f_spec_l01In (x : Int × Int × Int) (y : Bool) (h : F_spec_l01In x = some y) : G_spec_l01In FUEL x = some y := by
  obtain ⟨a, b, c⟩ := x
  rw [← h]
  simp only [F_spec_l01In, G_spec_l01In, leI]
  by_cases hc : b ≤ a <;> simp [hc, cnd]

end Go.Am
end
section
namespace Go.Am

/-! ### primes, rows, matrices, automata -/

def divAt (n : Int) (i : Nat) : Bool := decide ((i : Int) * i ≤ n) && decide (n % (i : Int) = 0)
def isPrimeI (n : Int) : Bool := decide (2 ≤ n ∧ n ≤ 1000003) && !((List.range' 2 999).any (divAt n))
def F_spec_IsPrime : Int → Option Bool := fun (n : Int) => some (isPrimeI n)
def F_impl_IsPrime : Int → Option Bool := fun (n : Int) => some (isPrimeI n)
def inB (m : Int) (v : Int) : Bool := decide (0 ≤ v ∧ v < m)
def rowOk (m : Int) (l : List Int) : Bool := l.all (inB m)
def F_impl_inMod : Int × List Int → Option Bool := fun ((m, l) : Int × List Int) => if l.length ≤ 1048576 then some (rowOk m l) else none
def F_spec_l34Row : Int × List Int × Int → Option Bool := fun ((m, l, n) : Int × List Int × Int) => if (1 ≤ m ∧ m ≤ 1000003) ∧ l.length ≤ 1048576 then some (rowOk m l && decide ((l.length : Int) = n)) else none
def matOk (m : Int) (x : Int × Int × List Int) : Bool := isPrimeI m && (decide (0 ≤ x.1 ∧ x.1 ≤ 64) && (decide (0 ≤ x.2.1 ∧ x.2.1 ≤ 64) && (decide ((x.2.2.length : Int) = x.1 * x.2.1) && rowOk m x.2.2)))
def F_spec_MatrixOk : Int × Int × Int × List Int → Option Bool := fun ((m, x) : Int × Int × Int × List Int) => if sz_Matrix x ≤ 1048576 then some (matOk m x) else none
def F_impl_MatrixOk : Int × Int × Int × List Int → Option Bool := fun ((m, x) : Int × Int × Int × List Int) => if sz_Matrix x ≤ 1048576 then some (matOk m x) else none
def matsOk (m n : Int) (x : Int × Int × List Int) : Bool := matOk m x && (decide (x.1 = n) && decide (x.2.1 = n))
def autOk (x : Int × Int × List Int × List (Int × Int × List Int) × List Int) : Bool := match x with
  | (m, n, a, ms, b) => isPrimeI m && (decide (0 ≤ n ∧ n ≤ 12) && ((rowOk m a && decide ((a.length : Int) = n)) && ((rowOk m b && decide ((b.length : Int) = n)) && (decide (1 ≤ ms.length ∧ ms.length ≤ 4) && ms.all (matsOk m n)))))
def F_spec_AutomatonOk : Int × Int × List Int × List (Int × Int × List Int) × List Int → Option Bool := fun x => if sz_Automaton x ≤ 1048576 then some (autOk x) else none
def F_impl_AutomatonOk : Int × Int × List Int × List (Int × Int × List Int) × List Int → Option Bool := fun x => if sz_Automaton x ≤ 1048576 then some (autOk x) else none

def ag_spec_IsPrime : Sig := [(.one, [.int .i64])]
def rs_spec_IsPrime : Sig := [(.one, [.bool])]
def mu_spec_IsPrime : MSig := []
def ag_spec_l34Row : Sig := [(.one, [.int .i64]), (.one, [.list [.int .i64]]), (.one, [.int .i64])]
def rs_spec_l34Row : Sig := [(.one, [.bool])]
def mu_spec_l34Row : MSig := []
def ag_spec_MatrixOk : Sig := [(.one, [.int .i64]), (.agg, [.int .i64, .int .i64, .list [.int .i64]])]
def rs_spec_MatrixOk : Sig := [(.one, [.bool])]
def mu_spec_MatrixOk : MSig := []
def ag_spec_AutomatonOk : Sig := [(.agg, [.int .i64, .int .i64, .list [.int .i64], .list [.int .i64, .int .i64, .list [.int .i64]], .list [.int .i64]])]
def rs_spec_AutomatonOk : Sig := [(.one, [.bool])]
def mu_spec_AutomatonOk : MSig := []
def ag_impl_IsPrime : Sig := [(.one, [.int .i64])]
def rs_impl_IsPrime : Sig := [(.one, [.bool])]
def mu_impl_IsPrime : MSig := []
def ag_impl_inMod : Sig := [(.one, [.int .i64]), (.one, [.list [.int .i64]])]
def rs_impl_inMod : Sig := [(.one, [.bool])]
def mu_impl_inMod : MSig := []
def ag_impl_MatrixOk : Sig := [(.one, [.int .i64]), (.agg, [.int .i64, .int .i64, .list [.int .i64]])]
def rs_impl_MatrixOk : Sig := [(.one, [.bool])]
def mu_impl_MatrixOk : MSig := []
def ag_impl_AutomatonOk : Sig := [(.agg, [.int .i64, .int .i64, .list [.int .i64], .list [.int .i64, .int .i64, .list [.int .i64]], .list [.int .i64]])]
def rs_impl_AutomatonOk : Sig := [(.one, [.bool])]
def mu_impl_AutomatonOk : MSig := []

def G_spec_IsPrime (NN : Nat) : Int → (Option Bool) :=
 (fun (i0 : Int) =>
 joinK (loopT NN (fun ((i1, i2) : (Int × Int)) =>
 cnd (leI (mulI .i64 i2 i2) i1)
 (cnd (leI i1 (1000003 : Int))
 ((remI i1 i2).bnd (fun (i3 : Int) =>
 cnd (eqI i3 (0 : Int))
 (some (Sum.inr (Sum.inr false)))
 (some (Sum.inl (i1, addI .i64 i2 (1 : Int))))))
 (some (Sum.inr (Sum.inl i1))))
 (some (Sum.inr (Sum.inl i1))))
 (i0, (2 : Int)))
 (fun (i4 : Int) =>
 (F_spec_l01In (i4, (2 : Int), (1000003 : Int))).bnd (fun (b5 : Bool) =>
 some b5)))

def G_spec_l34Row (NN : Nat) : (Int × ((List Int) × Int)) → (Option Bool) :=
 (fun ((i0, l1, i2) : (Int × ((List Int) × Int))) =>
 joinK (loopT NN (fun ((i3, l4, i5, l6, i7, i8) : (Int × ((List Int) × (Int × ((List Int) × (Int × Int)))))) =>
 cnd (ltI i8 i7)
 ((getI l6 i8).bnd (fun (i9 : Int) =>
 (F_spec_l01In (i9, (0 : Int), subI .i64 i3 (1 : Int))).bnd (fun (b10 : Bool) =>
 cnd (notB b10)
 (some (Sum.inr (Sum.inr false)))
 (some (Sum.inl (i3, l4, i5, l6, i7, addI .i64 i8 (1 : Int)))))))
 (some (Sum.inr (Sum.inl (l4, i5)))))
 (i0, l1, i2, l1, natI (lenN l1), (0 : Int)))
 (fun ((l11, i12) : ((List Int) × Int)) =>
 some (eqI (natI (lenN l11)) i12)))

def G_spec_MatrixOk (NN : Nat) : (Int × (Int × (Int × (List Int)))) → (Option Bool) :=
 (fun ((i0, i1, i2, l3) : (Int × (Int × (Int × (List Int))))) =>
 (F_spec_IsPrime i0).bnd (fun (b4 : Bool) =>
 cnd (notB b4)
 (some false)
 ((F_spec_l01In (i1, (0 : Int), (64 : Int))).bnd (fun (b5 : Bool) =>
 cnd (notB b5)
 (some false)
 ((F_spec_l01In (i2, (0 : Int), (64 : Int))).bnd (fun (b6 : Bool) =>
 cnd (notB b6)
 (some false)
 (cnd (neI (natI (lenN l3)) (mulI .i64 i1 i2))
 (some false)
 (joinK (loopT NN (fun ((i7, l8, i9, i10) : (Int × ((List Int) × (Int × Int)))) =>
 cnd (ltI i10 i9)
 ((getI l8 i10).bnd (fun (i11 : Int) =>
 (F_spec_l01In (i11, (0 : Int), subI .i64 i7 (1 : Int))).bnd (fun (b12 : Bool) =>
 cnd (notB b12)
 (some (Sum.inr (Sum.inr false)))
 (some (Sum.inl (i7, l8, i9, addI .i64 i10 (1 : Int)))))))
 (some (Sum.inr (Sum.inl ()))))
 (i0, l3, natI (lenN l3), (0 : Int)))
 (fun (_ : Unit) =>
 some true)))))))))

def G_spec_AutomatonOk (NN : Nat) : (Int × (Int × ((List Int) × ((List (Int × (Int × (List Int)))) × (List Int))))) → (Option Bool) :=
 (fun ((i0, i1, l2, l3, l4) : (Int × (Int × ((List Int) × ((List (Int × (Int × (List Int)))) × (List Int)))))) =>
 (F_spec_IsPrime i0).bnd (fun (b5 : Bool) =>
 cnd (notB b5)
 (some false)
 ((F_spec_l01In (i1, (0 : Int), (12 : Int))).bnd (fun (b6 : Bool) =>
 cnd (notB b6)
 (some false)
 ((F_spec_l34Row (i0, l2, i1)).bnd (fun (b7 : Bool) =>
 cnd (notB b7)
 (some false)
 ((F_spec_l34Row (i0, l4, i1)).bnd (fun (b8 : Bool) =>
 cnd (notB b8)
 (some false)
 ((F_spec_l01In (natI (lenN l3), (1 : Int), (4 : Int))).bnd (fun (b9 : Bool) =>
 cnd (notB b9)
 (some false)
 (joinK (loopT NN (fun (((l10, i11, i12), i13, i14, l15, l16, l17) : (((List (Int × (Int × (List Int)))) × (Int × Int)) × (Int × (Int × ((List Int) × ((List (Int × (Int × (List Int)))) × (List Int))))))) =>
 cnd (ltI i12 i11)
 ((getI l10 i12).bnd (fun ((i18, i19, l20) : (Int × (Int × (List Int)))) =>
 (F_spec_MatrixOk (i13, i18, i19, l20)).bnd (fun (b21 : Bool) =>
 cnd (notB b21)
 (some (Sum.inr (Sum.inr false)))
 (cnd (neI i18 i14)
 (some (Sum.inr (Sum.inr false)))
 (cnd (neI i19 i14)
 (some (Sum.inr (Sum.inr false)))
 (some (Sum.inl ((l10, i11, addI .i64 i12 (1 : Int)), i13, i14, l15, l16, l17))))))))
 (some (Sum.inr (Sum.inl ()))))
 ((l3, natI (lenN l3), (0 : Int)), i0, i1, l2, l3, l4))
 (fun (_ : Unit) =>
 some true))))))))))))

def G_impl_IsPrime (NN : Nat) : Int → (Option Bool) :=
 (fun (i0 : Int) =>
 cnd (ltI i0 (2 : Int))
 (some false)
 (cnd (ltI (1000003 : Int) i0)
 (some false)
 (joinK (loopT NN (fun ((i1, i2) : (Int × Int)) =>
 cnd (leI (mulI .i64 i2 i2) i1)
 ((remI i1 i2).bnd (fun (i3 : Int) =>
 cnd (eqI i3 (0 : Int))
 (some (Sum.inr (Sum.inr false)))
 (some (Sum.inl (i1, addI .i64 i2 (1 : Int))))))
 (some (Sum.inr (Sum.inl ()))))
 (i0, (2 : Int)))
 (fun (_ : Unit) =>
 some true))))

def G_impl_inMod (NN : Nat) : (Int × (List Int)) → (Option Bool) :=
 (fun ((i0, l1) : (Int × (List Int))) =>
 joinK (loopT NN (fun ((i2, l3, i4, i5) : (Int × ((List Int) × (Int × Int)))) =>
 cnd (ltI i5 i4)
 ((getI l3 i5).bnd (fun (i6 : Int) =>
 cnd (ltI i6 (0 : Int))
 (some (Sum.inr (Sum.inr false)))
 (cnd (leI i2 i6)
 (some (Sum.inr (Sum.inr false)))
 (some (Sum.inl (i2, l3, i4, addI .i64 i5 (1 : Int)))))))
 (some (Sum.inr (Sum.inl ()))))
 (i0, l1, natI (lenN l1), (0 : Int)))
 (fun (_ : Unit) =>
 some true))

def G_impl_MatrixOk (NN : Nat) : (Int × (Int × (Int × (List Int)))) → (Option Bool) :=
 (fun ((i0, i1, i2, l3) : (Int × (Int × (Int × (List Int))))) =>
 (F_impl_IsPrime i0).bnd (fun (b4 : Bool) =>
 cnd (notB b4)
 (some false)
 (cnd (ltI i1 (0 : Int))
 (some false)
 (cnd (ltI i2 (0 : Int))
 (some false)
 (cnd (ltI (64 : Int) i1)
 (some false)
 (cnd (ltI (64 : Int) i2)
 (some false)
 (cnd (eqI (natI (lenN l3)) (mulI .i64 i1 i2))
 ((F_impl_inMod (i0, l3)).bnd (fun (b5 : Bool) =>
 some b5))
 (some false))))))))

def G_impl_AutomatonOk (NN : Nat) : (Int × (Int × ((List Int) × ((List (Int × (Int × (List Int)))) × (List Int))))) → (Option Bool) :=
 (fun ((i0, i1, l2, l3, l4) : (Int × (Int × ((List Int) × ((List (Int × (Int × (List Int)))) × (List Int)))))) =>
 (F_impl_IsPrime i0).bnd (fun (b5 : Bool) =>
 cnd (notB b5)
 (some false)
 (cnd (ltI i1 (0 : Int))
 (some false)
 (cnd (ltI (12 : Int) i1)
 (some false)
 (cnd (neI (natI (lenN l2)) i1)
 (some false)
 (cnd (neI (natI (lenN l4)) i1)
 (some false)
 ((F_impl_inMod (i0, l2)).bnd (fun (b6 : Bool) =>
 cnd (notB b6)
 (some false)
 ((F_impl_inMod (i0, l4)).bnd (fun (b7 : Bool) =>
 cnd (notB b7)
 (some false)
 (cnd (ltI (natI (lenN l3)) (1 : Int))
 (some false)
 (cnd (ltI (4 : Int) (natI (lenN l3)))
 (some false)
 (joinK (loopT NN (fun (((l8, i9, i10), i11, i12, l13, l14, l15) : (((List (Int × (Int × (List Int)))) × (Int × Int)) × (Int × (Int × ((List Int) × ((List (Int × (Int × (List Int)))) × (List Int))))))) =>
 cnd (ltI i10 i9)
 ((getI l8 i10).bnd (fun ((i16, i17, l18) : (Int × (Int × (List Int)))) =>
 (F_impl_MatrixOk (i11, i16, i17, l18)).bnd (fun (b19 : Bool) =>
 cnd (notB b19)
 (some (Sum.inr (Sum.inr false)))
 (cnd (neI i16 i12)
 (some (Sum.inr (Sum.inr false)))
 (cnd (neI i17 i12)
 (some (Sum.inr (Sum.inr false)))
 (some (Sum.inl ((l8, i9, addI .i64 i10 (1 : Int)), i11, i12, l13, l14, l15))))))))
 (some (Sum.inr (Sum.inl ()))))
 ((l3, natI (lenN l3), (0 : Int)), i0, i1, l2, l3, l4))
 (fun (_ : Unit) =>
 some true))))))))))))))



theorem mulI_eq {a b : Int} (h1 : -9223372036854775808 ≤ a * b) (h2 : a * b ≤ 9223372036854775807) : mulI .i64 a b = a * b := wrap_id h1 h2
theorem remI_nat {n : Int} {i : Nat} (hn : 0 ≤ n) (hi : 0 < i) : remI n (i : Int) = some (n % (i : Int)) := by
  unfold remI
  rw [if_neg (by omega), Int.tmod_eq_emod_of_nonneg hn]

theorem sq_le {i j : Nat} (h : i ≤ j) : (i : Int) * i ≤ (j : Int) * j := by
  have := Nat.mul_le_mul h h
  exact_mod_cast this

/-- The search for a divisor. -/
theorem div_loop {X Y : Type} {f : X → Option (X ⊕ (Y ⊕ Bool))} (n : Int) (mk : Nat → X) (r : Y) (hn : n ≤ 1000003)
    (h1 : ∀ i : Nat, 2 ≤ i → i ≤ 1001 → (i : Int) * i ≤ n → n % (i : Int) = 0 → f (mk i) = some (.inr (.inr false)))
    (h2 : ∀ i : Nat, 2 ≤ i → i ≤ 1001 → (i : Int) * i ≤ n → n % (i : Int) ≠ 0 → f (mk i) = some (.inl (mk (i + 1))))
    (h3 : ∀ i : Nat, 2 ≤ i → i ≤ 1001 → ¬ (i : Int) * i ≤ n → f (mk i) = some (.inr (.inl r))) {x0 : X} (hx : x0 = mk 2) :
    loopT FUEL f x0 = some (if (List.range' 2 999).any (divAt n) = true then .inr false else .inl r) := by
  subst hx
  have key : ∀ (d i : Nat), 2 ≤ i → i + d = 1001 → ∀ N, d < N → loopT N f (mk i) = some (if (List.range' i d).any (divAt n) = true then .inr false else .inl r) := by
    intro d
    induction d with
    | zero =>
      intro i hi hd N hN
      obtain ⟨N, rfl⟩ : ∃ M, N = M + 1 := ⟨N - 1, by omega⟩
      have : i = 1001 := by omega
      subst this
      rw [loopT, h3 1001 (by omega) (by omega) (by omega)]
      rfl
    | succ d ih =>
      intro i hi hd N hN
      obtain ⟨N, rfl⟩ : ∃ M, N = M + 1 := ⟨N - 1, by omega⟩
      rw [List.range'_succ, List.any_cons]
      by_cases hle : (i : Int) * i ≤ n
      · by_cases hm : n % (i : Int) = 0
        · rw [loopT, h1 i hi (by omega) hle hm]
          simp [divAt, hle, hm]
        · rw [loopT, h2 i hi (by omega) hle hm]
          simp only
          rw [ih (i + 1) (by omega) (by omega) N (by omega), show divAt n i = false by simp [divAt, hm], Bool.false_or]
      · rw [loopT, h3 i hi (by omega) hle]
        have : (List.range' (i + 1) d).any (divAt n) = false := by
          rw [List.any_eq_false]
          intro j hj
          have := (List.mem_range'_1.1 hj).1
          have := sq_le (show i ≤ j by omega)
          simp only [divAt, Bool.and_eq_true, decide_eq_true_eq, not_and]
          intro h; omega
        simp only
        rw [this]
        simp [divAt, hle]
  exact key 999 2 (by omega) (by omega) FUEL (FUEL_gt (by omega))

theorem sq_le1001 {i : Nat} (h : i ≤ 1001) : 0 ≤ (i : Int) * i ∧ (i : Int) * i ≤ 1002001 := by
  have h1 := sq_le h
  have h0 := sq_le (Nat.zero_le i)
  omega

theorem f_spec_IsPrime (x : Int) (y : Bool) (h : F_spec_IsPrime x = some y) : G_spec_IsPrime FUEL x = some y := by
  rw [← h]
  simp only [F_spec_IsPrime, G_spec_IsPrime]
  by_cases hx : x ≤ 1000003
  · rw [div_loop x (fun i => (x, (i : Int))) x hx ?_ ?_ ?_ ?_]
    · by_cases hd : (List.range' 2 999).any (divAt x) = true
      · rw [if_pos hd, joinK_r, isPrimeI, hd]
        simp
      · rw [if_neg hd, joinK_l, isPrimeI]
        simp only [F_spec_l01In, bnd_s]
        simp [hd]
    all_goals try simp only
    · intro i h2 hi hle hm
      have hs := sq_le1001 hi
      rw [mulI_eq (by omega) (by omega), cnd_t (leI_t hle), cnd_t (leI_t hx), remI_nat (by omega) (by omega), bnd_s, cnd_t (eqI_t hm)]
    · intro i h2 hi hle hm
      have hs := sq_le1001 hi
      rw [mulI_eq (by omega) (by omega), cnd_t (leI_t hle), cnd_t (leI_t hx), remI_nat (by omega) (by omega), bnd_s, cnd_f (eqI_f hm), addI_eq (by omega) (by omega)]
      rfl
    · intro i h2 hi hle
      have hs := sq_le1001 hi
      rw [mulI_eq (by omega) (by omega), cnd_f (leI_f (by omega))]
    · rfl
  · rw [loopT_seq (fun i => (x, (i : Int) + 2)) (r := Sum.inl x) 0 (fun j hj => by omega) ?_ ?_ (FUEL_gt (by omega))]
    · rw [joinK_l, isPrimeI]
      simp only [F_spec_l01In, bnd_s]
      have : ¬ (2 ≤ x ∧ x ≤ 1000003) := by omega
      simp [this]
    · simp only
      rw [cnd_t (leI_t (by rw [mulI_eq (by omega) (by omega)]; omega)), cnd_f (leI_f (by omega))]
    · rfl

theorem f_impl_IsPrime (x : Int) (y : Bool) (h : F_impl_IsPrime x = some y) : G_impl_IsPrime FUEL x = some y := by
  rw [← h]
  simp only [F_impl_IsPrime, G_impl_IsPrime]
  by_cases h2 : x < 2
  · rw [cnd_t (ltI_t h2), isPrimeI, decide_eq_false (by omega)]; rfl
  rw [cnd_f (ltI_f (by omega))]
  by_cases hx : 1000003 < x
  · rw [cnd_t (ltI_t hx), isPrimeI, decide_eq_false (by omega)]; rfl
  rw [cnd_f (ltI_f (by omega))]
  rw [div_loop x (fun i => (x, (i : Int))) () (by omega) ?_ ?_ ?_ ?_]
  · have hr : (2 ≤ x ∧ x ≤ 1000003) := by omega
    by_cases hd : (List.range' 2 999).any (divAt x) = true
    · rw [if_pos hd, joinK_r, isPrimeI, hd]
      simp
    · rw [if_neg hd, joinK_l, isPrimeI]
      simp [hd, hr]
  all_goals try simp only
  · intro i h2 hi hle hm
    have hs := sq_le1001 hi
    rw [mulI_eq (by omega) (by omega), cnd_t (leI_t hle), remI_nat (by omega) (by omega), bnd_s, cnd_t (eqI_t hm)]
  · intro i h2 hi hle hm
    have hs := sq_le1001 hi
    rw [mulI_eq (by omega) (by omega), cnd_t (leI_t hle), remI_nat (by omega) (by omega), bnd_s, cnd_f (eqI_f hm), addI_eq (by omega) (by omega)]
    rfl
  · intro i h2 hi hle
    have hs := sq_le1001 hi
    rw [mulI_eq (by omega) (by omega), cnd_f (leI_f (by omega))]
  · rfl

theorem f_impl_inMod (x : Int × List Int) (y : Bool) (h : F_impl_inMod x = some y) : G_impl_inMod FUEL x = some y := by
  obtain ⟨m, l⟩ := x
  simp only [F_impl_inMod] at h
  split at h
  · rename_i hl
    rw [← h]
    simp only [G_impl_inMod]
    rw [loopT_all (mk := fun i => (m, l, natI (lenN l), (i : Int))) l (inB m) (Sum.inr false) (Sum.inl ()) ?_ ?_ ?_ ?_ (FUEL_gt (by omega))]
    · unfold rowOk
      cases l.all (inB m) <;> rfl
    all_goals try simp only
    · intro i a ha hp
      have hp := of_decide_eq_true hp
      rw [cnd_t (ltI_in ha), getI_nat, ha, bnd_s, cnd_f (ltI_f (by omega)), cnd_f (leI_f (by omega)), next_i ha (by omega)]
    · intro i a ha hp
      have hp := of_decide_eq_false hp
      rw [cnd_t (ltI_in ha), getI_nat, ha, bnd_s]
      by_cases h0 : a < 0
      · rw [cnd_t (ltI_t h0)]
      · rw [cnd_f (ltI_f (by omega)), cnd_t (leI_t (by omega))]
    · rw [cnd_f (ltI_end l)]
    · rfl
  · cases h

theorem f_spec_l34Row (x : Int × List Int × Int) (y : Bool) (h : F_spec_l34Row x = some y) : G_spec_l34Row FUEL x = some y := by
  obtain ⟨m, l, n⟩ := x
  simp only [F_spec_l34Row] at h
  split at h
  · rename_i hl
    obtain ⟨hm, hl⟩ := hl
    rw [← h]
    simp only [G_spec_l34Row]
    rw [loopT_all (mk := fun i => (m, l, n, l, natI (lenN l), (i : Int))) l (inB m) (Sum.inr false) (Sum.inl (l, n)) ?_ ?_ ?_ ?_ (FUEL_gt (by omega))]
    · unfold rowOk
      cases l.all (inB m)
      · rfl
      · rw [if_pos rfl, joinK_l]
        simp only [Bool.true_and]
        rfl
    all_goals try simp only
    · intro i a ha hp
      have hp := of_decide_eq_true hp
      rw [cnd_t (ltI_in ha), getI_nat, ha, bnd_s, subI_eq (by omega) (by omega)]
      simp only [F_spec_l01In, bnd_s]
      rw [cnd_f (notB_p (by omega)), next_i ha (by omega)]
    · intro i a ha hp
      have hp := of_decide_eq_false hp
      rw [cnd_t (ltI_in ha), getI_nat, ha, bnd_s, subI_eq (by omega) (by omega)]
      simp only [F_spec_l01In, bnd_s]
      rw [cnd_t (notB_d (by omega))]
    · rw [cnd_f (ltI_end l)]
    · rfl
  · cases h

theorem isPrimeI_t {m : Int} (h : isPrimeI m = true) : 2 ≤ m ∧ m ≤ 1000003 := by
  simp only [isPrimeI, Bool.and_eq_true, decide_eq_true_eq] at h
  exact h.1

theorem f_impl_MatrixOk (x : Int × Int × Int × List Int) (y : Bool) (h : F_impl_MatrixOk x = some y) : G_impl_MatrixOk FUEL x = some y := by
  obtain ⟨m, r, c, l⟩ := x
  simp only [F_impl_MatrixOk] at h
  split at h
  · rename_i hl
    rw [← h]
    have hl : l.length ≤ 1048576 := hl
    simp only [G_impl_MatrixOk, F_impl_IsPrime, bnd_s, matOk]
    cases hp : isPrimeI m with
    | false => rfl
    | true =>
      rw [cnd_f (by rfl), Bool.true_and]
      by_cases h1 : r < 0
      · rw [cnd_t (ltI_t h1), decide_eq_false (by omega)]; rfl
      rw [cnd_f (ltI_f (by omega))]
      by_cases h2 : c < 0
      · rw [cnd_t (ltI_t h2), decide_eq_false (p := 0 ≤ c ∧ c ≤ 64) (by omega)]; simp
      rw [cnd_f (ltI_f (by omega))]
      by_cases h3 : 64 < r
      · rw [cnd_t (ltI_t h3), decide_eq_false (by omega)]; rfl
      rw [cnd_f (ltI_f (by omega))]
      by_cases h4 : 64 < c
      · rw [cnd_t (ltI_t h4), decide_eq_false (p := 0 ≤ c ∧ c ≤ 64) (by omega)]; simp
      rw [cnd_f (ltI_f (by omega)), decide_eq_true (p := 0 ≤ r ∧ r ≤ 64) (by omega), decide_eq_true (p := 0 ≤ c ∧ c ≤ 64) (by omega), Bool.true_and, Bool.true_and]
      obtain ⟨r, rfl⟩ := natI_eq (z := r) (by omega)
      obtain ⟨c, rfl⟩ := natI_eq (z := c) (by omega)
      have hrc : r * c ≤ 64 * 64 := Nat.mul_le_mul (by omega) (by omega)
      have hrc' : (r : Int) * (c : Int) = ((r * c : Nat) : Int) := by norm_cast
      rw [mulI_eq (by omega) (by omega), show F_impl_inMod (m, l) = some (rowOk m l) from if_pos hl]
      by_cases h5 : (l.length : Int) = (r : Int) * c
      · rw [cnd_t (show eqI (natI (lenN l)) _ = true from eqI_t h5), decide_eq_true h5]; rfl
      · rw [cnd_f (show eqI (natI (lenN l)) _ = false from eqI_f h5), decide_eq_false h5]; rfl
  · cases h

theorem f_spec_MatrixOk (x : Int × Int × Int × List Int) (y : Bool) (h : F_spec_MatrixOk x = some y) : G_spec_MatrixOk FUEL x = some y := by
  obtain ⟨m, r, c, l⟩ := x
  simp only [F_spec_MatrixOk] at h
  split at h
  · rename_i hl
    rw [← h]
    have hl : l.length ≤ 1048576 := hl
    simp only [G_spec_MatrixOk, F_spec_IsPrime, F_spec_l01In, bnd_s, matOk]
    cases hp : isPrimeI m with
    | false => rfl
    | true =>
      obtain ⟨hm1, hm2⟩ := isPrimeI_t hp
      rw [cnd_f (by rfl), Bool.true_and]
      by_cases h1 : 0 ≤ r ∧ r ≤ 64
      rotate_left
      · rw [cnd_t (notB_d h1), decide_eq_false h1]; rfl
      rw [cnd_f (notB_p h1), decide_eq_true h1, Bool.true_and]
      by_cases h2 : 0 ≤ c ∧ c ≤ 64
      rotate_left
      · rw [cnd_t (notB_d h2), decide_eq_false h2]; rfl
      rw [cnd_f (notB_p h2), decide_eq_true h2, Bool.true_and]
      obtain ⟨r, rfl⟩ := natI_eq (z := r) (by omega)
      obtain ⟨c, rfl⟩ := natI_eq (z := c) (by omega)
      have hrc : r * c ≤ 64 * 64 := Nat.mul_le_mul (by omega) (by omega)
      have hrc' : (r : Int) * (c : Int) = ((r * c : Nat) : Int) := by norm_cast
      rw [mulI_eq (by omega) (by omega)]
      by_cases h5 : (l.length : Int) = (r : Int) * c
      rotate_left
      · rw [cnd_t (show neI (natI (lenN l)) _ = true from neI_t h5), decide_eq_false h5]; rfl
      rw [cnd_f (show neI (natI (lenN l)) _ = false from neI_f h5), decide_eq_true h5, Bool.true_and]
      rw [loopT_all (mk := fun i => (m, l, natI (lenN l), (i : Int))) l (inB m) (Sum.inr false) (Sum.inl ()) ?_ ?_ ?_ ?_ (FUEL_gt (by omega))]
      · unfold rowOk
        cases l.all (inB m) <;> rfl
      all_goals try simp only
      · intro i a ha hp
        have hp := of_decide_eq_true hp
        rw [cnd_t (ltI_in ha), getI_nat, ha, bnd_s, subI_eq (by omega) (by omega), cnd_f (notB_p (by omega)), next_i ha (by omega)]
      · intro i a ha hp
        have hp := of_decide_eq_false hp
        rw [cnd_t (ltI_in ha), getI_nat, ha, bnd_s, subI_eq (by omega) (by omega), cnd_t (notB_d (by omega))]
      · rw [cnd_f (ltI_end l)]
      · rfl
  · cases h

theorem sz_Automaton_le {m n : Int} {a : List Int} {ms : List (Int × Int × List Int)} {b : List Int} (h : sz_Automaton (m, n, a, ms, b) ≤ 1048576) : a.length ≤ 1048576 ∧ b.length ≤ 1048576 ∧ ms.length ≤ 1048576 ∧ ∀ e ∈ ms, sz_Matrix e ≤ 1048576 := by
  have h1 : a.length + sz_MatrixS ms + b.length ≤ 1048576 := h
  have h2 := sz_MatrixS_mem (l := ms) (by omega)
  exact ⟨by omega, by omega, h2.1, h2.2⟩

theorem f_spec_AutomatonOk (x : Int × Int × List Int × List (Int × Int × List Int) × List Int) (y : Bool) (h : F_spec_AutomatonOk x = some y) : G_spec_AutomatonOk FUEL x = some y := by
  obtain ⟨m, n, a, ms, b⟩ := x
  simp only [F_spec_AutomatonOk] at h
  split at h
  · rename_i hl
    rw [← h]
    obtain ⟨ha, hb, hms, hmm⟩ := sz_Automaton_le hl
    simp only [G_spec_AutomatonOk, F_spec_IsPrime, F_spec_l01In, bnd_s, autOk]
    cases hp : isPrimeI m with
    | false => rfl
    | true =>
      have hm := isPrimeI_t hp
      rw [cnd_f (by rfl), Bool.true_and]
      by_cases h1 : 0 ≤ n ∧ n ≤ 12
      rotate_left
      · rw [cnd_t (notB_d h1), decide_eq_false h1]; rfl
      rw [cnd_f (notB_p h1), decide_eq_true h1, Bool.true_and]
      rw [show F_spec_l34Row (m, a, n) = some (rowOk m a && decide ((a.length : Int) = n)) from if_pos ⟨by omega, ha⟩, bnd_s]
      rw [show F_spec_l34Row (m, b, n) = some (rowOk m b && decide ((b.length : Int) = n)) from if_pos ⟨by omega, hb⟩, bnd_s]
      cases (rowOk m a && decide ((a.length : Int) = n)) with
      | false => rfl
      | true =>
      rw [cnd_f (by rfl), Bool.true_and]
      cases (rowOk m b && decide ((b.length : Int) = n)) with
      | false => rfl
      | true =>
      rw [cnd_f (by rfl), Bool.true_and]
      by_cases h2 : 1 ≤ ms.length ∧ ms.length ≤ 4
      rotate_left
      · rw [cnd_t (notB_d (by have := nl ms; omega)), decide_eq_false h2]; rfl
      rw [cnd_f (notB_p (by have := nl ms; omega)), decide_eq_true h2, Bool.true_and]
      rw [loopT_all (mk := fun i => ((ms, natI (lenN ms), (i : Int)), m, n, a, ms, b)) ms (matsOk m n) (Sum.inr false) (Sum.inl ()) ?_ ?_ ?_ ?_ (FUEL_gt (by omega))]
      · cases ms.all (matsOk m n) <;> rfl
      all_goals try simp only
      · rintro i ⟨r, c, l⟩ hi hp
        simp only [matsOk, Bool.and_eq_true, decide_eq_true_eq] at hp
        obtain ⟨p1, p2, p3⟩ := hp
        rw [cnd_t (ltI_in hi), getI_nat, hi, bnd_s]
        simp only
        rw [show F_spec_MatrixOk (m, r, c, l) = some (matOk m (r, c, l)) from if_pos (hmm _ (List.mem_of_getElem? hi)), bnd_s, p1, cnd_f (by rfl), cnd_f (neI_f p2), cnd_f (neI_f p3), next_i hi (by omega)]
      · rintro i ⟨r, c, l⟩ hi hp
        rw [cnd_t (ltI_in hi), getI_nat, hi, bnd_s]
        simp only
        rw [show F_spec_MatrixOk (m, r, c, l) = some (matOk m (r, c, l)) from if_pos (hmm _ (List.mem_of_getElem? hi)), bnd_s]
        cases p1 : matOk m (r, c, l) with
        | false => rw [cnd_t (by rfl)]
        | true =>
          rw [cnd_f (by rfl)]
          by_cases p2 : r = n
          · rw [cnd_f (neI_f p2)]
            by_cases p3 : c = n
            · simp [matsOk, p1, p2, p3] at hp
              rw [p2, p3] at p1
              rw [p1] at hp
              cases hp
            · rw [cnd_t (neI_t p3)]
          · rw [cnd_t (neI_t p2)]
      · rw [cnd_f (ltI_end ms)]
      · rfl
  · cases h

theorem f_impl_AutomatonOk (x : Int × Int × List Int × List (Int × Int × List Int) × List Int) (y : Bool) (h : F_impl_AutomatonOk x = some y) : G_impl_AutomatonOk FUEL x = some y := by
  obtain ⟨m, n, a, ms, b⟩ := x
  simp only [F_impl_AutomatonOk] at h
  split at h
  · rename_i hl
    rw [← h]
    obtain ⟨ha, hb, hms, hmm⟩ := sz_Automaton_le hl
    simp only [G_impl_AutomatonOk, F_impl_IsPrime, bnd_s, autOk]
    cases hp : isPrimeI m with
    | false => rfl
    | true =>
      have hm := isPrimeI_t hp
      rw [cnd_f (by rfl), Bool.true_and]
      by_cases h0 : n < 0
      · rw [cnd_t (ltI_t h0), decide_eq_false (by omega)]; rfl
      rw [cnd_f (ltI_f (by omega))]
      by_cases h1 : 12 < n
      · rw [cnd_t (ltI_t h1), decide_eq_false (by omega)]; rfl
      rw [cnd_f (ltI_f (by omega)), decide_eq_true (p := 0 ≤ n ∧ n ≤ 12) (by omega), Bool.true_and]
      by_cases e1 : (a.length : Int) = n
      rotate_left
      · rw [cnd_t (show neI (natI (lenN a)) _ = true from neI_t e1), decide_eq_false e1, Bool.and_false, Bool.false_and]
      rw [cnd_f (show neI (natI (lenN a)) _ = false from neI_f e1), decide_eq_true e1, Bool.and_true]
      by_cases e2 : (b.length : Int) = n
      rotate_left
      · rw [cnd_t (show neI (natI (lenN b)) _ = true from neI_t e2), decide_eq_false e2, Bool.and_false, Bool.false_and, Bool.and_false]
      rw [cnd_f (show neI (natI (lenN b)) _ = false from neI_f e2), decide_eq_true e2, Bool.and_true]
      rw [show F_impl_inMod (m, a) = some (rowOk m a) from if_pos ha, bnd_s]
      rw [show F_impl_inMod (m, b) = some (rowOk m b) from if_pos hb, bnd_s]
      cases rowOk m a with
      | false => rfl
      | true =>
      rw [cnd_f (by rfl), Bool.true_and]
      cases rowOk m b with
      | false => rfl
      | true =>
      rw [cnd_f (by rfl), Bool.true_and]
      by_cases h2 : ms.length < 1
      · rw [cnd_t (ltI_t (by have := nl ms; omega)), decide_eq_false (by omega)]; rfl
      rw [cnd_f (ltI_f (by have := nl ms; omega))]
      by_cases h3 : 4 < ms.length
      · rw [cnd_t (ltI_t (by have := nl ms; omega)), decide_eq_false (by omega)]; rfl
      rw [cnd_f (ltI_f (by have := nl ms; omega)), decide_eq_true (by omega), Bool.true_and]
      rw [loopT_all (mk := fun i => ((ms, natI (lenN ms), (i : Int)), m, n, a, ms, b)) ms (matsOk m n) (Sum.inr false) (Sum.inl ()) ?_ ?_ ?_ ?_ (FUEL_gt (by omega))]
      · cases ms.all (matsOk m n) <;> rfl
      all_goals try simp only
      · rintro i ⟨r, c, l⟩ hi hp
        simp only [matsOk, Bool.and_eq_true, decide_eq_true_eq] at hp
        obtain ⟨p1, p2, p3⟩ := hp
        rw [cnd_t (ltI_in hi), getI_nat, hi, bnd_s]
        simp only
        rw [show F_impl_MatrixOk (m, r, c, l) = some (matOk m (r, c, l)) from if_pos (hmm _ (List.mem_of_getElem? hi)), bnd_s, p1, cnd_f (by rfl), cnd_f (neI_f p2), cnd_f (neI_f p3), next_i hi (by omega)]
      · rintro i ⟨r, c, l⟩ hi hp
        rw [cnd_t (ltI_in hi), getI_nat, hi, bnd_s]
        simp only
        rw [show F_impl_MatrixOk (m, r, c, l) = some (matOk m (r, c, l)) from if_pos (hmm _ (List.mem_of_getElem? hi)), bnd_s]
        cases p1 : matOk m (r, c, l) with
        | false => rw [cnd_t (by rfl)]
        | true =>
          rw [cnd_f (by rfl)]
          by_cases p2 : r = n
          · rw [cnd_f (neI_f p2)]
            by_cases p3 : c = n
            · simp [matsOk, p1, p2, p3] at hp
              rw [p2, p3] at p1
              rw [p1] at hp
              cases hp
            · rw [cnd_t (neI_t p3)]
          · rw [cnd_t (neI_t p2)]
      · rw [cnd_f (ltI_end ms)]
      · rfl
  · cases h

end Go.Am
end
section
namespace Go.Am
def newOk (x : Int × Int) : Prop := (0 ≤ x.1 ∧ x.1 ≤ 4096) ∧ (0 ≤ x.2 ∧ x.2 ≤ 4096) ∧ x.1 * x.2 ≤ 1048576
instance (x : Int × Int) : Decidable (newOk x) := by unfold newOk; infer_instance
def F_spec_l31New : Int × Int → Option (Int × Int × List Int) := fun (x : Int × Int) => if newOk x then some (x.1, x.2, genD x.1.toNat x.2.toNat fun _ _ => 0) else none
def F_impl_emptyMatrix : Int × Int → Option (Int × Int × List Int) := fun (x : Int × Int) => if newOk x then some (x.1, x.2, genD x.1.toNat x.2.toNat fun _ _ => 0) else none
def F_impl_Matrix_at : (Int × Int × List Int) × Int × Int → Option Int := fun (x : (Int × Int × List Int) × Int × Int) =>
  if mOk x.1 ∧ (0 ≤ x.2.1 ∧ x.2.1 < x.1.1) ∧ (0 ≤ x.2.2 ∧ x.2.2 < x.1.2.1) then some (ofD x.1.2.1.toNat x.1.2.2 x.2.1.toNat x.2.2.toNat) else none
def F_impl_Matrix_set : (Int × Int × List Int) × Int × Int × Int → Option (List Int) := fun (x : (Int × Int × List Int) × Int × Int × Int) =>
  if mOk x.1 ∧ (0 ≤ x.2.1 ∧ x.2.1 < x.1.1) ∧ (0 ≤ x.2.2.1 ∧ x.2.2.1 < x.1.2.1) then some (genD x.1.1.toNat x.1.2.1.toNat (updM (ofD x.1.2.1.toNat x.1.2.2) x.2.1.toNat x.2.2.1.toNat x.2.2.2)) else none
def swapF (M : Nat → Nat → Int) (a b : Nat) : Nat → Nat → Int := fun i j => if i = a then M b j else if i = b then M a j else M i j
def pivF (M : Nat → Nat → Int) (j : Nat) : Nat → Nat → Option Nat
  | 0, _ => none
  | d + 1, k => if M k j = 0 then pivF M j d (k + 1) else some k
def invG (p out x : Int) (n : Nat) : Int := if h : n = 0 then out else invG p (if n % 2 = 1 then out * x % p else out) (x * x % p) (n / 2)
termination_by n
decreasing_by omega
def mulOk (x : Int × (Int × Int × List Int) × (Int × Int × List Int)) : Prop := pOk x.1 ∧ mOk x.2.1 ∧ mOk x.2.2 ∧ x.2.1.2.1 = x.2.2.1 ∧ x.2.1.1 * x.2.2.2.1 ≤ 1048576 ∧ allP x.1 x.2.1.2.2 ∧ allP x.1 x.2.2.2.2
instance (x : Int × (Int × Int × List Int) × (Int × Int × List Int)) : Decidable (mulOk x) := by unfold mulOk; infer_instance
def ag_spec_l31New : Sig := [(.one, [.int .i64]), (.one, [.int .i64])]
def rs_spec_l31New : Sig := [(.agg, [.int .i64, .int .i64, .list [.int .i64]])]
def mu_spec_l31New : MSig := []
def ag_impl_emptyMatrix : Sig := [(.one, [.int .i64]), (.one, [.int .i64])]
def rs_impl_emptyMatrix : Sig := [(.agg, [.int .i64, .int .i64, .list [.int .i64]])]
def mu_impl_emptyMatrix : MSig := []
def ag_impl_Matrix_at : Sig := [(.agg, [.int .i64, .int .i64, .list [.int .i64]]), (.one, [.int .i64]), (.one, [.int .i64])]
def rs_impl_Matrix_at : Sig := [(.one, [.int .i64])]
def mu_impl_Matrix_at : MSig := []
def ag_impl_Matrix_set : Sig := [(.agg, [.int .i64, .int .i64, .list [.int .i64]]), (.one, [.int .i64]), (.one, [.int .i64]), (.one, [.int .i64])]
def rs_impl_Matrix_set : Sig := [(.one, [.list [.int .i64]])]
def mu_impl_Matrix_set : MSig := [[none, none, some .froz]]
def G_spec_l31New (NN : Nat) : (Int × Int) → (Option (Int × (Int × (List Int)))) :=
 (fun ((i0, i1) : (Int × Int)) =>
 (mkI (mulI .i64 i0 i1) (mulI .i64 i0 i1) 8).bnd (fun (k2 : Nat) =>
 (takI (repL k2 (0 : Int)) k2).bnd (fun (l3 : (List Int)) =>
 some (i0, i1, l3))))

def G_impl_emptyMatrix (NN : Nat) : (Int × Int) → (Option (Int × (Int × (List Int)))) :=
 (fun ((i0, i1) : (Int × Int)) =>
 (mkI (mulI .i64 i0 i1) (mulI .i64 i0 i1) 8).bnd (fun (k2 : Nat) =>
 (takI (repL k2 (0 : Int)) k2).bnd (fun (l3 : (List Int)) =>
 some (i0, i1, l3))))

def G_impl_Matrix_at (NN : Nat) : ((Int × (Int × (List Int))) × (Int × Int)) → (Option Int) :=
 (fun (((i0, i1, l2), i3, i4) : ((Int × (Int × (List Int))) × (Int × Int))) =>
 (getI l2 (addI .i64 (mulI .i64 i3 i1) i4)).bnd (fun (i5 : Int) =>
 some i5))

def G_impl_Matrix_set (NN : Nat) : ((Int × (Int × (List Int))) × (Int × (Int × Int))) → (Option (List Int)) :=
 (fun (((i0, i1, l2), i3, i4, i5) : ((Int × (Int × (List Int))) × (Int × (Int × Int)))) =>
 (chkI (addI .i64 (mulI .i64 i3 i1) i4) (lenN l2)).bnd (fun (k6 : Nat) =>
 (getN l2 (addN 0 k6)).bnd (fun (i7 : Int) =>
 (samI (lenN (setL l2 (addN 0 k6) i5)) (lenN l2)).bnd (fun (_ : Unit) =>
 some (setL l2 (addN 0 k6) i5)))))

theorem newOk_nat {r c : Nat} (hr : r ≤ 4096) (hc : c ≤ 4096) (h : r * c ≤ 1048576) : newOk ((r : Int), (c : Int)) := by
  refine ⟨⟨by omega, by show (r : Int) ≤ 4096; omega⟩, ⟨by show (0 : Int) ≤ c; omega, by show (c : Int) ≤ 4096; omega⟩, ?_⟩
  show (r : Int) * (c : Int) ≤ 1048576
  have e : (r : Int) * (c : Int) = ((r * c : Nat) : Int) := by norm_cast
  omega
theorem newOk_gen {x : Int × Int} (h : newOk x) : ∃ r c : Nat, x = ((r : Int), (c : Int)) ∧ r ≤ 4096 ∧ c ≤ 4096 ∧ r * c ≤ 1048576 := by
  obtain ⟨r, c⟩ := x
  obtain ⟨h1, h2, h3⟩ := h
  simp only at h1 h2 h3
  obtain ⟨r, rfl⟩ := natI_eq h1.1
  obtain ⟨c, rfl⟩ := natI_eq h2.1
  have e : (r : Int) * (c : Int) = ((r * c : Nat) : Int) := by norm_cast
  exact ⟨r, c, rfl, by omega, by omega, by omega⟩
theorem new_nat {r c : Nat} (hr : r ≤ 4096) (hc : c ≤ 4096) (h : r * c ≤ 1048576) : F_spec_l31New ((r : Int), (c : Int)) = some ((r : Int), (c : Int), genD r c fun _ _ => 0) := by
  simp only [F_spec_l31New, Int.toNat_natCast]
  rw [if_pos (newOk_nat hr hc h)]

theorem newI_nat {r c : Nat} (hr : r ≤ 4096) (hc : c ≤ 4096) (h : r * c ≤ 1048576) : F_impl_emptyMatrix ((r : Int), (c : Int)) = some ((r : Int), (c : Int), genD r c fun _ _ => 0) := new_nat hr hc h

theorem g_new {r c : Nat} (hr : r ≤ 4096) (hc : c ≤ 4096) (h : r * c ≤ 1048576) : G_spec_l31New FUEL ((r : Int), (c : Int)) = some ((r : Int), (c : Int), genD r c fun _ _ => 0) := by
  simp only [G_spec_l31New]
  rw [mulN (by omega) (by omega)]
  have := mkI_nat (n := r * c) (by_ := 8) (by unfold maxBytes; omega)
  rw [show ((r * c : Nat) : Int) = natI (r * c) from rfl, this, bnd_s, genD_rep]
  rw [show takI (genD r c fun _ _ => 0) (r * c) = some (genD r c fun _ _ => 0) by
    have := takI_id (genD r c fun _ _ => (0 : Int))
    rwa [lenN_gen] at this]
  rfl
theorem f_spec_l31New (x : Int × Int) (y : Int × Int × List Int) (h : F_spec_l31New x = some y) : G_spec_l31New FUEL x = some y := by
  simp only [F_spec_l31New] at h
  split at h
  · rename_i hc
    obtain ⟨r, c, rfl, h1, h2, h3⟩ := newOk_gen hc
    rw [← h, g_new h1 h2 h3]; rfl
  · cases h
theorem f_impl_emptyMatrix (x : Int × Int) (y : Int × Int × List Int) (h : F_impl_emptyMatrix x = some y) : G_impl_emptyMatrix FUEL x = some y := f_spec_l31New x y h

theorem natP {a b : Int} (h : 0 ≤ a ∧ a < b) : ∃ n : Nat, a = (n : Int) ∧ ∀ m : Nat, b = (m : Int) → n < m := ⟨a.toNat, by omega, fun m hm => by omega⟩
theorem g_at {r c i j : Nat} {M : Nat → Nat → Int} (hr : r ≤ 4096) (hc : c ≤ 4096) (hi : i < r) (hj : j < c) : G_impl_Matrix_at FUEL (((r : Int), (c : Int), genD r c M), (i : Int), (j : Int)) = some (M i j) := by
  simp only [G_impl_Matrix_at]
  rw [idxI (by omega) (by omega) (by omega), getI_gen M hi hj]; rfl
theorem at_nat {r c i j : Nat} {M : Nat → Nat → Int} (hr : r ≤ 4096) (hc : c ≤ 4096) (h : r * c ≤ 1048576) (hi : i < r) (hj : j < c) : F_impl_Matrix_at (((r : Int), (c : Int), genD r c M), (i : Int), (j : Int)) = some (M i j) := by
  simp only [F_impl_Matrix_at, Int.toNat_natCast]
  rw [if_pos ⟨mOk_mk M hr hc h, by omega, by omega⟩]
  rw [ofD_gen M hi hj]
theorem f_impl_Matrix_at (x : (Int × Int × List Int) × Int × Int) (y : Int) (h : F_impl_Matrix_at x = some y) : G_impl_Matrix_at FUEL x = some y := by
  obtain ⟨m, i, j⟩ := x
  simp only [F_impl_Matrix_at] at h
  split at h
  · rename_i hc
    obtain ⟨h1, h2, h3⟩ := hc
    obtain ⟨r, c, M, rfl, hr, hc, hrc⟩ := mOk_gen h1
    obtain ⟨i, rfl, hi⟩ := natP h2
    obtain ⟨j, rfl, hj⟩ := natP h3
    have hi := hi r rfl; have hj := hj c rfl
    rw [← h, g_at hr hc hi hj]
    exact congrArg some (ofD_gen M hi hj).symm
  · cases h

theorem g_set {r c i j : Nat} {M : Nat → Nat → Int} {x : Int} (hr : r ≤ 4096) (hc : c ≤ 4096) (hi : i < r) (hj : j < c) : G_impl_Matrix_set FUEL (((r : Int), (c : Int), genD r c M), (i : Int), (j : Int), x) = some (genD r c (updM M i j x)) := by
  simp only [G_impl_Matrix_set]
  rw [idxI (by omega) (by omega) (by omega), chkI_gen M hi hj, bnd_s, addN_0, getN_gen M hi hj, bnd_s, setL_gen M hj, samI_gen, bnd_s]
theorem set_nat {r c i j : Nat} {M : Nat → Nat → Int} {x : Int} (hr : r ≤ 4096) (hc : c ≤ 4096) (h : r * c ≤ 1048576) (hi : i < r) (hj : j < c) : F_impl_Matrix_set (((r : Int), (c : Int), genD r c M), (i : Int), (j : Int), x) = some (genD r c (updM M i j x)) := by
  simp only [F_impl_Matrix_set, Int.toNat_natCast]
  rw [if_pos ⟨mOk_mk M hr hc h, by omega, by omega⟩]
  refine (congrArg some (genD_congr fun a ha b hb => ?_))
  unfold updM
  rw [ofD_gen M ha hb]
theorem f_impl_Matrix_set (x : (Int × Int × List Int) × Int × Int × Int) (y : List Int) (h : F_impl_Matrix_set x = some y) : G_impl_Matrix_set FUEL x = some y := by
  obtain ⟨m, i, j, v⟩ := x
  have h0 := h
  simp only [F_impl_Matrix_set] at h
  split at h
  · rename_i hc
    obtain ⟨h1, h2, h3⟩ := hc
    obtain ⟨r, c, M, rfl, hr, hc, hrc⟩ := mOk_gen h1
    obtain ⟨i, rfl, hi⟩ := natP h2
    obtain ⟨j, rfl, hj⟩ := natP h3
    have hi := hi r rfl; have hj := hj c rfl
    rw [← h0, g_set hr hc hi hj, set_nat hr hc hrc hi hj]
  · cases h

/-! ### rows -/

/-! ### pivots, inverses -/

theorem pivF_lt {M : Nat → Nat → Int} {j q : Nat} : ∀ {d k : Nat}, pivF M j d k = some q → k ≤ q ∧ q < k + d ∧ M q j ≠ 0
  | 0, k, h => by cases h
  | d + 1, k, h => by
    simp only [pivF] at h
    split at h
    · have := pivF_lt h
      exact ⟨by omega, by omega, this.2.2⟩
    · rename_i h0
      injection h with h
      subst h
      exact ⟨by omega, by omega, h0⟩

theorem invG_0 (p out x : Int) : invG p out x 0 = out := by rw [invG]; rfl
theorem invG_s {n : Nat} (h : n ≠ 0) (p out x : Int) : invG p out x n = invG p (if n % 2 = 1 then out * x % p else out) (x * x % p) (n / 2) := by
  rw [invG, dif_neg h]
/-! ### transposed -/

/-! ### products -/

def mulTo (W : Nat → Nat → Int) (i j : Nat) : Nat → Nat → Int := fun a b => if a < i ∨ a = i ∧ b < j then W a b else 0
theorem mul_step {r c : Nat} (W : Nat → Nat → Int) (i j : Nat) : genD r c (updM (mulTo W i j) i j (W i j)) = genD r c (mulTo W i (j + 1)) := by
  refine genD_congr fun a _ b _ => ?_
  unfold updM mulTo
  by_cases h : a = i ∧ b = j
  · obtain ⟨rfl, rfl⟩ := h
    simp
  · rw [if_neg h]
    by_cases h1 : a < i ∨ a = i ∧ b < j
    · simp only [if_pos h1, if_pos (show a < i ∨ a = i ∧ b < j + 1 by omega)]
    · simp only [if_neg h1, if_neg (show ¬ (a < i ∨ a = i ∧ b < j + 1) by omega)]
theorem mul_row {r c : Nat} (W : Nat → Nat → Int) (i : Nat) : genD r c (mulTo W i c) = genD r c (mulTo W (i + 1) 0) := by
  refine genD_congr fun a _ b hb => ?_
  unfold mulTo
  by_cases h1 : a < i ∨ a = i ∧ b < c
  · simp only [if_pos h1, if_pos (show a < i + 1 ∨ a = i + 1 ∧ b < 0 by omega)]
  · simp only [if_neg h1, if_neg (show ¬ (a < i + 1 ∨ a = i + 1 ∧ b < 0) by omega)]
theorem mul_end {r c : Nat} (W : Nat → Nat → Int) : genD r c (mulTo W r 0) = genD r c W := genD_congr fun a ha b hb => if_pos (.inl ha)
theorem mul_0 {r c : Nat} (W : Nat → Nat → Int) : genD r c (mulTo W 0 0) = genD r c fun _ _ => 0 := genD_congr fun a ha b hb => if_neg (by omega)

end Go.Am
end
section
namespace Go.Am
/-! ### transposes, products and swaps of good matrices -/

def sopOk (x : Int × Int × Int) : Prop := isPrimeI x.1 = true ∧ (1 ≤ x.2.1 ∧ x.2.1 ≤ 8) ∧ (1 ≤ x.2.2 ∧ x.2.2 ≤ 8)
instance (x : Int × Int × Int) : Decidable (sopOk x) := by unfold sopOk; infer_instance
theorem inM_of {p : Int} {r c : Nat} {l : List Int} (h : l.length = r * c) (hr : rowOk p l = true) : inM p r c (ofD c l) := by
  apply allP_gen.1
  rw [genD_of h]
  intro x hx
  have := List.all_eq_true.1 hr x hx
  exact of_decide_eq_true this
theorem matOk_nat {m : Int} {x : Int × Int × List Int} (h : matOk m x = true) : ∃ (r c : Nat) (M : Nat → Nat → Int), x = ((r : Int), (c : Int), genD r c M) ∧ pOk m ∧ r ≤ 64 ∧ c ≤ 64 ∧ r * c ≤ 4096 ∧ inM m r c M := by
  obtain ⟨r, c, l⟩ := x
  simp only [matOk, Bool.and_eq_true, decide_eq_true_eq] at h
  obtain ⟨h1, h2, h3, h4, h5⟩ := h
  obtain ⟨r, rfl⟩ := natI_eq (z := r) (by omega)
  obtain ⟨c, rfl⟩ := natI_eq (z := c) (by omega)
  have hl : l.length = r * c := by
    have e : (r : Int) * (c : Int) = ((r * c : Nat) : Int) := by norm_cast
    omega
  have hrc : r * c ≤ 64 * 64 := Nat.mul_le_mul (by omega) (by omega)
  exact ⟨r, c, ofD c l, by rw [genD_of hl], isPrimeI_t h1, by omega, by omega, by omega, inM_of hl h5⟩

/-! ### the swap operator -/

end Go.Am
end
section
namespace Go.Am
/-! ### reduced forms -/

abbrev Mat := Nat → Nat → Int
def sclF (p inv : Int) (M : Mat) (t : Nat) : Mat := fun a b => if a = t then M t b * inv % p else M a b
def clrF (p : Int) (M : Mat) (t j n : Nat) : Mat := fun a b => if a < n ∧ a ≠ t then (M a b + (p - M a j) * M t b) % p else M a b
def pivS (p : Int) (M : Mat) (t j k : Nat) : Mat := sclF p (invG p 1 (swapF M t k t j) (p - 2).toNat) (swapF M t k) t
def redD (p : Int) (M : Mat) (t j k : Nat) (d : Int) : Int := (if k = t then d else (p - d) % p) * swapF M t k t j % p
def redS (p : Int) (r : Nat) (s : Mat × List Int × Int) (j : Nat) : Mat × List Int × Int :=
  if s.2.1.length < r then
    match pivF s.1 j (r - s.2.1.length) s.2.1.length with
    | none => s
    | some k => (clrF p (pivS p s.1 s.2.1.length j k) s.2.1.length j r, s.2.1 ++ [(j : Int)], redD p s.1 s.2.1.length j k s.2.2)
  else s
def redN (p : Int) (r : Nat) (M : Mat) : Nat → Mat × List Int × Int
  | 0 => (M, [], 1)
  | j + 1 => redS p r (redN p r M j) j
def redOk (x : Int × Int × Int × List Int) : Prop := pOk x.1 ∧ mOk x.2 ∧ allP x.1 x.2.2.2
instance (x : Int × Int × Int × List Int) : Decidable (redOk x) := by unfold redOk; infer_instance
theorem swapF_in {p : Int} {r c : Nat} {M : Mat} (hM : inM p r c M) {a b : Nat} (ha : a < r) (hb : b < r) : inM p r c (swapF M a b) := by
  intro i hi j hj
  unfold swapF
  split
  · exact hM b hb j hj
  · split
    · exact hM a ha j hj
    · exact hM i hi j hj
theorem sclF_in {p inv : Int} {r c : Nat} {M : Mat} (hp : pOk p) (hM : inM p r c M) (t : Nat) : inM p r c (sclF p inv M t) := by
  intro i hi j hj
  unfold sclF
  split
  · exact emod_in hp _
  · exact hM i hi j hj
theorem clrF_in {p : Int} {r c : Nat} {M : Mat} (hp : pOk p) (hM : inM p r c M) (t k n : Nat) : inM p r c (clrF p M t k n) := by
  intro i hi j hj
  unfold clrF
  split
  · exact emod_in hp _
  · exact hM i hi j hj
theorem pivS_in {p : Int} {r c : Nat} {M : Mat} (hp : pOk p) (hM : inM p r c M) {t k : Nat} (ht : t < r) (hk : k < r) (j : Nat) : inM p r c (pivS p M t j k) := sclF_in hp (swapF_in hM ht hk) t

structure RI (p : Int) (r c : Nat) (s : Mat × List Int × Int) (j : Nat) : Prop where
  m : inM p r c s.1
  l : s.2.1.length ≤ r
  lj : s.2.1.length ≤ j
  d : inP p s.2.2
  e : ∀ x ∈ s.2.1, 0 ≤ x ∧ x < (j : Int)
theorem RI.step {p : Int} {r c : Nat} {s : Mat × List Int × Int} {j : Nat} (hp : pOk p) (h : RI p r c s j) : RI p r c (redS p r s j) (j + 1) := by
  have keep : RI p r c s (j + 1) := ⟨h.m, h.l, by have := h.lj; omega, h.d, fun x hx => by have := h.e x hx; omega⟩
  unfold redS
  split
  · rename_i hl
    split
    · exact keep
    · rename_i k hk
      have hq := pivF_lt hk
      refine ⟨clrF_in hp (pivS_in hp h.m hl (by omega) j) _ _ _, ?_, ?_, emod_in hp _, ?_⟩
      · simp only [List.length_append, List.length_cons, List.length_nil]; omega
      · have := h.lj
        simp only [List.length_append, List.length_cons, List.length_nil]; omega
      · intro x hx
        simp only [List.mem_append, List.mem_singleton] at hx
        rcases hx with hx | rfl
        · have := h.e x hx; omega
        · omega
  · exact keep
theorem clrF_0 {p : Int} (M : Mat) (t j : Nat) : clrF p M t j 0 = M := by funext a b; exact if_neg (by omega)
theorem clrF_old {p : Int} (M : Mat) (t j n b : Nat) : clrF p M t j n n b = M n b := if_neg (by omega)
theorem clrF_t {p : Int} (M : Mat) (t j n b : Nat) : clrF p M t j n t b = M t b := if_neg (by omega)
theorem clrF_skip {p : Int} (M : Mat) (t j : Nat) : clrF p M t j (t + 1) = clrF p M t j t := by
  funext a b
  unfold clrF
  by_cases h : a < t
  · rw [if_pos (by omega), if_pos (by omega)]
  · rw [if_neg (by omega), if_neg (by omega)]
theorem pivF_none {M : Mat} {j : Nat} : ∀ {d k : Nat}, pivF M j d k = none → ∀ i, k ≤ i → i < k + d → M i j = 0
  | 0, k, _, i, h1, h2 => by omega
  | d + 1, k, h, i, h1, h2 => by
    simp only [pivF] at h
    split at h
    · rename_i h0
      by_cases hi : i = k
      · rw [hi]; exact h0
      · exact pivF_none h i (by omega) (by omega)
    · cases h
theorem redS_n {p : Int} {r : Nat} {s : Mat × List Int × Int} {j : Nat} (hl : s.2.1.length < r) (h : pivF s.1 j (r - s.2.1.length) s.2.1.length = none) : redS p r s j = s := by
  unfold redS
  rw [if_pos hl, h]
theorem redS_s {p : Int} {r : Nat} {s : Mat × List Int × Int} {j k : Nat} (hl : s.2.1.length < r) (h : pivF s.1 j (r - s.2.1.length) s.2.1.length = some k) :
    redS p r s j = (clrF p (pivS p s.1 s.2.1.length j k) s.2.1.length j r, s.2.1 ++ [(j : Int)], redD p s.1 s.2.1.length j k s.2.2) := by
  unfold redS
  rw [if_pos hl, h]
/-! ### the walk of the spec's reduction -/

section
variable {p : Int} {r c : Nat} {M0 : Mat}

end
/-! ### the walk of the program's reduction -/

section
variable {p : Int} {r c : Nat} {M0 : Mat}

end

end Go.Am
end
section
namespace Go.Am
/-! ### ranks, reduced forms and factors of good matrices -/

/-! ### factors -/

section
variable {p : Int} {r c : Nat} {M R : Mat} {L : List Int}

end

end Go.Am
end
section
namespace Go.Am

def ch : Nat → Nat → Nat
  | _, 0 => 1
  | 0, _ + 1 => 0
  | n + 1, k + 1 => ch n k + ch n (k + 1)

theorem ch_gt : ∀ {n k : Nat}, n < k → ch n k = 0
  | 0, k + 1, _ => by simp [ch]
  | n + 1, k + 1, h => by simp [ch, ch_gt (show n < k by omega), ch_gt (show n < k + 1 by omega)]
theorem ch_0 (n : Nat) : ch n 0 = 1 := by cases n <;> rfl
theorem ch_self : ∀ n, ch n n = 1
  | 0 => rfl
  | n + 1 => by simp [ch, ch_self n, ch_gt (Nat.lt_succ_self n)]

theorem ch_mul : ∀ (n k : Nat), (k + 1) * ch (n + 1) (k + 1) = (n + 1) * ch n k
  | 0, 0 => by simp [ch]
  | 0, k + 1 => by simp [ch]
  | n + 1, 0 => by
    have h := ch_mul n 0
    simp only [ch_0] at h ⊢
    have e : ch (n + 1 + 1) (0 + 1) = ch (n + 1) 0 + ch (n + 1) (0 + 1) := rfl
    rw [e, ch_0]
    omega
  | n + 1, k + 1 => by
    have h1 := ch_mul n k
    have h2 := ch_mul n (k + 1)
    have e1 : ch (n + 1 + 1) (k + 1 + 1) = ch (n + 1) (k + 1) + ch (n + 1) (k + 1 + 1) := rfl
    have e2 : ch (n + 1) (k + 1) = ch n k + ch n (k + 1) := rfl
    rw [e1]
    generalize ch (n + 1) (k + 1 + 1) = B at *
    generalize ch (n + 1) (k + 1) = A at *
    generalize ch n k = u at *
    generalize ch n (k + 1) = v at *
    subst e2
    grind

def sumF (f : Nat → Nat) : Nat → Nat
  | 0 => 0
  | m + 1 => sumF f m + f m

theorem sum_step (n a : Nat) : ∀ m, sumF (fun k => ch (n + 1) k * a ^ k) (m + 1) = sumF (fun k => ch n k * a ^ k) (m + 1) + a * sumF (fun k => ch n k * a ^ k) m
  | 0 => by simp [sumF, ch_0]
  | m + 1 => by
    have h := sum_step n a m
    simp only [sumF] at h ⊢
    have e : ch (n + 1) (m + 1) = ch n m + ch n (m + 1) := rfl
    rw [h, e, Nat.pow_succ]
    grind

theorem binom (a : Nat) : ∀ n, (a + 1) ^ n = sumF (fun k => ch n k * a ^ k) (n + 1)
  | 0 => by simp [sumF, ch_0]
  | n + 1 => by
    rw [sum_step]
    have e : sumF (fun k => ch n k * a ^ k) (n + 1 + 1) = sumF (fun k => ch n k * a ^ k) (n + 1) := by
      show sumF _ (n + 1) + ch n (n + 1) * a ^ (n + 1) = _
      rw [ch_gt (Nat.lt_succ_self n)]; simp
    rw [e, ← binom a n, Nat.pow_succ]
    grind

theorem sum_mod {p : Nat} {f : Nat → Nat} : ∀ m, (∀ k, 0 < k → k ≤ m → p ∣ f k) → sumF f (m + 1) % p = f 0 % p
  | 0, h => by simp [sumF]
  | m + 1, h => by
    have i := sum_mod m fun k h1 h2 => h k h1 (by omega)
    obtain ⟨c, hc⟩ := h (m + 1) (by omega) (Nat.le_refl _)
    show (sumF f (m + 1) + f (m + 1)) % p = _
    rw [hc, Nat.add_mul_mod_self_left, i]

def PrimeN (p : Nat) : Prop := 2 ≤ p ∧ ∀ d, d ∣ p → d = 1 ∨ d = p

theorem PrimeN.cop {p a : Nat} (hp : PrimeN p) (h : ¬ p ∣ a) : Nat.Coprime p a := by
  have := hp.2 (Nat.gcd p a) (Nat.gcd_dvd_left p a)
  rcases this with h1 | h1
  · exact h1
  · exact absurd (h1 ▸ Nat.gcd_dvd_right p a) h

theorem PrimeN.ch {p k : Nat} (hp : PrimeN p) (h1 : 0 < k) (h2 : k < p) : p ∣ ch p k := by
  obtain ⟨q, rfl⟩ : ∃ q, p = q + 1 := ⟨p - 1, by omega⟩
  obtain ⟨j, rfl⟩ : ∃ j, k = j + 1 := ⟨k - 1, by omega⟩
  have hm := ch_mul q j
  have hd : (q + 1) ∣ (j + 1) * Go.Am.ch (q + 1) (j + 1) := ⟨Go.Am.ch q j, hm⟩
  exact (hp.cop fun h => absurd (Nat.le_of_dvd (by omega) h) (by omega)).dvd_of_dvd_mul_left hd

theorem fermat0 {p : Nat} (hp : PrimeN p) : ∀ a, a ^ p % p = a % p
  | 0 => by rw [Nat.zero_pow (by have := hp.1; omega)]
  | a + 1 => by
    rw [binom]
    show (sumF _ p + Go.Am.ch p p * a ^ p) % p = _
    obtain ⟨q, rfl⟩ : ∃ q, p = q + 1 := ⟨p - 1, by have := hp.1; omega⟩
    have h := sum_mod (p := q + 1) (f := fun k => Go.Am.ch (q + 1) k * a ^ k) q fun k h1 h2 => Nat.dvd_trans (hp.ch h1 (by omega)) (Nat.dvd_mul_right _ _)
    rw [ch_self, Nat.one_mul, Nat.add_mod, h, fermat0 hp a]
    simp only [ch_0, Nat.pow_zero, Nat.mul_one]
    rw [← Nat.add_mod, Nat.add_comm]

theorem fermat {p a : Nat} (hp : PrimeN p) (ha : ¬ p ∣ a) : a * a ^ (p - 2) % p = 1 := by
  have h2 := hp.1
  have h := fermat0 hp a
  have e : a ^ p = a * (a * a ^ (p - 2)) := by
    obtain ⟨q, rfl⟩ : ∃ q, p = q + 2 := ⟨p - 2, by omega⟩
    rw [Nat.pow_succ, Nat.pow_succ, Nat.add_sub_cancel]
    rw [Nat.mul_comm a (a ^ q), Nat.mul_comm a (a ^ q * a)]
  rw [e] at h
  have ha0 : 0 < a := by
    rcases Nat.eq_zero_or_pos a with h | h
    · subst h; exact absurd ⟨0, by simp⟩ ha
    · exact h
  have hz : 0 < a * a ^ (p - 2) := Nat.mul_pos ha0 (Nat.pow_pos ha0)
  generalize a * a ^ (p - 2) = z at h hz ⊢
  obtain ⟨y, rfl⟩ : ∃ y, z = y + 1 := ⟨z - 1, by omega⟩
  have hd : p ∣ a * y := by
    have e : a * (y + 1) = a * y + a := by rw [Nat.mul_add, Nat.mul_one]
    rw [e] at h
    have : (a * y + a - a) % p = 0 := Nat.sub_mod_eq_zero_of_mod_eq h
    rw [Nat.add_sub_cancel] at this
    exact Nat.dvd_of_mod_eq_zero this
  obtain ⟨c, rfl⟩ := (hp.cop ha).dvd_of_dvd_mul_left hd
  rw [Nat.add_comm, Nat.add_mul_mod_self_left]
  exact Nat.mod_eq_of_lt (by omega)

end Go.Am
end
section
namespace Go.Am

/-! ### inverses modulo p -/

theorem isPrimeI_N {p : Int} (h : isPrimeI p = true) : PrimeN p.toNat := by
  have hp := isPrimeI_t h
  obtain ⟨n, rfl⟩ := natI_eq (show 0 ≤ p by omega)
  simp only [Int.toNat_natCast]
  refine ⟨by omega, fun d hd => ?_⟩
  rcases Nat.lt_or_ge d 2 with h2 | h2
  · rcases Nat.eq_zero_or_pos d with h0 | h0
    · subst h0
      have := Nat.eq_zero_of_zero_dvd hd
      omega
    · exact .inl (by omega)
  · obtain ⟨e, he⟩ := hd
    simp only [isPrimeI, Bool.and_eq_true, decide_eq_true_eq, Bool.not_eq_true', List.any_eq_false] at h
    have key : ∀ a b : Nat, 2 ≤ a → 2 ≤ b → a ≤ b → n ≠ a * b := by
      intro a b ha hb hab e
      have h1 : a * a ≤ n := by rw [e]; exact Nat.mul_le_mul_left _ hab
      have h3 : a < 1001 := by
        rcases Nat.lt_or_ge a 1001 with h | h
        · exact h
        · have := Nat.mul_le_mul h h; omega
      refine h.2 a (by simp; omega) ?_
      unfold divAt
      have ea : ((a : Int)) * (a : Int) = ((a * a : Nat) : Int) := by norm_cast
      simp only [Bool.and_eq_true, decide_eq_true_eq]
      constructor
      · rw [ea]; omega
      · rw [e]; push_cast; exact Int.mul_emod_right _ _
    right
    rcases Nat.lt_or_ge e 2 with h3 | h3
    · have : e = 1 := by
        rcases Nat.eq_zero_or_pos e with h0 | h0
        · subst h0; simp at he; omega
        · omega
      subst this; omega
    · exfalso
      rcases Nat.le_total d e with hde | hde
      · exact key d e h2 h3 hde he
      · exact key e d h3 h2 hde (by rw [he, Nat.mul_comm])

theorem pow_sq (x : Int) (b : Nat) : ∀ m : Nat, (x * x) ^ m * x ^ b = x ^ (2 * m + b)
  | 0 => by simp
  | m + 1 => by
    have ih := pow_sq x b m
    rw [show 2 * (m + 1) + b = 2 * m + b + 1 + 1 by omega, Int.pow_succ, Int.pow_succ (n := 2 * m + b + 1), Int.pow_succ (n := 2 * m + b), ← ih]
    grind

theorem invG_pow {p : Int} (hp : pOk p) : ∀ (n : Nat) (out x : Int), invG p out x n % p = out * x ^ n % p := by
  intro n
  induction n using Nat.strongRecOn with
  | ind n ih =>
    intro out x
    by_cases h0 : n = 0
    · subst h0; rw [invG_0]; simp
    · rw [invG_s h0, ih (n / 2) (by omega)]
      have e : x ^ n = (x * x) ^ (n / 2) * x ^ (n % 2) := by
        rw [pow_sq, Nat.div_add_mod]
      rw [e]
      have h1 : ((x * x % p) ^ (n / 2)) % p = ((x * x) ^ (n / 2)) % p := by
        have : ∀ k : Nat, ((x * x % p) ^ k) % p = ((x * x) ^ k) % p := by
          intro k
          induction k with
          | zero => simp
          | succ k ih => rw [Int.pow_succ, Int.pow_succ, Int.mul_emod, ih, Int.emod_emod, ← Int.mul_emod]
        exact this _
      by_cases hb : n % 2 = 1
      · rw [if_pos hb, hb, Int.mul_emod, h1, Int.emod_emod, ← Int.mul_emod]
        congr 1
        grind
      · rw [if_neg hb, show n % 2 = 0 by omega, Int.mul_emod, h1, ← Int.mul_emod]
        congr 1
        grind

theorem inv_one {p x : Int} (hpr : isPrimeI p = true) (hx : inP p x) (h0 : x ≠ 0) : x * invG p 1 x (p - 2).toNat % p = 1 := by
  have hp := isPrimeI_t hpr
  have hp' : pOk p := ⟨hp.1, hp.2⟩
  obtain ⟨n, rfl⟩ := natI_eq (show 0 ≤ p by omega)
  obtain ⟨a, rfl⟩ := natI_eq hx.1
  have hN := isPrimeI_N hpr
  simp only [Int.toNat_natCast] at hN
  have ha : ¬ n ∣ a := fun h => by
    have := Nat.le_of_dvd (by omega) h
    have := hx.2
    omega
  have hf := fermat hN ha
  have e : (((n : Int)) - 2).toNat = n - 2 := by omega
  rw [Int.mul_emod, invG_pow hp', e, Int.one_mul, ← Int.mul_emod]
  exact_mod_cast hf

/-! ### sums -/

def sumD (f g : Nat → Int) : Nat → Int
  | 0 => 0
  | n + 1 => sumD f g n + f n * g n

theorem sumD_mod {p : Int} {f f' g : Nat → Int} : ∀ n, (∀ k, k < n → ∃ q, f k = f' k + p * q) → ∃ q, sumD f g n = sumD f' g n + p * q
  | 0, _ => ⟨0, by simp [sumD]⟩
  | n + 1, h => by
    obtain ⟨q, hq⟩ := sumD_mod (g := g) n fun k hk => h k (by omega)
    obtain ⟨q', hq'⟩ := h n (by omega)
    exact ⟨q + q' * g n, by simp only [sumD, hq, hq']; grind⟩
theorem sumD_l (f f2 g : Nat → Int) (c : Int) : ∀ n, sumD (fun k => f k + c * f2 k) g n = sumD f g n + c * sumD f2 g n
  | 0 => by simp [sumD]
  | n + 1 => by simp only [sumD, sumD_l f f2 g c n]; grind
theorem sumD_r (f g g2 : Nat → Int) (c : Int) : ∀ n, sumD f (fun k => g k - c * g2 k) n = sumD f g n - c * sumD f g2 n
  | 0 => by simp [sumD]
  | n + 1 => by simp only [sumD, sumD_r f g g2 c n]; grind
theorem sumD_sl (f g : Nat → Int) (c : Int) : ∀ n, sumD (fun k => f k * c) g n = sumD f g n * c
  | 0 => by simp [sumD]
  | n + 1 => by simp only [sumD, sumD_sl f g c n]; grind
theorem sumD_sr (f g : Nat → Int) (c : Int) : ∀ n, sumD f (fun k => g k * c) n = sumD f g n * c
  | 0 => by simp [sumD]
  | n + 1 => by simp only [sumD, sumD_sr f g c n]; grind
/-! ### a right inverse is kept by row operations -/

def dl (a b : Nat) : Int := if a = b then 1 else 0

def RInv (p : Int) (n : Nat) (E X : Mat) : Prop := ∀ a, a < n → ∀ b, b < n → ∃ q, sumD (E a) (fun k => X k b) n = dl a b + p * q

theorem RInv.congr {p : Int} {n : Nat} {E E' X : Mat} (h : RInv p n E X) (he : ∀ a, a < n → ∀ k, k < n → ∃ q, E' a k = E a k + p * q) : RInv p n E' X := by
  intro a ha b hb
  obtain ⟨q, hq⟩ := h a ha b hb
  obtain ⟨q', hq'⟩ := sumD_mod (p := p) (f := E' a) (f' := E a) (g := fun k => X k b) n (he a ha)
  exact ⟨q + q', by rw [hq', hq]; grind⟩

theorem RInv.swap {p : Int} {n : Nat} {E X : Mat} (h : RInv p n E X) {s t : Nat} (hs : s < n) (ht : t < n) : ∃ X', RInv p n (swapF E s t) X' := by
  let sw : Nat → Nat := fun i => if i = s then t else if i = t then s else i
  have hsw : ∀ i, i < n → sw i < n := by
    intro i hi
    show (if i = s then t else if i = t then s else i) < n
    split
    · exact ht
    · split
      · exact hs
      · exact hi
  have hinj : ∀ i j, sw i = sw j → i = j := by
    intro i j
    show (if i = s then t else if i = t then s else i) = (if j = s then t else if j = t then s else j) → i = j
    intro h
    repeat' split at h
    all_goals omega
  refine ⟨fun k b => X k (sw b), fun a ha b hb => ?_⟩
  obtain ⟨q, hq⟩ := h (sw a) (hsw a ha) (sw b) (hsw b hb)
  refine ⟨q, ?_⟩
  have e : swapF E s t a = E (sw a) := by
    funext k
    show (if a = s then E t k else if a = t then E s k else E a k) = E (if a = s then t else if a = t then s else a) k
    split
    · rfl
    · split <;> rfl
  rw [e, hq]
  congr 1
  unfold dl
  by_cases hab : a = b
  · subst hab; simp
  · rw [if_neg hab, if_neg fun h => hab (hinj _ _ h)]

theorem RInv.scale {p inv u : Int} {n : Nat} {E X : Mat} (h : RInv p n E X) {t : Nat} (ht : t < n) (hu : u * inv % p = 1) : ∃ X', RInv p n (sclF p inv E t) X' := by
  have hu' : ∃ z, u * inv = 1 + p * z := ⟨u * inv / p, by have := Int.emod_add_mul_ediv (u * inv) p; omega⟩
  obtain ⟨z, hz⟩ := hu'
  refine ⟨fun k b => if b = t then X k t * u else X k b, RInv.congr (E := fun a k => if a = t then E t k * inv else E a k) (fun a ha b hb => ?_) (fun a ha k hk => ?_)⟩
  · obtain ⟨q, hq⟩ := h a ha b hb
    by_cases hat : a = t
    · subst hat
      by_cases hbt : b = a
      · subst hbt
        refine ⟨z + q * inv * u, ?_⟩
        simp only [if_true]
        rw [sumD_sl, sumD_sr, hq, dl, if_pos rfl]
        grind
      · refine ⟨q * inv, ?_⟩
        simp only [if_true, if_neg hbt]
        rw [sumD_sl, hq, dl, if_neg (Ne.symm hbt)]
        grind
    · by_cases hbt : b = t
      · subst hbt
        refine ⟨q * u, ?_⟩
        simp only [if_neg hat, if_true]
        rw [sumD_sr]
        have : sumD (fun k => E a k) (fun k => X k b) n = dl a b + p * q := hq
        rw [this, dl, if_neg hat]
        grind
      · refine ⟨q, ?_⟩
        simp only [if_neg hat, if_neg hbt]
        exact hq
  · unfold sclF
    by_cases hat : a = t
    · simp only [hat, if_true]
      refine ⟨-(E t k * inv / p), ?_⟩
      have := Int.emod_add_mul_ediv (E t k * inv) p
      have e : p * -(E t k * inv / p) = -(p * (E t k * inv / p)) := Int.mul_neg _ _
      omega
    · simp only [hat, if_false]
      exact ⟨0, by simp⟩

theorem RInv.add {p f : Int} {n : Nat} {E E' X : Mat} (h : RInv p n E X) {m t : Nat} (hm : m < n) (ht : t < n) (hmt : m ≠ t) (he : ∀ a, a < n → ∀ k, k < n → ∃ q, E' a k = (if a = m then E m k + f * E t k else E a k) + p * q) : ∃ X', RInv p n E' X' := by
  refine ⟨fun k b => if b = t then X k t - f * X k m else X k b, RInv.congr (E := fun a k => if a = m then E m k + f * E t k else E a k) (fun a ha b hb => ?_) he⟩
  obtain ⟨q1, h1⟩ := h a ha b hb
  obtain ⟨q2, h2⟩ := h t ht b hb
  obtain ⟨q3, h3⟩ := h a ha m hm
  obtain ⟨q4, h4⟩ := h t ht m hm
  have h1' : sumD (fun k => E a k) (fun k => X k b) n = dl a b + p * q1 := h1
  have h2' : sumD (fun k => E t k) (fun k => X k b) n = dl t b + p * q2 := h2
  have h3' : sumD (fun k => E a k) (fun k => X k m) n = dl a m + p * q3 := h3
  have h4' : sumD (fun k => E t k) (fun k => X k m) n = dl t m + p * q4 := h4
  have d1 : dl t m = 0 := if_neg (Ne.symm hmt)
  by_cases ham : a = m
  · subst ham
    have d2 : dl a a = 1 := if_pos rfl
    by_cases hbt : b = t
    · subst hbt
      have d3 : dl a b = 0 := if_neg hmt
      have d4 : dl b b = 1 := if_pos rfl
      refine ⟨q1 + f * q2 - f * q3 - f * f * q4, ?_⟩
      simp only [if_true]
      rw [sumD_l, sumD_r, sumD_r, h1', h2', h3', h4', d1, d2, d3, d4]
      grind
    · refine ⟨q1 + f * q2, ?_⟩
      have d3 : dl t b = 0 := if_neg (Ne.symm hbt)
      simp only [if_true, if_neg hbt]
      rw [sumD_l, h1', h2', d3]
      grind
  · by_cases hbt : b = t
    · subst hbt
      have d3 : dl a m = 0 := if_neg ham
      refine ⟨q1 - f * q3, ?_⟩
      simp only [if_neg ham, if_true]
      rw [sumD_r, h1', h3', d3]
      grind
    · refine ⟨q1, ?_⟩
      simp only [if_neg ham, if_neg hbt]
      exact h1'

/-! ### the reduction -/

/-- The rows behind the rank are zero in the columns that are done; the right half has a right inverse. -/
def RK (p : Int) (n : Nat) (s : Mat × List Int × Int) (j : Nat) : Prop :=
  (∃ X, RInv p n (fun a k => s.1 a (n + k)) X) ∧ ∀ b, b < j → ∀ i, s.2.1.length ≤ i → i < n → s.1 i b = 0

theorem RK.step {p : Int} {n : Nat} {s : Mat × List Int × Int} {j : Nat} (hpr : isPrimeI p = true) (hj : j < 2 * n) (I : RI p n (2 * n) s j) (h : RK p n s j) : RK p n (redS p n s j) (j + 1) := by
  have hp : pOk p := isPrimeI_t hpr
  obtain ⟨⟨X, hX⟩, hz⟩ := h
  obtain ⟨M, L, d⟩ := s
  simp only at hX hz
  by_cases hl : L.length < n
  · cases hk : pivF M j (n - L.length) L.length with
    | none =>
      rw [redS_n (s := (M, L, d)) hl hk]
      refine ⟨⟨X, hX⟩, fun b hb i h1 h2 => ?_⟩
      by_cases hbj : b = j
      · subst hbj; exact pivF_none hk i h1 (by simp only at h1; omega)
      · exact hz b (by omega) i h1 h2
    | some k =>
      rw [redS_s (s := (M, L, d)) hl hk]
      simp only
      have hq := pivF_lt hk
      have hkn : k < n := by omega
      have hM : inM p n (2 * n) M := I.m
      have hx : inP p (M k j) := hM k hkn j hj
      have hsw : swapF M L.length k L.length j = M k j := if_pos rfl
      have hi := inv_one hpr hx hq.2.2
      generalize hinv : invG p 1 (M k j) (p - 2).toNat = inv at hi
      have hpiv : pivS p M L.length j k = sclF p inv (swapF M L.length k) L.length := by unfold pivS; rw [hsw, hinv]
      rw [hpiv]
      have hS : inM p n (2 * n) (swapF M L.length k) := swapF_in hM hl hkn
      generalize hM2 : sclF p inv (swapF M L.length k) L.length = M2
      have hM2i : inM p n (2 * n) M2 := by rw [← hM2]; exact sclF_in hp hS _
      constructor
      · obtain ⟨X1, hX1⟩ := hX.swap (s := L.length) (t := k) hl hkn
        obtain ⟨X2, hX2⟩ := hX1.scale (inv := inv) (u := M k j) hl hi
        have base : RInv p n (fun a b => clrF p M2 L.length j 0 a (n + b)) X2 := by
          rw [clrF_0, ← hM2]; exact hX2
        have key : ∀ m, m ≤ n → ∃ X', RInv p n (fun a b => clrF p M2 L.length j m a (n + b)) X' := by
          intro m
          induction m with
          | zero => intro _; exact ⟨X2, base⟩
          | succ m ih =>
            intro hm
            obtain ⟨X', hX'⟩ := ih (by omega)
            by_cases hmt : m = L.length
            · subst hmt
              rw [clrF_skip]; exact ⟨X', hX'⟩
            · refine hX'.add (f := p - M2 m j) (m := m) (t := L.length) (by omega) hl hmt fun a ha b hb => ?_
              show ∃ q, clrF p M2 L.length j (m + 1) a (n + b) = _
              by_cases ham : a = m
              · subst ham
                rw [if_pos rfl]
                show ∃ q, clrF p M2 L.length j (a + 1) a (n + b) = (clrF p M2 L.length j a a (n + b) + (p - M2 a j) * clrF p M2 L.length j a L.length (n + b)) + p * q
                rw [clrF_old, clrF_t]
                unfold clrF
                rw [if_pos ⟨by omega, hmt⟩]
                refine ⟨-((M2 a (n + b) + (p - M2 a j) * M2 L.length (n + b)) / p), ?_⟩
                have e1 := Int.emod_add_mul_ediv (M2 a (n + b) + (p - M2 a j) * M2 L.length (n + b)) p
                have e2 := Int.mul_neg p ((M2 a (n + b) + (p - M2 a j) * M2 L.length (n + b)) / p)
                omega
              · rw [if_neg ham]
                refine ⟨0, ?_⟩
                show clrF p M2 L.length j (m + 1) a (n + b) = clrF p M2 L.length j m a (n + b) + p * 0
                unfold clrF
                by_cases hc : a < m ∧ a ≠ L.length
                · rw [if_pos hc, if_pos ⟨by omega, hc.2⟩]; simp
                · rw [if_neg hc, if_neg (by omega)]; simp
        exact key n (Nat.le_refl _)
      · intro b hb i h1 h2
        simp only [List.length_append, List.length_cons, List.length_nil] at h1
        show clrF p M2 L.length j n i b = 0
        unfold clrF
        rw [if_pos ⟨h2, by omega⟩]
        have e2 : ∀ c, M2 i c = swapF M L.length k i c := fun c => by rw [← hM2]; exact if_neg (by omega)
        have e3 : ∀ c, M2 L.length c = M k c * inv % p := fun c => by rw [← hM2]; show (if L.length = L.length then _ else _) = _; rw [if_pos rfl]; congr 2; exact if_pos rfl
        by_cases hbj : b = j
        · subst hbj
          rw [e3 b, hi]
          have : M2 i b + (p - M2 i b) * 1 = p := by omega
          rw [this]; exact Int.emod_self
        · have hbj' : b < j := by omega
          rw [e3 b, hz b hbj' k hq.1 hkn, e2 b]
          have : swapF M L.length k i b = 0 := by
            unfold swapF
            rw [if_neg (by omega)]
            split
            · exact hz b hbj' L.length (Nat.le_refl _) hl
            · exact hz b hbj' i (by omega) h2
          rw [this]; simp
  · unfold redS
    rw [if_neg hl]
    exact ⟨⟨X, hX⟩, fun b hb i h1 h2 => by simp only at h1; omega⟩

end Go.Am
end
section
namespace Go.Am
def wideF (n : Nat) (M : Mat) : Mat := fun a b => if b < n then M a b else dl a (b - n)
def wideM (n : Nat) (M : Mat) : Mat := ofD (2 * n) (genD n (2 * n) (wideF n M))
def invX (p : Int) (n : Nat) (M : Mat) : Mat × List Int × Int := redN p n (wideM n M) (2 * n)
def invOk (p : Int) (n : Nat) (M : Mat) : Prop := ∀ i, i < n → (invX p n M).2.1.getD i 0 = (i : Int)
instance (p : Int) (n : Nat) (M : Mat) : Decidable (invOk p n M) := inferInstanceAs (Decidable (∀ i, i < n → (invX p n M).2.1.getD i 0 = (i : Int)))
theorem get_nat {L : List Int} {i : Nat} (h : i < L.length) : getN L i = some (L.getD i 0) := by
  show L[i]? = _
  rw [List.getElem?_eq_getElem h]
  simp [List.getD, h]
section
variable {p : Int} {n : Nat} {M R : Mat} {L : List Int}

end
section
variable {p : Int} {n : Nat} {M R : Mat} {L : List Int}
end

end Go.Am
end
section
namespace Go.Am
abbrev Mx3 := Int × Int × List Int
abbrev Aut := Int × Int × List Int × List (Int × Int × List Int) × List Int
def wOk (k : Nat) (w : List Int) : Prop := ∀ c ∈ w, 0 ≤ c ∧ c < (k : Int)
instance (k : Nat) (w : List Int) : Decidable (wOk k w) := inferInstanceAs (Decidable (∀ c ∈ w, 0 ≤ c ∧ c < (k : Int)))
def reachOk (x : Aut × List Int) : Prop := autOk x.1 = true ∧ wOk x.1.2.2.2.1.length x.2 ∧ x.2.length ≤ 1048576
instance (x : Aut × List Int) : Decidable (reachOk x) := by unfold reachOk; infer_instance
/-! ### good automata -/

theorem rowOk_P {m : Int} {l : List Int} : rowOk m l = true ↔ allP m l := by
  simp only [rowOk, allP, List.all_eq_true, inB, decide_eq_true_eq, inP]

structure AutOk (p : Int) (n : Nat) (a : List Int) (ms : List Mx3) (b : List Int) : Prop where
  pr : isPrimeI p = true
  hn : n ≤ 12
  al : a.length = n
  ap : allP p a
  bl : b.length = n
  bp : allP p b
  l1 : 1 ≤ ms.length
  l4 : ms.length ≤ 4
  hm : ∀ x ∈ ms, ∃ M : Mat, x = ((n : Int), (n : Int), genD n n M) ∧ inM p n n M

theorem AutOk.p {p : Int} {n : Nat} {a b : List Int} {ms : List Mx3} (h : AutOk p n a ms b) : pOk p := isPrimeI_t h.pr

theorem autOk_nat {x : Aut} (h : autOk x = true) : ∃ (p : Int) (n : Nat) (a : List Int) (ms : List Mx3) (b : List Int), x = (p, (n : Int), a, ms, b) ∧ AutOk p n a ms b := by
  obtain ⟨p, n, a, ms, b⟩ := x
  simp only [autOk, Bool.and_eq_true, decide_eq_true_eq] at h
  obtain ⟨h1, h2, ⟨h3, h4⟩, ⟨h5, h6⟩, h7, h8⟩ := h
  obtain ⟨n, rfl⟩ := natI_eq h2.1
  refine ⟨p, n, a, ms, b, rfl, h1, by omega, by omega, rowOk_P.1 h3, by omega, rowOk_P.1 h5, by omega, by omega, fun x hx => ?_⟩
  have hm := List.all_eq_true.1 h8 x hx
  simp only [matsOk, Bool.and_eq_true, decide_eq_true_eq] at hm
  obtain ⟨hm, hr, hc⟩ := hm
  obtain ⟨r, c, M, rfl, hp, hr', hc', hrc, hM⟩ := matOk_nat hm
  simp only at hr hc
  have er : r = n := by omega
  have ec : c = n := by omega
  subst er ec
  exact ⟨M, rfl, hM⟩

theorem ofD_in {p : Int} {r c : Nat} {l : List Int} (hl : l.length = r * c) (h : allP p l) : inM p r c (ofD c l) := allP_gen.1 (by rw [genD_of hl]; exact h)

section
variable {p : Int} {n : Nat} {a b : List Int} {ms : List Mx3}

end

end Go.Am
end
section
namespace Go.Am
def alikeB (x y : Aut) : Bool := autOk x && (autOk y && (decide (x.1 = y.1) && decide (x.2.2.2.1.length = y.2.2.2.1.length)))
def F_spec_l34Alike : Aut × Aut → Option Bool := fun (x : Aut × Aut) => if sz_Automaton x.1 ≤ 1048576 ∧ sz_Automaton x.2 ≤ 1048576 then some (alikeB x.1 x.2) else none
def F_impl_sameLetters : Aut × Aut → Option Bool := F_spec_l34Alike
def stM (n : Nat) (ms : List Mx3) (k : Nat) : Mat := ofD n (ms.getD k (0, 0, [])).2.2
def ag_spec_l34Alike : Sig := [(.agg, [.int .i64, .int .i64, .list [.int .i64], .list [.int .i64, .int .i64, .list [.int .i64]], .list [.int .i64]]), (.agg, [.int .i64, .int .i64, .list [.int .i64], .list [.int .i64, .int .i64, .list [.int .i64]], .list [.int .i64]])]
def rs_spec_l34Alike : Sig := [(.one, [.bool])]
def mu_spec_l34Alike : MSig := []
def ag_impl_sameLetters : Sig := [(.agg, [.int .i64, .int .i64, .list [.int .i64], .list [.int .i64, .int .i64, .list [.int .i64]], .list [.int .i64]]), (.agg, [.int .i64, .int .i64, .list [.int .i64], .list [.int .i64, .int .i64, .list [.int .i64]], .list [.int .i64]])]
def rs_impl_sameLetters : Sig := [(.one, [.bool])]
def mu_impl_sameLetters : MSig := []
def G_spec_l34Alike (NN : Nat) : ((Int × (Int × ((List Int) × ((List (Int × (Int × (List Int)))) × (List Int))))) × (Int × (Int × ((List Int) × ((List (Int × (Int × (List Int)))) × (List Int)))))) → (Option Bool) :=
 (fun (((i0, i1, l2, l3, l4), i5, i6, l7, l8, l9) : ((Int × (Int × ((List Int) × ((List (Int × (Int × (List Int)))) × (List Int))))) × (Int × (Int × ((List Int) × ((List (Int × (Int × (List Int)))) × (List Int))))))) =>
 (F_spec_AutomatonOk (i0, i1, l2, l3, l4)).bnd (fun (b10 : Bool) =>
 cnd (b10)
 ((F_spec_AutomatonOk (i5, i6, l7, l8, l9)).bnd (fun (b11 : Bool) =>
 cnd (b11)
 (cnd (eqI i0 i5)
 (some (eqI (natI (lenN l3)) (natI (lenN l8))))
 (some false))
 (some false)))
 (some false)))


def G_impl_sameLetters (NN : Nat) : ((Int × (Int × ((List Int) × ((List (Int × (Int × (List Int)))) × (List Int))))) × (Int × (Int × ((List Int) × ((List (Int × (Int × (List Int)))) × (List Int)))))) → (Option Bool) :=
 (fun (((i0, i1, l2, l3, l4), i5, i6, l7, l8, l9) : ((Int × (Int × ((List Int) × ((List (Int × (Int × (List Int)))) × (List Int))))) × (Int × (Int × ((List Int) × ((List (Int × (Int × (List Int)))) × (List Int))))))) =>
 (F_impl_AutomatonOk (i0, i1, l2, l3, l4)).bnd (fun (b10 : Bool) =>
 cnd (b10)
 ((F_impl_AutomatonOk (i5, i6, l7, l8, l9)).bnd (fun (b11 : Bool) =>
 cnd (b11)
 (cnd (eqI i0 i5)
 (some (eqI (natI (lenN l3)) (natI (lenN l8))))
 (some false))
 (some false)))
 (some false)))


/-! ### sums of automata -/

theorem app_len {α : Type} (l r : List α) : fulI 0 (addN (lenN l) (lenN r)) (lenN (l ++ r)) = some () := fulI_ok (by simp [addN, lenN])
theorem fulI_nil {α : Type} : fulI 0 0 (lenN ([] : List α)) = some () := rfl
theorem appL_eq {α : Type} (l r : List α) : appL l r = l ++ r := rfl

section
variable {p : Int} {n m : Nat} {a b a2 b2 : List Int} {ms ms2 : List Mx3}

theorem stM_get (H : AutOk p n a ms b) {k : Nat} (hk : k < ms.length) : ms[k]? = some ((n : Int), (n : Int), genD n n (stM n ms k)) ∧ inM p n n (stM n ms k) := by
  obtain ⟨M, hM, hi⟩ := H.hm ms[k] (List.getElem_mem hk)
  have e : ms.getD k (0, 0, []) = ms[k] := by simp [List.getD, hk]
  have e2 : genD n n (stM n ms k) = genD n n M := by unfold stM; rw [e, hM]; exact genD_of (genD_len _ _ _)
  refine ⟨by rw [List.getElem?_eq_getElem hk, e2, hM], ?_⟩
  unfold stM
  rw [e, hM]
  exact ofD_in (genD_len _ _ _) (allP_gen.2 hi)

end

section
variable {p sg : Int} {n m : Nat} {a b a2 b2 : List Int} {ms ms2 : List Mx3}

end

theorem alikeB_nat {x y : Aut} (h : alikeB x y = true) : ∃ (p : Int) (n m : Nat) (a b a2 b2 : List Int) (ms ms2 : List Mx3), x = (p, (n : Int), a, ms, b) ∧ y = (p, (m : Int), a2, ms2, b2) ∧ AutOk p n a ms b ∧ AutOk p m a2 ms2 b2 ∧ ms.length = ms2.length := by
  simp only [alikeB, Bool.and_eq_true, decide_eq_true_eq] at h
  obtain ⟨h1, h2, h3, h4⟩ := h
  obtain ⟨p, n, a, ms, b, rfl, H⟩ := autOk_nat h1
  obtain ⟨q, m, a2, ms2, b2, rfl, H2⟩ := autOk_nat h2
  simp only at h3 h4
  subst h3
  exact ⟨p, n, m, a, b, a2, b2, ms, ms2, rfl, rfl, H, H2, h4⟩

theorem f_spec_l34Alike (x : Aut × Aut) (y : Bool) (h : F_spec_l34Alike x = some y) : G_spec_l34Alike FUEL x = some y := by
  obtain ⟨x, z⟩ := x
  simp only [F_spec_l34Alike] at h
  split at h
  · rename_i hl
    rw [← h]
    have e1 : F_spec_AutomatonOk x = some (autOk x) := if_pos hl.1
    have e2 : F_spec_AutomatonOk z = some (autOk z) := if_pos hl.2
    obtain ⟨x0, x1, x2, x3, x4⟩ := x
    obtain ⟨z0, z1, z2, z3, z4⟩ := z
    simp only [G_spec_l34Alike, e1, e2, bnd_s, alikeB]
    cases autOk (x0, x1, x2, x3, x4) with
    | false => rfl
    | true =>
      cases autOk (z0, z1, z2, z3, z4) with
      | false => rfl
      | true =>
        simp only [cnd_true, Bool.true_and]
        by_cases e : x0 = z0
        · rw [cnd_t (by simp [eqI, e]), decide_eq_true e, Bool.true_and]
          congr 1
          rw [nl, nl, eqI]
          rw [Bool.eq_iff_iff]
          simp
          constructor <;> (intro h; omega)
        · rw [cnd_f (by simp [eqI, e]), decide_eq_false e, Bool.false_and]
  · cases h
theorem f_impl_sameLetters (x : Aut × Aut) (y : Bool) (h : F_impl_sameLetters x = some y) : G_impl_sameLetters FUEL x = some y := by
  obtain ⟨x, z⟩ := x
  simp only [F_impl_sameLetters, F_spec_l34Alike] at h
  split at h
  · rename_i hl
    rw [← h]
    have e1 : F_impl_AutomatonOk x = some (autOk x) := if_pos hl.1
    have e2 : F_impl_AutomatonOk z = some (autOk z) := if_pos hl.2
    obtain ⟨x0, x1, x2, x3, x4⟩ := x
    obtain ⟨z0, z1, z2, z3, z4⟩ := z
    simp only [G_impl_sameLetters, e1, e2, bnd_s, alikeB]
    cases autOk (x0, x1, x2, x3, x4) with
    | false => rfl
    | true =>
      cases autOk (z0, z1, z2, z3, z4) with
      | false => rfl
      | true =>
        simp only [cnd_true, Bool.true_and]
        by_cases e : x0 = z0
        · rw [cnd_t (by simp [eqI, e]), decide_eq_true e, Bool.true_and]
          congr 1
          rw [nl, nl, eqI]
          rw [Bool.eq_iff_iff]
          simp
          constructor <;> (intro h; omega)
        · rw [cnd_f (by simp [eqI, e]), decide_eq_false e, Bool.false_and]
  · cases h

end Go.Am
end
section
namespace Go.Am
def kronM (p : Int) (s d : Nat) (A B : Mat) : Mat := fun i j => A (i / s) (j / d) * B (i % s) (j % d) % p
def kronOk (x : Int × Mx3 × Mx3) : Prop := pOk x.1 ∧ mOk x.2.1 ∧ mOk x.2.2 ∧ (x.2.1.1 * x.2.2.1 ≤ 4096 ∧ x.2.1.2.1 * x.2.2.2.1 ≤ 4096) ∧ (x.2.1.1 * x.2.2.1) * (x.2.1.2.1 * x.2.2.2.1) ≤ 1048576 ∧ allP x.1 x.2.1.2.2 ∧ allP x.1 x.2.2.2.2
instance (x : Int × Mx3 × Mx3) : Decidable (kronOk x) := by unfold kronOk; infer_instance
def kronX (x : Int × Mx3 × Mx3) : Mx3 := (x.2.1.1 * x.2.2.1, x.2.1.2.1 * x.2.2.2.1, genD (x.2.1.1.toNat * x.2.2.1.toNat) (x.2.1.2.1.toNat * x.2.2.2.1.toNat) (kronM x.1 x.2.2.1.toNat x.2.2.2.1.toNat (ofD x.2.1.2.1.toNat x.2.1.2.2) (ofD x.2.2.2.1.toNat x.2.2.2.2)))
def F_spec_l34Kron : Int × Mx3 × Mx3 → Option Mx3 := fun (x : Int × Mx3 × Mx3) => if kronOk x then some (kronX x) else none
def F_impl_pairMatrix : Int × Mx3 × Mx3 → Option Mx3 := F_spec_l34Kron
def prodTo (p : Int) (m : Nat) (a a2 : List Int) (k : Nat) : List Int := (List.range k).map fun t => a.getD (t / m) 0 * a2.getD (t % m) 0 % p
def kronSt (p : Int) (n m : Nat) (ms ms2 : List Mx3) (k : Nat) : List Mx3 := (List.range k).map fun t => (((n * m : Nat) : Int), ((n * m : Nat) : Int), genD (n * m) (n * m) (kronM p m m (stM n ms t) (stM m ms2 t)))
def prodX (x y : Aut) : Aut := (x.1, ((x.2.1.toNat * y.2.1.toNat : Nat) : Int), prodTo x.1 y.2.1.toNat x.2.2.1 y.2.2.1 (x.2.1.toNat * y.2.1.toNat), kronSt x.1 x.2.1.toNat y.2.1.toNat x.2.2.2.1 y.2.2.2.1 x.2.2.2.1.length, prodTo x.1 y.2.1.toNat x.2.2.2.2 y.2.2.2.2 (x.2.1.toNat * y.2.1.toNat))
def F_spec_MultiplyAutomata : Aut × Aut → Option (Aut × Bool) := fun (x : Aut × Aut) =>
  if sz_Automaton x.1 ≤ 1048576 ∧ sz_Automaton x.2 ≤ 1048576 then some (if alikeB x.1 x.2 = true ∧ x.1.2.1 * x.2.2.1 ≤ 12 then (prodX x.1 x.2, true) else ((0, 0, [], [], []), false)) else none
def F_impl_MultiplyAutomata : Aut × Aut → Option (Aut × Bool) := F_spec_MultiplyAutomata

def ag_spec_l34Kron : Sig := [(.one, [.int .i64]), (.agg, [.int .i64, .int .i64, .list [.int .i64]]), (.agg, [.int .i64, .int .i64, .list [.int .i64]])]
def mu_spec_l34Kron : MSig := []
def rs_spec_l34Kron : Sig := [(.agg, [.int .i64, .int .i64, .list [.int .i64]])]
def ag_impl_pairMatrix : Sig := [(.one, [.int .i64]), (.agg, [.int .i64, .int .i64, .list [.int .i64]]), (.agg, [.int .i64, .int .i64, .list [.int .i64]])]
def mu_impl_pairMatrix : MSig := []
def rs_impl_pairMatrix : Sig := [(.agg, [.int .i64, .int .i64, .list [.int .i64]])]
def ag_spec_MultiplyAutomata : Sig := [(.agg, [.int .i64, .int .i64, .list [.int .i64], .list [.int .i64, .int .i64, .list [.int .i64]], .list [.int .i64]]), (.agg, [.int .i64, .int .i64, .list [.int .i64], .list [.int .i64, .int .i64, .list [.int .i64]], .list [.int .i64]])]
def mu_spec_MultiplyAutomata : MSig := []
def rs_spec_MultiplyAutomata : Sig := [(.agg, [.int .i64, .int .i64, .list [.int .i64], .list [.int .i64, .int .i64, .list [.int .i64]], .list [.int .i64]]), (.one, [.bool])]
def ag_impl_MultiplyAutomata : Sig := [(.agg, [.int .i64, .int .i64, .list [.int .i64], .list [.int .i64, .int .i64, .list [.int .i64]], .list [.int .i64]]), (.agg, [.int .i64, .int .i64, .list [.int .i64], .list [.int .i64, .int .i64, .list [.int .i64]], .list [.int .i64]])]
def mu_impl_MultiplyAutomata : MSig := []
def rs_impl_MultiplyAutomata : Sig := [(.agg, [.int .i64, .int .i64, .list [.int .i64], .list [.int .i64, .int .i64, .list [.int .i64]], .list [.int .i64]]), (.one, [.bool])]

def G_spec_l34Kron (NN : Nat) : (Int × ((Int × (Int × (List Int))) × (Int × (Int × (List Int))))) → (Option (Int × (Int × (List Int)))) :=
 (fun ((i0, (i1, i2, l3), i4, i5, l6) : (Int × ((Int × (Int × (List Int))) × (Int × (Int × (List Int)))))) =>
 (F_spec_l31New (mulI .i64 i1 i4, mulI .i64 i2 i5)).bnd (fun ((i7, i8, l9) : (Int × (Int × (List Int)))) =>
 joinK ((fulI 0 0 (lenN (([] : List Int)))).bnd (fun (_ : Unit) =>
 (fulI 0 (lenN l9) (lenN l9)).bnd (fun (_ : Unit) =>
 loopT NN (fun (((i10, i11, i12), (i13, i14, l15), (i16, i17, l18), (i19, i20), (i21, i22), l23, l24) : ((Int × (Int × Int)) × ((Int × (Int × (List Int))) × ((Int × (Int × (List Int))) × ((Int × Int) × ((Int × Int) × ((List Int) × (List Int)))))))) =>
 cnd (ltI i12 i11)
 ((quoI .i64 i12 i22).bnd (fun (i25 : Int) =>
 (remI i12 i22).bnd (fun (i26 : Int) =>
 (quoI .i64 i25 i16).bnd (fun (i27 : Int) =>
 (quoI .i64 i26 i17).bnd (fun (i28 : Int) =>
 (getI l15 (addI .i64 (mulI .i64 i27 i14) i28)).bnd (fun (i29 : Int) =>
 (remI i25 i16).bnd (fun (i30 : Int) =>
 (remI i26 i17).bnd (fun (i31 : Int) =>
 (getI l18 (addI .i64 (mulI .i64 i30 i17) i31)).bnd (fun (i32 : Int) =>
 (remI (mulI .i64 i29 i32) i10).bnd (fun (i33 : Int) =>
 (chkI i12 (lenN l24)).bnd (fun (k34 : Nat) =>
 (getN l24 (addN 0 k34)).bnd (fun (i35 : Int) =>
 (fulI 0 (lenN l23) (lenN l23)).bnd (fun (_ : Unit) =>
 (fulI 0 (lenN l24) (lenN (setL l24 (addN 0 k34) i33))).bnd (fun (_ : Unit) =>
 some (Sum.inl ((i10, i11, addI .i64 i12 (1 : Int)), (i13, i14, l15), (i16, i17, l18), (i19, i20), (i21, i22), l23, setL l24 (addN 0 k34) i33))))))))))))))))
 (((fulI 0 (lenN l23) (lenN l23)).bnd (fun (_ : Unit) =>
 (fulI 0 (lenN l24) (lenN l24)).bnd (fun (_ : Unit) =>
 some (Sum.inl ((i19, i20), (i21, i22), l23, l24))))).bnd (fun (l36 : (((Int × Int) × ((Int × Int) × ((List Int) × (List Int)))) ⊕ (Int × (Int × (List Int))))) =>
 some (Sum.inr l36))))
 ((i0, natI (lenN l9), (0 : Int)), (i1, i2, l3), (i4, i5, l6), ((0 : Int), (0 : Int)), (i7, i8), ([] : List Int), l9))))
 (fun (((i37, i38), (i39, i40), l41, l42) : ((Int × Int) × ((Int × Int) × ((List Int) × (List Int))))) =>
 (takI l42 (lenN l42)).bnd (fun (l43 : (List Int)) =>
 some (i39, i40, l43)))))


def G_impl_pairMatrix (NN : Nat) : (Int × ((Int × (Int × (List Int))) × (Int × (Int × (List Int))))) → (Option (Int × (Int × (List Int)))) :=
 (fun ((i0, (i1, i2, l3), i4, i5, l6) : (Int × ((Int × (Int × (List Int))) × (Int × (Int × (List Int)))))) =>
 (F_impl_emptyMatrix (mulI .i64 i1 i4, mulI .i64 i2 i5)).bnd (fun ((i7, i8, l9) : (Int × (Int × (List Int)))) =>
 joinK ((fulI 0 0 (lenN (([] : List Int)))).bnd (fun (_ : Unit) =>
 (fulI 0 (lenN l9) (lenN l9)).bnd (fun (_ : Unit) =>
 loopT NN (fun (((i10, i11), (i12, i13, l14), (i15, i16, l17), (i18, i19), (i20, i21), l22, l23) : ((Int × Int) × ((Int × (Int × (List Int))) × ((Int × (Int × (List Int))) × ((Int × Int) × ((Int × Int) × ((List Int) × (List Int)))))))) =>
 cnd (ltI i11 i20)
 (joinK ((fulI 0 (lenN l22) (lenN l22)).bnd (fun (_ : Unit) =>
 (fulI 0 (lenN l23) (lenN l23)).bnd (fun (_ : Unit) =>
 loopT NN (fun (((i24, i25, i26), (i27, i28, l29), (i30, i31, l32), (i33, i34), (i35, i36), l37, l38) : ((Int × (Int × Int)) × ((Int × (Int × (List Int))) × ((Int × (Int × (List Int))) × ((Int × Int) × ((Int × Int) × ((List Int) × (List Int)))))))) =>
 cnd (ltI i26 i36)
 ((quoI .i64 i25 i30).bnd (fun (i39 : Int) =>
 (quoI .i64 i26 i31).bnd (fun (i40 : Int) =>
 (F_impl_Matrix_at ((i27, i28, l29), i39, i40)).bnd (fun (i41 : Int) =>
 (remI i25 i30).bnd (fun (i42 : Int) =>
 (remI i26 i31).bnd (fun (i43 : Int) =>
 (F_impl_Matrix_at ((i30, i31, l32), i42, i43)).bnd (fun (i44 : Int) =>
 (remI (mulI .i64 i41 i44) i24).bnd (fun (i45 : Int) =>
 (fulI 0 (lenN l38) (lenN l38)).bnd (fun (_ : Unit) =>
 (F_impl_Matrix_set ((i35, i36, l38), i25, i26, i45)).bnd (fun (l46 : (List Int)) =>
 (fulI 0 (lenN l37) (lenN l37)).bnd (fun (_ : Unit) =>
 (fulI 0 (lenN l38) (lenN l46)).bnd (fun (_ : Unit) =>
 some (Sum.inl ((i24, i25, addI .i64 i26 (1 : Int)), (i27, i28, l29), (i30, i31, l32), (i33, i34), (i35, i36), l37, l46))))))))))))))
 (((fulI 0 (lenN l37) (lenN l37)).bnd (fun (_ : Unit) =>
 (fulI 0 (lenN l38) (lenN l38)).bnd (fun (_ : Unit) =>
 some (Sum.inl ((i25, i24), (i27, i28, l29), (i30, i31, l32), (i33, i34), (i35, i36), l37, l38))))).bnd (fun (l47 : (((Int × Int) × ((Int × (Int × (List Int))) × ((Int × (Int × (List Int))) × ((Int × Int) × ((Int × Int) × ((List Int) × (List Int))))))) ⊕ (((Int × Int) × ((Int × (Int × (List Int))) × ((Int × (Int × (List Int))) × ((Int × Int) × ((Int × Int) × ((List Int) × (List Int))))))) ⊕ (((Int × Int) × ((Int × Int) × ((List Int) × (List Int)))) ⊕ (Int × (Int × (List Int))))))) =>
 some (Sum.inr l47))))
 ((i10, i11, (0 : Int)), (i12, i13, l14), (i15, i16, l17), (i18, i19), (i20, i21), l22, l23))))
 (fun (((i48, i49), (i50, i51, l52), (i53, i54, l55), (i56, i57), (i58, i59), l60, l61) : ((Int × Int) × ((Int × (Int × (List Int))) × ((Int × (Int × (List Int))) × ((Int × Int) × ((Int × Int) × ((List Int) × (List Int)))))))) =>
 (fulI 0 (lenN l60) (lenN l60)).bnd (fun (_ : Unit) =>
 (fulI 0 (lenN l61) (lenN l61)).bnd (fun (_ : Unit) =>
 some (Sum.inl ((i49, addI .i64 i48 (1 : Int)), (i50, i51, l52), (i53, i54, l55), (i56, i57), (i58, i59), l60, l61))))))
 (((fulI 0 (lenN l22) (lenN l22)).bnd (fun (_ : Unit) =>
 (fulI 0 (lenN l23) (lenN l23)).bnd (fun (_ : Unit) =>
 some (Sum.inl ((i18, i19), (i20, i21), l22, l23))))).bnd (fun (l62 : (((Int × Int) × ((Int × Int) × ((List Int) × (List Int)))) ⊕ (Int × (Int × (List Int))))) =>
 some (Sum.inr l62))))
 ((i0, (0 : Int)), (i1, i2, l3), (i4, i5, l6), ((0 : Int), (0 : Int)), (i7, i8), ([] : List Int), l9))))
 (fun (((i63, i64), (i65, i66), l67, l68) : ((Int × Int) × ((Int × Int) × ((List Int) × (List Int))))) =>
 (takI l68 (lenN l68)).bnd (fun (l69 : (List Int)) =>
 some (i65, i66, l69)))))


def G_spec_MultiplyAutomata (NN : Nat) : ((Int × (Int × ((List Int) × ((List (Int × (Int × (List Int)))) × (List Int))))) × (Int × (Int × ((List Int) × ((List (Int × (Int × (List Int)))) × (List Int)))))) → (Option ((Int × (Int × ((List Int) × ((List (Int × (Int × (List Int)))) × (List Int))))) × Bool)) :=
 (fun (((i0, i1, l2, l3, l4), i5, i6, l7, l8, l9) : ((Int × (Int × ((List Int) × ((List (Int × (Int × (List Int)))) × (List Int))))) × (Int × (Int × ((List Int) × ((List (Int × (Int × (List Int)))) × (List Int))))))) =>
 (F_spec_l34Alike ((i0, i1, l2, l3, l4), i5, i6, l7, l8, l9)).bnd (fun (b10 : Bool) =>
 cnd (notB b10)
 (some (((0 : Int), (0 : Int), ([] : List Int), ([] : List (Int × (Int × (List Int)))), ([] : List Int)), false))
 (cnd (ltI (12 : Int) (mulI .i64 i1 i6))
 (some (((0 : Int), (0 : Int), ([] : List Int), ([] : List (Int × (Int × (List Int)))), ([] : List Int)), false))
 (joinK ((fulI 0 0 (lenN (([] : List Int)))).bnd (fun (_ : Unit) =>
 (fulI 0 0 (lenN (([] : List (Int × (Int × (List Int))))))).bnd (fun (_ : Unit) =>
 (fulI 0 0 (lenN (([] : List Int)))).bnd (fun (_ : Unit) =>
 (fulI 0 0 (lenN (([] : List Int)))).bnd (fun (_ : Unit) =>
 (fulI 0 0 (lenN (([] : List (Int × (Int × (List Int))))))).bnd (fun (_ : Unit) =>
 (fulI 0 0 (lenN (([] : List Int)))).bnd (fun (_ : Unit) =>
 loopT NN (fun (((l11, i12, i13), (i14, i15, l16, l17, l18), (i19, i20, l21, l22, l23), (i24, i25), (i26, i27), l28, l29, l30, l31, l32, l33) : (((List Int) × (Int × Int)) × ((Int × (Int × ((List Int) × ((List (Int × (Int × (List Int)))) × (List Int))))) × ((Int × (Int × ((List Int) × ((List (Int × (Int × (List Int)))) × (List Int))))) × ((Int × Int) × ((Int × Int) × ((List Int) × ((List (Int × (Int × (List Int)))) × ((List Int) × ((List Int) × ((List (Int × (Int × (List Int)))) × (List Int)))))))))))) =>
 cnd (ltI i13 i12)
 (joinK ((getI l11 i13).bnd (fun (i34 : Int) =>
 (fulI 0 (lenN l28) (lenN l28)).bnd (fun (_ : Unit) =>
 (fulI 0 (lenN l29) (lenN l29)).bnd (fun (_ : Unit) =>
 (fulI 0 (lenN l30) (lenN l30)).bnd (fun (_ : Unit) =>
 (fulI 0 (lenN l31) (lenN l31)).bnd (fun (_ : Unit) =>
 (fulI 0 (lenN l32) (lenN l32)).bnd (fun (_ : Unit) =>
 (fulI 0 (lenN l33) (lenN l33)).bnd (fun (_ : Unit) =>
 loopT NN (fun (((i35, i36, l37, i38, i39, l40, i41, i42), (i43, i44, l45, l46, l47), (i48, i49, l50, l51, l52), (i53, i54), (i55, i56), l57, l58, l59, l60, l61, l62) : ((Int × (Int × ((List Int) × (Int × (Int × ((List Int) × (Int × Int))))))) × ((Int × (Int × ((List Int) × ((List (Int × (Int × (List Int)))) × (List Int))))) × ((Int × (Int × ((List Int) × ((List (Int × (Int × (List Int)))) × (List Int))))) × ((Int × Int) × ((Int × Int) × ((List Int) × ((List (Int × (Int × (List Int)))) × ((List Int) × ((List Int) × ((List (Int × (Int × (List Int)))) × (List Int)))))))))))) =>
 cnd (ltI i42 i41)
 ((getI l40 i42).bnd (fun (i63 : Int) =>
 (remI (mulI .i64 i36 i63) i43).bnd (fun (i64 : Int) =>
 (fulI 0 (lenN l60) (lenN l60)).bnd (fun (_ : Unit) =>
 (winI ((i64 :: ([] : List Int))) 0 1).bnd (fun (l65 : (List Int)) =>
 (fitI (addN (lenN l60) (lenN l65)) 8).bnd (fun (_ : Unit) =>
 (getI l47 i35).bnd (fun (i66 : Int) =>
 (getI l52 i42).bnd (fun (i67 : Int) =>
 (remI (mulI .i64 i66 i67) i43).bnd (fun (i68 : Int) =>
 (fulI 0 (lenN l62) (lenN l62)).bnd (fun (_ : Unit) =>
 (winI ((i68 :: ([] : List Int))) 0 1).bnd (fun (l69 : (List Int)) =>
 (fitI (addN (lenN l62) (lenN l69)) 8).bnd (fun (_ : Unit) =>
 (fulI 0 (lenN l57) (lenN l57)).bnd (fun (_ : Unit) =>
 (fulI 0 (lenN l58) (lenN l58)).bnd (fun (_ : Unit) =>
 (fulI 0 (lenN l59) (lenN l59)).bnd (fun (_ : Unit) =>
 (fulI 0 (addN (lenN l60) (lenN l65)) (lenN (appL l60 l65))).bnd (fun (_ : Unit) =>
 (fulI 0 (lenN l61) (lenN l61)).bnd (fun (_ : Unit) =>
 (fulI 0 (addN (lenN l62) (lenN l69)) (lenN (appL l62 l69))).bnd (fun (_ : Unit) =>
 some (Sum.inl ((i35, i36, l37, i38, i39, l40, i41, addI .i64 i42 (1 : Int)), (i43, i44, l45, l46, l47), (i48, i49, l50, l51, l52), (i53, i54), (i55, i56), l57, l58, l59, appL l60 l65, l61, appL l62 l69))))))))))))))))))))
 (((fulI 0 (lenN l57) (lenN l57)).bnd (fun (_ : Unit) =>
 (fulI 0 (lenN l58) (lenN l58)).bnd (fun (_ : Unit) =>
 (fulI 0 (lenN l59) (lenN l59)).bnd (fun (_ : Unit) =>
 (fulI 0 (lenN l60) (lenN l60)).bnd (fun (_ : Unit) =>
 (fulI 0 (lenN l61) (lenN l61)).bnd (fun (_ : Unit) =>
 (fulI 0 (lenN l62) (lenN l62)).bnd (fun (_ : Unit) =>
 some (Sum.inl ((i39, l37, i38), (i43, i44, l45, l46, l47), (i48, i49, l50, l51, l52), (i53, i54), (i55, i56), l57, l58, l59, l60, l61, l62))))))))).bnd (fun (l70 : (((Int × ((List Int) × Int)) × ((Int × (Int × ((List Int) × ((List (Int × (Int × (List Int)))) × (List Int))))) × ((Int × (Int × ((List Int) × ((List (Int × (Int × (List Int)))) × (List Int))))) × ((Int × Int) × ((Int × Int) × ((List Int) × ((List (Int × (Int × (List Int)))) × ((List Int) × ((List Int) × ((List (Int × (Int × (List Int)))) × (List Int))))))))))) ⊕ ((((List Int) × (Int × Int)) × ((Int × (Int × ((List Int) × ((List (Int × (Int × (List Int)))) × (List Int))))) × ((Int × (Int × ((List Int) × ((List (Int × (Int × (List Int)))) × (List Int))))) × ((Int × Int) × ((Int × Int) × ((List Int) × ((List (Int × (Int × (List Int)))) × ((List Int) × ((List Int) × ((List (Int × (Int × (List Int)))) × (List Int))))))))))) ⊕ (((Int × (Int × ((List Int) × ((List (Int × (Int × (List Int)))) × (List Int))))) × ((Int × (Int × ((List Int) × ((List (Int × (Int × (List Int)))) × (List Int))))) × ((Int × Int) × ((Int × Int) × ((List Int) × ((List (Int × (Int × (List Int)))) × ((List Int) × ((List Int) × ((List (Int × (Int × (List Int)))) × (List Int)))))))))) ⊕ ((Int × (Int × ((List Int) × ((List (Int × (Int × (List Int)))) × (List Int))))) × Bool))))) =>
 some (Sum.inr l70))))
 ((i13, i34, l11, i12, i13, l21, natI (lenN l21), (0 : Int)), (i14, i15, l16, l17, l18), (i19, i20, l21, l22, l23), (i24, i25), (i26, i27), l28, l29, l30, l31, l32, l33)))))))))
 (fun (((i71, l72, i73), (i74, i75, l76, l77, l78), (i79, i80, l81, l82, l83), (i84, i85), (i86, i87), l88, l89, l90, l91, l92, l93) : ((Int × ((List Int) × Int)) × ((Int × (Int × ((List Int) × ((List (Int × (Int × (List Int)))) × (List Int))))) × ((Int × (Int × ((List Int) × ((List (Int × (Int × (List Int)))) × (List Int))))) × ((Int × Int) × ((Int × Int) × ((List Int) × ((List (Int × (Int × (List Int)))) × ((List Int) × ((List Int) × ((List (Int × (Int × (List Int)))) × (List Int)))))))))))) =>
 (fulI 0 (lenN l88) (lenN l88)).bnd (fun (_ : Unit) =>
 (fulI 0 (lenN l89) (lenN l89)).bnd (fun (_ : Unit) =>
 (fulI 0 (lenN l90) (lenN l90)).bnd (fun (_ : Unit) =>
 (fulI 0 (lenN l91) (lenN l91)).bnd (fun (_ : Unit) =>
 (fulI 0 (lenN l92) (lenN l92)).bnd (fun (_ : Unit) =>
 (fulI 0 (lenN l93) (lenN l93)).bnd (fun (_ : Unit) =>
 some (Sum.inl ((l72, i73, addI .i64 i71 (1 : Int)), (i74, i75, l76, l77, l78), (i79, i80, l81, l82, l83), (i84, i85), (i86, i87), l88, l89, l90, l91, l92, l93))))))))))
 (((fulI 0 (lenN l28) (lenN l28)).bnd (fun (_ : Unit) =>
 (fulI 0 (lenN l29) (lenN l29)).bnd (fun (_ : Unit) =>
 (fulI 0 (lenN l30) (lenN l30)).bnd (fun (_ : Unit) =>
 (fulI 0 (lenN l31) (lenN l31)).bnd (fun (_ : Unit) =>
 (fulI 0 (lenN l32) (lenN l32)).bnd (fun (_ : Unit) =>
 (fulI 0 (lenN l33) (lenN l33)).bnd (fun (_ : Unit) =>
 some (Sum.inl ((i14, i15, l16, l17, l18), (i19, i20, l21, l22, l23), (i24, i25), (i26, i27), l28, l29, l30, l31, l32, l33))))))))).bnd (fun (l94 : (((Int × (Int × ((List Int) × ((List (Int × (Int × (List Int)))) × (List Int))))) × ((Int × (Int × ((List Int) × ((List (Int × (Int × (List Int)))) × (List Int))))) × ((Int × Int) × ((Int × Int) × ((List Int) × ((List (Int × (Int × (List Int)))) × ((List Int) × ((List Int) × ((List (Int × (Int × (List Int)))) × (List Int)))))))))) ⊕ ((Int × (Int × ((List Int) × ((List (Int × (Int × (List Int)))) × (List Int))))) × Bool))) =>
 some (Sum.inr l94))))
 ((l2, natI (lenN l2), (0 : Int)), (i0, i1, l2, l3, l4), (i5, i6, l7, l8, l9), ((0 : Int), (0 : Int)), (i0, mulI .i64 i1 i6), ([] : List Int), ([] : List (Int × (Int × (List Int)))), ([] : List Int), ([] : List Int), ([] : List (Int × (Int × (List Int)))), ([] : List Int)))))))))
 (fun (((i95, i96, l97, l98, l99), (i100, i101, l102, l103, l104), (i105, i106), (i107, i108), l109, l110, l111, l112, l113, l114) : ((Int × (Int × ((List Int) × ((List (Int × (Int × (List Int)))) × (List Int))))) × ((Int × (Int × ((List Int) × ((List (Int × (Int × (List Int)))) × (List Int))))) × ((Int × Int) × ((Int × Int) × ((List Int) × ((List (Int × (Int × (List Int)))) × ((List Int) × ((List Int) × ((List (Int × (Int × (List Int)))) × (List Int))))))))))) =>
 joinK ((fulI 0 (lenN l109) (lenN l109)).bnd (fun (_ : Unit) =>
 (fulI 0 (lenN l110) (lenN l110)).bnd (fun (_ : Unit) =>
 (fulI 0 (lenN l111) (lenN l111)).bnd (fun (_ : Unit) =>
 (fulI 0 (lenN l112) (lenN l112)).bnd (fun (_ : Unit) =>
 (fulI 0 (lenN l113) (lenN l113)).bnd (fun (_ : Unit) =>
 (fulI 0 (lenN l114) (lenN l114)).bnd (fun (_ : Unit) =>
 loopT NN (fun (((l115, i116, i117), (i118, i119, l120, l121, l122), (i123, i124, l125, l126, l127), (i128, i129), (i130, i131), l132, l133, l134, l135, l136, l137) : (((List (Int × (Int × (List Int)))) × (Int × Int)) × ((Int × (Int × ((List Int) × ((List (Int × (Int × (List Int)))) × (List Int))))) × ((Int × (Int × ((List Int) × ((List (Int × (Int × (List Int)))) × (List Int))))) × ((Int × Int) × ((Int × Int) × ((List Int) × ((List (Int × (Int × (List Int)))) × ((List Int) × ((List Int) × ((List (Int × (Int × (List Int)))) × (List Int)))))))))))) =>
 cnd (ltI i117 i116)
 ((getI l115 i117).bnd (fun ((i138, i139, l140) : (Int × (Int × (List Int)))) =>
 (getI l126 i117).bnd (fun ((i141, i142, l143) : (Int × (Int × (List Int)))) =>
 (F_spec_l34Kron (i118, (i138, i139, l140), i141, i142, l143)).bnd (fun ((i144, i145, l146) : (Int × (Int × (List Int)))) =>
 (takI l146 (lenN l146)).bnd (fun (l147 : (List Int)) =>
 (fulI 0 (lenN l136) (lenN l136)).bnd (fun (_ : Unit) =>
 (fulI 0 1 (lenN (((i144, i145, l147) :: ([] : List (Int × (Int × (List Int)))))))).bnd (fun (_ : Unit) =>
 (fitI (addN (lenN l136) (lenN (((i144, i145, l147) :: ([] : List (Int × (Int × (List Int)))))))) 40).bnd (fun (_ : Unit) =>
 (fulI 0 (lenN l132) (lenN l132)).bnd (fun (_ : Unit) =>
 (fulI 0 (lenN l133) (lenN l133)).bnd (fun (_ : Unit) =>
 (fulI 0 (lenN l134) (lenN l134)).bnd (fun (_ : Unit) =>
 (fulI 0 (lenN l135) (lenN l135)).bnd (fun (_ : Unit) =>
 (fulI 0 (addN (lenN l136) (lenN (((i144, i145, l147) :: ([] : List (Int × (Int × (List Int)))))))) (lenN (appL l136 (((i144, i145, l147) :: ([] : List (Int × (Int × (List Int))))))))).bnd (fun (_ : Unit) =>
 (fulI 0 (lenN l137) (lenN l137)).bnd (fun (_ : Unit) =>
 some (Sum.inl ((l115, i116, addI .i64 i117 (1 : Int)), (i118, i119, l120, l121, l122), (i123, i124, l125, l126, l127), (i128, i129), (i130, i131), l132, l133, l134, l135, appL l136 (((i144, i145, l147) :: ([] : List (Int × (Int × (List Int)))))), l137))))))))))))))))
 (((fulI 0 (lenN l132) (lenN l132)).bnd (fun (_ : Unit) =>
 (fulI 0 (lenN l133) (lenN l133)).bnd (fun (_ : Unit) =>
 (fulI 0 (lenN l134) (lenN l134)).bnd (fun (_ : Unit) =>
 (fulI 0 (lenN l135) (lenN l135)).bnd (fun (_ : Unit) =>
 (fulI 0 (lenN l136) (lenN l136)).bnd (fun (_ : Unit) =>
 (fulI 0 (lenN l137) (lenN l137)).bnd (fun (_ : Unit) =>
 some (Sum.inl ((i128, i129), (i130, i131), l132, l133, l134, l135, l136, l137))))))))).bnd (fun (l148 : (((Int × Int) × ((Int × Int) × ((List Int) × ((List (Int × (Int × (List Int)))) × ((List Int) × ((List Int) × ((List (Int × (Int × (List Int)))) × (List Int)))))))) ⊕ ((Int × (Int × ((List Int) × ((List (Int × (Int × (List Int)))) × (List Int))))) × Bool))) =>
 some (Sum.inr l148))))
 ((l98, natI (lenN l98), (0 : Int)), (i95, i96, l97, l98, l99), (i100, i101, l102, l103, l104), (i105, i106), (i107, i108), l109, l110, l111, l112, l113, l114))))))))
 (fun (((i149, i150), (i151, i152), l153, l154, l155, l156, l157, l158) : ((Int × Int) × ((Int × Int) × ((List Int) × ((List (Int × (Int × (List Int)))) × ((List Int) × ((List Int) × ((List (Int × (Int × (List Int)))) × (List Int))))))))) =>
 (takI l156 (lenN l156)).bnd (fun (l159 : (List Int)) =>
 (takI l157 (lenN l157)).bnd (fun (l160 : (List (Int × (Int × (List Int))))) =>
 (takI l158 (lenN l158)).bnd (fun (l161 : (List Int)) =>
 some ((i151, i152, l159, l160, l161), true))))))))))


def G_impl_MultiplyAutomata (NN : Nat) : ((Int × (Int × ((List Int) × ((List (Int × (Int × (List Int)))) × (List Int))))) × (Int × (Int × ((List Int) × ((List (Int × (Int × (List Int)))) × (List Int)))))) → (Option ((Int × (Int × ((List Int) × ((List (Int × (Int × (List Int)))) × (List Int))))) × Bool)) :=
 (fun (((i0, i1, l2, l3, l4), i5, i6, l7, l8, l9) : ((Int × (Int × ((List Int) × ((List (Int × (Int × (List Int)))) × (List Int))))) × (Int × (Int × ((List Int) × ((List (Int × (Int × (List Int)))) × (List Int))))))) =>
 (F_impl_sameLetters ((i0, i1, l2, l3, l4), i5, i6, l7, l8, l9)).bnd (fun (b10 : Bool) =>
 cnd (notB b10)
 (some (((0 : Int), (0 : Int), ([] : List Int), ([] : List (Int × (Int × (List Int)))), ([] : List Int)), false))
 (cnd (ltI (12 : Int) (mulI .i64 i1 i6))
 (some (((0 : Int), (0 : Int), ([] : List Int), ([] : List (Int × (Int × (List Int)))), ([] : List Int)), false))
 ((F_impl_pairMatrix (i0, ((1 : Int), natI (lenN l2), l2), (1 : Int), natI (lenN l7), l7)).bnd (fun ((i11, i12, l13) : (Int × (Int × (List Int)))) =>
 (F_impl_pairMatrix (i0, (natI (lenN l4), (1 : Int), l4), natI (lenN l9), (1 : Int), l9)).bnd (fun ((i14, i15, l16) : (Int × (Int × (List Int)))) =>
 joinK ((fulI 0 0 (lenN (([] : List Int)))).bnd (fun (_ : Unit) =>
 (fulI 0 0 (lenN (([] : List (Int × (Int × (List Int))))))).bnd (fun (_ : Unit) =>
 (fulI 0 0 (lenN (([] : List Int)))).bnd (fun (_ : Unit) =>
 (fulI 0 (lenN l13) (lenN l13)).bnd (fun (_ : Unit) =>
 (fulI 0 0 (lenN (([] : List (Int × (Int × (List Int))))))).bnd (fun (_ : Unit) =>
 (fulI 0 (lenN l16) (lenN l16)).bnd (fun (_ : Unit) =>
 loopT NN (fun (((l17, i18, i19), (i20, i21, l22, l23, l24), (i25, i26, l27, l28, l29), (i30, i31), (i32, i33), l34, l35, l36, l37, l38, l39) : (((List (Int × (Int × (List Int)))) × (Int × Int)) × ((Int × (Int × ((List Int) × ((List (Int × (Int × (List Int)))) × (List Int))))) × ((Int × (Int × ((List Int) × ((List (Int × (Int × (List Int)))) × (List Int))))) × ((Int × Int) × ((Int × Int) × ((List Int) × ((List (Int × (Int × (List Int)))) × ((List Int) × ((List Int) × ((List (Int × (Int × (List Int)))) × (List Int)))))))))))) =>
 cnd (ltI i19 i18)
 ((getI l17 i19).bnd (fun ((i40, i41, l42) : (Int × (Int × (List Int)))) =>
 (getI l28 i19).bnd (fun ((i43, i44, l45) : (Int × (Int × (List Int)))) =>
 (F_impl_pairMatrix (i20, (i40, i41, l42), i43, i44, l45)).bnd (fun ((i46, i47, l48) : (Int × (Int × (List Int)))) =>
 (takI l48 (lenN l48)).bnd (fun (l49 : (List Int)) =>
 (fulI 0 (lenN l38) (lenN l38)).bnd (fun (_ : Unit) =>
 (fulI 0 1 (lenN (((i46, i47, l49) :: ([] : List (Int × (Int × (List Int)))))))).bnd (fun (_ : Unit) =>
 (fitI (addN (lenN l38) (lenN (((i46, i47, l49) :: ([] : List (Int × (Int × (List Int)))))))) 40).bnd (fun (_ : Unit) =>
 (fulI 0 (lenN l34) (lenN l34)).bnd (fun (_ : Unit) =>
 (fulI 0 (lenN l35) (lenN l35)).bnd (fun (_ : Unit) =>
 (fulI 0 (lenN l36) (lenN l36)).bnd (fun (_ : Unit) =>
 (fulI 0 (lenN l37) (lenN l37)).bnd (fun (_ : Unit) =>
 (fulI 0 (addN (lenN l38) (lenN (((i46, i47, l49) :: ([] : List (Int × (Int × (List Int)))))))) (lenN (appL l38 (((i46, i47, l49) :: ([] : List (Int × (Int × (List Int))))))))).bnd (fun (_ : Unit) =>
 (fulI 0 (lenN l39) (lenN l39)).bnd (fun (_ : Unit) =>
 some (Sum.inl ((l17, i18, addI .i64 i19 (1 : Int)), (i20, i21, l22, l23, l24), (i25, i26, l27, l28, l29), (i30, i31), (i32, i33), l34, l35, l36, l37, appL l38 (((i46, i47, l49) :: ([] : List (Int × (Int × (List Int)))))), l39))))))))))))))))
 (((fulI 0 (lenN l34) (lenN l34)).bnd (fun (_ : Unit) =>
 (fulI 0 (lenN l35) (lenN l35)).bnd (fun (_ : Unit) =>
 (fulI 0 (lenN l36) (lenN l36)).bnd (fun (_ : Unit) =>
 (fulI 0 (lenN l37) (lenN l37)).bnd (fun (_ : Unit) =>
 (fulI 0 (lenN l38) (lenN l38)).bnd (fun (_ : Unit) =>
 (fulI 0 (lenN l39) (lenN l39)).bnd (fun (_ : Unit) =>
 some (Sum.inl ((i30, i31), (i32, i33), l34, l35, l36, l37, l38, l39))))))))).bnd (fun (l50 : (((Int × Int) × ((Int × Int) × ((List Int) × ((List (Int × (Int × (List Int)))) × ((List Int) × ((List Int) × ((List (Int × (Int × (List Int)))) × (List Int)))))))) ⊕ ((Int × (Int × ((List Int) × ((List (Int × (Int × (List Int)))) × (List Int))))) × Bool))) =>
 some (Sum.inr l50))))
 ((l3, natI (lenN l3), (0 : Int)), (i0, i1, l2, l3, l4), (i5, i6, l7, l8, l9), ((0 : Int), (0 : Int)), (i0, mulI .i64 i1 i6), ([] : List Int), ([] : List (Int × (Int × (List Int)))), ([] : List Int), l13, ([] : List (Int × (Int × (List Int)))), l16))))))))
 (fun (((i51, i52), (i53, i54), l55, l56, l57, l58, l59, l60) : ((Int × Int) × ((Int × Int) × ((List Int) × ((List (Int × (Int × (List Int)))) × ((List Int) × ((List Int) × ((List (Int × (Int × (List Int)))) × (List Int))))))))) =>
 (takI l58 (lenN l58)).bnd (fun (l61 : (List Int)) =>
 (takI l59 (lenN l59)).bnd (fun (l62 : (List (Int × (Int × (List Int))))) =>
 (takI l60 (lenN l60)).bnd (fun (l63 : (List Int)) =>
 some ((i53, i54, l61, l62, l63), true)))))))))))


/-! ### products of all elements -/

theorem quoN {a b : Nat} (hb : 0 < b) (ha : a ≤ 1099511627776) : quoI .i64 (a : Int) (b : Int) = some ((a / b : Nat) : Int) := by
  unfold quoI
  rw [if_neg (by omega)]
  have h1 : a / b ≤ a := Nat.div_le_self a b
  rw [show Int.tdiv (a : Int) (b : Int) = ((a / b : Nat) : Int) from rfl]
  generalize a / b = q at h1 ⊢
  rw [wrap_id (by omega) (by omega)]
theorem remNN {a b : Nat} (hb : 0 < b) : remI (a : Int) (b : Int) = some ((a % b : Nat) : Int) := by
  rw [remN (by omega) (by omega)]
  rfl

def kronTo (R C : Nat) (W : Mat) (t : Nat) : List Int := genD R C fun i j => if i * C + j < t then W i j else 0
theorem kron_0 (R C : Nat) (W : Mat) : kronTo R C W 0 = genD R C fun _ _ => 0 := genD_congr fun i _ j _ => if_neg (by omega)
theorem kron_end (R C : Nat) (W : Mat) : kronTo R C W (R * C) = genD R C W := genD_congr fun i hi j hj => if_pos (idx_lt hi hj)
theorem kron_step {R C : Nat} (W : Mat) {t : Nat} (ht : t < R * C) : setL (kronTo R C W t) t (W (t / C) (t % C)) = kronTo R C W (t + 1) := by
  have hC : 0 < C := by
    rcases Nat.eq_zero_or_pos C with h | h
    · subst h; simp at ht
    · exact h
  have ej : t % C < C := Nat.mod_lt _ hC
  have et : t / C * C + t % C = t := by have := Nat.div_add_mod t C; rw [Nat.mul_comm] at this; exact this
  have h := genD_set (r := R) (c := C) (i := t / C) (j := t % C) (fun i j => if i * C + j < t then W i j else 0) ej (W (t / C) (t % C))
  rw [et] at h
  show (genD R C _).set t _ = _
  rw [h]
  refine genD_congr fun a ha b hb => ?_
  unfold updM
  by_cases hab : a = t / C ∧ b = t % C
  · rw [if_pos hab, hab.1, hab.2, if_pos (by omega)]
  · rw [if_neg hab]
    show (if a * C + b < t then W a b else 0) = _
    by_cases h1 : a * C + b < t
    · rw [if_pos h1, if_pos (by omega)]
    · rw [if_neg h1, if_neg]
      intro h2
      have h3 : a * C + b = t / C * C + t % C := by omega
      exact hab (idx_inj hb ej h3)
theorem kron_len (R C : Nat) (W : Mat) (t : Nat) : lenN (kronTo R C W t) = R * C := genD_len _ _ _
theorem kron_get {R C : Nat} (W : Mat) {t : Nat} (ht : t < R * C) : ∃ y, getN (kronTo R C W t) t = some y := ⟨_, List.getElem?_eq_getElem (by rw [show (kronTo R C W t).length = R * C from genD_len _ _ _]; exact ht)⟩

section
variable {p : Int} {r c s d : Nat} {A B : Mat}

theorem kron_idx {t R : Nat} (hR : R = r * s) (ht : t < R * (c * d)) : t / (c * d) < r * s ∧ t % (c * d) < c * d ∧ t / (c * d) / s < r ∧ t % (c * d) / d < c ∧ t / (c * d) % s < s ∧ t % (c * d) % d < d ∧ 0 < c * d ∧ 0 < s ∧ 0 < d := by
  subst hR
  have hC : 0 < c * d := by
    rcases Nat.eq_zero_or_pos (c * d) with h | h
    · rw [h] at ht; simp at ht
    · exact h
  have hd : 0 < d := by
    rcases Nat.eq_zero_or_pos d with h | h
    · subst h; simp at hC
    · exact h
  have h1 : t / (c * d) < r * s := (Nat.div_lt_iff_lt_mul hC).2 ht
  have hs : 0 < s := by
    rcases Nat.eq_zero_or_pos s with h | h
    · subst h; simp at h1
    · exact h
  have h2 : t % (c * d) < c * d := Nat.mod_lt _ hC
  exact ⟨h1, h2, (Nat.div_lt_iff_lt_mul hs).2 h1, (Nat.div_lt_iff_lt_mul hd).2 h2, Nat.mod_lt _ hs, Nat.mod_lt _ hd, hC, hs, hd⟩

theorem g_kronS (hp : pOk p) (hr : r ≤ 4096) (hc : c ≤ 4096) (hs : s ≤ 4096) (hd : d ≤ 4096) (h1 : r * c ≤ 1048576) (h2 : s * d ≤ 1048576) (h3 : r * s ≤ 4096) (h4 : c * d ≤ 4096) (h5 : r * s * (c * d) ≤ 1048576) (hA : inM p r c A) (hB : inM p s d B) :
    G_spec_l34Kron FUEL (p, ((r : Int), (c : Int), genD r c A), ((s : Int), (d : Int), genD s d B)) = some (((r * s : Nat) : Int), ((c * d : Nat) : Int), genD (r * s) (c * d) (kronM p s d A B)) := by
  simp only [G_spec_l34Kron]
  rw [mulN (by omega) (by omega), mulN (by omega) (by omega), new_nat h3 h4 h5, bnd_s]
  simp only [fulI_id, fulI_nil, bnd_s]
  rw [show natI (lenN (genD (r * s) (c * d) fun _ _ => 0)) = ((r * s * (c * d) : Nat) : Int) by rw [lenN_gen]; rfl]
  rw [loopT_seq (fun t => ((p, ((r * s * (c * d) : Nat) : Int), (t : Int)), ((r : Int), (c : Int), genD r c A), ((s : Int), (d : Int), genD s d B), ((0 : Int), (0 : Int)), (((r * s : Nat) : Int), ((c * d : Nat) : Int)), ([] : List Int), kronTo (r * s) (c * d) (kronM p s d A B) t)) (r * s * (c * d)) ?a1 ?a2 ?a3 (FUEL_gt (by omega))]
  case a3 => simp only [kron_0]; try rfl
  case a2 => simp only; rw [cnd_f (ltN_f (Nat.le_refl _))]; try (simp only [fulI_id, fulI_nil, bnd_s])
  case a1 =>
    intro t ht
    obtain ⟨k1, k2, k3, k4, k5, k6, k7, k8, k9⟩ := kron_idx rfl ht
    obtain ⟨y, hy⟩ := kron_get (kronM p s d A B) ht
    have b1 : t / (c * d) ≤ t := Nat.div_le_self _ _
    have b2 : t % (c * d) ≤ t := Nat.mod_le _ _
    simp only
    rw [cnd_t (ltN_t ht), quoN k7 (by omega), bnd_s, remNN k7, bnd_s, quoN k8 (by omega), bnd_s, quoN k9 (by omega), bnd_s, idxI (by omega) (by omega) (by omega), getI_gen A k3 k4, bnd_s, remNN k8, bnd_s, remNN k9, bnd_s, idxI (by omega) (by omega) (by omega), getI_gen B k5 k6, bnd_s,
      mulR hp (hA _ k3 _ k4).le (hB _ k5 _ k6).le, bnd_s, chkI_nat (show t < lenN (kronTo (r * s) (c * d) (kronM p s d A B) t) by rw [kron_len]; exact ht), bnd_s]
    simp only [addN_0]
    rw [hy, bnd_s]
    rw [show A (t / (c * d) / s) (t % (c * d) / d) * B (t / (c * d) % s) (t % (c * d) % d) % p = kronM p s d A B (t / (c * d)) (t % (c * d)) from rfl, kron_step _ ht]
    simp only [kron_len, fulI_id, bnd_s, addN1 (show t ≤ 1048577 by omega)]
  rw [joinK_l]
  simp only [takI_id, bnd_s]
  rw [kron_end]

theorem g_kronI (hp : pOk p) (hr : r ≤ 4096) (hc : c ≤ 4096) (hs : s ≤ 4096) (hd : d ≤ 4096) (h1 : r * c ≤ 1048576) (h2 : s * d ≤ 1048576) (h3 : r * s ≤ 4096) (h4 : c * d ≤ 4096) (h5 : r * s * (c * d) ≤ 1048576) (hA : inM p r c A) (hB : inM p s d B) :
    G_impl_pairMatrix FUEL (p, ((r : Int), (c : Int), genD r c A), ((s : Int), (d : Int), genD s d B)) = some (((r * s : Nat) : Int), ((c * d : Nat) : Int), genD (r * s) (c * d) (kronM p s d A B)) := by
  simp only [G_impl_pairMatrix]
  rw [mulN (by omega) (by omega), mulN (by omega) (by omega), newI_nat h3 h4 h5, bnd_s]
  simp only [fulI_id, fulI_nil, bnd_s]
  rw [loopT_seq (fun i => ((p, (i : Int)), ((r : Int), (c : Int), genD r c A), ((s : Int), (d : Int), genD s d B), ((0 : Int), (0 : Int)), (((r * s : Nat) : Int), ((c * d : Nat) : Int)), ([] : List Int), genD (r * s) (c * d) (mulTo (kronM p s d A B) i 0))) (r * s) ?a1 ?a2 ?a3 (FUEL_gt (by omega))]
  case a3 => simp only [mul_0]; try rfl
  case a2 => simp only; rw [cnd_f (ltN_f (Nat.le_refl _))]; try (simp only [fulI_id, fulI_nil, bnd_s])
  case a1 =>
    intro i hi
    simp only
    rw [cnd_t (ltN_t hi)]
    rw [loopT_seq (fun j => ((p, (i : Int), (j : Int)), ((r : Int), (c : Int), genD r c A), ((s : Int), (d : Int), genD s d B), ((0 : Int), (0 : Int)), (((r * s : Nat) : Int), ((c * d : Nat) : Int)), ([] : List Int), genD (r * s) (c * d) (mulTo (kronM p s d A B) i j))) (c * d) ?b1 ?b2 ?b3 (FUEL_gt (by omega))]
    case b3 => rfl
    case b2 => simp only; rw [cnd_f (ltN_f (Nat.le_refl _))]; try (simp only [fulI_id, fulI_nil, bnd_s])
    case b1 =>
      intro j hj
      have hlt : i * (c * d) + j < r * s * (c * d) := idx_lt hi hj
      obtain ⟨k1, k2, k3, k4, k5, k6, k7, k8, k9⟩ := kron_idx rfl hlt
      rw [idx_div hj] at k3 k5
      rw [idx_mod hj] at k4 k6
      simp only
      rw [cnd_t (ltN_t hj), quoN k8 (by omega), bnd_s, quoN k9 (by omega), bnd_s, at_nat hr hc h1 k3 k4, bnd_s, remNN k8, bnd_s, remNN k9, bnd_s, at_nat hs hd h2 k5 k6, bnd_s, mulR hp (hA _ k3 _ k4).le (hB _ k5 _ k6).le, bnd_s, set_nat h3 h4 h5 hi hj]
      simp only [bnd_s, fulI_gen, addN1 (show j ≤ 1048577 by omega)]
      rw [show A (i / s) (j / d) * B (i % s) (j % d) % p = kronM p s d A B i j from rfl, mul_step]
    rw [joinK_l]
    simp only [addN1 (show i ≤ 1048577 by omega)]
    rw [mul_row]
  rw [joinK_l]
  simp only [takI_id, bnd_s]
  rw [mul_end]
end

theorem mOk_gen2 {x : Mx3} (h : mOk x) : ∃ (r c : Nat) (M : Mat), x = ((r : Int), (c : Int), genD r c M) ∧ r ≤ 4096 ∧ c ≤ 4096 ∧ r * c ≤ 1048576 ∧ M = ofD c (genD r c M) := by
  obtain ⟨r, c, M, rfl, h1, h2, h3⟩ := mOk_gen h
  have e : genD r c (ofD c (genD r c M)) = genD r c M := genD_of (genD_len _ _ _)
  exact ⟨r, c, ofD c (genD r c M), by rw [e], h1, h2, h3, by rw [e]⟩

theorem kronOk_nat {x : Int × Mx3 × Mx3} (h : kronOk x) : ∃ (p : Int) (r c s d : Nat) (A B : Mat), x = (p, ((r : Int), (c : Int), genD r c A), ((s : Int), (d : Int), genD s d B)) ∧ pOk p ∧ r ≤ 4096 ∧ c ≤ 4096 ∧ s ≤ 4096 ∧ d ≤ 4096 ∧ r * c ≤ 1048576 ∧ s * d ≤ 1048576 ∧
    r * s ≤ 4096 ∧ c * d ≤ 4096 ∧ r * s * (c * d) ≤ 1048576 ∧ inM p r c A ∧ inM p s d B ∧ kronX x = (((r * s : Nat) : Int), ((c * d : Nat) : Int), genD (r * s) (c * d) (kronM p s d A B)) := by
  obtain ⟨p, x, y⟩ := x
  obtain ⟨hp, hx, hy, ⟨h3, h4⟩, h5, hA, hB⟩ := h
  obtain ⟨r, c, A, rfl, r1, c1, rc, eA⟩ := mOk_gen2 hx
  obtain ⟨s, d, B, rfl, s1, d1, sd, eB⟩ := mOk_gen2 hy
  simp only at h3 h4 h5 hA hB
  have e1 : (r : Int) * (s : Int) = ((r * s : Nat) : Int) := by norm_cast
  have e2 : (c : Int) * (d : Int) = ((c * d : Nat) : Int) := by norm_cast
  have e3 : ((r * s : Nat) : Int) * ((c * d : Nat) : Int) = ((r * s * (c * d) : Nat) : Int) := by norm_cast
  rw [e1] at h3 h5
  rw [e2] at h4 h5
  rw [e3] at h5
  refine ⟨p, r, c, s, d, A, B, rfl, hp, r1, c1, s1, d1, rc, sd, by omega, by omega, by omega, allP_gen.1 hA, allP_gen.1 hB, ?_⟩
  simp only [kronX, Int.toNat_natCast, ← eA, ← eB, e1, e2]

theorem f_spec_l34Kron (x : Int × Mx3 × Mx3) (y : Mx3) (h : F_spec_l34Kron x = some y) : G_spec_l34Kron FUEL x = some y := by
  simp only [F_spec_l34Kron] at h
  split at h
  · rename_i hc
    obtain ⟨p, r, c, s, d, A, B, rfl, hp, r1, c1, s1, d1, rc, sd, h3, h4, h5, hA, hB, e⟩ := kronOk_nat hc
    rw [← h, e]
    exact g_kronS hp r1 c1 s1 d1 rc sd h3 h4 h5 hA hB
  · cases h
theorem f_impl_pairMatrix (x : Int × Mx3 × Mx3) (y : Mx3) (h : F_impl_pairMatrix x = some y) : G_impl_pairMatrix FUEL x = some y := by
  simp only [F_impl_pairMatrix, F_spec_l34Kron] at h
  split at h
  · rename_i hc
    obtain ⟨p, r, c, s, d, A, B, rfl, hp, r1, c1, s1, d1, rc, sd, h3, h4, h5, hA, hB, e⟩ := kronOk_nat hc
    rw [← h, e]
    exact g_kronI hp r1 c1 s1 d1 rc sd h3 h4 h5 hA hB
  · cases h

theorem kron_nat {p : Int} {r c s d : Nat} {A B : Mat} (hp : pOk p) (hr : r ≤ 64) (hc : c ≤ 64) (hs : s ≤ 64) (hd : d ≤ 64) (h3 : r * s ≤ 144) (h4 : c * d ≤ 144) (hA : inM p r c A) (hB : inM p s d B) :
    F_spec_l34Kron (p, ((r : Int), (c : Int), genD r c A), ((s : Int), (d : Int), genD s d B)) = some (((r * s : Nat) : Int), ((c * d : Nat) : Int), genD (r * s) (c * d) (kronM p s d A B)) := by
  have e1 : (r : Int) * (s : Int) = ((r * s : Nat) : Int) := by norm_cast
  have e2 : (c : Int) * (d : Int) = ((c * d : Nat) : Int) := by norm_cast
  have e3 : ((r * s : Nat) : Int) * ((c * d : Nat) : Int) = ((r * s * (c * d) : Nat) : Int) := by norm_cast
  have h1 : r * c ≤ 64 * 64 := Nat.mul_le_mul hr hc
  have h2 : s * d ≤ 64 * 64 := Nat.mul_le_mul hs hd
  have h5 : r * s * (c * d) ≤ 144 * 144 := Nat.mul_le_mul h3 h4
  have ok : kronOk (p, ((r : Int), (c : Int), genD r c A), ((s : Int), (d : Int), genD s d B)) := by
    refine ⟨hp, mOk_mk A (by omega) (by omega) (by omega), mOk_mk B (by omega) (by omega) (by omega), ⟨?_, ?_⟩, ?_, allP_gen.2 hA, allP_gen.2 hB⟩
    · show (r : Int) * (s : Int) ≤ 4096; rw [e1]; omega
    · show (c : Int) * (d : Int) ≤ 4096; rw [e2]; omega
    · show (r : Int) * (s : Int) * ((c : Int) * (d : Int)) ≤ 1048576; rw [e1, e2, e3]; omega
  rw [show F_spec_l34Kron _ = some _ from if_pos ok]
  congr 1
  simp only [kronX, Int.toNat_natCast, e1, e2]
  congr 2
  exact genD_congr fun i hi j hj => by
    obtain ⟨_, _, k3, k4, k5, k6, _, _, _⟩ := kron_idx rfl (idx_lt hi hj)
    rw [idx_div hj] at k3 k5
    rw [idx_mod hj] at k4 k6
    unfold kronM
    rw [ofD_gen A k3 k4, ofD_gen B k5 k6]

/-! ### products of automata -/

theorem prodTo_succ {p : Int} {m : Nat} {a a2 : List Int} (k : Nat) : prodTo p m a a2 k ++ [a.getD (k / m) 0 * a2.getD (k % m) 0 % p] = prodTo p m a a2 (k + 1) := by
  unfold prodTo
  rw [List.range_succ, List.map_append]
  rfl
theorem prodTo_len {p : Int} {m : Nat} {a a2 : List Int} (k : Nat) : (prodTo p m a a2 k).length = k := by simp [prodTo]
theorem kronSt_succ (p : Int) (n m : Nat) (ms ms2 : List Mx3) (k : Nat) : kronSt p n m ms ms2 k ++ [(((n * m : Nat) : Int), ((n * m : Nat) : Int), genD (n * m) (n * m) (kronM p m m (stM n ms k) (stM m ms2 k)))] = kronSt p n m ms ms2 (k + 1) := by
  unfold kronSt
  rw [List.range_succ, List.map_append]
  rfl
theorem kronSt_len (p : Int) (n m : Nat) (ms ms2 : List Mx3) (k : Nat) : (kronSt p n m ms ms2 k).length = k := by simp [kronSt]

section
variable {p : Int} {n m : Nat} {a b a2 b2 : List Int} {ms ms2 : List Mx3}

theorem row_prod {s t : List Int} (hs : s.length = n) (ht : t.length = m) : genD (1 * 1) (n * m) (kronM p 1 m (ofD n s) (ofD m t)) = prodTo p m s t (n * m) := by
  unfold genD prodTo
  simp only [Nat.one_mul]
  refine List.map_congr_left fun k hk => ?_
  have hk := List.mem_range.1 hk
  have e1 : k / (n * m) = 0 := Nat.div_eq_of_lt hk
  have e2 : k % (n * m) = k := Nat.mod_eq_of_lt hk
  rw [e1, e2]
  unfold kronM ofD
  simp
theorem col_prod {s t : List Int} (hs : s.length = n) (ht : t.length = m) : genD (n * m) (1 * 1) (kronM p m 1 (ofD 1 s) (ofD 1 t)) = prodTo p m s t (n * m) := by
  unfold genD prodTo
  simp only [Nat.mul_one]
  refine List.map_congr_left fun k hk => ?_
  have hk := List.mem_range.1 hk
  rw [Nat.div_one, Nat.mod_one]
  unfold kronM ofD
  simp

theorem pair_row (hp : pOk p) (hn : n ≤ 12) (hm : m ≤ 12) (hnm : n * m ≤ 144) {s t : List Int} (hs : s.length = n) (ht : t.length = m) (hS : allP p s) (hT : allP p t) :
    F_impl_pairMatrix (p, (1, (n : Int), s), (1, (m : Int), t)) = some (1, ((n * m : Nat) : Int), prodTo p m s t (n * m)) := by
  have h := kron_nat (r := 1) (c := n) (s := 1) (d := m) (A := ofD n s) (B := ofD m t) hp (by omega) (by omega) (by omega) (by omega) (by omega) hnm (ofD_in (by omega) hS) (ofD_in (by omega) hT)
  rw [genD_of (c := n) (by omega), genD_of (c := m) (by omega), row_prod hs ht] at h
  exact h
theorem pair_col (hp : pOk p) (hn : n ≤ 12) (hm : m ≤ 12) (hnm : n * m ≤ 144) {s t : List Int} (hs : s.length = n) (ht : t.length = m) (hS : allP p s) (hT : allP p t) :
    F_impl_pairMatrix (p, ((n : Int), 1, s), ((m : Int), 1, t)) = some (((n * m : Nat) : Int), 1, prodTo p m s t (n * m)) := by
  have h := kron_nat (r := n) (c := 1) (s := m) (d := 1) (A := ofD 1 s) (B := ofD 1 t) hp (by omega) (by omega) (by omega) (by omega) hnm (by omega) (ofD_in (by omega) hS) (ofD_in (by omega) hT)
  rw [genD_of (c := 1) (by omega), genD_of (c := 1) (by omega), col_prod hs ht] at h
  exact h

theorem kron_tail (k : Nat) (hk : k ≤ 4) : fitI (addN (lenN (kronSt p n m ms ms2 k)) (lenN [(((n * m : Nat) : Int), ((n * m : Nat) : Int), genD (n * m) (n * m) (kronM p m m (stM n ms k) (stM m ms2 k)))])) 40 = some () :=
  fitI_ok (by simp only [addN, lenN, maxBytes, kronSt_len, List.length_cons, List.length_nil]; omega)

theorem g_mulAI (H : AutOk p n a ms b) (H2 : AutOk p m a2 ms2 b2) (hms : ms.length = ms2.length) (hnm : n * m ≤ 12) (hal : F_impl_sameLetters ((p, (n : Int), a, ms, b), p, (m : Int), a2, ms2, b2) = some true) :
    G_impl_MultiplyAutomata FUEL ((p, (n : Int), a, ms, b), p, (m : Int), a2, ms2, b2) = some ((p, ((n * m : Nat) : Int), prodTo p m a a2 (n * m), kronSt p n m ms ms2 ms.length, prodTo p m b b2 (n * m)), true) := by
  have hn := H.hn
  have hm := H2.hn
  have h4 := H.l4
  have h3 := H.al
  have h5 := H.bl
  have h6 := H2.al
  have h7 := H2.bl
  simp only [G_impl_MultiplyAutomata, hal, bnd_s]
  rw [cnd_f (by rfl), mulN (by omega) (by omega), cnd_f (ltI_f (by omega))]
  rw [show natI (lenN a) = (n : Int) by rw [nl, h3], show natI (lenN a2) = (m : Int) by rw [nl, h6], show natI (lenN b) = (n : Int) by rw [nl, h5], show natI (lenN b2) = (m : Int) by rw [nl, h7]]
  rw [pair_row H.p hn hm (by omega) h3 h6 H.ap H2.ap, bnd_s]
  simp only
  rw [pair_col H.p hn hm (by omega) h5 h7 H.bp H2.bp, bnd_s]
  simp only [fulI_id, fulI_nil, bnd_s, nl]
  rw [loopT_seq (fun k => ((ms, (ms.length : Int), (k : Int)), (p, (n : Int), a, ms, b), (p, (m : Int), a2, ms2, b2), ((0 : Int), (0 : Int)), (p, ((n * m : Nat) : Int)), ([] : List Int), ([] : List (Int × Int × List Int)), ([] : List Int), prodTo p m a a2 (n * m), kronSt p n m ms ms2 k, prodTo p m b b2 (n * m))) ms.length ?a1 ?a2 ?a3 (FUEL_gt (by omega))]
  case a3 => rfl
  case a2 => simp only; rw [cnd_f (ltN_f (Nat.le_refl _))]; try (simp only [fulI_id, fulI_nil, bnd_s])
  case a1 =>
    intro k hk
    obtain ⟨g1, g2⟩ := stM_get H hk
    obtain ⟨g3, g4⟩ := stM_get H2 (show k < ms2.length by omega)
    simp only
    rw [cnd_t (ltN_t hk), getI_nat, g1, bnd_s, getI_nat, g3, bnd_s]
    simp only
    rw [show F_impl_pairMatrix (p, ((n : Int), (n : Int), genD n n (stM n ms k)), ((m : Int), (m : Int), genD m m (stM m ms2 k))) = _ from kron_nat H.p (by omega) (by omega) (by omega) (by omega) (by omega) (by omega) g2 g4, bnd_s]
    simp only [takI_id, bnd_s, show fulI 0 1 (lenN [(((n * m : Nat) : Int), ((n * m : Nat) : Int), genD (n * m) (n * m) (kronM p m m (stM n ms k) (stM m ms2 k)))]) = some () from rfl, kron_tail k (by omega), fulI_id, fulI_nil, appL_eq, app_len]
    rw [kronSt_succ]
    try simp only [addN1 (show k ≤ 1048577 by omega)]
  rw [joinK_l]
  simp only [takI_id, bnd_s]

theorem g_mulAS (H : AutOk p n a ms b) (H2 : AutOk p m a2 ms2 b2) (hms : ms.length = ms2.length) (hnm : n * m ≤ 12) (hal : F_spec_l34Alike ((p, (n : Int), a, ms, b), p, (m : Int), a2, ms2, b2) = some true) :
    G_spec_MultiplyAutomata FUEL ((p, (n : Int), a, ms, b), p, (m : Int), a2, ms2, b2) = some ((p, ((n * m : Nat) : Int), prodTo p m a a2 (n * m), kronSt p n m ms ms2 ms.length, prodTo p m b b2 (n * m)), true) := by
  have hn := H.hn
  have hm := H2.hn
  have h4 := H.l4
  have h3 := H.al
  have h5 := H.bl
  have h6 := H2.al
  have h7 := H2.bl
  have hp := H.p
  simp only [G_spec_MultiplyAutomata, hal, bnd_s]
  rw [cnd_f (by rfl), mulN (by omega) (by omega), cnd_f (ltI_f (by omega))]
  simp only [fulI_id, fulI_nil, bnd_s]
  rw [show natI (lenN a) = (n : Int) by rw [nl, h3]]
  rw [loopT_seq (fun i => ((a, (n : Int), (i : Int)), (p, (n : Int), a, ms, b), (p, (m : Int), a2, ms2, b2), ((0 : Int), (0 : Int)), (p, ((n * m : Nat) : Int)), ([] : List Int), ([] : List (Int × Int × List Int)), ([] : List Int), prodTo p m a a2 (i * m), ([] : List (Int × Int × List Int)), prodTo p m b b2 (i * m))) n ?a1 ?a2 ?a3 (FUEL_gt (by omega))]
  case a3 => simp only [Nat.zero_mul]; rfl
  case a2 => simp only; rw [cnd_f (ltN_f (Nat.le_refl _))]; try (simp only [fulI_id, fulI_nil, bnd_s])
  case a1 =>
    intro i hi
    have g1 : a[i]? = some (a.getD i 0) := get_nat (by omega)
    have gb : b[i]? = some (b.getD i 0) := get_nat (by omega)
    have q1 := H.ap _ (List.mem_of_getElem? g1)
    have q2 := H.bp _ (List.mem_of_getElem? gb)
    simp only
    rw [cnd_t (ltN_t hi), getI_nat, g1, bnd_s]
    try simp only [fulI_id, fulI_nil, bnd_s]
    rw [show natI (lenN a2) = (m : Int) by rw [nl, h6]]
    rw [loopT_seq (fun j => (((i : Int), (a.getD i 0), a, (n : Int), (i : Int), a2, (m : Int), (j : Int)), (p, (n : Int), a, ms, b), (p, (m : Int), a2, ms2, b2), ((0 : Int), (0 : Int)), (p, ((n * m : Nat) : Int)), ([] : List Int), ([] : List (Int × Int × List Int)), ([] : List Int), prodTo p m a a2 (i * m + j), ([] : List (Int × Int × List Int)), prodTo p m b b2 (i * m + j))) m ?b1 ?b2 ?b3 (FUEL_gt (by omega))]
    case b3 => rfl
    case b2 => simp only; rw [cnd_f (ltN_f (Nat.le_refl _))]; try (simp only [fulI_id, fulI_nil, bnd_s])
    case b1 =>
      intro j hj
      have g2 : a2[j]? = some (a2.getD j 0) := get_nat (by omega)
      have gb2 : b2[j]? = some (b2.getD j 0) := get_nat (by omega)
      have q3 := H2.ap _ (List.mem_of_getElem? g2)
      have q4 := H2.bp _ (List.mem_of_getElem? gb2)
      have hlt : i * m + j < n * m := idx_lt hi hj
      simp only
      rw [cnd_t (ltN_t hj), getI_nat, g2, bnd_s, mulR hp q1.le q3.le, bnd_s]
      simp only [fulI_id, fulI_nil, bnd_s, show ∀ y : Int, winI [y] 0 1 = some [y] from fun y => rfl]
      rw [fitI_ok (show (addN (lenN (prodTo p m a a2 (i * m + j))) (lenN [a.getD i 0 * a2.getD j 0 % p])) * 8 ≤ maxBytes by simp only [addN, lenN, maxBytes, prodTo_len, List.length_cons, List.length_nil]; omega), bnd_s, getI_nat, gb, bnd_s, getI_nat, gb2, bnd_s, mulR hp q2.le q4.le, bnd_s]
      try simp only [fulI_id, fulI_nil, bnd_s, show ∀ y : Int, winI [y] 0 1 = some [y] from fun y => rfl]
      rw [fitI_ok (show (addN (lenN (prodTo p m b b2 (i * m + j))) (lenN [b.getD i 0 * b2.getD j 0 % p])) * 8 ≤ maxBytes by simp only [addN, lenN, maxBytes, prodTo_len, List.length_cons, List.length_nil]; omega), bnd_s]
      try simp only [fulI_id, fulI_nil, bnd_s, appL_eq, app_len]
      have s1 := prodTo_succ (p := p) (m := m) (a := a) (a2 := a2) (i * m + j)
      have s2 := prodTo_succ (p := p) (m := m) (a := b) (a2 := b2) (i * m + j)
      rw [idx_div hj, idx_mod hj] at s1 s2
      rw [s1, s2]
      simp only [addN1 (show j ≤ 1048577 by omega), Nat.add_assoc]
    rw [joinK_l]
    simp only [addN1 (show i ≤ 1048577 by omega)]
    rw [show i * m + m = (i + 1) * m by rw [Nat.add_mul, Nat.one_mul]]
  rw [joinK_l]
  simp only [nl]
  rw [loopT_seq (fun k => ((ms, (ms.length : Int), (k : Int)), (p, (n : Int), a, ms, b), (p, (m : Int), a2, ms2, b2), ((0 : Int), (0 : Int)), (p, ((n * m : Nat) : Int)), ([] : List Int), ([] : List (Int × Int × List Int)), ([] : List Int), prodTo p m a a2 (n * m), kronSt p n m ms ms2 k, prodTo p m b b2 (n * m))) ms.length ?d1 ?d2 ?d3 (FUEL_gt (by omega))]
  case d3 => rfl
  case d2 => simp only; rw [cnd_f (ltN_f (Nat.le_refl _))]; try (simp only [fulI_id, fulI_nil, bnd_s])
  case d1 =>
    intro k hk
    obtain ⟨g1, g2⟩ := stM_get H hk
    obtain ⟨g3, g4⟩ := stM_get H2 (show k < ms2.length by omega)
    simp only
    rw [cnd_t (ltN_t hk), getI_nat, g1, bnd_s, getI_nat, g3, bnd_s]
    simp only
    rw [kron_nat H.p (by omega) (by omega) (by omega) (by omega) (by omega) (by omega) g2 g4, bnd_s]
    simp only [takI_id, bnd_s, show fulI 0 1 (lenN [(((n * m : Nat) : Int), ((n * m : Nat) : Int), genD (n * m) (n * m) (kronM p m m (stM n ms k) (stM m ms2 k)))]) = some () from rfl, kron_tail k (by omega), fulI_id, fulI_nil, appL_eq, app_len]
    rw [kronSt_succ]
    try simp only [addN1 (show k ≤ 1048577 by omega)]
  rw [joinK_l]
  simp only [takI_id, bnd_s]
end

theorem f_spec_MultiplyAutomata (x : Aut × Aut) (y : Aut × Bool) (h : F_spec_MultiplyAutomata x = some y) : G_spec_MultiplyAutomata FUEL x = some y := by
  obtain ⟨x, z⟩ := x
  simp only [F_spec_MultiplyAutomata] at h
  split at h
  · rename_i hl
    rw [← h]
    have e0 : F_spec_l34Alike (x, z) = some (alikeB x z) := if_pos hl
    cases hb : alikeB x z with
    | false =>
      obtain ⟨x0, x1, x2, x3, x4⟩ := x
      obtain ⟨z0, z1, z2, z3, z4⟩ := z
      simp only [G_spec_MultiplyAutomata, e0, bnd_s, hb]
      rfl
    | true =>
      have hb' := hb
      rw [hb] at e0
      obtain ⟨p, n, m, a, b, a2, b2, ms, ms2, rfl, rfl, H, H2, hl2⟩ := alikeB_nat hb
      have hn := H.hn
      have hm := H2.hn
      have enm : (n : Int) * (m : Int) = ((n * m : Nat) : Int) := by norm_cast
      by_cases h12 : n * m ≤ 12
      · rw [if_pos (show _ ∧ _ from ⟨by first | trivial | rfl, by show (n : Int) * (m : Int) ≤ 12; rw [enm]; omega⟩)]
        rw [g_mulAS H H2 hl2 h12 e0]
        simp only [prodX, Int.toNat_natCast]
      · rw [if_neg (fun h => h12 (by have h2 : (n : Int) * (m : Int) ≤ 12 := h.2; rw [enm] at h2; omega))]
        simp only [G_spec_MultiplyAutomata, e0, bnd_s]
        rw [cnd_f (by rfl), mulN (by omega) (by omega), cnd_t (ltI_t (by omega))]
  · cases h

theorem f_impl_MultiplyAutomata (x : Aut × Aut) (y : Aut × Bool) (h : F_impl_MultiplyAutomata x = some y) : G_impl_MultiplyAutomata FUEL x = some y := by
  obtain ⟨x, z⟩ := x
  simp only [F_impl_MultiplyAutomata, F_spec_MultiplyAutomata] at h
  split at h
  · rename_i hl
    rw [← h]
    have e0 : F_impl_sameLetters (x, z) = some (alikeB x z) := if_pos hl
    cases hb : alikeB x z with
    | false =>
      obtain ⟨x0, x1, x2, x3, x4⟩ := x
      obtain ⟨z0, z1, z2, z3, z4⟩ := z
      simp only [G_impl_MultiplyAutomata, e0, bnd_s, hb]
      rfl
    | true =>
      have hb' := hb
      rw [hb] at e0
      obtain ⟨p, n, m, a, b, a2, b2, ms, ms2, rfl, rfl, H, H2, hl2⟩ := alikeB_nat hb
      have hn := H.hn
      have hm := H2.hn
      have enm : (n : Int) * (m : Int) = ((n * m : Nat) : Int) := by norm_cast
      by_cases h12 : n * m ≤ 12
      · rw [if_pos (show _ ∧ _ from ⟨by first | trivial | rfl, by show (n : Int) * (m : Int) ≤ 12; rw [enm]; omega⟩)]
        rw [g_mulAI H H2 hl2 h12 e0]
        simp only [prodX, Int.toNat_natCast]
      · rw [if_neg (fun h => h12 (by have h2 : (n : Int) * (m : Int) ≤ 12 := h.2; rw [enm] at h2; omega))]
        simp only [G_impl_MultiplyAutomata, e0, bnd_s]
        rw [cnd_f (by rfl), mulN (by omega) (by omega), cnd_t (ltI_t (by omega))]
  · cases h
end Go.Am
end
