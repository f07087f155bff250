/- Mx, M1, M4, M5, M11, M22, M6, M7, M8, M9, M23, M24, M25, M26: parts of the proof. No condition. -/
import Derived.Test.YtfoplfdfpanglaaMT
set_option linter.unusedVariables false
set_option linter.unusedSimpArgs false
section
namespace Go.Am

/-! ### loops -/

/-! ### matrices -/

def genD (r c : Nat) (M : Nat → Nat → Int) : List Int := (List.range (r * c)).map fun n => M (n / c) (n % c)
def ofD (c : Nat) (l : List Int) : Nat → Nat → Int := fun i j => l.getD (i * c + j) 0
def updM (M : Nat → Nat → Int) (i j : Nat) (x : Int) : Nat → Nat → Int := fun a b => if a = i ∧ b = j then x else M a b

theorem idx_lt {r c i j : Nat} (hi : i < r) (hj : j < c) : i * c + j < r * c := by
  have : (i + 1) * c ≤ r * c := Nat.mul_le_mul_right _ hi
  rw [Nat.add_mul] at this
  omega
theorem idx_div {c i j : Nat} (hj : j < c) : (i * c + j) / c = i := by
  rw [Nat.mul_comm, Nat.mul_add_div (by omega), Nat.div_eq_of_lt hj, Nat.add_zero]
theorem idx_mod {c i j : Nat} (hj : j < c) : (i * c + j) % c = j := by
  rw [Nat.mul_comm, Nat.mul_add_mod, Nat.mod_eq_of_lt hj]
theorem genD_len (r c : Nat) (M : Nat → Nat → Int) : (genD r c M).length = r * c := by simp [genD]
theorem genD_get {r c i j : Nat} (M : Nat → Nat → Int) (hi : i < r) (hj : j < c) : (genD r c M)[i * c + j]? = some (M i j) := by
  unfold genD
  rw [List.getElem?_map, List.getElem?_range (idx_lt hi hj)]
  simp [idx_div hj, idx_mod hj]
theorem genD_congr {r c : Nat} {M M' : Nat → Nat → Int} (h : ∀ i, i < r → ∀ j, j < c → M i j = M' i j) : genD r c M = genD r c M' := by
  unfold genD
  refine List.map_congr_left fun n hn => ?_
  have hn := List.mem_range.1 hn
  have hc : 0 < c := by
    rcases Nat.eq_zero_or_pos c with h | h
    · subst h; simp at hn
    · exact h
  exact h _ ((Nat.div_lt_iff_lt_mul hc).2 hn) _ (Nat.mod_lt _ hc)
theorem genD_set {r c i j : Nat} (M : Nat → Nat → Int) (hj : j < c) (x : Int) : (genD r c M).set (i * c + j) x = genD r c (updM M i j x) := by
  apply List.ext_getElem?
  intro n
  rw [List.getElem?_set, genD_len]
  unfold genD
  simp only [List.getElem?_map]
  by_cases hn : n < r * c
  · rw [List.getElem?_range hn]
    have hc : 0 < c := by omega
    by_cases he : i * c + j = n
    · rw [if_pos he, if_pos (by omega)]
      subst he
      simp [updM, idx_div hj, idx_mod hj]
    · rw [if_neg he]
      simp only [Option.map_some, updM]
      rw [if_neg]
      rintro ⟨h1, h2⟩
      apply he
      rw [← h1, ← h2]
      have := Nat.div_add_mod n c
      rw [Nat.mul_comm] at this
      exact this
  · rw [List.getElem?_eq_none (by simp; omega)]
    by_cases he : i * c + j = n
    · rw [if_pos he, if_neg (by omega)]; rfl
    · rw [if_neg he]; rfl
theorem genD_of {r c : Nat} {l : List Int} (h : l.length = r * c) : genD r c (ofD c l) = l := by
  apply List.ext_getElem?
  intro n
  unfold genD
  simp only [List.getElem?_map]
  by_cases hn : n < r * c
  · rw [List.getElem?_range hn, List.getElem?_eq_getElem (by omega)]
    simp only [Option.map_some, ofD]
    have := Nat.div_add_mod n c
    rw [Nat.mul_comm] at this
    rw [this, List.getD_eq_getElem?_getD, List.getElem?_eq_getElem (by omega)]
    rfl
  · rw [List.getElem?_eq_none (by simp; omega), List.getElem?_eq_none (by omega)]
    rfl
theorem ofD_gen {r c i j : Nat} (M : Nat → Nat → Int) (hi : i < r) (hj : j < c) : ofD c (genD r c M) i j = M i j := by
  unfold ofD
  rw [List.getD_eq_getElem?_getD, genD_get M hi hj]
  rfl
theorem genD_rep (r c : Nat) (x : Int) : repL (r * c) x = genD r c (fun _ _ => x) := by
  unfold genD repL
  rw [List.map_const', List.length_range]
/-! ### indices as the program computes them -/

theorem idxI {i c j : Nat} (hi : i ≤ 1048576) (hc : c ≤ 1048576) (hj : j ≤ 1048576) : addI .i64 (mulI .i64 (i : Int) (c : Int)) (j : Int) = ((i * c + j : Nat) : Int) := by
  have h1 : i * c ≤ 1048576 * 1048576 := Nat.mul_le_mul hi hc
  have e : (i : Int) * (c : Int) = ((i * c : Nat) : Int) := by norm_cast
  rw [mulI, wrap_id (by omega) (by omega), addI_eq (by omega) (by omega), e]
  omega
theorem mulN {i c : Nat} (hi : i ≤ 1048576) (hc : c ≤ 1048576) : mulI .i64 (i : Int) (c : Int) = ((i * c : Nat) : Int) := by
  have h1 : i * c ≤ 1048576 * 1048576 := Nat.mul_le_mul hi hc
  have e : (i : Int) * (c : Int) = ((i * c : Nat) : Int) := by norm_cast
  rw [mulI, wrap_id (by omega) (by omega), e]
theorem getI_gen {r c i j : Nat} (M : Nat → Nat → Int) (hi : i < r) (hj : j < c) : getI (genD r c M) ((i * c + j : Nat) : Int) = some (M i j) := by rw [getI_nat, genD_get M hi hj]
theorem chkI_gen {r c i j : Nat} (M : Nat → Nat → Int) (hi : i < r) (hj : j < c) : chkI ((i * c + j : Nat) : Int) (lenN (genD r c M)) = some (i * c + j) := chkI_nat (by unfold lenN; rw [genD_len]; exact idx_lt hi hj)
theorem getN_gen {r c i j : Nat} (M : Nat → Nat → Int) (hi : i < r) (hj : j < c) : getN (genD r c M) (i * c + j) = some (M i j) := genD_get M hi hj
theorem setL_gen {r c i j : Nat} (M : Nat → Nat → Int) (hj : j < c) (x : Int) : setL (genD r c M) (i * c + j) x = genD r c (updM M i j x) := genD_set M hj x
theorem lenN_gen (r c : Nat) (M : Nat → Nat → Int) : lenN (genD r c M) = r * c := genD_len r c M
theorem fulI_gen (r c : Nat) (M M' : Nat → Nat → Int) : fulI 0 (lenN (genD r c M)) (lenN (genD r c M')) = some () := by rw [lenN_gen, lenN_gen]; exact fulI_id _
theorem samI_gen (r c : Nat) (M M' : Nat → Nat → Int) : samI (lenN (genD r c M)) (lenN (genD r c M')) = some () := by rw [lenN_gen, lenN_gen]; exact samI_ok rfl
theorem remN {a p : Int} (ha : 0 ≤ a) (hp : 0 < p) : remI a p = some (a % p) := by
  unfold remI
  rw [if_neg (by omega), Int.tmod_eq_emod_of_nonneg ha]
theorem ltN_t {i n : Nat} (h : i < n) : ltI (i : Int) (n : Int) = true := ltI_t (by omega)
theorem ltN_f {i n : Nat} (h : n ≤ i) : ltI (i : Int) (n : Int) = false := ltI_f (by omega)
theorem addN1 {i : Nat} (h : i ≤ 1048577) : addI .i64 (i : Int) 1 = ((i + 1 : Nat) : Int) := by rw [addI_eq (by omega) (by omega)]; omega

/-- Products modulo p. -/
def pOk (p : Int) : Prop := 2 ≤ p ∧ p ≤ 1000003
instance (p : Int) : Decidable (pOk p) := inferInstanceAs (Decidable (2 ≤ p ∧ p ≤ 1000003))
def inP (p x : Int) : Prop := 0 ≤ x ∧ x < p
instance (p x : Int) : Decidable (inP p x) := inferInstanceAs (Decidable (0 ≤ x ∧ x < p))

theorem emod_in {p : Int} (hp : pOk p) (a : Int) : inP p (a % p) := ⟨Int.emod_nonneg _ (by have := hp.1; omega), Int.emod_lt_of_pos _ (by have := hp.1; omega)⟩
theorem inP.le {p x : Int} (h : inP p x) : 0 ≤ x ∧ x ≤ p := ⟨h.1, Int.le_of_lt h.2⟩
theorem inP.s {p x : Int} (hp : pOk p) (h : inP p x) : 0 ≤ x ∧ x ≤ 1000003000000 := ⟨h.1, by have := h.2; have := hp.2; omega⟩
theorem prod_in {p a b : Int} (hp : pOk p) (ha : 0 ≤ a ∧ a ≤ p) (hb : 0 ≤ b ∧ b ≤ p) : 0 ≤ a * b ∧ a * b ≤ 1000006000009 := by
  refine ⟨Int.mul_nonneg ha.1 hb.1, ?_⟩
  have h1 := hp.2
  have := Int.mul_le_mul (show a ≤ 1000003 by omega) (show b ≤ 1000003 by omega) hb.1 (by omega)
  omega
theorem mulI_in {p a b : Int} (hp : pOk p) (ha : 0 ≤ a ∧ a ≤ p) (hb : 0 ≤ b ∧ b ≤ p) : mulI .i64 a b = a * b := by
  have := prod_in hp ha hb
  exact wrap_id (by omega) (by omega)
theorem macI {p s a b : Int} (hp : pOk p) (hs : 0 ≤ s ∧ s ≤ 1000003000000) (ha : 0 ≤ a ∧ a ≤ p) (hb : 0 ≤ b ∧ b ≤ p) : remI (addI .i64 s (mulI .i64 a b)) p = some ((s + a * b) % p) := by
  have h := prod_in hp ha hb
  rw [mulI_in hp ha hb, addI_eq (by omega) (by omega), remN (by omega) (by have := hp.1; omega)]
theorem mulR {p a b : Int} (hp : pOk p) (ha : 0 ≤ a ∧ a ≤ p) (hb : 0 ≤ b ∧ b ≤ p) : remI (mulI .i64 a b) p = some (a * b % p) := by
  have h := prod_in hp ha hb
  rw [mulI_in hp ha hb, remN h.1 (by have := hp.1; omega)]

def dotF (p : Int) (f g : Nat → Int) : Nat → Int
  | 0 => 0
  | n + 1 => (dotF p f g n + f n * g n) % p

theorem dotF_in {p : Int} (hp : pOk p) (f g : Nat → Int) : ∀ n, inP p (dotF p f g n)
  | 0 => ⟨Int.le_refl _, by have := hp.1; show (0 : Int) < p; omega⟩
  | n + 1 => emod_in hp _

def mulF (p : Int) (k : Nat) (A B : Nat → Nat → Int) : Nat → Nat → Int := fun i j => dotF p (fun t => A i t) (fun t => B t j) k

/-- All of a matrix's elements are modulo p. -/
def inM (p : Int) (r c : Nat) (M : Nat → Nat → Int) : Prop := ∀ i, i < r → ∀ j, j < c → inP p (M i j)

def allP (p : Int) (l : List Int) : Prop := ∀ x ∈ l, inP p x
instance (p : Int) (l : List Int) : Decidable (allP p l) := inferInstanceAs (Decidable (∀ x ∈ l, inP p x))

theorem allP_gen {p : Int} {r c : Nat} {M : Nat → Nat → Int} : allP p (genD r c M) ↔ inM p r c M := by
  constructor
  · intro h i hi j hj
    exact h _ (List.mem_of_getElem? (genD_get M hi hj))
  · intro h x hx
    unfold genD at hx
    obtain ⟨n, hn, rfl⟩ := List.mem_map.1 hx
    have hn := List.mem_range.1 hn
    have hc : 0 < c := by
      rcases Nat.eq_zero_or_pos c with h | h
      · subst h; simp at hn
      · exact h
    exact h _ ((Nat.div_lt_iff_lt_mul hc).2 hn) _ (Nat.mod_lt _ hc)

/-- A matrix as the program has it. -/
def mOk (x : Int × Int × List Int) : Prop := (0 ≤ x.1 ∧ x.1 ≤ 4096) ∧ (0 ≤ x.2.1 ∧ x.2.1 ≤ 4096) ∧ (x.2.2.length : Int) = x.1 * x.2.1 ∧ x.2.2.length ≤ 1048576
instance (x : Int × Int × List Int) : Decidable (mOk x) := by unfold mOk; infer_instance

/-- What a matrix is. -/
theorem mOk_gen {x : Int × Int × List Int} (h : mOk x) : ∃ (r c : Nat) (M : Nat → Nat → Int), x = ((r : Int), (c : Int), genD r c M) ∧ r ≤ 4096 ∧ c ≤ 4096 ∧ r * c ≤ 1048576 := by
  obtain ⟨r, c, l⟩ := x
  obtain ⟨h1, h2, h3, h4⟩ := h
  simp only at h1 h2 h3 h4
  obtain ⟨r, rfl⟩ := natI_eq h1.1
  obtain ⟨c, rfl⟩ := natI_eq h2.1
  have e : l.length = r * c := by
    have : ((r : Int) * (c : Int)) = ((r * c : Nat) : Int) := by norm_cast
    rw [this] at h3; exact_mod_cast h3
  exact ⟨r, c, ofD c l, by rw [genD_of e], by omega, by omega, by omega⟩

theorem mOk_mk {r c : Nat} (M : Nat → Nat → Int) (hr : r ≤ 4096) (hc : c ≤ 4096) (h : r * c ≤ 1048576) : mOk ((r : Int), (c : Int), genD r c M) := by
  refine ⟨⟨by omega, by show (r : Int) ≤ 4096; omega⟩, ⟨by show (0 : Int) ≤ c; omega, by show (c : Int) ≤ 4096; omega⟩, ?_, ?_⟩
  · simp only [genD_len]; norm_cast
  · simp only [genD_len]; exact h

end Go.Am
end
section
namespace Go.Am
def F_spec_l01In : Int × Int × Int → Option Bool := fun ((a, b, c) : Int × Int × Int) => some (decide (b ≤ a ∧ a ≤ c))
def ag_spec_l01In : Sig := [(.one, [.int .i64]), (.one, [.int .i64]), (.one, [.int .i64])]
def rs_spec_l01In : Sig := [(.one, [.bool])]
def mu_spec_l01In : MSig := []
def G_spec_l01In (NN : Nat) : (Int × (Int × Int)) → (Option Bool) :=
 (fun ((i0, i1, i2) : (Int × (Int × Int))) =>
 cnd (leI i1 i0)
 (some (leI i0 i2))
 (some false))

theorem f_spec_l01In (x : Int × Int × Int) (y : Bool) (h : F_spec_l01In x = some y) : G_spec_l01In FUEL x = some y := by
  obtain ⟨a, b, c⟩ := x
  rw [← h]
  simp only [F_spec_l01In, G_spec_l01In, leI]
  by_cases hc : b ≤ a <;> simp [hc, cnd]

end Go.Am
end
section
namespace Go.Am

/-! ### primes, rows, matrices, automata -/

def divAt (n : Int) (i : Nat) : Bool := decide ((i : Int) * i ≤ n) && decide (n % (i : Int) = 0)
def isPrimeI (n : Int) : Bool := decide (2 ≤ n ∧ n ≤ 1000003) && !((List.range' 2 999).any (divAt n))
def F_spec_IsPrime : Int → Option Bool := fun (n : Int) => some (isPrimeI n)
def F_impl_IsPrime : Int → Option Bool := fun (n : Int) => some (isPrimeI n)
def inB (m : Int) (v : Int) : Bool := decide (0 ≤ v ∧ v < m)
def rowOk (m : Int) (l : List Int) : Bool := l.all (inB m)
def F_impl_inMod : Int × List Int → Option Bool := fun ((m, l) : Int × List Int) => if l.length ≤ 1048576 then some (rowOk m l) else none
def matOk (m : Int) (x : Int × Int × List Int) : Bool := isPrimeI m && (decide (0 ≤ x.1 ∧ x.1 ≤ 64) && (decide (0 ≤ x.2.1 ∧ x.2.1 ≤ 64) && (decide ((x.2.2.length : Int) = x.1 * x.2.1) && rowOk m x.2.2)))
def F_spec_MatrixOk : Int × Int × Int × List Int → Option Bool := fun ((m, x) : Int × Int × Int × List Int) => if sz_Matrix x ≤ 1048576 then some (matOk m x) else none
def F_impl_MatrixOk : Int × Int × Int × List Int → Option Bool := fun ((m, x) : Int × Int × Int × List Int) => if sz_Matrix x ≤ 1048576 then some (matOk m x) else none
def ag_spec_IsPrime : Sig := [(.one, [.int .i64])]
def rs_spec_IsPrime : Sig := [(.one, [.bool])]
def mu_spec_IsPrime : MSig := []
def ag_spec_MatrixOk : Sig := [(.one, [.int .i64]), (.agg, [.int .i64, .int .i64, .list [.int .i64]])]
def rs_spec_MatrixOk : Sig := [(.one, [.bool])]
def mu_spec_MatrixOk : MSig := []
def ag_impl_IsPrime : Sig := [(.one, [.int .i64])]
def rs_impl_IsPrime : Sig := [(.one, [.bool])]
def mu_impl_IsPrime : MSig := []
def ag_impl_inMod : Sig := [(.one, [.int .i64]), (.one, [.list [.int .i64]])]
def rs_impl_inMod : Sig := [(.one, [.bool])]
def mu_impl_inMod : MSig := []
def ag_impl_MatrixOk : Sig := [(.one, [.int .i64]), (.agg, [.int .i64, .int .i64, .list [.int .i64]])]
def rs_impl_MatrixOk : Sig := [(.one, [.bool])]
def mu_impl_MatrixOk : MSig := []
def G_spec_IsPrime (NN : Nat) : Int → (Option Bool) :=
 (fun (i0 : Int) =>
 joinK (loopT NN (fun ((i1, i2) : (Int × Int)) =>
 cnd (leI (mulI .i64 i2 i2) i1)
 (cnd (leI i1 (1000003 : Int))
 ((remI i1 i2).bnd (fun i3 =>
 cnd (eqI i3 (0 : Int))
 (some (Sum.inr (Sum.inr false)))
 (some (Sum.inl (i1, addI .i64 i2 1)))))
 (some (Sum.inr (Sum.inl i1))))
 (some (Sum.inr (Sum.inl i1))))
 (i0, (2 : Int)))
 (fun i4 =>
 (F_spec_l01In (i4, (2 : Int), (1000003 : Int))).bnd (fun b5 =>
 some b5)))

def G_spec_MatrixOk (NN : Nat) : (Int × (Int × (Int × (List Int)))) → (Option Bool) :=
 (fun ((i0, i1, i2, l3) : (Int × (Int × (Int × (List Int))))) =>
 (F_spec_IsPrime i0).bnd (fun b4 =>
 cnd (notB b4)
 (some false)
 ((F_spec_l01In (i1, (0 : Int), (64 : Int))).bnd (fun b5 =>
 cnd (notB b5)
 (some false)
 ((F_spec_l01In (i2, (0 : Int), (64 : Int))).bnd (fun b6 =>
 cnd (notB b6)
 (some false)
 (cnd (neI (natI (lenN l3)) (mulI .i64 i1 i2))
 (some false)
 (joinK (loopT NN (fun ((i7, l8, i9, i10) : (Int × ((List Int) × (Int × Int)))) =>
 cnd (ltI i10 i9)
 ((getI l8 i10).bnd (fun i11 =>
 (F_spec_l01In (i11, (0 : Int), subI .i64 i7 1)).bnd (fun b12 =>
 cnd (notB b12)
 (some (Sum.inr (Sum.inr false)))
 (some (Sum.inl (i7, l8, i9, addI .i64 i10 1))))))
 (some (Sum.inr (Sum.inl ()))))
 (i0, l3, natI (lenN l3), (0 : Int)))
 (fun _ =>
 some true)))))))))

def G_impl_IsPrime (NN : Nat) : Int → (Option Bool) :=
 (fun (i0 : Int) =>
 cnd (ltI i0 (2 : Int))
 (some false)
 (cnd (ltI (1000003 : Int) i0)
 (some false)
 (joinK (loopT NN (fun ((i1, i2) : (Int × Int)) =>
 cnd (leI (mulI .i64 i2 i2) i1)
 ((remI i1 i2).bnd (fun i3 =>
 cnd (eqI i3 (0 : Int))
 (some (Sum.inr (Sum.inr false)))
 (some (Sum.inl (i1, addI .i64 i2 1)))))
 (some (Sum.inr (Sum.inl ()))))
 (i0, (2 : Int)))
 (fun _ =>
 some true))))

def G_impl_inMod (NN : Nat) : (Int × (List Int)) → (Option Bool) :=
 (fun ((i0, l1) : (Int × (List Int))) =>
 joinK (loopT NN (fun ((i2, l3, i4, i5) : (Int × ((List Int) × (Int × Int)))) =>
 cnd (ltI i5 i4)
 ((getI l3 i5).bnd (fun i6 =>
 cnd (ltI i6 (0 : Int))
 (some (Sum.inr (Sum.inr false)))
 (cnd (leI i2 i6)
 (some (Sum.inr (Sum.inr false)))
 (some (Sum.inl (i2, l3, i4, addI .i64 i5 1))))))
 (some (Sum.inr (Sum.inl ()))))
 (i0, l1, natI (lenN l1), (0 : Int)))
 (fun _ =>
 some true))

def G_impl_MatrixOk (NN : Nat) : (Int × (Int × (Int × (List Int)))) → (Option Bool) :=
 (fun ((i0, i1, i2, l3) : (Int × (Int × (Int × (List Int))))) =>
 (F_impl_IsPrime i0).bnd (fun b4 =>
 cnd (notB b4)
 (some false)
 (cnd (ltI i1 (0 : Int))
 (some false)
 (cnd (ltI i2 (0 : Int))
 (some false)
 (cnd (ltI (64 : Int) i1)
 (some false)
 (cnd (ltI (64 : Int) i2)
 (some false)
 (cnd (eqI (natI (lenN l3)) (mulI .i64 i1 i2))
 ((F_impl_inMod (i0, l3)).bnd (fun b5 =>
 some b5))
 (some false))))))))

theorem mulI_eq {a b : Int} (h1 : -9223372036854775808 ≤ a * b) (h2 : a * b ≤ 9223372036854775807) : mulI .i64 a b = a * b := wrap_id h1 h2
theorem remI_nat {n : Int} {i : Nat} (hn : 0 ≤ n) (hi : 0 < i) : remI n (i : Int) = some (n % (i : Int)) := by
  unfold remI
  rw [if_neg (by omega), Int.tmod_eq_emod_of_nonneg hn]

theorem sq_le {i j : Nat} (h : i ≤ j) : (i : Int) * i ≤ (j : Int) * j := by
  have := Nat.mul_le_mul h h
  exact_mod_cast this

/-- The search for a divisor. -/
theorem div_loop {X Y : Type} {f : X → Option (X ⊕ (Y ⊕ Bool))} (n : Int) (mk : Nat → X) (r : Y) (hn : n ≤ 1000003)
    (h1 : ∀ i : Nat, 2 ≤ i → i ≤ 1001 → (i : Int) * i ≤ n → n % (i : Int) = 0 → f (mk i) = some (.inr (.inr false)))
    (h2 : ∀ i : Nat, 2 ≤ i → i ≤ 1001 → (i : Int) * i ≤ n → n % (i : Int) ≠ 0 → f (mk i) = some (.inl (mk (i + 1))))
    (h3 : ∀ i : Nat, 2 ≤ i → i ≤ 1001 → ¬ (i : Int) * i ≤ n → f (mk i) = some (.inr (.inl r))) {x0 : X} (hx : x0 = mk 2) :
    loopT FUEL f x0 = some (if (List.range' 2 999).any (divAt n) = true then .inr false else .inl r) := by
  subst hx
  have key : ∀ (d i : Nat), 2 ≤ i → i + d = 1001 → ∀ N, d < N → loopT N f (mk i) = some (if (List.range' i d).any (divAt n) = true then .inr false else .inl r) := by
    intro d
    induction d with
    | zero =>
      intro i hi hd N hN
      obtain ⟨N, rfl⟩ : ∃ M, N = M + 1 := ⟨N - 1, by omega⟩
      have : i = 1001 := by omega
      subst this
      rw [loopT, h3 1001 (by omega) (by omega) (by omega)]
      rfl
    | succ d ih =>
      intro i hi hd N hN
      obtain ⟨N, rfl⟩ : ∃ M, N = M + 1 := ⟨N - 1, by omega⟩
      rw [List.range'_succ, List.any_cons]
      by_cases hle : (i : Int) * i ≤ n
      · by_cases hm : n % (i : Int) = 0
        · rw [loopT, h1 i hi (by omega) hle hm]
          simp [divAt, hle, hm]
        · rw [loopT, h2 i hi (by omega) hle hm]
          simp only
          rw [ih (i + 1) (by omega) (by omega) N (by omega), show divAt n i = false by simp [divAt, hm], Bool.false_or]
      · rw [loopT, h3 i hi (by omega) hle]
        have : (List.range' (i + 1) d).any (divAt n) = false := by
          rw [List.any_eq_false]
          intro j hj
          have := (List.mem_range'_1.1 hj).1
          have := sq_le (show i ≤ j by omega)
          simp only [divAt, Bool.and_eq_true, decide_eq_true_eq, not_and]
          intro h; omega
        simp only
        rw [this]
        simp [divAt, hle]
  exact key 999 2 (by omega) (by omega) FUEL (FUEL_gt (by omega))

theorem sq_le1001 {i : Nat} (h : i ≤ 1001) : 0 ≤ (i : Int) * i ∧ (i : Int) * i ≤ 1002001 := by
  have h1 := sq_le h
  have h0 := sq_le (Nat.zero_le i)
  omega

theorem f_spec_IsPrime (x : Int) (y : Bool) (h : F_spec_IsPrime x = some y) : G_spec_IsPrime FUEL x = some y := by
  rw [← h]
  simp only [F_spec_IsPrime, G_spec_IsPrime]
  by_cases hx : x ≤ 1000003
  · rw [div_loop x (fun i => (x, (i : Int))) x hx ?_ ?_ ?_ ?_]
    · by_cases hd : (List.range' 2 999).any (divAt x) = true
      · rw [if_pos hd, joinK_r, isPrimeI, hd]
        simp
      · rw [if_neg hd, joinK_l, isPrimeI]
        simp only [F_spec_l01In, bnd_s]
        simp [hd]
    all_goals try simp only
    · intro i h2 hi hle hm
      have hs := sq_le1001 hi
      rw [mulI_eq (by omega) (by omega), cnd_t (leI_t hle), cnd_t (leI_t hx), remI_nat (by omega) (by omega), bnd_s, cnd_t (eqI_t hm)]
    · intro i h2 hi hle hm
      have hs := sq_le1001 hi
      rw [mulI_eq (by omega) (by omega), cnd_t (leI_t hle), cnd_t (leI_t hx), remI_nat (by omega) (by omega), bnd_s, cnd_f (eqI_f hm), addI_eq (by omega) (by omega)]
      rfl
    · intro i h2 hi hle
      have hs := sq_le1001 hi
      rw [mulI_eq (by omega) (by omega), cnd_f (leI_f (by omega))]
    · rfl
  · rw [loopT_seq (fun i => (x, (i : Int) + 2)) (r := Sum.inl x) 0 (fun j hj => by omega) ?_ ?_ (FUEL_gt (by omega))]
    · rw [joinK_l, isPrimeI]
      simp only [F_spec_l01In, bnd_s]
      have : ¬ (2 ≤ x ∧ x ≤ 1000003) := by omega
      simp [this]
    · simp only
      rw [cnd_t (leI_t (by rw [mulI_eq (by omega) (by omega)]; omega)), cnd_f (leI_f (by omega))]
    · rfl

theorem f_impl_IsPrime (x : Int) (y : Bool) (h : F_impl_IsPrime x = some y) : G_impl_IsPrime FUEL x = some y := by
  rw [← h]
  simp only [F_impl_IsPrime, G_impl_IsPrime]
  by_cases h2 : x < 2
  · rw [cnd_t (ltI_t h2), isPrimeI, decide_eq_false (by omega)]; rfl
  rw [cnd_f (ltI_f (by omega))]
  by_cases hx : 1000003 < x
  · rw [cnd_t (ltI_t hx), isPrimeI, decide_eq_false (by omega)]; rfl
  rw [cnd_f (ltI_f (by omega))]
  rw [div_loop x (fun i => (x, (i : Int))) () (by omega) ?_ ?_ ?_ ?_]
  · have hr : (2 ≤ x ∧ x ≤ 1000003) := by omega
    by_cases hd : (List.range' 2 999).any (divAt x) = true
    · rw [if_pos hd, joinK_r, isPrimeI, hd]
      simp
    · rw [if_neg hd, joinK_l, isPrimeI]
      simp [hd, hr]
  all_goals try simp only
  · intro i h2 hi hle hm
    have hs := sq_le1001 hi
    rw [mulI_eq (by omega) (by omega), cnd_t (leI_t hle), remI_nat (by omega) (by omega), bnd_s, cnd_t (eqI_t hm)]
  · intro i h2 hi hle hm
    have hs := sq_le1001 hi
    rw [mulI_eq (by omega) (by omega), cnd_t (leI_t hle), remI_nat (by omega) (by omega), bnd_s, cnd_f (eqI_f hm), addI_eq (by omega) (by omega)]
    rfl
  · intro i h2 hi hle
    have hs := sq_le1001 hi
    rw [mulI_eq (by omega) (by omega), cnd_f (leI_f (by omega))]
  · rfl

theorem f_impl_inMod (x : Int × List Int) (y : Bool) (h : F_impl_inMod x = some y) : G_impl_inMod FUEL x = some y := by
  obtain ⟨m, l⟩ := x
  simp only [F_impl_inMod] at h
  split at h
  · rename_i hl
    rw [← h]
    simp only [G_impl_inMod]
    rw [loopT_all (mk := fun i => (m, l, natI (lenN l), (i : Int))) l (inB m) (Sum.inr false) (Sum.inl ()) ?_ ?_ ?_ ?_ (FUEL_gt (by omega))]
    · unfold rowOk
      cases l.all (inB m) <;> rfl
    all_goals try simp only
    · intro i a ha hp
      have hp := of_decide_eq_true hp
      rw [cnd_t (ltI_in ha), getI_nat, ha, bnd_s, cnd_f (ltI_f (by omega)), cnd_f (leI_f (by omega)), next_i ha (by omega)]
    · intro i a ha hp
      have hp := of_decide_eq_false hp
      rw [cnd_t (ltI_in ha), getI_nat, ha, bnd_s]
      by_cases h0 : a < 0
      · rw [cnd_t (ltI_t h0)]
      · rw [cnd_f (ltI_f (by omega)), cnd_t (leI_t (by omega))]
    · rw [cnd_f (ltI_end l)]
    · rfl
  · cases h

theorem isPrimeI_t {m : Int} (h : isPrimeI m = true) : 2 ≤ m ∧ m ≤ 1000003 := by
  simp only [isPrimeI, Bool.and_eq_true, decide_eq_true_eq] at h
  exact h.1

theorem f_impl_MatrixOk (x : Int × Int × Int × List Int) (y : Bool) (h : F_impl_MatrixOk x = some y) : G_impl_MatrixOk FUEL x = some y := by
  obtain ⟨m, r, c, l⟩ := x
  simp only [F_impl_MatrixOk] at h
  split at h
  · rename_i hl
    rw [← h]
    have hl : l.length ≤ 1048576 := hl
    simp only [G_impl_MatrixOk, F_impl_IsPrime, bnd_s, matOk]
    cases hp : isPrimeI m with
    | false => rfl
    | true =>
      rw [cnd_f (by rfl), Bool.true_and]
      by_cases h1 : r < 0
      · rw [cnd_t (ltI_t h1), decide_eq_false (by omega)]; rfl
      rw [cnd_f (ltI_f (by omega))]
      by_cases h2 : c < 0
      · rw [cnd_t (ltI_t h2), decide_eq_false (p := 0 ≤ c ∧ c ≤ 64) (by omega)]; simp
      rw [cnd_f (ltI_f (by omega))]
      by_cases h3 : 64 < r
      · rw [cnd_t (ltI_t h3), decide_eq_false (by omega)]; rfl
      rw [cnd_f (ltI_f (by omega))]
      by_cases h4 : 64 < c
      · rw [cnd_t (ltI_t h4), decide_eq_false (p := 0 ≤ c ∧ c ≤ 64) (by omega)]; simp
      rw [cnd_f (ltI_f (by omega)), decide_eq_true (p := 0 ≤ r ∧ r ≤ 64) (by omega), decide_eq_true (p := 0 ≤ c ∧ c ≤ 64) (by omega), Bool.true_and, Bool.true_and]
      obtain ⟨r, rfl⟩ := natI_eq (z := r) (by omega)
      obtain ⟨c, rfl⟩ := natI_eq (z := c) (by omega)
      have hrc : r * c ≤ 64 * 64 := Nat.mul_le_mul (by omega) (by omega)
      have hrc' : (r : Int) * (c : Int) = ((r * c : Nat) : Int) := by norm_cast
      rw [mulI_eq (by omega) (by omega), show F_impl_inMod (m, l) = some (rowOk m l) from if_pos hl]
      by_cases h5 : (l.length : Int) = (r : Int) * c
      · rw [cnd_t (show eqI (natI (lenN l)) _ = true from eqI_t h5), decide_eq_true h5]; rfl
      · rw [cnd_f (show eqI (natI (lenN l)) _ = false from eqI_f h5), decide_eq_false h5]; rfl
  · cases h

theorem f_spec_MatrixOk (x : Int × Int × Int × List Int) (y : Bool) (h : F_spec_MatrixOk x = some y) : G_spec_MatrixOk FUEL x = some y := by
  obtain ⟨m, r, c, l⟩ := x
  simp only [F_spec_MatrixOk] at h
  split at h
  · rename_i hl
    rw [← h]
    have hl : l.length ≤ 1048576 := hl
    simp only [G_spec_MatrixOk, F_spec_IsPrime, F_spec_l01In, bnd_s, matOk]
    cases hp : isPrimeI m with
    | false => rfl
    | true =>
      obtain ⟨hm1, hm2⟩ := isPrimeI_t hp
      rw [cnd_f (by rfl), Bool.true_and]
      by_cases h1 : 0 ≤ r ∧ r ≤ 64
      rotate_left
      · rw [cnd_t (notB_d h1), decide_eq_false h1]; rfl
      rw [cnd_f (notB_p h1), decide_eq_true h1, Bool.true_and]
      by_cases h2 : 0 ≤ c ∧ c ≤ 64
      rotate_left
      · rw [cnd_t (notB_d h2), decide_eq_false h2]; rfl
      rw [cnd_f (notB_p h2), decide_eq_true h2, Bool.true_and]
      obtain ⟨r, rfl⟩ := natI_eq (z := r) (by omega)
      obtain ⟨c, rfl⟩ := natI_eq (z := c) (by omega)
      have hrc : r * c ≤ 64 * 64 := Nat.mul_le_mul (by omega) (by omega)
      have hrc' : (r : Int) * (c : Int) = ((r * c : Nat) : Int) := by norm_cast
      rw [mulI_eq (by omega) (by omega)]
      by_cases h5 : (l.length : Int) = (r : Int) * c
      rotate_left
      · rw [cnd_t (show neI (natI (lenN l)) _ = true from neI_t h5), decide_eq_false h5]; rfl
      rw [cnd_f (show neI (natI (lenN l)) _ = false from neI_f h5), decide_eq_true h5, Bool.true_and]
      rw [loopT_all (mk := fun i => (m, l, natI (lenN l), (i : Int))) l (inB m) (Sum.inr false) (Sum.inl ()) ?_ ?_ ?_ ?_ (FUEL_gt (by omega))]
      · unfold rowOk
        cases l.all (inB m) <;> rfl
      all_goals try simp only
      · intro i a ha hp
        have hp := of_decide_eq_true hp
        rw [cnd_t (ltI_in ha), getI_nat, ha, bnd_s, subI_eq (by omega) (by omega), cnd_f (notB_p (by omega)), next_i ha (by omega)]
      · intro i a ha hp
        have hp := of_decide_eq_false hp
        rw [cnd_t (ltI_in ha), getI_nat, ha, bnd_s, subI_eq (by omega) (by omega), cnd_t (notB_d (by omega))]
      · rw [cnd_f (ltI_end l)]
      · rfl
  · cases h

end Go.Am
end
section
namespace Go.Am
/-! ### products of dimensions -/

def prodI : List Int → Int
  | [] => 1
  | x :: l => x * prodI l
def capStep (lim : Int) (_ : Nat) (a x : Int) : Int := min (a * x) (lim + 1)
def capProd (lim : Int) (l : List Int) : Int := foldN (capStep lim) 0 1 l
def smallB (x : Int) : Bool := decide (0 ≤ x ∧ x ≤ 1048576)
def F_spec_l05Product : List Int × Int → Option Int := fun ((l, lim) : List Int × Int) => if (0 ≤ lim ∧ lim ≤ 1048576) ∧ l.length ≤ 1048576 ∧ l.all smallB = true then some (capProd lim l) else none
def ag_spec_l05Product : Sig := [(.one, [.list [.int .i64]]), (.one, [.int .i64])]
def rs_spec_l05Product : Sig := [(.one, [.int .i64])]
def mu_spec_l05Product : MSig := []

def G_spec_l05Product (NN : Nat) : ((List Int) × Int) → (Option Int) :=
 (fun ((l0, i1) : ((List Int) × Int)) =>
 joinK (loopT NN (fun ((i2, i3, l4, i5, i6) : (Int × (Int × ((List Int) × (Int × Int))))) =>
 cnd (ltI i6 i5)
 ((getI l4 i6).bnd (fun i7 =>
 some (Sum.inl (i2, minI (mulI .i64 i3 i7) (addI .i64 i2 1), l4, i5, addI .i64 i6 1))))
 (some (Sum.inr (Sum.inl i3))))
 (i1, (1 : Int), l0, natI (lenN l0), (0 : Int)))
 (fun i8 =>
 some i8))



theorem mul_bd {a x A B : Int} (h0 : 0 ≤ a) (h1 : a ≤ A) (h2 : 0 ≤ x) (h3 : x ≤ B) : 0 ≤ a * x ∧ a * x ≤ A * B :=
  ⟨Int.mul_nonneg h0 h2, Int.mul_le_mul h1 h3 h2 (by omega)⟩

theorem f_spec_l05Product (x : List Int × Int) (y : Int) (h : F_spec_l05Product x = some y) : G_spec_l05Product FUEL x = some y := by
  obtain ⟨l, lim⟩ := x
  simp only [F_spec_l05Product] at h
  split at h
  · rename_i hc
    obtain ⟨hlim, hl, hs⟩ := hc
    rw [← h]
    simp only [G_spec_l05Product]
    rw [loopT_foldN l (fun (a : Int) i => (lim, a, l, natI (lenN l), (i : Int))) (fun _ a => 0 ≤ a ∧ a ≤ lim + 1) (capStep lim) (fun a => Sum.inl a) ?_ ?_ (s := 1) ⟨by omega, by omega⟩ ?_ (FUEL_gt (by omega))]
    · rfl
    all_goals try simp only
    · intro i a x hx ha
      have hxs := of_decide_eq_true (List.all_eq_true.1 hs x (List.mem_of_getElem? hx))
      obtain ⟨b1, b2⟩ := mul_bd ha.1 (show a ≤ 1048577 by omega) hxs.1 hxs.2
      rw [cnd_t (ltI_in hx), getI_nat, hx, bnd_s, mulI_eq (by omega) (by omega), addI_eq (a := lim) (by omega) (by omega), minI_eq', next_i hx (by omega)]
      refine ⟨rfl, ?_⟩
      unfold capStep
      omega
    · intro a _
      rw [cnd_f (ltI_end l)]
    · rfl
  · cases h

theorem prodI_pos : ∀ {l : List Int}, (∀ x ∈ l, 1 ≤ x) → 1 ≤ prodI l
  | [], _ => by simp [prodI]
  | x :: l, h => by
    have h1 := h x List.mem_cons_self
    have h2 := prodI_pos (l := l) (fun x hx => h x (List.mem_cons_of_mem _ hx))
    have := Int.mul_le_mul h1 h2 (by omega) (by omega)
    simpa [prodI] using this

theorem capProd_go {lim : Int} (hlim : 0 ≤ lim) : ∀ (l : List Int) (i : Nat) (a : Int), (∀ x ∈ l, 1 ≤ x) → 1 ≤ a → a ≤ lim + 1 → foldN (capStep lim) i a l = min (a * prodI l) (lim + 1)
  | [], i, a, _, _, h2 => by simp only [foldN, prodI, Int.mul_one]; omega
  | x :: l, i, a, h, h1, h2 => by
    have hx := h x List.mem_cons_self
    have hp := prodI_pos (l := l) (fun x hx => h x (List.mem_cons_of_mem _ hx))
    have hax := Int.mul_le_mul h1 hx (by omega) (by omega)
    rw [foldN, capProd_go hlim l (i + 1) _ (fun x hx => h x (List.mem_cons_of_mem _ hx)) (by unfold capStep; omega) (by unfold capStep; omega), prodI, ← Int.mul_assoc]
    unfold capStep
    generalize a * x = c at *
    by_cases hc : c ≤ lim + 1
    · rw [Int.min_eq_left hc]
    · have e : min c (lim + 1) = lim + 1 := by omega
      rw [e]
      have k1 := Int.mul_le_mul_of_nonneg_left hp (show 0 ≤ lim + 1 by omega)
      have k2 := Int.mul_le_mul_of_nonneg_left hp (show 0 ≤ c by omega)
      omega

theorem capProd_le {lim : Int} (hlim : 0 ≤ lim) {l : List Int} (h : ∀ x ∈ l, 1 ≤ x) : leI (capProd lim l) lim = decide (prodI l ≤ lim) := by
  unfold leI capProd
  rw [capProd_go hlim l 0 1 h (by omega) (by omega), Int.one_mul]
  by_cases hp : prodI l ≤ lim
  · rw [decide_eq_true hp, decide_eq_true (by omega)]
  · rw [decide_eq_false hp, decide_eq_false (by omega)]

end Go.Am
end
section
namespace Go.Am
/-! ### sizes of tensors, charges -/

def axP (L D : List Int) (j : Nat) : Prop := (0 ≤ L.getD j 0 ∧ L.getD j 0 ≤ 99) ∧ (1 ≤ D.getD j 0 ∧ D.getD j 0 ≤ 8) ∧ L.getD j 0 ∉ L.take j
instance (L D : List Int) (j : Nat) : Decidable (axP L D j) := by unfold axP; infer_instance
def chP (m : Int) (D : List Int) (R : List (List Int)) (j : Nat) : Prop := ((R.getD j []).length : Int) = D.getD j 0 ∧ rowOk m (R.getD j []) = true
instance (m : Int) (D : List Int) (R : List (List Int)) (j : Nat) : Decidable (chP m D R j) := by unfold chP; infer_instance
def chDom (x : (List Int × List Int × List Int) × Int × List (List Int)) : Prop := (x.1.1.length ≤ 1048576 ∧ x.1.2.1.length ≤ 1048576) ∧ x.2.2.length ≤ 1048576 ∧ ∀ l ∈ x.2.2, l.length ≤ 1048576
instance (x : (List Int × List Int × List Int) × Int × List (List Int)) : Decidable (chDom x) := by unfold chDom; infer_instance
theorem getD_some {α : Type} {l : List α} {j : Nat} (d : α) (h : j < l.length) : l[j]? = some (l.getD j d) := by
  simp [List.getD, h]
def axQ (L D : List Int) (j : Nat) : Prop := axP L D j ∧ prodI (D.take (j + 1)) ≤ 4096
instance (L D : List Int) (j : Nat) : Decidable (axQ L D j) := by unfold axQ; infer_instance

end Go.Am
end
section
namespace Go.Am

/-! ### chains -/

def siteOk (m : Int) (s : Int × Int × Int × List Int) : Bool := decide (0 ≤ s.1 ∧ s.1 ≤ 32) && (decide (0 ≤ s.2.2.1 ∧ s.2.2.1 ≤ 32) && (decide (1 ≤ s.2.1 ∧ s.2.1 ≤ 8) && (decide ((s.2.2.2.length : Int) = s.1 * s.2.1 * s.2.2.1) && rowOk m s.2.2.2)))
def chStep (m : Int) (_ : Nat) (b : Int) (s : Int × Int × Int × List Int) : Option Int := if siteOk m s = true ∧ s.1 = b then some s.2.2.1 else none
def chStep2 (m : Int) (_ : Nat) (st : Int × Int) (s : Int × Int × Int × List Int) : Option (Int × Int) := if siteOk m s = true ∧ s.1 = st.1 then some (s.2.2.1, st.2 * s.2.1) else none
def dimsOf (l : List (Int × Int × Int × List Int)) : List Int := l.map fun s => s.2.1
def chainOk (x : Int × List (Int × Int × Int × List Int)) : Bool := match x with
  | (m, l) => isPrimeI m && (decide (1 ≤ l.length ∧ l.length ≤ 8) && (match foldO (chStep m) 0 1 l with
    | some b => decide (b = 1) && decide (prodI (dimsOf l) ≤ 4096)
    | none => false))
def F_spec_l32Dims : Int × List (Int × Int × Int × List Int) → Option (List Int) := fun ((m, l) : Int × List (Int × Int × Int × List Int)) => if l.length ≤ 1048576 then some (dimsOf l) else none
def F_impl_siteOk : Int × Int × Int × Int × List Int → Option Bool := fun ((m, s) : Int × Int × Int × Int × List Int) => if sz_Site s ≤ 1048576 then some (siteOk m s) else none
def F_spec_ChainOk : Int × List (Int × Int × Int × List Int) → Option Bool := fun x => if sz_Chain x ≤ 1048576 then some (chainOk x) else none
def F_impl_ChainOk : Int × List (Int × Int × Int × List Int) → Option Bool := fun x => if sz_Chain x ≤ 1048576 then some (chainOk x) else none


def ag_spec_l32Dims : Sig := [(.agg, [.int .i64, .list [.int .i64, .int .i64, .int .i64, .list [.int .i64]]])]
def rs_spec_l32Dims : Sig := [(.one, [.list [.int .i64]])]
def mu_spec_l32Dims : MSig := []
def ag_spec_ChainOk : Sig := [(.agg, [.int .i64, .list [.int .i64, .int .i64, .int .i64, .list [.int .i64]]])]
def rs_spec_ChainOk : Sig := [(.one, [.bool])]
def mu_spec_ChainOk : MSig := []
def ag_impl_siteOk : Sig := [(.one, [.int .i64]), (.agg, [.int .i64, .int .i64, .int .i64, .list [.int .i64]])]
def rs_impl_siteOk : Sig := [(.one, [.bool])]
def mu_impl_siteOk : MSig := []
def ag_impl_ChainOk : Sig := [(.agg, [.int .i64, .list [.int .i64, .int .i64, .int .i64, .list [.int .i64]]])]
def rs_impl_ChainOk : Sig := [(.one, [.bool])]
def mu_impl_ChainOk : MSig := []

def G_spec_l32Dims (NN : Nat) : (Int × (List (Int × (Int × (Int × (List Int)))))) → (Option (List Int)) :=
 (fun ((i0, l1) : (Int × (List (Int × (Int × (Int × (List Int))))))) =>
 joinK ((fulI 0 0 (lenN (([] : List Int)))).bnd (fun _ =>
 loopT NN (fun (((l2, i3, i4), l5) : (((List (Int × (Int × (Int × (List Int))))) × (Int × Int)) × (List Int))) =>
 cnd (ltI i4 i3)
 ((getI l2 i4).bnd (fun (i6, i7, i8, l9) =>
 (fulI 0 (lenN l5) (lenN l5)).bnd (fun _ =>
 (winI ((i7 :: ([] : List Int))) 0 1).bnd (fun l10 =>
 (fitI (addN (lenN l5) (lenN l10)) 8).bnd (fun _ =>
 (fulI 0 (addN (lenN l5) (lenN l10)) (lenN (appL l5 l10))).bnd (fun _ =>
 some (Sum.inl ((l2, i3, addI .i64 i4 1), appL l5 l10))))))))
 (((fulI 0 (lenN l5) (lenN l5)).bnd (fun _ =>
 some (Sum.inl l5))).bnd (fun l11 =>
 some (Sum.inr l11))))
 ((l1, natI (lenN l1), (0 : Int)), ([] : List Int))))
 (fun l12 =>
 (takI l12 (lenN l12)).bnd (fun l13 =>
 some l13)))


def G_spec_ChainOk (NN : Nat) : (Int × (List (Int × (Int × (Int × (List Int)))))) → (Option Bool) :=
 (fun ((i0, l1) : (Int × (List (Int × (Int × (Int × (List Int))))))) =>
 (F_spec_IsPrime i0).bnd (fun b2 =>
 cnd (notB b2)
 (some false)
 ((F_spec_l01In (natI (lenN l1), (1 : Int), (8 : Int))).bnd (fun b3 =>
 cnd (notB b3)
 (some false)
 (joinK (loopT NN (fun (((i4, l5, i6, i7), i8, l9) : ((Int × ((List (Int × (Int × (Int × (List Int))))) × (Int × Int))) × (Int × (List (Int × (Int × (Int × (List Int)))))))) =>
 cnd (ltI i7 i6)
 (joinK ((getI l5 i7).bnd (fun (i10, i11, i12, l13) =>
 cnd (neI i10 i4)
 (some (Sum.inr (Sum.inr (Sum.inr false))))
 ((F_spec_l01In (i11, (1 : Int), (8 : Int))).bnd (fun b14 =>
 cnd (notB b14)
 (some (Sum.inr (Sum.inr (Sum.inr false))))
 ((F_spec_l01In (i12, (0 : Int), (32 : Int))).bnd (fun b15 =>
 cnd (notB b15)
 (some (Sum.inr (Sum.inr (Sum.inr false))))
 (cnd (neI (natI (lenN l13)) (mulI .i64 (mulI .i64 i10 i11) i12))
 (some (Sum.inr (Sum.inr (Sum.inr false))))
 (joinK (loopT NN (fun (((l16, i17, i18, l19, i20, i21), (i22, l23), i24, i25, i26, l27) : (((List (Int × (Int × (Int × (List Int))))) × (Int × (Int × ((List Int) × (Int × Int))))) × ((Int × (List (Int × (Int × (Int × (List Int)))))) × (Int × (Int × (Int × (List Int))))))) =>
 cnd (ltI i21 i20)
 ((getI l19 i21).bnd (fun i28 =>
 (F_spec_l01In (i28, (0 : Int), subI .i64 i22 1)).bnd (fun b29 =>
 cnd (notB b29)
 (some (Sum.inr (Sum.inr (Sum.inr (Sum.inr (Sum.inr false))))))
 (some (Sum.inl ((l16, i17, i18, l19, i20, addI .i64 i21 1), (i22, l23), i24, i25, i26, l27))))))
 (some (Sum.inr (Sum.inl ((i18, l16, i17), (i22, l23), i24, i25, i26, l27)))))
 ((l5, i6, i7, l13, natI (lenN l13), (0 : Int)), (i8, l9), i10, i11, i12, l13))
 (fun ((i30, l31, i32), (i33, l34), i35, i36, i37, l38) =>
 some (Sum.inl ((i30, i37, l31, i32), i33, l34)))))))))))
 (fun ((i39, i40, l41, i42), i43, l44) =>
 some (Sum.inl ((i40, l41, i42, addI .i64 i39 1), i43, l44))))
 (some (Sum.inr (Sum.inl (i4, i8, l9)))))
 (((1 : Int), l1, natI (lenN l1), (0 : Int)), i0, l1))
 (fun (i45, i46, l47) =>
 cnd (eqI i45 (1 : Int))
 ((F_spec_l32Dims (i46, l47)).bnd (fun l48 =>
 (winI l48 0 (lenN l48)).bnd (fun l49 =>
 (F_spec_l05Product (l49, (4096 : Int))).bnd (fun i50 =>
 some (leI i50 (4096 : Int))))))
 (some false)))))))


def G_impl_siteOk (NN : Nat) : (Int × (Int × (Int × (Int × (List Int))))) → (Option Bool) :=
 (fun ((i0, i1, i2, i3, l4) : (Int × (Int × (Int × (Int × (List Int)))))) =>
 cnd (ltI i1 (0 : Int))
 (some false)
 (cnd (ltI (32 : Int) i1)
 (some false)
 (cnd (ltI i3 (0 : Int))
 (some false)
 (cnd (ltI (32 : Int) i3)
 (some false)
 (cnd (ltI i2 (1 : Int))
 (some false)
 (cnd (ltI (8 : Int) i2)
 (some false)
 (cnd (eqI (natI (lenN l4)) (mulI .i64 (mulI .i64 i1 i2) i3))
 ((F_impl_inMod (i0, l4)).bnd (fun b5 =>
 some b5))
 (some false))))))))


def G_impl_ChainOk (NN : Nat) : (Int × (List (Int × (Int × (Int × (List Int)))))) → (Option Bool) :=
 (fun ((i0, l1) : (Int × (List (Int × (Int × (Int × (List Int))))))) =>
 (F_impl_IsPrime i0).bnd (fun b2 =>
 cnd (notB b2)
 (some false)
 (cnd (ltI (natI (lenN l1)) (1 : Int))
 (some false)
 (cnd (ltI (8 : Int) (natI (lenN l1)))
 (some false)
 (joinK (loopT NN (fun (((i3, i4, l5, i6, i7), i8, l9) : ((Int × (Int × ((List (Int × (Int × (Int × (List Int))))) × (Int × Int)))) × (Int × (List (Int × (Int × (Int × (List Int)))))))) =>
 cnd (ltI i7 i6)
 ((getI l5 i7).bnd (fun (i10, i11, i12, l13) =>
 (F_impl_siteOk (i8, i10, i11, i12, l13)).bnd (fun b14 =>
 cnd (notB b14)
 (some (Sum.inr (Sum.inr false)))
 (cnd (neI i10 i3)
 (some (Sum.inr (Sum.inr false)))
 (some (Sum.inl ((i12, mulI .i64 i4 i11, l5, i6, addI .i64 i7 1), i8, l9)))))))
 (some (Sum.inr (Sum.inl (i3, i4)))))
 (((1 : Int), (1 : Int), l1, natI (lenN l1), (0 : Int)), i0, l1))
 (fun (i15, i16) =>
 cnd (eqI i15 (1 : Int))
 (some (leI i16 (4096 : Int)))
 (some false)))))))



theorem f_spec_l32Dims (x : Int × List (Int × Int × Int × List Int)) (y : List Int) (h : F_spec_l32Dims x = some y) : G_spec_l32Dims FUEL x = some y := by
  obtain ⟨m, l⟩ := x
  simp only [F_spec_l32Dims] at h
  split at h
  · rename_i hl
    rw [← h]
    simp only [G_spec_l32Dims]
    rw [show fulI 0 0 (lenN ([] : List Int)) = some () from rfl, bnd_s]
    rw [loopT_seq (fun i => ((l, natI (lenN l), (i : Int)), dimsOf (l.take i))) (r := Sum.inl (dimsOf l)) l.length ?_ ?_ ?_ (FUEL_gt (by omega))]
    · rw [joinK_l, takI_id]; rfl
    all_goals try simp only
    · intro j hj
      obtain ⟨⟨a, p, c, d⟩, hs⟩ : ∃ e, l[j]? = some e := ⟨_, List.getElem?_eq_getElem hj⟩
      have e1 : lenN (dimsOf (l.take j)) = j := by simp [lenN, dimsOf]; omega
      have e2 : appL (dimsOf (l.take j)) [p] = dimsOf (l.take (j + 1)) := by simp [appL, dimsOf, List.take_add_one, hs]
      have e3 : fitI (addN j 1) 8 = some () := fitI_ok (by simp only [addN, maxBytes]; omega)
      rw [cnd_t (ltI_in hs), getI_nat, hs, bnd_s]
      simp only [e1, fulI_id, bnd_s, win1, lenN_appL, show lenN [p] = 1 from rfl, e3, next_i hs (by omega), e2]
    · rw [cnd_f (ltI_end l), List.take_length]
      simp only [fulI_id, bnd_s]
    · rfl
  · cases h

theorem f_impl_siteOk (x : Int × Int × Int × Int × List Int) (y : Bool) (h : F_impl_siteOk x = some y) : G_impl_siteOk FUEL x = some y := by
  obtain ⟨m, a, p, c, l⟩ := x
  simp only [F_impl_siteOk] at h
  split at h
  · rename_i hl
    rw [← h]
    have hl : l.length ≤ 1048576 := hl
    simp only [G_impl_siteOk, siteOk]
    by_cases h1 : a < 0
    · rw [cnd_t (ltI_t h1), decide_eq_false (p := 0 ≤ a ∧ a ≤ 32) (by omega)]; rfl
    rw [cnd_f (ltI_f (by omega))]
    by_cases h2 : 32 < a
    · rw [cnd_t (ltI_t h2), decide_eq_false (p := 0 ≤ a ∧ a ≤ 32) (by omega)]; rfl
    rw [cnd_f (ltI_f (by omega)), decide_eq_true (p := 0 ≤ a ∧ a ≤ 32) (by omega), Bool.true_and]
    by_cases h3 : c < 0
    · rw [cnd_t (ltI_t h3), decide_eq_false (p := 0 ≤ c ∧ c ≤ 32) (by omega)]; rfl
    rw [cnd_f (ltI_f (by omega))]
    by_cases h4 : 32 < c
    · rw [cnd_t (ltI_t h4), decide_eq_false (p := 0 ≤ c ∧ c ≤ 32) (by omega)]; rfl
    rw [cnd_f (ltI_f (by omega)), decide_eq_true (p := 0 ≤ c ∧ c ≤ 32) (by omega), Bool.true_and]
    by_cases h5 : p < 1
    · rw [cnd_t (ltI_t h5), decide_eq_false (p := 1 ≤ p ∧ p ≤ 8) (by omega)]; rfl
    rw [cnd_f (ltI_f (by omega))]
    by_cases h6 : 8 < p
    · rw [cnd_t (ltI_t h6), decide_eq_false (p := 1 ≤ p ∧ p ≤ 8) (by omega)]; rfl
    rw [cnd_f (ltI_f (by omega)), decide_eq_true (p := 1 ≤ p ∧ p ≤ 8) (by omega), Bool.true_and]
    obtain ⟨b1, b2⟩ := mul_bd (a := a) (x := p) (A := 32) (B := 8) (by omega) (by omega) (by omega) (by omega)
    obtain ⟨b3, b4⟩ := mul_bd (a := a * p) (x := c) (A := 32 * 8) (B := 32) (by omega) (by omega) (by omega) (by omega)
    rw [mulI_eq (a := a) (by omega) (by omega), mulI_eq (by omega) (by omega), show F_impl_inMod (m, l) = some (rowOk m l) from if_pos hl]
    by_cases h5 : (l.length : Int) = a * p * c
    · rw [cnd_t (show eqI (natI (lenN l)) _ = true from eqI_t h5), decide_eq_true h5]; rfl
    · rw [cnd_f (show eqI (natI (lenN l)) _ = false from eqI_f h5), decide_eq_false h5]; rfl
  · cases h

theorem siteOk_t {m a p c : Int} {l : List Int} (h : siteOk m (a, p, c, l) = true) : (0 ≤ a ∧ a ≤ 32) ∧ (0 ≤ c ∧ c ≤ 32) ∧ (1 ≤ p ∧ p ≤ 8) ∧ (l.length : Int) = a * p * c ∧ rowOk m l = true := by
  simp only [siteOk, Bool.and_eq_true, decide_eq_true_eq] at h
  exact ⟨h.1, h.2.1, h.2.2.1, h.2.2.2.1, h.2.2.2.2⟩

theorem chStep_dims {m : Int} : ∀ {l : List (Int × Int × Int × List Int)} {i : Nat} {b c : Int}, foldO (chStep m) i b l = some c → ∀ x ∈ dimsOf l, 1 ≤ x ∧ x ≤ 8
  | [], _, _, _, _, x, hx => by cases hx
  | (a, p, r, d) :: l, i, b, c, h, x, hx => by
    rw [foldO] at h
    cases hs : chStep m i b (a, p, r, d) with
    | none => rw [hs] at h; cases h
    | some b' =>
      rw [hs] at h
      simp only [chStep] at hs
      split at hs
      · rename_i hc
        have hp := (siteOk_t hc.1).2.2.1
        rcases List.mem_cons.1 hx with rfl | hx
        · exact hp
        · exact chStep_dims h x hx
      · cases hs

theorem chStep2_eq {m : Int} : ∀ (l : List (Int × Int × Int × List Int)) (i : Nat) (b z : Int), foldO (chStep2 m) i (b, z) l = (foldO (chStep m) i b l).map fun c => (c, z * prodI (dimsOf l))
  | [], i, b, z => by simp [foldO, dimsOf, prodI]
  | s :: l, i, b, z => by
    rw [foldO, foldO]
    simp only [chStep2, chStep]
    by_cases hc : siteOk m s = true ∧ s.1 = b
    · rw [if_pos hc, if_pos hc]
      simp only
      rw [chStep2_eq l (i + 1)]
      simp only [dimsOf, List.map_cons, prodI, Int.mul_assoc]
    · rw [if_neg hc, if_neg hc]
      rfl

theorem sz_Chain_le {m : Int} {l : List (Int × Int × Int × List Int)} (h : sz_Chain (m, l) ≤ 1048576) : l.length ≤ 1048576 ∧ ∀ e ∈ l, sz_Site e ≤ 1048576 := sz_SiteS_mem h

theorem pow8 {i : Nat} (h : i ≤ 8) : (8 : Int) ^ i ≤ 16777216 := by
  have h1 : (8 : Nat) ^ i ≤ 16777216 := Nat.le_trans (Nat.pow_le_pow_right (by decide) h) (by decide)
  have h2 : ((8 ^ i : Nat) : Int) = (8 : Int) ^ i := by norm_cast
  rw [← h2]
  omega

theorem f_impl_ChainOk (x : Int × List (Int × Int × Int × List Int)) (y : Bool) (h : F_impl_ChainOk x = some y) : G_impl_ChainOk FUEL x = some y := by
  obtain ⟨m, l⟩ := x
  simp only [F_impl_ChainOk] at h
  split at h
  · rename_i hl
    rw [← h]
    obtain ⟨hlen, hmm⟩ := sz_Chain_le hl
    simp only [G_impl_ChainOk, F_impl_IsPrime, bnd_s, chainOk]
    cases hp : isPrimeI m with
    | false => rfl
    | true =>
      have hm := isPrimeI_t hp
      rw [cnd_f (by rfl), Bool.true_and]
      by_cases h2 : l.length < 1
      · rw [cnd_t (ltI_t (by have := nl l; omega)), decide_eq_false (by omega)]; rfl
      rw [cnd_f (ltI_f (by have := nl l; omega))]
      by_cases h3 : 8 < l.length
      · rw [cnd_t (ltI_t (by have := nl l; omega)), decide_eq_false (by omega)]; rfl
      rw [cnd_f (ltI_f (by have := nl l; omega)), decide_eq_true (by omega), Bool.true_and]
      rw [loopT_foldO l (fun (st : Int × Int) i => ((st.1, st.2, l, natI (lenN l), (i : Int)), m, l)) (fun i st => 0 ≤ st.2 ∧ st.2 ≤ (8 : Int) ^ i) (chStep2 m) (Sum.inr false) (fun st => Sum.inl st) ?_ ?_ ?_ (s := (1, 1)) ⟨by decide, by decide⟩ ?_ (FUEL_gt (by omega))]
      · rw [chStep2_eq]
        cases hf : foldO (chStep m) 0 1 l with
        | none => rfl
        | some c =>
          simp only [Option.map_some, Int.one_mul]
          rw [joinK_l]
          simp only
          by_cases hc : c = 1
          · rw [cnd_t (eqI_t hc), decide_eq_true hc, Bool.true_and]; rfl
          · rw [cnd_f (eqI_f hc), decide_eq_false hc, Bool.false_and]
      all_goals try simp only
      · rintro i ⟨b, z⟩ ⟨a, p, c, d⟩ st' hi hz hs
        simp only [chStep2] at hs
        split at hs
        · rename_i hc
          injection hs with hs
          subst hs
          obtain ⟨t1, t2, t3, t4, t5⟩ := siteOk_t hc.1
          have hab : a = b := hc.2
          have hi8 : i ≤ 8 := by have := lt_of_get hi; omega
          have h8 := pow8 hi8
          obtain ⟨b1, b2⟩ := mul_bd hz.1 hz.2 (show 0 ≤ p by omega) t3.2
          simp only at b1 b2
          refine ⟨?_, b1, ?_⟩
          · rw [cnd_t (ltI_in hi), getI_nat, hi, bnd_s]
            simp only
            rw [show F_impl_siteOk (m, a, p, c, d) = some (siteOk m (a, p, c, d)) from if_pos (hmm _ (List.mem_of_getElem? hi)), bnd_s, hc.1, cnd_f (by rfl), cnd_f (neI_f hab), mulI_eq (by omega) (by omega), next_i hi (by omega)]
          · rw [Int.pow_succ]; exact b2
        · cases hs
      · rintro i ⟨b, z⟩ ⟨a, p, c, d⟩ hi hz hs
        simp only [chStep2] at hs
        split at hs
        · cases hs
        · rename_i hc
          rw [cnd_t (ltI_in hi), getI_nat, hi, bnd_s]
          simp only
          rw [show F_impl_siteOk (m, a, p, c, d) = some (siteOk m (a, p, c, d)) from if_pos (hmm _ (List.mem_of_getElem? hi)), bnd_s]
          cases h1 : siteOk m (a, p, c, d) with
          | false => rw [cnd_t (by rfl)]
          | true =>
            rw [cnd_f (by rfl), cnd_t (neI_t (fun e => hc ⟨h1, e⟩))]
      · rintro ⟨b, z⟩ _
        simp only
        rw [cnd_f (ltI_end l)]
      · rfl
  · cases h

theorem loopT_foldO' {X Y α S : Type} {f : X → Option (X ⊕ Y)} (es : List α) (mk : S → Nat → X) (I : Nat → S → Prop) (step : Nat → S → α → Option S) (bad : Y) (good : S → Y)
    (h1 : ∀ i s a, es[i]? = some a → I i s → f (mk s i) = some (match step i s a with | some s' => .inl (mk s' (i + 1)) | none => .inr bad))
    (hI : ∀ i s a s', es[i]? = some a → I i s → step i s a = some s' → I (i + 1) s')
    (h3 : ∀ s, I es.length s → f (mk s es.length) = some (.inr (good s))) {s : S} (h0 : I 0 s) {x0 : X} (hx : x0 = mk s 0) {N : Nat} (hN : es.length < N) :
    loopT N f x0 = some (match foldO step 0 s es with | some s' => good s' | none => bad) :=
  loopT_foldO es mk I step bad good (fun i s a s' ha hi hs => ⟨by rw [h1 i s a ha hi, hs], hI i s a s' ha hi hs⟩) (fun i s a ha hi hs => by rw [h1 i s a ha hi, hs]) h3 h0 hx hN

theorem chStep_t {m b a p c : Int} {l : List Int} {i : Nat} (h : siteOk m (a, p, c, l) = true) (e : a = b) : chStep m i b (a, p, c, l) = some c := if_pos ⟨h, e⟩
theorem chStep_f {m b a p c : Int} {l : List Int} {i : Nat} (h : ¬ (siteOk m (a, p, c, l) = true ∧ a = b)) : chStep m i b (a, p, c, l) = none := if_neg h

theorem f_spec_ChainOk (x : Int × List (Int × Int × Int × List Int)) (y : Bool) (h : F_spec_ChainOk x = some y) : G_spec_ChainOk FUEL x = some y := by
  obtain ⟨m, l⟩ := x
  simp only [F_spec_ChainOk] at h
  split at h
  · rename_i hl
    rw [← h]
    obtain ⟨hlen, hmm⟩ := sz_Chain_le hl
    simp only [G_spec_ChainOk, F_spec_IsPrime, F_spec_l01In, bnd_s, chainOk]
    cases hp : isPrimeI m with
    | false => rfl
    | true =>
      have hm := isPrimeI_t hp
      rw [cnd_f (by rfl), Bool.true_and]
      by_cases h2 : 1 ≤ l.length ∧ l.length ≤ 8
      rotate_left
      · rw [cnd_t (notB_d (by have := nl l; omega)), decide_eq_false h2]; rfl
      rw [cnd_f (notB_p (by have := nl l; omega)), decide_eq_true h2, Bool.true_and]
      rw [loopT_foldO' l (fun (b : Int) i => ((b, l, natI (lenN l), (i : Int)), m, l)) (fun i b => 0 ≤ b ∧ b ≤ 32) (chStep m) (Sum.inr false) (fun b => Sum.inl (b, m, l)) ?_ ?_ ?_ (s := 1) ⟨by decide, by decide⟩ ?_ (FUEL_gt (by omega))]
      · cases hf : foldO (chStep m) 0 1 l with
        | none => rfl
        | some c =>
          have hd := chStep_dims hf
          rw [joinK_l]
          simp only
          by_cases hc : c = 1
          · rw [cnd_t (eqI_t hc), decide_eq_true hc, Bool.true_and]
            rw [show F_spec_l32Dims (m, l) = some (dimsOf l) from if_pos hlen, bnd_s, winI_id, bnd_s]
            have hsm : (dimsOf l).all smallB = true := List.all_eq_true.2 fun x hx => decide_eq_true ⟨by have := hd x hx; omega, by have := hd x hx; omega⟩
            rw [show F_spec_l05Product (dimsOf l, 4096) = some (capProd 4096 (dimsOf l)) from if_pos ⟨by decide, by simp [dimsOf]; omega, hsm⟩, bnd_s, capProd_le (by decide) fun x hx => (hd x hx).1]
          · rw [cnd_f (eqI_f hc), decide_eq_false hc]; rfl
      all_goals try simp only
      · rintro i b ⟨a, p, c, d⟩ hi hb
        have hdl : d.length ≤ 1048576 := hmm _ (List.mem_of_getElem? hi)
        rw [cnd_t (ltI_in hi), getI_nat, hi, bnd_s]
        simp only
        by_cases q1 : a = b
        rotate_left
        · rw [cnd_t (neI_t q1), chStep_f (fun h => q1 h.2)]; rfl
        rw [cnd_f (neI_f q1)]
        by_cases q2 : 1 ≤ p ∧ p ≤ 8
        rotate_left
        · rw [cnd_t (notB_d q2), chStep_f (fun h => q2 (siteOk_t h.1).2.2.1)]; rfl
        rw [cnd_f (notB_p q2)]
        by_cases q3 : 0 ≤ c ∧ c ≤ 32
        rotate_left
        · rw [cnd_t (notB_d q3), chStep_f (fun h => q3 (siteOk_t h.1).2.1)]; rfl
        rw [cnd_f (notB_p q3)]
        obtain ⟨b1, b2⟩ := mul_bd (a := a) (x := p) (A := 32) (B := 8) (by omega) (by omega) (by omega) (by omega)
        obtain ⟨b3, b4⟩ := mul_bd (a := a * p) (x := c) (A := 32 * 8) (B := 32) (by omega) (by omega) (by omega) (by omega)
        rw [mulI_eq (a := a) (by omega) (by omega), mulI_eq (by omega) (by omega)]
        by_cases q4 : (d.length : Int) = a * p * c
        rotate_left
        · rw [cnd_t (show neI (natI (lenN d)) _ = true from neI_t q4), chStep_f (fun h => q4 (siteOk_t h.1).2.2.2.1)]; rfl
        rw [cnd_f (show neI (natI (lenN d)) _ = false from neI_f q4)]
        rw [loopT_all (mk := fun (j : Nat) => ((l, natI (lenN l), (i : Int), d, natI (lenN d), (j : Int)), (m, l), a, p, c, d)) d (inB m) (Sum.inr (Sum.inr (Sum.inr (Sum.inr false)))) (Sum.inl (((i : Int), l, natI (lenN l)), (m, l), a, p, c, d)) ?_ ?_ ?_ ?_ (FUEL_gt (by omega))]
        · cases hr : d.all (inB m) with
          | false => rw [chStep_f (fun h => by have := (siteOk_t h.1).2.2.2.2; rw [rowOk, hr] at this; cases this)]; rfl
          | true =>
            rw [chStep_t (by simp only [siteOk, rowOk, hr, Bool.and_true, Bool.and_eq_true, decide_eq_true_eq]; exact ⟨by omega, q3, q2, q4⟩) q1]
            simp only [if_true, joinK_l]
            rw [next_i hi (by omega)]
        all_goals try simp only
        · intro j x hx hp
          have hp := of_decide_eq_true hp
          rw [cnd_t (ltI_in hx), getI_nat, hx, bnd_s, subI_eq (by omega) (by omega), cnd_f (notB_p (by omega)), next_i hx (by omega)]
        · intro j x hx hp
          have hp := of_decide_eq_false hp
          rw [cnd_t (ltI_in hx), getI_nat, hx, bnd_s, subI_eq (by omega) (by omega), cnd_t (notB_d (by omega))]
        · rw [cnd_f (ltI_end d)]
        · rfl
      · rintro i b ⟨a, p, c, d⟩ s' hi hb hs
        simp only [chStep] at hs
        split at hs
        · rename_i hc
          injection hs with hs
          subst hs
          exact (siteOk_t hc.1).2.1
        · cases hs
      · intro b _
        rw [cnd_f (ltI_end l)]
      · rfl
  · cases h

end Go.Am
end
section
namespace Go.Am
def newOk (x : Int × Int) : Prop := (0 ≤ x.1 ∧ x.1 ≤ 4096) ∧ (0 ≤ x.2 ∧ x.2 ≤ 4096) ∧ x.1 * x.2 ≤ 1048576
instance (x : Int × Int) : Decidable (newOk x) := by unfold newOk; infer_instance
def F_spec_l31New : Int × Int → Option (Int × Int × List Int) := fun (x : Int × Int) => if newOk x then some (x.1, x.2, genD x.1.toNat x.2.toNat fun _ _ => 0) else none
def F_impl_emptyMatrix : Int × Int → Option (Int × Int × List Int) := fun (x : Int × Int) => if newOk x then some (x.1, x.2, genD x.1.toNat x.2.toNat fun _ _ => 0) else none
def F_impl_Matrix_at : (Int × Int × List Int) × Int × Int → Option Int := fun (x : (Int × Int × List Int) × Int × Int) =>
  if mOk x.1 ∧ (0 ≤ x.2.1 ∧ x.2.1 < x.1.1) ∧ (0 ≤ x.2.2 ∧ x.2.2 < x.1.2.1) then some (ofD x.1.2.1.toNat x.1.2.2 x.2.1.toNat x.2.2.toNat) else none
def F_impl_Matrix_set : (Int × Int × List Int) × Int × Int × Int → Option (List Int) := fun (x : (Int × Int × List Int) × Int × Int × Int) =>
  if mOk x.1 ∧ (0 ≤ x.2.1 ∧ x.2.1 < x.1.1) ∧ (0 ≤ x.2.2.1 ∧ x.2.2.1 < x.1.2.1) then some (genD x.1.1.toNat x.1.2.1.toNat (updM (ofD x.1.2.1.toNat x.1.2.2) x.2.1.toNat x.2.2.1.toNat x.2.2.2)) else none
def swapF (M : Nat → Nat → Int) (a b : Nat) : Nat → Nat → Int := fun i j => if i = a then M b j else if i = b then M a j else M i j
def F_spec_l31Swap : (Int × Int × List Int) × Int × Int → Option (List Int) := fun (x : (Int × Int × List Int) × Int × Int) =>
  if mOk x.1 ∧ (0 ≤ x.2.1 ∧ x.2.1 < x.1.1) ∧ (0 ≤ x.2.2 ∧ x.2.2 < x.1.1) then some (genD x.1.1.toNat x.1.2.1.toNat (swapF (ofD x.1.2.1.toNat x.1.2.2) x.2.1.toNat x.2.2.toNat)) else none
def F_impl_Matrix_swapRows : (Int × Int × List Int) × Int × Int → Option (List Int) := F_spec_l31Swap
def clearF (p : Int) (M : Nat → Nat → Int) (i k : Nat) (f : Int) : Nat → Nat → Int := fun a j => if a = i then (M i j + f * M k j) % p else M a j
def F_impl_Matrix_addRow : (Int × Int × List Int) × Int × Int × Int × Int → Option (List Int) := fun (x : (Int × Int × List Int) × Int × Int × Int × Int) =>
  if mOk x.1 ∧ pOk x.2.1 ∧ (0 ≤ x.2.2.1 ∧ x.2.2.1 < x.1.1) ∧ (0 ≤ x.2.2.2.1 ∧ x.2.2.2.1 < x.1.1) ∧ (0 ≤ x.2.2.2.2 ∧ x.2.2.2.2 ≤ x.2.1) ∧ allP x.2.1 x.1.2.2 then
    some (genD x.1.1.toNat x.1.2.1.toNat (clearF x.2.1 (ofD x.1.2.1.toNat x.1.2.2) x.2.2.1.toNat x.2.2.2.1.toNat x.2.2.2.2)) else none
def F_spec_l31Clear : Int × (Int × Int × List Int) × Int × Int × Int → Option (List Int) := fun (x : Int × (Int × Int × List Int) × Int × Int × Int) =>
  if mOk x.2.1 ∧ pOk x.1 ∧ (0 ≤ x.2.2.1 ∧ x.2.2.1 < x.2.1.1) ∧ (0 ≤ x.2.2.2.1 ∧ x.2.2.2.1 < x.2.1.1) ∧ (0 ≤ x.2.2.2.2 ∧ x.2.2.2.2 ≤ x.1) ∧ allP x.1 x.2.1.2.2 then
    some (genD x.2.1.1.toNat x.2.1.2.1.toNat (clearF x.1 (ofD x.2.1.2.1.toNat x.2.1.2.2) x.2.2.1.toNat x.2.2.2.1.toNat (x.1 - x.2.2.2.2))) else none
def pivF (M : Nat → Nat → Int) (j : Nat) : Nat → Nat → Option Nat
  | 0, _ => none
  | d + 1, k => if M k j = 0 then pivF M j d (k + 1) else some k
def pivI (o : Option Nat) : Int := match o with | some k => (k : Int) | none => -1
def F_spec_l31Pivot : (Int × Int × List Int) × Int × Int → Option Int := fun (x : (Int × Int × List Int) × Int × Int) =>
  if mOk x.1 ∧ (0 ≤ x.2.1 ∧ x.2.1 ≤ x.1.1) ∧ (0 ≤ x.2.2 ∧ x.2.2 < x.1.2.1) then some (pivI (pivF (ofD x.1.2.1.toNat x.1.2.2) x.2.2.toNat (x.1.1 - x.2.1).toNat x.2.1.toNat)) else none
def invG (p out x : Int) (n : Nat) : Int := if h : n = 0 then out else invG p (if n % 2 = 1 then out * x % p else out) (x * x % p) (n / 2)
termination_by n
decreasing_by omega
def F_spec_l31Inverse : Int × Int → Option Int := fun (x : Int × Int) => if pOk x.1 ∧ inP x.1 x.2 then some (invG x.1 1 x.2 (x.1 - 2).toNat) else none
def F_impl_rawInverse : Int × Int → Option Int := F_spec_l31Inverse
def F_spec_l05Ints : List Int → Option (List Int) := fun (l : List Int) => if l.length ≤ 1099511627776 then some l else none
def F_impl_copyInts : List Int → Option (List Int) := fun (l : List Int) => if l.length ≤ 1099511627776 then some l else none
def F_impl_copyMatrix : Int × Int × List Int → Option (Int × Int × List Int) := fun (x : Int × Int × List Int) => if x.2.2.length ≤ 1099511627776 then some x else none
def mulOk (x : Int × (Int × Int × List Int) × (Int × Int × List Int)) : Prop := pOk x.1 ∧ mOk x.2.1 ∧ mOk x.2.2 ∧ x.2.1.2.1 = x.2.2.1 ∧ x.2.1.1 * x.2.2.2.1 ≤ 1048576 ∧ allP x.1 x.2.1.2.2 ∧ allP x.1 x.2.2.2.2
instance (x : Int × (Int × Int × List Int) × (Int × Int × List Int)) : Decidable (mulOk x) := by unfold mulOk; infer_instance
def F_spec_l31Mul : Int × (Int × Int × List Int) × (Int × Int × List Int) → Option (Int × Int × List Int) := fun (x : Int × (Int × Int × List Int) × (Int × Int × List Int)) =>
  if mulOk x then some (x.2.1.1, x.2.2.2.1, genD x.2.1.1.toNat x.2.2.2.1.toNat (mulF x.1 x.2.1.2.1.toNat (ofD x.2.1.2.1.toNat x.2.1.2.2) (ofD x.2.2.2.1.toNat x.2.2.2.2))) else none
def F_impl_rawMulMatrix : Int × (Int × Int × List Int) × (Int × Int × List Int) → Option (Int × Int × List Int) := F_spec_l31Mul
def ag_spec_l31New : Sig := [(.one, [.int .i64]), (.one, [.int .i64])]
def rs_spec_l31New : Sig := [(.agg, [.int .i64, .int .i64, .list [.int .i64]])]
def mu_spec_l31New : MSig := []
def ag_impl_emptyMatrix : Sig := [(.one, [.int .i64]), (.one, [.int .i64])]
def rs_impl_emptyMatrix : Sig := [(.agg, [.int .i64, .int .i64, .list [.int .i64]])]
def mu_impl_emptyMatrix : MSig := []
def ag_spec_l05Ints : Sig := [(.one, [.list [.int .i64]])]
def rs_spec_l05Ints : Sig := [(.one, [.list [.int .i64]])]
def mu_spec_l05Ints : MSig := []
def ag_impl_copyInts : Sig := [(.one, [.list [.int .i64]])]
def rs_impl_copyInts : Sig := [(.one, [.list [.int .i64]])]
def mu_impl_copyInts : MSig := []
def ag_impl_copyMatrix : Sig := [(.agg, [.int .i64, .int .i64, .list [.int .i64]])]
def rs_impl_copyMatrix : Sig := [(.agg, [.int .i64, .int .i64, .list [.int .i64]])]
def mu_impl_copyMatrix : MSig := []
def ag_impl_Matrix_at : Sig := [(.agg, [.int .i64, .int .i64, .list [.int .i64]]), (.one, [.int .i64]), (.one, [.int .i64])]
def rs_impl_Matrix_at : Sig := [(.one, [.int .i64])]
def mu_impl_Matrix_at : MSig := []
def ag_impl_Matrix_set : Sig := [(.agg, [.int .i64, .int .i64, .list [.int .i64]]), (.one, [.int .i64]), (.one, [.int .i64]), (.one, [.int .i64])]
def rs_impl_Matrix_set : Sig := [(.one, [.list [.int .i64]])]
def mu_impl_Matrix_set : MSig := [[none, none, some .froz]]
def ag_spec_l31Swap : Sig := [(.agg, [.int .i64, .int .i64, .list [.int .i64]]), (.one, [.int .i64]), (.one, [.int .i64])]
def rs_spec_l31Swap : Sig := [(.one, [.list [.int .i64]])]
def mu_spec_l31Swap : MSig := [[none, none, some .froz]]
def ag_impl_Matrix_swapRows : Sig := [(.agg, [.int .i64, .int .i64, .list [.int .i64]]), (.one, [.int .i64]), (.one, [.int .i64])]
def rs_impl_Matrix_swapRows : Sig := [(.one, [.list [.int .i64]])]
def mu_impl_Matrix_swapRows : MSig := [[none, none, some .froz]]
def ag_impl_Matrix_addRow : Sig := [(.agg, [.int .i64, .int .i64, .list [.int .i64]]), (.one, [.int .i64]), (.one, [.int .i64]), (.one, [.int .i64]), (.one, [.int .i64])]
def rs_impl_Matrix_addRow : Sig := [(.one, [.list [.int .i64]])]
def mu_impl_Matrix_addRow : MSig := [[none, none, some .froz]]
def ag_spec_l31Clear : Sig := [(.one, [.int .i64]), (.agg, [.int .i64, .int .i64, .list [.int .i64]]), (.one, [.int .i64]), (.one, [.int .i64]), (.one, [.int .i64])]
def rs_spec_l31Clear : Sig := [(.one, [.list [.int .i64]])]
def mu_spec_l31Clear : MSig := [[], [none, none, some .froz]]
def ag_spec_l31Pivot : Sig := [(.agg, [.int .i64, .int .i64, .list [.int .i64]]), (.one, [.int .i64]), (.one, [.int .i64])]
def rs_spec_l31Pivot : Sig := [(.one, [.int .i64])]
def mu_spec_l31Pivot : MSig := []
def ag_spec_l31Inverse : Sig := [(.one, [.int .i64]), (.one, [.int .i64])]
def rs_spec_l31Inverse : Sig := [(.one, [.int .i64])]
def mu_spec_l31Inverse : MSig := []
def ag_impl_rawInverse : Sig := [(.one, [.int .i64]), (.one, [.int .i64])]
def rs_impl_rawInverse : Sig := [(.one, [.int .i64])]
def mu_impl_rawInverse : MSig := []
def ag_spec_l31Mul : Sig := [(.one, [.int .i64]), (.agg, [.int .i64, .int .i64, .list [.int .i64]]), (.agg, [.int .i64, .int .i64, .list [.int .i64]])]
def rs_spec_l31Mul : Sig := [(.agg, [.int .i64, .int .i64, .list [.int .i64]])]
def mu_spec_l31Mul : MSig := []
def ag_impl_rawMulMatrix : Sig := [(.one, [.int .i64]), (.agg, [.int .i64, .int .i64, .list [.int .i64]]), (.agg, [.int .i64, .int .i64, .list [.int .i64]])]
def rs_impl_rawMulMatrix : Sig := [(.agg, [.int .i64, .int .i64, .list [.int .i64]])]
def mu_impl_rawMulMatrix : MSig := []

def G_spec_l31New (NN : Nat) : (Int × Int) → (Option (Int × (Int × (List Int)))) :=
 (fun ((i0, i1) : (Int × Int)) =>
 (mkI (mulI .i64 i0 i1) (mulI .i64 i0 i1) 8).bnd (fun k2 =>
 (takI (repL k2 (0 : Int)) k2).bnd (fun l3 =>
 some (i0, i1, l3))))

def G_impl_emptyMatrix (NN : Nat) : (Int × Int) → (Option (Int × (Int × (List Int)))) :=
 (fun ((i0, i1) : (Int × Int)) =>
 (mkI (mulI .i64 i0 i1) (mulI .i64 i0 i1) 8).bnd (fun k2 =>
 (takI (repL k2 (0 : Int)) k2).bnd (fun l3 =>
 some (i0, i1, l3))))

def G_spec_l05Ints (NN : Nat) : (List Int) → (Option (List Int)) :=
 (fun (l0 : (List Int)) =>
 (fulI 0 0 (lenN (([] : List Int)))).bnd (fun _ =>
 (fitI (addN (lenN (([] : List Int))) (lenN l0)) 8).bnd (fun _ =>
 (takI (appL (([] : List Int)) l0) (addN (lenN (([] : List Int))) (lenN l0))).bnd (fun l1 =>
 some l1))))

def G_impl_copyInts (NN : Nat) : (List Int) → (Option (List Int)) :=
 (fun (l0 : (List Int)) =>
 (fitI (addN (lenN (([] : List Int))) (lenN l0)) 8).bnd (fun _ =>
 (takI (appL (([] : List Int)) l0) (addN (lenN (([] : List Int))) (lenN l0))).bnd (fun l1 =>
 some l1)))

def G_impl_copyMatrix (NN : Nat) : (Int × (Int × (List Int))) → (Option (Int × (Int × (List Int)))) :=
 (fun ((i0, i1, l2) : (Int × (Int × (List Int)))) =>
 (F_impl_copyInts l2).bnd (fun l3 =>
 (takI l3 (lenN l3)).bnd (fun l4 =>
 some (i0, i1, l4))))

def G_impl_Matrix_at (NN : Nat) : ((Int × (Int × (List Int))) × (Int × Int)) → (Option Int) :=
 (fun (((i0, i1, l2), i3, i4) : ((Int × (Int × (List Int))) × (Int × Int))) =>
 (getI l2 (addI .i64 (mulI .i64 i3 i1) i4)).bnd (fun i5 =>
 some i5))

def G_impl_Matrix_set (NN : Nat) : ((Int × (Int × (List Int))) × (Int × (Int × Int))) → (Option (List Int)) :=
 (fun (((i0, i1, l2), i3, i4, i5) : ((Int × (Int × (List Int))) × (Int × (Int × Int)))) =>
 (chkI (addI .i64 (mulI .i64 i3 i1) i4) (lenN l2)).bnd (fun k6 =>
 (getN l2 (addN 0 k6)).bnd (fun i7 =>
 (samI (lenN (setL l2 (addN 0 k6) i5)) (lenN l2)).bnd (fun _ =>
 some (setL l2 (addN 0 k6) i5)))))

def G_spec_l31Swap (NN : Nat) : ((Int × (Int × (List Int))) × (Int × Int)) → (Option (List Int)) :=
 (fun (((i0, i1, l2), i3, i4) : ((Int × (Int × (List Int))) × (Int × Int))) =>
 (fulI 0 (lenN l2) (lenN l2)).bnd (fun _ =>
 loopT NN (fun (((i5, i6, i7), l8, i9, i10) : ((Int × (Int × Int)) × ((List Int) × (Int × Int)))) =>
 cnd (ltI i7 i10)
 ((chkI (addI .i64 (mulI .i64 i5 i10) i7) (lenN l8)).bnd (fun k11 =>
 (getN l8 (addN 0 k11)).bnd (fun i12 =>
 (chkI (addI .i64 (mulI .i64 i6 i10) i7) (lenN l8)).bnd (fun k13 =>
 (getN l8 (addN 0 k13)).bnd (fun i14 =>
 (chkI (addI .i64 (mulI .i64 i5 i10) i7) (lenN l8)).bnd (fun k15 =>
 (getN l8 (addN 0 k15)).bnd (fun i16 =>
 (chkI (addI .i64 (mulI .i64 i6 i10) i7) (lenN l8)).bnd (fun k17 =>
 (getN (setL l8 (addN 0 k15) i14) (addN 0 k17)).bnd (fun i18 =>
 (fulI 0 (lenN l8) (lenN (setL (setL l8 (addN 0 k15) i14) (addN 0 k17) i12))).bnd (fun _ =>
 some (Sum.inl ((i5, i6, addI .i64 i7 1), setL (setL l8 (addN 0 k15) i14) (addN 0 k17) i12, i9, i10))))))))))))
 (((samI (lenN l8) (lenN l2)).bnd (fun _ =>
 some l8)).bnd (fun l19 =>
 some (Sum.inr l19))))
 ((i3, i4, (0 : Int)), l2, i0, i1)))

def G_impl_Matrix_swapRows (NN : Nat) : ((Int × (Int × (List Int))) × (Int × Int)) → (Option (List Int)) :=
 (fun (((i0, i1, l2), i3, i4) : ((Int × (Int × (List Int))) × (Int × Int))) =>
 (fulI 0 (lenN l2) (lenN l2)).bnd (fun _ =>
 loopT NN (fun (((i5, i6, i7), l8, i9, i10) : ((Int × (Int × Int)) × ((List Int) × (Int × Int)))) =>
 cnd (ltI i7 i10)
 ((winI l8 0 (lenN l8)).bnd (fun l11 =>
 (F_impl_Matrix_at ((i9, i10, l11), i5, i7)).bnd (fun i12 =>
 (winI l8 0 (lenN l8)).bnd (fun l13 =>
 (F_impl_Matrix_at ((i9, i10, l13), i6, i7)).bnd (fun i14 =>
 (fulI 0 (lenN l8) (lenN l8)).bnd (fun _ =>
 (F_impl_Matrix_set ((i9, i10, l8), i5, i7, i14)).bnd (fun l15 =>
 (fulI 0 (lenN l8) (lenN l15)).bnd (fun _ =>
 (F_impl_Matrix_set ((i9, i10, l15), i6, i7, i12)).bnd (fun l16 =>
 (fulI 0 (lenN l8) (lenN l16)).bnd (fun _ =>
 some (Sum.inl ((i5, i6, addI .i64 i7 1), l16, i9, i10))))))))))))
 (((samI (lenN l8) (lenN l2)).bnd (fun _ =>
 some l8)).bnd (fun l17 =>
 some (Sum.inr l17))))
 ((i3, i4, (0 : Int)), l2, i0, i1)))

def G_impl_Matrix_addRow (NN : Nat) : ((Int × (Int × (List Int))) × (Int × (Int × (Int × Int)))) → (Option (List Int)) :=
 (fun (((i0, i1, l2), i3, i4, i5, i6) : ((Int × (Int × (List Int))) × (Int × (Int × (Int × Int))))) =>
 (fulI 0 (lenN l2) (lenN l2)).bnd (fun _ =>
 loopT NN (fun (((i7, i8, i9, i10, i11), l12, i13, i14) : ((Int × (Int × (Int × (Int × Int)))) × ((List Int) × (Int × Int)))) =>
 cnd (ltI i11 i14)
 ((winI l12 0 (lenN l12)).bnd (fun l15 =>
 (F_impl_Matrix_at ((i13, i14, l15), i8, i11)).bnd (fun i16 =>
 (winI l12 0 (lenN l12)).bnd (fun l17 =>
 (F_impl_Matrix_at ((i13, i14, l17), i9, i11)).bnd (fun i18 =>
 (remI (addI .i64 i16 (mulI .i64 i10 i18)) i7).bnd (fun i19 =>
 (fulI 0 (lenN l12) (lenN l12)).bnd (fun _ =>
 (F_impl_Matrix_set ((i13, i14, l12), i8, i11, i19)).bnd (fun l20 =>
 (fulI 0 (lenN l12) (lenN l20)).bnd (fun _ =>
 some (Sum.inl ((i7, i8, i9, i10, addI .i64 i11 1), l20, i13, i14)))))))))))
 (((samI (lenN l12) (lenN l2)).bnd (fun _ =>
 some l12)).bnd (fun l21 =>
 some (Sum.inr l21))))
 ((i3, i4, i5, i6, (0 : Int)), l2, i0, i1)))

def G_spec_l31Clear (NN : Nat) : (Int × ((Int × (Int × (List Int))) × (Int × (Int × Int)))) → (Option (List Int)) :=
 (fun ((i0, (i1, i2, l3), i4, i5, i6) : (Int × ((Int × (Int × (List Int))) × (Int × (Int × Int))))) =>
 (fulI 0 (lenN l3) (lenN l3)).bnd (fun _ =>
 loopT NN (fun (((i7, i8, i9, i10, i11), l12, i13, i14) : ((Int × (Int × (Int × (Int × Int)))) × ((List Int) × (Int × Int)))) =>
 cnd (ltI i11 i14)
 ((chkI (addI .i64 (mulI .i64 i8 i14) i11) (lenN l12)).bnd (fun k15 =>
 (getN l12 (addN 0 k15)).bnd (fun i16 =>
 (chkI (addI .i64 (mulI .i64 i9 i14) i11) (lenN l12)).bnd (fun k17 =>
 (getN l12 (addN 0 k17)).bnd (fun i18 =>
 (remI (addI .i64 i16 (mulI .i64 (subI .i64 i7 i10) i18)) i7).bnd (fun i19 =>
 (chkI (addI .i64 (mulI .i64 i8 i14) i11) (lenN l12)).bnd (fun k20 =>
 (getN l12 (addN 0 k20)).bnd (fun i21 =>
 (fulI 0 (lenN l12) (lenN (setL l12 (addN 0 k20) i19))).bnd (fun _ =>
 some (Sum.inl ((i7, i8, i9, i10, addI .i64 i11 1), setL l12 (addN 0 k20) i19, i13, i14)))))))))))
 (((samI (lenN l12) (lenN l3)).bnd (fun _ =>
 some l12)).bnd (fun l22 =>
 some (Sum.inr l22))))
 ((i0, i4, i5, i6, (0 : Int)), l3, i1, i2)))

def G_spec_l31Pivot (NN : Nat) : ((Int × (Int × (List Int))) × (Int × Int)) → (Option Int) :=
 (fun (((i0, i1, l2), i3, i4) : ((Int × (Int × (List Int))) × (Int × Int))) =>
 joinK (loopT NN (fun (((i5, i6), i7, i8, l9) : ((Int × Int) × (Int × (Int × (List Int))))) =>
 cnd (ltI i6 i7)
 ((getI l9 (addI .i64 (mulI .i64 i6 i8) i5)).bnd (fun i10 =>
 cnd (neI i10 (0 : Int))
 (some (Sum.inr (Sum.inr i6)))
 (some (Sum.inl ((i5, addI .i64 i6 1), i7, i8, l9)))))
 (some (Sum.inr (Sum.inl ()))))
 ((i4, i3), i0, i1, l2))
 (fun _ =>
 some ((-1 : Int))))

def G_spec_l31Inverse (NN : Nat) : (Int × Int) → (Option Int) :=
 (fun ((i0, i1) : (Int × Int)) =>
 joinK (loopT NN (fun ((i2, i3, i4, i5) : (Int × (Int × (Int × Int)))) =>
 cnd (ltI (0 : Int) i5)
 ((remI i5 (2 : Int)).bnd (fun i6 =>
 joinK (cnd (eqI i6 (1 : Int))
 ((remI (mulI .i64 i4 i3) i2).bnd (fun i7 =>
 some (Sum.inl (i3, i5, i2, i7))))
 (some (Sum.inl (i3, i5, i2, i4))))
 (fun (i8, i9, i10, i11) =>
 (remI (mulI .i64 i8 i8) i10).bnd (fun i12 =>
 (quoI .i64 i9 (2 : Int)).bnd (fun i13 =>
 some (Sum.inl (i10, i12, i11, i13)))))))
 (some (Sum.inr (Sum.inl i4))))
 (i0, i1, (1 : Int), subI .i64 i0 2))
 (fun i14 =>
 some i14))

def G_impl_rawInverse (NN : Nat) : (Int × Int) → (Option Int) :=
 (fun ((i0, i1) : (Int × Int)) =>
 joinK (loopT NN (fun ((i2, i3, i4, i5) : (Int × (Int × (Int × Int)))) =>
 cnd (ltI (0 : Int) i5)
 (joinK (cnd (eqI (andI .i64 i5 (1 : Int)) (1 : Int))
 ((remI (mulI .i64 i4 i3) i2).bnd (fun i6 =>
 some (Sum.inl (i3, i5, i2, i6))))
 (some (Sum.inl (i3, i5, i2, i4))))
 (fun (i7, i8, i9, i10) =>
 (remI (mulI .i64 i7 i7) i9).bnd (fun i11 =>
 (shrI .i64 i8 (1 : Int)).bnd (fun i12 =>
 some (Sum.inl (i9, i11, i10, i12))))))
 (some (Sum.inr (Sum.inl i4))))
 (i0, i1, (1 : Int), subI .i64 i0 2))
 (fun i13 =>
 some i13))

def G_spec_l31Mul (NN : Nat) : (Int × ((Int × (Int × (List Int))) × (Int × (Int × (List Int))))) → (Option (Int × (Int × (List Int)))) :=
 (fun ((i0, (i1, i2, l3), i4, i5, l6) : (Int × ((Int × (Int × (List Int))) × (Int × (Int × (List Int)))))) =>
 (F_spec_l31New (i1, i5)).bnd (fun (i7, i8, l9) =>
 joinK ((fulI 0 0 (lenN (([] : List Int)))).bnd (fun _ =>
 (fulI 0 (lenN l9) (lenN l9)).bnd (fun _ =>
 loopT NN (fun (((i10, i11), (i12, i13, l14), (i15, i16, l17), (i18, i19), (i20, i21), l22, l23) : ((Int × Int) × ((Int × (Int × (List Int))) × ((Int × (Int × (List Int))) × ((Int × Int) × ((Int × Int) × ((List Int) × (List Int)))))))) =>
 cnd (ltI i11 i12)
 (joinK ((fulI 0 (lenN l22) (lenN l22)).bnd (fun _ =>
 (fulI 0 (lenN l23) (lenN l23)).bnd (fun _ =>
 loopT NN (fun (((i24, i25, i26), (i27, i28, l29), (i30, i31, l32), (i33, i34), (i35, i36), l37, l38) : ((Int × (Int × Int)) × ((Int × (Int × (List Int))) × ((Int × (Int × (List Int))) × ((Int × Int) × ((Int × Int) × ((List Int) × (List Int)))))))) =>
 cnd (ltI i26 i31)
 (joinK (joinK ((fulI 0 (lenN l37) (lenN l37)).bnd (fun _ =>
 (fulI 0 (lenN l38) (lenN l38)).bnd (fun _ =>
 loopT NN (fun (((i39, i40, i41, i42, i43), (i44, i45, l46), (i47, i48, l49), (i50, i51), (i52, i53), l54, l55) : ((Int × (Int × (Int × (Int × Int)))) × ((Int × (Int × (List Int))) × ((Int × (Int × (List Int))) × ((Int × Int) × ((Int × Int) × ((List Int) × (List Int)))))))) =>
 cnd (ltI i43 i45)
 ((getI l46 (addI .i64 (mulI .i64 i40 i45) i43)).bnd (fun i56 =>
 (getI l49 (addI .i64 (mulI .i64 i43 i48) i41)).bnd (fun i57 =>
 (remI (addI .i64 i42 (mulI .i64 i56 i57)) i39).bnd (fun i58 =>
 (fulI 0 (lenN l54) (lenN l54)).bnd (fun _ =>
 (fulI 0 (lenN l55) (lenN l55)).bnd (fun _ =>
 some (Sum.inl ((i39, i40, i41, i58, addI .i64 i43 1), (i44, i45, l46), (i47, i48, l49), (i50, i51), (i52, i53), l54, l55))))))))
 (((fulI 0 (lenN l54) (lenN l54)).bnd (fun _ =>
 (fulI 0 (lenN l55) (lenN l55)).bnd (fun _ =>
 some (Sum.inl ((i42, i41, i39, i40), (i44, i45, l46), (i47, i48, l49), (i50, i51), (i52, i53), l54, l55))))).bnd (fun l59 =>
 some (Sum.inr l59))))
 ((i24, i25, i26, (0 : Int), (0 : Int)), (i27, i28, l29), (i30, i31, l32), (i33, i34), (i35, i36), l37, l38))))
 (fun ((i60, i61, i62, i63), (i64, i65, l66), (i67, i68, l69), (i70, i71), (i72, i73), l74, l75) =>
 (chkI (addI .i64 (mulI .i64 i63 i68) i61) (lenN l75)).bnd (fun k76 =>
 (getN l75 (addN 0 k76)).bnd (fun i77 =>
 (fulI 0 (lenN l74) (lenN l74)).bnd (fun _ =>
 (fulI 0 (lenN l75) (lenN (setL l75 (addN 0 k76) i60))).bnd (fun _ =>
 some (Sum.inl ((i61, i62, i63), (i64, i65, l66), (i67, i68, l69), (i70, i71), (i72, i73), l74, setL l75 (addN 0 k76) i60))))))))
 (fun ((i78, i79, i80), (i81, i82, l83), (i84, i85, l86), (i87, i88), (i89, i90), l91, l92) =>
 (fulI 0 (lenN l91) (lenN l91)).bnd (fun _ =>
 (fulI 0 (lenN l92) (lenN l92)).bnd (fun _ =>
 some (Sum.inl ((i79, i80, addI .i64 i78 1), (i81, i82, l83), (i84, i85, l86), (i87, i88), (i89, i90), l91, l92))))))
 (((fulI 0 (lenN l37) (lenN l37)).bnd (fun _ =>
 (fulI 0 (lenN l38) (lenN l38)).bnd (fun _ =>
 some (Sum.inl ((i25, i24), (i27, i28, l29), (i30, i31, l32), (i33, i34), (i35, i36), l37, l38))))).bnd (fun l93 =>
 some (Sum.inr l93))))
 ((i10, i11, (0 : Int)), (i12, i13, l14), (i15, i16, l17), (i18, i19), (i20, i21), l22, l23))))
 (fun ((i94, i95), (i96, i97, l98), (i99, i100, l101), (i102, i103), (i104, i105), l106, l107) =>
 (fulI 0 (lenN l106) (lenN l106)).bnd (fun _ =>
 (fulI 0 (lenN l107) (lenN l107)).bnd (fun _ =>
 some (Sum.inl ((i95, addI .i64 i94 1), (i96, i97, l98), (i99, i100, l101), (i102, i103), (i104, i105), l106, l107))))))
 (((fulI 0 (lenN l22) (lenN l22)).bnd (fun _ =>
 (fulI 0 (lenN l23) (lenN l23)).bnd (fun _ =>
 some (Sum.inl ((i18, i19), (i20, i21), l22, l23))))).bnd (fun l108 =>
 some (Sum.inr l108))))
 ((i0, (0 : Int)), (i1, i2, l3), (i4, i5, l6), ((0 : Int), (0 : Int)), (i7, i8), ([] : List Int), l9))))
 (fun ((i109, i110), (i111, i112), l113, l114) =>
 (takI l114 (lenN l114)).bnd (fun l115 =>
 some (i111, i112, l115)))))

def G_impl_rawMulMatrix (NN : Nat) : (Int × ((Int × (Int × (List Int))) × (Int × (Int × (List Int))))) → (Option (Int × (Int × (List Int)))) :=
 (fun ((i0, (i1, i2, l3), i4, i5, l6) : (Int × ((Int × (Int × (List Int))) × (Int × (Int × (List Int)))))) =>
 (F_impl_emptyMatrix (i1, i5)).bnd (fun (i7, i8, l9) =>
 joinK ((fulI 0 0 (lenN (([] : List Int)))).bnd (fun _ =>
 (fulI 0 (lenN l9) (lenN l9)).bnd (fun _ =>
 loopT NN (fun (((i10, i11), (i12, i13, l14), (i15, i16, l17), (i18, i19), (i20, i21), l22, l23) : ((Int × Int) × ((Int × (Int × (List Int))) × ((Int × (Int × (List Int))) × ((Int × Int) × ((Int × Int) × ((List Int) × (List Int)))))))) =>
 cnd (ltI i11 i12)
 (joinK ((fulI 0 (lenN l22) (lenN l22)).bnd (fun _ =>
 (fulI 0 (lenN l23) (lenN l23)).bnd (fun _ =>
 loopT NN (fun (((i24, i25, i26), (i27, i28, l29), (i30, i31, l32), (i33, i34), (i35, i36), l37, l38) : ((Int × (Int × Int)) × ((Int × (Int × (List Int))) × ((Int × (Int × (List Int))) × ((Int × Int) × ((Int × Int) × ((List Int) × (List Int)))))))) =>
 cnd (ltI i26 i31)
 (joinK (joinK ((fulI 0 (lenN l37) (lenN l37)).bnd (fun _ =>
 (fulI 0 (lenN l38) (lenN l38)).bnd (fun _ =>
 loopT NN (fun (((i39, i40, i41, i42, i43), (i44, i45, l46), (i47, i48, l49), (i50, i51), (i52, i53), l54, l55) : ((Int × (Int × (Int × (Int × Int)))) × ((Int × (Int × (List Int))) × ((Int × (Int × (List Int))) × ((Int × Int) × ((Int × Int) × ((List Int) × (List Int)))))))) =>
 cnd (ltI i43 i45)
 ((F_impl_Matrix_at ((i44, i45, l46), i40, i43)).bnd (fun i56 =>
 (F_impl_Matrix_at ((i47, i48, l49), i43, i41)).bnd (fun i57 =>
 (remI (addI .i64 i42 (mulI .i64 i56 i57)) i39).bnd (fun i58 =>
 (fulI 0 (lenN l54) (lenN l54)).bnd (fun _ =>
 (fulI 0 (lenN l55) (lenN l55)).bnd (fun _ =>
 some (Sum.inl ((i39, i40, i41, i58, addI .i64 i43 1), (i44, i45, l46), (i47, i48, l49), (i50, i51), (i52, i53), l54, l55))))))))
 (((fulI 0 (lenN l54) (lenN l54)).bnd (fun _ =>
 (fulI 0 (lenN l55) (lenN l55)).bnd (fun _ =>
 some (Sum.inl ((i42, i41, i39, i40), (i44, i45, l46), (i47, i48, l49), (i50, i51), (i52, i53), l54, l55))))).bnd (fun l59 =>
 some (Sum.inr l59))))
 ((i24, i25, i26, (0 : Int), (0 : Int)), (i27, i28, l29), (i30, i31, l32), (i33, i34), (i35, i36), l37, l38))))
 (fun ((i60, i61, i62, i63), (i64, i65, l66), (i67, i68, l69), (i70, i71), (i72, i73), l74, l75) =>
 (fulI 0 (lenN l75) (lenN l75)).bnd (fun _ =>
 (F_impl_Matrix_set ((i72, i73, l75), i63, i61, i60)).bnd (fun l76 =>
 (fulI 0 (lenN l74) (lenN l74)).bnd (fun _ =>
 (fulI 0 (lenN l75) (lenN l76)).bnd (fun _ =>
 some (Sum.inl ((i61, i62, i63), (i64, i65, l66), (i67, i68, l69), (i70, i71), (i72, i73), l74, l76))))))))
 (fun ((i77, i78, i79), (i80, i81, l82), (i83, i84, l85), (i86, i87), (i88, i89), l90, l91) =>
 (fulI 0 (lenN l90) (lenN l90)).bnd (fun _ =>
 (fulI 0 (lenN l91) (lenN l91)).bnd (fun _ =>
 some (Sum.inl ((i78, i79, addI .i64 i77 1), (i80, i81, l82), (i83, i84, l85), (i86, i87), (i88, i89), l90, l91))))))
 (((fulI 0 (lenN l37) (lenN l37)).bnd (fun _ =>
 (fulI 0 (lenN l38) (lenN l38)).bnd (fun _ =>
 some (Sum.inl ((i25, i24), (i27, i28, l29), (i30, i31, l32), (i33, i34), (i35, i36), l37, l38))))).bnd (fun l92 =>
 some (Sum.inr l92))))
 ((i10, i11, (0 : Int)), (i12, i13, l14), (i15, i16, l17), (i18, i19), (i20, i21), l22, l23))))
 (fun ((i93, i94), (i95, i96, l97), (i98, i99, l100), (i101, i102), (i103, i104), l105, l106) =>
 (fulI 0 (lenN l105) (lenN l105)).bnd (fun _ =>
 (fulI 0 (lenN l106) (lenN l106)).bnd (fun _ =>
 some (Sum.inl ((i94, addI .i64 i93 1), (i95, i96, l97), (i98, i99, l100), (i101, i102), (i103, i104), l105, l106))))))
 (((fulI 0 (lenN l22) (lenN l22)).bnd (fun _ =>
 (fulI 0 (lenN l23) (lenN l23)).bnd (fun _ =>
 some (Sum.inl ((i18, i19), (i20, i21), l22, l23))))).bnd (fun l107 =>
 some (Sum.inr l107))))
 ((i0, (0 : Int)), (i1, i2, l3), (i4, i5, l6), ((0 : Int), (0 : Int)), (i7, i8), ([] : List Int), l9))))
 (fun ((i108, i109), (i110, i111), l112, l113) =>
 (takI l113 (lenN l113)).bnd (fun l114 =>
 some (i110, i111, l114)))))


theorem newOk_nat {r c : Nat} (hr : r ≤ 4096) (hc : c ≤ 4096) (h : r * c ≤ 1048576) : newOk ((r : Int), (c : Int)) := by
  refine ⟨⟨by omega, by show (r : Int) ≤ 4096; omega⟩, ⟨by show (0 : Int) ≤ c; omega, by show (c : Int) ≤ 4096; omega⟩, ?_⟩
  show (r : Int) * (c : Int) ≤ 1048576
  have e : (r : Int) * (c : Int) = ((r * c : Nat) : Int) := by norm_cast
  omega
theorem newOk_gen {x : Int × Int} (h : newOk x) : ∃ r c : Nat, x = ((r : Int), (c : Int)) ∧ r ≤ 4096 ∧ c ≤ 4096 ∧ r * c ≤ 1048576 := by
  obtain ⟨r, c⟩ := x
  obtain ⟨h1, h2, h3⟩ := h
  simp only at h1 h2 h3
  obtain ⟨r, rfl⟩ := natI_eq h1.1
  obtain ⟨c, rfl⟩ := natI_eq h2.1
  have e : (r : Int) * (c : Int) = ((r * c : Nat) : Int) := by norm_cast
  exact ⟨r, c, rfl, by omega, by omega, by omega⟩
theorem new_nat {r c : Nat} (hr : r ≤ 4096) (hc : c ≤ 4096) (h : r * c ≤ 1048576) : F_spec_l31New ((r : Int), (c : Int)) = some ((r : Int), (c : Int), genD r c fun _ _ => 0) := by
  simp only [F_spec_l31New, Int.toNat_natCast]
  rw [if_pos (newOk_nat hr hc h)]

theorem newI_nat {r c : Nat} (hr : r ≤ 4096) (hc : c ≤ 4096) (h : r * c ≤ 1048576) : F_impl_emptyMatrix ((r : Int), (c : Int)) = some ((r : Int), (c : Int), genD r c fun _ _ => 0) := new_nat hr hc h

theorem g_new {r c : Nat} (hr : r ≤ 4096) (hc : c ≤ 4096) (h : r * c ≤ 1048576) : G_spec_l31New FUEL ((r : Int), (c : Int)) = some ((r : Int), (c : Int), genD r c fun _ _ => 0) := by
  simp only [G_spec_l31New]
  rw [mulN (by omega) (by omega)]
  have := mkI_nat (n := r * c) (by_ := 8) (by unfold maxBytes; omega)
  rw [show ((r * c : Nat) : Int) = natI (r * c) from rfl, this, bnd_s, genD_rep]
  rw [show takI (genD r c fun _ _ => 0) (r * c) = some (genD r c fun _ _ => 0) by
    have := takI_id (genD r c fun _ _ => (0 : Int))
    rwa [lenN_gen] at this]
  rfl
theorem f_spec_l31New (x : Int × Int) (y : Int × Int × List Int) (h : F_spec_l31New x = some y) : G_spec_l31New FUEL x = some y := by
  simp only [F_spec_l31New] at h
  split at h
  · rename_i hc
    obtain ⟨r, c, rfl, h1, h2, h3⟩ := newOk_gen hc
    rw [← h, g_new h1 h2 h3]; rfl
  · cases h
theorem f_impl_emptyMatrix (x : Int × Int) (y : Int × Int × List Int) (h : F_impl_emptyMatrix x = some y) : G_impl_emptyMatrix FUEL x = some y := f_spec_l31New x y h

theorem f_spec_l05Ints (x y : List Int) (h : F_spec_l05Ints x = some y) : G_spec_l05Ints FUEL x = some y := by
  simp only [F_spec_l05Ints] at h
  split at h
  · rename_i hl
    rw [← h]
    simp only [G_spec_l05Ints]
    rw [show fulI 0 0 (lenN ([] : List Int)) = some () from rfl, bnd_s, fitI_ok (by simp only [addN, lenN, List.length_nil, maxBytes]; omega), bnd_s]
    have : appL [] x = x := rfl
    rw [this, show addN (lenN ([] : List Int)) (lenN x) = lenN x by simp [addN, lenN], takI_id]
    rfl
  · cases h
theorem f_impl_copyInts (x y : List Int) (h : F_impl_copyInts x = some y) : G_impl_copyInts FUEL x = some y := by
  simp only [F_impl_copyInts] at h
  split at h
  · rename_i hl
    rw [← h]
    simp only [G_impl_copyInts]
    rw [fitI_ok (by simp only [addN, lenN, List.length_nil, maxBytes]; omega), bnd_s]
    have : appL [] x = x := rfl
    rw [this, show addN (lenN ([] : List Int)) (lenN x) = lenN x by simp [addN, lenN], takI_id]
    rfl
  · cases h
theorem f_impl_copyMatrix (x y : Int × Int × List Int) (h : F_impl_copyMatrix x = some y) : G_impl_copyMatrix FUEL x = some y := by
  obtain ⟨r, c, l⟩ := x
  simp only [F_impl_copyMatrix] at h
  split at h
  · rename_i hl
    rw [← h]
    simp only [G_impl_copyMatrix, F_impl_copyInts, if_pos hl, bnd_s, takI_id]
  · cases h

theorem natP {a b : Int} (h : 0 ≤ a ∧ a < b) : ∃ n : Nat, a = (n : Int) ∧ ∀ m : Nat, b = (m : Int) → n < m := ⟨a.toNat, by omega, fun m hm => by omega⟩
theorem natP' {a b : Int} (h : 0 ≤ a ∧ a ≤ b) : ∃ n : Nat, a = (n : Int) ∧ ∀ m : Nat, b = (m : Int) → n ≤ m := ⟨a.toNat, by omega, fun m hm => by omega⟩

theorem g_at {r c i j : Nat} {M : Nat → Nat → Int} (hr : r ≤ 4096) (hc : c ≤ 4096) (hi : i < r) (hj : j < c) : G_impl_Matrix_at FUEL (((r : Int), (c : Int), genD r c M), (i : Int), (j : Int)) = some (M i j) := by
  simp only [G_impl_Matrix_at]
  rw [idxI (by omega) (by omega) (by omega), getI_gen M hi hj]; rfl
theorem at_nat {r c i j : Nat} {M : Nat → Nat → Int} (hr : r ≤ 4096) (hc : c ≤ 4096) (h : r * c ≤ 1048576) (hi : i < r) (hj : j < c) : F_impl_Matrix_at (((r : Int), (c : Int), genD r c M), (i : Int), (j : Int)) = some (M i j) := by
  simp only [F_impl_Matrix_at, Int.toNat_natCast]
  rw [if_pos ⟨mOk_mk M hr hc h, by omega, by omega⟩]
  rw [ofD_gen M hi hj]
theorem f_impl_Matrix_at (x : (Int × Int × List Int) × Int × Int) (y : Int) (h : F_impl_Matrix_at x = some y) : G_impl_Matrix_at FUEL x = some y := by
  obtain ⟨m, i, j⟩ := x
  simp only [F_impl_Matrix_at] at h
  split at h
  · rename_i hc
    obtain ⟨h1, h2, h3⟩ := hc
    obtain ⟨r, c, M, rfl, hr, hc, hrc⟩ := mOk_gen h1
    obtain ⟨i, rfl, hi⟩ := natP h2
    obtain ⟨j, rfl, hj⟩ := natP h3
    have hi := hi r rfl; have hj := hj c rfl
    rw [← h, g_at hr hc hi hj]
    exact congrArg some (ofD_gen M hi hj).symm
  · cases h

theorem g_set {r c i j : Nat} {M : Nat → Nat → Int} {x : Int} (hr : r ≤ 4096) (hc : c ≤ 4096) (hi : i < r) (hj : j < c) : G_impl_Matrix_set FUEL (((r : Int), (c : Int), genD r c M), (i : Int), (j : Int), x) = some (genD r c (updM M i j x)) := by
  simp only [G_impl_Matrix_set]
  rw [idxI (by omega) (by omega) (by omega), chkI_gen M hi hj, bnd_s, addN_0, getN_gen M hi hj, bnd_s, setL_gen M hj, samI_gen, bnd_s]
theorem set_nat {r c i j : Nat} {M : Nat → Nat → Int} {x : Int} (hr : r ≤ 4096) (hc : c ≤ 4096) (h : r * c ≤ 1048576) (hi : i < r) (hj : j < c) : F_impl_Matrix_set (((r : Int), (c : Int), genD r c M), (i : Int), (j : Int), x) = some (genD r c (updM M i j x)) := by
  simp only [F_impl_Matrix_set, Int.toNat_natCast]
  rw [if_pos ⟨mOk_mk M hr hc h, by omega, by omega⟩]
  refine (congrArg some (genD_congr fun a ha b hb => ?_))
  unfold updM
  rw [ofD_gen M ha hb]
theorem f_impl_Matrix_set (x : (Int × Int × List Int) × Int × Int × Int) (y : List Int) (h : F_impl_Matrix_set x = some y) : G_impl_Matrix_set FUEL x = some y := by
  obtain ⟨m, i, j, v⟩ := x
  have h0 := h
  simp only [F_impl_Matrix_set] at h
  split at h
  · rename_i hc
    obtain ⟨h1, h2, h3⟩ := hc
    obtain ⟨r, c, M, rfl, hr, hc, hrc⟩ := mOk_gen h1
    obtain ⟨i, rfl, hi⟩ := natP h2
    obtain ⟨j, rfl, hj⟩ := natP h3
    have hi := hi r rfl; have hj := hj c rfl
    rw [← h0, g_set hr hc hi hj, set_nat hr hc hrc hi hj]
  · cases h

/-! ### rows -/

def swapTo (M : Nat → Nat → Int) (a b k : Nat) : Nat → Nat → Int := fun i j => if j < k then swapF M a b i j else M i j
theorem swapTo_0 (M : Nat → Nat → Int) (a b : Nat) : swapTo M a b 0 = M := by funext i j; exact if_neg (by omega)
theorem swap_step {r c : Nat} (M : Nat → Nat → Int) (a b k : Nat) : genD r c (updM (updM (swapTo M a b k) a k (M b k)) b k (M a k)) = genD r c (swapTo M a b (k + 1)) := by
  refine genD_congr fun i _ j _ => ?_
  unfold updM swapTo swapF
  by_cases hj : j = k
  · subst hj
    by_cases hb : i = b
    · by_cases ha : i = a
      · subst hb; subst ha; simp
      · have : b ≠ a := fun e => ha (hb.trans e)
        simp [hb, this]
    · by_cases ha : i = a
      · have : a ≠ b := fun e => hb (ha.trans e)
        simp [ha, this]
      · simp [ha, hb]
  · have h1 : ¬ (i = b ∧ j = k) := fun h => hj h.2
    have h2 : ¬ (i = a ∧ j = k) := fun h => hj h.2
    rw [if_neg h1, if_neg h2]
    by_cases hk : j < k
    · simp only [if_pos hk, if_pos (show j < k + 1 by omega)]
    · simp only [if_neg hk, if_neg (show ¬ j < k + 1 by omega)]
theorem swapTo_end {r c : Nat} (M : Nat → Nat → Int) (a b : Nat) : genD r c (swapTo M a b c) = genD r c (swapF M a b) := genD_congr fun i _ j hj => if_pos hj
theorem swapTo_old (M : Nat → Nat → Int) (a b k i : Nat) : swapTo M a b k i k = M i k := if_neg (by omega)

theorem g_swapS {r c a b : Nat} {M : Nat → Nat → Int} (hr : r ≤ 4096) (hc : c ≤ 4096) (ha : a < r) (hb : b < r) : G_spec_l31Swap FUEL (((r : Int), (c : Int), genD r c M), (a : Int), (b : Int)) = some (genD r c (swapF M a b)) := by
  simp only [G_spec_l31Swap, fulI_id, bnd_s]
  refine loopT_seq (fun k => (((a : Int), (b : Int), (k : Int)), genD r c (swapTo M a b k), (r : Int), (c : Int))) c ?_ ?_ ?_ (FUEL_gt (by omega))
  · intro k hk
    simp only
    rw [cnd_t (ltN_t hk), idxI (by omega) (by omega) (by omega), idxI (by omega) (by omega) (by omega)]
    simp only [chkI_gen _ ha hk, chkI_gen _ hb hk, bnd_s, addN_0, getN_gen _ ha hk, getN_gen _ hb hk, setL_gen _ hk, fulI_gen, swapTo_old, addN1 (show k ≤ 1048577 by omega), swap_step]
  · simp only
    rw [cnd_f (ltN_f (Nat.le_refl c)), samI_gen, bnd_s, bnd_s, swapTo_end]
  · rw [swapTo_0]; rfl
theorem swap_nat {r c a b : Nat} {M : Nat → Nat → Int} (hr : r ≤ 4096) (hc : c ≤ 4096) (h : r * c ≤ 1048576) (ha : a < r) (hb : b < r) : F_spec_l31Swap (((r : Int), (c : Int), genD r c M), (a : Int), (b : Int)) = some (genD r c (swapF M a b)) := by
  simp only [F_spec_l31Swap, Int.toNat_natCast]
  rw [if_pos ⟨mOk_mk M hr hc h, by omega, by omega⟩]
  refine (congrArg some (genD_congr fun i hi j hj => ?_))
  unfold swapF
  rw [ofD_gen M hb hj, ofD_gen M ha hj, ofD_gen M hi hj]
theorem f_spec_l31Swap (x : (Int × Int × List Int) × Int × Int) (y : List Int) (h : F_spec_l31Swap x = some y) : G_spec_l31Swap FUEL x = some y := by
  obtain ⟨m, i, j⟩ := x
  have h0 := h
  simp only [F_spec_l31Swap] at h
  split at h
  · rename_i hc
    obtain ⟨h1, h2, h3⟩ := hc
    obtain ⟨r, c, M, rfl, hr, hc, hrc⟩ := mOk_gen h1
    obtain ⟨i, rfl, hi⟩ := natP h2
    obtain ⟨j, rfl, hj⟩ := natP h3
    have hi := hi r rfl; have hj := hj r rfl
    rw [← h0, g_swapS hr hc hi hj, swap_nat hr hc hrc hi hj]
  · cases h
theorem g_swapI {r c a b : Nat} {M : Nat → Nat → Int} (hr : r ≤ 4096) (hc : c ≤ 4096) (h : r * c ≤ 1048576) (ha : a < r) (hb : b < r) : G_impl_Matrix_swapRows FUEL (((r : Int), (c : Int), genD r c M), (a : Int), (b : Int)) = some (genD r c (swapF M a b)) := by
  simp only [G_impl_Matrix_swapRows, fulI_id, bnd_s, winI_id]
  refine loopT_seq (fun k => (((a : Int), (b : Int), (k : Int)), genD r c (swapTo M a b k), (r : Int), (c : Int))) c ?_ ?_ ?_ (FUEL_gt (by omega))
  · intro k hk
    simp only
    rw [cnd_t (ltN_t hk)]
    simp only [at_nat hr hc h ha hk, at_nat hr hc h hb hk, set_nat hr hc h ha hk, set_nat hr hc h hb hk, bnd_s, fulI_gen, swapTo_old, addN1 (show k ≤ 1048577 by omega), swap_step]
  · simp only
    rw [cnd_f (ltN_f (Nat.le_refl c)), samI_gen, bnd_s, bnd_s, swapTo_end]
  · rw [swapTo_0]; rfl
theorem f_impl_Matrix_swapRows (x : (Int × Int × List Int) × Int × Int) (y : List Int) (h : F_impl_Matrix_swapRows x = some y) : G_impl_Matrix_swapRows FUEL x = some y := by
  obtain ⟨m, i, j⟩ := x
  have h0 : F_spec_l31Swap (m, i, j) = some y := h
  simp only [F_impl_Matrix_swapRows, F_spec_l31Swap] at h
  split at h
  · rename_i hc
    obtain ⟨h1, h2, h3⟩ := hc
    obtain ⟨r, c, M, rfl, hr, hc, hrc⟩ := mOk_gen h1
    obtain ⟨i, rfl, hi⟩ := natP h2
    obtain ⟨j, rfl, hj⟩ := natP h3
    have hi := hi r rfl; have hj := hj r rfl
    rw [← h0, g_swapI hr hc hrc hi hj, swap_nat hr hc hrc hi hj]
  · cases h

def clearTo (p : Int) (M : Nat → Nat → Int) (i k : Nat) (f : Int) (n : Nat) : Nat → Nat → Int := fun a j => if j < n then clearF p M i k f a j else M a j
theorem clearTo_0 (p : Int) (M : Nat → Nat → Int) (i k : Nat) (f : Int) : clearTo p M i k f 0 = M := by funext a j; exact if_neg (by omega)
theorem clear_step {r c : Nat} (p : Int) (M : Nat → Nat → Int) (i k : Nat) (f : Int) (n : Nat) : genD r c (updM (clearTo p M i k f n) i n ((M i n + f * M k n) % p)) = genD r c (clearTo p M i k f (n + 1)) := by
  refine genD_congr fun a _ j _ => ?_
  unfold updM clearTo clearF
  by_cases hj : j = n
  · subst hj
    by_cases ha : a = i
    · subst ha; simp
    · simp [ha]
  · rw [if_neg (fun h => hj h.2)]
    by_cases hk : j < n
    · simp only [if_pos hk, if_pos (show j < n + 1 by omega)]
    · simp only [if_neg hk, if_neg (show ¬ j < n + 1 by omega)]
theorem clearTo_end {r c : Nat} (p : Int) (M : Nat → Nat → Int) (i k : Nat) (f : Int) : genD r c (clearTo p M i k f c) = genD r c (clearF p M i k f) := genD_congr fun a _ j hj => if_pos hj
theorem clearTo_old (p : Int) (M : Nat → Nat → Int) (i k : Nat) (f : Int) (n a : Nat) : clearTo p M i k f n a n = M a n := if_neg (by omega)
theorem g_addRow {p f : Int} {r c i k : Nat} {M : Nat → Nat → Int} (hp : pOk p) (hr : r ≤ 4096) (hc : c ≤ 4096) (h : r * c ≤ 1048576) (hi : i < r) (hk : k < r) (hf : 0 ≤ f ∧ f ≤ p) (hM : inM p r c M) :
    G_impl_Matrix_addRow FUEL (((r : Int), (c : Int), genD r c M), p, (i : Int), (k : Int), f) = some (genD r c (clearF p M i k f)) := by
  simp only [G_impl_Matrix_addRow, fulI_id, bnd_s, winI_id]
  refine loopT_seq (fun n => ((p, (i : Int), (k : Int), f, (n : Int)), genD r c (clearTo p M i k f n), (r : Int), (c : Int))) c ?_ ?_ ?_ (FUEL_gt (by omega))
  · intro n hn
    simp only
    rw [cnd_t (ltN_t hn)]
    have h1 := hM i hi n hn
    simp only [at_nat hr hc h hi hn, at_nat hr hc h hk hn, bnd_s, clearTo_old, macI hp (h1.s hp) hf (hM k hk n hn).le, set_nat hr hc h hi hn, fulI_gen, addN1 (show n ≤ 1048577 by omega), clear_step]
  · simp only
    rw [cnd_f (ltN_f (Nat.le_refl c)), samI_gen, bnd_s, bnd_s, clearTo_end]
  · rw [clearTo_0]; rfl
theorem addRow_nat {p f : Int} {r c i k : Nat} {M : Nat → Nat → Int} (hp : pOk p) (hr : r ≤ 4096) (hc : c ≤ 4096) (h : r * c ≤ 1048576) (hi : i < r) (hk : k < r) (hf : 0 ≤ f ∧ f ≤ p) (hM : inM p r c M) :
    F_impl_Matrix_addRow (((r : Int), (c : Int), genD r c M), p, (i : Int), (k : Int), f) = some (genD r c (clearF p M i k f)) := by
  simp only [F_impl_Matrix_addRow, Int.toNat_natCast]
  rw [if_pos ⟨mOk_mk M hr hc h, hp, by omega, by omega, hf, allP_gen.2 hM⟩]
  refine (congrArg some (genD_congr fun a ha j hj => ?_))
  unfold clearF
  rw [ofD_gen M hi hj, ofD_gen M hk hj, ofD_gen M ha hj]
theorem f_impl_Matrix_addRow (x : (Int × Int × List Int) × Int × Int × Int × Int) (y : List Int) (h : F_impl_Matrix_addRow x = some y) : G_impl_Matrix_addRow FUEL x = some y := by
  obtain ⟨m, p, i, k, f⟩ := x
  have h0 := h
  simp only [F_impl_Matrix_addRow] at h
  split at h
  · rename_i hc
    obtain ⟨h1, hp, h2, h3, hf, hM⟩ := hc
    obtain ⟨r, c, M, rfl, hr, hc, hrc⟩ := mOk_gen h1
    obtain ⟨i, rfl, hi⟩ := natP h2
    obtain ⟨k, rfl, hk⟩ := natP h3
    have hi := hi r rfl; have hk := hk r rfl
    have hM := allP_gen.1 hM
    rw [← h0, g_addRow hp hr hc hrc hi hk hf hM, addRow_nat hp hr hc hrc hi hk hf hM]
  · cases h
theorem g_clear {p x : Int} {r c i k : Nat} {M : Nat → Nat → Int} (hp : pOk p) (hr : r ≤ 4096) (hc : c ≤ 4096) (hi : i < r) (hk : k < r) (hf : 0 ≤ x ∧ x ≤ p) (hM : inM p r c M) :
    G_spec_l31Clear FUEL (p, ((r : Int), (c : Int), genD r c M), (i : Int), (k : Int), x) = some (genD r c (clearF p M i k (p - x))) := by
  simp only [G_spec_l31Clear, fulI_id, bnd_s]
  have hp2 := hp.2
  refine loopT_seq (fun n => ((p, (i : Int), (k : Int), x, (n : Int)), genD r c (clearTo p M i k (p - x) n), (r : Int), (c : Int))) c ?_ ?_ ?_ (FUEL_gt (by omega))
  · intro n hn
    simp only
    rw [cnd_t (ltN_t hn), idxI (by omega) (by omega) (by omega), idxI (by omega) (by omega) (by omega), subI_eq (by omega) (by omega)]
    have h1 := hM i hi n hn
    simp only [chkI_gen _ hi hn, chkI_gen _ hk hn, bnd_s, addN_0, getN_gen _ hi hn, getN_gen _ hk hn, clearTo_old, macI hp (h1.s hp) (show 0 ≤ p - x ∧ p - x ≤ p by omega) (hM k hk n hn).le, setL_gen _ hn, fulI_gen, addN1 (show n ≤ 1048577 by omega), clear_step]
  · simp only
    rw [cnd_f (ltN_f (Nat.le_refl c)), samI_gen, bnd_s, bnd_s, clearTo_end]
  · rw [clearTo_0]; rfl
theorem clear_nat {p x : Int} {r c i k : Nat} {M : Nat → Nat → Int} (hp : pOk p) (hr : r ≤ 4096) (hc : c ≤ 4096) (h : r * c ≤ 1048576) (hi : i < r) (hk : k < r) (hf : 0 ≤ x ∧ x ≤ p) (hM : inM p r c M) :
    F_spec_l31Clear (p, ((r : Int), (c : Int), genD r c M), (i : Int), (k : Int), x) = some (genD r c (clearF p M i k (p - x))) := by
  simp only [F_spec_l31Clear, Int.toNat_natCast]
  rw [if_pos ⟨mOk_mk M hr hc h, hp, by omega, by omega, hf, allP_gen.2 hM⟩]
  refine (congrArg some (genD_congr fun a ha j hj => ?_))
  unfold clearF
  rw [ofD_gen M hi hj, ofD_gen M hk hj, ofD_gen M ha hj]
theorem f_spec_l31Clear (x : Int × (Int × Int × List Int) × Int × Int × Int) (y : List Int) (h : F_spec_l31Clear x = some y) : G_spec_l31Clear FUEL x = some y := by
  obtain ⟨p, m, i, k, f⟩ := x
  have h0 := h
  simp only [F_spec_l31Clear] at h
  split at h
  · rename_i hc
    obtain ⟨h1, hp, h2, h3, hf, hM⟩ := hc
    obtain ⟨r, c, M, rfl, hr, hc, hrc⟩ := mOk_gen h1
    obtain ⟨i, rfl, hi⟩ := natP h2
    obtain ⟨k, rfl, hk⟩ := natP h3
    have hi := hi r rfl; have hk := hk r rfl
    have hM := allP_gen.1 hM
    rw [← h0, g_clear hp hr hc hi hk hf hM, clear_nat hp hr hc hrc hi hk hf hM]
  · cases h

/-! ### pivots, inverses -/

theorem piv_loop {r c i j : Nat} {M : Nat → Nat → Int} {f : ((Int × Int) × Int × Int × List Int) → Option (((Int × Int) × Int × Int × List Int) ⊕ (Unit ⊕ Int))}
    (h1 : ∀ k, k < r → f (((j : Int), (k : Int)), (r : Int), (c : Int), genD r c M) = if M k j = 0 then some (.inl (((j : Int), ((k + 1 : Nat) : Int)), (r : Int), (c : Int), genD r c M)) else some (.inr (.inr (k : Int))))
    (h2 : f (((j : Int), (r : Int)), (r : Int), (c : Int), genD r c M) = some (.inr (.inl ()))) :
    ∀ (d k : Nat), k + d = r → ∀ N, d < N → loopT N f (((j : Int), (k : Int)), (r : Int), (c : Int), genD r c M) = some (match pivF M j d k with | some q => .inr (q : Int) | none => .inl ()) := by
  intro d
  induction d with
  | zero =>
    intro k hk N hN
    obtain ⟨N, rfl⟩ : ∃ m, N = m + 1 := ⟨N - 1, by omega⟩
    have : k = r := by omega
    subst this
    simp only [loopT, h2, pivF]
  | succ d ih =>
    intro k hk N hN
    obtain ⟨N, rfl⟩ : ∃ m, N = m + 1 := ⟨N - 1, by omega⟩
    simp only [loopT, h1 k (by omega), pivF]
    by_cases h0 : M k j = 0
    · rw [if_pos h0, if_pos h0]
      exact ih (k + 1) (by omega) N (by omega)
    · rw [if_neg h0, if_neg h0]

theorem pivF_congr {M M' : Nat → Nat → Int} {j : Nat} : ∀ (d k : Nat), (∀ i, k ≤ i → i < k + d → M i j = M' i j) → pivF M j d k = pivF M' j d k
  | 0, k, _ => rfl
  | d + 1, k, h => by
    simp only [pivF]
    rw [h k (by omega) (by omega), pivF_congr d (k + 1) fun i h1 h2 => h i (by omega) (by omega)]
theorem pivF_lt {M : Nat → Nat → Int} {j q : Nat} : ∀ {d k : Nat}, pivF M j d k = some q → k ≤ q ∧ q < k + d ∧ M q j ≠ 0
  | 0, k, h => by cases h
  | d + 1, k, h => by
    simp only [pivF] at h
    split at h
    · have := pivF_lt h
      exact ⟨by omega, by omega, this.2.2⟩
    · rename_i h0
      injection h with h
      subst h
      exact ⟨by omega, by omega, h0⟩

theorem g_pivot {r c i j : Nat} {M : Nat → Nat → Int} (hr : r ≤ 4096) (hc : c ≤ 4096) (hi : i ≤ r) (hj : j < c) : G_spec_l31Pivot FUEL (((r : Int), (c : Int), genD r c M), (i : Int), (j : Int)) = some (pivI (pivF M j (r - i) i)) := by
  simp only [G_spec_l31Pivot]
  rw [piv_loop (M := M) (r := r) (c := c) (i := i) (j := j) ?_ ?_ (r - i) i (by omega) FUEL (FUEL_gt (by omega))]
  · cases pivF M j (r - i) i with
    | none => rfl
    | some q => rfl
  · intro k hk
    simp only
    rw [cnd_t (ltN_t hk), idxI (by omega) (by omega) (by omega), getI_gen M hk hj, bnd_s, addN1 (by omega)]
    by_cases h0 : M k j = 0
    · rw [if_pos h0, cnd_f (neI_f h0)]
    · rw [if_neg h0, cnd_t (neI_t h0)]
  · simp only
    rw [cnd_f (ltN_f (Nat.le_refl r))]
theorem pivot_nat {r c i j : Nat} {M : Nat → Nat → Int} (hr : r ≤ 4096) (hc : c ≤ 4096) (h : r * c ≤ 1048576) (hi : i ≤ r) (hj : j < c) : F_spec_l31Pivot (((r : Int), (c : Int), genD r c M), (i : Int), (j : Int)) = some (pivI (pivF M j (r - i) i)) := by
  simp only [F_spec_l31Pivot, Int.toNat_natCast]
  rw [if_pos ⟨mOk_mk M hr hc h, by omega, by omega⟩]
  rw [show ((r : Int) - (i : Int)).toNat = r - i by omega]
  rw [pivF_congr (M' := M) (r - i) i fun a h1 h2 => ofD_gen M (by omega) hj]
theorem f_spec_l31Pivot (x : (Int × Int × List Int) × Int × Int) (y : Int) (h : F_spec_l31Pivot x = some y) : G_spec_l31Pivot FUEL x = some y := by
  obtain ⟨m, i, j⟩ := x
  have h0 := h
  simp only [F_spec_l31Pivot] at h
  split at h
  · rename_i hc
    obtain ⟨h1, h2, h3⟩ := hc
    obtain ⟨r, c, M, rfl, hr, hc, hrc⟩ := mOk_gen h1
    obtain ⟨i, rfl, hi⟩ := natP' h2
    obtain ⟨j, rfl, hj⟩ := natP h3
    have hi := hi r rfl; have hj := hj c rfl
    rw [← h0, g_pivot hr hc hi hj, pivot_nat hr hc hrc hi hj]
  · cases h

theorem invG_0 (p out x : Int) : invG p out x 0 = out := by rw [invG]; rfl
theorem invG_s {n : Nat} (h : n ≠ 0) (p out x : Int) : invG p out x n = invG p (if n % 2 = 1 then out * x % p else out) (x * x % p) (n / 2) := by
  rw [invG, dif_neg h]
theorem invG_in {p : Int} (hp : pOk p) : ∀ (n : Nat) (out x : Int), inP p out → inP p (invG p out x n) := by
  intro n
  induction n using Nat.strongRecOn with
  | ind n ih =>
    intro out x ho
    by_cases h : n = 0
    · subst h; rw [invG_0]; exact ho
    · rw [invG_s h]
      refine ih (n / 2) (by omega) _ _ ?_
      split
      · exact emod_in hp _
      · exact ho

theorem inv_step {p out x : Int} {n : Nat} {Y : Type} {o : Option (Int × Int × Int × Int ⊕ Y)} (k : Int × Int × Int × Int → Option Y) (b : Bool) (hb : b = decide (n % 2 = 1)) (hp : pOk p) (ho : inP p out) (hx : inP p x) :
    joinK (cnd b ((remI (mulI .i64 out x) p).bnd fun i => some (Sum.inl (x, (n : Int), p, i))) (some (Sum.inl (x, (n : Int), p, out)))) k = k (x, (n : Int), p, if n % 2 = 1 then out * x % p else out) := by
  subst hb
  by_cases h : n % 2 = 1
  · rw [cnd_t (decide_eq_true h), mulR hp ho.le hx.le, bnd_s, joinK_l, if_pos h]
  · rw [cnd_f (decide_eq_false h), joinK_l, if_neg h]

theorem f_spec_l31Inverse (x : Int × Int) (y : Int) (h : F_spec_l31Inverse x = some y) : G_spec_l31Inverse FUEL x = some y := by
  obtain ⟨p, x⟩ := x
  simp only [F_spec_l31Inverse] at h
  split at h
  · rename_i hc
    obtain ⟨hp, hx⟩ := hc
    have hp1 := hp.1; have hp2 := hp.2
    obtain ⟨n, hn⟩ := natI_eq (show 0 ≤ p - 2 by omega)
    rw [← h]
    simp only [G_spec_l31Inverse]
    rw [subI_eq (by omega) (by omega), hn, Int.toNat_natCast]
    rw [loopT_run (r := Sum.inl (invG p 1 x n)) (fun m s => ∃ out x' : Int, s = (p, x', out, (m : Int)) ∧ m ≤ n ∧ inP p out ∧ inP p x' ∧ invG p out x' m = invG p 1 x n) ?_ n _ ⟨1, x, rfl, by omega, ⟨by omega, by omega⟩, hx, rfl⟩ FUEL (FUEL_gt (by omega))]
    · rw [joinK_l]
    · rintro m s ⟨out, x', rfl, hm, ho, hx', he⟩
      simp only
      by_cases h0 : m = 0
      · subst h0
        left
        rw [cnd_f (ltI_f (by omega)), ← he, invG_0]
      · right
        refine ⟨m / 2, _, by omega, ?_, if m % 2 = 1 then out * x' % p else out, x' * x' % p, rfl, by omega, ?_, emod_in hp _, by rw [← he, invG_s h0]⟩
        · rw [cnd_t (ltI_t (by omega)), remN (by omega) (by omega), bnd_s]
          have hb : eqI ((m : Int) % 2) 1 = decide (m % 2 = 1) := by
            by_cases h1 : m % 2 = 1
            · rw [eqI_t (by omega), decide_eq_true h1]
            · rw [eqI_f (by omega), decide_eq_false h1]
          rw [inv_step (o := none) _ _ hb hp ho hx']
          simp only
          rw [mulR hp hx'.le hx'.le, bnd_s]
          have hq : quoI .i64 (m : Int) 2 = some ((m / 2 : Nat) : Int) := by
            unfold quoI
            rw [if_neg (by omega), Int.tdiv_eq_ediv_of_nonneg (by omega), wrap_id (by omega) (by omega)]
            congr 1
          rw [hq, bnd_s]
        · split
          · exact emod_in hp _
          · exact ho
  · cases h
theorem f_impl_rawInverse (x : Int × Int) (y : Int) (h : F_impl_rawInverse x = some y) : G_impl_rawInverse FUEL x = some y := by
  obtain ⟨p, x⟩ := x
  simp only [F_impl_rawInverse, F_spec_l31Inverse] at h
  split at h
  · rename_i hc
    obtain ⟨hp, hx⟩ := hc
    have hp1 := hp.1; have hp2 := hp.2
    obtain ⟨n, hn⟩ := natI_eq (show 0 ≤ p - 2 by omega)
    rw [← h]
    simp only [G_impl_rawInverse]
    rw [subI_eq (by omega) (by omega), hn, Int.toNat_natCast]
    rw [loopT_run (r := Sum.inl (invG p 1 x n)) (fun m s => ∃ out x' : Int, s = (p, x', out, (m : Int)) ∧ m ≤ n ∧ inP p out ∧ inP p x' ∧ invG p out x' m = invG p 1 x n) ?_ n _ ⟨1, x, rfl, by omega, ⟨by omega, by omega⟩, hx, rfl⟩ FUEL (FUEL_gt (by omega))]
    · rw [joinK_l]
    · rintro m s ⟨out, x', rfl, hm, ho, hx', he⟩
      simp only
      by_cases h0 : m = 0
      · subst h0
        left
        rw [cnd_f (ltI_f (by omega)), ← he, invG_0]
      · right
        refine ⟨m / 2, _, by omega, ?_, if m % 2 = 1 then out * x' % p else out, x' * x' % p, rfl, by omega, ?_, emod_in hp _, by rw [← he, invG_s h0]⟩
        · rw [cnd_t (ltI_t (by omega))]
          have hb : eqI (andI .i64 (m : Int) 1) 1 = decide (m % 2 = 1) := by
            rw [show (1 : Int) = ((1 : Nat) : Int) from rfl, andI_nat (by omega) (by omega), Nat.and_one_is_mod]
            by_cases h1 : m % 2 = 1
            · rw [eqI_t (by omega), decide_eq_true h1]
            · rw [eqI_f (by omega), decide_eq_false h1]
          rw [inv_step (o := none) _ _ hb hp ho hx']
          simp only
          rw [mulR hp hx'.le hx'.le, bnd_s]
          have hq : shrI .i64 (m : Int) 1 = some ((m / 2 : Nat) : Int) := by
            rw [show (1 : Int) = ((1 : Nat) : Int) from rfl, shrI_nat (by omega), Nat.shiftRight_eq_div_pow]
          rw [hq, bnd_s]
        · split
          · exact emod_in hp _
          · exact ho
  · cases h

/-! ### transposed -/

/-! ### products -/

def mulTo (W : Nat → Nat → Int) (i j : Nat) : Nat → Nat → Int := fun a b => if a < i ∨ a = i ∧ b < j then W a b else 0
theorem mul_step {r c : Nat} (W : Nat → Nat → Int) (i j : Nat) : genD r c (updM (mulTo W i j) i j (W i j)) = genD r c (mulTo W i (j + 1)) := by
  refine genD_congr fun a _ b _ => ?_
  unfold updM mulTo
  by_cases h : a = i ∧ b = j
  · obtain ⟨rfl, rfl⟩ := h
    simp
  · rw [if_neg h]
    by_cases h1 : a < i ∨ a = i ∧ b < j
    · simp only [if_pos h1, if_pos (show a < i ∨ a = i ∧ b < j + 1 by omega)]
    · simp only [if_neg h1, if_neg (show ¬ (a < i ∨ a = i ∧ b < j + 1) by omega)]
theorem mul_row {r c : Nat} (W : Nat → Nat → Int) (i : Nat) : genD r c (mulTo W i c) = genD r c (mulTo W (i + 1) 0) := by
  refine genD_congr fun a _ b hb => ?_
  unfold mulTo
  by_cases h1 : a < i ∨ a = i ∧ b < c
  · simp only [if_pos h1, if_pos (show a < i + 1 ∨ a = i + 1 ∧ b < 0 by omega)]
  · simp only [if_neg h1, if_neg (show ¬ (a < i + 1 ∨ a = i + 1 ∧ b < 0) by omega)]
theorem mul_end {r c : Nat} (W : Nat → Nat → Int) : genD r c (mulTo W r 0) = genD r c W := genD_congr fun a ha b hb => if_pos (.inl ha)
theorem mul_0 {r c : Nat} (W : Nat → Nat → Int) : genD r c (mulTo W 0 0) = genD r c fun _ _ => 0 := genD_congr fun a ha b hb => if_neg (by omega)

theorem mulF_congr {p : Int} {k : Nat} {A A' B B' : Nat → Nat → Int} {i j : Nat} (hA : ∀ t, t < k → A i t = A' i t) (hB : ∀ t, t < k → B t j = B' t j) : mulF p k A B i j = mulF p k A' B' i j := by
  unfold mulF
  have : ∀ n, n ≤ k → dotF p (fun t => A i t) (fun t => B t j) n = dotF p (fun t => A' i t) (fun t => B' t j) n := by
    intro n
    induction n with
    | zero => intro _; rfl
    | succ n ih =>
      intro hn
      simp only [dotF]
      rw [ih (by omega), hA n (by omega), hB n (by omega)]
  exact this k (Nat.le_refl k)
theorem mulOk_gen {x : Int × (Int × Int × List Int) × (Int × Int × List Int)} (h : mulOk x) : ∃ (p : Int) (r k c : Nat) (A B : Nat → Nat → Int), x = (p, ((r : Int), (k : Int), genD r k A), ((k : Int), (c : Int), genD k c B)) ∧ pOk p ∧
    r ≤ 4096 ∧ k ≤ 4096 ∧ c ≤ 4096 ∧ r * k ≤ 1048576 ∧ k * c ≤ 1048576 ∧ r * c ≤ 1048576 ∧ inM p r k A ∧ inM p k c B := by
  obtain ⟨p, a, b⟩ := x
  obtain ⟨hp, ha, hb, hk, hrc, h1, h2⟩ := h
  obtain ⟨r, k, A, rfl, q1, q2, q3⟩ := mOk_gen ha
  obtain ⟨k', c, B, rfl, q4, q5, q6⟩ := mOk_gen hb
  simp only at hk hrc h1 h2
  have : k' = k := by omega
  subst this
  have e : (r : Int) * (c : Int) = ((r * c : Nat) : Int) := by norm_cast
  exact ⟨p, r, k', c, A, B, rfl, hp, q1, q2, q5, q3, q6, by omega, allP_gen.1 h1, allP_gen.1 h2⟩
theorem mulOk_mk {p : Int} {r k c : Nat} {A B : Nat → Nat → Int} (hp : pOk p) (hr : r ≤ 4096) (hk : k ≤ 4096) (hc : c ≤ 4096) (h1 : r * k ≤ 1048576) (h2 : k * c ≤ 1048576) (h3 : r * c ≤ 1048576) (hA : inM p r k A) (hB : inM p k c B) :
    mulOk (p, ((r : Int), (k : Int), genD r k A), ((k : Int), (c : Int), genD k c B)) := by
  refine ⟨hp, mOk_mk A hr hk h1, mOk_mk B hk hc h2, rfl, ?_, allP_gen.2 hA, allP_gen.2 hB⟩
  show (r : Int) * (c : Int) ≤ 1048576
  have e : (r : Int) * (c : Int) = ((r * c : Nat) : Int) := by norm_cast
  omega
theorem mulS_nat {p : Int} {r k c : Nat} {A B : Nat → Nat → Int} (hp : pOk p) (hr : r ≤ 4096) (hk : k ≤ 4096) (hc : c ≤ 4096) (h1 : r * k ≤ 1048576) (h2 : k * c ≤ 1048576) (h3 : r * c ≤ 1048576) (hA : inM p r k A) (hB : inM p k c B) :
    F_spec_l31Mul (p, ((r : Int), (k : Int), genD r k A), ((k : Int), (c : Int), genD k c B)) = some ((r : Int), (c : Int), genD r c (mulF p k A B)) := by
  simp only [F_spec_l31Mul, Int.toNat_natCast]
  rw [if_pos (mulOk_mk hp hr hk hc h1 h2 h3 hA hB)]
  exact congrArg (fun l => some ((r : Int), (c : Int), l)) (genD_congr fun i hi j hj => mulF_congr (fun t ht => ofD_gen A hi ht) (fun t ht => ofD_gen B ht hj))

theorem g_mulS {p : Int} {r k c : Nat} {A B : Nat → Nat → Int} (hp : pOk p) (hr : r ≤ 4096) (hk : k ≤ 4096) (hc : c ≤ 4096) (h1 : r * k ≤ 1048576) (h2 : k * c ≤ 1048576) (h3 : r * c ≤ 1048576) (hA : inM p r k A) (hB : inM p k c B) :
    G_spec_l31Mul FUEL (p, ((r : Int), (k : Int), genD r k A), ((k : Int), (c : Int), genD k c B)) = some ((r : Int), (c : Int), genD r c (mulF p k A B)) := by
  simp only [G_spec_l31Mul, new_nat hr hc h3, bnd_s, fulI_id]
  rw [show fulI 0 0 (lenN ([] : List Int)) = some () from rfl, bnd_s]
  rw [loopT_seq (r := Sum.inl (((0 : Int), (0 : Int)), ((r : Int), (c : Int)), ([] : List Int), genD r c (mulF p k A B))) (fun i => ((p, (i : Int)), ((r : Int), (k : Int), genD r k A), ((k : Int), (c : Int), genD k c B), ((0 : Int), (0 : Int)), ((r : Int), (c : Int)), ([] : List Int), genD r c (mulTo (mulF p k A B) i 0))) r ?_ ?_ ?_ (FUEL_gt (by omega))]
  · rw [joinK_l]; simp only [takI_id, bnd_s]
  · intro i hi
    simp only
    rw [cnd_t (ltN_t hi)]
    rw [loopT_seq (r := Sum.inl (((i : Int), p), ((r : Int), (k : Int), genD r k A), ((k : Int), (c : Int), genD k c B), ((0 : Int), (0 : Int)), ((r : Int), (c : Int)), ([] : List Int), genD r c (mulTo (mulF p k A B) (i + 1) 0))) (fun j => ((p, (i : Int), (j : Int)), ((r : Int), (k : Int), genD r k A), ((k : Int), (c : Int), genD k c B), ((0 : Int), (0 : Int)), ((r : Int), (c : Int)), ([] : List Int), genD r c (mulTo (mulF p k A B) i j))) c ?_ ?_ ?_ (FUEL_gt (by omega))]
    · rw [joinK_l]; simp only [addN1 (show i ≤ 1048577 by omega)]
    · intro j hj
      simp only
      rw [cnd_t (ltN_t hj)]
      rw [loopT_seq (r := Sum.inl ((mulF p k A B i j, (j : Int), p, (i : Int)), ((r : Int), (k : Int), genD r k A), ((k : Int), (c : Int), genD k c B), ((0 : Int), (0 : Int)), ((r : Int), (c : Int)), ([] : List Int), genD r c (mulTo (mulF p k A B) i j))) (fun t => ((p, (i : Int), (j : Int), dotF p (fun t => A i t) (fun t => B t j) t, (t : Int)), ((r : Int), (k : Int), genD r k A), ((k : Int), (c : Int), genD k c B), ((0 : Int), (0 : Int)), ((r : Int), (c : Int)), ([] : List Int), genD r c (mulTo (mulF p k A B) i j))) k ?_ ?_ ?_ (FUEL_gt (by omega))]
      · rw [joinK_l]
        simp only [idxI (show i ≤ 1048576 by omega) (show c ≤ 1048576 by omega) (show j ≤ 1048576 by omega), chkI_gen _ hi hj, bnd_s, addN_0, getN_gen _ hi hj, setL_gen _ hj, fulI_gen, mul_step (r := r) (c := c)]
        rw [joinK_l]
        simp only [addN1 (show j ≤ 1048577 by omega)]
      · intro t ht
        simp only
        rw [cnd_t (ltN_t ht), idxI (by omega) (by omega) (by omega), idxI (by omega) (by omega) (by omega), getI_gen A hi ht, bnd_s, getI_gen B ht hj, bnd_s, macI hp ((dotF_in hp _ _ t).s hp) (hA i hi t ht).le (hB t ht j hj).le, bnd_s]
        simp only [addN1 (show t ≤ 1048577 by omega), dotF]
      · simp only
        rw [cnd_f (ltN_f (Nat.le_refl k))]
        rfl
      · rfl
    · simp only
      rw [cnd_f (ltN_f (Nat.le_refl c)), mul_row]
    · rfl
  · simp only
    rw [cnd_f (ltN_f (Nat.le_refl r)), mul_end]
  · rw [mul_0]; rfl
theorem f_spec_l31Mul (x : Int × (Int × Int × List Int) × (Int × Int × List Int)) (y : Int × Int × List Int) (h : F_spec_l31Mul x = some y) : G_spec_l31Mul FUEL x = some y := by
  have h0 := h
  simp only [F_spec_l31Mul] at h
  split at h
  · rename_i hc
    obtain ⟨p, r, k, c, A, B, rfl, hp, hr, hk, hc, h1, h2, h3, hA, hB⟩ := mulOk_gen hc
    rw [← h0, g_mulS hp hr hk hc h1 h2 h3 hA hB, mulS_nat hp hr hk hc h1 h2 h3 hA hB]
  · cases h
theorem g_mulI {p : Int} {r k c : Nat} {A B : Nat → Nat → Int} (hp : pOk p) (hr : r ≤ 4096) (hk : k ≤ 4096) (hc : c ≤ 4096) (h1 : r * k ≤ 1048576) (h2 : k * c ≤ 1048576) (h3 : r * c ≤ 1048576) (hA : inM p r k A) (hB : inM p k c B) :
    G_impl_rawMulMatrix FUEL (p, ((r : Int), (k : Int), genD r k A), ((k : Int), (c : Int), genD k c B)) = some ((r : Int), (c : Int), genD r c (mulF p k A B)) := by
  simp only [G_impl_rawMulMatrix, newI_nat hr hc h3, bnd_s, fulI_id]
  rw [show fulI 0 0 (lenN ([] : List Int)) = some () from rfl, bnd_s]
  rw [loopT_seq (r := Sum.inl (((0 : Int), (0 : Int)), ((r : Int), (c : Int)), ([] : List Int), genD r c (mulF p k A B))) (fun i => ((p, (i : Int)), ((r : Int), (k : Int), genD r k A), ((k : Int), (c : Int), genD k c B), ((0 : Int), (0 : Int)), ((r : Int), (c : Int)), ([] : List Int), genD r c (mulTo (mulF p k A B) i 0))) r ?_ ?_ ?_ (FUEL_gt (by omega))]
  · rw [joinK_l]; simp only [takI_id, bnd_s]
  · intro i hi
    simp only
    rw [cnd_t (ltN_t hi)]
    rw [loopT_seq (r := Sum.inl (((i : Int), p), ((r : Int), (k : Int), genD r k A), ((k : Int), (c : Int), genD k c B), ((0 : Int), (0 : Int)), ((r : Int), (c : Int)), ([] : List Int), genD r c (mulTo (mulF p k A B) (i + 1) 0))) (fun j => ((p, (i : Int), (j : Int)), ((r : Int), (k : Int), genD r k A), ((k : Int), (c : Int), genD k c B), ((0 : Int), (0 : Int)), ((r : Int), (c : Int)), ([] : List Int), genD r c (mulTo (mulF p k A B) i j))) c ?_ ?_ ?_ (FUEL_gt (by omega))]
    · rw [joinK_l]; simp only [addN1 (show i ≤ 1048577 by omega)]
    · intro j hj
      simp only
      rw [cnd_t (ltN_t hj)]
      rw [loopT_seq (r := Sum.inl ((mulF p k A B i j, (j : Int), p, (i : Int)), ((r : Int), (k : Int), genD r k A), ((k : Int), (c : Int), genD k c B), ((0 : Int), (0 : Int)), ((r : Int), (c : Int)), ([] : List Int), genD r c (mulTo (mulF p k A B) i j))) (fun t => ((p, (i : Int), (j : Int), dotF p (fun t => A i t) (fun t => B t j) t, (t : Int)), ((r : Int), (k : Int), genD r k A), ((k : Int), (c : Int), genD k c B), ((0 : Int), (0 : Int)), ((r : Int), (c : Int)), ([] : List Int), genD r c (mulTo (mulF p k A B) i j))) k ?_ ?_ ?_ (FUEL_gt (by omega))]
      · rw [joinK_l]
        simp only [set_nat hr hc h3 hi hj, bnd_s, fulI_gen, mul_step (r := r) (c := c)]
        rw [joinK_l]
        simp only [addN1 (show j ≤ 1048577 by omega)]
      · intro t ht
        simp only
        rw [cnd_t (ltN_t ht), at_nat hr hk h1 hi ht, bnd_s, at_nat hk hc h2 ht hj, bnd_s, macI hp ((dotF_in hp _ _ t).s hp) (hA i hi t ht).le (hB t ht j hj).le, bnd_s]
        simp only [addN1 (show t ≤ 1048577 by omega), dotF]
      · simp only
        rw [cnd_f (ltN_f (Nat.le_refl k))]
        rfl
      · rfl
    · simp only
      rw [cnd_f (ltN_f (Nat.le_refl c)), mul_row]
    · rfl
  · simp only
    rw [cnd_f (ltN_f (Nat.le_refl r)), mul_end]
  · rw [mul_0]; rfl
theorem f_impl_rawMulMatrix (x : Int × (Int × Int × List Int) × (Int × Int × List Int)) (y : Int × Int × List Int) (h : F_impl_rawMulMatrix x = some y) : G_impl_rawMulMatrix FUEL x = some y := by
  have h0 : F_spec_l31Mul x = some y := h
  simp only [F_impl_rawMulMatrix, F_spec_l31Mul] at h
  split at h
  · rename_i hc
    obtain ⟨p, r, k, c, A, B, rfl, hp, hr, hk, hc, h1, h2, h3, hA, hB⟩ := mulOk_gen hc
    rw [← h0, g_mulI hp hr hk hc h1 h2 h3 hA hB, mulS_nat hp hr hk hc h1 h2 h3 hA hB]
  · cases h
end Go.Am
end
section
namespace Go.Am
/-! ### transposes, products and swaps of good matrices -/

def sopOk (x : Int × Int × Int) : Prop := isPrimeI x.1 = true ∧ (1 ≤ x.2.1 ∧ x.2.1 ≤ 8) ∧ (1 ≤ x.2.2 ∧ x.2.2 ≤ 8)
instance (x : Int × Int × Int) : Decidable (sopOk x) := by unfold sopOk; infer_instance
theorem inM_of {p : Int} {r c : Nat} {l : List Int} (h : l.length = r * c) (hr : rowOk p l = true) : inM p r c (ofD c l) := by
  apply allP_gen.1
  rw [genD_of h]
  intro x hx
  have := List.all_eq_true.1 hr x hx
  exact of_decide_eq_true this
theorem matOk_nat {m : Int} {x : Int × Int × List Int} (h : matOk m x = true) : ∃ (r c : Nat) (M : Nat → Nat → Int), x = ((r : Int), (c : Int), genD r c M) ∧ pOk m ∧ r ≤ 64 ∧ c ≤ 64 ∧ r * c ≤ 4096 ∧ inM m r c M := by
  obtain ⟨r, c, l⟩ := x
  simp only [matOk, Bool.and_eq_true, decide_eq_true_eq] at h
  obtain ⟨h1, h2, h3, h4, h5⟩ := h
  obtain ⟨r, rfl⟩ := natI_eq (z := r) (by omega)
  obtain ⟨c, rfl⟩ := natI_eq (z := c) (by omega)
  have hl : l.length = r * c := by
    have e : (r : Int) * (c : Int) = ((r * c : Nat) : Int) := by norm_cast
    omega
  have hrc : r * c ≤ 64 * 64 := Nat.mul_le_mul (by omega) (by omega)
  exact ⟨r, c, ofD c l, by rw [genD_of hl], isPrimeI_t h1, by omega, by omega, by omega, inM_of hl h5⟩

/-! ### the swap operator -/

end Go.Am
end
section
namespace Go.Am
/-! ### reduced forms -/

abbrev Mat := Nat → Nat → Int
def sclTo (p inv : Int) (M : Mat) (t n : Nat) : Mat := fun a b => if a = t ∧ b < n then M t b * inv % p else M a b
def sclF (p inv : Int) (M : Mat) (t : Nat) : Mat := fun a b => if a = t then M t b * inv % p else M a b
def clrF (p : Int) (M : Mat) (t j n : Nat) : Mat := fun a b => if a < n ∧ a ≠ t then (M a b + (p - M a j) * M t b) % p else M a b
def pivS (p : Int) (M : Mat) (t j k : Nat) : Mat := sclF p (invG p 1 (swapF M t k t j) (p - 2).toNat) (swapF M t k) t
def redD (p : Int) (M : Mat) (t j k : Nat) (d : Int) : Int := (if k = t then d else (p - d) % p) * swapF M t k t j % p
def redS (p : Int) (r : Nat) (s : Mat × List Int × Int) (j : Nat) : Mat × List Int × Int :=
  if s.2.1.length < r then
    match pivF s.1 j (r - s.2.1.length) s.2.1.length with
    | none => s
    | some k => (clrF p (pivS p s.1 s.2.1.length j k) s.2.1.length j r, s.2.1 ++ [(j : Int)], redD p s.1 s.2.1.length j k s.2.2)
  else s
def redN (p : Int) (r : Nat) (M : Mat) : Nat → Mat × List Int × Int
  | 0 => (M, [], 1)
  | j + 1 => redS p r (redN p r M j) j
def redOk (x : Int × Int × Int × List Int) : Prop := pOk x.1 ∧ mOk x.2 ∧ allP x.1 x.2.2.2
instance (x : Int × Int × Int × List Int) : Decidable (redOk x) := by unfold redOk; infer_instance
def redX (x : Int × Int × Int × List Int) : Mat × List Int × Int := redN x.1 x.2.1.toNat (ofD x.2.2.1.toNat x.2.2.2) x.2.2.1.toNat
def F_spec_l31Reduce : Int × Int × Int × List Int → Option ((Int × Int × List Int) × List Int × Int) := fun (x : Int × Int × Int × List Int) =>
  if redOk x then some ((x.2.1, x.2.2.1, genD x.2.1.toNat x.2.2.1.toNat (redX x).1), (redX x).2) else none
def F_impl_rawReduce : Int × Int × Int × List Int → Option ((Int × Int × List Int) × List Int) := fun (x : Int × Int × Int × List Int) =>
  if redOk x then some ((x.2.1, x.2.2.1, genD x.2.1.toNat x.2.2.1.toNat (redX x).1), (redX x).2.1) else none

def ag_spec_l31Reduce : Sig := [(.one, [.int .i64]), (.agg, [.int .i64, .int .i64, .list [.int .i64]])]
def rs_spec_l31Reduce : Sig := [(.agg, [.int .i64, .int .i64, .list [.int .i64]]), (.one, [.list [.int .i64]]), (.one, [.int .i64])]
def mu_spec_l31Reduce : MSig := []
def ag_impl_rawReduce : Sig := [(.one, [.int .i64]), (.agg, [.int .i64, .int .i64, .list [.int .i64]])]
def rs_impl_rawReduce : Sig := [(.agg, [.int .i64, .int .i64, .list [.int .i64]]), (.one, [.list [.int .i64]])]
def mu_impl_rawReduce : MSig := []

def G_spec_l31Reduce (NN : Nat) : (Int × (Int × (Int × (List Int)))) → (Option ((Int × (Int × (List Int))) × ((List Int) × Int))) :=
 (fun ((i0, i1, i2, l3) : (Int × (Int × (Int × (List Int))))) =>
 (F_spec_l05Ints l3).bnd (fun l4 =>
 joinK ((fulI 0 0 (lenN (([] : List Int)))).bnd (fun _ =>
 (fulI 0 0 (lenN (([] : List Int)))).bnd (fun _ =>
 (fulI 0 (lenN l4) (lenN l4)).bnd (fun _ =>
 loopT NN (fun (((i5, i6, i7), (i8, i9, l10), (i11, i12), (i13, i14), l15, l16, l17) : ((Int × (Int × Int)) × ((Int × (Int × (List Int))) × ((Int × Int) × ((Int × Int) × ((List Int) × ((List Int) × (List Int)))))))) =>
 cnd (ltI i7 i9)
 (cnd (ltI (natI (lenN l17)) i8)
 (joinK ((winI l16 0 (lenN l16)).bnd (fun l18 =>
 (F_spec_l31Pivot ((i13, i14, l18), natI (lenN l17), i7)).bnd (fun i19 =>
 cnd (ltI i19 (0 : Int))
 ((fulI 0 (lenN l17) (lenN l17)).bnd (fun _ =>
 (fulI 0 (lenN l15) (lenN l15)).bnd (fun _ =>
 (fulI 0 (lenN l16) (lenN l16)).bnd (fun _ =>
 some (Sum.inl ((i7, i5, i6), (i8, i9, l10), (i11, i12), (i13, i14), l15, l16, l17))))))
 (joinK (cnd (neI i19 (natI (lenN l17)))
 ((fulI 0 (lenN l16) (lenN l16)).bnd (fun _ =>
 (F_spec_l31Swap ((i13, i14, l16), natI (lenN l17), i19)).bnd (fun l20 =>
 (remI (subI .i64 i5 i6) i5).bnd (fun i21 =>
 (fulI 0 (lenN l17) (lenN l17)).bnd (fun _ =>
 (fulI 0 (lenN l15) (lenN l15)).bnd (fun _ =>
 (fulI 0 (lenN l16) (lenN l20)).bnd (fun _ =>
 some (Sum.inl ((i21, natI (lenN l17), i7, i5), (i8, i9, l10), (i11, i12), (i13, i14), l15, l20, l17)))))))))
 ((fulI 0 (lenN l17) (lenN l17)).bnd (fun _ =>
 (fulI 0 (lenN l15) (lenN l15)).bnd (fun _ =>
 (fulI 0 (lenN l16) (lenN l16)).bnd (fun _ =>
 some (Sum.inl ((i6, natI (lenN l17), i7, i5), (i8, i9, l10), (i11, i12), (i13, i14), l15, l16, l17)))))))
 (fun ((i22, i23, i24, i25), (i26, i27, l28), (i29, i30), (i31, i32), l33, l34, l35) =>
 (chkI (addI .i64 (mulI .i64 i23 i27) i24) (lenN l34)).bnd (fun k36 =>
 (getN l34 (addN 0 k36)).bnd (fun i37 =>
 (remI (mulI .i64 i22 i37) i25).bnd (fun i38 =>
 (F_spec_l31Inverse (i25, i37)).bnd (fun i39 =>
 joinK ((fulI 0 (lenN l35) (lenN l35)).bnd (fun _ =>
 (fulI 0 (lenN l33) (lenN l33)).bnd (fun _ =>
 (fulI 0 (lenN l34) (lenN l34)).bnd (fun _ =>
 loopT NN (fun (((i40, i41, i42, i43, i44, i45), (i46, i47, l48), (i49, i50), (i51, i52), l53, l54, l55) : ((Int × (Int × (Int × (Int × (Int × Int))))) × ((Int × (Int × (List Int))) × ((Int × Int) × ((Int × Int) × ((List Int) × ((List Int) × (List Int)))))))) =>
 cnd (ltI i45 i47)
 ((chkI (addI .i64 (mulI .i64 i43 i47) i45) (lenN l54)).bnd (fun k56 =>
 (getN l54 (addN 0 k56)).bnd (fun i57 =>
 (remI (mulI .i64 i57 i44) i40).bnd (fun i58 =>
 (chkI (addI .i64 (mulI .i64 i43 i47) i45) (lenN l54)).bnd (fun k59 =>
 (getN l54 (addN 0 k59)).bnd (fun i60 =>
 (fulI 0 (lenN l55) (lenN l55)).bnd (fun _ =>
 (fulI 0 (lenN l53) (lenN l53)).bnd (fun _ =>
 (fulI 0 (lenN l54) (lenN (setL l54 (addN 0 k59) i58))).bnd (fun _ =>
 some (Sum.inl ((i40, i41, i42, i43, i44, addI .i64 i45 1), (i46, i47, l48), (i49, i50), (i51, i52), l53, setL l54 (addN 0 k59) i58, l55)))))))))))
 (((fulI 0 (lenN l55) (lenN l55)).bnd (fun _ =>
 (fulI 0 (lenN l53) (lenN l53)).bnd (fun _ =>
 (fulI 0 (lenN l54) (lenN l54)).bnd (fun _ =>
 some (Sum.inl ((i41, i40, i42, i43), (i46, i47, l48), (i49, i50), (i51, i52), l53, l54, l55)))))).bnd (fun l61 =>
 some (Sum.inr l61))))
 ((i25, i38, i24, i23, i39, (0 : Int)), (i26, i27, l28), (i29, i30), (i31, i32), l33, l34, l35)))))
 (fun ((i62, i63, i64, i65), (i66, i67, l68), (i69, i70), (i71, i72), l73, l74, l75) =>
 joinK ((fulI 0 (lenN l75) (lenN l75)).bnd (fun _ =>
 (fulI 0 (lenN l73) (lenN l73)).bnd (fun _ =>
 (fulI 0 (lenN l74) (lenN l74)).bnd (fun _ =>
 loopT NN (fun (((i76, i77, i78, i79, i80), (i81, i82, l83), (i84, i85), (i86, i87), l88, l89, l90) : ((Int × (Int × (Int × (Int × Int)))) × ((Int × (Int × (List Int))) × ((Int × Int) × ((Int × Int) × ((List Int) × ((List Int) × (List Int)))))))) =>
 cnd (ltI i80 i81)
 (cnd (neI i80 i79)
 ((chkI (addI .i64 (mulI .i64 i80 i82) i78) (lenN l89)).bnd (fun k91 =>
 (getN l89 (addN 0 k91)).bnd (fun i92 =>
 (fulI 0 (lenN l89) (lenN l89)).bnd (fun _ =>
 (F_spec_l31Clear (i76, (i86, i87, l89), i80, i79, i92)).bnd (fun l93 =>
 (fulI 0 (lenN l90) (lenN l90)).bnd (fun _ =>
 (fulI 0 (lenN l88) (lenN l88)).bnd (fun _ =>
 (fulI 0 (lenN l89) (lenN l93)).bnd (fun _ =>
 some (Sum.inl ((i76, i77, i78, i79, addI .i64 i80 1), (i81, i82, l83), (i84, i85), (i86, i87), l88, l93, l90))))))))))
 ((fulI 0 (lenN l90) (lenN l90)).bnd (fun _ =>
 (fulI 0 (lenN l88) (lenN l88)).bnd (fun _ =>
 (fulI 0 (lenN l89) (lenN l89)).bnd (fun _ =>
 some (Sum.inl ((i76, i77, i78, i79, addI .i64 i80 1), (i81, i82, l83), (i84, i85), (i86, i87), l88, l89, l90)))))))
 (((fulI 0 (lenN l90) (lenN l90)).bnd (fun _ =>
 (fulI 0 (lenN l88) (lenN l88)).bnd (fun _ =>
 (fulI 0 (lenN l89) (lenN l89)).bnd (fun _ =>
 some (Sum.inl ((i78, i76, i77), (i81, i82, l83), (i84, i85), (i86, i87), l88, l89, l90)))))).bnd (fun l94 =>
 some (Sum.inr l94))))
 ((i63, i62, i64, i65, (0 : Int)), (i66, i67, l68), (i69, i70), (i71, i72), l73, l74, l75)))))
 (fun ((i95, i96, i97), (i98, i99, l100), (i101, i102), (i103, i104), l105, l106, l107) =>
 (fulI 0 (lenN l107) (lenN l107)).bnd (fun _ =>
 (winI ((i95 :: ([] : List Int))) 0 1).bnd (fun l108 =>
 (fitI (addN (lenN l107) (lenN l108)) 8).bnd (fun _ =>
 (fulI 0 (addN (lenN l107) (lenN l108)) (lenN (appL l107 l108))).bnd (fun _ =>
 (fulI 0 (lenN l105) (lenN l105)).bnd (fun _ =>
 (fulI 0 (lenN l106) (lenN l106)).bnd (fun _ =>
 some (Sum.inl ((i95, i96, i97), (i98, i99, l100), (i101, i102), (i103, i104), l105, l106, appL l107 l108)))))))))))))))))))
 (fun ((i109, i110, i111), (i112, i113, l114), (i115, i116), (i117, i118), l119, l120, l121) =>
 (fulI 0 (lenN l121) (lenN l121)).bnd (fun _ =>
 (fulI 0 (lenN l119) (lenN l119)).bnd (fun _ =>
 (fulI 0 (lenN l120) (lenN l120)).bnd (fun _ =>
 some (Sum.inl ((i110, i111, addI .i64 i109 1), (i112, i113, l114), (i115, i116), (i117, i118), l119, l120, l121)))))))
 (((fulI 0 (lenN l17) (lenN l17)).bnd (fun _ =>
 (fulI 0 (lenN l15) (lenN l15)).bnd (fun _ =>
 (fulI 0 (lenN l16) (lenN l16)).bnd (fun _ =>
 some (Sum.inl (i6, (i11, i12), (i13, i14), l15, l16, l17)))))).bnd (fun l122 =>
 some (Sum.inr l122))))
 (((fulI 0 (lenN l17) (lenN l17)).bnd (fun _ =>
 (fulI 0 (lenN l15) (lenN l15)).bnd (fun _ =>
 (fulI 0 (lenN l16) (lenN l16)).bnd (fun _ =>
 some (Sum.inl (i6, (i11, i12), (i13, i14), l15, l16, l17)))))).bnd (fun l123 =>
 some (Sum.inr l123))))
 ((i0, (1 : Int), (0 : Int)), (i1, i2, l3), ((0 : Int), (0 : Int)), (i1, i2), ([] : List Int), l4, ([] : List Int))))))
 (fun (i124, (i125, i126), (i127, i128), l129, l130, l131) =>
 (takI l130 (lenN l130)).bnd (fun l132 =>
 (takI l131 (lenN l131)).bnd (fun l133 =>
 some ((i127, i128, l132), l133, i124))))))

def G_impl_rawReduce (NN : Nat) : (Int × (Int × (Int × (List Int)))) → (Option ((Int × (Int × (List Int))) × (List Int))) :=
 (fun ((i0, i1, i2, l3) : (Int × (Int × (Int × (List Int))))) =>
 (F_impl_copyMatrix (i1, i2, l3)).bnd (fun (i4, i5, l6) =>
 joinK ((fulI 0 0 (lenN (([] : List Int)))).bnd (fun _ =>
 (fulI 0 0 (lenN (([] : List Int)))).bnd (fun _ =>
 (fulI 0 (lenN l6) (lenN l6)).bnd (fun _ =>
 loopT NN (fun (((i7, i8), (i9, i10), (i11, i12), l13, l14, l15) : ((Int × Int) × ((Int × Int) × ((Int × Int) × ((List Int) × ((List Int) × (List Int))))))) =>
 cnd (ltI i8 i12)
 (joinK (joinK ((fulI 0 (lenN l15) (lenN l15)).bnd (fun _ =>
 (fulI 0 (lenN l13) (lenN l13)).bnd (fun _ =>
 (fulI 0 (lenN l14) (lenN l14)).bnd (fun _ =>
 loopT NN (fun (((i16, i17, i18, i19), (i20, i21), (i22, i23), l24, l25, l26) : ((Int × (Int × (Int × Int))) × ((Int × Int) × ((Int × Int) × ((List Int) × ((List Int) × (List Int))))))) =>
 cnd (ltI i19 i22)
 ((winI l25 0 (lenN l25)).bnd (fun l27 =>
 (F_impl_Matrix_at ((i22, i23, l27), i19, i17)).bnd (fun i28 =>
 cnd (eqI i28 (0 : Int))
 ((fulI 0 (lenN l26) (lenN l26)).bnd (fun _ =>
 (fulI 0 (lenN l24) (lenN l24)).bnd (fun _ =>
 (fulI 0 (lenN l25) (lenN l25)).bnd (fun _ =>
 some (Sum.inl ((i16, i17, i18, addI .i64 i19 1), (i20, i21), (i22, i23), l24, l25, l26))))))
 (((fulI 0 (lenN l26) (lenN l26)).bnd (fun _ =>
 (fulI 0 (lenN l24) (lenN l24)).bnd (fun _ =>
 (fulI 0 (lenN l25) (lenN l25)).bnd (fun _ =>
 some (Sum.inl ((i19, i18, i17, i16), (i20, i21), (i22, i23), l24, l25, l26)))))).bnd (fun l29 =>
 some (Sum.inr l29))))))
 (((fulI 0 (lenN l26) (lenN l26)).bnd (fun _ =>
 (fulI 0 (lenN l24) (lenN l24)).bnd (fun _ =>
 (fulI 0 (lenN l25) (lenN l25)).bnd (fun _ =>
 some (Sum.inl ((i19, i18, i17, i16), (i20, i21), (i22, i23), l24, l25, l26)))))).bnd (fun l30 =>
 some (Sum.inr l30))))
 ((i7, i8, natI (lenN l15), natI (lenN l15)), (i9, i10), (i11, i12), l13, l14, l15)))))
 (fun ((i31, i32, i33, i34), (i35, i36), (i37, i38), l39, l40, l41) =>
 cnd (eqI i31 i37)
 ((fulI 0 (lenN l41) (lenN l41)).bnd (fun _ =>
 (fulI 0 (lenN l39) (lenN l39)).bnd (fun _ =>
 (fulI 0 (lenN l40) (lenN l40)).bnd (fun _ =>
 some (Sum.inl ((i33, i34), (i35, i36), (i37, i38), l39, l40, l41))))))
 ((fulI 0 (lenN l40) (lenN l40)).bnd (fun _ =>
 (F_impl_Matrix_swapRows ((i37, i38, l40), i32, i31)).bnd (fun l42 =>
 (winI l42 0 (lenN l40)).bnd (fun l43 =>
 (F_impl_Matrix_at ((i37, i38, l43), i32, i33)).bnd (fun i44 =>
 (F_impl_rawInverse (i34, i44)).bnd (fun i45 =>
 joinK ((fulI 0 (lenN l41) (lenN l41)).bnd (fun _ =>
 (fulI 0 (lenN l39) (lenN l39)).bnd (fun _ =>
 (fulI 0 (lenN l40) (lenN l42)).bnd (fun _ =>
 loopT NN (fun (((i46, i47, i48, i49, i50), (i51, i52), (i53, i54), l55, l56, l57) : ((Int × (Int × (Int × (Int × Int)))) × ((Int × Int) × ((Int × Int) × ((List Int) × ((List Int) × (List Int))))))) =>
 cnd (ltI i50 i54)
 ((winI l56 0 (lenN l56)).bnd (fun l58 =>
 (F_impl_Matrix_at ((i53, i54, l58), i48, i50)).bnd (fun i59 =>
 (remI (mulI .i64 i59 i49) i46).bnd (fun i60 =>
 (fulI 0 (lenN l56) (lenN l56)).bnd (fun _ =>
 (F_impl_Matrix_set ((i53, i54, l56), i48, i50, i60)).bnd (fun l61 =>
 (fulI 0 (lenN l57) (lenN l57)).bnd (fun _ =>
 (fulI 0 (lenN l55) (lenN l55)).bnd (fun _ =>
 (fulI 0 (lenN l56) (lenN l61)).bnd (fun _ =>
 some (Sum.inl ((i46, i47, i48, i49, addI .i64 i50 1), (i51, i52), (i53, i54), l55, l61, l57)))))))))))
 (((fulI 0 (lenN l57) (lenN l57)).bnd (fun _ =>
 (fulI 0 (lenN l55) (lenN l55)).bnd (fun _ =>
 (fulI 0 (lenN l56) (lenN l56)).bnd (fun _ =>
 some (Sum.inl ((i46, i47, i48), (i51, i52), (i53, i54), l55, l56, l57)))))).bnd (fun l62 =>
 some (Sum.inr l62))))
 ((i34, i33, i32, i45, (0 : Int)), (i35, i36), (i37, i38), l39, l42, l41)))))
 (fun ((i63, i64, i65), (i66, i67), (i68, i69), l70, l71, l72) =>
 joinK ((fulI 0 (lenN l72) (lenN l72)).bnd (fun _ =>
 (fulI 0 (lenN l70) (lenN l70)).bnd (fun _ =>
 (fulI 0 (lenN l71) (lenN l71)).bnd (fun _ =>
 loopT NN (fun (((i73, i74, i75, i76), (i77, i78), (i79, i80), l81, l82, l83) : ((Int × (Int × (Int × Int))) × ((Int × Int) × ((Int × Int) × ((List Int) × ((List Int) × (List Int))))))) =>
 cnd (ltI i76 i79)
 (cnd (neI i76 i75)
 ((winI l82 0 (lenN l82)).bnd (fun l84 =>
 (F_impl_Matrix_at ((i79, i80, l84), i76, i74)).bnd (fun i85 =>
 cnd (neI i85 (0 : Int))
 ((winI l82 0 (lenN l82)).bnd (fun l86 =>
 (F_impl_Matrix_at ((i79, i80, l86), i76, i74)).bnd (fun i87 =>
 (fulI 0 (lenN l82) (lenN l82)).bnd (fun _ =>
 (F_impl_Matrix_addRow ((i79, i80, l82), i73, i76, i75, subI .i64 i73 i87)).bnd (fun l88 =>
 (fulI 0 (lenN l83) (lenN l83)).bnd (fun _ =>
 (fulI 0 (lenN l81) (lenN l81)).bnd (fun _ =>
 (fulI 0 (lenN l82) (lenN l88)).bnd (fun _ =>
 some (Sum.inl ((i73, i74, i75, addI .i64 i76 1), (i77, i78), (i79, i80), l81, l88, l83))))))))))
 ((fulI 0 (lenN l83) (lenN l83)).bnd (fun _ =>
 (fulI 0 (lenN l81) (lenN l81)).bnd (fun _ =>
 (fulI 0 (lenN l82) (lenN l82)).bnd (fun _ =>
 some (Sum.inl ((i73, i74, i75, addI .i64 i76 1), (i77, i78), (i79, i80), l81, l82, l83)))))))))
 ((fulI 0 (lenN l83) (lenN l83)).bnd (fun _ =>
 (fulI 0 (lenN l81) (lenN l81)).bnd (fun _ =>
 (fulI 0 (lenN l82) (lenN l82)).bnd (fun _ =>
 some (Sum.inl ((i73, i74, i75, addI .i64 i76 1), (i77, i78), (i79, i80), l81, l82, l83)))))))
 (((fulI 0 (lenN l83) (lenN l83)).bnd (fun _ =>
 (fulI 0 (lenN l81) (lenN l81)).bnd (fun _ =>
 (fulI 0 (lenN l82) (lenN l82)).bnd (fun _ =>
 some (Sum.inl ((i74, i73), (i77, i78), (i79, i80), l81, l82, l83)))))).bnd (fun l89 =>
 some (Sum.inr l89))))
 ((i63, i64, i65, (0 : Int)), (i66, i67), (i68, i69), l70, l71, l72)))))
 (fun ((i90, i91), (i92, i93), (i94, i95), l96, l97, l98) =>
 (fulI 0 (lenN l98) (lenN l98)).bnd (fun _ =>
 (winI ((i90 :: ([] : List Int))) 0 1).bnd (fun l99 =>
 (fitI (addN (lenN l98) (lenN l99)) 8).bnd (fun _ =>
 (fulI 0 (addN (lenN l98) (lenN l99)) (lenN (appL l98 l99))).bnd (fun _ =>
 (fulI 0 (lenN l96) (lenN l96)).bnd (fun _ =>
 (fulI 0 (lenN l97) (lenN l97)).bnd (fun _ =>
 some (Sum.inl ((i90, i91), (i92, i93), (i94, i95), l96, l97, appL l98 l99))))))))))))))))))
 (fun ((i100, i101), (i102, i103), (i104, i105), l106, l107, l108) =>
 (fulI 0 (lenN l108) (lenN l108)).bnd (fun _ =>
 (fulI 0 (lenN l106) (lenN l106)).bnd (fun _ =>
 (fulI 0 (lenN l107) (lenN l107)).bnd (fun _ =>
 some (Sum.inl ((i101, addI .i64 i100 1), (i102, i103), (i104, i105), l106, l107, l108)))))))
 (((fulI 0 (lenN l15) (lenN l15)).bnd (fun _ =>
 (fulI 0 (lenN l13) (lenN l13)).bnd (fun _ =>
 (fulI 0 (lenN l14) (lenN l14)).bnd (fun _ =>
 some (Sum.inl ((i9, i10), (i11, i12), l13, l14, l15)))))).bnd (fun l109 =>
 some (Sum.inr l109))))
 ((i0, (0 : Int)), ((0 : Int), (0 : Int)), (i4, i5), ([] : List Int), l6, ([] : List Int))))))
 (fun ((i110, i111), (i112, i113), l114, l115, l116) =>
 (takI l115 (lenN l115)).bnd (fun l117 =>
 (takI l116 (lenN l116)).bnd (fun l118 =>
 some ((i112, i113, l117), l118))))))


theorem stop_ex (P : Nat → Prop) [DecidablePred P] : ∀ c : Nat, ∃ n, n ≤ c ∧ (∀ j, j < n → P j) ∧ (n = c ∨ ¬ P n)
  | 0 => ⟨0, Nat.le_refl 0, fun j hj => absurd hj (Nat.not_lt_zero j), .inl rfl⟩
  | c + 1 => by
    obtain ⟨n, h1, h2, h3⟩ := stop_ex P c
    by_cases h : P n
    · rcases h3 with h3 | h3
      · subst h3
        refine ⟨n + 1, Nat.le_refl _, fun j hj => ?_, .inl rfl⟩
        by_cases hj' : j = n
        · subst hj'; exact h
        · exact h2 j (by omega)
      · exact absurd h h3
    · exact ⟨n, by omega, h2, .inr h⟩

theorem swapF_in {p : Int} {r c : Nat} {M : Mat} (hM : inM p r c M) {a b : Nat} (ha : a < r) (hb : b < r) : inM p r c (swapF M a b) := by
  intro i hi j hj
  unfold swapF
  split
  · exact hM b hb j hj
  · split
    · exact hM a ha j hj
    · exact hM i hi j hj
theorem swapF_self (M : Mat) (a : Nat) : swapF M a a = M := by
  funext i j
  unfold swapF
  split
  · rename_i h; rw [h]
  · rfl
theorem sclF_in {p inv : Int} {r c : Nat} {M : Mat} (hp : pOk p) (hM : inM p r c M) (t : Nat) : inM p r c (sclF p inv M t) := by
  intro i hi j hj
  unfold sclF
  split
  · exact emod_in hp _
  · exact hM i hi j hj
theorem clrF_in {p : Int} {r c : Nat} {M : Mat} (hp : pOk p) (hM : inM p r c M) (t k n : Nat) : inM p r c (clrF p M t k n) := by
  intro i hi j hj
  unfold clrF
  split
  · exact emod_in hp _
  · exact hM i hi j hj
theorem one_in {p : Int} (hp : pOk p) : inP p 1 := ⟨by omega, by have := hp.1; omega⟩
theorem pivS_in {p : Int} {r c : Nat} {M : Mat} (hp : pOk p) (hM : inM p r c M) {t k : Nat} (ht : t < r) (hk : k < r) (j : Nat) : inM p r c (pivS p M t j k) := sclF_in hp (swapF_in hM ht hk) t

structure RI (p : Int) (r c : Nat) (s : Mat × List Int × Int) (j : Nat) : Prop where
  m : inM p r c s.1
  l : s.2.1.length ≤ r
  lj : s.2.1.length ≤ j
  d : inP p s.2.2
  e : ∀ x ∈ s.2.1, 0 ≤ x ∧ x < (j : Int)
theorem RI.step {p : Int} {r c : Nat} {s : Mat × List Int × Int} {j : Nat} (hp : pOk p) (h : RI p r c s j) : RI p r c (redS p r s j) (j + 1) := by
  have keep : RI p r c s (j + 1) := ⟨h.m, h.l, by have := h.lj; omega, h.d, fun x hx => by have := h.e x hx; omega⟩
  unfold redS
  split
  · rename_i hl
    split
    · exact keep
    · rename_i k hk
      have hq := pivF_lt hk
      refine ⟨clrF_in hp (pivS_in hp h.m hl (by omega) j) _ _ _, ?_, ?_, emod_in hp _, ?_⟩
      · simp only [List.length_append, List.length_cons, List.length_nil]; omega
      · have := h.lj
        simp only [List.length_append, List.length_cons, List.length_nil]; omega
      · intro x hx
        simp only [List.mem_append, List.mem_singleton] at hx
        rcases hx with hx | rfl
        · have := h.e x hx; omega
        · omega
  · exact keep
theorem redN_I {p : Int} {r c : Nat} {M : Mat} (hp : pOk p) (hM : inM p r c M) : ∀ j, RI p r c (redN p r M j) j
  | 0 => ⟨hM, Nat.zero_le _, Nat.le_refl 0, one_in hp, fun x hx => absurd hx (List.not_mem_nil)⟩
  | j + 1 => (redN_I hp hM j).step hp
theorem redN_stop {p : Int} {r : Nat} {M : Mat} {n : Nat} (h : ¬ (redN p r M n).2.1.length < r) : ∀ d, redN p r M (n + d) = redN p r M n
  | 0 => rfl
  | d + 1 => by
    have ih := redN_stop h d
    show redS p r (redN p r M (n + d)) (n + d) = _
    rw [ih, redS, if_neg h]

theorem scl_step {r c : Nat} {p inv : Int} (M : Mat) (t n : Nat) : genD r c (updM (sclTo p inv M t n) t n (M t n * inv % p)) = genD r c (sclTo p inv M t (n + 1)) := by
  refine genD_congr fun a _ b _ => ?_
  unfold updM sclTo
  by_cases h : a = t ∧ b = n
  · obtain ⟨rfl, rfl⟩ := h
    simp
  · rw [if_neg h]
    by_cases h1 : a = t ∧ b < n
    · rw [if_pos h1, if_pos ⟨h1.1, by omega⟩]
    · rw [if_neg h1, if_neg (by omega)]
theorem sclTo_0 {p inv : Int} (M : Mat) (t : Nat) : sclTo p inv M t 0 = M := by funext a b; exact if_neg (by omega)
theorem sclTo_old {p inv : Int} (M : Mat) (t n : Nat) : sclTo p inv M t n t n = M t n := if_neg (by omega)
theorem sclTo_end {r c : Nat} {p inv : Int} (M : Mat) (t : Nat) : genD r c (sclTo p inv M t c) = genD r c (sclF p inv M t) := by
  refine genD_congr fun a _ b hb => ?_
  unfold sclTo sclF
  by_cases h : a = t
  · rw [if_pos ⟨h, hb⟩, if_pos h]
  · rw [if_neg (fun q => h q.1), if_neg h]
theorem clrF_0 {p : Int} (M : Mat) (t j : Nat) : clrF p M t j 0 = M := by funext a b; exact if_neg (by omega)
theorem clrF_old {p : Int} (M : Mat) (t j n b : Nat) : clrF p M t j n n b = M n b := if_neg (by omega)
theorem clrF_t {p : Int} (M : Mat) (t j n b : Nat) : clrF p M t j n t b = M t b := if_neg (by omega)
theorem clrF_skip {p : Int} (M : Mat) (t j : Nat) : clrF p M t j (t + 1) = clrF p M t j t := by
  funext a b
  unfold clrF
  by_cases h : a < t
  · rw [if_pos (by omega), if_pos (by omega)]
  · rw [if_neg (by omega), if_neg (by omega)]
theorem clr_step {r c : Nat} {p : Int} (M : Mat) (t j n : Nat) (hn : n ≠ t) : genD r c (clearF p (clrF p M t j n) n t (p - M n j)) = genD r c (clrF p M t j (n + 1)) := by
  refine genD_congr fun a _ b _ => ?_
  unfold clearF
  by_cases h : a = n
  · subst h
    rw [if_pos rfl, clrF_old, clrF_t]
    exact (if_pos ⟨by omega, hn⟩).symm
  · rw [if_neg h]
    unfold clrF
    by_cases h1 : a < n ∧ a ≠ t
    · rw [if_pos h1, if_pos ⟨by omega, h1.2⟩]
    · rw [if_neg h1, if_neg (by omega)]
theorem clr_zero {r c : Nat} {p : Int} (M : Mat) (t j n : Nat) (hM : inM p r c M) (h0 : M n j = 0) : genD r c (clrF p M t j n) = genD r c (clrF p M t j (n + 1)) := by
  refine genD_congr fun a ha b hb => ?_
  unfold clrF
  by_cases h : a = n
  · subst h
    rw [if_neg (by omega)]
    by_cases ht : a = t
    · rw [if_neg (by omega)]
    · rw [if_pos ⟨by omega, ht⟩, h0, Int.sub_zero, Int.add_mul_emod_self_left]
      exact (Int.emod_eq_of_lt (hM a ha b hb).1 (hM a ha b hb).2).symm
  · by_cases h1 : a < n ∧ a ≠ t
    · rw [if_pos h1, if_pos ⟨by omega, h1.2⟩]
    · rw [if_neg h1, if_neg (by omega)]
theorem pivF_none {M : Mat} {j : Nat} : ∀ {d k : Nat}, pivF M j d k = none → ∀ i, k ≤ i → i < k + d → M i j = 0
  | 0, k, _, i, h1, h2 => by omega
  | d + 1, k, h, i, h1, h2 => by
    simp only [pivF] at h
    split at h
    · rename_i h0
      by_cases hi : i = k
      · rw [hi]; exact h0
      · exact pivF_none h i (by omega) (by omega)
    · cases h
theorem pivF_before {M : Mat} {j q : Nat} : ∀ {d k : Nat}, pivF M j d k = some q → ∀ i, k ≤ i → i < q → M i j = 0
  | 0, k, h, i, h1, h2 => by cases h
  | d + 1, k, h, i, h1, h2 => by
    simp only [pivF] at h
    split at h
    · rename_i h0
      by_cases hi : i = k
      · rw [hi]; exact h0
      · exact pivF_before h i (by omega) h2
    · have := Option.some.inj h; omega
theorem subR {p d : Int} (hp : pOk p) (hd : inP p d) : remI (subI .i64 p d) p = some ((p - d) % p) := by
  have h1 := hp.1; have h2 := hp.2; have h3 := hd.1; have h4 := hd.2
  rw [subI_eq (by omega) (by omega), remN (by omega) (by omega)]
theorem redS_n {p : Int} {r : Nat} {s : Mat × List Int × Int} {j : Nat} (hl : s.2.1.length < r) (h : pivF s.1 j (r - s.2.1.length) s.2.1.length = none) : redS p r s j = s := by
  unfold redS
  rw [if_pos hl, h]
theorem redS_s {p : Int} {r : Nat} {s : Mat × List Int × Int} {j k : Nat} (hl : s.2.1.length < r) (h : pivF s.1 j (r - s.2.1.length) s.2.1.length = some k) :
    redS p r s j = (clrF p (pivS p s.1 s.2.1.length j k) s.2.1.length j r, s.2.1 ++ [(j : Int)], redD p s.1 s.2.1.length j k s.2.2) := by
  unfold redS
  rw [if_pos hl, h]
theorem inv_nat {p x : Int} (hp : pOk p) (hx : inP p x) : F_spec_l31Inverse (p, x) = some (invG p 1 x (p - 2).toNat) := if_pos ⟨hp, hx⟩
theorem invI_nat {p x : Int} (hp : pOk p) (hx : inP p x) : F_impl_rawInverse (p, x) = some (invG p 1 x (p - 2).toNat) := if_pos ⟨hp, hx⟩
theorem winI_gen {r c : Nat} (M M' : Mat) : winI (genD r c M) 0 (lenN (genD r c M')) = some (genD r c M) := winI_len (by rw [lenN_gen]; exact (genD_len r c M))
/-! ### the walk of the spec's reduction -/

theorem cnd_eq {α : Type} {b : Bool} {u v x : α} (h1 : b = true → u = x) (h2 : b = false → v = x) : cnd b u v = x := by
  cases b
  · exact h2 rfl
  · exact h1 rfl

section
variable {p : Int} {r c : Nat} {M0 : Mat}

abbrev stS (p : Int) (r c : Nat) (L0 : List Int) (s : Mat × List Int × Int) (j : Nat) : (Int × Int × Int) × (Int × Int × List Int) × (Int × Int) × (Int × Int) × List Int × List Int × List Int :=
  ((p, s.2.2, (j : Int)), ((r : Int), (c : Int), L0), ((0 : Int), (0 : Int)), ((r : Int), (c : Int)), ([] : List Int), genD r c s.1, s.2.1)

theorem g_redS (hp : pOk p) (hr : r ≤ 4096) (hc : c ≤ 4096) (hrc : r * c ≤ 1048576) (hM : inM p r c M0) :
    G_spec_l31Reduce FUEL (p, (r : Int), (c : Int), genD r c M0) = some (((r : Int), (c : Int), genD r c (redN p r M0 c).1), (redN p r M0 c).2.1, (redN p r M0 c).2.2) := by
  obtain ⟨n, hn, hlt, hend⟩ := stop_ex (fun j => (redN p r M0 j).2.1.length < r) c
  have hfin : redN p r M0 c = redN p r M0 n := by
    rcases hend with e | e
    · rw [e]
    · obtain ⟨d, rfl⟩ : ∃ d, c = n + d := ⟨c - n, by omega⟩
      exact redN_stop e d
  rw [hfin]
  have hlen : (genD r c M0).length ≤ 1099511627776 := by rw [genD_len]; omega
  simp only [G_spec_l31Reduce, F_spec_l05Ints, if_pos hlen, bnd_s, fulI_id]
  rw [loopT_seq (r := Sum.inl ((redN p r M0 n).2.2, ((0 : Int), (0 : Int)), ((r : Int), (c : Int)), ([] : List Int), genD r c (redN p r M0 n).1, (redN p r M0 n).2.1)) (fun j => stS p r c (genD r c M0) (redN p r M0 j) j) n ?_ ?_ ?_ (FUEL_gt (by omega))]
  · rw [show fulI 0 0 (lenN ([] : List Int)) = some () from rfl]; simp only [bnd_s]; rw [joinK_l]; simp only [takI_id, bnd_s]
  · intro j hj
    have hI := redN_I hp hM (r := r) (c := c) j
    have hl := hlt j hj
    generalize hs : redN p r M0 j = s at hI hl ⊢
    have hS : redN p r M0 (j + 1) = redS p r s j := by rw [← hs]; rfl
    obtain ⟨M, L, d⟩ := s
    simp only at hl
    have hM' : inM p r c M := hI.m
    have hId : inP p d := hI.d
    simp only [stS]
    rw [cnd_t (ltN_t (show j < c by omega)), cnd_t (show ltI (natI (lenN L)) (r : Int) = true from ltN_t hl)]
    simp only [winI_id, bnd_s]
    rw [show natI (lenN L) = ((L.length : Nat) : Int) from rfl, pivot_nat hr hc hrc (show L.length ≤ r by omega) (show j < c by omega), bnd_s]
    cases hk : pivF M j (r - L.length) L.length with
    | none =>
      rw [hS, redS_n (s := (M, L, d)) hl hk, cnd_t (show ltI (pivI none) 0 = true from rfl), joinK_l]
      simp only [addN1 (show j ≤ 1048577 by omega)]
    | some k =>
      obtain ⟨hq1, hq2, hq3⟩ := pivF_lt hk
      have hkr : k < r := by omega
      rw [hS, redS_s (s := (M, L, d)) hl hk, cnd_f (show ltI (pivI (some k)) 0 = false from ltI_f (by show (0 : Int) ≤ (k : Int); omega))]
      have hb1 := swapF_in hM' hl hkr
      have hx := hb1 L.length hl j (by omega)
      have hinv := invG_in hp (p - 2).toNat 1 (swapF M L.length k L.length j) (one_in hp)
      have hd' : inP p (if k = L.length then d else (p - d) % p) := by split; exact hId; exact emod_in hp _
      rw [cnd_eq (b := neI (pivI (some k)) ((L.length : Nat) : Int)) (x := some (Sum.inl (((if k = L.length then d else (p - d) % p), ((L.length : Nat) : Int), (j : Int), p), ((r : Int), (c : Int), genD r c M0), ((0 : Int), (0 : Int)), ((r : Int), (c : Int)), ([] : List Int), genD r c (swapF M L.length k), L))) ?_ ?_]
      · rw [joinK_l]
        simp only [idxI (show L.length ≤ 1048576 by omega) (show c ≤ 1048576 by omega) (show j ≤ 1048576 by omega), chkI_gen _ hl (show j < c by omega), bnd_s, addN_0, getN_gen _ hl (show j < c by omega)]
        rw [mulR hp hd'.le hx.le, bnd_s, inv_nat hp hx, bnd_s]
        rw [loopT_seq (r := Sum.inl ((redD p M L.length j k d, p, (j : Int), ((L.length : Nat) : Int)), ((r : Int), (c : Int), genD r c M0), ((0 : Int), (0 : Int)), ((r : Int), (c : Int)), ([] : List Int), genD r c (pivS p M L.length j k), L)) (fun b => ((p, redD p M L.length j k d, (j : Int), ((L.length : Nat) : Int), invG p 1 (swapF M L.length k L.length j) (p - 2).toNat, (b : Int)), ((r : Int), (c : Int), genD r c M0), ((0 : Int), (0 : Int)), ((r : Int), (c : Int)), ([] : List Int), genD r c (sclTo p (invG p 1 (swapF M L.length k L.length j) (p - 2).toNat) (swapF M L.length k) L.length b), L)) c ?_ ?_ ?_ (FUEL_gt (by omega))]
        · rw [joinK_l]
          simp only
          have hP : inM p r c (pivS p M L.length j k) := pivS_in hp hM' hl hkr j
          generalize pivS p M L.length j k = P at hP ⊢
          generalize hD : redD p M L.length j k d = D
          rw [loopT_seq (r := Sum.inl (((j : Int), p, D), ((r : Int), (c : Int), genD r c M0), ((0 : Int), (0 : Int)), ((r : Int), (c : Int)), ([] : List Int), genD r c (clrF p P L.length j r), L)) (fun a => ((p, D, (j : Int), ((L.length : Nat) : Int), (a : Int)), ((r : Int), (c : Int), genD r c M0), ((0 : Int), (0 : Int)), ((r : Int), (c : Int)), ([] : List Int), genD r c (clrF p P L.length j a), L)) r ?_ ?_ ?_ (FUEL_gt (by omega))]
          · rw [joinK_l]
            simp only
            rw [winI_len (xs := [(j : Int)]) (n := 1) rfl, bnd_s, fitI_ok (by simp only [addN, lenN, maxBytes, List.length_cons, List.length_nil]; omega), bnd_s, lenN_appL, fulI_id, bnd_s, joinK_l]
            simp only [addN1 (show j ≤ 1048577 by omega), ← hD]
            rfl
          · intro a ha
            simp only
            rw [cnd_t (ltN_t ha)]
            by_cases hat : a = L.length
            · rw [cnd_f (neI_f (by omega))]
              simp only [addN1 (show a ≤ 1048577 by omega)]
              rw [hat, clrF_skip]
            · rw [cnd_t (neI_t (by omega))]
              simp only [idxI (show a ≤ 1048576 by omega) (show c ≤ 1048576 by omega) (show j ≤ 1048576 by omega), chkI_gen _ ha (show j < c by omega), bnd_s, addN_0, getN_gen _ ha (show j < c by omega), clrF_old]
              rw [clear_nat hp hr hc hrc ha hl (hP a ha j (by omega)).le (clrF_in hp hP _ _ _)]
              simp only [bnd_s, fulI_gen, addN1 (show a ≤ 1048577 by omega)]
              rw [clr_step P L.length j a hat]
          · simp only
            rw [cnd_f (ltN_f (Nat.le_refl r))]
          · rw [clrF_0]
            rfl
        · intro b hb
          simp only
          rw [cnd_t (ltN_t hb)]
          simp only [idxI (show L.length ≤ 1048576 by omega) (show c ≤ 1048576 by omega) (show b ≤ 1048576 by omega), chkI_gen _ hl hb, bnd_s, addN_0, getN_gen _ hl hb, sclTo_old]
          rw [mulR hp (hb1 L.length hl b hb).le hinv.le]
          simp only [bnd_s, setL_gen _ hb, fulI_gen, scl_step, addN1 (show b ≤ 1048577 by omega)]
        · simp only
          rw [cnd_f (ltN_f (Nat.le_refl c)), sclTo_end]
          rfl
        · rw [sclTo_0]
          rfl
      · intro hne
        have hne' : k ≠ L.length := by
          intro q; subst q; rw [show neI (pivI (some L.length)) ((L.length : Nat) : Int) = false from neI_f rfl] at hne; cases hne
        rw [if_neg hne', show pivI (some k) = (k : Int) from rfl, swap_nat hr hc hrc hl hkr, bnd_s, subR hp hId]
        simp only [bnd_s, fulI_gen]
      · intro heq
        have heq' : k = L.length := by
          by_cases q : k = L.length
          · exact q
          · rw [show neI (pivI (some k)) ((L.length : Nat) : Int) = true from neI_t (by show ((k : Nat) : Int) ≠ _; omega)] at heq; cases heq
        rw [if_pos heq', heq', swapF_self]
  · simp only [stS]
    by_cases hnc : n = c
    · subst hnc
      rw [cnd_f (ltN_f (Nat.le_refl n))]
    · have he : r ≤ (redN p r M0 n).2.1.length := by
        rcases hend with e | e
        · exact absurd e hnc
        · exact Nat.le_of_not_lt e
      rw [cnd_t (ltN_t (show n < c by omega)), cnd_f (show ltI (natI (lenN (redN p r M0 n).2.1)) (r : Int) = false from ltN_f he)]
  · rfl
end
/-! ### the walk of the program's reduction -/

section
variable {p : Int} {r c : Nat} {M0 : Mat}

abbrev stI (p : Int) (r c : Nat) (s : Mat × List Int × Int) (j : Nat) : (Int × Int) × (Int × Int) × (Int × Int) × List Int × List Int × List Int :=
  ((p, (j : Int)), ((0 : Int), (0 : Int)), ((r : Int), (c : Int)), ([] : List Int), genD r c s.1, s.2.1)

theorem g_redI (hp : pOk p) (hr : r ≤ 4096) (hc : c ≤ 4096) (hrc : r * c ≤ 1048576) (hM : inM p r c M0) :
    G_impl_rawReduce FUEL (p, (r : Int), (c : Int), genD r c M0) = some (((r : Int), (c : Int), genD r c (redN p r M0 c).1), (redN p r M0 c).2.1) := by
  have hlen : (genD r c M0).length ≤ 1099511627776 := by rw [genD_len]; omega
  simp only [G_impl_rawReduce, F_impl_copyMatrix, if_pos hlen, bnd_s, fulI_id]
  rw [loopT_seq (r := Sum.inl (((0 : Int), (0 : Int)), ((r : Int), (c : Int)), ([] : List Int), genD r c (redN p r M0 c).1, (redN p r M0 c).2.1)) (fun j => stI p r c (redN p r M0 j) j) c ?_ ?_ ?_ (FUEL_gt (by omega))]
  · rw [show fulI 0 0 (lenN ([] : List Int)) = some () from rfl]; simp only [bnd_s]; rw [joinK_l]; simp only [takI_id, bnd_s]
  · intro j hj
    have hI := redN_I hp hM (r := r) (c := c) j
    generalize hs : redN p r M0 j = s at hI ⊢
    have hS : redN p r M0 (j + 1) = redS p r s j := by rw [← hs]; rfl
    obtain ⟨M, L, d⟩ := s
    have hM' : inM p r c M := hI.m
    have hl0 : L.length ≤ r := hI.l
    have hlj : L.length ≤ j := hI.lj
    simp only [stI]
    rw [cnd_t (ltN_t hj)]
    have search : ∃ k : Nat, L.length ≤ k ∧ k ≤ r ∧ (∀ i, L.length ≤ i → i < k → M i j = 0) ∧ ((k = r ∧ redS p r (M, L, d) j = (M, L, d)) ∨ (k < r ∧ M k j ≠ 0 ∧ L.length < r ∧ redS p r (M, L, d) j = (clrF p (pivS p M L.length j k) L.length j r, L ++ [(j : Int)], redD p M L.length j k d))) := by
      by_cases hl : L.length < r
      · cases hk : pivF M j (r - L.length) L.length with
        | none => exact ⟨r, hl0, Nat.le_refl r, fun i h1 h2 => pivF_none hk i h1 (by omega), .inl ⟨rfl, redS_n (s := (M, L, d)) hl hk⟩⟩
        | some k =>
          obtain ⟨q1, q2, q3⟩ := pivF_lt hk
          exact ⟨k, q1, by omega, fun i h1 h2 => pivF_before hk i h1 h2, .inr ⟨by omega, q3, hl, redS_s (s := (M, L, d)) hl hk⟩⟩
      · refine ⟨r, hl0, Nat.le_refl r, fun i h1 h2 => by omega, .inl ⟨rfl, ?_⟩⟩
        unfold redS
        exact if_neg hl
    obtain ⟨k, hk1, hk2, hk3, hk4⟩ := search
    rw [loopT_seq (r := Sum.inl (((k : Int), ((L.length : Nat) : Int), (j : Int), p), ((0 : Int), (0 : Int)), ((r : Int), (c : Int)), ([] : List Int), genD r c M, L)) (fun e => ((p, (j : Int), ((L.length : Nat) : Int), ((L.length + e : Nat) : Int)), ((0 : Int), (0 : Int)), ((r : Int), (c : Int)), ([] : List Int), genD r c M, L)) (k - L.length) ?_ ?_ ?_ (FUEL_gt (by omega))]
    · rw [joinK_l]
      simp only
      rcases hk4 with ⟨hkr, hS2⟩ | ⟨hkr, hne, hl, hS2⟩
      · rw [hS, hS2, cnd_t (eqI_t (by omega)), joinK_l]
        simp only [addN1 (show j ≤ 1048577 by omega)]
      · rw [hS, hS2, cnd_f (eqI_f (by omega))]
        have hb1 := swapF_in hM' hl hkr
        have hx := hb1 L.length hl j hj
        have hinv := invG_in hp (p - 2).toNat 1 (swapF M L.length k L.length j) (one_in hp)
        rw [show F_impl_Matrix_swapRows (((r : Int), (c : Int), genD r c M), ((L.length : Nat) : Int), (k : Int)) = some (genD r c (swapF M L.length k)) from swap_nat hr hc hrc hl hkr, bnd_s, winI_gen, bnd_s, at_nat hr hc hrc hl hj, bnd_s, invI_nat hp hx, bnd_s]
        simp only [fulI_gen, bnd_s]
        rw [loopT_seq (r := Sum.inl ((p, (j : Int), ((L.length : Nat) : Int)), ((0 : Int), (0 : Int)), ((r : Int), (c : Int)), ([] : List Int), genD r c (pivS p M L.length j k), L)) (fun b => ((p, (j : Int), ((L.length : Nat) : Int), invG p 1 (swapF M L.length k L.length j) (p - 2).toNat, (b : Int)), ((0 : Int), (0 : Int)), ((r : Int), (c : Int)), ([] : List Int), genD r c (sclTo p (invG p 1 (swapF M L.length k L.length j) (p - 2).toNat) (swapF M L.length k) L.length b), L)) c ?_ ?_ ?_ (FUEL_gt (by omega))]
        · rw [joinK_l]
          simp only
          have hP : inM p r c (pivS p M L.length j k) := pivS_in hp hM' hl hkr j
          generalize pivS p M L.length j k = P at hP ⊢
          rw [loopT_seq (r := Sum.inl (((j : Int), p), ((0 : Int), (0 : Int)), ((r : Int), (c : Int)), ([] : List Int), genD r c (clrF p P L.length j r), L)) (fun a => ((p, (j : Int), ((L.length : Nat) : Int), (a : Int)), ((0 : Int), (0 : Int)), ((r : Int), (c : Int)), ([] : List Int), genD r c (clrF p P L.length j a), L)) r ?_ ?_ ?_ (FUEL_gt (by omega))]
          · rw [joinK_l]
            simp only
            rw [winI_len (xs := [(j : Int)]) (n := 1) rfl, bnd_s, fitI_ok (by simp only [addN, lenN, maxBytes, List.length_cons, List.length_nil]; omega), bnd_s, lenN_appL, fulI_id, bnd_s, joinK_l]
            simp only [addN1 (show j ≤ 1048577 by omega)]
            rfl
          · intro a ha
            simp only
            rw [cnd_t (ltN_t ha)]
            by_cases hat : a = L.length
            · rw [cnd_f (neI_f (by omega))]
              simp only [addN1 (show a ≤ 1048577 by omega)]
              rw [hat, clrF_skip]
            · rw [cnd_t (neI_t (by omega)), winI_gen, bnd_s, at_nat hr hc hrc ha hj, bnd_s, clrF_old]
              have hPa := hP a ha j hj
              by_cases h0 : P a j = 0
              · rw [cnd_f (neI_f h0)]
                simp only [addN1 (show a ≤ 1048577 by omega)]
                rw [clr_zero P L.length j a hP h0]
              · rw [cnd_t (neI_t h0), bnd_s, at_nat hr hc hrc ha hj, bnd_s, clrF_old]
                have hs : subI .i64 p (P a j) = p - P a j := by
                  have h1 := hp.1; have h2 := hp.2; have h3 := hPa.1; have h4 := hPa.2
                  exact subI_eq (by omega) (by omega)
                rw [hs, addRow_nat hp hr hc hrc ha hl (by have h3 := hPa.1; have h4 := hPa.2; omega) (clrF_in hp hP _ _ _)]
                simp only [bnd_s, fulI_gen, addN1 (show a ≤ 1048577 by omega)]
                rw [clr_step P L.length j a hat]
          · simp only
            rw [cnd_f (ltN_f (Nat.le_refl r))]
          · rw [clrF_0]
            rfl
        · intro b hb
          simp only
          rw [cnd_t (ltN_t hb), winI_gen, bnd_s, at_nat hr hc hrc hl hb, bnd_s, sclTo_old, mulR hp (hb1 L.length hl b hb).le hinv.le, bnd_s, set_nat hr hc hrc hl hb]
          simp only [bnd_s, fulI_gen, scl_step, addN1 (show b ≤ 1048577 by omega)]
        · simp only
          rw [cnd_f (ltN_f (Nat.le_refl c)), sclTo_end]
          rfl
        · rw [sclTo_0]
          rfl
    · intro e he
      simp only
      rw [cnd_t (ltN_t (show L.length + e < r by omega)), winI_id, bnd_s, at_nat hr hc hrc (show L.length + e < r by omega) hj, bnd_s, cnd_t (eqI_t (hk3 _ (by omega) (by omega)))]
      simp only [addN1 (show L.length + e ≤ 1048577 by omega)]
      rfl
    · have e1 : L.length + (k - L.length) = k := by omega
      simp only [e1]
      by_cases hkr : k < r
      · have hne : M k j ≠ 0 := by
          rcases hk4 with ⟨h1, _⟩ | ⟨_, h1, _⟩
          · omega
          · exact h1
        rw [cnd_t (ltN_t hkr), winI_id, bnd_s, at_nat hr hc hrc hkr hj, bnd_s, cnd_f (eqI_f hne)]
      · rw [cnd_f (ltN_f (by omega))]
    · rfl
  · simp only [stI]
    rw [cnd_f (ltN_f (Nat.le_refl c))]
  · rfl
end

theorem redOk_nat {x : Int × Int × Int × List Int} (h : redOk x) : ∃ (p : Int) (r c : Nat) (M : Mat), x = (p, (r : Int), (c : Int), genD r c M) ∧ pOk p ∧ r ≤ 4096 ∧ c ≤ 4096 ∧ r * c ≤ 1048576 ∧ inM p r c M ∧ M = ofD c (genD r c M) := by
  obtain ⟨p, x⟩ := x
  obtain ⟨hp, hm, ha⟩ := h
  obtain ⟨r, c, M, rfl, h1, h2, h3⟩ := mOk_gen hm
  simp only at hp ha
  have e : genD r c (ofD c (genD r c M)) = genD r c M := genD_of (genD_len r c M)
  exact ⟨p, r, c, ofD c (genD r c M), by rw [e], hp, h1, h2, h3, allP_gen.1 (by rw [e]; exact ha), by rw [e]⟩
theorem f_spec_l31Reduce (x : Int × Int × Int × List Int) (y : (Int × Int × List Int) × List Int × Int) (h : F_spec_l31Reduce x = some y) : G_spec_l31Reduce FUEL x = some y := by
  simp only [F_spec_l31Reduce] at h
  split at h
  · rename_i hc
    obtain ⟨p, r, c, M, rfl, hp, h1, h2, h3, hM, e⟩ := redOk_nat hc
    rw [← h, g_redS hp h1 h2 h3 hM]
    simp only [redX, Int.toNat_natCast, ← e]
  · cases h
theorem f_impl_rawReduce (x : Int × Int × Int × List Int) (y : (Int × Int × List Int) × List Int) (h : F_impl_rawReduce x = some y) : G_impl_rawReduce FUEL x = some y := by
  simp only [F_impl_rawReduce] at h
  split at h
  · rename_i hc
    obtain ⟨p, r, c, M, rfl, hp, h1, h2, h3, hM, e⟩ := redOk_nat hc
    rw [← h, g_redI hp h1 h2 h3 hM]
    simp only [redX, Int.toNat_natCast, ← e]
  · cases h
end Go.Am
end
section
namespace Go.Am
/-! ### ranks, reduced forms and factors of good matrices -/

def pickF (M : Mat) (L : List Int) : Mat := fun i t => M i (L.getD t 0).toNat
def facX (x : Int × Int × Int × List Int) : (Int × Int × List Int) × (Int × Int × List Int) :=
  ((x.2.1, ((redX x).2.1.length : Int), genD x.2.1.toNat (redX x).2.1.length (pickF (ofD x.2.2.1.toNat x.2.2.2) (redX x).2.1)),
   (((redX x).2.1.length : Int), x.2.2.1, (genD x.2.1.toNat x.2.2.1.toNat (redX x).1).take ((redX x).2.1.length * x.2.2.1.toNat)))
def F_spec_l31Factor : Int × Int × Int × List Int → Option ((Int × Int × List Int) × (Int × Int × List Int)) := fun (x : Int × Int × Int × List Int) => if redOk x then some (facX x) else none
def F_spec_FactorMatrix : Int × Int × Int × List Int → Option ((Int × Int × List Int) × (Int × Int × List Int) × Bool) := fun (x : Int × Int × Int × List Int) =>
  if sz_Matrix x.2 ≤ 1048576 then some (if matOk x.1 x.2 = true then ((facX x).1, (facX x).2, true) else ((0, 0, []), (0, 0, []), false)) else none
def F_impl_FactorMatrix : Int × Int × Int × List Int → Option ((Int × Int × List Int) × (Int × Int × List Int) × Bool) := F_spec_FactorMatrix

def ag_spec_l31Factor : Sig := [(.one, [.int .i64]), (.agg, [.int .i64, .int .i64, .list [.int .i64]])]
def rs_spec_l31Factor : Sig := [(.agg, [.int .i64, .int .i64, .list [.int .i64]]), (.agg, [.int .i64, .int .i64, .list [.int .i64]])]
def mu_spec_l31Factor : MSig := []
def ag_impl_FactorMatrix : Sig := [(.one, [.int .i64]), (.agg, [.int .i64, .int .i64, .list [.int .i64]])]
def rs_impl_FactorMatrix : Sig := [(.agg, [.int .i64, .int .i64, .list [.int .i64]]), (.agg, [.int .i64, .int .i64, .list [.int .i64]]), (.one, [.bool])]
def mu_impl_FactorMatrix : MSig := []

def G_spec_l31Factor (NN : Nat) : (Int × (Int × (Int × (List Int)))) → (Option ((Int × (Int × (List Int))) × (Int × (Int × (List Int))))) :=
 (fun ((i0, i1, i2, l3) : (Int × (Int × (Int × (List Int))))) =>
 (F_spec_l31Reduce (i0, i1, i2, l3)).bnd (fun ((i4, i5, l6), l7, i8) =>
 (F_spec_l31New (i1, natI (lenN l7))).bnd (fun (i9, i10, l11) =>
 joinK ((fulI 0 (lenN l7) (lenN l7)).bnd (fun _ =>
 (fulI 0 0 (lenN (([] : List Int)))).bnd (fun _ =>
 (fulI 0 0 (lenN (([] : List Int)))).bnd (fun _ =>
 (fulI 0 (lenN l6) (lenN l6)).bnd (fun _ =>
 (fulI 0 (lenN l11) (lenN l11)).bnd (fun _ =>
 loopT NN (fun ((i12, (i13, i14, l15), (i16, i17), (i18, i19), (i20, i21), (i22, i23), l24, l25, l26, l27, l28) : (Int × ((Int × (Int × (List Int))) × ((Int × Int) × ((Int × Int) × ((Int × Int) × ((Int × Int) × ((List Int) × ((List Int) × ((List Int) × ((List Int) × (List Int)))))))))))) =>
 cnd (ltI i12 i13)
 (joinK ((fulI 0 (lenN l28) (lenN l28)).bnd (fun _ =>
 (fulI 0 (lenN l28) (lenN l28)).bnd (fun _ =>
 (fulI 0 (lenN l24) (lenN l24)).bnd (fun _ =>
 (fulI 0 (lenN l25) (lenN l25)).bnd (fun _ =>
 (fulI 0 (lenN l26) (lenN l26)).bnd (fun _ =>
 (fulI 0 (lenN l27) (lenN l27)).bnd (fun _ =>
 loopT NN (fun (((i29, i30, i31), (i32, i33, l34), (i35, i36), (i37, i38), (i39, i40), (i41, i42), l43, l44, l45, l46, l47) : ((Int × (Int × Int)) × ((Int × (Int × (List Int))) × ((Int × Int) × ((Int × Int) × ((Int × Int) × ((Int × Int) × ((List Int) × ((List Int) × ((List Int) × ((List Int) × (List Int)))))))))))) =>
 cnd (ltI i31 i30)
 ((chkI i31 (lenN l47)).bnd (fun k48 =>
 (getN l47 (addN 0 k48)).bnd (fun i49 =>
 (getI l34 (addI .i64 (mulI .i64 i29 i33) i49)).bnd (fun i50 =>
 (chkI (addI .i64 (mulI .i64 i29 (natI (lenN l47))) i31) (lenN l46)).bnd (fun k51 =>
 (getN l46 (addN 0 k51)).bnd (fun i52 =>
 (fulI 0 (lenN l47) (lenN l47)).bnd (fun _ =>
 (fulI 0 (lenN l47) (lenN l47)).bnd (fun _ =>
 (fulI 0 (lenN l43) (lenN l43)).bnd (fun _ =>
 (fulI 0 (lenN l44) (lenN l44)).bnd (fun _ =>
 (fulI 0 (lenN l45) (lenN l45)).bnd (fun _ =>
 (fulI 0 (lenN l46) (lenN (setL l46 (addN 0 k51) i50))).bnd (fun _ =>
 some (Sum.inl ((i29, i30, addI .i64 i31 1), (i32, i33, l34), (i35, i36), (i37, i38), (i39, i40), (i41, i42), l43, l44, l45, setL l46 (addN 0 k51) i50, l47))))))))))))))
 (((fulI 0 (lenN l47) (lenN l47)).bnd (fun _ =>
 (fulI 0 (lenN l43) (lenN l43)).bnd (fun _ =>
 (fulI 0 (lenN l44) (lenN l44)).bnd (fun _ =>
 (fulI 0 (lenN l45) (lenN l45)).bnd (fun _ =>
 (fulI 0 (lenN l46) (lenN l46)).bnd (fun _ =>
 some (Sum.inl (i29, (i32, i33, l34), (i35, i36), (i37, i38), (i39, i40), (i41, i42), l43, l44, l45, l46, l47)))))))).bnd (fun l53 =>
 some (Sum.inr l53))))
 ((i12, natI (lenN l28), (0 : Int)), (i13, i14, l15), (i16, i17), (i18, i19), (i20, i21), (i22, i23), l24, l25, l26, l27, l28))))))))
 (fun (i54, (i55, i56, l57), (i58, i59), (i60, i61), (i62, i63), (i64, i65), l66, l67, l68, l69, l70) =>
 (fulI 0 (lenN l70) (lenN l70)).bnd (fun _ =>
 (fulI 0 (lenN l66) (lenN l66)).bnd (fun _ =>
 (fulI 0 (lenN l67) (lenN l67)).bnd (fun _ =>
 (fulI 0 (lenN l68) (lenN l68)).bnd (fun _ =>
 (fulI 0 (lenN l69) (lenN l69)).bnd (fun _ =>
 some (Sum.inl (addI .i64 i54 1, (i55, i56, l57), (i58, i59), (i60, i61), (i62, i63), (i64, i65), l66, l67, l68, l69, l70)))))))))
 (((fulI 0 (lenN l28) (lenN l28)).bnd (fun _ =>
 (fulI 0 (lenN l24) (lenN l24)).bnd (fun _ =>
 (fulI 0 (lenN l25) (lenN l25)).bnd (fun _ =>
 (fulI 0 (lenN l26) (lenN l26)).bnd (fun _ =>
 (fulI 0 (lenN l27) (lenN l27)).bnd (fun _ =>
 some (Sum.inl ((i13, i14, l15), (i16, i17), (i18, i19), (i20, i21), (i22, i23), l24, l25, l26, l27, l28)))))))).bnd (fun l71 =>
 some (Sum.inr l71))))
 ((0 : Int), (i1, i2, l3), ((0 : Int), (0 : Int)), ((0 : Int), (0 : Int)), (i4, i5), (i9, i10), ([] : List Int), ([] : List Int), l6, l11, l7)))))))
 (fun ((i72, i73, l74), (i75, i76), (i77, i78), (i79, i80), (i81, i82), l83, l84, l85, l86, l87) =>
 (sliI (0 : Int) (mulI .i64 (natI (lenN l87)) i73) (lenN l85)).bnd (fun (k88, k89) =>
 (winI l85 (addN 0 k88) k89).bnd (fun l90 =>
 (F_spec_l05Ints l90).bnd (fun l91 =>
 (takI l86 (lenN l86)).bnd (fun l92 =>
 (takI l91 (lenN l91)).bnd (fun l93 =>
 some ((i81, i82, l92), natI (lenN l87), i73, l93))))))))))

def G_impl_FactorMatrix (NN : Nat) : (Int × (Int × (Int × (List Int)))) → (Option ((Int × (Int × (List Int))) × ((Int × (Int × (List Int))) × Bool))) :=
 (fun ((i0, i1, i2, l3) : (Int × (Int × (Int × (List Int))))) =>
 (F_impl_MatrixOk (i0, i1, i2, l3)).bnd (fun b4 =>
 cnd (notB b4)
 (some (((0 : Int), (0 : Int), ([] : List Int)), ((0 : Int), (0 : Int), ([] : List Int)), false))
 ((F_impl_rawReduce (i0, i1, i2, l3)).bnd (fun ((i5, i6, l7), l8) =>
 (F_impl_emptyMatrix (i1, natI (lenN l8))).bnd (fun (i9, i10, l11) =>
 joinK ((fulI 0 (lenN l8) (lenN l8)).bnd (fun _ =>
 (fulI 0 0 (lenN (([] : List Int)))).bnd (fun _ =>
 (fulI 0 0 (lenN (([] : List Int)))).bnd (fun _ =>
 (fulI 0 (lenN l7) (lenN l7)).bnd (fun _ =>
 (fulI 0 (lenN l11) (lenN l11)).bnd (fun _ =>
 loopT NN (fun (((i12, i13), (i14, i15, l16), (i17, i18), (i19, i20), (i21, i22), (i23, i24), l25, l26, l27, l28, l29) : ((Int × Int) × ((Int × (Int × (List Int))) × ((Int × Int) × ((Int × Int) × ((Int × Int) × ((Int × Int) × ((List Int) × ((List Int) × ((List Int) × ((List Int) × (List Int)))))))))))) =>
 cnd (ltI i13 i14)
 (joinK ((fulI 0 (lenN l29) (lenN l29)).bnd (fun _ =>
 (fulI 0 (lenN l29) (lenN l29)).bnd (fun _ =>
 (fulI 0 (lenN l25) (lenN l25)).bnd (fun _ =>
 (fulI 0 (lenN l26) (lenN l26)).bnd (fun _ =>
 (fulI 0 (lenN l27) (lenN l27)).bnd (fun _ =>
 (fulI 0 (lenN l28) (lenN l28)).bnd (fun _ =>
 loopT NN (fun (((i30, i31, i32, i33), (i34, i35, l36), (i37, i38), (i39, i40), (i41, i42), (i43, i44), l45, l46, l47, l48, l49) : ((Int × (Int × (Int × Int))) × ((Int × (Int × (List Int))) × ((Int × Int) × ((Int × Int) × ((Int × Int) × ((Int × Int) × ((List Int) × ((List Int) × ((List Int) × ((List Int) × (List Int)))))))))))) =>
 cnd (ltI i33 i32)
 ((chkI i33 (lenN l49)).bnd (fun k50 =>
 (getN l49 (addN 0 k50)).bnd (fun i51 =>
 (F_impl_Matrix_at ((i34, i35, l36), i31, i51)).bnd (fun i52 =>
 (fulI 0 (lenN l48) (lenN l48)).bnd (fun _ =>
 (F_impl_Matrix_set ((i43, i44, l48), i31, i33, i52)).bnd (fun l53 =>
 (fulI 0 (lenN l49) (lenN l49)).bnd (fun _ =>
 (fulI 0 (lenN l49) (lenN l49)).bnd (fun _ =>
 (fulI 0 (lenN l45) (lenN l45)).bnd (fun _ =>
 (fulI 0 (lenN l46) (lenN l46)).bnd (fun _ =>
 (fulI 0 (lenN l47) (lenN l47)).bnd (fun _ =>
 (fulI 0 (lenN l48) (lenN l53)).bnd (fun _ =>
 some (Sum.inl ((i30, i31, i32, addI .i64 i33 1), (i34, i35, l36), (i37, i38), (i39, i40), (i41, i42), (i43, i44), l45, l46, l47, l53, l49))))))))))))))
 (((fulI 0 (lenN l49) (lenN l49)).bnd (fun _ =>
 (fulI 0 (lenN l45) (lenN l45)).bnd (fun _ =>
 (fulI 0 (lenN l46) (lenN l46)).bnd (fun _ =>
 (fulI 0 (lenN l47) (lenN l47)).bnd (fun _ =>
 (fulI 0 (lenN l48) (lenN l48)).bnd (fun _ =>
 some (Sum.inl ((i31, i30), (i34, i35, l36), (i37, i38), (i39, i40), (i41, i42), (i43, i44), l45, l46, l47, l48, l49)))))))).bnd (fun l54 =>
 some (Sum.inr l54))))
 ((i12, i13, natI (lenN l29), (0 : Int)), (i14, i15, l16), (i17, i18), (i19, i20), (i21, i22), (i23, i24), l25, l26, l27, l28, l29))))))))
 (fun ((i55, i56), (i57, i58, l59), (i60, i61), (i62, i63), (i64, i65), (i66, i67), l68, l69, l70, l71, l72) =>
 (fulI 0 (lenN l72) (lenN l72)).bnd (fun _ =>
 (fulI 0 (lenN l68) (lenN l68)).bnd (fun _ =>
 (fulI 0 (lenN l69) (lenN l69)).bnd (fun _ =>
 (fulI 0 (lenN l70) (lenN l70)).bnd (fun _ =>
 (fulI 0 (lenN l71) (lenN l71)).bnd (fun _ =>
 some (Sum.inl ((i56, addI .i64 i55 1), (i57, i58, l59), (i60, i61), (i62, i63), (i64, i65), (i66, i67), l68, l69, l70, l71, l72)))))))))
 (((fulI 0 (lenN l25) (lenN l25)).bnd (fun _ =>
 (fulI 0 (lenN l26) (lenN l26)).bnd (fun _ =>
 (fulI 0 (lenN l27) (lenN l27)).bnd (fun _ =>
 (fulI 0 (lenN l28) (lenN l28)).bnd (fun _ =>
 some (Sum.inl (i12, (i14, i15, l16), (i17, i18), (i19, i20), (i21, i22), (i23, i24), l25, l26, l27, l28))))))).bnd (fun l73 =>
 some (Sum.inr l73))))
 ((natI (lenN l8), (0 : Int)), (i1, i2, l3), ((0 : Int), (0 : Int)), ((0 : Int), (0 : Int)), (i5, i6), (i9, i10), ([] : List Int), ([] : List Int), l7, l11, l8)))))))
 (fun (i74, (i75, i76, l77), (i78, i79), (i80, i81), (i82, i83), (i84, i85), l86, l87, l88, l89) =>
 (sliI (0 : Int) (mulI .i64 i74 i76) (lenN l88)).bnd (fun (k90, k91) =>
 (winI l88 (addN 0 k90) k91).bnd (fun l92 =>
 (F_impl_copyInts l92).bnd (fun l93 =>
 (takI l89 (lenN l89)).bnd (fun l94 =>
 (takI l93 (lenN l93)).bnd (fun l95 =>
 some ((i84, i85, l94), (i74, i76, l95), true))))))))))))


theorem matOk_red {m : Int} {x : Int × Int × List Int} (h : matOk m x = true) : ∃ (r c : Nat) (M : Mat), x = ((r : Int), (c : Int), genD r c M) ∧ pOk m ∧ r ≤ 64 ∧ c ≤ 64 ∧ r * c ≤ 4096 ∧ inM m r c M ∧ M = ofD c (genD r c M) ∧ redOk (m, x) := by
  obtain ⟨r, c, M, rfl, hp, hr, hc, hrc, hM⟩ := matOk_nat h
  have e : genD r c (ofD c (genD r c M)) = genD r c M := genD_of (genD_len r c M)
  refine ⟨r, c, ofD c (genD r c M), by rw [e], hp, hr, hc, hrc, allP_gen.1 (by rw [e]; exact allP_gen.2 hM), by rw [e], hp, mOk_mk M (by omega) (by omega) (by omega), allP_gen.2 hM⟩
theorem redX_nat {m : Int} {r c : Nat} {M : Mat} (e : M = ofD c (genD r c M)) : redX (m, (r : Int), (c : Int), genD r c M) = redN m r M c := by
  simp only [redX, Int.toNat_natCast, ← e]

/-! ### factors -/

theorem sliI_nat {n m : Nat} (h : n ≤ m) : sliI 0 (n : Int) m = some (0, n) := by
  unfold sliI
  rw [if_pos ⟨by omega, by omega, by omega⟩]
  simp
theorem winI_take {xs : List Int} {n : Nat} (h : n ≤ xs.length) : winI xs 0 n = some (xs.take n) := by
  unfold winI
  rw [if_pos (by omega)]
  rfl
theorem pick_get {L : List Int} {c t : Nat} (hL : ∀ x ∈ L, 0 ≤ x ∧ x < (c : Int)) (ht : t < L.length) : getN L t = some (((L.getD t 0).toNat : Nat) : Int) ∧ (L.getD t 0).toNat < c := by
  have h := hL L[t] (List.getElem_mem ht)
  have e : L.getD t 0 = L[t] := by simp [List.getD, ht]
  rw [e]
  refine ⟨?_, by omega⟩
  show L[t]? = _
  rw [List.getElem?_eq_getElem ht, Int.toNat_of_nonneg h.1]

section
variable {p : Int} {r c : Nat} {M R : Mat} {L : List Int}

theorem facS_loop (hr : r ≤ 4096) (hc : c ≤ 4096) (hrc : r * c ≤ 1048576) (hk : L.length ≤ r) (hkc : L.length ≤ c) (hL : ∀ x ∈ L, 0 ≤ x ∧ x < (c : Int)) (hp : pOk p) (hred : ∃ d, F_spec_l31Reduce (p, (r : Int), (c : Int), genD r c M) = some (((r : Int), (c : Int), genD r c R), L, d)) :
    G_spec_l31Factor FUEL (p, (r : Int), (c : Int), genD r c M) = some (((r : Int), ((L.length : Nat) : Int), genD r L.length (pickF M L)), (((L.length : Nat) : Int), (c : Int), (genD r c R).take (L.length * c))) := by
  obtain ⟨d, hred⟩ := hred
  have hrk : r * L.length ≤ r * c := Nat.mul_le_mul (Nat.le_refl r) hkc
  have hkc2 : L.length * c ≤ r * c := Nat.mul_le_mul hk (Nat.le_refl c)
  simp only [G_spec_l31Factor, hred, bnd_s]
  rw [show natI (lenN L) = ((L.length : Nat) : Int) from rfl, new_nat hr (show L.length ≤ 4096 by omega) (show r * L.length ≤ 1048576 by omega)]
  simp only [bnd_s, fulI_id]
  rw [show fulI 0 0 (lenN ([] : List Int)) = some () from rfl]
  simp only [bnd_s]
  rw [loopT_seq (r := Sum.inl (((r : Int), (c : Int), genD r c M), ((0 : Int), (0 : Int)), ((0 : Int), (0 : Int)), ((r : Int), (c : Int)), ((r : Int), ((L.length : Nat) : Int)), ([] : List Int), ([] : List Int), genD r c R, genD r L.length (pickF M L), L)) (fun i => ((i : Int), ((r : Int), (c : Int), genD r c M), ((0 : Int), (0 : Int)), ((0 : Int), (0 : Int)), ((r : Int), (c : Int)), ((r : Int), ((L.length : Nat) : Int)), ([] : List Int), ([] : List Int), genD r c R, genD r L.length (mulTo (pickF M L) i 0), L)) r ?_ ?_ ?_ (FUEL_gt (by omega))]
  · rw [joinK_l]
    simp only
    rw [show natI (lenN L) = ((L.length : Nat) : Int) from rfl, mulN (by omega) (by omega), sliI_nat (by rw [lenN_gen]; exact hkc2), bnd_s]
    simp only [addN_0]
    rw [winI_take (by rw [genD_len]; exact hkc2), bnd_s, show F_spec_l05Ints ((genD r c R).take (L.length * c)) = some _ from if_pos (by rw [List.length_take, genD_len]; omega), bnd_s]
    simp only [takI_id, bnd_s]
  · intro i hi
    simp only
    rw [cnd_t (ltN_t hi)]
    rw [loopT_seq (r := Sum.inl ((i : Int), ((r : Int), (c : Int), genD r c M), ((0 : Int), (0 : Int)), ((0 : Int), (0 : Int)), ((r : Int), (c : Int)), ((r : Int), ((L.length : Nat) : Int)), ([] : List Int), ([] : List Int), genD r c R, genD r L.length (mulTo (pickF M L) (i + 1) 0), L)) (fun t => (((i : Int), ((L.length : Nat) : Int), (t : Int)), ((r : Int), (c : Int), genD r c M), ((0 : Int), (0 : Int)), ((0 : Int), (0 : Int)), ((r : Int), (c : Int)), ((r : Int), ((L.length : Nat) : Int)), ([] : List Int), ([] : List Int), genD r c R, genD r L.length (mulTo (pickF M L) i t), L)) L.length ?_ ?_ ?_ (FUEL_gt (by omega))]
    · rw [joinK_l]; simp only [addN1 (show i ≤ 1048577 by omega)]
    · intro t ht
      simp only
      obtain ⟨h1, h2⟩ := pick_get hL ht
      rw [cnd_t (ltN_t ht), chkI_nat (show t < lenN L from ht), bnd_s]
      simp only [addN_0]
      rw [h1, bnd_s, idxI (by omega) (by omega) (by omega), getI_gen M hi h2, bnd_s, show natI (lenN L) = ((L.length : Nat) : Int) from rfl]
      simp only [idxI (show i ≤ 1048576 by omega) (show L.length ≤ 1048576 by omega) (show t ≤ 1048576 by omega), chkI_gen _ hi ht, bnd_s, addN_0, getN_gen _ hi ht, setL_gen _ ht, fulI_gen, addN1 (show t ≤ 1048577 by omega)]
      rw [show M i (L.getD t 0).toNat = pickF M L i t from rfl, mul_step]
    · simp only
      rw [cnd_f (ltN_f (Nat.le_refl L.length)), mul_row]
      try rfl
    · rfl
  · simp only
    rw [cnd_f (ltN_f (Nat.le_refl r)), mul_end]
    try rfl
  · rw [mul_0]; rfl

theorem facI_loop (hr : r ≤ 4096) (hc : c ≤ 4096) (hrc : r * c ≤ 1048576) (hk : L.length ≤ r) (hkc : L.length ≤ c) (hL : ∀ x ∈ L, 0 ≤ x ∧ x < (c : Int)) (hm : F_impl_MatrixOk (p, (r : Int), (c : Int), genD r c M) = some true) (hred : F_impl_rawReduce (p, (r : Int), (c : Int), genD r c M) = some (((r : Int), (c : Int), genD r c R), L)) :
    G_impl_FactorMatrix FUEL (p, (r : Int), (c : Int), genD r c M) = some (((r : Int), ((L.length : Nat) : Int), genD r L.length (pickF M L)), (((L.length : Nat) : Int), (c : Int), (genD r c R).take (L.length * c)), true) := by
  have hrk : r * L.length ≤ r * c := Nat.mul_le_mul (Nat.le_refl r) hkc
  have hkc2 : L.length * c ≤ r * c := Nat.mul_le_mul hk (Nat.le_refl c)
  simp only [G_impl_FactorMatrix, hred, hm, bnd_s]
  rw [cnd_f (by rfl), show natI (lenN L) = ((L.length : Nat) : Int) from rfl, newI_nat hr (show L.length ≤ 4096 by omega) (show r * L.length ≤ 1048576 by omega)]
  simp only [bnd_s, fulI_id]
  rw [show fulI 0 0 (lenN ([] : List Int)) = some () from rfl]
  simp only [bnd_s]
  rw [loopT_seq (r := Sum.inl (((L.length : Nat) : Int), ((r : Int), (c : Int), genD r c M), ((0 : Int), (0 : Int)), ((0 : Int), (0 : Int)), ((r : Int), (c : Int)), ((r : Int), ((L.length : Nat) : Int)), ([] : List Int), ([] : List Int), genD r c R, genD r L.length (pickF M L))) (fun i => ((((L.length : Nat) : Int), (i : Int)), ((r : Int), (c : Int), genD r c M), ((0 : Int), (0 : Int)), ((0 : Int), (0 : Int)), ((r : Int), (c : Int)), ((r : Int), ((L.length : Nat) : Int)), ([] : List Int), ([] : List Int), genD r c R, genD r L.length (mulTo (pickF M L) i 0), L)) r ?_ ?_ ?_ (FUEL_gt (by omega))]
  · rw [joinK_l]
    simp only
    rw [mulN (by omega) (by omega), sliI_nat (by rw [lenN_gen]; exact hkc2), bnd_s]
    simp only [addN_0]
    rw [winI_take (by rw [genD_len]; exact hkc2), bnd_s, show F_impl_copyInts ((genD r c R).take (L.length * c)) = some _ from if_pos (by rw [List.length_take, genD_len]; omega), bnd_s]
    simp only [takI_id, bnd_s]
  · intro i hi
    simp only
    rw [cnd_t (ltN_t hi)]
    rw [loopT_seq (r := Sum.inl (((i : Int), ((L.length : Nat) : Int)), ((r : Int), (c : Int), genD r c M), ((0 : Int), (0 : Int)), ((0 : Int), (0 : Int)), ((r : Int), (c : Int)), ((r : Int), ((L.length : Nat) : Int)), ([] : List Int), ([] : List Int), genD r c R, genD r L.length (mulTo (pickF M L) (i + 1) 0), L)) (fun t => ((((L.length : Nat) : Int), (i : Int), ((L.length : Nat) : Int), (t : Int)), ((r : Int), (c : Int), genD r c M), ((0 : Int), (0 : Int)), ((0 : Int), (0 : Int)), ((r : Int), (c : Int)), ((r : Int), ((L.length : Nat) : Int)), ([] : List Int), ([] : List Int), genD r c R, genD r L.length (mulTo (pickF M L) i t), L)) L.length ?_ ?_ ?_ (FUEL_gt (by omega))]
    · rw [joinK_l]; simp only [addN1 (show i ≤ 1048577 by omega)]
    · intro t ht
      simp only
      obtain ⟨h1, h2⟩ := pick_get hL ht
      rw [cnd_t (ltN_t ht), chkI_nat (show t < lenN L from ht), bnd_s]
      simp only [addN_0]
      rw [h1, bnd_s, at_nat hr hc hrc hi h2, bnd_s, set_nat hr (show L.length ≤ 4096 by omega) (show r * L.length ≤ 1048576 by omega) hi ht]
      simp only [bnd_s, fulI_gen, addN1 (show t ≤ 1048577 by omega)]
      rw [show M i (L.getD t 0).toNat = pickF M L i t from rfl, mul_step]
    · simp only
      rw [cnd_f (ltN_f (Nat.le_refl L.length)), mul_row]
      try rfl
    · rfl
  · simp only
    rw [cnd_f (ltN_f (Nat.le_refl r)), mul_end]
    try rfl
  · rw [mul_0]; rfl
end

theorem facX_nat {m : Int} {r c : Nat} {M : Mat} (e : M = ofD c (genD r c M)) : facX (m, (r : Int), (c : Int), genD r c M) =
    (((r : Int), ((redN m r M c).2.1.length : Int), genD r (redN m r M c).2.1.length (pickF M (redN m r M c).2.1)), (((redN m r M c).2.1.length : Int), (c : Int), (genD r c (redN m r M c).1).take ((redN m r M c).2.1.length * c))) := by
  simp only [facX, redX_nat e, Int.toNat_natCast, ← e]
theorem f_spec_l31Factor (x : Int × Int × Int × List Int) (y : (Int × Int × List Int) × (Int × Int × List Int)) (h : F_spec_l31Factor x = some y) : G_spec_l31Factor FUEL x = some y := by
  simp only [F_spec_l31Factor] at h
  split at h
  · rename_i hc
    obtain ⟨p, r, c, M, rfl, hp, h1, h2, h3, hM, e⟩ := redOk_nat hc
    have hI := redN_I hp hM (r := r) (c := c) c
    rw [← h, facX_nat e]
    refine facS_loop (R := (redN p r M c).1) (L := (redN p r M c).2.1) h1 h2 h3 hI.l hI.lj hI.e hp ⟨(redN p r M c).2.2, ?_⟩
    simp only [F_spec_l31Reduce]
    rw [if_pos hc]
    simp only [redX_nat e, Int.toNat_natCast]
  · cases h
theorem f_impl_FactorMatrix (x : Int × Int × Int × List Int) (y : (Int × Int × List Int) × (Int × Int × List Int) × Bool) (h : F_impl_FactorMatrix x = some y) : G_impl_FactorMatrix FUEL x = some y := by
  obtain ⟨m, x⟩ := x
  simp only [F_impl_FactorMatrix, F_spec_FactorMatrix] at h
  split at h
  · rename_i hl
    rw [← h]
    cases hm : matOk m x with
    | false =>
      obtain ⟨r, c, l⟩ := x
      simp only [G_impl_FactorMatrix]
      rw [show F_impl_MatrixOk (m, r, c, l) = some (matOk m (r, c, l)) from if_pos hl, bnd_s, hm]
      rfl
    | true =>
      obtain ⟨r, c, M, rfl, hp, hr, hc, hrc, hM, eM, hR⟩ := matOk_red hm
      have hI := redN_I hp hM (r := r) (c := c) c
      rw [facX_nat eM]
      refine facI_loop (R := (redN m r M c).1) (L := (redN m r M c).2.1) (by omega) (by omega) (by omega) hI.l hI.lj hI.e ?_ ?_
      · rw [← hm]
        exact if_pos hl
      · simp only [F_impl_rawReduce]
        rw [if_pos hR]
        simp only [redX_nat eM, Int.toNat_natCast]
  · cases h
end Go.Am
end
section
namespace Go.Am

/-! ### chains as matrices -/
abbrev Site := Int × Int × Int × List Int
def site0 : Site := (0, 0, 0, [])
def bondN (l : List Site) : Nat → Nat
  | 0 => 1
  | i + 1 => (l.getD i site0).2.2.1.toNat
def siteG (s : Site) : Prop := (0 ≤ s.1 ∧ s.1 ≤ 64) ∧ (0 ≤ s.2.1 ∧ s.2.1 ≤ 64) ∧ (0 ≤ s.2.2.1 ∧ s.2.2.1 ≤ 64) ∧ (s.2.2.2.length : Int) = s.1 * s.2.1 * s.2.2.1
instance (s : Site) : Decidable (siteG s) := by unfold siteG; infer_instance
/-! ### good chains -/

def bd (b : Int) (l : List Site) : Nat → Int
  | 0 => b
  | k + 1 => (l.getD k site0).2.2.1

theorem chStep_iff {m : Int} : ∀ (l : List Site) (i : Nat) (b c : Int), foldO (chStep m) i b l = some c ↔ ((∀ k, k < l.length → siteOk m (l.getD k site0) = true ∧ (l.getD k site0).1 = bd b l k) ∧ c = bd b l l.length)
  | [], i, b, c => by
    simp only [foldO, bd, List.length_nil]
    exact ⟨fun h => ⟨fun k hk => absurd hk (Nat.not_lt_zero k), (Option.some.inj h).symm⟩, fun h => by rw [h.2]⟩
  | s :: l, i, b, c => by
    have key : ∀ k, bd b (s :: l) (k + 1) = bd s.2.2.1 l k := fun k => by cases k <;> rfl
    rw [foldO]
    by_cases hs : siteOk m s = true ∧ s.1 = b
    · rw [show chStep m i b s = some s.2.2.1 from if_pos hs]
      try simp only
      rw [chStep_iff l (i + 1) s.2.2.1 c]
      constructor
      · rintro ⟨h1, h2⟩
        refine ⟨fun k hk => ?_, h2.trans (key _).symm⟩
        cases k with
        | zero => exact hs
        | succ k => rw [key]; exact h1 k (by simpa using hk)
      · rintro ⟨h1, h2⟩
        exact ⟨fun k hk => by rw [← key]; exact h1 (k + 1) (by simpa using hk), h2.trans (key _)⟩
    · rw [show chStep m i b s = none from if_neg hs]
      constructor
      · intro h; cases h
      · rintro ⟨h1, _⟩
        exact absurd (h1 0 (by simp)) hs

theorem bd_toNat (l : List Site) (k : Nat) : (bd 1 l k).toNat = bondN l k := by cases k <;> rfl

/-- What a good chain is. -/
theorem chainOk_t {m : Int} {l : List Site} (h : chainOk (m, l) = true) : pOk m ∧ (1 ≤ l.length ∧ l.length ≤ 8) ∧ prodI (dimsOf l) ≤ 4096 ∧ bondN l l.length = 1 ∧
    ∀ i, i < l.length → ∃ (p : Nat) (M : Mat), l.getD i site0 = ((bondN l i : Int), (p : Int), (bondN l (i + 1) : Int), genD (bondN l i * p) (bondN l (i + 1)) M) ∧ bondN l i ≤ 32 ∧ bondN l (i + 1) ≤ 32 ∧ (1 ≤ p ∧ p ≤ 8) ∧
      inM m (bondN l i * p) (bondN l (i + 1)) M ∧ M = ofD (bondN l (i + 1)) (genD (bondN l i * p) (bondN l (i + 1)) M) := by
  simp only [chainOk, Bool.and_eq_true, decide_eq_true_eq] at h
  obtain ⟨hp, hl, h⟩ := h
  cases hf : foldO (chStep m) 0 1 l with
  | none => rw [hf] at h; cases h
  | some c =>
    rw [hf] at h
    simp only [Bool.and_eq_true, decide_eq_true_eq] at h
    obtain ⟨h1, h2⟩ := (chStep_iff l 0 1 c).1 hf
    have hm := isPrimeI_t hp
    refine ⟨hm, hl, h.2, by rw [← bd_toNat, ← h2, h.1]; rfl, fun i hi => ?_⟩
    obtain ⟨s1, s2⟩ := h1 i hi
    have e2 : (l.getD i site0).2.2.1 = bd 1 l (i + 1) := rfl
    generalize hs : l.getD i site0 = s at *
    obtain ⟨a, p, c', d⟩ := s
    obtain ⟨t1, t2, t3, t4, t5⟩ := siteOk_t s1
    simp only at s2 e2
    obtain ⟨p, rfl⟩ := natI_eq (show 0 ≤ p by omega)
    have ea : a = (bondN l i : Int) := by rw [← bd_toNat, ← s2]; omega
    have ec : c' = (bondN l (i + 1) : Int) := by rw [← bd_toNat, ← e2]; omega
    subst ea ec
    have el : d.length = bondN l i * p * bondN l (i + 1) := by
      have : ((bondN l i : Int) * (p : Int) * (bondN l (i + 1) : Int)) = ((bondN l i * p * bondN l (i + 1) : Nat) : Int) := by norm_cast
      rw [this] at t4; exact_mod_cast t4
    have eg := genD_of (r := bondN l i * p) (c := bondN l (i + 1)) el
    refine ⟨p, ofD (bondN l (i + 1)) d, by rw [eg], by omega, by omega, by omega, ?_, by rw [eg]⟩
    rw [← allP_gen, eg]
    intro x hx
    exact of_decide_eq_true (List.all_eq_true.1 t5 x hx)

/-! ### rows -/

def rowL (n : Nat) (f : Nat → Int) : List Int := (List.range n).map f
theorem rowL_len (n : Nat) (f : Nat → Int) : (rowL n f).length = n := by simp [rowL]
theorem rowL_get {n j : Nat} (f : Nat → Int) (h : j < n) : (rowL n f)[j]? = some (f j) := by simp [rowL, List.getElem?_range h]
theorem rowL_congr {n : Nat} {f g : Nat → Int} (h : ∀ j, j < n → f j = g j) : rowL n f = rowL n g := List.map_congr_left fun j hj => h j (List.mem_range.1 hj)
theorem rowL_set {n j : Nat} (f : Nat → Int) (x : Int) : setL (rowL n f) j x = rowL n (fun q => if q = j then x else f q) := by
  unfold setL
  apply List.ext_getElem?
  intro k
  rw [List.getElem?_set, rowL_len]
  by_cases hk : k < n
  · rw [rowL_get _ hk, rowL_get _ hk]
    by_cases e : j = k
    · subst e; simp [hk]
    · rw [if_neg e]; simp [show ¬ k = j from fun h => e h.symm]
  · rw [List.getElem?_eq_none (by rw [rowL_len]; omega), List.getElem?_eq_none (by rw [rowL_len]; omega)]
    by_cases e : j = k
    · subst e; simp [hk]
    · simp [e]
theorem lenN_row (n : Nat) (f : Nat → Int) : lenN (rowL n f) = n := rowL_len n f
theorem fulI_row (n : Nat) (f g : Nat → Int) : fulI 0 (lenN (rowL n f)) (lenN (rowL n g)) = some () := by rw [lenN_row, lenN_row]; exact fulI_id n
theorem chkI_row {n j : Nat} (f : Nat → Int) (h : j < n) : chkI (j : Int) (lenN (rowL n f)) = some j := chkI_nat (by rw [lenN_row]; exact h)
theorem getN_row {n j : Nat} (f : Nat → Int) (h : j < n) : getN (rowL n f) j = some (f j) := rowL_get f h
/-! ### bonds -/

theorem map_take {α : Type} (g : α → Int) {L : List α} {j : Nat} {x : α} (h : L[j]? = some x) : appL ((L.take j).map g) [g x] = (L.take (j + 1)).map g := by
  simp [appL, List.take_add_one, h]

end Go.Am
end
section
namespace Go.Am

/-! ### indices of dims -/
def dimsG (D : List Int) : Prop := D.length ≤ 1048576 ∧ ∀ x ∈ D, 1 ≤ x ∧ x ≤ 1048576
instance (D : List Int) : Decidable (dimsG D) := by unfold dimsG; infer_instance
theorem quoN {a b : Nat} (hb : 0 < b) (ha : a ≤ 1048576) : quoI .i64 (a : Int) (b : Int) = some ((a / b : Nat) : Int) := by
  have e : ((a : Int) / (b : Int)) = ((a / b : Nat) : Int) := by norm_cast
  have : a / b ≤ a := Nat.div_le_self a b
  unfold quoI
  rw [if_neg (by omega), Int.tdiv_eq_ediv_of_nonneg (by omega), e]
  clear e
  generalize a / b = q at *
  rw [wrap_id (by omega) (by omega)]
theorem remNN {a b : Nat} (hb : 0 < b) : remI (a : Int) (b : Int) = some ((a % b : Nat) : Int) := by
  rw [remN (by omega) (by omega)]; norm_cast
/-! ### tensors of chains -/

end Go.Am
end
section
namespace Go.Am

/-! ### inner products of chains -/
end Go.Am
end
section
namespace Go.Am

/-! ### compressed chains -/
def facK (m : Int) (r c : Nat) (d : List Int) : Nat := (redN m r (ofD c d) c).2.1.length
def facA (m : Int) (r c : Nat) (d : List Int) : List Int := genD r (facK m r c d) (pickF (ofD c d) (redN m r (ofD c d) c).2.1)
def facB (m : Int) (r c : Nat) (d : List Int) : List Int := genD (facK m r c d) c (redN m r (ofD c d) c).1
def mulD (m : Int) (r k c : Nat) (A B : List Int) : List Int := genD r c (mulF m k (ofD k A) (ofD c B))
def F_spec_l32Copy : Int × List Site → Option (Int × List Site) := fun x => if sz_Chain x ≤ 1048576 then some x else none
def F_impl_copyChain : Int × List Site → Option (Int × List Site) := F_spec_l32Copy
def smallS (s : Site) : Prop := (0 ≤ s.1 ∧ s.1 ≤ 4096) ∧ (0 ≤ s.2.1 ∧ s.2.1 ≤ 4096) ∧ (0 ≤ s.2.2.1 ∧ s.2.2.1 ≤ 4096)
instance (s : Site) : Decidable (smallS s) := by unfold smallS; infer_instance
def ag_spec_l32Copy : Sig := [(.agg, [.int .i64, .list [.int .i64, .int .i64, .int .i64, .list [.int .i64]]])]
def rs_spec_l32Copy : Sig := [(.agg, [.int .i64, .list [.int .i64, .int .i64, .int .i64, .list [.int .i64]]])]
def mu_spec_l32Copy : MSig := []
def ag_impl_copyChain : Sig := [(.agg, [.int .i64, .list [.int .i64, .int .i64, .int .i64, .list [.int .i64]]])]
def rs_impl_copyChain : Sig := [(.agg, [.int .i64, .list [.int .i64, .int .i64, .int .i64, .list [.int .i64]]])]
def mu_impl_copyChain : MSig := []
def G_spec_l32Copy (NN : Nat) : (Int × (List (Int × (Int × (Int × (List Int)))))) → (Option (Int × (List (Int × (Int × (Int × (List Int))))))) :=
 (fun ((i0, l1) : (Int × (List (Int × (Int × (Int × (List Int))))))) =>
 joinK ((fulI 0 0 (lenN (([] : List (Int × (Int × (Int × (List Int)))))))).bnd (fun _ =>
 (fulI 0 0 (lenN (([] : List (Int × (Int × (Int × (List Int)))))))).bnd (fun _ =>
 loopT NN (fun (((l2, i3, i4), i5, i6, l7, l8) : (((List (Int × (Int × (Int × (List Int))))) × (Int × Int)) × (Int × (Int × ((List (Int × (Int × (Int × (List Int))))) × (List (Int × (Int × (Int × (List Int)))))))))) =>
 cnd (ltI i4 i3)
 ((getI l2 i4).bnd (fun (i9, i10, i11, l12) =>
 (F_spec_l05Ints l12).bnd (fun l13 =>
 (takI l13 (lenN l13)).bnd (fun l14 =>
 (fulI 0 (lenN l8) (lenN l8)).bnd (fun _ =>
 (fulI 0 1 (lenN (((i9, i10, i11, l14) :: ([] : List (Int × (Int × (Int × (List Int))))))))).bnd (fun _ =>
 (fitI (addN (lenN l8) (lenN (((i9, i10, i11, l14) :: ([] : List (Int × (Int × (Int × (List Int))))))))) 48).bnd (fun _ =>
 (fulI 0 (lenN l7) (lenN l7)).bnd (fun _ =>
 (fulI 0 (addN (lenN l8) (lenN (((i9, i10, i11, l14) :: ([] : List (Int × (Int × (Int × (List Int))))))))) (lenN (appL l8 (((i9, i10, i11, l14) :: ([] : List (Int × (Int × (Int × (List Int)))))))))).bnd (fun _ =>
 some (Sum.inl ((l2, i3, addI .i64 i4 1), i5, i6, l7, appL l8 (((i9, i10, i11, l14) :: ([] : List (Int × (Int × (Int × (List Int))))))))))))))))))
 (((fulI 0 (lenN l7) (lenN l7)).bnd (fun _ =>
 (fulI 0 (lenN l8) (lenN l8)).bnd (fun _ =>
 some (Sum.inl (i5, i6, l7, l8))))).bnd (fun l15 =>
 some (Sum.inr l15))))
 ((l1, natI (lenN l1), (0 : Int)), (0 : Int), i0, ([] : List (Int × (Int × (Int × (List Int))))), ([] : List (Int × (Int × (Int × (List Int)))))))))
 (fun (i16, i17, l18, l19) =>
 (takI l19 (lenN l19)).bnd (fun l20 =>
 some (i17, l20))))


def G_impl_copyChain (NN : Nat) : (Int × (List (Int × (Int × (Int × (List Int)))))) → (Option (Int × (List (Int × (Int × (Int × (List Int))))))) :=
 (fun ((i0, l1) : (Int × (List (Int × (Int × (Int × (List Int))))))) =>
 joinK ((fulI 0 0 (lenN (([] : List (Int × (Int × (Int × (List Int)))))))).bnd (fun _ =>
 (fulI 0 0 (lenN (([] : List (Int × (Int × (Int × (List Int)))))))).bnd (fun _ =>
 loopT NN (fun (((l2, i3, i4), i5, i6, l7, l8) : (((List (Int × (Int × (Int × (List Int))))) × (Int × Int)) × (Int × (Int × ((List (Int × (Int × (Int × (List Int))))) × (List (Int × (Int × (Int × (List Int)))))))))) =>
 cnd (ltI i4 i3)
 ((getI l2 i4).bnd (fun (i9, i10, i11, l12) =>
 (F_impl_copyInts l12).bnd (fun l13 =>
 (takI l13 (lenN l13)).bnd (fun l14 =>
 (fulI 0 (lenN l8) (lenN l8)).bnd (fun _ =>
 (fulI 0 1 (lenN (((i9, i10, i11, l14) :: ([] : List (Int × (Int × (Int × (List Int))))))))).bnd (fun _ =>
 (fitI (addN (lenN l8) (lenN (((i9, i10, i11, l14) :: ([] : List (Int × (Int × (Int × (List Int))))))))) 48).bnd (fun _ =>
 (fulI 0 (lenN l7) (lenN l7)).bnd (fun _ =>
 (fulI 0 (addN (lenN l8) (lenN (((i9, i10, i11, l14) :: ([] : List (Int × (Int × (Int × (List Int))))))))) (lenN (appL l8 (((i9, i10, i11, l14) :: ([] : List (Int × (Int × (Int × (List Int)))))))))).bnd (fun _ =>
 some (Sum.inl ((l2, i3, addI .i64 i4 1), i5, i6, l7, appL l8 (((i9, i10, i11, l14) :: ([] : List (Int × (Int × (Int × (List Int))))))))))))))))))
 (((fulI 0 (lenN l7) (lenN l7)).bnd (fun _ =>
 (fulI 0 (lenN l8) (lenN l8)).bnd (fun _ =>
 some (Sum.inl (i5, i6, l7, l8))))).bnd (fun l15 =>
 some (Sum.inr l15))))
 ((l1, natI (lenN l1), (0 : Int)), (0 : Int), i0, ([] : List (Int × (Int × (Int × (List Int))))), ([] : List (Int × (Int × (Int × (List Int)))))))))
 (fun (i16, i17, l18, l19) =>
 (takI l19 (lenN l19)).bnd (fun l20 =>
 some (i17, l20))))


/-! ### factors and products of lists -/

theorem allP_ofD {m : Int} {r c : Nat} {d : List Int} (hl : d.length = r * c) (h : allP m d) : inM m r c (ofD c d) := by
  rw [← allP_gen, genD_of hl]; exact h

theorem take_gen {r c k : Nat} (M : Mat) (hk : k ≤ r) : (genD r c M).take (k * c) = genD k c M := by
  unfold genD
  rw [← List.map_take, List.take_range, Nat.min_eq_left (Nat.mul_le_mul_right _ hk)]

theorem fac_facts {m : Int} {r c : Nat} {d : List Int} (hm : pOk m) (hl : d.length = r * c) (hd : allP m d) :
    facX (m, (r : Int), (c : Int), d) = (((r : Int), (facK m r c d : Int), facA m r c d), ((facK m r c d : Int), (c : Int), facB m r c d)) ∧ facK m r c d ≤ r ∧ facK m r c d ≤ c ∧
    (facA m r c d).length = r * facK m r c d ∧ allP m (facA m r c d) ∧ (facB m r c d).length = facK m r c d * c ∧ allP m (facB m r c d) := by
  have hM := allP_ofD hl hd
  have hI := redN_I hm hM (r := r) (c := c) c
  have h1 : facK m r c d ≤ r := hI.l
  refine ⟨?_, h1, hI.lj, genD_len _ _ _, ?_, genD_len _ _ _, ?_⟩
  · simp only [facX, redX, Int.toNat_natCast]
    rw [take_gen _ hI.l]
    rfl
  · unfold facA
    rw [allP_gen]
    intro i hi t ht
    exact hM i hi _ (pick_get hI.e ht).2
  · unfold facB
    rw [allP_gen]
    exact fun i hi j hj => hI.m i (by omega) j hj

theorem fac_spec {m : Int} {r c : Nat} {d : List Int} (hm : pOk m) (hr : r ≤ 4096) (hc : c ≤ 4096) (hrc : r * c ≤ 1048576) (hl : d.length = r * c) (hd : allP m d) :
    F_spec_l31Factor (m, (r : Int), (c : Int), d) = some (((r : Int), (facK m r c d : Int), facA m r c d), ((facK m r c d : Int), (c : Int), facB m r c d)) := by
  rw [← (fac_facts hm hl hd).1]
  refine if_pos ⟨hm, ⟨⟨by simp only; omega, by simp only; omega⟩, ⟨by simp only; omega, by simp only; omega⟩, ?_, by simp only; omega⟩, hd⟩
  simp only
  rw [hl]; norm_cast

theorem fac_impl {m : Int} {r c : Nat} {d : List Int} (hp : isPrimeI m = true) (hc : c ≤ 64) (hr : r ≤ 4096) (hl : d.length = r * c) (hd : allP m d) :
    F_impl_FactorMatrix (m, (r : Int), (c : Int), d) = some (if r ≤ 64 then (((r : Int), (facK m r c d : Int), facA m r c d), ((facK m r c d : Int), (c : Int), facB m r c d), true) else ((0, 0, []), (0, 0, []), false)) := by
  have hm := isPrimeI_t hp
  have hrc : r * c ≤ 4096 * 64 := Nat.mul_le_mul hr hc
  have e : matOk m ((r : Int), (c : Int), d) = decide (r ≤ 64) := by
    have hrow : rowOk m d = true := List.all_eq_true.2 fun x hx => decide_eq_true (hd x hx)
    have e3 : (d.length : Int) = (r : Int) * (c : Int) := by rw [hl]; norm_cast
    simp only [matOk, hp, hrow, e3, decide_true, Bool.true_and, Bool.and_true]
    rw [decide_eq_true (p := 0 ≤ (c : Int) ∧ (c : Int) ≤ 64) (by omega), Bool.and_true]
    by_cases h : r ≤ 64
    · rw [decide_eq_true h, decide_eq_true (by omega)]
    · rw [decide_eq_false h, decide_eq_false (by omega)]
  simp only [F_impl_FactorMatrix, F_spec_FactorMatrix]
  rw [if_pos (by show d.length ≤ _; omega), e, (fac_facts hm hl hd).1]
  by_cases h : r ≤ 64
  · rw [if_pos h, if_pos (decide_eq_true h)]
  · rw [if_neg h, if_neg (by rw [decide_eq_false h]; simp)]

theorem mulD_spec {m : Int} {r k c : Nat} {A B : List Int} (hm : pOk m) (hr : r ≤ 4096) (hk : k ≤ 4096) (hc : c ≤ 4096) (h1 : r * k ≤ 1048576) (h2 : k * c ≤ 1048576) (h3 : r * c ≤ 1048576) (hA : A.length = r * k) (hB : B.length = k * c) (qA : allP m A) (qB : allP m B) :
    F_spec_l31Mul (m, ((r : Int), (k : Int), A), ((k : Int), (c : Int), B)) = some ((r : Int), (c : Int), mulD m r k c A B) := by
  have e := mulS_nat (r := r) (k := k) (c := c) hm hr hk hc h1 h2 h3 (allP_ofD hA qA) (allP_ofD hB qB)
  rw [genD_of hA, genD_of hB] at e
  exact e

theorem site_nat {m : Int} {s : Site} (h : siteOk m s = true) : ∃ (b p c : Nat) (d : List Int), s = ((b : Int), (p : Int), (c : Int), d) ∧ b ≤ 32 ∧ c ≤ 32 ∧ (1 ≤ p ∧ p ≤ 8) ∧ d.length = b * p * c ∧ allP m d := by
  obtain ⟨a, p, c, d⟩ := s
  obtain ⟨t1, t2, t3, t4, t5⟩ := siteOk_t h
  obtain ⟨a, rfl⟩ := natI_eq t1.1
  obtain ⟨p, rfl⟩ := natI_eq (show 0 ≤ p by omega)
  obtain ⟨c, rfl⟩ := natI_eq t2.1
  refine ⟨a, p, c, d, rfl, by omega, by omega, by omega, ?_, fun x hx => of_decide_eq_true (List.all_eq_true.1 t5 x hx)⟩
  have : ((a : Int) * (p : Int) * (c : Int)) = ((a * p * c : Nat) : Int) := by norm_cast
  rw [this] at t4; exact_mod_cast t4
theorem site_mk {m : Int} {b p c : Nat} {d : List Int} (hb : b ≤ 32) (hc : c ≤ 32) (hp : 1 ≤ p ∧ p ≤ 8) (hl : d.length = b * p * c) (hd : allP m d) : siteOk m ((b : Int), (p : Int), (c : Int), d) = true := by
  have hrow : rowOk m d = true := List.all_eq_true.2 fun x hx => decide_eq_true (hd x hx)
  have e3 : (d.length : Int) = (b : Int) * (p : Int) * (c : Int) := by rw [hl]; norm_cast
  simp only [siteOk, hrow, e3, decide_true, Bool.and_true, Bool.and_eq_true, decide_eq_true_eq]
  omega

/-- Sites that fit. -/
def fitC (m : Int) (L : List Site) : Prop := (∀ k, k < L.length → siteOk m (L.getD k site0) = true) ∧ ∀ k, k + 1 < L.length → (L.getD (k + 1) site0).1 = (L.getD k site0).2.2.1

theorem fitC_of {m : Int} {l : List Site} (h : chainOk (m, l) = true) : fitC m l := by
  obtain ⟨hm, hl, _, _, hs⟩ := chainOk_t h
  refine ⟨fun k hk => ?_, fun k hk => ?_⟩
  · obtain ⟨p, M, e, h1, h2, h3, h4, h5⟩ := hs k hk
    rw [e]
    exact site_mk h1 h2 h3 (genD_len _ _ _) (allP_gen.2 h4)
  · obtain ⟨p, M, e, _⟩ := hs k (by omega)
    obtain ⟨p', M', e', _⟩ := hs (k + 1) hk
    rw [e, e']

/-- Two neighbors of a chain. -/
theorem fit_pair {m : Int} {L : List Site} (F : fitC m L) {i : Nat} (hi : i + 1 < L.length) : ∃ (b p c p' c' : Nat) (d d' : List Int), L[i]? = some ((b : Int), (p : Int), (c : Int), d) ∧ L[i + 1]? = some ((c : Int), (p' : Int), (c' : Int), d') ∧
    L.getD i site0 = ((b : Int), (p : Int), (c : Int), d) ∧ L.getD (i + 1) site0 = ((c : Int), (p' : Int), (c' : Int), d') ∧
    b ≤ 32 ∧ c ≤ 32 ∧ c' ≤ 32 ∧ (1 ≤ p ∧ p ≤ 8) ∧ (1 ≤ p' ∧ p' ≤ 8) ∧ d.length = b * p * c ∧ d'.length = c * p' * c' ∧ allP m d ∧ allP m d' := by
  obtain ⟨b, p, c, d, e1, a1, a2, a3, a4, a5⟩ := site_nat (F.1 i (by omega))
  obtain ⟨b', p', c', d', e2, b1, b2, b3, b4, b5⟩ := site_nat (F.1 (i + 1) hi)
  have h := F.2 i hi
  rw [e1, e2] at h
  simp only at h
  have hbc : b' = c := by omega
  subst hbc
  exact ⟨b, p, b', p', c', d, d', by rw [getD_some site0 (show i < L.length by omega), e1], by rw [getD_some site0 hi, e2], e1, e2, a1, a2, b2, a3, b3, a4, b4, a5, b5⟩

theorem f_spec_l32Copy (x : Int × List Site) (y : Int × List Site) (h : F_spec_l32Copy x = some y) : G_spec_l32Copy FUEL x = some y := by
  obtain ⟨m, l⟩ := x
  simp only [F_spec_l32Copy] at h
  split at h
  · rename_i hs
    rw [← h]
    obtain ⟨hlen, hmm⟩ := sz_Chain_le hs
    simp only [G_spec_l32Copy]
    rw [show fulI 0 0 (lenN ([] : List (Int × (Int × (Int × (List Int)))))) = some () from rfl]
    simp only [bnd_s]
    rw [loopT_seq (fun i => ((l, natI (lenN l), (i : Int)), (0 : Int), m, ([] : List Site), l.take i)) (r := Sum.inl ((0 : Int), m, ([] : List Site), l)) l.length ?_ ?_ ?_ (FUEL_gt (by omega))]
    · rw [joinK_l]
      simp only [takI_id, bnd_s]
    all_goals try simp only
    · intro j hj
      obtain ⟨⟨a, p, c, d⟩, hs⟩ : ∃ e, l[j]? = some e := ⟨_, List.getElem?_eq_getElem hj⟩
      have hd : d.length ≤ 1048576 := hmm _ (List.mem_of_getElem? hs)
      have e1 : lenN (l.take j) = j := by simp [lenN]; omega
      have e2 : appL (l.take j) [(a, p, c, d)] = l.take (j + 1) := by simp [appL, List.take_add_one, hs]
      rw [cnd_t (ltI_in hs), getI_nat, hs, bnd_s]
      simp only
      rw [show F_spec_l05Ints d = some d from if_pos (by omega), bnd_s, takI_id, bnd_s]
      simp only [e1, fulI_id, bnd_s, lenN_appL, show ∀ s : Site, lenN [s] = 1 from fun _ => rfl, show fitI (addN j 1) 48 = some () from fitI_ok (by simp only [addN, maxBytes]; omega), next_i hs (by omega)]
      rw [e2]
    · rw [cnd_f (ltI_end l), List.take_length]
      simp only [fulI_id, bnd_s]
    · rfl
  · cases h

theorem f_impl_copyChain (x : Int × List Site) (y : Int × List Site) (h : F_impl_copyChain x = some y) : G_impl_copyChain FUEL x = some y := by
  obtain ⟨m, l⟩ := x
  simp only [F_impl_copyChain, F_spec_l32Copy] at h
  split at h
  · rename_i hs
    rw [← h]
    obtain ⟨hlen, hmm⟩ := sz_Chain_le hs
    simp only [G_impl_copyChain]
    rw [show fulI 0 0 (lenN ([] : List (Int × (Int × (Int × (List Int)))))) = some () from rfl]
    simp only [bnd_s]
    rw [loopT_seq (fun i => ((l, natI (lenN l), (i : Int)), (0 : Int), m, ([] : List Site), l.take i)) (r := Sum.inl ((0 : Int), m, ([] : List Site), l)) l.length ?_ ?_ ?_ (FUEL_gt (by omega))]
    · rw [joinK_l]
      simp only [takI_id, bnd_s]
    all_goals try simp only
    · intro j hj
      obtain ⟨⟨a, p, c, d⟩, hs⟩ : ∃ e, l[j]? = some e := ⟨_, List.getElem?_eq_getElem hj⟩
      have hd : d.length ≤ 1048576 := hmm _ (List.mem_of_getElem? hs)
      have e1 : lenN (l.take j) = j := by simp [lenN]; omega
      have e2 : appL (l.take j) [(a, p, c, d)] = l.take (j + 1) := by simp [appL, List.take_add_one, hs]
      rw [cnd_t (ltI_in hs), getI_nat, hs, bnd_s]
      simp only
      rw [show F_impl_copyInts d = some d from if_pos (by omega), bnd_s, takI_id, bnd_s]
      simp only [e1, fulI_id, bnd_s, lenN_appL, show ∀ s : Site, lenN [s] = 1 from fun _ => rfl, show fitI (addN j 1) 48 = some () from fitI_ok (by simp only [addN, maxBytes]; omega), next_i hs (by omega)]
      rw [e2]
    · rw [cnd_f (ltI_end l), List.take_length]
      simp only [fulI_id, bnd_s]
    · rfl
  · cases h

theorem getN_set_ne {L : List Site} {i j : Nat} {s : Site} (h : i ≠ j) : getN (setL L i s) j = getN L j := List.getElem?_set_ne h

end Go.Am
end
