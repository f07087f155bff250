/- Mx, M1, M4, M5, M11, M22, M6, M7, M8, M9, M23, M24, M25, M26, M27, M29, M30: parts of the proof. No condition. -/
import Derived.Test.YtfoplfdfpanglaaMT
set_option linter.unusedVariables false
set_option linter.unusedSimpArgs false
section
namespace Go.Am

/-! ### loops -/

/-! ### matrices -/

def genD (r c : Nat) (M : Nat → Nat → Int) : List Int := (List.range (r * c)).map fun n => M (n / c) (n % c)
def ofD (c : Nat) (l : List Int) : Nat → Nat → Int := fun i j => l.getD (i * c + j) 0
def updM (M : Nat → Nat → Int) (i j : Nat) (x : Int) : Nat → Nat → Int := fun a b => if a = i ∧ b = j then x else M a b

theorem idx_lt {r c i j : Nat} (hi : i < r) (hj : j < c) : i * c + j < r * c := by
  have : (i + 1) * c ≤ r * c := Nat.mul_le_mul_right _ hi
  rw [Nat.add_mul] at this
  omega
theorem idx_div {c i j : Nat} (hj : j < c) : (i * c + j) / c = i := by
  rw [Nat.mul_comm, Nat.mul_add_div (by omega), Nat.div_eq_of_lt hj, Nat.add_zero]
theorem idx_mod {c i j : Nat} (hj : j < c) : (i * c + j) % c = j := by
  rw [Nat.mul_comm, Nat.mul_add_mod, Nat.mod_eq_of_lt hj]
theorem genD_len (r c : Nat) (M : Nat → Nat → Int) : (genD r c M).length = r * c := by simp [genD]
theorem genD_get {r c i j : Nat} (M : Nat → Nat → Int) (hi : i < r) (hj : j < c) : (genD r c M)[i * c + j]? = some (M i j) := by
  unfold genD
  rw [List.getElem?_map, List.getElem?_range (idx_lt hi hj)]
  simp [idx_div hj, idx_mod hj]
theorem genD_congr {r c : Nat} {M M' : Nat → Nat → Int} (h : ∀ i, i < r → ∀ j, j < c → M i j = M' i j) : genD r c M = genD r c M' := by
  unfold genD
  refine List.map_congr_left fun n hn => ?_
  have hn := List.mem_range.1 hn
  have hc : 0 < c := by
    rcases Nat.eq_zero_or_pos c with h | h
    · subst h; simp at hn
    · exact h
  exact h _ ((Nat.div_lt_iff_lt_mul hc).2 hn) _ (Nat.mod_lt _ hc)
theorem genD_set {r c i j : Nat} (M : Nat → Nat → Int) (hj : j < c) (x : Int) : (genD r c M).set (i * c + j) x = genD r c (updM M i j x) := by
  apply List.ext_getElem?
  intro n
  rw [List.getElem?_set, genD_len]
  unfold genD
  simp only [List.getElem?_map]
  by_cases hn : n < r * c
  · rw [List.getElem?_range hn]
    have hc : 0 < c := by omega
    by_cases he : i * c + j = n
    · rw [if_pos he, if_pos (by omega)]
      subst he
      simp [updM, idx_div hj, idx_mod hj]
    · rw [if_neg he]
      simp only [Option.map_some, updM]
      rw [if_neg]
      rintro ⟨h1, h2⟩
      apply he
      rw [← h1, ← h2]
      have := Nat.div_add_mod n c
      rw [Nat.mul_comm] at this
      exact this
  · rw [List.getElem?_eq_none (by simp; omega)]
    by_cases he : i * c + j = n
    · rw [if_pos he, if_neg (by omega)]; rfl
    · rw [if_neg he]; rfl
theorem genD_of {r c : Nat} {l : List Int} (h : l.length = r * c) : genD r c (ofD c l) = l := by
  apply List.ext_getElem?
  intro n
  unfold genD
  simp only [List.getElem?_map]
  by_cases hn : n < r * c
  · rw [List.getElem?_range hn, List.getElem?_eq_getElem (by omega)]
    simp only [Option.map_some, ofD]
    have := Nat.div_add_mod n c
    rw [Nat.mul_comm] at this
    rw [this, List.getD_eq_getElem?_getD, List.getElem?_eq_getElem (by omega)]
    rfl
  · rw [List.getElem?_eq_none (by simp; omega), List.getElem?_eq_none (by omega)]
    rfl
theorem ofD_gen {r c i j : Nat} (M : Nat → Nat → Int) (hi : i < r) (hj : j < c) : ofD c (genD r c M) i j = M i j := by
  unfold ofD
  rw [List.getD_eq_getElem?_getD, genD_get M hi hj]
  rfl
theorem genD_rep (r c : Nat) (x : Int) : repL (r * c) x = genD r c (fun _ _ => x) := by
  unfold genD repL
  rw [List.map_const', List.length_range]
/-! ### indices as the program computes them -/

theorem idxI {i c j : Nat} (hi : i ≤ 1048576) (hc : c ≤ 1048576) (hj : j ≤ 1048576) : addI .i64 (mulI .i64 (i : Int) (c : Int)) (j : Int) = ((i * c + j : Nat) : Int) := by
  have h1 : i * c ≤ 1048576 * 1048576 := Nat.mul_le_mul hi hc
  have e : (i : Int) * (c : Int) = ((i * c : Nat) : Int) := by norm_cast
  rw [mulI, wrap_id (by omega) (by omega), addI_eq (by omega) (by omega), e]
  omega
theorem mulN {i c : Nat} (hi : i ≤ 1048576) (hc : c ≤ 1048576) : mulI .i64 (i : Int) (c : Int) = ((i * c : Nat) : Int) := by
  have h1 : i * c ≤ 1048576 * 1048576 := Nat.mul_le_mul hi hc
  have e : (i : Int) * (c : Int) = ((i * c : Nat) : Int) := by norm_cast
  rw [mulI, wrap_id (by omega) (by omega), e]
theorem getI_gen {r c i j : Nat} (M : Nat → Nat → Int) (hi : i < r) (hj : j < c) : getI (genD r c M) ((i * c + j : Nat) : Int) = some (M i j) := by rw [getI_nat, genD_get M hi hj]
theorem chkI_gen {r c i j : Nat} (M : Nat → Nat → Int) (hi : i < r) (hj : j < c) : chkI ((i * c + j : Nat) : Int) (lenN (genD r c M)) = some (i * c + j) := chkI_nat (by unfold lenN; rw [genD_len]; exact idx_lt hi hj)
theorem getN_gen {r c i j : Nat} (M : Nat → Nat → Int) (hi : i < r) (hj : j < c) : getN (genD r c M) (i * c + j) = some (M i j) := genD_get M hi hj
theorem setL_gen {r c i j : Nat} (M : Nat → Nat → Int) (hj : j < c) (x : Int) : setL (genD r c M) (i * c + j) x = genD r c (updM M i j x) := genD_set M hj x
theorem lenN_gen (r c : Nat) (M : Nat → Nat → Int) : lenN (genD r c M) = r * c := genD_len r c M
theorem fulI_gen (r c : Nat) (M M' : Nat → Nat → Int) : fulI 0 (lenN (genD r c M)) (lenN (genD r c M')) = some () := by rw [lenN_gen, lenN_gen]; exact fulI_id _
theorem samI_gen (r c : Nat) (M M' : Nat → Nat → Int) : samI (lenN (genD r c M)) (lenN (genD r c M')) = some () := by rw [lenN_gen, lenN_gen]; exact samI_ok rfl
theorem remN {a p : Int} (ha : 0 ≤ a) (hp : 0 < p) : remI a p = some (a % p) := by
  unfold remI
  rw [if_neg (by omega), Int.tmod_eq_emod_of_nonneg ha]
theorem ltN_t {i n : Nat} (h : i < n) : ltI (i : Int) (n : Int) = true := ltI_t (by omega)
theorem ltN_f {i n : Nat} (h : n ≤ i) : ltI (i : Int) (n : Int) = false := ltI_f (by omega)
theorem addN1 {i : Nat} (h : i ≤ 1048577) : addI .i64 (i : Int) 1 = ((i + 1 : Nat) : Int) := by rw [addI_eq (by omega) (by omega)]; omega

/-- Products modulo p. -/
def pOk (p : Int) : Prop := 2 ≤ p ∧ p ≤ 1000003
instance (p : Int) : Decidable (pOk p) := inferInstanceAs (Decidable (2 ≤ p ∧ p ≤ 1000003))
def inP (p x : Int) : Prop := 0 ≤ x ∧ x < p
instance (p x : Int) : Decidable (inP p x) := inferInstanceAs (Decidable (0 ≤ x ∧ x < p))

theorem emod_in {p : Int} (hp : pOk p) (a : Int) : inP p (a % p) := ⟨Int.emod_nonneg _ (by have := hp.1; omega), Int.emod_lt_of_pos _ (by have := hp.1; omega)⟩
theorem inP.le {p x : Int} (h : inP p x) : 0 ≤ x ∧ x ≤ p := ⟨h.1, Int.le_of_lt h.2⟩
theorem inP.s {p x : Int} (hp : pOk p) (h : inP p x) : 0 ≤ x ∧ x ≤ 1000003000000 := ⟨h.1, by have := h.2; have := hp.2; omega⟩
theorem prod_in {p a b : Int} (hp : pOk p) (ha : 0 ≤ a ∧ a ≤ p) (hb : 0 ≤ b ∧ b ≤ p) : 0 ≤ a * b ∧ a * b ≤ 1000006000009 := by
  refine ⟨Int.mul_nonneg ha.1 hb.1, ?_⟩
  have h1 := hp.2
  have := Int.mul_le_mul (show a ≤ 1000003 by omega) (show b ≤ 1000003 by omega) hb.1 (by omega)
  omega
theorem mulI_in {p a b : Int} (hp : pOk p) (ha : 0 ≤ a ∧ a ≤ p) (hb : 0 ≤ b ∧ b ≤ p) : mulI .i64 a b = a * b := by
  have := prod_in hp ha hb
  exact wrap_id (by omega) (by omega)
theorem macI {p s a b : Int} (hp : pOk p) (hs : 0 ≤ s ∧ s ≤ 1000003000000) (ha : 0 ≤ a ∧ a ≤ p) (hb : 0 ≤ b ∧ b ≤ p) : remI (addI .i64 s (mulI .i64 a b)) p = some ((s + a * b) % p) := by
  have h := prod_in hp ha hb
  rw [mulI_in hp ha hb, addI_eq (by omega) (by omega), remN (by omega) (by have := hp.1; omega)]
def dotF (p : Int) (f g : Nat → Int) : Nat → Int
  | 0 => 0
  | n + 1 => (dotF p f g n + f n * g n) % p

theorem dotF_in {p : Int} (hp : pOk p) (f g : Nat → Int) : ∀ n, inP p (dotF p f g n)
  | 0 => ⟨Int.le_refl _, by have := hp.1; show (0 : Int) < p; omega⟩
  | n + 1 => emod_in hp _

def mulF (p : Int) (k : Nat) (A B : Nat → Nat → Int) : Nat → Nat → Int := fun i j => dotF p (fun t => A i t) (fun t => B t j) k

/-- All of a matrix's elements are modulo p. -/
def inM (p : Int) (r c : Nat) (M : Nat → Nat → Int) : Prop := ∀ i, i < r → ∀ j, j < c → inP p (M i j)

def allP (p : Int) (l : List Int) : Prop := ∀ x ∈ l, inP p x
instance (p : Int) (l : List Int) : Decidable (allP p l) := inferInstanceAs (Decidable (∀ x ∈ l, inP p x))

theorem allP_gen {p : Int} {r c : Nat} {M : Nat → Nat → Int} : allP p (genD r c M) ↔ inM p r c M := by
  constructor
  · intro h i hi j hj
    exact h _ (List.mem_of_getElem? (genD_get M hi hj))
  · intro h x hx
    unfold genD at hx
    obtain ⟨n, hn, rfl⟩ := List.mem_map.1 hx
    have hn := List.mem_range.1 hn
    have hc : 0 < c := by
      rcases Nat.eq_zero_or_pos c with h | h
      · subst h; simp at hn
      · exact h
    exact h _ ((Nat.div_lt_iff_lt_mul hc).2 hn) _ (Nat.mod_lt _ hc)

/-- A matrix as the program has it. -/
def mOk (x : Int × Int × List Int) : Prop := (0 ≤ x.1 ∧ x.1 ≤ 4096) ∧ (0 ≤ x.2.1 ∧ x.2.1 ≤ 4096) ∧ (x.2.2.length : Int) = x.1 * x.2.1 ∧ x.2.2.length ≤ 1048576
instance (x : Int × Int × List Int) : Decidable (mOk x) := by unfold mOk; infer_instance

/-- What a matrix is. -/
theorem mOk_gen {x : Int × Int × List Int} (h : mOk x) : ∃ (r c : Nat) (M : Nat → Nat → Int), x = ((r : Int), (c : Int), genD r c M) ∧ r ≤ 4096 ∧ c ≤ 4096 ∧ r * c ≤ 1048576 := by
  obtain ⟨r, c, l⟩ := x
  obtain ⟨h1, h2, h3, h4⟩ := h
  simp only at h1 h2 h3 h4
  obtain ⟨r, rfl⟩ := natI_eq h1.1
  obtain ⟨c, rfl⟩ := natI_eq h2.1
  have e : l.length = r * c := by
    have : ((r : Int) * (c : Int)) = ((r * c : Nat) : Int) := by norm_cast
    rw [this] at h3; exact_mod_cast h3
  exact ⟨r, c, ofD c l, by rw [genD_of e], by omega, by omega, by omega⟩

theorem mOk_mk {r c : Nat} (M : Nat → Nat → Int) (hr : r ≤ 4096) (hc : c ≤ 4096) (h : r * c ≤ 1048576) : mOk ((r : Int), (c : Int), genD r c M) := by
  refine ⟨⟨by omega, by show (r : Int) ≤ 4096; omega⟩, ⟨by show (0 : Int) ≤ c; omega, by show (c : Int) ≤ 4096; omega⟩, ?_, ?_⟩
  · simp only [genD_len]; norm_cast
  · simp only [genD_len]; exact h

end Go.Am
end
section
namespace Go.Am
def F_spec_l01In : Int × Int × Int → Option Bool := fun ((a, b, c) : Int × Int × Int) => some (decide (b ≤ a ∧ a ≤ c))
def ag_spec_l01In : Sig := [(.one, [.int .i64]), (.one, [.int .i64]), (.one, [.int .i64])]
def rs_spec_l01In : Sig := [(.one, [.bool])]
def mu_spec_l01In : MSig := []
def G_spec_l01In (NN : Nat) : (Int × (Int × Int)) → (Option Bool) :=
 (fun ((i0, i1, i2) : (Int × (Int × Int))) =>
 cnd (leI i1 i0)
 (some (leI i0 i2))
 (some false))

theorem f_spec_l01In (x : Int × Int × Int) (y : Bool) (h : F_spec_l01In x = some y) : G_spec_l01In FUEL x = some y := by
  obtain ⟨a, b, c⟩ := x
  rw [← h]
  simp only [F_spec_l01In, G_spec_l01In, leI]
  by_cases hc : b ≤ a <;> simp [hc, cnd]

end Go.Am
end
section
namespace Go.Am

/-! ### primes, rows, matrices, automata -/

def divAt (n : Int) (i : Nat) : Bool := decide ((i : Int) * i ≤ n) && decide (n % (i : Int) = 0)
def isPrimeI (n : Int) : Bool := decide (2 ≤ n ∧ n ≤ 1000003) && !((List.range' 2 999).any (divAt n))
def F_spec_IsPrime : Int → Option Bool := fun (n : Int) => some (isPrimeI n)
def F_impl_IsPrime : Int → Option Bool := fun (n : Int) => some (isPrimeI n)
def inB (m : Int) (v : Int) : Bool := decide (0 ≤ v ∧ v < m)
def rowOk (m : Int) (l : List Int) : Bool := l.all (inB m)
def F_impl_inMod : Int × List Int → Option Bool := fun ((m, l) : Int × List Int) => if l.length ≤ 1048576 then some (rowOk m l) else none
def matOk (m : Int) (x : Int × Int × List Int) : Bool := isPrimeI m && (decide (0 ≤ x.1 ∧ x.1 ≤ 64) && (decide (0 ≤ x.2.1 ∧ x.2.1 ≤ 64) && (decide ((x.2.2.length : Int) = x.1 * x.2.1) && rowOk m x.2.2)))
def F_spec_MatrixOk : Int × Int × Int × List Int → Option Bool := fun ((m, x) : Int × Int × Int × List Int) => if sz_Matrix x ≤ 1048576 then some (matOk m x) else none
def F_impl_MatrixOk : Int × Int × Int × List Int → Option Bool := fun ((m, x) : Int × Int × Int × List Int) => if sz_Matrix x ≤ 1048576 then some (matOk m x) else none
def ag_spec_IsPrime : Sig := [(.one, [.int .i64])]
def rs_spec_IsPrime : Sig := [(.one, [.bool])]
def mu_spec_IsPrime : MSig := []
def ag_spec_MatrixOk : Sig := [(.one, [.int .i64]), (.agg, [.int .i64, .int .i64, .list [.int .i64]])]
def rs_spec_MatrixOk : Sig := [(.one, [.bool])]
def mu_spec_MatrixOk : MSig := []
def ag_impl_IsPrime : Sig := [(.one, [.int .i64])]
def rs_impl_IsPrime : Sig := [(.one, [.bool])]
def mu_impl_IsPrime : MSig := []
def ag_impl_inMod : Sig := [(.one, [.int .i64]), (.one, [.list [.int .i64]])]
def rs_impl_inMod : Sig := [(.one, [.bool])]
def mu_impl_inMod : MSig := []
def ag_impl_MatrixOk : Sig := [(.one, [.int .i64]), (.agg, [.int .i64, .int .i64, .list [.int .i64]])]
def rs_impl_MatrixOk : Sig := [(.one, [.bool])]
def mu_impl_MatrixOk : MSig := []
def G_spec_IsPrime (NN : Nat) : Int → (Option Bool) :=
 (fun (i0 : Int) =>
 joinK (loopT NN (fun ((i1, i2) : (Int × Int)) =>
 cnd (leI (mulI .i64 i2 i2) i1)
 (cnd (leI i1 (1000003 : Int))
 ((remI i1 i2).bnd (fun i3 =>
 cnd (eqI i3 (0 : Int))
 (some (Sum.inr (Sum.inr false)))
 (some (Sum.inl (i1, addI .i64 i2 1)))))
 (some (Sum.inr (Sum.inl i1))))
 (some (Sum.inr (Sum.inl i1))))
 (i0, (2 : Int)))
 (fun i4 =>
 (F_spec_l01In (i4, (2 : Int), (1000003 : Int))).bnd (fun b5 =>
 some b5)))

def G_spec_MatrixOk (NN : Nat) : (Int × (Int × (Int × (List Int)))) → (Option Bool) :=
 (fun ((i0, i1, i2, l3) : (Int × (Int × (Int × (List Int))))) =>
 (F_spec_IsPrime i0).bnd (fun b4 =>
 cnd (notB b4)
 (some false)
 ((F_spec_l01In (i1, (0 : Int), (64 : Int))).bnd (fun b5 =>
 cnd (notB b5)
 (some false)
 ((F_spec_l01In (i2, (0 : Int), (64 : Int))).bnd (fun b6 =>
 cnd (notB b6)
 (some false)
 (cnd (neI (natI (lenN l3)) (mulI .i64 i1 i2))
 (some false)
 (joinK (loopT NN (fun ((i7, l8, i9, i10) : (Int × ((List Int) × (Int × Int)))) =>
 cnd (ltI i10 i9)
 ((getI l8 i10).bnd (fun i11 =>
 (F_spec_l01In (i11, (0 : Int), subI .i64 i7 1)).bnd (fun b12 =>
 cnd (notB b12)
 (some (Sum.inr (Sum.inr false)))
 (some (Sum.inl (i7, l8, i9, addI .i64 i10 1))))))
 (some (Sum.inr (Sum.inl ()))))
 (i0, l3, natI (lenN l3), (0 : Int)))
 (fun _ =>
 some true)))))))))

def G_impl_IsPrime (NN : Nat) : Int → (Option Bool) :=
 (fun (i0 : Int) =>
 cnd (ltI i0 (2 : Int))
 (some false)
 (cnd (ltI (1000003 : Int) i0)
 (some false)
 (joinK (loopT NN (fun ((i1, i2) : (Int × Int)) =>
 cnd (leI (mulI .i64 i2 i2) i1)
 ((remI i1 i2).bnd (fun i3 =>
 cnd (eqI i3 (0 : Int))
 (some (Sum.inr (Sum.inr false)))
 (some (Sum.inl (i1, addI .i64 i2 1)))))
 (some (Sum.inr (Sum.inl ()))))
 (i0, (2 : Int)))
 (fun _ =>
 some true))))

def G_impl_inMod (NN : Nat) : (Int × (List Int)) → (Option Bool) :=
 (fun ((i0, l1) : (Int × (List Int))) =>
 joinK (loopT NN (fun ((i2, l3, i4, i5) : (Int × ((List Int) × (Int × Int)))) =>
 cnd (ltI i5 i4)
 ((getI l3 i5).bnd (fun i6 =>
 cnd (ltI i6 (0 : Int))
 (some (Sum.inr (Sum.inr false)))
 (cnd (leI i2 i6)
 (some (Sum.inr (Sum.inr false)))
 (some (Sum.inl (i2, l3, i4, addI .i64 i5 1))))))
 (some (Sum.inr (Sum.inl ()))))
 (i0, l1, natI (lenN l1), (0 : Int)))
 (fun _ =>
 some true))

def G_impl_MatrixOk (NN : Nat) : (Int × (Int × (Int × (List Int)))) → (Option Bool) :=
 (fun ((i0, i1, i2, l3) : (Int × (Int × (Int × (List Int))))) =>
 (F_impl_IsPrime i0).bnd (fun b4 =>
 cnd (notB b4)
 (some false)
 (cnd (ltI i1 (0 : Int))
 (some false)
 (cnd (ltI i2 (0 : Int))
 (some false)
 (cnd (ltI (64 : Int) i1)
 (some false)
 (cnd (ltI (64 : Int) i2)
 (some false)
 (cnd (eqI (natI (lenN l3)) (mulI .i64 i1 i2))
 ((F_impl_inMod (i0, l3)).bnd (fun b5 =>
 some b5))
 (some false))))))))

theorem mulI_eq {a b : Int} (h1 : -9223372036854775808 ≤ a * b) (h2 : a * b ≤ 9223372036854775807) : mulI .i64 a b = a * b := wrap_id h1 h2
theorem remI_nat {n : Int} {i : Nat} (hn : 0 ≤ n) (hi : 0 < i) : remI n (i : Int) = some (n % (i : Int)) := by
  unfold remI
  rw [if_neg (by omega), Int.tmod_eq_emod_of_nonneg hn]

theorem sq_le {i j : Nat} (h : i ≤ j) : (i : Int) * i ≤ (j : Int) * j := by
  have := Nat.mul_le_mul h h
  exact_mod_cast this

/-- The search for a divisor. -/
theorem div_loop {X Y : Type} {f : X → Option (X ⊕ (Y ⊕ Bool))} (n : Int) (mk : Nat → X) (r : Y) (hn : n ≤ 1000003)
    (h1 : ∀ i : Nat, 2 ≤ i → i ≤ 1001 → (i : Int) * i ≤ n → n % (i : Int) = 0 → f (mk i) = some (.inr (.inr false)))
    (h2 : ∀ i : Nat, 2 ≤ i → i ≤ 1001 → (i : Int) * i ≤ n → n % (i : Int) ≠ 0 → f (mk i) = some (.inl (mk (i + 1))))
    (h3 : ∀ i : Nat, 2 ≤ i → i ≤ 1001 → ¬ (i : Int) * i ≤ n → f (mk i) = some (.inr (.inl r))) {x0 : X} (hx : x0 = mk 2) :
    loopT FUEL f x0 = some (if (List.range' 2 999).any (divAt n) = true then .inr false else .inl r) := by
  subst hx
  have key : ∀ (d i : Nat), 2 ≤ i → i + d = 1001 → ∀ N, d < N → loopT N f (mk i) = some (if (List.range' i d).any (divAt n) = true then .inr false else .inl r) := by
    intro d
    induction d with
    | zero =>
      intro i hi hd N hN
      obtain ⟨N, rfl⟩ : ∃ M, N = M + 1 := ⟨N - 1, by omega⟩
      have : i = 1001 := by omega
      subst this
      rw [loopT, h3 1001 (by omega) (by omega) (by omega)]
      rfl
    | succ d ih =>
      intro i hi hd N hN
      obtain ⟨N, rfl⟩ : ∃ M, N = M + 1 := ⟨N - 1, by omega⟩
      rw [List.range'_succ, List.any_cons]
      by_cases hle : (i : Int) * i ≤ n
      · by_cases hm : n % (i : Int) = 0
        · rw [loopT, h1 i hi (by omega) hle hm]
          simp [divAt, hle, hm]
        · rw [loopT, h2 i hi (by omega) hle hm]
          simp only
          rw [ih (i + 1) (by omega) (by omega) N (by omega), show divAt n i = false by simp [divAt, hm], Bool.false_or]
      · rw [loopT, h3 i hi (by omega) hle]
        have : (List.range' (i + 1) d).any (divAt n) = false := by
          rw [List.any_eq_false]
          intro j hj
          have := (List.mem_range'_1.1 hj).1
          have := sq_le (show i ≤ j by omega)
          simp only [divAt, Bool.and_eq_true, decide_eq_true_eq, not_and]
          intro h; omega
        simp only
        rw [this]
        simp [divAt, hle]
  exact key 999 2 (by omega) (by omega) FUEL (FUEL_gt (by omega))

theorem sq_le1001 {i : Nat} (h : i ≤ 1001) : 0 ≤ (i : Int) * i ∧ (i : Int) * i ≤ 1002001 := by
  have h1 := sq_le h
  have h0 := sq_le (Nat.zero_le i)
  omega

theorem f_spec_IsPrime (x : Int) (y : Bool) (h : F_spec_IsPrime x = some y) : G_spec_IsPrime FUEL x = some y := by
  rw [← h]
  simp only [F_spec_IsPrime, G_spec_IsPrime]
  by_cases hx : x ≤ 1000003
  · rw [div_loop x (fun i => (x, (i : Int))) x hx ?_ ?_ ?_ ?_]
    · by_cases hd : (List.range' 2 999).any (divAt x) = true
      · rw [if_pos hd, joinK_r, isPrimeI, hd]
        simp
      · rw [if_neg hd, joinK_l, isPrimeI]
        simp only [F_spec_l01In, bnd_s]
        simp [hd]
    all_goals try simp only
    · intro i h2 hi hle hm
      have hs := sq_le1001 hi
      rw [mulI_eq (by omega) (by omega), cnd_t (leI_t hle), cnd_t (leI_t hx), remI_nat (by omega) (by omega), bnd_s, cnd_t (eqI_t hm)]
    · intro i h2 hi hle hm
      have hs := sq_le1001 hi
      rw [mulI_eq (by omega) (by omega), cnd_t (leI_t hle), cnd_t (leI_t hx), remI_nat (by omega) (by omega), bnd_s, cnd_f (eqI_f hm), addI_eq (by omega) (by omega)]
      rfl
    · intro i h2 hi hle
      have hs := sq_le1001 hi
      rw [mulI_eq (by omega) (by omega), cnd_f (leI_f (by omega))]
    · rfl
  · rw [loopT_seq (fun i => (x, (i : Int) + 2)) (r := Sum.inl x) 0 (fun j hj => by omega) ?_ ?_ (FUEL_gt (by omega))]
    · rw [joinK_l, isPrimeI]
      simp only [F_spec_l01In, bnd_s]
      have : ¬ (2 ≤ x ∧ x ≤ 1000003) := by omega
      simp [this]
    · simp only
      rw [cnd_t (leI_t (by rw [mulI_eq (by omega) (by omega)]; omega)), cnd_f (leI_f (by omega))]
    · rfl

theorem f_impl_IsPrime (x : Int) (y : Bool) (h : F_impl_IsPrime x = some y) : G_impl_IsPrime FUEL x = some y := by
  rw [← h]
  simp only [F_impl_IsPrime, G_impl_IsPrime]
  by_cases h2 : x < 2
  · rw [cnd_t (ltI_t h2), isPrimeI, decide_eq_false (by omega)]; rfl
  rw [cnd_f (ltI_f (by omega))]
  by_cases hx : 1000003 < x
  · rw [cnd_t (ltI_t hx), isPrimeI, decide_eq_false (by omega)]; rfl
  rw [cnd_f (ltI_f (by omega))]
  rw [div_loop x (fun i => (x, (i : Int))) () (by omega) ?_ ?_ ?_ ?_]
  · have hr : (2 ≤ x ∧ x ≤ 1000003) := by omega
    by_cases hd : (List.range' 2 999).any (divAt x) = true
    · rw [if_pos hd, joinK_r, isPrimeI, hd]
      simp
    · rw [if_neg hd, joinK_l, isPrimeI]
      simp [hd, hr]
  all_goals try simp only
  · intro i h2 hi hle hm
    have hs := sq_le1001 hi
    rw [mulI_eq (by omega) (by omega), cnd_t (leI_t hle), remI_nat (by omega) (by omega), bnd_s, cnd_t (eqI_t hm)]
  · intro i h2 hi hle hm
    have hs := sq_le1001 hi
    rw [mulI_eq (by omega) (by omega), cnd_t (leI_t hle), remI_nat (by omega) (by omega), bnd_s, cnd_f (eqI_f hm), addI_eq (by omega) (by omega)]
    rfl
  · intro i h2 hi hle
    have hs := sq_le1001 hi
    rw [mulI_eq (by omega) (by omega), cnd_f (leI_f (by omega))]
  · rfl

theorem f_impl_inMod (x : Int × List Int) (y : Bool) (h : F_impl_inMod x = some y) : G_impl_inMod FUEL x = some y := by
  obtain ⟨m, l⟩ := x
  simp only [F_impl_inMod] at h
  split at h
  · rename_i hl
    rw [← h]
    simp only [G_impl_inMod]
    rw [loopT_all (mk := fun i => (m, l, natI (lenN l), (i : Int))) l (inB m) (Sum.inr false) (Sum.inl ()) ?_ ?_ ?_ ?_ (FUEL_gt (by omega))]
    · unfold rowOk
      cases l.all (inB m) <;> rfl
    all_goals try simp only
    · intro i a ha hp
      have hp := of_decide_eq_true hp
      rw [cnd_t (ltI_in ha), getI_nat, ha, bnd_s, cnd_f (ltI_f (by omega)), cnd_f (leI_f (by omega)), next_i ha (by omega)]
    · intro i a ha hp
      have hp := of_decide_eq_false hp
      rw [cnd_t (ltI_in ha), getI_nat, ha, bnd_s]
      by_cases h0 : a < 0
      · rw [cnd_t (ltI_t h0)]
      · rw [cnd_f (ltI_f (by omega)), cnd_t (leI_t (by omega))]
    · rw [cnd_f (ltI_end l)]
    · rfl
  · cases h

theorem isPrimeI_t {m : Int} (h : isPrimeI m = true) : 2 ≤ m ∧ m ≤ 1000003 := by
  simp only [isPrimeI, Bool.and_eq_true, decide_eq_true_eq] at h
  exact h.1

theorem f_impl_MatrixOk (x : Int × Int × Int × List Int) (y : Bool) (h : F_impl_MatrixOk x = some y) : G_impl_MatrixOk FUEL x = some y := by
  obtain ⟨m, r, c, l⟩ := x
  simp only [F_impl_MatrixOk] at h
  split at h
  · rename_i hl
    rw [← h]
    have hl : l.length ≤ 1048576 := hl
    simp only [G_impl_MatrixOk, F_impl_IsPrime, bnd_s, matOk]
    cases hp : isPrimeI m with
    | false => rfl
    | true =>
      rw [cnd_f (by rfl), Bool.true_and]
      by_cases h1 : r < 0
      · rw [cnd_t (ltI_t h1), decide_eq_false (by omega)]; rfl
      rw [cnd_f (ltI_f (by omega))]
      by_cases h2 : c < 0
      · rw [cnd_t (ltI_t h2), decide_eq_false (p := 0 ≤ c ∧ c ≤ 64) (by omega)]; simp
      rw [cnd_f (ltI_f (by omega))]
      by_cases h3 : 64 < r
      · rw [cnd_t (ltI_t h3), decide_eq_false (by omega)]; rfl
      rw [cnd_f (ltI_f (by omega))]
      by_cases h4 : 64 < c
      · rw [cnd_t (ltI_t h4), decide_eq_false (p := 0 ≤ c ∧ c ≤ 64) (by omega)]; simp
      rw [cnd_f (ltI_f (by omega)), decide_eq_true (p := 0 ≤ r ∧ r ≤ 64) (by omega), decide_eq_true (p := 0 ≤ c ∧ c ≤ 64) (by omega), Bool.true_and, Bool.true_and]
      obtain ⟨r, rfl⟩ := natI_eq (z := r) (by omega)
      obtain ⟨c, rfl⟩ := natI_eq (z := c) (by omega)
      have hrc : r * c ≤ 64 * 64 := Nat.mul_le_mul (by omega) (by omega)
      have hrc' : (r : Int) * (c : Int) = ((r * c : Nat) : Int) := by norm_cast
      rw [mulI_eq (by omega) (by omega), show F_impl_inMod (m, l) = some (rowOk m l) from if_pos hl]
      by_cases h5 : (l.length : Int) = (r : Int) * c
      · rw [cnd_t (show eqI (natI (lenN l)) _ = true from eqI_t h5), decide_eq_true h5]; rfl
      · rw [cnd_f (show eqI (natI (lenN l)) _ = false from eqI_f h5), decide_eq_false h5]; rfl
  · cases h

theorem f_spec_MatrixOk (x : Int × Int × Int × List Int) (y : Bool) (h : F_spec_MatrixOk x = some y) : G_spec_MatrixOk FUEL x = some y := by
  obtain ⟨m, r, c, l⟩ := x
  simp only [F_spec_MatrixOk] at h
  split at h
  · rename_i hl
    rw [← h]
    have hl : l.length ≤ 1048576 := hl
    simp only [G_spec_MatrixOk, F_spec_IsPrime, F_spec_l01In, bnd_s, matOk]
    cases hp : isPrimeI m with
    | false => rfl
    | true =>
      obtain ⟨hm1, hm2⟩ := isPrimeI_t hp
      rw [cnd_f (by rfl), Bool.true_and]
      by_cases h1 : 0 ≤ r ∧ r ≤ 64
      rotate_left
      · rw [cnd_t (notB_d h1), decide_eq_false h1]; rfl
      rw [cnd_f (notB_p h1), decide_eq_true h1, Bool.true_and]
      by_cases h2 : 0 ≤ c ∧ c ≤ 64
      rotate_left
      · rw [cnd_t (notB_d h2), decide_eq_false h2]; rfl
      rw [cnd_f (notB_p h2), decide_eq_true h2, Bool.true_and]
      obtain ⟨r, rfl⟩ := natI_eq (z := r) (by omega)
      obtain ⟨c, rfl⟩ := natI_eq (z := c) (by omega)
      have hrc : r * c ≤ 64 * 64 := Nat.mul_le_mul (by omega) (by omega)
      have hrc' : (r : Int) * (c : Int) = ((r * c : Nat) : Int) := by norm_cast
      rw [mulI_eq (by omega) (by omega)]
      by_cases h5 : (l.length : Int) = (r : Int) * c
      rotate_left
      · rw [cnd_t (show neI (natI (lenN l)) _ = true from neI_t h5), decide_eq_false h5]; rfl
      rw [cnd_f (show neI (natI (lenN l)) _ = false from neI_f h5), decide_eq_true h5, Bool.true_and]
      rw [loopT_all (mk := fun i => (m, l, natI (lenN l), (i : Int))) l (inB m) (Sum.inr false) (Sum.inl ()) ?_ ?_ ?_ ?_ (FUEL_gt (by omega))]
      · unfold rowOk
        cases l.all (inB m) <;> rfl
      all_goals try simp only
      · intro i a ha hp
        have hp := of_decide_eq_true hp
        rw [cnd_t (ltI_in ha), getI_nat, ha, bnd_s, subI_eq (by omega) (by omega), cnd_f (notB_p (by omega)), next_i ha (by omega)]
      · intro i a ha hp
        have hp := of_decide_eq_false hp
        rw [cnd_t (ltI_in ha), getI_nat, ha, bnd_s, subI_eq (by omega) (by omega), cnd_t (notB_d (by omega))]
      · rw [cnd_f (ltI_end l)]
      · rfl
  · cases h

end Go.Am
end
section
namespace Go.Am
/-! ### products of dimensions -/

def prodI : List Int → Int
  | [] => 1
  | x :: l => x * prodI l
def capStep (lim : Int) (_ : Nat) (a x : Int) : Int := min (a * x) (lim + 1)
def capProd (lim : Int) (l : List Int) : Int := foldN (capStep lim) 0 1 l
def smallB (x : Int) : Bool := decide (0 ≤ x ∧ x ≤ 1048576)
def F_spec_l05Product : List Int × Int → Option Int := fun ((l, lim) : List Int × Int) => if (0 ≤ lim ∧ lim ≤ 1048576) ∧ l.length ≤ 1048576 ∧ l.all smallB = true then some (capProd lim l) else none
def ag_spec_l05Product : Sig := [(.one, [.list [.int .i64]]), (.one, [.int .i64])]
def rs_spec_l05Product : Sig := [(.one, [.int .i64])]
def mu_spec_l05Product : MSig := []

def G_spec_l05Product (NN : Nat) : ((List Int) × Int) → (Option Int) :=
 (fun ((l0, i1) : ((List Int) × Int)) =>
 joinK (loopT NN (fun ((i2, i3, l4, i5, i6) : (Int × (Int × ((List Int) × (Int × Int))))) =>
 cnd (ltI i6 i5)
 ((getI l4 i6).bnd (fun i7 =>
 some (Sum.inl (i2, minI (mulI .i64 i3 i7) (addI .i64 i2 1), l4, i5, addI .i64 i6 1))))
 (some (Sum.inr (Sum.inl i3))))
 (i1, (1 : Int), l0, natI (lenN l0), (0 : Int)))
 (fun i8 =>
 some i8))



theorem mul_bd {a x A B : Int} (h0 : 0 ≤ a) (h1 : a ≤ A) (h2 : 0 ≤ x) (h3 : x ≤ B) : 0 ≤ a * x ∧ a * x ≤ A * B :=
  ⟨Int.mul_nonneg h0 h2, Int.mul_le_mul h1 h3 h2 (by omega)⟩

theorem f_spec_l05Product (x : List Int × Int) (y : Int) (h : F_spec_l05Product x = some y) : G_spec_l05Product FUEL x = some y := by
  obtain ⟨l, lim⟩ := x
  simp only [F_spec_l05Product] at h
  split at h
  · rename_i hc
    obtain ⟨hlim, hl, hs⟩ := hc
    rw [← h]
    simp only [G_spec_l05Product]
    rw [loopT_foldN l (fun (a : Int) i => (lim, a, l, natI (lenN l), (i : Int))) (fun _ a => 0 ≤ a ∧ a ≤ lim + 1) (capStep lim) (fun a => Sum.inl a) ?_ ?_ (s := 1) ⟨by omega, by omega⟩ ?_ (FUEL_gt (by omega))]
    · rfl
    all_goals try simp only
    · intro i a x hx ha
      have hxs := of_decide_eq_true (List.all_eq_true.1 hs x (List.mem_of_getElem? hx))
      obtain ⟨b1, b2⟩ := mul_bd ha.1 (show a ≤ 1048577 by omega) hxs.1 hxs.2
      rw [cnd_t (ltI_in hx), getI_nat, hx, bnd_s, mulI_eq (by omega) (by omega), addI_eq (a := lim) (by omega) (by omega), minI_eq', next_i hx (by omega)]
      refine ⟨rfl, ?_⟩
      unfold capStep
      omega
    · intro a _
      rw [cnd_f (ltI_end l)]
    · rfl
  · cases h

theorem prodI_pos : ∀ {l : List Int}, (∀ x ∈ l, 1 ≤ x) → 1 ≤ prodI l
  | [], _ => by simp [prodI]
  | x :: l, h => by
    have h1 := h x List.mem_cons_self
    have h2 := prodI_pos (l := l) (fun x hx => h x (List.mem_cons_of_mem _ hx))
    have := Int.mul_le_mul h1 h2 (by omega) (by omega)
    simpa [prodI] using this

theorem capProd_go {lim : Int} (hlim : 0 ≤ lim) : ∀ (l : List Int) (i : Nat) (a : Int), (∀ x ∈ l, 1 ≤ x) → 1 ≤ a → a ≤ lim + 1 → foldN (capStep lim) i a l = min (a * prodI l) (lim + 1)
  | [], i, a, _, _, h2 => by simp only [foldN, prodI, Int.mul_one]; omega
  | x :: l, i, a, h, h1, h2 => by
    have hx := h x List.mem_cons_self
    have hp := prodI_pos (l := l) (fun x hx => h x (List.mem_cons_of_mem _ hx))
    have hax := Int.mul_le_mul h1 hx (by omega) (by omega)
    rw [foldN, capProd_go hlim l (i + 1) _ (fun x hx => h x (List.mem_cons_of_mem _ hx)) (by unfold capStep; omega) (by unfold capStep; omega), prodI, ← Int.mul_assoc]
    unfold capStep
    generalize a * x = c at *
    by_cases hc : c ≤ lim + 1
    · rw [Int.min_eq_left hc]
    · have e : min c (lim + 1) = lim + 1 := by omega
      rw [e]
      have k1 := Int.mul_le_mul_of_nonneg_left hp (show 0 ≤ lim + 1 by omega)
      have k2 := Int.mul_le_mul_of_nonneg_left hp (show 0 ≤ c by omega)
      omega

theorem capProd_le {lim : Int} (hlim : 0 ≤ lim) {l : List Int} (h : ∀ x ∈ l, 1 ≤ x) : leI (capProd lim l) lim = decide (prodI l ≤ lim) := by
  unfold leI capProd
  rw [capProd_go hlim l 0 1 h (by omega) (by omega), Int.one_mul]
  by_cases hp : prodI l ≤ lim
  · rw [decide_eq_true hp, decide_eq_true (by omega)]
  · rw [decide_eq_false hp, decide_eq_false (by omega)]

end Go.Am
end
section
namespace Go.Am
/-! ### sizes of tensors, charges -/

def axP (L D : List Int) (j : Nat) : Prop := (0 ≤ L.getD j 0 ∧ L.getD j 0 ≤ 99) ∧ (1 ≤ D.getD j 0 ∧ D.getD j 0 ≤ 8) ∧ L.getD j 0 ∉ L.take j
instance (L D : List Int) (j : Nat) : Decidable (axP L D j) := by unfold axP; infer_instance
def chP (m : Int) (D : List Int) (R : List (List Int)) (j : Nat) : Prop := ((R.getD j []).length : Int) = D.getD j 0 ∧ rowOk m (R.getD j []) = true
instance (m : Int) (D : List Int) (R : List (List Int)) (j : Nat) : Decidable (chP m D R j) := by unfold chP; infer_instance
def chDom (x : (List Int × List Int × List Int) × Int × List (List Int)) : Prop := (x.1.1.length ≤ 1048576 ∧ x.1.2.1.length ≤ 1048576) ∧ x.2.2.length ≤ 1048576 ∧ ∀ l ∈ x.2.2, l.length ≤ 1048576
instance (x : (List Int × List Int × List Int) × Int × List (List Int)) : Decidable (chDom x) := by unfold chDom; infer_instance
theorem getD_some {α : Type} {l : List α} {j : Nat} (d : α) (h : j < l.length) : l[j]? = some (l.getD j d) := by
  simp [List.getD, h]
theorem ltL_t {α : Type} {l : List α} {j : Nat} (h : j < l.length) : ltI (j : Int) (natI (lenN l)) = true := ltN_t h

def axQ (L D : List Int) (j : Nat) : Prop := axP L D j ∧ prodI (D.take (j + 1)) ≤ 4096
instance (L D : List Int) (j : Nat) : Decidable (axQ L D j) := by unfold axQ; infer_instance

end Go.Am
end
section
namespace Go.Am

/-! ### chains -/

def siteOk (m : Int) (s : Int × Int × Int × List Int) : Bool := decide (0 ≤ s.1 ∧ s.1 ≤ 32) && (decide (0 ≤ s.2.2.1 ∧ s.2.2.1 ≤ 32) && (decide (1 ≤ s.2.1 ∧ s.2.1 ≤ 8) && (decide ((s.2.2.2.length : Int) = s.1 * s.2.1 * s.2.2.1) && rowOk m s.2.2.2)))
def chStep (m : Int) (_ : Nat) (b : Int) (s : Int × Int × Int × List Int) : Option Int := if siteOk m s = true ∧ s.1 = b then some s.2.2.1 else none
def chStep2 (m : Int) (_ : Nat) (st : Int × Int) (s : Int × Int × Int × List Int) : Option (Int × Int) := if siteOk m s = true ∧ s.1 = st.1 then some (s.2.2.1, st.2 * s.2.1) else none
def dimsOf (l : List (Int × Int × Int × List Int)) : List Int := l.map fun s => s.2.1
def chainOk (x : Int × List (Int × Int × Int × List Int)) : Bool := match x with
  | (m, l) => isPrimeI m && (decide (1 ≤ l.length ∧ l.length ≤ 8) && (match foldO (chStep m) 0 1 l with
    | some b => decide (b = 1) && decide (prodI (dimsOf l) ≤ 4096)
    | none => false))
def F_spec_l32Dims : Int × List (Int × Int × Int × List Int) → Option (List Int) := fun ((m, l) : Int × List (Int × Int × Int × List Int)) => if l.length ≤ 1048576 then some (dimsOf l) else none
def F_impl_siteOk : Int × Int × Int × Int × List Int → Option Bool := fun ((m, s) : Int × Int × Int × Int × List Int) => if sz_Site s ≤ 1048576 then some (siteOk m s) else none
def F_spec_ChainOk : Int × List (Int × Int × Int × List Int) → Option Bool := fun x => if sz_Chain x ≤ 1048576 then some (chainOk x) else none
def F_impl_ChainOk : Int × List (Int × Int × Int × List Int) → Option Bool := fun x => if sz_Chain x ≤ 1048576 then some (chainOk x) else none


def ag_spec_l32Dims : Sig := [(.agg, [.int .i64, .list [.int .i64, .int .i64, .int .i64, .list [.int .i64]]])]
def rs_spec_l32Dims : Sig := [(.one, [.list [.int .i64]])]
def mu_spec_l32Dims : MSig := []
def ag_spec_ChainOk : Sig := [(.agg, [.int .i64, .list [.int .i64, .int .i64, .int .i64, .list [.int .i64]]])]
def rs_spec_ChainOk : Sig := [(.one, [.bool])]
def mu_spec_ChainOk : MSig := []
def ag_impl_siteOk : Sig := [(.one, [.int .i64]), (.agg, [.int .i64, .int .i64, .int .i64, .list [.int .i64]])]
def rs_impl_siteOk : Sig := [(.one, [.bool])]
def mu_impl_siteOk : MSig := []
def ag_impl_ChainOk : Sig := [(.agg, [.int .i64, .list [.int .i64, .int .i64, .int .i64, .list [.int .i64]]])]
def rs_impl_ChainOk : Sig := [(.one, [.bool])]
def mu_impl_ChainOk : MSig := []

def G_spec_l32Dims (NN : Nat) : (Int × (List (Int × (Int × (Int × (List Int)))))) → (Option (List Int)) :=
 (fun ((i0, l1) : (Int × (List (Int × (Int × (Int × (List Int))))))) =>
 joinK ((fulI 0 0 (lenN (([] : List Int)))).bnd (fun _ =>
 loopT NN (fun (((l2, i3, i4), l5) : (((List (Int × (Int × (Int × (List Int))))) × (Int × Int)) × (List Int))) =>
 cnd (ltI i4 i3)
 ((getI l2 i4).bnd (fun (i6, i7, i8, l9) =>
 (fulI 0 (lenN l5) (lenN l5)).bnd (fun _ =>
 (winI ((i7 :: ([] : List Int))) 0 1).bnd (fun l10 =>
 (fitI (addN (lenN l5) (lenN l10)) 8).bnd (fun _ =>
 (fulI 0 (addN (lenN l5) (lenN l10)) (lenN (appL l5 l10))).bnd (fun _ =>
 some (Sum.inl ((l2, i3, addI .i64 i4 1), appL l5 l10))))))))
 (((fulI 0 (lenN l5) (lenN l5)).bnd (fun _ =>
 some (Sum.inl l5))).bnd (fun l11 =>
 some (Sum.inr l11))))
 ((l1, natI (lenN l1), (0 : Int)), ([] : List Int))))
 (fun l12 =>
 (takI l12 (lenN l12)).bnd (fun l13 =>
 some l13)))


def G_spec_ChainOk (NN : Nat) : (Int × (List (Int × (Int × (Int × (List Int)))))) → (Option Bool) :=
 (fun ((i0, l1) : (Int × (List (Int × (Int × (Int × (List Int))))))) =>
 (F_spec_IsPrime i0).bnd (fun b2 =>
 cnd (notB b2)
 (some false)
 ((F_spec_l01In (natI (lenN l1), (1 : Int), (8 : Int))).bnd (fun b3 =>
 cnd (notB b3)
 (some false)
 (joinK (loopT NN (fun (((i4, l5, i6, i7), i8, l9) : ((Int × ((List (Int × (Int × (Int × (List Int))))) × (Int × Int))) × (Int × (List (Int × (Int × (Int × (List Int)))))))) =>
 cnd (ltI i7 i6)
 (joinK ((getI l5 i7).bnd (fun (i10, i11, i12, l13) =>
 cnd (neI i10 i4)
 (some (Sum.inr (Sum.inr (Sum.inr false))))
 ((F_spec_l01In (i11, (1 : Int), (8 : Int))).bnd (fun b14 =>
 cnd (notB b14)
 (some (Sum.inr (Sum.inr (Sum.inr false))))
 ((F_spec_l01In (i12, (0 : Int), (32 : Int))).bnd (fun b15 =>
 cnd (notB b15)
 (some (Sum.inr (Sum.inr (Sum.inr false))))
 (cnd (neI (natI (lenN l13)) (mulI .i64 (mulI .i64 i10 i11) i12))
 (some (Sum.inr (Sum.inr (Sum.inr false))))
 (joinK (loopT NN (fun (((l16, i17, i18, l19, i20, i21), (i22, l23), i24, i25, i26, l27) : (((List (Int × (Int × (Int × (List Int))))) × (Int × (Int × ((List Int) × (Int × Int))))) × ((Int × (List (Int × (Int × (Int × (List Int)))))) × (Int × (Int × (Int × (List Int))))))) =>
 cnd (ltI i21 i20)
 ((getI l19 i21).bnd (fun i28 =>
 (F_spec_l01In (i28, (0 : Int), subI .i64 i22 1)).bnd (fun b29 =>
 cnd (notB b29)
 (some (Sum.inr (Sum.inr (Sum.inr (Sum.inr (Sum.inr false))))))
 (some (Sum.inl ((l16, i17, i18, l19, i20, addI .i64 i21 1), (i22, l23), i24, i25, i26, l27))))))
 (some (Sum.inr (Sum.inl ((i18, l16, i17), (i22, l23), i24, i25, i26, l27)))))
 ((l5, i6, i7, l13, natI (lenN l13), (0 : Int)), (i8, l9), i10, i11, i12, l13))
 (fun ((i30, l31, i32), (i33, l34), i35, i36, i37, l38) =>
 some (Sum.inl ((i30, i37, l31, i32), i33, l34)))))))))))
 (fun ((i39, i40, l41, i42), i43, l44) =>
 some (Sum.inl ((i40, l41, i42, addI .i64 i39 1), i43, l44))))
 (some (Sum.inr (Sum.inl (i4, i8, l9)))))
 (((1 : Int), l1, natI (lenN l1), (0 : Int)), i0, l1))
 (fun (i45, i46, l47) =>
 cnd (eqI i45 (1 : Int))
 ((F_spec_l32Dims (i46, l47)).bnd (fun l48 =>
 (winI l48 0 (lenN l48)).bnd (fun l49 =>
 (F_spec_l05Product (l49, (4096 : Int))).bnd (fun i50 =>
 some (leI i50 (4096 : Int))))))
 (some false)))))))


def G_impl_siteOk (NN : Nat) : (Int × (Int × (Int × (Int × (List Int))))) → (Option Bool) :=
 (fun ((i0, i1, i2, i3, l4) : (Int × (Int × (Int × (Int × (List Int)))))) =>
 cnd (ltI i1 (0 : Int))
 (some false)
 (cnd (ltI (32 : Int) i1)
 (some false)
 (cnd (ltI i3 (0 : Int))
 (some false)
 (cnd (ltI (32 : Int) i3)
 (some false)
 (cnd (ltI i2 (1 : Int))
 (some false)
 (cnd (ltI (8 : Int) i2)
 (some false)
 (cnd (eqI (natI (lenN l4)) (mulI .i64 (mulI .i64 i1 i2) i3))
 ((F_impl_inMod (i0, l4)).bnd (fun b5 =>
 some b5))
 (some false))))))))


def G_impl_ChainOk (NN : Nat) : (Int × (List (Int × (Int × (Int × (List Int)))))) → (Option Bool) :=
 (fun ((i0, l1) : (Int × (List (Int × (Int × (Int × (List Int))))))) =>
 (F_impl_IsPrime i0).bnd (fun b2 =>
 cnd (notB b2)
 (some false)
 (cnd (ltI (natI (lenN l1)) (1 : Int))
 (some false)
 (cnd (ltI (8 : Int) (natI (lenN l1)))
 (some false)
 (joinK (loopT NN (fun (((i3, i4, l5, i6, i7), i8, l9) : ((Int × (Int × ((List (Int × (Int × (Int × (List Int))))) × (Int × Int)))) × (Int × (List (Int × (Int × (Int × (List Int)))))))) =>
 cnd (ltI i7 i6)
 ((getI l5 i7).bnd (fun (i10, i11, i12, l13) =>
 (F_impl_siteOk (i8, i10, i11, i12, l13)).bnd (fun b14 =>
 cnd (notB b14)
 (some (Sum.inr (Sum.inr false)))
 (cnd (neI i10 i3)
 (some (Sum.inr (Sum.inr false)))
 (some (Sum.inl ((i12, mulI .i64 i4 i11, l5, i6, addI .i64 i7 1), i8, l9)))))))
 (some (Sum.inr (Sum.inl (i3, i4)))))
 (((1 : Int), (1 : Int), l1, natI (lenN l1), (0 : Int)), i0, l1))
 (fun (i15, i16) =>
 cnd (eqI i15 (1 : Int))
 (some (leI i16 (4096 : Int)))
 (some false)))))))



theorem f_spec_l32Dims (x : Int × List (Int × Int × Int × List Int)) (y : List Int) (h : F_spec_l32Dims x = some y) : G_spec_l32Dims FUEL x = some y := by
  obtain ⟨m, l⟩ := x
  simp only [F_spec_l32Dims] at h
  split at h
  · rename_i hl
    rw [← h]
    simp only [G_spec_l32Dims]
    rw [show fulI 0 0 (lenN ([] : List Int)) = some () from rfl, bnd_s]
    rw [loopT_seq (fun i => ((l, natI (lenN l), (i : Int)), dimsOf (l.take i))) (r := Sum.inl (dimsOf l)) l.length ?_ ?_ ?_ (FUEL_gt (by omega))]
    · rw [joinK_l, takI_id]; rfl
    all_goals try simp only
    · intro j hj
      obtain ⟨⟨a, p, c, d⟩, hs⟩ : ∃ e, l[j]? = some e := ⟨_, List.getElem?_eq_getElem hj⟩
      have e1 : lenN (dimsOf (l.take j)) = j := by simp [lenN, dimsOf]; omega
      have e2 : appL (dimsOf (l.take j)) [p] = dimsOf (l.take (j + 1)) := by simp [appL, dimsOf, List.take_add_one, hs]
      have e3 : fitI (addN j 1) 8 = some () := fitI_ok (by simp only [addN, maxBytes]; omega)
      rw [cnd_t (ltI_in hs), getI_nat, hs, bnd_s]
      simp only [e1, fulI_id, bnd_s, win1, lenN_appL, show lenN [p] = 1 from rfl, e3, next_i hs (by omega), e2]
    · rw [cnd_f (ltI_end l), List.take_length]
      simp only [fulI_id, bnd_s]
    · rfl
  · cases h

theorem f_impl_siteOk (x : Int × Int × Int × Int × List Int) (y : Bool) (h : F_impl_siteOk x = some y) : G_impl_siteOk FUEL x = some y := by
  obtain ⟨m, a, p, c, l⟩ := x
  simp only [F_impl_siteOk] at h
  split at h
  · rename_i hl
    rw [← h]
    have hl : l.length ≤ 1048576 := hl
    simp only [G_impl_siteOk, siteOk]
    by_cases h1 : a < 0
    · rw [cnd_t (ltI_t h1), decide_eq_false (p := 0 ≤ a ∧ a ≤ 32) (by omega)]; rfl
    rw [cnd_f (ltI_f (by omega))]
    by_cases h2 : 32 < a
    · rw [cnd_t (ltI_t h2), decide_eq_false (p := 0 ≤ a ∧ a ≤ 32) (by omega)]; rfl
    rw [cnd_f (ltI_f (by omega)), decide_eq_true (p := 0 ≤ a ∧ a ≤ 32) (by omega), Bool.true_and]
    by_cases h3 : c < 0
    · rw [cnd_t (ltI_t h3), decide_eq_false (p := 0 ≤ c ∧ c ≤ 32) (by omega)]; rfl
    rw [cnd_f (ltI_f (by omega))]
    by_cases h4 : 32 < c
    · rw [cnd_t (ltI_t h4), decide_eq_false (p := 0 ≤ c ∧ c ≤ 32) (by omega)]; rfl
    rw [cnd_f (ltI_f (by omega)), decide_eq_true (p := 0 ≤ c ∧ c ≤ 32) (by omega), Bool.true_and]
    by_cases h5 : p < 1
    · rw [cnd_t (ltI_t h5), decide_eq_false (p := 1 ≤ p ∧ p ≤ 8) (by omega)]; rfl
    rw [cnd_f (ltI_f (by omega))]
    by_cases h6 : 8 < p
    · rw [cnd_t (ltI_t h6), decide_eq_false (p := 1 ≤ p ∧ p ≤ 8) (by omega)]; rfl
    rw [cnd_f (ltI_f (by omega)), decide_eq_true (p := 1 ≤ p ∧ p ≤ 8) (by omega), Bool.true_and]
    obtain ⟨b1, b2⟩ := mul_bd (a := a) (x := p) (A := 32) (B := 8) (by omega) (by omega) (by omega) (by omega)
    obtain ⟨b3, b4⟩ := mul_bd (a := a * p) (x := c) (A := 32 * 8) (B := 32) (by omega) (by omega) (by omega) (by omega)
    rw [mulI_eq (a := a) (by omega) (by omega), mulI_eq (by omega) (by omega), show F_impl_inMod (m, l) = some (rowOk m l) from if_pos hl]
    by_cases h5 : (l.length : Int) = a * p * c
    · rw [cnd_t (show eqI (natI (lenN l)) _ = true from eqI_t h5), decide_eq_true h5]; rfl
    · rw [cnd_f (show eqI (natI (lenN l)) _ = false from eqI_f h5), decide_eq_false h5]; rfl
  · cases h

theorem siteOk_t {m a p c : Int} {l : List Int} (h : siteOk m (a, p, c, l) = true) : (0 ≤ a ∧ a ≤ 32) ∧ (0 ≤ c ∧ c ≤ 32) ∧ (1 ≤ p ∧ p ≤ 8) ∧ (l.length : Int) = a * p * c ∧ rowOk m l = true := by
  simp only [siteOk, Bool.and_eq_true, decide_eq_true_eq] at h
  exact ⟨h.1, h.2.1, h.2.2.1, h.2.2.2.1, h.2.2.2.2⟩

theorem chStep_dims {m : Int} : ∀ {l : List (Int × Int × Int × List Int)} {i : Nat} {b c : Int}, foldO (chStep m) i b l = some c → ∀ x ∈ dimsOf l, 1 ≤ x ∧ x ≤ 8
  | [], _, _, _, _, x, hx => by cases hx
  | (a, p, r, d) :: l, i, b, c, h, x, hx => by
    rw [foldO] at h
    cases hs : chStep m i b (a, p, r, d) with
    | none => rw [hs] at h; cases h
    | some b' =>
      rw [hs] at h
      simp only [chStep] at hs
      split at hs
      · rename_i hc
        have hp := (siteOk_t hc.1).2.2.1
        rcases List.mem_cons.1 hx with rfl | hx
        · exact hp
        · exact chStep_dims h x hx
      · cases hs

theorem chStep2_eq {m : Int} : ∀ (l : List (Int × Int × Int × List Int)) (i : Nat) (b z : Int), foldO (chStep2 m) i (b, z) l = (foldO (chStep m) i b l).map fun c => (c, z * prodI (dimsOf l))
  | [], i, b, z => by simp [foldO, dimsOf, prodI]
  | s :: l, i, b, z => by
    rw [foldO, foldO]
    simp only [chStep2, chStep]
    by_cases hc : siteOk m s = true ∧ s.1 = b
    · rw [if_pos hc, if_pos hc]
      simp only
      rw [chStep2_eq l (i + 1)]
      simp only [dimsOf, List.map_cons, prodI, Int.mul_assoc]
    · rw [if_neg hc, if_neg hc]
      rfl

theorem sz_Chain_le {m : Int} {l : List (Int × Int × Int × List Int)} (h : sz_Chain (m, l) ≤ 1048576) : l.length ≤ 1048576 ∧ ∀ e ∈ l, sz_Site e ≤ 1048576 := sz_SiteS_mem h

theorem pow8 {i : Nat} (h : i ≤ 8) : (8 : Int) ^ i ≤ 16777216 := by
  have h1 : (8 : Nat) ^ i ≤ 16777216 := Nat.le_trans (Nat.pow_le_pow_right (by decide) h) (by decide)
  have h2 : ((8 ^ i : Nat) : Int) = (8 : Int) ^ i := by norm_cast
  rw [← h2]
  omega

theorem f_impl_ChainOk (x : Int × List (Int × Int × Int × List Int)) (y : Bool) (h : F_impl_ChainOk x = some y) : G_impl_ChainOk FUEL x = some y := by
  obtain ⟨m, l⟩ := x
  simp only [F_impl_ChainOk] at h
  split at h
  · rename_i hl
    rw [← h]
    obtain ⟨hlen, hmm⟩ := sz_Chain_le hl
    simp only [G_impl_ChainOk, F_impl_IsPrime, bnd_s, chainOk]
    cases hp : isPrimeI m with
    | false => rfl
    | true =>
      have hm := isPrimeI_t hp
      rw [cnd_f (by rfl), Bool.true_and]
      by_cases h2 : l.length < 1
      · rw [cnd_t (ltI_t (by have := nl l; omega)), decide_eq_false (by omega)]; rfl
      rw [cnd_f (ltI_f (by have := nl l; omega))]
      by_cases h3 : 8 < l.length
      · rw [cnd_t (ltI_t (by have := nl l; omega)), decide_eq_false (by omega)]; rfl
      rw [cnd_f (ltI_f (by have := nl l; omega)), decide_eq_true (by omega), Bool.true_and]
      rw [loopT_foldO l (fun (st : Int × Int) i => ((st.1, st.2, l, natI (lenN l), (i : Int)), m, l)) (fun i st => 0 ≤ st.2 ∧ st.2 ≤ (8 : Int) ^ i) (chStep2 m) (Sum.inr false) (fun st => Sum.inl st) ?_ ?_ ?_ (s := (1, 1)) ⟨by decide, by decide⟩ ?_ (FUEL_gt (by omega))]
      · rw [chStep2_eq]
        cases hf : foldO (chStep m) 0 1 l with
        | none => rfl
        | some c =>
          simp only [Option.map_some, Int.one_mul]
          rw [joinK_l]
          simp only
          by_cases hc : c = 1
          · rw [cnd_t (eqI_t hc), decide_eq_true hc, Bool.true_and]; rfl
          · rw [cnd_f (eqI_f hc), decide_eq_false hc, Bool.false_and]
      all_goals try simp only
      · rintro i ⟨b, z⟩ ⟨a, p, c, d⟩ st' hi hz hs
        simp only [chStep2] at hs
        split at hs
        · rename_i hc
          injection hs with hs
          subst hs
          obtain ⟨t1, t2, t3, t4, t5⟩ := siteOk_t hc.1
          have hab : a = b := hc.2
          have hi8 : i ≤ 8 := by have := lt_of_get hi; omega
          have h8 := pow8 hi8
          obtain ⟨b1, b2⟩ := mul_bd hz.1 hz.2 (show 0 ≤ p by omega) t3.2
          simp only at b1 b2
          refine ⟨?_, b1, ?_⟩
          · rw [cnd_t (ltI_in hi), getI_nat, hi, bnd_s]
            simp only
            rw [show F_impl_siteOk (m, a, p, c, d) = some (siteOk m (a, p, c, d)) from if_pos (hmm _ (List.mem_of_getElem? hi)), bnd_s, hc.1, cnd_f (by rfl), cnd_f (neI_f hab), mulI_eq (by omega) (by omega), next_i hi (by omega)]
          · rw [Int.pow_succ]; exact b2
        · cases hs
      · rintro i ⟨b, z⟩ ⟨a, p, c, d⟩ hi hz hs
        simp only [chStep2] at hs
        split at hs
        · cases hs
        · rename_i hc
          rw [cnd_t (ltI_in hi), getI_nat, hi, bnd_s]
          simp only
          rw [show F_impl_siteOk (m, a, p, c, d) = some (siteOk m (a, p, c, d)) from if_pos (hmm _ (List.mem_of_getElem? hi)), bnd_s]
          cases h1 : siteOk m (a, p, c, d) with
          | false => rw [cnd_t (by rfl)]
          | true =>
            rw [cnd_f (by rfl), cnd_t (neI_t (fun e => hc ⟨h1, e⟩))]
      · rintro ⟨b, z⟩ _
        simp only
        rw [cnd_f (ltI_end l)]
      · rfl
  · cases h

theorem loopT_foldO' {X Y α S : Type} {f : X → Option (X ⊕ Y)} (es : List α) (mk : S → Nat → X) (I : Nat → S → Prop) (step : Nat → S → α → Option S) (bad : Y) (good : S → Y)
    (h1 : ∀ i s a, es[i]? = some a → I i s → f (mk s i) = some (match step i s a with | some s' => .inl (mk s' (i + 1)) | none => .inr bad))
    (hI : ∀ i s a s', es[i]? = some a → I i s → step i s a = some s' → I (i + 1) s')
    (h3 : ∀ s, I es.length s → f (mk s es.length) = some (.inr (good s))) {s : S} (h0 : I 0 s) {x0 : X} (hx : x0 = mk s 0) {N : Nat} (hN : es.length < N) :
    loopT N f x0 = some (match foldO step 0 s es with | some s' => good s' | none => bad) :=
  loopT_foldO es mk I step bad good (fun i s a s' ha hi hs => ⟨by rw [h1 i s a ha hi, hs], hI i s a s' ha hi hs⟩) (fun i s a ha hi hs => by rw [h1 i s a ha hi, hs]) h3 h0 hx hN

theorem chStep_t {m b a p c : Int} {l : List Int} {i : Nat} (h : siteOk m (a, p, c, l) = true) (e : a = b) : chStep m i b (a, p, c, l) = some c := if_pos ⟨h, e⟩
theorem chStep_f {m b a p c : Int} {l : List Int} {i : Nat} (h : ¬ (siteOk m (a, p, c, l) = true ∧ a = b)) : chStep m i b (a, p, c, l) = none := if_neg h

theorem f_spec_ChainOk (x : Int × List (Int × Int × Int × List Int)) (y : Bool) (h : F_spec_ChainOk x = some y) : G_spec_ChainOk FUEL x = some y := by
  obtain ⟨m, l⟩ := x
  simp only [F_spec_ChainOk] at h
  split at h
  · rename_i hl
    rw [← h]
    obtain ⟨hlen, hmm⟩ := sz_Chain_le hl
    simp only [G_spec_ChainOk, F_spec_IsPrime, F_spec_l01In, bnd_s, chainOk]
    cases hp : isPrimeI m with
    | false => rfl
    | true =>
      have hm := isPrimeI_t hp
      rw [cnd_f (by rfl), Bool.true_and]
      by_cases h2 : 1 ≤ l.length ∧ l.length ≤ 8
      rotate_left
      · rw [cnd_t (notB_d (by have := nl l; omega)), decide_eq_false h2]; rfl
      rw [cnd_f (notB_p (by have := nl l; omega)), decide_eq_true h2, Bool.true_and]
      rw [loopT_foldO' l (fun (b : Int) i => ((b, l, natI (lenN l), (i : Int)), m, l)) (fun i b => 0 ≤ b ∧ b ≤ 32) (chStep m) (Sum.inr false) (fun b => Sum.inl (b, m, l)) ?_ ?_ ?_ (s := 1) ⟨by decide, by decide⟩ ?_ (FUEL_gt (by omega))]
      · cases hf : foldO (chStep m) 0 1 l with
        | none => rfl
        | some c =>
          have hd := chStep_dims hf
          rw [joinK_l]
          simp only
          by_cases hc : c = 1
          · rw [cnd_t (eqI_t hc), decide_eq_true hc, Bool.true_and]
            rw [show F_spec_l32Dims (m, l) = some (dimsOf l) from if_pos hlen, bnd_s, winI_id, bnd_s]
            have hsm : (dimsOf l).all smallB = true := List.all_eq_true.2 fun x hx => decide_eq_true ⟨by have := hd x hx; omega, by have := hd x hx; omega⟩
            rw [show F_spec_l05Product (dimsOf l, 4096) = some (capProd 4096 (dimsOf l)) from if_pos ⟨by decide, by simp [dimsOf]; omega, hsm⟩, bnd_s, capProd_le (by decide) fun x hx => (hd x hx).1]
          · rw [cnd_f (eqI_f hc), decide_eq_false hc]; rfl
      all_goals try simp only
      · rintro i b ⟨a, p, c, d⟩ hi hb
        have hdl : d.length ≤ 1048576 := hmm _ (List.mem_of_getElem? hi)
        rw [cnd_t (ltI_in hi), getI_nat, hi, bnd_s]
        simp only
        by_cases q1 : a = b
        rotate_left
        · rw [cnd_t (neI_t q1), chStep_f (fun h => q1 h.2)]; rfl
        rw [cnd_f (neI_f q1)]
        by_cases q2 : 1 ≤ p ∧ p ≤ 8
        rotate_left
        · rw [cnd_t (notB_d q2), chStep_f (fun h => q2 (siteOk_t h.1).2.2.1)]; rfl
        rw [cnd_f (notB_p q2)]
        by_cases q3 : 0 ≤ c ∧ c ≤ 32
        rotate_left
        · rw [cnd_t (notB_d q3), chStep_f (fun h => q3 (siteOk_t h.1).2.1)]; rfl
        rw [cnd_f (notB_p q3)]
        obtain ⟨b1, b2⟩ := mul_bd (a := a) (x := p) (A := 32) (B := 8) (by omega) (by omega) (by omega) (by omega)
        obtain ⟨b3, b4⟩ := mul_bd (a := a * p) (x := c) (A := 32 * 8) (B := 32) (by omega) (by omega) (by omega) (by omega)
        rw [mulI_eq (a := a) (by omega) (by omega), mulI_eq (by omega) (by omega)]
        by_cases q4 : (d.length : Int) = a * p * c
        rotate_left
        · rw [cnd_t (show neI (natI (lenN d)) _ = true from neI_t q4), chStep_f (fun h => q4 (siteOk_t h.1).2.2.2.1)]; rfl
        rw [cnd_f (show neI (natI (lenN d)) _ = false from neI_f q4)]
        rw [loopT_all (mk := fun (j : Nat) => ((l, natI (lenN l), (i : Int), d, natI (lenN d), (j : Int)), (m, l), a, p, c, d)) d (inB m) (Sum.inr (Sum.inr (Sum.inr (Sum.inr false)))) (Sum.inl (((i : Int), l, natI (lenN l)), (m, l), a, p, c, d)) ?_ ?_ ?_ ?_ (FUEL_gt (by omega))]
        · cases hr : d.all (inB m) with
          | false => rw [chStep_f (fun h => by have := (siteOk_t h.1).2.2.2.2; rw [rowOk, hr] at this; cases this)]; rfl
          | true =>
            rw [chStep_t (by simp only [siteOk, rowOk, hr, Bool.and_true, Bool.and_eq_true, decide_eq_true_eq]; exact ⟨by omega, q3, q2, q4⟩) q1]
            simp only [if_true, joinK_l]
            rw [next_i hi (by omega)]
        all_goals try simp only
        · intro j x hx hp
          have hp := of_decide_eq_true hp
          rw [cnd_t (ltI_in hx), getI_nat, hx, bnd_s, subI_eq (by omega) (by omega), cnd_f (notB_p (by omega)), next_i hx (by omega)]
        · intro j x hx hp
          have hp := of_decide_eq_false hp
          rw [cnd_t (ltI_in hx), getI_nat, hx, bnd_s, subI_eq (by omega) (by omega), cnd_t (notB_d (by omega))]
        · rw [cnd_f (ltI_end d)]
        · rfl
      · rintro i b ⟨a, p, c, d⟩ s' hi hb hs
        simp only [chStep] at hs
        split at hs
        · rename_i hc
          injection hs with hs
          subst hs
          exact (siteOk_t hc.1).2.1
        · cases hs
      · intro b _
        rw [cnd_f (ltI_end l)]
      · rfl
  · cases h

end Go.Am
end
section
namespace Go.Am
def newOk (x : Int × Int) : Prop := (0 ≤ x.1 ∧ x.1 ≤ 4096) ∧ (0 ≤ x.2 ∧ x.2 ≤ 4096) ∧ x.1 * x.2 ≤ 1048576
instance (x : Int × Int) : Decidable (newOk x) := by unfold newOk; infer_instance
def F_spec_l31New : Int × Int → Option (Int × Int × List Int) := fun (x : Int × Int) => if newOk x then some (x.1, x.2, genD x.1.toNat x.2.toNat fun _ _ => 0) else none
def F_impl_emptyMatrix : Int × Int → Option (Int × Int × List Int) := fun (x : Int × Int) => if newOk x then some (x.1, x.2, genD x.1.toNat x.2.toNat fun _ _ => 0) else none
def F_impl_Matrix_at : (Int × Int × List Int) × Int × Int → Option Int := fun (x : (Int × Int × List Int) × Int × Int) =>
  if mOk x.1 ∧ (0 ≤ x.2.1 ∧ x.2.1 < x.1.1) ∧ (0 ≤ x.2.2 ∧ x.2.2 < x.1.2.1) then some (ofD x.1.2.1.toNat x.1.2.2 x.2.1.toNat x.2.2.toNat) else none
def F_impl_Matrix_set : (Int × Int × List Int) × Int × Int × Int → Option (List Int) := fun (x : (Int × Int × List Int) × Int × Int × Int) =>
  if mOk x.1 ∧ (0 ≤ x.2.1 ∧ x.2.1 < x.1.1) ∧ (0 ≤ x.2.2.1 ∧ x.2.2.1 < x.1.2.1) then some (genD x.1.1.toNat x.1.2.1.toNat (updM (ofD x.1.2.1.toNat x.1.2.2) x.2.1.toNat x.2.2.1.toNat x.2.2.2)) else none
def swapF (M : Nat → Nat → Int) (a b : Nat) : Nat → Nat → Int := fun i j => if i = a then M b j else if i = b then M a j else M i j
def pivF (M : Nat → Nat → Int) (j : Nat) : Nat → Nat → Option Nat
  | 0, _ => none
  | d + 1, k => if M k j = 0 then pivF M j d (k + 1) else some k
def invG (p out x : Int) (n : Nat) : Int := if h : n = 0 then out else invG p (if n % 2 = 1 then out * x % p else out) (x * x % p) (n / 2)
termination_by n
decreasing_by omega
def F_spec_l05Ints : List Int → Option (List Int) := fun (l : List Int) => if l.length ≤ 1099511627776 then some l else none
def F_impl_copyInts : List Int → Option (List Int) := fun (l : List Int) => if l.length ≤ 1099511627776 then some l else none
def turnF (M : Nat → Nat → Int) : Nat → Nat → Int := fun i j => M j i
def F_spec_l31Turn : Int × Int × List Int → Option (Int × Int × List Int) := fun (x : Int × Int × List Int) => if mOk x then some (x.2.1, x.1, genD x.2.1.toNat x.1.toNat (turnF (ofD x.2.1.toNat x.2.2))) else none
def F_impl_rawTranspose : Int × Int × List Int → Option (Int × Int × List Int) := F_spec_l31Turn
def mulOk (x : Int × (Int × Int × List Int) × (Int × Int × List Int)) : Prop := pOk x.1 ∧ mOk x.2.1 ∧ mOk x.2.2 ∧ x.2.1.2.1 = x.2.2.1 ∧ x.2.1.1 * x.2.2.2.1 ≤ 1048576 ∧ allP x.1 x.2.1.2.2 ∧ allP x.1 x.2.2.2.2
instance (x : Int × (Int × Int × List Int) × (Int × Int × List Int)) : Decidable (mulOk x) := by unfold mulOk; infer_instance
def F_spec_l31Mul : Int × (Int × Int × List Int) × (Int × Int × List Int) → Option (Int × Int × List Int) := fun (x : Int × (Int × Int × List Int) × (Int × Int × List Int)) =>
  if mulOk x then some (x.2.1.1, x.2.2.2.1, genD x.2.1.1.toNat x.2.2.2.1.toNat (mulF x.1 x.2.1.2.1.toNat (ofD x.2.1.2.1.toNat x.2.1.2.2) (ofD x.2.2.2.1.toNat x.2.2.2.2))) else none
def F_impl_rawMulMatrix : Int × (Int × Int × List Int) × (Int × Int × List Int) → Option (Int × Int × List Int) := F_spec_l31Mul
def ag_spec_l31New : Sig := [(.one, [.int .i64]), (.one, [.int .i64])]
def rs_spec_l31New : Sig := [(.agg, [.int .i64, .int .i64, .list [.int .i64]])]
def mu_spec_l31New : MSig := []
def ag_impl_emptyMatrix : Sig := [(.one, [.int .i64]), (.one, [.int .i64])]
def rs_impl_emptyMatrix : Sig := [(.agg, [.int .i64, .int .i64, .list [.int .i64]])]
def mu_impl_emptyMatrix : MSig := []
def ag_spec_l05Ints : Sig := [(.one, [.list [.int .i64]])]
def rs_spec_l05Ints : Sig := [(.one, [.list [.int .i64]])]
def mu_spec_l05Ints : MSig := []
def ag_impl_copyInts : Sig := [(.one, [.list [.int .i64]])]
def rs_impl_copyInts : Sig := [(.one, [.list [.int .i64]])]
def mu_impl_copyInts : MSig := []
def ag_impl_Matrix_at : Sig := [(.agg, [.int .i64, .int .i64, .list [.int .i64]]), (.one, [.int .i64]), (.one, [.int .i64])]
def rs_impl_Matrix_at : Sig := [(.one, [.int .i64])]
def mu_impl_Matrix_at : MSig := []
def ag_impl_Matrix_set : Sig := [(.agg, [.int .i64, .int .i64, .list [.int .i64]]), (.one, [.int .i64]), (.one, [.int .i64]), (.one, [.int .i64])]
def rs_impl_Matrix_set : Sig := [(.one, [.list [.int .i64]])]
def mu_impl_Matrix_set : MSig := [[none, none, some .froz]]
def ag_spec_l31Turn : Sig := [(.agg, [.int .i64, .int .i64, .list [.int .i64]])]
def rs_spec_l31Turn : Sig := [(.agg, [.int .i64, .int .i64, .list [.int .i64]])]
def mu_spec_l31Turn : MSig := []
def ag_impl_rawTranspose : Sig := [(.agg, [.int .i64, .int .i64, .list [.int .i64]])]
def rs_impl_rawTranspose : Sig := [(.agg, [.int .i64, .int .i64, .list [.int .i64]])]
def mu_impl_rawTranspose : MSig := []
def ag_spec_l31Mul : Sig := [(.one, [.int .i64]), (.agg, [.int .i64, .int .i64, .list [.int .i64]]), (.agg, [.int .i64, .int .i64, .list [.int .i64]])]
def rs_spec_l31Mul : Sig := [(.agg, [.int .i64, .int .i64, .list [.int .i64]])]
def mu_spec_l31Mul : MSig := []
def ag_impl_rawMulMatrix : Sig := [(.one, [.int .i64]), (.agg, [.int .i64, .int .i64, .list [.int .i64]]), (.agg, [.int .i64, .int .i64, .list [.int .i64]])]
def rs_impl_rawMulMatrix : Sig := [(.agg, [.int .i64, .int .i64, .list [.int .i64]])]
def mu_impl_rawMulMatrix : MSig := []

def G_spec_l31New (NN : Nat) : (Int × Int) → (Option (Int × (Int × (List Int)))) :=
 (fun ((i0, i1) : (Int × Int)) =>
 (mkI (mulI .i64 i0 i1) (mulI .i64 i0 i1) 8).bnd (fun k2 =>
 (takI (repL k2 (0 : Int)) k2).bnd (fun l3 =>
 some (i0, i1, l3))))

def G_impl_emptyMatrix (NN : Nat) : (Int × Int) → (Option (Int × (Int × (List Int)))) :=
 (fun ((i0, i1) : (Int × Int)) =>
 (mkI (mulI .i64 i0 i1) (mulI .i64 i0 i1) 8).bnd (fun k2 =>
 (takI (repL k2 (0 : Int)) k2).bnd (fun l3 =>
 some (i0, i1, l3))))

def G_spec_l05Ints (NN : Nat) : (List Int) → (Option (List Int)) :=
 (fun (l0 : (List Int)) =>
 (fulI 0 0 (lenN (([] : List Int)))).bnd (fun _ =>
 (fitI (addN (lenN (([] : List Int))) (lenN l0)) 8).bnd (fun _ =>
 (takI (appL (([] : List Int)) l0) (addN (lenN (([] : List Int))) (lenN l0))).bnd (fun l1 =>
 some l1))))

def G_impl_copyInts (NN : Nat) : (List Int) → (Option (List Int)) :=
 (fun (l0 : (List Int)) =>
 (fitI (addN (lenN (([] : List Int))) (lenN l0)) 8).bnd (fun _ =>
 (takI (appL (([] : List Int)) l0) (addN (lenN (([] : List Int))) (lenN l0))).bnd (fun l1 =>
 some l1)))

def G_impl_Matrix_at (NN : Nat) : ((Int × (Int × (List Int))) × (Int × Int)) → (Option Int) :=
 (fun (((i0, i1, l2), i3, i4) : ((Int × (Int × (List Int))) × (Int × Int))) =>
 (getI l2 (addI .i64 (mulI .i64 i3 i1) i4)).bnd (fun i5 =>
 some i5))

def G_impl_Matrix_set (NN : Nat) : ((Int × (Int × (List Int))) × (Int × (Int × Int))) → (Option (List Int)) :=
 (fun (((i0, i1, l2), i3, i4, i5) : ((Int × (Int × (List Int))) × (Int × (Int × Int)))) =>
 (chkI (addI .i64 (mulI .i64 i3 i1) i4) (lenN l2)).bnd (fun k6 =>
 (getN l2 (addN 0 k6)).bnd (fun i7 =>
 (samI (lenN (setL l2 (addN 0 k6) i5)) (lenN l2)).bnd (fun _ =>
 some (setL l2 (addN 0 k6) i5)))))

def G_spec_l31Turn (NN : Nat) : (Int × (Int × (List Int))) → (Option (Int × (Int × (List Int)))) :=
 (fun ((i0, i1, l2) : (Int × (Int × (List Int)))) =>
 (F_spec_l31New (i1, i0)).bnd (fun (i3, i4, l5) =>
 joinK ((fulI 0 0 (lenN (([] : List Int)))).bnd (fun _ =>
 (fulI 0 (lenN l5) (lenN l5)).bnd (fun _ =>
 loopT NN (fun ((i6, (i7, i8, l9), (i10, i11), (i12, i13), l14, l15) : (Int × ((Int × (Int × (List Int))) × ((Int × Int) × ((Int × Int) × ((List Int) × (List Int))))))) =>
 cnd (ltI i6 i7)
 (joinK ((fulI 0 (lenN l14) (lenN l14)).bnd (fun _ =>
 (fulI 0 (lenN l15) (lenN l15)).bnd (fun _ =>
 loopT NN (fun (((i16, i17), (i18, i19, l20), (i21, i22), (i23, i24), l25, l26) : ((Int × Int) × ((Int × (Int × (List Int))) × ((Int × Int) × ((Int × Int) × ((List Int) × (List Int))))))) =>
 cnd (ltI i17 i19)
 ((getI l20 (addI .i64 (mulI .i64 i16 i19) i17)).bnd (fun i27 =>
 (chkI (addI .i64 (mulI .i64 i17 i18) i16) (lenN l26)).bnd (fun k28 =>
 (getN l26 (addN 0 k28)).bnd (fun i29 =>
 (fulI 0 (lenN l25) (lenN l25)).bnd (fun _ =>
 (fulI 0 (lenN l26) (lenN (setL l26 (addN 0 k28) i27))).bnd (fun _ =>
 some (Sum.inl ((i16, addI .i64 i17 1), (i18, i19, l20), (i21, i22), (i23, i24), l25, setL l26 (addN 0 k28) i27))))))))
 (((fulI 0 (lenN l25) (lenN l25)).bnd (fun _ =>
 (fulI 0 (lenN l26) (lenN l26)).bnd (fun _ =>
 some (Sum.inl (i16, (i18, i19, l20), (i21, i22), (i23, i24), l25, l26))))).bnd (fun l30 =>
 some (Sum.inr l30))))
 ((i6, (0 : Int)), (i7, i8, l9), (i10, i11), (i12, i13), l14, l15))))
 (fun (i31, (i32, i33, l34), (i35, i36), (i37, i38), l39, l40) =>
 (fulI 0 (lenN l39) (lenN l39)).bnd (fun _ =>
 (fulI 0 (lenN l40) (lenN l40)).bnd (fun _ =>
 some (Sum.inl (addI .i64 i31 1, (i32, i33, l34), (i35, i36), (i37, i38), l39, l40))))))
 (((fulI 0 (lenN l14) (lenN l14)).bnd (fun _ =>
 (fulI 0 (lenN l15) (lenN l15)).bnd (fun _ =>
 some (Sum.inl ((i10, i11), (i12, i13), l14, l15))))).bnd (fun l41 =>
 some (Sum.inr l41))))
 ((0 : Int), (i0, i1, l2), ((0 : Int), (0 : Int)), (i3, i4), ([] : List Int), l5))))
 (fun ((i42, i43), (i44, i45), l46, l47) =>
 (takI l47 (lenN l47)).bnd (fun l48 =>
 some (i44, i45, l48)))))

def G_impl_rawTranspose (NN : Nat) : (Int × (Int × (List Int))) → (Option (Int × (Int × (List Int)))) :=
 (fun ((i0, i1, l2) : (Int × (Int × (List Int)))) =>
 (F_impl_emptyMatrix (i1, i0)).bnd (fun (i3, i4, l5) =>
 joinK ((fulI 0 0 (lenN (([] : List Int)))).bnd (fun _ =>
 (fulI 0 (lenN l5) (lenN l5)).bnd (fun _ =>
 loopT NN (fun ((i6, (i7, i8, l9), (i10, i11), (i12, i13), l14, l15) : (Int × ((Int × (Int × (List Int))) × ((Int × Int) × ((Int × Int) × ((List Int) × (List Int))))))) =>
 cnd (ltI i6 i7)
 (joinK ((fulI 0 (lenN l14) (lenN l14)).bnd (fun _ =>
 (fulI 0 (lenN l15) (lenN l15)).bnd (fun _ =>
 loopT NN (fun (((i16, i17), (i18, i19, l20), (i21, i22), (i23, i24), l25, l26) : ((Int × Int) × ((Int × (Int × (List Int))) × ((Int × Int) × ((Int × Int) × ((List Int) × (List Int))))))) =>
 cnd (ltI i17 i19)
 ((F_impl_Matrix_at ((i18, i19, l20), i16, i17)).bnd (fun i27 =>
 (fulI 0 (lenN l26) (lenN l26)).bnd (fun _ =>
 (F_impl_Matrix_set ((i23, i24, l26), i17, i16, i27)).bnd (fun l28 =>
 (fulI 0 (lenN l25) (lenN l25)).bnd (fun _ =>
 (fulI 0 (lenN l26) (lenN l28)).bnd (fun _ =>
 some (Sum.inl ((i16, addI .i64 i17 1), (i18, i19, l20), (i21, i22), (i23, i24), l25, l28))))))))
 (((fulI 0 (lenN l25) (lenN l25)).bnd (fun _ =>
 (fulI 0 (lenN l26) (lenN l26)).bnd (fun _ =>
 some (Sum.inl (i16, (i18, i19, l20), (i21, i22), (i23, i24), l25, l26))))).bnd (fun l29 =>
 some (Sum.inr l29))))
 ((i6, (0 : Int)), (i7, i8, l9), (i10, i11), (i12, i13), l14, l15))))
 (fun (i30, (i31, i32, l33), (i34, i35), (i36, i37), l38, l39) =>
 (fulI 0 (lenN l38) (lenN l38)).bnd (fun _ =>
 (fulI 0 (lenN l39) (lenN l39)).bnd (fun _ =>
 some (Sum.inl (addI .i64 i30 1, (i31, i32, l33), (i34, i35), (i36, i37), l38, l39))))))
 (((fulI 0 (lenN l14) (lenN l14)).bnd (fun _ =>
 (fulI 0 (lenN l15) (lenN l15)).bnd (fun _ =>
 some (Sum.inl ((i10, i11), (i12, i13), l14, l15))))).bnd (fun l40 =>
 some (Sum.inr l40))))
 ((0 : Int), (i0, i1, l2), ((0 : Int), (0 : Int)), (i3, i4), ([] : List Int), l5))))
 (fun ((i41, i42), (i43, i44), l45, l46) =>
 (takI l46 (lenN l46)).bnd (fun l47 =>
 some (i43, i44, l47)))))

def G_spec_l31Mul (NN : Nat) : (Int × ((Int × (Int × (List Int))) × (Int × (Int × (List Int))))) → (Option (Int × (Int × (List Int)))) :=
 (fun ((i0, (i1, i2, l3), i4, i5, l6) : (Int × ((Int × (Int × (List Int))) × (Int × (Int × (List Int)))))) =>
 (F_spec_l31New (i1, i5)).bnd (fun (i7, i8, l9) =>
 joinK ((fulI 0 0 (lenN (([] : List Int)))).bnd (fun _ =>
 (fulI 0 (lenN l9) (lenN l9)).bnd (fun _ =>
 loopT NN (fun (((i10, i11), (i12, i13, l14), (i15, i16, l17), (i18, i19), (i20, i21), l22, l23) : ((Int × Int) × ((Int × (Int × (List Int))) × ((Int × (Int × (List Int))) × ((Int × Int) × ((Int × Int) × ((List Int) × (List Int)))))))) =>
 cnd (ltI i11 i12)
 (joinK ((fulI 0 (lenN l22) (lenN l22)).bnd (fun _ =>
 (fulI 0 (lenN l23) (lenN l23)).bnd (fun _ =>
 loopT NN (fun (((i24, i25, i26), (i27, i28, l29), (i30, i31, l32), (i33, i34), (i35, i36), l37, l38) : ((Int × (Int × Int)) × ((Int × (Int × (List Int))) × ((Int × (Int × (List Int))) × ((Int × Int) × ((Int × Int) × ((List Int) × (List Int)))))))) =>
 cnd (ltI i26 i31)
 (joinK (joinK ((fulI 0 (lenN l37) (lenN l37)).bnd (fun _ =>
 (fulI 0 (lenN l38) (lenN l38)).bnd (fun _ =>
 loopT NN (fun (((i39, i40, i41, i42, i43), (i44, i45, l46), (i47, i48, l49), (i50, i51), (i52, i53), l54, l55) : ((Int × (Int × (Int × (Int × Int)))) × ((Int × (Int × (List Int))) × ((Int × (Int × (List Int))) × ((Int × Int) × ((Int × Int) × ((List Int) × (List Int)))))))) =>
 cnd (ltI i43 i45)
 ((getI l46 (addI .i64 (mulI .i64 i40 i45) i43)).bnd (fun i56 =>
 (getI l49 (addI .i64 (mulI .i64 i43 i48) i41)).bnd (fun i57 =>
 (remI (addI .i64 i42 (mulI .i64 i56 i57)) i39).bnd (fun i58 =>
 (fulI 0 (lenN l54) (lenN l54)).bnd (fun _ =>
 (fulI 0 (lenN l55) (lenN l55)).bnd (fun _ =>
 some (Sum.inl ((i39, i40, i41, i58, addI .i64 i43 1), (i44, i45, l46), (i47, i48, l49), (i50, i51), (i52, i53), l54, l55))))))))
 (((fulI 0 (lenN l54) (lenN l54)).bnd (fun _ =>
 (fulI 0 (lenN l55) (lenN l55)).bnd (fun _ =>
 some (Sum.inl ((i42, i41, i39, i40), (i44, i45, l46), (i47, i48, l49), (i50, i51), (i52, i53), l54, l55))))).bnd (fun l59 =>
 some (Sum.inr l59))))
 ((i24, i25, i26, (0 : Int), (0 : Int)), (i27, i28, l29), (i30, i31, l32), (i33, i34), (i35, i36), l37, l38))))
 (fun ((i60, i61, i62, i63), (i64, i65, l66), (i67, i68, l69), (i70, i71), (i72, i73), l74, l75) =>
 (chkI (addI .i64 (mulI .i64 i63 i68) i61) (lenN l75)).bnd (fun k76 =>
 (getN l75 (addN 0 k76)).bnd (fun i77 =>
 (fulI 0 (lenN l74) (lenN l74)).bnd (fun _ =>
 (fulI 0 (lenN l75) (lenN (setL l75 (addN 0 k76) i60))).bnd (fun _ =>
 some (Sum.inl ((i61, i62, i63), (i64, i65, l66), (i67, i68, l69), (i70, i71), (i72, i73), l74, setL l75 (addN 0 k76) i60))))))))
 (fun ((i78, i79, i80), (i81, i82, l83), (i84, i85, l86), (i87, i88), (i89, i90), l91, l92) =>
 (fulI 0 (lenN l91) (lenN l91)).bnd (fun _ =>
 (fulI 0 (lenN l92) (lenN l92)).bnd (fun _ =>
 some (Sum.inl ((i79, i80, addI .i64 i78 1), (i81, i82, l83), (i84, i85, l86), (i87, i88), (i89, i90), l91, l92))))))
 (((fulI 0 (lenN l37) (lenN l37)).bnd (fun _ =>
 (fulI 0 (lenN l38) (lenN l38)).bnd (fun _ =>
 some (Sum.inl ((i25, i24), (i27, i28, l29), (i30, i31, l32), (i33, i34), (i35, i36), l37, l38))))).bnd (fun l93 =>
 some (Sum.inr l93))))
 ((i10, i11, (0 : Int)), (i12, i13, l14), (i15, i16, l17), (i18, i19), (i20, i21), l22, l23))))
 (fun ((i94, i95), (i96, i97, l98), (i99, i100, l101), (i102, i103), (i104, i105), l106, l107) =>
 (fulI 0 (lenN l106) (lenN l106)).bnd (fun _ =>
 (fulI 0 (lenN l107) (lenN l107)).bnd (fun _ =>
 some (Sum.inl ((i95, addI .i64 i94 1), (i96, i97, l98), (i99, i100, l101), (i102, i103), (i104, i105), l106, l107))))))
 (((fulI 0 (lenN l22) (lenN l22)).bnd (fun _ =>
 (fulI 0 (lenN l23) (lenN l23)).bnd (fun _ =>
 some (Sum.inl ((i18, i19), (i20, i21), l22, l23))))).bnd (fun l108 =>
 some (Sum.inr l108))))
 ((i0, (0 : Int)), (i1, i2, l3), (i4, i5, l6), ((0 : Int), (0 : Int)), (i7, i8), ([] : List Int), l9))))
 (fun ((i109, i110), (i111, i112), l113, l114) =>
 (takI l114 (lenN l114)).bnd (fun l115 =>
 some (i111, i112, l115)))))

def G_impl_rawMulMatrix (NN : Nat) : (Int × ((Int × (Int × (List Int))) × (Int × (Int × (List Int))))) → (Option (Int × (Int × (List Int)))) :=
 (fun ((i0, (i1, i2, l3), i4, i5, l6) : (Int × ((Int × (Int × (List Int))) × (Int × (Int × (List Int)))))) =>
 (F_impl_emptyMatrix (i1, i5)).bnd (fun (i7, i8, l9) =>
 joinK ((fulI 0 0 (lenN (([] : List Int)))).bnd (fun _ =>
 (fulI 0 (lenN l9) (lenN l9)).bnd (fun _ =>
 loopT NN (fun (((i10, i11), (i12, i13, l14), (i15, i16, l17), (i18, i19), (i20, i21), l22, l23) : ((Int × Int) × ((Int × (Int × (List Int))) × ((Int × (Int × (List Int))) × ((Int × Int) × ((Int × Int) × ((List Int) × (List Int)))))))) =>
 cnd (ltI i11 i12)
 (joinK ((fulI 0 (lenN l22) (lenN l22)).bnd (fun _ =>
 (fulI 0 (lenN l23) (lenN l23)).bnd (fun _ =>
 loopT NN (fun (((i24, i25, i26), (i27, i28, l29), (i30, i31, l32), (i33, i34), (i35, i36), l37, l38) : ((Int × (Int × Int)) × ((Int × (Int × (List Int))) × ((Int × (Int × (List Int))) × ((Int × Int) × ((Int × Int) × ((List Int) × (List Int)))))))) =>
 cnd (ltI i26 i31)
 (joinK (joinK ((fulI 0 (lenN l37) (lenN l37)).bnd (fun _ =>
 (fulI 0 (lenN l38) (lenN l38)).bnd (fun _ =>
 loopT NN (fun (((i39, i40, i41, i42, i43), (i44, i45, l46), (i47, i48, l49), (i50, i51), (i52, i53), l54, l55) : ((Int × (Int × (Int × (Int × Int)))) × ((Int × (Int × (List Int))) × ((Int × (Int × (List Int))) × ((Int × Int) × ((Int × Int) × ((List Int) × (List Int)))))))) =>
 cnd (ltI i43 i45)
 ((F_impl_Matrix_at ((i44, i45, l46), i40, i43)).bnd (fun i56 =>
 (F_impl_Matrix_at ((i47, i48, l49), i43, i41)).bnd (fun i57 =>
 (remI (addI .i64 i42 (mulI .i64 i56 i57)) i39).bnd (fun i58 =>
 (fulI 0 (lenN l54) (lenN l54)).bnd (fun _ =>
 (fulI 0 (lenN l55) (lenN l55)).bnd (fun _ =>
 some (Sum.inl ((i39, i40, i41, i58, addI .i64 i43 1), (i44, i45, l46), (i47, i48, l49), (i50, i51), (i52, i53), l54, l55))))))))
 (((fulI 0 (lenN l54) (lenN l54)).bnd (fun _ =>
 (fulI 0 (lenN l55) (lenN l55)).bnd (fun _ =>
 some (Sum.inl ((i42, i41, i39, i40), (i44, i45, l46), (i47, i48, l49), (i50, i51), (i52, i53), l54, l55))))).bnd (fun l59 =>
 some (Sum.inr l59))))
 ((i24, i25, i26, (0 : Int), (0 : Int)), (i27, i28, l29), (i30, i31, l32), (i33, i34), (i35, i36), l37, l38))))
 (fun ((i60, i61, i62, i63), (i64, i65, l66), (i67, i68, l69), (i70, i71), (i72, i73), l74, l75) =>
 (fulI 0 (lenN l75) (lenN l75)).bnd (fun _ =>
 (F_impl_Matrix_set ((i72, i73, l75), i63, i61, i60)).bnd (fun l76 =>
 (fulI 0 (lenN l74) (lenN l74)).bnd (fun _ =>
 (fulI 0 (lenN l75) (lenN l76)).bnd (fun _ =>
 some (Sum.inl ((i61, i62, i63), (i64, i65, l66), (i67, i68, l69), (i70, i71), (i72, i73), l74, l76))))))))
 (fun ((i77, i78, i79), (i80, i81, l82), (i83, i84, l85), (i86, i87), (i88, i89), l90, l91) =>
 (fulI 0 (lenN l90) (lenN l90)).bnd (fun _ =>
 (fulI 0 (lenN l91) (lenN l91)).bnd (fun _ =>
 some (Sum.inl ((i78, i79, addI .i64 i77 1), (i80, i81, l82), (i83, i84, l85), (i86, i87), (i88, i89), l90, l91))))))
 (((fulI 0 (lenN l37) (lenN l37)).bnd (fun _ =>
 (fulI 0 (lenN l38) (lenN l38)).bnd (fun _ =>
 some (Sum.inl ((i25, i24), (i27, i28, l29), (i30, i31, l32), (i33, i34), (i35, i36), l37, l38))))).bnd (fun l92 =>
 some (Sum.inr l92))))
 ((i10, i11, (0 : Int)), (i12, i13, l14), (i15, i16, l17), (i18, i19), (i20, i21), l22, l23))))
 (fun ((i93, i94), (i95, i96, l97), (i98, i99, l100), (i101, i102), (i103, i104), l105, l106) =>
 (fulI 0 (lenN l105) (lenN l105)).bnd (fun _ =>
 (fulI 0 (lenN l106) (lenN l106)).bnd (fun _ =>
 some (Sum.inl ((i94, addI .i64 i93 1), (i95, i96, l97), (i98, i99, l100), (i101, i102), (i103, i104), l105, l106))))))
 (((fulI 0 (lenN l22) (lenN l22)).bnd (fun _ =>
 (fulI 0 (lenN l23) (lenN l23)).bnd (fun _ =>
 some (Sum.inl ((i18, i19), (i20, i21), l22, l23))))).bnd (fun l107 =>
 some (Sum.inr l107))))
 ((i0, (0 : Int)), (i1, i2, l3), (i4, i5, l6), ((0 : Int), (0 : Int)), (i7, i8), ([] : List Int), l9))))
 (fun ((i108, i109), (i110, i111), l112, l113) =>
 (takI l113 (lenN l113)).bnd (fun l114 =>
 some (i110, i111, l114)))))


theorem newOk_nat {r c : Nat} (hr : r ≤ 4096) (hc : c ≤ 4096) (h : r * c ≤ 1048576) : newOk ((r : Int), (c : Int)) := by
  refine ⟨⟨by omega, by show (r : Int) ≤ 4096; omega⟩, ⟨by show (0 : Int) ≤ c; omega, by show (c : Int) ≤ 4096; omega⟩, ?_⟩
  show (r : Int) * (c : Int) ≤ 1048576
  have e : (r : Int) * (c : Int) = ((r * c : Nat) : Int) := by norm_cast
  omega
theorem newOk_gen {x : Int × Int} (h : newOk x) : ∃ r c : Nat, x = ((r : Int), (c : Int)) ∧ r ≤ 4096 ∧ c ≤ 4096 ∧ r * c ≤ 1048576 := by
  obtain ⟨r, c⟩ := x
  obtain ⟨h1, h2, h3⟩ := h
  simp only at h1 h2 h3
  obtain ⟨r, rfl⟩ := natI_eq h1.1
  obtain ⟨c, rfl⟩ := natI_eq h2.1
  have e : (r : Int) * (c : Int) = ((r * c : Nat) : Int) := by norm_cast
  exact ⟨r, c, rfl, by omega, by omega, by omega⟩
theorem new_nat {r c : Nat} (hr : r ≤ 4096) (hc : c ≤ 4096) (h : r * c ≤ 1048576) : F_spec_l31New ((r : Int), (c : Int)) = some ((r : Int), (c : Int), genD r c fun _ _ => 0) := by
  simp only [F_spec_l31New, Int.toNat_natCast]
  rw [if_pos (newOk_nat hr hc h)]

theorem newI_nat {r c : Nat} (hr : r ≤ 4096) (hc : c ≤ 4096) (h : r * c ≤ 1048576) : F_impl_emptyMatrix ((r : Int), (c : Int)) = some ((r : Int), (c : Int), genD r c fun _ _ => 0) := new_nat hr hc h

theorem g_new {r c : Nat} (hr : r ≤ 4096) (hc : c ≤ 4096) (h : r * c ≤ 1048576) : G_spec_l31New FUEL ((r : Int), (c : Int)) = some ((r : Int), (c : Int), genD r c fun _ _ => 0) := by
  simp only [G_spec_l31New]
  rw [mulN (by omega) (by omega)]
  have := mkI_nat (n := r * c) (by_ := 8) (by unfold maxBytes; omega)
  rw [show ((r * c : Nat) : Int) = natI (r * c) from rfl, this, bnd_s, genD_rep]
  rw [show takI (genD r c fun _ _ => 0) (r * c) = some (genD r c fun _ _ => 0) by
    have := takI_id (genD r c fun _ _ => (0 : Int))
    rwa [lenN_gen] at this]
  rfl
theorem f_spec_l31New (x : Int × Int) (y : Int × Int × List Int) (h : F_spec_l31New x = some y) : G_spec_l31New FUEL x = some y := by
  simp only [F_spec_l31New] at h
  split at h
  · rename_i hc
    obtain ⟨r, c, rfl, h1, h2, h3⟩ := newOk_gen hc
    rw [← h, g_new h1 h2 h3]; rfl
  · cases h
theorem f_impl_emptyMatrix (x : Int × Int) (y : Int × Int × List Int) (h : F_impl_emptyMatrix x = some y) : G_impl_emptyMatrix FUEL x = some y := f_spec_l31New x y h

theorem f_spec_l05Ints (x y : List Int) (h : F_spec_l05Ints x = some y) : G_spec_l05Ints FUEL x = some y := by
  simp only [F_spec_l05Ints] at h
  split at h
  · rename_i hl
    rw [← h]
    simp only [G_spec_l05Ints]
    rw [show fulI 0 0 (lenN ([] : List Int)) = some () from rfl, bnd_s, fitI_ok (by simp only [addN, lenN, List.length_nil, maxBytes]; omega), bnd_s]
    have : appL [] x = x := rfl
    rw [this, show addN (lenN ([] : List Int)) (lenN x) = lenN x by simp [addN, lenN], takI_id]
    rfl
  · cases h
theorem f_impl_copyInts (x y : List Int) (h : F_impl_copyInts x = some y) : G_impl_copyInts FUEL x = some y := by
  simp only [F_impl_copyInts] at h
  split at h
  · rename_i hl
    rw [← h]
    simp only [G_impl_copyInts]
    rw [fitI_ok (by simp only [addN, lenN, List.length_nil, maxBytes]; omega), bnd_s]
    have : appL [] x = x := rfl
    rw [this, show addN (lenN ([] : List Int)) (lenN x) = lenN x by simp [addN, lenN], takI_id]
    rfl
  · cases h
theorem natP {a b : Int} (h : 0 ≤ a ∧ a < b) : ∃ n : Nat, a = (n : Int) ∧ ∀ m : Nat, b = (m : Int) → n < m := ⟨a.toNat, by omega, fun m hm => by omega⟩
theorem g_at {r c i j : Nat} {M : Nat → Nat → Int} (hr : r ≤ 4096) (hc : c ≤ 4096) (hi : i < r) (hj : j < c) : G_impl_Matrix_at FUEL (((r : Int), (c : Int), genD r c M), (i : Int), (j : Int)) = some (M i j) := by
  simp only [G_impl_Matrix_at]
  rw [idxI (by omega) (by omega) (by omega), getI_gen M hi hj]; rfl
theorem at_nat {r c i j : Nat} {M : Nat → Nat → Int} (hr : r ≤ 4096) (hc : c ≤ 4096) (h : r * c ≤ 1048576) (hi : i < r) (hj : j < c) : F_impl_Matrix_at (((r : Int), (c : Int), genD r c M), (i : Int), (j : Int)) = some (M i j) := by
  simp only [F_impl_Matrix_at, Int.toNat_natCast]
  rw [if_pos ⟨mOk_mk M hr hc h, by omega, by omega⟩]
  rw [ofD_gen M hi hj]
theorem f_impl_Matrix_at (x : (Int × Int × List Int) × Int × Int) (y : Int) (h : F_impl_Matrix_at x = some y) : G_impl_Matrix_at FUEL x = some y := by
  obtain ⟨m, i, j⟩ := x
  simp only [F_impl_Matrix_at] at h
  split at h
  · rename_i hc
    obtain ⟨h1, h2, h3⟩ := hc
    obtain ⟨r, c, M, rfl, hr, hc, hrc⟩ := mOk_gen h1
    obtain ⟨i, rfl, hi⟩ := natP h2
    obtain ⟨j, rfl, hj⟩ := natP h3
    have hi := hi r rfl; have hj := hj c rfl
    rw [← h, g_at hr hc hi hj]
    exact congrArg some (ofD_gen M hi hj).symm
  · cases h

theorem g_set {r c i j : Nat} {M : Nat → Nat → Int} {x : Int} (hr : r ≤ 4096) (hc : c ≤ 4096) (hi : i < r) (hj : j < c) : G_impl_Matrix_set FUEL (((r : Int), (c : Int), genD r c M), (i : Int), (j : Int), x) = some (genD r c (updM M i j x)) := by
  simp only [G_impl_Matrix_set]
  rw [idxI (by omega) (by omega) (by omega), chkI_gen M hi hj, bnd_s, addN_0, getN_gen M hi hj, bnd_s, setL_gen M hj, samI_gen, bnd_s]
theorem set_nat {r c i j : Nat} {M : Nat → Nat → Int} {x : Int} (hr : r ≤ 4096) (hc : c ≤ 4096) (h : r * c ≤ 1048576) (hi : i < r) (hj : j < c) : F_impl_Matrix_set (((r : Int), (c : Int), genD r c M), (i : Int), (j : Int), x) = some (genD r c (updM M i j x)) := by
  simp only [F_impl_Matrix_set, Int.toNat_natCast]
  rw [if_pos ⟨mOk_mk M hr hc h, by omega, by omega⟩]
  refine (congrArg some (genD_congr fun a ha b hb => ?_))
  unfold updM
  rw [ofD_gen M ha hb]
theorem f_impl_Matrix_set (x : (Int × Int × List Int) × Int × Int × Int) (y : List Int) (h : F_impl_Matrix_set x = some y) : G_impl_Matrix_set FUEL x = some y := by
  obtain ⟨m, i, j, v⟩ := x
  have h0 := h
  simp only [F_impl_Matrix_set] at h
  split at h
  · rename_i hc
    obtain ⟨h1, h2, h3⟩ := hc
    obtain ⟨r, c, M, rfl, hr, hc, hrc⟩ := mOk_gen h1
    obtain ⟨i, rfl, hi⟩ := natP h2
    obtain ⟨j, rfl, hj⟩ := natP h3
    have hi := hi r rfl; have hj := hj c rfl
    rw [← h0, g_set hr hc hi hj, set_nat hr hc hrc hi hj]
  · cases h

/-! ### rows -/

/-! ### pivots, inverses -/

theorem pivF_lt {M : Nat → Nat → Int} {j q : Nat} : ∀ {d k : Nat}, pivF M j d k = some q → k ≤ q ∧ q < k + d ∧ M q j ≠ 0
  | 0, k, h => by cases h
  | d + 1, k, h => by
    simp only [pivF] at h
    split at h
    · have := pivF_lt h
      exact ⟨by omega, by omega, this.2.2⟩
    · rename_i h0
      injection h with h
      subst h
      exact ⟨by omega, by omega, h0⟩

/-! ### transposed -/

def turnTo (M : Nat → Nat → Int) (i j : Nat) : Nat → Nat → Int := fun a b => if b < i ∨ b = i ∧ a < j then M b a else 0
theorem turn_step {r c : Nat} (M : Nat → Nat → Int) (i j : Nat) : genD c r (updM (turnTo M i j) j i (M i j)) = genD c r (turnTo M i (j + 1)) := by
  refine genD_congr fun a _ b _ => ?_
  unfold updM turnTo
  by_cases h : a = j ∧ b = i
  · obtain ⟨rfl, rfl⟩ := h
    simp
  · rw [if_neg h]
    by_cases h1 : b < i ∨ b = i ∧ a < j
    · simp only [if_pos h1, if_pos (show b < i ∨ b = i ∧ a < j + 1 by omega)]
    · simp only [if_neg h1, if_neg (show ¬ (b < i ∨ b = i ∧ a < j + 1) by omega)]
theorem turn_row {r c : Nat} (M : Nat → Nat → Int) (i : Nat) : genD c r (turnTo M i c) = genD c r (turnTo M (i + 1) 0) := by
  refine genD_congr fun a ha b _ => ?_
  unfold turnTo
  by_cases h1 : b < i ∨ b = i ∧ a < c
  · rw [if_pos h1, if_pos (by omega)]
  · rw [if_neg h1, if_neg (by omega)]
theorem turn_end {r c : Nat} (M : Nat → Nat → Int) : genD c r (turnTo M r 0) = genD c r (turnF M) := genD_congr fun a ha b hb => if_pos (.inl hb)
theorem turn_0 {r c : Nat} (M : Nat → Nat → Int) : genD c r (turnTo M 0 0) = genD c r fun _ _ => 0 := genD_congr fun a ha b hb => if_neg (by omega)

theorem g_turn {r c : Nat} {M : Nat → Nat → Int} (hr : r ≤ 4096) (hc : c ≤ 4096) (h : r * c ≤ 1048576) : G_spec_l31Turn FUEL ((r : Int), (c : Int), genD r c M) = some ((c : Int), (r : Int), genD c r (turnF M)) := by
  simp only [G_spec_l31Turn, new_nat hc hr (by rw [Nat.mul_comm]; exact h), bnd_s, fulI_id]
  rw [show fulI 0 0 (lenN ([] : List Int)) = some () from rfl, bnd_s]
  rw [loopT_seq (r := Sum.inl (((0 : Int), (0 : Int)), ((c : Int), (r : Int)), ([] : List Int), genD c r (turnF M))) (fun i => ((i : Int), ((r : Int), (c : Int), genD r c M), ((0 : Int), (0 : Int)), ((c : Int), (r : Int)), ([] : List Int), genD c r (turnTo M i 0))) r ?_ ?_ ?_ (FUEL_gt (by omega))]
  · rw [joinK_l]; simp only [takI_id, bnd_s]
  · intro i hi
    simp only
    rw [cnd_t (ltN_t hi)]
    rw [loopT_seq (r := Sum.inl ((i : Int), ((r : Int), (c : Int), genD r c M), ((0 : Int), (0 : Int)), ((c : Int), (r : Int)), ([] : List Int), genD c r (turnTo M (i + 1) 0))) (fun j => (((i : Int), (j : Int)), ((r : Int), (c : Int), genD r c M), ((0 : Int), (0 : Int)), ((c : Int), (r : Int)), ([] : List Int), genD c r (turnTo M i j))) c ?_ ?_ ?_ (FUEL_gt (by omega))]
    · rw [joinK_l]; simp only [addN1 (show i ≤ 1048577 by omega)]
    · intro j hj
      simp only
      rw [cnd_t (ltN_t hj), idxI (by omega) (by omega) (by omega), idxI (by omega) (by omega) (by omega), getI_gen M hi hj, bnd_s]
      simp only [chkI_gen _ hj hi, bnd_s, addN_0, getN_gen _ hj hi, setL_gen _ hi, fulI_gen, turn_step (r := r) (c := c), addN1 (show j ≤ 1048577 by omega)]
    · simp only
      rw [cnd_f (ltN_f (Nat.le_refl c)), turn_row]
    · rfl
  · simp only
    rw [cnd_f (ltN_f (Nat.le_refl r)), turn_end]
  · rw [turn_0]; rfl
theorem turn_nat {r c : Nat} {M : Nat → Nat → Int} (hr : r ≤ 4096) (hc : c ≤ 4096) (h : r * c ≤ 1048576) : F_spec_l31Turn ((r : Int), (c : Int), genD r c M) = some ((c : Int), (r : Int), genD c r (turnF M)) := by
  simp only [F_spec_l31Turn, Int.toNat_natCast]
  rw [if_pos (mOk_mk M hr hc h)]
  refine (congrArg (fun l => some ((c : Int), (r : Int), l)) (genD_congr fun a ha b hb => ofD_gen M hb ha))
theorem f_spec_l31Turn (x y : Int × Int × List Int) (h : F_spec_l31Turn x = some y) : G_spec_l31Turn FUEL x = some y := by
  have h0 := h
  simp only [F_spec_l31Turn] at h
  split at h
  · rename_i hc
    obtain ⟨r, c, M, rfl, hr, hc, hrc⟩ := mOk_gen hc
    rw [← h0, g_turn hr hc hrc, turn_nat hr hc hrc]
  · cases h
theorem g_turnI {r c : Nat} {M : Nat → Nat → Int} (hr : r ≤ 4096) (hc : c ≤ 4096) (h : r * c ≤ 1048576) : G_impl_rawTranspose FUEL ((r : Int), (c : Int), genD r c M) = some ((c : Int), (r : Int), genD c r (turnF M)) := by
  have h' : c * r ≤ 1048576 := by rw [Nat.mul_comm]; exact h
  simp only [G_impl_rawTranspose, newI_nat hc hr h', bnd_s, fulI_id]
  rw [show fulI 0 0 (lenN ([] : List Int)) = some () from rfl, bnd_s]
  rw [loopT_seq (r := Sum.inl (((0 : Int), (0 : Int)), ((c : Int), (r : Int)), ([] : List Int), genD c r (turnF M))) (fun i => ((i : Int), ((r : Int), (c : Int), genD r c M), ((0 : Int), (0 : Int)), ((c : Int), (r : Int)), ([] : List Int), genD c r (turnTo M i 0))) r ?_ ?_ ?_ (FUEL_gt (by omega))]
  · rw [joinK_l]; simp only [takI_id, bnd_s]
  · intro i hi
    simp only
    rw [cnd_t (ltN_t hi)]
    rw [loopT_seq (r := Sum.inl ((i : Int), ((r : Int), (c : Int), genD r c M), ((0 : Int), (0 : Int)), ((c : Int), (r : Int)), ([] : List Int), genD c r (turnTo M (i + 1) 0))) (fun j => (((i : Int), (j : Int)), ((r : Int), (c : Int), genD r c M), ((0 : Int), (0 : Int)), ((c : Int), (r : Int)), ([] : List Int), genD c r (turnTo M i j))) c ?_ ?_ ?_ (FUEL_gt (by omega))]
    · rw [joinK_l]; simp only [addN1 (show i ≤ 1048577 by omega)]
    · intro j hj
      simp only
      rw [cnd_t (ltN_t hj)]
      simp only [at_nat hr hc h hi hj, set_nat hc hr h' hj hi, bnd_s, fulI_gen, turn_step (r := r) (c := c), addN1 (show j ≤ 1048577 by omega)]
    · simp only
      rw [cnd_f (ltN_f (Nat.le_refl c)), turn_row]
    · rfl
  · simp only
    rw [cnd_f (ltN_f (Nat.le_refl r)), turn_end]
  · rw [turn_0]; rfl
theorem f_impl_rawTranspose (x y : Int × Int × List Int) (h : F_impl_rawTranspose x = some y) : G_impl_rawTranspose FUEL x = some y := by
  have h0 : F_spec_l31Turn x = some y := h
  simp only [F_impl_rawTranspose, F_spec_l31Turn] at h
  split at h
  · rename_i hc
    obtain ⟨r, c, M, rfl, hr, hc, hrc⟩ := mOk_gen hc
    rw [← h0, g_turnI hr hc hrc, turn_nat hr hc hrc]
  · cases h

/-! ### products -/

def mulTo (W : Nat → Nat → Int) (i j : Nat) : Nat → Nat → Int := fun a b => if a < i ∨ a = i ∧ b < j then W a b else 0
theorem mul_step {r c : Nat} (W : Nat → Nat → Int) (i j : Nat) : genD r c (updM (mulTo W i j) i j (W i j)) = genD r c (mulTo W i (j + 1)) := by
  refine genD_congr fun a _ b _ => ?_
  unfold updM mulTo
  by_cases h : a = i ∧ b = j
  · obtain ⟨rfl, rfl⟩ := h
    simp
  · rw [if_neg h]
    by_cases h1 : a < i ∨ a = i ∧ b < j
    · simp only [if_pos h1, if_pos (show a < i ∨ a = i ∧ b < j + 1 by omega)]
    · simp only [if_neg h1, if_neg (show ¬ (a < i ∨ a = i ∧ b < j + 1) by omega)]
theorem mul_row {r c : Nat} (W : Nat → Nat → Int) (i : Nat) : genD r c (mulTo W i c) = genD r c (mulTo W (i + 1) 0) := by
  refine genD_congr fun a _ b hb => ?_
  unfold mulTo
  by_cases h1 : a < i ∨ a = i ∧ b < c
  · simp only [if_pos h1, if_pos (show a < i + 1 ∨ a = i + 1 ∧ b < 0 by omega)]
  · simp only [if_neg h1, if_neg (show ¬ (a < i + 1 ∨ a = i + 1 ∧ b < 0) by omega)]
theorem mul_end {r c : Nat} (W : Nat → Nat → Int) : genD r c (mulTo W r 0) = genD r c W := genD_congr fun a ha b hb => if_pos (.inl ha)
theorem mul_0 {r c : Nat} (W : Nat → Nat → Int) : genD r c (mulTo W 0 0) = genD r c fun _ _ => 0 := genD_congr fun a ha b hb => if_neg (by omega)

theorem mulF_congr {p : Int} {k : Nat} {A A' B B' : Nat → Nat → Int} {i j : Nat} (hA : ∀ t, t < k → A i t = A' i t) (hB : ∀ t, t < k → B t j = B' t j) : mulF p k A B i j = mulF p k A' B' i j := by
  unfold mulF
  have : ∀ n, n ≤ k → dotF p (fun t => A i t) (fun t => B t j) n = dotF p (fun t => A' i t) (fun t => B' t j) n := by
    intro n
    induction n with
    | zero => intro _; rfl
    | succ n ih =>
      intro hn
      simp only [dotF]
      rw [ih (by omega), hA n (by omega), hB n (by omega)]
  exact this k (Nat.le_refl k)
theorem mulOk_gen {x : Int × (Int × Int × List Int) × (Int × Int × List Int)} (h : mulOk x) : ∃ (p : Int) (r k c : Nat) (A B : Nat → Nat → Int), x = (p, ((r : Int), (k : Int), genD r k A), ((k : Int), (c : Int), genD k c B)) ∧ pOk p ∧
    r ≤ 4096 ∧ k ≤ 4096 ∧ c ≤ 4096 ∧ r * k ≤ 1048576 ∧ k * c ≤ 1048576 ∧ r * c ≤ 1048576 ∧ inM p r k A ∧ inM p k c B := by
  obtain ⟨p, a, b⟩ := x
  obtain ⟨hp, ha, hb, hk, hrc, h1, h2⟩ := h
  obtain ⟨r, k, A, rfl, q1, q2, q3⟩ := mOk_gen ha
  obtain ⟨k', c, B, rfl, q4, q5, q6⟩ := mOk_gen hb
  simp only at hk hrc h1 h2
  have : k' = k := by omega
  subst this
  have e : (r : Int) * (c : Int) = ((r * c : Nat) : Int) := by norm_cast
  exact ⟨p, r, k', c, A, B, rfl, hp, q1, q2, q5, q3, q6, by omega, allP_gen.1 h1, allP_gen.1 h2⟩
theorem mulOk_mk {p : Int} {r k c : Nat} {A B : Nat → Nat → Int} (hp : pOk p) (hr : r ≤ 4096) (hk : k ≤ 4096) (hc : c ≤ 4096) (h1 : r * k ≤ 1048576) (h2 : k * c ≤ 1048576) (h3 : r * c ≤ 1048576) (hA : inM p r k A) (hB : inM p k c B) :
    mulOk (p, ((r : Int), (k : Int), genD r k A), ((k : Int), (c : Int), genD k c B)) := by
  refine ⟨hp, mOk_mk A hr hk h1, mOk_mk B hk hc h2, rfl, ?_, allP_gen.2 hA, allP_gen.2 hB⟩
  show (r : Int) * (c : Int) ≤ 1048576
  have e : (r : Int) * (c : Int) = ((r * c : Nat) : Int) := by norm_cast
  omega
theorem mulS_nat {p : Int} {r k c : Nat} {A B : Nat → Nat → Int} (hp : pOk p) (hr : r ≤ 4096) (hk : k ≤ 4096) (hc : c ≤ 4096) (h1 : r * k ≤ 1048576) (h2 : k * c ≤ 1048576) (h3 : r * c ≤ 1048576) (hA : inM p r k A) (hB : inM p k c B) :
    F_spec_l31Mul (p, ((r : Int), (k : Int), genD r k A), ((k : Int), (c : Int), genD k c B)) = some ((r : Int), (c : Int), genD r c (mulF p k A B)) := by
  simp only [F_spec_l31Mul, Int.toNat_natCast]
  rw [if_pos (mulOk_mk hp hr hk hc h1 h2 h3 hA hB)]
  exact congrArg (fun l => some ((r : Int), (c : Int), l)) (genD_congr fun i hi j hj => mulF_congr (fun t ht => ofD_gen A hi ht) (fun t ht => ofD_gen B ht hj))

theorem g_mulS {p : Int} {r k c : Nat} {A B : Nat → Nat → Int} (hp : pOk p) (hr : r ≤ 4096) (hk : k ≤ 4096) (hc : c ≤ 4096) (h1 : r * k ≤ 1048576) (h2 : k * c ≤ 1048576) (h3 : r * c ≤ 1048576) (hA : inM p r k A) (hB : inM p k c B) :
    G_spec_l31Mul FUEL (p, ((r : Int), (k : Int), genD r k A), ((k : Int), (c : Int), genD k c B)) = some ((r : Int), (c : Int), genD r c (mulF p k A B)) := by
  simp only [G_spec_l31Mul, new_nat hr hc h3, bnd_s, fulI_id]
  rw [show fulI 0 0 (lenN ([] : List Int)) = some () from rfl, bnd_s]
  rw [loopT_seq (r := Sum.inl (((0 : Int), (0 : Int)), ((r : Int), (c : Int)), ([] : List Int), genD r c (mulF p k A B))) (fun i => ((p, (i : Int)), ((r : Int), (k : Int), genD r k A), ((k : Int), (c : Int), genD k c B), ((0 : Int), (0 : Int)), ((r : Int), (c : Int)), ([] : List Int), genD r c (mulTo (mulF p k A B) i 0))) r ?_ ?_ ?_ (FUEL_gt (by omega))]
  · rw [joinK_l]; simp only [takI_id, bnd_s]
  · intro i hi
    simp only
    rw [cnd_t (ltN_t hi)]
    rw [loopT_seq (r := Sum.inl (((i : Int), p), ((r : Int), (k : Int), genD r k A), ((k : Int), (c : Int), genD k c B), ((0 : Int), (0 : Int)), ((r : Int), (c : Int)), ([] : List Int), genD r c (mulTo (mulF p k A B) (i + 1) 0))) (fun j => ((p, (i : Int), (j : Int)), ((r : Int), (k : Int), genD r k A), ((k : Int), (c : Int), genD k c B), ((0 : Int), (0 : Int)), ((r : Int), (c : Int)), ([] : List Int), genD r c (mulTo (mulF p k A B) i j))) c ?_ ?_ ?_ (FUEL_gt (by omega))]
    · rw [joinK_l]; simp only [addN1 (show i ≤ 1048577 by omega)]
    · intro j hj
      simp only
      rw [cnd_t (ltN_t hj)]
      rw [loopT_seq (r := Sum.inl ((mulF p k A B i j, (j : Int), p, (i : Int)), ((r : Int), (k : Int), genD r k A), ((k : Int), (c : Int), genD k c B), ((0 : Int), (0 : Int)), ((r : Int), (c : Int)), ([] : List Int), genD r c (mulTo (mulF p k A B) i j))) (fun t => ((p, (i : Int), (j : Int), dotF p (fun t => A i t) (fun t => B t j) t, (t : Int)), ((r : Int), (k : Int), genD r k A), ((k : Int), (c : Int), genD k c B), ((0 : Int), (0 : Int)), ((r : Int), (c : Int)), ([] : List Int), genD r c (mulTo (mulF p k A B) i j))) k ?_ ?_ ?_ (FUEL_gt (by omega))]
      · rw [joinK_l]
        simp only [idxI (show i ≤ 1048576 by omega) (show c ≤ 1048576 by omega) (show j ≤ 1048576 by omega), chkI_gen _ hi hj, bnd_s, addN_0, getN_gen _ hi hj, setL_gen _ hj, fulI_gen, mul_step (r := r) (c := c)]
        rw [joinK_l]
        simp only [addN1 (show j ≤ 1048577 by omega)]
      · intro t ht
        simp only
        rw [cnd_t (ltN_t ht), idxI (by omega) (by omega) (by omega), idxI (by omega) (by omega) (by omega), getI_gen A hi ht, bnd_s, getI_gen B ht hj, bnd_s, macI hp ((dotF_in hp _ _ t).s hp) (hA i hi t ht).le (hB t ht j hj).le, bnd_s]
        simp only [addN1 (show t ≤ 1048577 by omega), dotF]
      · simp only
        rw [cnd_f (ltN_f (Nat.le_refl k))]
        rfl
      · rfl
    · simp only
      rw [cnd_f (ltN_f (Nat.le_refl c)), mul_row]
    · rfl
  · simp only
    rw [cnd_f (ltN_f (Nat.le_refl r)), mul_end]
  · rw [mul_0]; rfl
theorem f_spec_l31Mul (x : Int × (Int × Int × List Int) × (Int × Int × List Int)) (y : Int × Int × List Int) (h : F_spec_l31Mul x = some y) : G_spec_l31Mul FUEL x = some y := by
  have h0 := h
  simp only [F_spec_l31Mul] at h
  split at h
  · rename_i hc
    obtain ⟨p, r, k, c, A, B, rfl, hp, hr, hk, hc, h1, h2, h3, hA, hB⟩ := mulOk_gen hc
    rw [← h0, g_mulS hp hr hk hc h1 h2 h3 hA hB, mulS_nat hp hr hk hc h1 h2 h3 hA hB]
  · cases h
theorem g_mulI {p : Int} {r k c : Nat} {A B : Nat → Nat → Int} (hp : pOk p) (hr : r ≤ 4096) (hk : k ≤ 4096) (hc : c ≤ 4096) (h1 : r * k ≤ 1048576) (h2 : k * c ≤ 1048576) (h3 : r * c ≤ 1048576) (hA : inM p r k A) (hB : inM p k c B) :
    G_impl_rawMulMatrix FUEL (p, ((r : Int), (k : Int), genD r k A), ((k : Int), (c : Int), genD k c B)) = some ((r : Int), (c : Int), genD r c (mulF p k A B)) := by
  simp only [G_impl_rawMulMatrix, newI_nat hr hc h3, bnd_s, fulI_id]
  rw [show fulI 0 0 (lenN ([] : List Int)) = some () from rfl, bnd_s]
  rw [loopT_seq (r := Sum.inl (((0 : Int), (0 : Int)), ((r : Int), (c : Int)), ([] : List Int), genD r c (mulF p k A B))) (fun i => ((p, (i : Int)), ((r : Int), (k : Int), genD r k A), ((k : Int), (c : Int), genD k c B), ((0 : Int), (0 : Int)), ((r : Int), (c : Int)), ([] : List Int), genD r c (mulTo (mulF p k A B) i 0))) r ?_ ?_ ?_ (FUEL_gt (by omega))]
  · rw [joinK_l]; simp only [takI_id, bnd_s]
  · intro i hi
    simp only
    rw [cnd_t (ltN_t hi)]
    rw [loopT_seq (r := Sum.inl (((i : Int), p), ((r : Int), (k : Int), genD r k A), ((k : Int), (c : Int), genD k c B), ((0 : Int), (0 : Int)), ((r : Int), (c : Int)), ([] : List Int), genD r c (mulTo (mulF p k A B) (i + 1) 0))) (fun j => ((p, (i : Int), (j : Int)), ((r : Int), (k : Int), genD r k A), ((k : Int), (c : Int), genD k c B), ((0 : Int), (0 : Int)), ((r : Int), (c : Int)), ([] : List Int), genD r c (mulTo (mulF p k A B) i j))) c ?_ ?_ ?_ (FUEL_gt (by omega))]
    · rw [joinK_l]; simp only [addN1 (show i ≤ 1048577 by omega)]
    · intro j hj
      simp only
      rw [cnd_t (ltN_t hj)]
      rw [loopT_seq (r := Sum.inl ((mulF p k A B i j, (j : Int), p, (i : Int)), ((r : Int), (k : Int), genD r k A), ((k : Int), (c : Int), genD k c B), ((0 : Int), (0 : Int)), ((r : Int), (c : Int)), ([] : List Int), genD r c (mulTo (mulF p k A B) i j))) (fun t => ((p, (i : Int), (j : Int), dotF p (fun t => A i t) (fun t => B t j) t, (t : Int)), ((r : Int), (k : Int), genD r k A), ((k : Int), (c : Int), genD k c B), ((0 : Int), (0 : Int)), ((r : Int), (c : Int)), ([] : List Int), genD r c (mulTo (mulF p k A B) i j))) k ?_ ?_ ?_ (FUEL_gt (by omega))]
      · rw [joinK_l]
        simp only [set_nat hr hc h3 hi hj, bnd_s, fulI_gen, mul_step (r := r) (c := c)]
        rw [joinK_l]
        simp only [addN1 (show j ≤ 1048577 by omega)]
      · intro t ht
        simp only
        rw [cnd_t (ltN_t ht), at_nat hr hk h1 hi ht, bnd_s, at_nat hk hc h2 ht hj, bnd_s, macI hp ((dotF_in hp _ _ t).s hp) (hA i hi t ht).le (hB t ht j hj).le, bnd_s]
        simp only [addN1 (show t ≤ 1048577 by omega), dotF]
      · simp only
        rw [cnd_f (ltN_f (Nat.le_refl k))]
        rfl
      · rfl
    · simp only
      rw [cnd_f (ltN_f (Nat.le_refl c)), mul_row]
    · rfl
  · simp only
    rw [cnd_f (ltN_f (Nat.le_refl r)), mul_end]
  · rw [mul_0]; rfl
theorem f_impl_rawMulMatrix (x : Int × (Int × Int × List Int) × (Int × Int × List Int)) (y : Int × Int × List Int) (h : F_impl_rawMulMatrix x = some y) : G_impl_rawMulMatrix FUEL x = some y := by
  have h0 : F_spec_l31Mul x = some y := h
  simp only [F_impl_rawMulMatrix, F_spec_l31Mul] at h
  split at h
  · rename_i hc
    obtain ⟨p, r, k, c, A, B, rfl, hp, hr, hk, hc, h1, h2, h3, hA, hB⟩ := mulOk_gen hc
    rw [← h0, g_mulI hp hr hk hc h1 h2 h3 hA hB, mulS_nat hp hr hk hc h1 h2 h3 hA hB]
  · cases h
end Go.Am
end
section
namespace Go.Am
/-! ### transposes, products and swaps of good matrices -/

def sopOk (x : Int × Int × Int) : Prop := isPrimeI x.1 = true ∧ (1 ≤ x.2.1 ∧ x.2.1 ≤ 8) ∧ (1 ≤ x.2.2 ∧ x.2.2 ≤ 8)
instance (x : Int × Int × Int) : Decidable (sopOk x) := by unfold sopOk; infer_instance
theorem inM_of {p : Int} {r c : Nat} {l : List Int} (h : l.length = r * c) (hr : rowOk p l = true) : inM p r c (ofD c l) := by
  apply allP_gen.1
  rw [genD_of h]
  intro x hx
  have := List.all_eq_true.1 hr x hx
  exact of_decide_eq_true this
theorem matOk_nat {m : Int} {x : Int × Int × List Int} (h : matOk m x = true) : ∃ (r c : Nat) (M : Nat → Nat → Int), x = ((r : Int), (c : Int), genD r c M) ∧ pOk m ∧ r ≤ 64 ∧ c ≤ 64 ∧ r * c ≤ 4096 ∧ inM m r c M := by
  obtain ⟨r, c, l⟩ := x
  simp only [matOk, Bool.and_eq_true, decide_eq_true_eq] at h
  obtain ⟨h1, h2, h3, h4, h5⟩ := h
  obtain ⟨r, rfl⟩ := natI_eq (z := r) (by omega)
  obtain ⟨c, rfl⟩ := natI_eq (z := c) (by omega)
  have hl : l.length = r * c := by
    have e : (r : Int) * (c : Int) = ((r * c : Nat) : Int) := by norm_cast
    omega
  have hrc : r * c ≤ 64 * 64 := Nat.mul_le_mul (by omega) (by omega)
  exact ⟨r, c, ofD c l, by rw [genD_of hl], isPrimeI_t h1, by omega, by omega, by omega, inM_of hl h5⟩

/-! ### the swap operator -/

end Go.Am
end
section
namespace Go.Am
/-! ### reduced forms -/

abbrev Mat := Nat → Nat → Int
def sclF (p inv : Int) (M : Mat) (t : Nat) : Mat := fun a b => if a = t then M t b * inv % p else M a b
def clrF (p : Int) (M : Mat) (t j n : Nat) : Mat := fun a b => if a < n ∧ a ≠ t then (M a b + (p - M a j) * M t b) % p else M a b
def pivS (p : Int) (M : Mat) (t j k : Nat) : Mat := sclF p (invG p 1 (swapF M t k t j) (p - 2).toNat) (swapF M t k) t
def redD (p : Int) (M : Mat) (t j k : Nat) (d : Int) : Int := (if k = t then d else (p - d) % p) * swapF M t k t j % p
def redS (p : Int) (r : Nat) (s : Mat × List Int × Int) (j : Nat) : Mat × List Int × Int :=
  if s.2.1.length < r then
    match pivF s.1 j (r - s.2.1.length) s.2.1.length with
    | none => s
    | some k => (clrF p (pivS p s.1 s.2.1.length j k) s.2.1.length j r, s.2.1 ++ [(j : Int)], redD p s.1 s.2.1.length j k s.2.2)
  else s
def redOk (x : Int × Int × Int × List Int) : Prop := pOk x.1 ∧ mOk x.2 ∧ allP x.1 x.2.2.2
instance (x : Int × Int × Int × List Int) : Decidable (redOk x) := by unfold redOk; infer_instance
theorem swapF_in {p : Int} {r c : Nat} {M : Mat} (hM : inM p r c M) {a b : Nat} (ha : a < r) (hb : b < r) : inM p r c (swapF M a b) := by
  intro i hi j hj
  unfold swapF
  split
  · exact hM b hb j hj
  · split
    · exact hM a ha j hj
    · exact hM i hi j hj
theorem sclF_in {p inv : Int} {r c : Nat} {M : Mat} (hp : pOk p) (hM : inM p r c M) (t : Nat) : inM p r c (sclF p inv M t) := by
  intro i hi j hj
  unfold sclF
  split
  · exact emod_in hp _
  · exact hM i hi j hj
theorem clrF_in {p : Int} {r c : Nat} {M : Mat} (hp : pOk p) (hM : inM p r c M) (t k n : Nat) : inM p r c (clrF p M t k n) := by
  intro i hi j hj
  unfold clrF
  split
  · exact emod_in hp _
  · exact hM i hi j hj
theorem pivS_in {p : Int} {r c : Nat} {M : Mat} (hp : pOk p) (hM : inM p r c M) {t k : Nat} (ht : t < r) (hk : k < r) (j : Nat) : inM p r c (pivS p M t j k) := sclF_in hp (swapF_in hM ht hk) t

structure RI (p : Int) (r c : Nat) (s : Mat × List Int × Int) (j : Nat) : Prop where
  m : inM p r c s.1
  l : s.2.1.length ≤ r
  lj : s.2.1.length ≤ j
  d : inP p s.2.2
  e : ∀ x ∈ s.2.1, 0 ≤ x ∧ x < (j : Int)
theorem RI.step {p : Int} {r c : Nat} {s : Mat × List Int × Int} {j : Nat} (hp : pOk p) (h : RI p r c s j) : RI p r c (redS p r s j) (j + 1) := by
  have keep : RI p r c s (j + 1) := ⟨h.m, h.l, by have := h.lj; omega, h.d, fun x hx => by have := h.e x hx; omega⟩
  unfold redS
  split
  · rename_i hl
    split
    · exact keep
    · rename_i k hk
      have hq := pivF_lt hk
      refine ⟨clrF_in hp (pivS_in hp h.m hl (by omega) j) _ _ _, ?_, ?_, emod_in hp _, ?_⟩
      · simp only [List.length_append, List.length_cons, List.length_nil]; omega
      · have := h.lj
        simp only [List.length_append, List.length_cons, List.length_nil]; omega
      · intro x hx
        simp only [List.mem_append, List.mem_singleton] at hx
        rcases hx with hx | rfl
        · have := h.e x hx; omega
        · omega
  · exact keep
/-! ### the walk of the spec's reduction -/

section
variable {p : Int} {r c : Nat} {M0 : Mat}

end
/-! ### the walk of the program's reduction -/

section
variable {p : Int} {r c : Nat} {M0 : Mat}

end

end Go.Am
end
section
namespace Go.Am
/-! ### ranks, reduced forms and factors of good matrices -/

theorem matOk_red {m : Int} {x : Int × Int × List Int} (h : matOk m x = true) : ∃ (r c : Nat) (M : Mat), x = ((r : Int), (c : Int), genD r c M) ∧ pOk m ∧ r ≤ 64 ∧ c ≤ 64 ∧ r * c ≤ 4096 ∧ inM m r c M ∧ M = ofD c (genD r c M) ∧ redOk (m, x) := by
  obtain ⟨r, c, M, rfl, hp, hr, hc, hrc, hM⟩ := matOk_nat h
  have e : genD r c (ofD c (genD r c M)) = genD r c M := genD_of (genD_len r c M)
  refine ⟨r, c, ofD c (genD r c M), by rw [e], hp, hr, hc, hrc, allP_gen.1 (by rw [e]; exact allP_gen.2 hM), by rw [e], hp, mOk_mk M (by omega) (by omega) (by omega), allP_gen.2 hM⟩
/-! ### factors -/

section
variable {p : Int} {r c : Nat} {M R : Mat} {L : List Int}

end

end Go.Am
end
section
namespace Go.Am

/-! ### chains as matrices -/
abbrev Site := Int × Int × Int × List Int
def site0 : Site := (0, 0, 0, [])
def siteM (s : Site) : Mat := ofD s.2.2.1.toNat s.2.2.2
def siteV (s : Site) (v : Nat) : Mat := fun i j => siteM s (i * s.2.1.toNat + v) j
def bondN (l : List Site) : Nat → Nat
  | 0 => 1
  | i + 1 => (l.getD i site0).2.2.1.toNat
def siteG (s : Site) : Prop := (0 ≤ s.1 ∧ s.1 ≤ 64) ∧ (0 ≤ s.2.1 ∧ s.2.1 ≤ 64) ∧ (0 ≤ s.2.2.1 ∧ s.2.2.1 ≤ 64) ∧ (s.2.2.2.length : Int) = s.1 * s.2.1 * s.2.2.1
instance (s : Site) : Decidable (siteG s) := by unfold siteG; infer_instance
def F_impl_chainDims : Int × List Site → Option (List Int) := F_spec_l32Dims
def F_impl_Site_at : Site × Int × Int × Int → Option Int := fun x =>
  if siteG x.1 ∧ (0 ≤ x.2.1 ∧ x.2.1 < x.1.1) ∧ (0 ≤ x.2.2.1 ∧ x.2.2.1 < x.1.2.1) ∧ (0 ≤ x.2.2.2 ∧ x.2.2.2 < x.1.2.2.1) then some (siteV x.1 x.2.2.1.toNat x.2.1.toNat x.2.2.2.toNat) else none
def F_spec_l32At : Site × Int → Option (Int × Int × List Int) := fun x =>
  if siteG x.1 ∧ (0 ≤ x.2 ∧ x.2 < x.1.2.1) then some (x.1.1, x.1.2.2.1, genD x.1.1.toNat x.1.2.2.1.toNat (siteV x.1 x.2.toNat)) else none
def ag_impl_chainDims : Sig := [(.agg, [.int .i64, .list [.int .i64, .int .i64, .int .i64, .list [.int .i64]]])]
def rs_impl_chainDims : Sig := [(.one, [.list [.int .i64]])]
def mu_impl_chainDims : MSig := []
def ag_impl_Site_at : Sig := [(.agg, [.int .i64, .int .i64, .int .i64, .list [.int .i64]]), (.one, [.int .i64]), (.one, [.int .i64]), (.one, [.int .i64])]
def rs_impl_Site_at : Sig := [(.one, [.int .i64])]
def mu_impl_Site_at : MSig := []
def ag_spec_l32At : Sig := [(.agg, [.int .i64, .int .i64, .int .i64, .list [.int .i64]]), (.one, [.int .i64])]
def rs_spec_l32At : Sig := [(.agg, [.int .i64, .int .i64, .list [.int .i64]])]
def mu_spec_l32At : MSig := []
def G_impl_chainDims (NN : Nat) : (Int × (List (Int × (Int × (Int × (List Int)))))) → (Option (List Int)) :=
 (fun ((i0, l1) : (Int × (List (Int × (Int × (Int × (List Int))))))) =>
 joinK ((fulI 0 0 (lenN (([] : List Int)))).bnd (fun _ =>
 loopT NN (fun (((l2, i3, i4), l5) : (((List (Int × (Int × (Int × (List Int))))) × (Int × Int)) × (List Int))) =>
 cnd (ltI i4 i3)
 ((getI l2 i4).bnd (fun (i6, i7, i8, l9) =>
 (fulI 0 (lenN l5) (lenN l5)).bnd (fun _ =>
 (winI ((i7 :: ([] : List Int))) 0 1).bnd (fun l10 =>
 (fitI (addN (lenN l5) (lenN l10)) 8).bnd (fun _ =>
 (fulI 0 (addN (lenN l5) (lenN l10)) (lenN (appL l5 l10))).bnd (fun _ =>
 some (Sum.inl ((l2, i3, addI .i64 i4 1), appL l5 l10))))))))
 (((fulI 0 (lenN l5) (lenN l5)).bnd (fun _ =>
 some (Sum.inl l5))).bnd (fun l11 =>
 some (Sum.inr l11))))
 ((l1, natI (lenN l1), (0 : Int)), ([] : List Int))))
 (fun l12 =>
 (takI l12 (lenN l12)).bnd (fun l13 =>
 some l13)))


def G_impl_Site_at (NN : Nat) : ((Int × (Int × (Int × (List Int)))) × (Int × (Int × Int))) → (Option Int) :=
 (fun (((i0, i1, i2, l3), i4, i5, i6) : ((Int × (Int × (Int × (List Int)))) × (Int × (Int × Int)))) =>
 (getI l3 (addI .i64 (mulI .i64 (addI .i64 (mulI .i64 i4 i1) i5) i2) i6)).bnd (fun i7 =>
 some i7))


def G_spec_l32At (NN : Nat) : ((Int × (Int × (Int × (List Int)))) × Int) → (Option (Int × (Int × (List Int)))) :=
 (fun (((i0, i1, i2, l3), i4) : ((Int × (Int × (Int × (List Int)))) × Int)) =>
 (F_spec_l31New (i0, i2)).bnd (fun (i5, i6, l7) =>
 joinK ((fulI 0 0 (lenN (([] : List Int)))).bnd (fun _ =>
 (fulI 0 (lenN l7) (lenN l7)).bnd (fun _ =>
 loopT NN (fun (((i8, i9), (i10, i11, i12, l13), (i14, i15), (i16, i17), l18, l19) : ((Int × Int) × ((Int × (Int × (Int × (List Int)))) × ((Int × Int) × ((Int × Int) × ((List Int) × (List Int))))))) =>
 cnd (ltI i9 i10)
 (joinK ((fulI 0 (lenN l18) (lenN l18)).bnd (fun _ =>
 (fulI 0 (lenN l19) (lenN l19)).bnd (fun _ =>
 loopT NN (fun (((i20, i21, i22), (i23, i24, i25, l26), (i27, i28), (i29, i30), l31, l32) : ((Int × (Int × Int)) × ((Int × (Int × (Int × (List Int)))) × ((Int × Int) × ((Int × Int) × ((List Int) × (List Int))))))) =>
 cnd (ltI i22 i25)
 ((getI l26 (addI .i64 (mulI .i64 (addI .i64 (mulI .i64 i21 i24) i20) i25) i22)).bnd (fun i33 =>
 (chkI (addI .i64 (mulI .i64 i21 i25) i22) (lenN l32)).bnd (fun k34 =>
 (getN l32 (addN 0 k34)).bnd (fun i35 =>
 (fulI 0 (lenN l31) (lenN l31)).bnd (fun _ =>
 (fulI 0 (lenN l32) (lenN (setL l32 (addN 0 k34) i33))).bnd (fun _ =>
 some (Sum.inl ((i20, i21, addI .i64 i22 1), (i23, i24, i25, l26), (i27, i28), (i29, i30), l31, setL l32 (addN 0 k34) i33))))))))
 (((fulI 0 (lenN l31) (lenN l31)).bnd (fun _ =>
 (fulI 0 (lenN l32) (lenN l32)).bnd (fun _ =>
 some (Sum.inl ((i21, i20), (i23, i24, i25, l26), (i27, i28), (i29, i30), l31, l32))))).bnd (fun l36 =>
 some (Sum.inr l36))))
 ((i8, i9, (0 : Int)), (i10, i11, i12, l13), (i14, i15), (i16, i17), l18, l19))))
 (fun ((i37, i38), (i39, i40, i41, l42), (i43, i44), (i45, i46), l47, l48) =>
 (fulI 0 (lenN l47) (lenN l47)).bnd (fun _ =>
 (fulI 0 (lenN l48) (lenN l48)).bnd (fun _ =>
 some (Sum.inl ((i38, addI .i64 i37 1), (i39, i40, i41, l42), (i43, i44), (i45, i46), l47, l48))))))
 (((fulI 0 (lenN l18) (lenN l18)).bnd (fun _ =>
 (fulI 0 (lenN l19) (lenN l19)).bnd (fun _ =>
 some (Sum.inl ((i14, i15), (i16, i17), l18, l19))))).bnd (fun l49 =>
 some (Sum.inr l49))))
 ((i4, (0 : Int)), (i0, i1, i2, l3), ((0 : Int), (0 : Int)), (i5, i6), ([] : List Int), l7))))
 (fun ((i50, i51), (i52, i53), l54, l55) =>
 (takI l55 (lenN l55)).bnd (fun l56 =>
 some (i52, i53, l56)))))


/-! ### good chains -/

def bd (b : Int) (l : List Site) : Nat → Int
  | 0 => b
  | k + 1 => (l.getD k site0).2.2.1

theorem chStep_iff {m : Int} : ∀ (l : List Site) (i : Nat) (b c : Int), foldO (chStep m) i b l = some c ↔ ((∀ k, k < l.length → siteOk m (l.getD k site0) = true ∧ (l.getD k site0).1 = bd b l k) ∧ c = bd b l l.length)
  | [], i, b, c => by
    simp only [foldO, bd, List.length_nil]
    exact ⟨fun h => ⟨fun k hk => absurd hk (Nat.not_lt_zero k), (Option.some.inj h).symm⟩, fun h => by rw [h.2]⟩
  | s :: l, i, b, c => by
    have key : ∀ k, bd b (s :: l) (k + 1) = bd s.2.2.1 l k := fun k => by cases k <;> rfl
    rw [foldO]
    by_cases hs : siteOk m s = true ∧ s.1 = b
    · rw [show chStep m i b s = some s.2.2.1 from if_pos hs]
      try simp only
      rw [chStep_iff l (i + 1) s.2.2.1 c]
      constructor
      · rintro ⟨h1, h2⟩
        refine ⟨fun k hk => ?_, h2.trans (key _).symm⟩
        cases k with
        | zero => exact hs
        | succ k => rw [key]; exact h1 k (by simpa using hk)
      · rintro ⟨h1, h2⟩
        exact ⟨fun k hk => by rw [← key]; exact h1 (k + 1) (by simpa using hk), h2.trans (key _)⟩
    · rw [show chStep m i b s = none from if_neg hs]
      constructor
      · intro h; cases h
      · rintro ⟨h1, _⟩
        exact absurd (h1 0 (by simp)) hs

theorem bd_toNat (l : List Site) (k : Nat) : (bd 1 l k).toNat = bondN l k := by cases k <;> rfl

/-- What a good chain is. -/
theorem chainOk_t {m : Int} {l : List Site} (h : chainOk (m, l) = true) : pOk m ∧ (1 ≤ l.length ∧ l.length ≤ 8) ∧ prodI (dimsOf l) ≤ 4096 ∧ bondN l l.length = 1 ∧
    ∀ i, i < l.length → ∃ (p : Nat) (M : Mat), l.getD i site0 = ((bondN l i : Int), (p : Int), (bondN l (i + 1) : Int), genD (bondN l i * p) (bondN l (i + 1)) M) ∧ bondN l i ≤ 32 ∧ bondN l (i + 1) ≤ 32 ∧ (1 ≤ p ∧ p ≤ 8) ∧
      inM m (bondN l i * p) (bondN l (i + 1)) M ∧ M = ofD (bondN l (i + 1)) (genD (bondN l i * p) (bondN l (i + 1)) M) := by
  simp only [chainOk, Bool.and_eq_true, decide_eq_true_eq] at h
  obtain ⟨hp, hl, h⟩ := h
  cases hf : foldO (chStep m) 0 1 l with
  | none => rw [hf] at h; cases h
  | some c =>
    rw [hf] at h
    simp only [Bool.and_eq_true, decide_eq_true_eq] at h
    obtain ⟨h1, h2⟩ := (chStep_iff l 0 1 c).1 hf
    have hm := isPrimeI_t hp
    refine ⟨hm, hl, h.2, by rw [← bd_toNat, ← h2, h.1]; rfl, fun i hi => ?_⟩
    obtain ⟨s1, s2⟩ := h1 i hi
    have e2 : (l.getD i site0).2.2.1 = bd 1 l (i + 1) := rfl
    generalize hs : l.getD i site0 = s at *
    obtain ⟨a, p, c', d⟩ := s
    obtain ⟨t1, t2, t3, t4, t5⟩ := siteOk_t s1
    simp only at s2 e2
    obtain ⟨p, rfl⟩ := natI_eq (show 0 ≤ p by omega)
    have ea : a = (bondN l i : Int) := by rw [← bd_toNat, ← s2]; omega
    have ec : c' = (bondN l (i + 1) : Int) := by rw [← bd_toNat, ← e2]; omega
    subst ea ec
    have el : d.length = bondN l i * p * bondN l (i + 1) := by
      have : ((bondN l i : Int) * (p : Int) * (bondN l (i + 1) : Int)) = ((bondN l i * p * bondN l (i + 1) : Nat) : Int) := by norm_cast
      rw [this] at t4; exact_mod_cast t4
    have eg := genD_of (r := bondN l i * p) (c := bondN l (i + 1)) el
    refine ⟨p, ofD (bondN l (i + 1)) d, by rw [eg], by omega, by omega, by omega, ?_, by rw [eg]⟩
    rw [← allP_gen, eg]
    intro x hx
    exact of_decide_eq_true (List.all_eq_true.1 t5 x hx)

theorem dims_getD (l : List Site) (i : Nat) : (dimsOf l).getD i 0 = (l.getD i site0).2.1 := by
  simp only [dimsOf, List.getD_eq_getElem?_getD, List.getElem?_map]
  cases l[i]? <;> rfl
theorem dims_len (l : List Site) : (dimsOf l).length = l.length := by simp [dimsOf]

theorem siteG_gen {s : Site} (h : siteG s) : ∃ (a p c : Nat) (M : Mat), s = ((a : Int), (p : Int), (c : Int), genD (a * p) c M) ∧ a ≤ 64 ∧ p ≤ 64 ∧ c ≤ 64 ∧ M = ofD c (genD (a * p) c M) := by
  obtain ⟨a, p, c, d⟩ := s
  obtain ⟨h1, h2, h3, h4⟩ := h
  simp only at h1 h2 h3 h4
  obtain ⟨a, rfl⟩ := natI_eq h1.1
  obtain ⟨p, rfl⟩ := natI_eq h2.1
  obtain ⟨c, rfl⟩ := natI_eq h3.1
  have el : d.length = a * p * c := by
    have : ((a : Int) * (p : Int) * (c : Int)) = ((a * p * c : Nat) : Int) := by norm_cast
    rw [this] at h4; exact_mod_cast h4
  have eg := genD_of (r := a * p) (c := c) el
  exact ⟨a, p, c, ofD c d, by rw [eg], by omega, by omega, by omega, by rw [eg]⟩
theorem siteG_mk {a p c : Nat} (M : Mat) (ha : a ≤ 64) (hp : p ≤ 64) (hc : c ≤ 64) : siteG ((a : Int), (p : Int), (c : Int), genD (a * p) c M) := by
  refine ⟨⟨by omega, by show (a : Int) ≤ 64; omega⟩, ⟨by show (0 : Int) ≤ p; omega, by show (p : Int) ≤ 64; omega⟩, ⟨by show (0 : Int) ≤ c; omega, by show (c : Int) ≤ 64; omega⟩, ?_⟩
  simp only [genD_len]; norm_cast
theorem siteV_gen {a p c : Nat} {M : Mat} (e : M = ofD c (genD (a * p) c M)) (v : Nat) : siteV ((a : Int), (p : Int), (c : Int), genD (a * p) c M) v = fun i j => M (i * p + v) j := by
  funext i j
  simp only [siteV, siteM, Int.toNat_natCast]
  rw [← e]

theorem f_impl_Site_at (x : Site × Int × Int × Int) (y : Int) (h : F_impl_Site_at x = some y) : G_impl_Site_at FUEL x = some y := by
  obtain ⟨s, i, v, j⟩ := x
  simp only [F_impl_Site_at] at h
  split at h
  · rename_i hc
    obtain ⟨hs, hi, hv, hj⟩ := hc
    obtain ⟨a, p, c, M, rfl, ha, hp, hc, eM⟩ := siteG_gen hs
    obtain ⟨i, rfl⟩ := natI_eq hi.1
    obtain ⟨v, rfl⟩ := natI_eq hv.1
    obtain ⟨j, rfl⟩ := natI_eq hj.1
    rw [← h, siteV_gen eM]
    simp only [Int.toNat_natCast, G_impl_Site_at]
    have hi' : i < a := by have := hi.2; simp only at this; omega
    have hv' : v < p := by have := hv.2; simp only at this; omega
    have hj' : j < c := by have := hj.2; simp only at this; omega
    have hk := idx_lt hi' hv'
    have hap : a * p ≤ 64 * 64 := Nat.mul_le_mul ha hp
    rw [idxI (by omega) (by omega) (by omega), idxI (by omega) (by omega) (by omega), getI_gen M hk hj', bnd_s]
  · cases h

theorem siteAt_nat {a p c i v j : Nat} {M : Mat} (ha : a ≤ 64) (hp : p ≤ 64) (hc : c ≤ 64) (e : M = ofD c (genD (a * p) c M)) (hi : i < a) (hv : v < p) (hj : j < c) :
    F_impl_Site_at (((a : Int), (p : Int), (c : Int), genD (a * p) c M), (i : Int), (v : Int), (j : Int)) = some (M (i * p + v) j) := by
  simp only [F_impl_Site_at]
  rw [if_pos ⟨siteG_mk M ha hp hc, by first | omega | (simp only; omega), by first | omega | (simp only; omega), by first | omega | (simp only; omega)⟩, siteV_gen e]
  simp only [Int.toNat_natCast]

theorem f_spec_l32At (x : Site × Int) (y : Int × Int × List Int) (h : F_spec_l32At x = some y) : G_spec_l32At FUEL x = some y := by
  obtain ⟨s, v⟩ := x
  simp only [F_spec_l32At] at h
  split at h
  · rename_i hc
    obtain ⟨hs, hv⟩ := hc
    obtain ⟨a, p, c, M, rfl, ha, hp, hc, eM⟩ := siteG_gen hs
    obtain ⟨v, rfl⟩ := natI_eq hv.1
    rw [← h, siteV_gen eM]
    simp only [Int.toNat_natCast]
    have hv' : v < p := by have := hv.2; simp only at this; omega
    have hap : a * p ≤ 64 * 64 := Nat.mul_le_mul ha hp
    have hac : a * c ≤ 64 * 64 := Nat.mul_le_mul ha hc
    generalize hW : (fun i j => M (i * p + v) j : Mat) = W
    simp only [G_spec_l32At, new_nat (r := a) (c := c) (by omega) (by omega) (by omega), bnd_s, fulI_id]
    rw [show fulI 0 0 (lenN ([] : List Int)) = some () from rfl, bnd_s]
    rw [loopT_seq (fun i => (((v : Int), (i : Int)), ((a : Int), (p : Int), (c : Int), genD (a * p) c M), ((0 : Int), (0 : Int)), ((a : Int), (c : Int)), ([] : List Int), genD a c (mulTo W i 0))) (r := Sum.inl (((0 : Int), (0 : Int)), ((a : Int), (c : Int)), ([] : List Int), genD a c W)) a ?_ ?_ ?_ (FUEL_gt (by omega))]
    · rw [joinK_l]; simp only [takI_id, bnd_s]
    · intro i hi
      try simp only
      rw [cnd_t (ltN_t hi)]
      rw [loopT_seq (fun j => (((v : Int), (i : Int), (j : Int)), ((a : Int), (p : Int), (c : Int), genD (a * p) c M), ((0 : Int), (0 : Int)), ((a : Int), (c : Int)), ([] : List Int), genD a c (mulTo W i j))) (r := Sum.inl (((i : Int), (v : Int)), ((a : Int), (p : Int), (c : Int), genD (a * p) c M), ((0 : Int), (0 : Int)), ((a : Int), (c : Int)), ([] : List Int), genD a c (mulTo W (i + 1) 0))) c ?_ ?_ ?_ (FUEL_gt (by omega))]
      · rw [joinK_l]; simp only [addN1 (show i ≤ 1048577 by omega)]
      · intro j hj
        try simp only
        have hk := idx_lt hi hv'
        rw [cnd_t (ltN_t hj), idxI (by omega) (by omega) (by omega), idxI (by omega) (by omega) (by omega), getI_gen M hk hj, bnd_s, idxI (by omega) (by omega) (by omega), chkI_gen _ hi hj, bnd_s, addN_0, getN_gen _ hi hj, bnd_s]
        rw [show M (i * p + v) j = W i j by rw [← hW], setL_gen _ hj, mul_step]
        simp only [fulI_gen, bnd_s, addN1 (show j ≤ 1048577 by omega)]
      · try simp only
        rw [cnd_f (ltN_f (Nat.le_refl c)), mul_row]
      · rfl
    · try simp only
      rw [cnd_f (ltN_f (Nat.le_refl a)), mul_end]
    · rw [mul_0]; rfl
  · cases h

theorem l32At_nat {a p c v : Nat} {M : Mat} (ha : a ≤ 64) (hp : p ≤ 64) (hc : c ≤ 64) (e : M = ofD c (genD (a * p) c M)) (hv : v < p) :
    F_spec_l32At (((a : Int), (p : Int), (c : Int), genD (a * p) c M), (v : Int)) = some ((a : Int), (c : Int), genD a c (fun i j => M (i * p + v) j)) := by
  simp only [F_spec_l32At]
  rw [if_pos ⟨siteG_mk M ha hp hc, by first | omega | (simp only; omega)⟩, siteV_gen e]
  simp only [Int.toNat_natCast]

/-! ### rows -/

def rowL (n : Nat) (f : Nat → Int) : List Int := (List.range n).map f
theorem rowL_len (n : Nat) (f : Nat → Int) : (rowL n f).length = n := by simp [rowL]
theorem rowL_get {n j : Nat} (f : Nat → Int) (h : j < n) : (rowL n f)[j]? = some (f j) := by simp [rowL, List.getElem?_range h]
theorem rowL_congr {n : Nat} {f g : Nat → Int} (h : ∀ j, j < n → f j = g j) : rowL n f = rowL n g := List.map_congr_left fun j hj => h j (List.mem_range.1 hj)
theorem rowL_set {n j : Nat} (f : Nat → Int) (x : Int) : setL (rowL n f) j x = rowL n (fun q => if q = j then x else f q) := by
  unfold setL
  apply List.ext_getElem?
  intro k
  rw [List.getElem?_set, rowL_len]
  by_cases hk : k < n
  · rw [rowL_get _ hk, rowL_get _ hk]
    by_cases e : j = k
    · subst e; simp [hk]
    · rw [if_neg e]; simp [show ¬ k = j from fun h => e h.symm]
  · rw [List.getElem?_eq_none (by rw [rowL_len]; omega), List.getElem?_eq_none (by rw [rowL_len]; omega)]
    by_cases e : j = k
    · subst e; simp [hk]
    · simp [e]
theorem lenN_row (n : Nat) (f : Nat → Int) : lenN (rowL n f) = n := rowL_len n f
theorem fulI_row (n : Nat) (f g : Nat → Int) : fulI 0 (lenN (rowL n f)) (lenN (rowL n g)) = some () := by rw [lenN_row, lenN_row]; exact fulI_id n
theorem chkI_row {n j : Nat} (f : Nat → Int) (h : j < n) : chkI (j : Int) (lenN (rowL n f)) = some j := chkI_nat (by rw [lenN_row]; exact h)
theorem getN_row {n j : Nat} (f : Nat → Int) (h : j < n) : getN (rowL n f) j = some (f j) := rowL_get f h
theorem row_in {m : Int} {a p c v : Nat} {M : Mat} (h : inM m (a * p) c M) (hv : v < p) {t j : Nat} (ht : t < a) (hj : j < c) : inP m (M (t * p + v) j) := h _ (idx_lt ht hv) j hj

theorem foldO_all {α : Type} (P : Nat → α → Bool) (d : α) : ∀ (l : List α) (i : Nat), foldO (fun i (_ : Unit) a => if P i a = true then some () else none) i () l = if (∀ k, k < l.length → P (i + k) (l.getD k d) = true) then some () else none
  | [], i => by simp [foldO]
  | a :: l, i => by
    rw [foldO]
    by_cases h : P i a = true
    · rw [if_pos h]
      try simp only
      rw [foldO_all P d l (i + 1)]
      have : (∀ k, k < l.length → P (i + 1 + k) (l.getD k d) = true) ↔ (∀ k, k < (a :: l).length → P (i + k) ((a :: l).getD k d) = true) := by
        constructor
        · intro h1 k hk
          cases k with
          | zero => exact h
          | succ k => have := h1 k (by simpa using hk); rw [show i + (k + 1) = i + 1 + k by omega]; exact this
        · intro h1 k hk
          have := h1 (k + 1) (by simpa using hk)
          rw [show i + (k + 1) = i + 1 + k by omega] at this
          exact this
      by_cases hc : ∀ k, k < l.length → P (i + 1 + k) (l.getD k d) = true
      · rw [if_pos hc, if_pos (this.1 hc)]
      · rw [if_neg hc, if_neg (fun h2 => hc (this.2 h2))]
    · rw [if_neg h, if_neg (fun h1 => h (h1 0 (by simp)))]

theorem f_impl_chainDims (x : Int × List (Int × Int × Int × List Int)) (y : List Int) (h : F_impl_chainDims x = some y) : G_impl_chainDims FUEL x = some y := by
  have h0 := f_spec_l32Dims x y h
  exact h0

/-! ### bonds -/

theorem map_take {α : Type} (g : α → Int) {L : List α} {j : Nat} {x : α} (h : L[j]? = some x) : appL ((L.take j).map g) [g x] = (L.take (j + 1)).map g := by
  simp [appL, List.take_add_one, h]

end Go.Am
end
section
namespace Go.Am

/-! ### indices of dims -/
def dimsG (D : List Int) : Prop := D.length ≤ 1048576 ∧ ∀ x ∈ D, 1 ≤ x ∧ x ≤ 1048576
instance (D : List Int) : Decidable (dimsG D) := by unfold dimsG; infer_instance
/-! ### tensors of chains -/

end Go.Am
end
section
namespace Go.Am

/-! ### inner products of chains -/
def F_spec_l06Equal : List Int × List Int → Option Bool := fun x => if x.1.length ≤ 1048576 ∧ x.2.length ≤ 1048576 then some (decide (x.1 = x.2)) else none
def F_impl_equalInts : List Int × List Int → Option Bool := F_spec_l06Equal
def chAlike (x y : Int × List Site) : Bool := chainOk x && (chainOk y && (decide (x.1 = y.1) && decide (dimsOf x.2 = dimsOf y.2)))
def F_spec_l32Alike : (Int × List Site) × (Int × List Site) → Option Bool := fun x => if sz_Chain x.1 ≤ 1048576 ∧ sz_Chain x.2 ≤ 1048576 then some (chAlike x.1 x.2) else none
def F_impl_sameShape : (Int × List Site) × (Int × List Site) → Option Bool := F_spec_l32Alike
def F_impl_valueMatrix : Site × Int → Option (Int × Int × List Int) := F_spec_l32At
def addV (m : Int) (X : Nat → Mat) : Nat → Mat
  | 0 => fun _ _ => 0
  | v + 1 => fun i j => (addV m X v i j + X v i j) % m
def innX (m : Int) (s t : Site) (E : Mat) (v : Nat) : Mat := mulF m t.1.toNat (mulF m s.1.toNat (turnF (siteV s v)) E) (siteV t v)
def innN (m : Int) (l l' : List Site) : Nat → Mat
  | 0 => fun _ _ => 1
  | i + 1 => addV m (innX m (l.getD i site0) (l'.getD i site0) (innN m l l' i)) (l.getD i site0).2.1.toNat
def innR (x y : Int × List Site) : Int × Bool := if chAlike x y = true then (innN x.1 x.2 y.2 x.2.length 0 0, true) else (0, false)
def F_spec_InnerChains : (Int × List Site) × (Int × List Site) → Option (Int × Bool) := fun x => if sz_Chain x.1 ≤ 1048576 ∧ sz_Chain x.2 ≤ 1048576 then some (innR x.1 x.2) else none
def F_impl_InnerChains : (Int × List Site) × (Int × List Site) → Option (Int × Bool) := F_spec_InnerChains

def ag_spec_l06Equal : Sig := [(.one, [.list [.int .i64]]), (.one, [.list [.int .i64]])]
def rs_spec_l06Equal : Sig := [(.one, [.bool])]
def mu_spec_l06Equal : MSig := []
def ag_impl_equalInts : Sig := [(.one, [.list [.int .i64]]), (.one, [.list [.int .i64]])]
def rs_impl_equalInts : Sig := [(.one, [.bool])]
def mu_impl_equalInts : MSig := []
def ag_spec_l32Alike : Sig := [(.agg, [.int .i64, .list [.int .i64, .int .i64, .int .i64, .list [.int .i64]]]), (.agg, [.int .i64, .list [.int .i64, .int .i64, .int .i64, .list [.int .i64]]])]
def rs_spec_l32Alike : Sig := [(.one, [.bool])]
def mu_spec_l32Alike : MSig := []
def ag_impl_sameShape : Sig := [(.agg, [.int .i64, .list [.int .i64, .int .i64, .int .i64, .list [.int .i64]]]), (.agg, [.int .i64, .list [.int .i64, .int .i64, .int .i64, .list [.int .i64]]])]
def rs_impl_sameShape : Sig := [(.one, [.bool])]
def mu_impl_sameShape : MSig := []
def ag_impl_valueMatrix : Sig := [(.agg, [.int .i64, .int .i64, .int .i64, .list [.int .i64]]), (.one, [.int .i64])]
def rs_impl_valueMatrix : Sig := [(.agg, [.int .i64, .int .i64, .list [.int .i64]])]
def mu_impl_valueMatrix : MSig := []
def ag_spec_InnerChains : Sig := [(.agg, [.int .i64, .list [.int .i64, .int .i64, .int .i64, .list [.int .i64]]]), (.agg, [.int .i64, .list [.int .i64, .int .i64, .int .i64, .list [.int .i64]]])]
def rs_spec_InnerChains : Sig := [(.one, [.int .i64]), (.one, [.bool])]
def mu_spec_InnerChains : MSig := []
def ag_impl_InnerChains : Sig := [(.agg, [.int .i64, .list [.int .i64, .int .i64, .int .i64, .list [.int .i64]]]), (.agg, [.int .i64, .list [.int .i64, .int .i64, .int .i64, .list [.int .i64]]])]
def rs_impl_InnerChains : Sig := [(.one, [.int .i64]), (.one, [.bool])]
def mu_impl_InnerChains : MSig := []

def G_spec_l06Equal (NN : Nat) : ((List Int) × (List Int)) → (Option Bool) :=
 (fun ((l0, l1) : ((List Int) × (List Int))) =>
 joinK (loopT NN (fun ((l2, l3, l4, i5, i6) : ((List Int) × ((List Int) × ((List Int) × (Int × Int))))) =>
 cnd (ltI i6 i5)
 ((getI l4 i6).bnd (fun i7 =>
 cnd (leI (natI (lenN l3)) i6)
 (some (Sum.inr (Sum.inr false)))
 ((getI l3 i6).bnd (fun i8 =>
 cnd (neI i8 i7)
 (some (Sum.inr (Sum.inr false)))
 (some (Sum.inl (l2, l3, l4, i5, addI .i64 i6 1)))))))
 (some (Sum.inr (Sum.inl (l2, l3)))))
 (l0, l1, l0, natI (lenN l0), (0 : Int)))
 (fun (l9, l10) =>
 some (eqI (natI (lenN l9)) (natI (lenN l10)))))


def G_impl_equalInts (NN : Nat) : ((List Int) × (List Int)) → (Option Bool) :=
 (fun ((l0, l1) : ((List Int) × (List Int))) =>
 cnd (neI (natI (lenN l0)) (natI (lenN l1)))
 (some false)
 (joinK (loopT NN (fun ((l2, l3, i4, i5) : ((List Int) × ((List Int) × (Int × Int)))) =>
 cnd (ltI i5 i4)
 ((getI l2 i5).bnd (fun i6 =>
 (getI l3 i5).bnd (fun i7 =>
 cnd (neI i6 i7)
 (some (Sum.inr (Sum.inr false)))
 (some (Sum.inl (l2, l3, i4, addI .i64 i5 1))))))
 (some (Sum.inr (Sum.inl ()))))
 (l0, l1, natI (lenN l0), (0 : Int)))
 (fun _ =>
 some true)))


def G_spec_l32Alike (NN : Nat) : ((Int × (List (Int × (Int × (Int × (List Int)))))) × (Int × (List (Int × (Int × (Int × (List Int))))))) → (Option Bool) :=
 (fun (((i0, l1), i2, l3) : ((Int × (List (Int × (Int × (Int × (List Int)))))) × (Int × (List (Int × (Int × (Int × (List Int)))))))) =>
 (F_spec_ChainOk (i0, l1)).bnd (fun b4 =>
 cnd (b4)
 ((F_spec_ChainOk (i2, l3)).bnd (fun b5 =>
 cnd (b5)
 (cnd (eqI i0 i2)
 ((F_spec_l32Dims (i0, l1)).bnd (fun l6 =>
 (F_spec_l32Dims (i2, l3)).bnd (fun l7 =>
 (winI l6 0 (lenN l6)).bnd (fun l8 =>
 (winI l7 0 (lenN l7)).bnd (fun l9 =>
 (F_spec_l06Equal (l8, l9)).bnd (fun b10 =>
 some b10))))))
 (some false))
 (some false)))
 (some false)))


def G_impl_sameShape (NN : Nat) : ((Int × (List (Int × (Int × (Int × (List Int)))))) × (Int × (List (Int × (Int × (Int × (List Int))))))) → (Option Bool) :=
 (fun (((i0, l1), i2, l3) : ((Int × (List (Int × (Int × (Int × (List Int)))))) × (Int × (List (Int × (Int × (Int × (List Int)))))))) =>
 (F_impl_ChainOk (i0, l1)).bnd (fun b4 =>
 cnd (b4)
 ((F_impl_ChainOk (i2, l3)).bnd (fun b5 =>
 cnd (b5)
 (cnd (eqI i0 i2)
 ((F_impl_chainDims (i0, l1)).bnd (fun l6 =>
 (F_impl_chainDims (i2, l3)).bnd (fun l7 =>
 (winI l6 0 (lenN l6)).bnd (fun l8 =>
 (winI l7 0 (lenN l7)).bnd (fun l9 =>
 (F_impl_equalInts (l8, l9)).bnd (fun b10 =>
 some b10))))))
 (some false))
 (some false)))
 (some false)))


def G_impl_valueMatrix (NN : Nat) : ((Int × (Int × (Int × (List Int)))) × Int) → (Option (Int × (Int × (List Int)))) :=
 (fun (((i0, i1, i2, l3), i4) : ((Int × (Int × (Int × (List Int)))) × Int)) =>
 (F_impl_emptyMatrix (i0, i2)).bnd (fun (i5, i6, l7) =>
 joinK ((fulI 0 0 (lenN (([] : List Int)))).bnd (fun _ =>
 (fulI 0 (lenN l7) (lenN l7)).bnd (fun _ =>
 loopT NN (fun (((i8, i9), (i10, i11, i12, l13), (i14, i15), (i16, i17), l18, l19) : ((Int × Int) × ((Int × (Int × (Int × (List Int)))) × ((Int × Int) × ((Int × Int) × ((List Int) × (List Int))))))) =>
 cnd (ltI i9 i10)
 (joinK ((fulI 0 (lenN l18) (lenN l18)).bnd (fun _ =>
 (fulI 0 (lenN l19) (lenN l19)).bnd (fun _ =>
 loopT NN (fun (((i20, i21, i22), (i23, i24, i25, l26), (i27, i28), (i29, i30), l31, l32) : ((Int × (Int × Int)) × ((Int × (Int × (Int × (List Int)))) × ((Int × Int) × ((Int × Int) × ((List Int) × (List Int))))))) =>
 cnd (ltI i22 i25)
 ((F_impl_Site_at ((i23, i24, i25, l26), i21, i20, i22)).bnd (fun i33 =>
 (fulI 0 (lenN l32) (lenN l32)).bnd (fun _ =>
 (F_impl_Matrix_set ((i29, i30, l32), i21, i22, i33)).bnd (fun l34 =>
 (fulI 0 (lenN l31) (lenN l31)).bnd (fun _ =>
 (fulI 0 (lenN l32) (lenN l34)).bnd (fun _ =>
 some (Sum.inl ((i20, i21, addI .i64 i22 1), (i23, i24, i25, l26), (i27, i28), (i29, i30), l31, l34))))))))
 (((fulI 0 (lenN l31) (lenN l31)).bnd (fun _ =>
 (fulI 0 (lenN l32) (lenN l32)).bnd (fun _ =>
 some (Sum.inl ((i21, i20), (i23, i24, i25, l26), (i27, i28), (i29, i30), l31, l32))))).bnd (fun l35 =>
 some (Sum.inr l35))))
 ((i8, i9, (0 : Int)), (i10, i11, i12, l13), (i14, i15), (i16, i17), l18, l19))))
 (fun ((i36, i37), (i38, i39, i40, l41), (i42, i43), (i44, i45), l46, l47) =>
 (fulI 0 (lenN l46) (lenN l46)).bnd (fun _ =>
 (fulI 0 (lenN l47) (lenN l47)).bnd (fun _ =>
 some (Sum.inl ((i37, addI .i64 i36 1), (i38, i39, i40, l41), (i42, i43), (i44, i45), l46, l47))))))
 (((fulI 0 (lenN l18) (lenN l18)).bnd (fun _ =>
 (fulI 0 (lenN l19) (lenN l19)).bnd (fun _ =>
 some (Sum.inl ((i14, i15), (i16, i17), l18, l19))))).bnd (fun l48 =>
 some (Sum.inr l48))))
 ((i4, (0 : Int)), (i0, i1, i2, l3), ((0 : Int), (0 : Int)), (i5, i6), ([] : List Int), l7))))
 (fun ((i49, i50), (i51, i52), l53, l54) =>
 (takI l54 (lenN l54)).bnd (fun l55 =>
 some (i51, i52, l55)))))


def G_spec_InnerChains (NN : Nat) : ((Int × (List (Int × (Int × (Int × (List Int)))))) × (Int × (List (Int × (Int × (Int × (List Int))))))) → (Option (Int × Bool)) :=
 (fun (((i0, l1), i2, l3) : ((Int × (List (Int × (Int × (Int × (List Int)))))) × (Int × (List (Int × (Int × (Int × (List Int)))))))) =>
 (F_spec_l32Alike ((i0, l1), i2, l3)).bnd (fun b4 =>
 cnd (notB b4)
 (some ((0 : Int), false))
 (joinK ((fulI 0 1 (lenN (((1 : Int) :: ([] : List Int))))).bnd (fun _ =>
 loopT NN (fun (((l5, i6, i7), (i8, l9), (i10, l11), (i12, i13), l14) : (((List (Int × (Int × (Int × (List Int))))) × (Int × Int)) × ((Int × (List (Int × (Int × (Int × (List Int)))))) × ((Int × (List (Int × (Int × (Int × (List Int)))))) × ((Int × Int) × (List Int)))))) =>
 cnd (ltI i7 i6)
 (joinK ((getI l5 i7).bnd (fun (i15, i16, i17, l18) =>
 (getI l11 i7).bnd (fun (i19, i20, i21, l22) =>
 (F_spec_l31New (i17, i21)).bnd (fun (i23, i24, l25) =>
 joinK ((fulI 0 (lenN l14) (lenN l14)).bnd (fun _ =>
 (fulI 0 (lenN l25) (lenN l25)).bnd (fun _ =>
 loopT NN (fun (((i26, i27, l28, i29, i30), (i31, l32), (i33, l34), (i35, i36), (i37, i38, i39, l40), (i41, i42), l43, l44) : ((Int × (Int × ((List (Int × (Int × (Int × (List Int))))) × (Int × Int)))) × ((Int × (List (Int × (Int × (Int × (List Int)))))) × ((Int × (List (Int × (Int × (Int × (List Int)))))) × ((Int × Int) × ((Int × (Int × (Int × (List Int)))) × ((Int × Int) × ((List Int) × (List Int))))))))) =>
 cnd (ltI i27 i38)
 (joinK ((F_spec_l32At ((i37, i38, i39, l40), i27)).bnd (fun (i45, i46, l47) =>
 (winI l47 0 (lenN l47)).bnd (fun l48 =>
 (F_spec_l31Turn (i45, i46, l48)).bnd (fun (i49, i50, l51) =>
 (winI l51 0 (lenN l51)).bnd (fun l52 =>
 (winI l43 0 (lenN l43)).bnd (fun l53 =>
 (F_spec_l31Mul (i31, (i49, i50, l52), i35, i36, l53)).bnd (fun (i54, i55, l56) =>
 (getI l34 i26).bnd (fun (i57, i58, i59, l60) =>
 (F_spec_l32At ((i57, i58, i59, l60), i27)).bnd (fun (i61, i62, l63) =>
 (winI l56 0 (lenN l56)).bnd (fun l64 =>
 (winI l63 0 (lenN l63)).bnd (fun l65 =>
 (F_spec_l31Mul (i31, (i54, i55, l64), i61, i62, l65)).bnd (fun (i66, i67, l68) =>
 (fulI 0 (lenN l43) (lenN l43)).bnd (fun _ =>
 (fulI 0 (lenN l44) (lenN l44)).bnd (fun _ =>
 (fulI 0 (lenN l68) (lenN l68)).bnd (fun _ =>
 loopT NN (fun (((i69, i70, l71, i72, i73, i74, i75), (i76, l77), (i78, l79), (i80, i81), (i82, i83, i84, l85), (i86, i87), (i88, i89), l90, l91, l92) : ((Int × (Int × ((List (Int × (Int × (Int × (List Int))))) × (Int × (Int × (Int × Int)))))) × ((Int × (List (Int × (Int × (Int × (List Int)))))) × ((Int × (List (Int × (Int × (Int × (List Int)))))) × ((Int × Int) × ((Int × (Int × (Int × (List Int)))) × ((Int × Int) × ((Int × Int) × ((List Int) × ((List Int) × (List Int))))))))))) =>
 cnd (ltI i75 i74)
 ((chkI i75 (lenN l91)).bnd (fun k93 =>
 (getN l91 (addN 0 k93)).bnd (fun i94 =>
 (chkI i75 (lenN l92)).bnd (fun k95 =>
 (getN l92 (addN 0 k95)).bnd (fun i96 =>
 (remI (addI .i64 i94 i96) i76).bnd (fun i97 =>
 (chkI i75 (lenN l91)).bnd (fun k98 =>
 (getN l91 (addN 0 k98)).bnd (fun i99 =>
 (fulI 0 (lenN l90) (lenN l90)).bnd (fun _ =>
 (fulI 0 (lenN l91) (lenN (setL l91 (addN 0 k98) i97))).bnd (fun _ =>
 (fulI 0 (lenN l92) (lenN l92)).bnd (fun _ =>
 some (Sum.inl ((i69, i70, l71, i72, i73, i74, addI .i64 i75 1), (i76, l77), (i78, l79), (i80, i81), (i82, i83, i84, l85), (i86, i87), (i88, i89), l90, setL l91 (addN 0 k98) i97, l92)))))))))))))
 (((fulI 0 (lenN l90) (lenN l90)).bnd (fun _ =>
 (fulI 0 (lenN l91) (lenN l91)).bnd (fun _ =>
 some (Sum.inl ((i70, i69, l71, i72, i73), (i76, l77), (i78, l79), (i80, i81), (i82, i83, i84, l85), (i86, i87), l90, l91))))).bnd (fun l100 =>
 some (Sum.inr l100))))
 ((i26, i27, l28, i29, i30, natI (lenN l68), (0 : Int)), (i31, l32), (i33, l34), (i35, i36), (i37, i38, i39, l40), (i41, i42), (i66, i67), l43, l44, l68))))))))))))))))
 (fun ((i101, i102, l103, i104, i105), (i106, l107), (i108, l109), (i110, i111), (i112, i113, i114, l115), (i116, i117), l118, l119) =>
 (fulI 0 (lenN l118) (lenN l118)).bnd (fun _ =>
 (fulI 0 (lenN l119) (lenN l119)).bnd (fun _ =>
 some (Sum.inl ((i102, addI .i64 i101 1, l103, i104, i105), (i106, l107), (i108, l109), (i110, i111), (i112, i113, i114, l115), (i116, i117), l118, l119))))))
 (((fulI 0 (lenN l43) (lenN l43)).bnd (fun _ =>
 (fulI 0 (lenN l44) (lenN l44)).bnd (fun _ =>
 some (Sum.inl ((i30, l28, i29), (i31, l32), (i33, l34), (i35, i36), (i41, i42), l43, l44))))).bnd (fun l120 =>
 some (Sum.inr l120))))
 ((i7, (0 : Int), l5, i6, i7), (i8, l9), (i10, l11), (i12, i13), (i15, i16, i17, l18), (i23, i24), l14, l25))))
 (fun ((i121, l122, i123), (i124, l125), (i126, l127), (i128, i129), (i130, i131), l132, l133) =>
 (fulI 0 (lenN l133) (lenN l133)).bnd (fun _ =>
 some (Sum.inl ((i121, l122, i123), (i124, l125), (i126, l127), (i130, i131), l133))))))))
 (fun ((i134, l135, i136), (i137, l138), (i139, l140), (i141, i142), l143) =>
 (fulI 0 (lenN l143) (lenN l143)).bnd (fun _ =>
 some (Sum.inl ((l135, i136, addI .i64 i134 1), (i137, l138), (i139, l140), (i141, i142), l143)))))
 (((fulI 0 (lenN l14) (lenN l14)).bnd (fun _ =>
 some (Sum.inl ((i12, i13), l14)))).bnd (fun l144 =>
 some (Sum.inr l144))))
 ((l1, natI (lenN l1), (0 : Int)), (i0, l1), (i2, l3), ((1 : Int), (1 : Int)), ((1 : Int) :: ([] : List Int)))))
 (fun ((i145, i146), l147) =>
 (chkI (0 : Int) (lenN l147)).bnd (fun k148 =>
 (getN l147 (addN 0 k148)).bnd (fun i149 =>
 some (i149, true)))))))


def G_impl_InnerChains (NN : Nat) : ((Int × (List (Int × (Int × (Int × (List Int)))))) × (Int × (List (Int × (Int × (Int × (List Int))))))) → (Option (Int × Bool)) :=
 (fun (((i0, l1), i2, l3) : ((Int × (List (Int × (Int × (Int × (List Int)))))) × (Int × (List (Int × (Int × (Int × (List Int)))))))) =>
 (F_impl_sameShape ((i0, l1), i2, l3)).bnd (fun b4 =>
 cnd (notB b4)
 (some ((0 : Int), false))
 (joinK ((fulI 0 1 (lenN (((1 : Int) :: ([] : List Int))))).bnd (fun _ =>
 loopT NN (fun (((i5, l6, i7, i8), (i9, l10), (i11, i12), l13) : ((Int × ((List (Int × (Int × (Int × (List Int))))) × (Int × Int))) × ((Int × (List (Int × (Int × (Int × (List Int)))))) × ((Int × Int) × (List Int))))) =>
 cnd (ltI i8 i7)
 (joinK ((getI l6 i8).bnd (fun (i14, i15, i16, l17) =>
 (getI l10 i8).bnd (fun (i18, i19, i20, l21) =>
 (F_impl_emptyMatrix (i16, i20)).bnd (fun (i22, i23, l24) =>
 joinK ((fulI 0 (lenN l13) (lenN l13)).bnd (fun _ =>
 (fulI 0 (lenN l24) (lenN l24)).bnd (fun _ =>
 loopT NN (fun (((i25, i26, l27, i28, i29), (i30, l31), (i32, i33), (i34, i35, i36, l37), (i38, i39, i40, l41), (i42, i43), l44, l45) : ((Int × (Int × ((List (Int × (Int × (Int × (List Int))))) × (Int × Int)))) × ((Int × (List (Int × (Int × (Int × (List Int)))))) × ((Int × Int) × ((Int × (Int × (Int × (List Int)))) × ((Int × (Int × (Int × (List Int)))) × ((Int × Int) × ((List Int) × (List Int))))))))) =>
 cnd (ltI i26 i35)
 (joinK ((F_impl_valueMatrix ((i34, i35, i36, l37), i26)).bnd (fun (i46, i47, l48) =>
 (winI l48 0 (lenN l48)).bnd (fun l49 =>
 (F_impl_rawTranspose (i46, i47, l49)).bnd (fun (i50, i51, l52) =>
 (winI l52 0 (lenN l52)).bnd (fun l53 =>
 (winI l44 0 (lenN l44)).bnd (fun l54 =>
 (F_impl_rawMulMatrix (i25, (i50, i51, l53), i32, i33, l54)).bnd (fun (i55, i56, l57) =>
 (F_impl_valueMatrix ((i38, i39, i40, l41), i26)).bnd (fun (i58, i59, l60) =>
 (winI l57 0 (lenN l57)).bnd (fun l61 =>
 (winI l60 0 (lenN l60)).bnd (fun l62 =>
 (F_impl_rawMulMatrix (i25, (i55, i56, l61), i58, i59, l62)).bnd (fun (i63, i64, l65) =>
 (fulI 0 (lenN l65) (lenN l65)).bnd (fun _ =>
 (fulI 0 (lenN l44) (lenN l44)).bnd (fun _ =>
 (fulI 0 (lenN l45) (lenN l45)).bnd (fun _ =>
 loopT NN (fun (((i66, i67, l68, i69, i70, i71, i72), (i73, l74), (i75, i76), (i77, i78, i79, l80), (i81, i82, i83, l84), (i85, i86), l87, l88, l89) : ((Int × (Int × ((List (Int × (Int × (Int × (List Int))))) × (Int × (Int × (Int × Int)))))) × ((Int × (List (Int × (Int × (Int × (List Int)))))) × ((Int × Int) × ((Int × (Int × (Int × (List Int)))) × ((Int × (Int × (Int × (List Int)))) × ((Int × Int) × ((List Int) × ((List Int) × (List Int)))))))))) =>
 cnd (ltI i72 i71)
 ((chkI i72 (lenN l89)).bnd (fun k90 =>
 (getN l89 (addN 0 k90)).bnd (fun i91 =>
 (chkI i72 (lenN l88)).bnd (fun k92 =>
 (getN l88 (addN 0 k92)).bnd (fun i93 =>
 (remI (addI .i64 i93 i91) i66).bnd (fun i94 =>
 (chkI i72 (lenN l88)).bnd (fun k95 =>
 (getN l88 (addN 0 k95)).bnd (fun i96 =>
 (fulI 0 (lenN l89) (lenN l89)).bnd (fun _ =>
 (fulI 0 (lenN l87) (lenN l87)).bnd (fun _ =>
 (fulI 0 (lenN l88) (lenN (setL l88 (addN 0 k95) i94))).bnd (fun _ =>
 some (Sum.inl ((i66, i67, l68, i69, i70, i71, addI .i64 i72 1), (i73, l74), (i75, i76), (i77, i78, i79, l80), (i81, i82, i83, l84), (i85, i86), l87, setL l88 (addN 0 k95) i94, l89)))))))))))))
 (((fulI 0 (lenN l87) (lenN l87)).bnd (fun _ =>
 (fulI 0 (lenN l88) (lenN l88)).bnd (fun _ =>
 some (Sum.inl ((i67, i66, l68, i69, i70), (i73, l74), (i75, i76), (i77, i78, i79, l80), (i81, i82, i83, l84), (i85, i86), l87, l88))))).bnd (fun l97 =>
 some (Sum.inr l97))))
 ((i25, i26, l27, i28, i29, natI (lenN l65), (0 : Int)), (i30, l31), (i32, i33), (i34, i35, i36, l37), (i38, i39, i40, l41), (i42, i43), l44, l45, l65)))))))))))))))
 (fun ((i98, i99, l100, i101, i102), (i103, l104), (i105, i106), (i107, i108, i109, l110), (i111, i112, i113, l114), (i115, i116), l117, l118) =>
 (fulI 0 (lenN l117) (lenN l117)).bnd (fun _ =>
 (fulI 0 (lenN l118) (lenN l118)).bnd (fun _ =>
 some (Sum.inl ((i99, addI .i64 i98 1, l100, i101, i102), (i103, l104), (i105, i106), (i107, i108, i109, l110), (i111, i112, i113, l114), (i115, i116), l117, l118))))))
 (((fulI 0 (lenN l44) (lenN l44)).bnd (fun _ =>
 (fulI 0 (lenN l45) (lenN l45)).bnd (fun _ =>
 some (Sum.inl ((i29, i25, l27, i28), (i30, l31), (i32, i33), (i42, i43), l44, l45))))).bnd (fun l119 =>
 some (Sum.inr l119))))
 ((i5, (0 : Int), l6, i7, i8), (i9, l10), (i11, i12), (i14, i15, i16, l17), (i18, i19, i20, l21), (i22, i23), l13, l24))))
 (fun ((i120, i121, l122, i123), (i124, l125), (i126, i127), (i128, i129), l130, l131) =>
 (fulI 0 (lenN l131) (lenN l131)).bnd (fun _ =>
 some (Sum.inl ((i120, i121, l122, i123), (i124, l125), (i128, i129), l131))))))))
 (fun ((i132, i133, l134, i135), (i136, l137), (i138, i139), l140) =>
 (fulI 0 (lenN l140) (lenN l140)).bnd (fun _ =>
 some (Sum.inl ((i133, l134, i135, addI .i64 i132 1), (i136, l137), (i138, i139), l140)))))
 (((fulI 0 (lenN l13) (lenN l13)).bnd (fun _ =>
 some (Sum.inl ((i11, i12), l13)))).bnd (fun l141 =>
 some (Sum.inr l141))))
 ((i0, l1, natI (lenN l1), (0 : Int)), (i2, l3), ((1 : Int), (1 : Int)), ((1 : Int) :: ([] : List Int)))))
 (fun ((i142, i143), l144) =>
 (chkI (0 : Int) (lenN l144)).bnd (fun k145 =>
 (getN l144 (addN 0 k145)).bnd (fun i146 =>
 some (i146, true)))))))


theorem eqL_iff {x y : List Int} (h : x.length = y.length) : (x = y) ↔ ∀ k, k < x.length → x.getD k 0 = y.getD (0 + k) 0 := by
  constructor
  · rintro rfl k _; rw [Nat.zero_add]
  · intro h1
    apply List.ext_getElem?
    intro k
    by_cases hk : k < x.length
    · have := h1 k hk
      rw [Nat.zero_add] at this
      rw [getD_some 0 hk, getD_some 0 (show k < y.length by omega), this]
    · rw [List.getElem?_eq_none (by omega), List.getElem?_eq_none (by omega)]

theorem f_impl_equalInts (x : List Int × List Int) (y : Bool) (h : F_impl_equalInts x = some y) : G_impl_equalInts FUEL x = some y := by
  obtain ⟨D, ix⟩ := x
  simp only [F_impl_equalInts, F_spec_l06Equal] at h
  split at h
  · rename_i hc
    obtain ⟨h1, h2⟩ := hc
    rw [← h]
    simp only [G_impl_equalInts]
    by_cases hl : D.length = ix.length
    · rw [cnd_f (neI_f (by simp only [nl, hl]))]
      rw [loopT_foldO' D (fun (_ : Unit) i => (D, ix, natI (lenN D), (i : Int))) (fun _ _ => True) (fun i _ v => if decide (v = ix.getD i 0) = true then some () else none) (Sum.inr false) (fun _ => Sum.inl ()) ?_ ?_ ?_ (s := ()) trivial ?_ (FUEL_gt (by omega))]
      · rw [foldO_all (fun i v => decide (v = ix.getD i 0)) 0]
        by_cases hk : ∀ k, k < D.length → decide (D.getD k 0 = ix.getD (0 + k) 0) = true
        · rw [if_pos hk, decide_eq_true ((eqL_iff hl).2 fun k hk' => of_decide_eq_true (hk k hk'))]; rfl
        · rw [if_neg hk, decide_eq_false (fun h => hk fun k hk' => decide_eq_true ((eqL_iff hl).1 h k hk'))]; rfl
      all_goals try simp only
      · intro i _ v hv _
        have hi := lt_of_get hv
        rw [cnd_t (ltI_in hv), getI_nat, hv, bnd_s, getI_nat, getD_some 0 (show i < ix.length by omega), bnd_s]
        by_cases q : v = ix.getD i 0
        · rw [cnd_f (neI_f q), if_pos (decide_eq_true q), next_i hv (by omega)]
        · rw [cnd_t (neI_t q), if_neg (fun h => q (of_decide_eq_true h))]
      · intros; trivial
      · intro _ _
        rw [cnd_f (ltI_end D)]
      · rfl
    · rw [cnd_t (neI_t (by simp only [nl]; omega)), decide_eq_false (fun e => hl (by rw [e]))]
  · cases h

theorem f_spec_l06Equal (x : List Int × List Int) (y : Bool) (h : F_spec_l06Equal x = some y) : G_spec_l06Equal FUEL x = some y := by
  obtain ⟨D, ix⟩ := x
  simp only [F_spec_l06Equal] at h
  split at h
  · rename_i hc
    obtain ⟨h1, h2⟩ := hc
    rw [← h]
    simp only [G_spec_l06Equal]
    rw [loopT_foldO' D (fun (_ : Unit) i => (D, ix, D, natI (lenN D), (i : Int))) (fun _ _ => True) (fun i _ v => if (decide (i < ix.length) && decide (v = ix.getD i 0)) = true then some () else none) (Sum.inr false) (fun _ => Sum.inl (D, ix)) ?_ ?_ ?_ (s := ()) trivial ?_ (FUEL_gt (by omega))]
    · rw [foldO_all (fun i v => decide (i < ix.length) && decide (v = ix.getD i 0)) 0]
      by_cases hl : D.length = ix.length
      · by_cases hk : ∀ k, k < D.length → (decide (0 + k < ix.length) && decide (D.getD k 0 = ix.getD (0 + k) 0)) = true
        · rw [if_pos hk, decide_eq_true ((eqL_iff hl).2 fun k hk' => by have := hk k hk'; simp only [Bool.and_eq_true, decide_eq_true_eq] at this; exact this.2)]
          simp only [joinK_l]
          rw [eqI_t (by simp only [nl, hl])]
        · rw [if_neg hk, decide_eq_false (fun h => hk fun k hk' => by simp only [Bool.and_eq_true, decide_eq_true_eq]; exact ⟨by omega, (eqL_iff hl).1 h k hk'⟩)]; rfl
      · rw [decide_eq_false (fun e => hl (by rw [e]))]
        split
        · simp only [joinK_l]
          rw [eqI_f (by simp only [nl]; omega)]
        · rfl
    all_goals try simp only
    · intro i _ v hv _
      have hi := lt_of_get hv
      rw [cnd_t (ltI_in hv), getI_nat, hv, bnd_s]
      by_cases hk : i < ix.length
      · rw [cnd_f (leI_f (by rw [nl]; omega)), getI_nat, getD_some 0 hk, bnd_s]
        by_cases q : v = ix.getD i 0
        · rw [cnd_f (neI_f q.symm), if_pos (by rw [decide_eq_true hk, decide_eq_true q]; rfl), next_i hv (by omega)]
        · rw [cnd_t (neI_t (fun e => q e.symm)), if_neg (by rw [decide_eq_true hk, decide_eq_false q]; simp)]
      · rw [cnd_t (leI_t (by rw [nl]; omega)), if_neg (by rw [decide_eq_false hk]; simp)]
    · intros; trivial
    · intro _ _
      rw [cnd_f (ltI_end D)]
    · rfl
  · cases h

theorem f_spec_l32Alike (x : (Int × List Site) × (Int × List Site)) (y : Bool) (h : F_spec_l32Alike x = some y) : G_spec_l32Alike FUEL x = some y := by
  obtain ⟨⟨m, l⟩, m', l'⟩ := x
  simp only [F_spec_l32Alike] at h
  split at h
  · rename_i hc
    obtain ⟨h1, h2⟩ := hc
    rw [← h]
    have hl := (sz_Chain_le h1).1
    have hl' := (sz_Chain_le h2).1
    simp only [G_spec_l32Alike, chAlike]
    rw [show F_spec_ChainOk (m, l) = some (chainOk (m, l)) from if_pos h1, bnd_s]
    cases chainOk (m, l) with
    | false => rfl
    | true =>
      rw [cnd_t (by rfl), show F_spec_ChainOk (m', l') = some (chainOk (m', l')) from if_pos h2, bnd_s]
      cases chainOk (m', l') with
      | false => rfl
      | true =>
        rw [cnd_t (by rfl)]
        by_cases e : m = m'
        · rw [cnd_t (eqI_t e), show F_spec_l32Dims (m, l) = some (dimsOf l) from if_pos hl, bnd_s, show F_spec_l32Dims (m', l') = some (dimsOf l') from if_pos hl', bnd_s, winI_id, bnd_s, winI_id, bnd_s,
            show F_spec_l06Equal (dimsOf l, dimsOf l') = some (decide (dimsOf l = dimsOf l')) from if_pos ⟨by rw [dims_len]; exact hl, by rw [dims_len]; exact hl'⟩, bnd_s, decide_eq_true e]
          rfl
        · rw [cnd_f (eqI_f e), decide_eq_false e]; rfl
  · cases h

theorem f_impl_sameShape (x : (Int × List Site) × (Int × List Site)) (y : Bool) (h : F_impl_sameShape x = some y) : G_impl_sameShape FUEL x = some y := by
  obtain ⟨⟨m, l⟩, m', l'⟩ := x
  simp only [F_impl_sameShape, F_spec_l32Alike] at h
  split at h
  · rename_i hc
    obtain ⟨h1, h2⟩ := hc
    rw [← h]
    have hl := (sz_Chain_le h1).1
    have hl' := (sz_Chain_le h2).1
    simp only [G_impl_sameShape, chAlike]
    rw [show F_impl_ChainOk (m, l) = some (chainOk (m, l)) from if_pos h1, bnd_s]
    cases chainOk (m, l) with
    | false => rfl
    | true =>
      rw [cnd_t (by rfl), show F_impl_ChainOk (m', l') = some (chainOk (m', l')) from if_pos h2, bnd_s]
      cases chainOk (m', l') with
      | false => rfl
      | true =>
        rw [cnd_t (by rfl)]
        by_cases e : m = m'
        · rw [cnd_t (eqI_t e), show F_impl_chainDims (m, l) = some (dimsOf l) from if_pos hl, bnd_s, show F_impl_chainDims (m', l') = some (dimsOf l') from if_pos hl', bnd_s, winI_id, bnd_s, winI_id, bnd_s,
            show F_impl_equalInts (dimsOf l, dimsOf l') = some (decide (dimsOf l = dimsOf l')) from if_pos ⟨by rw [dims_len]; exact hl, by rw [dims_len]; exact hl'⟩, bnd_s, decide_eq_true e]
          rfl
        · rw [cnd_f (eqI_f e), decide_eq_false e]; rfl
  · cases h

theorem f_impl_valueMatrix (x : Site × Int) (y : Int × Int × List Int) (h : F_impl_valueMatrix x = some y) : G_impl_valueMatrix FUEL x = some y := by
  obtain ⟨s, v⟩ := x
  simp only [F_impl_valueMatrix, F_spec_l32At] at h
  split at h
  · rename_i hc
    obtain ⟨hs, hv⟩ := hc
    obtain ⟨a, p, c, M, rfl, ha, hp, hc, eM⟩ := siteG_gen hs
    obtain ⟨v, rfl⟩ := natI_eq hv.1
    rw [← h, siteV_gen eM]
    simp only [Int.toNat_natCast]
    have hv' : v < p := by have := hv.2; simp only at this; omega
    have hac : a * c ≤ 64 * 64 := Nat.mul_le_mul ha hc
    generalize hW : (fun i j => M (i * p + v) j : Mat) = W
    simp only [G_impl_valueMatrix, newI_nat (r := a) (c := c) (by omega) (by omega) (by omega), bnd_s, fulI_id]
    rw [show fulI 0 0 (lenN ([] : List Int)) = some () from rfl, bnd_s]
    rw [loopT_seq (fun i => (((v : Int), (i : Int)), ((a : Int), (p : Int), (c : Int), genD (a * p) c M), ((0 : Int), (0 : Int)), ((a : Int), (c : Int)), ([] : List Int), genD a c (mulTo W i 0))) (r := Sum.inl (((0 : Int), (0 : Int)), ((a : Int), (c : Int)), ([] : List Int), genD a c W)) a ?_ ?_ ?_ (FUEL_gt (by omega))]
    · rw [joinK_l]; simp only [takI_id, bnd_s]
    · intro i hi
      simp only
      rw [cnd_t (ltN_t hi)]
      rw [loopT_seq (fun j => (((v : Int), (i : Int), (j : Int)), ((a : Int), (p : Int), (c : Int), genD (a * p) c M), ((0 : Int), (0 : Int)), ((a : Int), (c : Int)), ([] : List Int), genD a c (mulTo W i j))) (r := Sum.inl (((i : Int), (v : Int)), ((a : Int), (p : Int), (c : Int), genD (a * p) c M), ((0 : Int), (0 : Int)), ((a : Int), (c : Int)), ([] : List Int), genD a c (mulTo W (i + 1) 0))) c ?_ ?_ ?_ (FUEL_gt (by omega))]
      · rw [joinK_l]; simp only [addN1 (show i ≤ 1048577 by omega)]
      · intro j hj
        simp only
        rw [cnd_t (ltN_t hj), siteAt_nat ha hp hc eM hi hv' hj, bnd_s, set_nat (by omega) (by omega) (by omega) hi hj, bnd_s]
        rw [show M (i * p + v) j = W i j by rw [← hW], mul_step]
        simp only [fulI_gen, bnd_s, addN1 (show j ≤ 1048577 by omega)]
      · simp only
        rw [cnd_f (ltN_f (Nat.le_refl c)), mul_row]
      · rfl
    · simp only
      rw [cnd_f (ltN_f (Nat.le_refl a)), mul_end]
    · rw [mul_0]; rfl
  · cases h


theorem genD_row (r c : Nat) (M : Mat) : genD r c M = rowL (r * c) fun n => M (n / c) (n % c) := rfl

theorem addV_in {m : Int} (hm : pOk m) (X : Nat → Mat) : ∀ v i j, inP m (addV m X v i j)
  | 0, _, _ => ⟨Int.le_refl _, by have := hm.1; show (0 : Int) < m; omega⟩
  | v + 1, _, _ => emod_in hm _

theorem innN_in {m : Int} (hm : pOk m) (l l' : List Site) : ∀ i a b, inP m (innN m l l' i a b)
  | 0, _, _ => ⟨by show (0 : Int) ≤ 1; omega, by have := hm.1; show (1 : Int) < m; omega⟩
  | i + 1, _, _ => addV_in hm _ _ _ _

def addTo (m : Int) (N X : Nat → Int) (k : Nat) : Nat → Int := fun q => if q < k then (N q + X q) % m else N q

theorem addTo_0 (m : Int) (n : Nat) (N X : Nat → Int) : rowL n (addTo m N X 0) = rowL n N := rowL_congr fun q _ => by simp [addTo]
theorem addTo_end (m : Int) (n : Nat) (N X : Nat → Int) : rowL n (addTo m N X n) = rowL n fun q => (N q + X q) % m := rowL_congr fun q hq => by simp [addTo, hq]
theorem addTo_at (m : Int) (N X : Nat → Int) (k : Nat) : addTo m N X k k = N k := by simp [addTo]
theorem addTo_set {m : Int} {n k : Nat} (N X : Nat → Int) : setL (rowL n (addTo m N X k)) k ((N k + X k) % m) = rowL n (addTo m N X (k + 1)) := by
  rw [rowL_set]
  refine rowL_congr fun q _ => ?_
  unfold addTo
  by_cases e : q = k
  · subst e; simp
  · by_cases h : q < k
    · rw [if_neg e, if_pos h, if_pos (by omega)]
    · rw [if_neg e, if_neg h, if_neg (by omega)]
theorem addR {m a b : Int} (hm : pOk m) (ha : inP m a) (hb : inP m b) : remI (addI .i64 a b) m = some ((a + b) % m) := by
  obtain ⟨a1, a2⟩ := ha
  obtain ⟨b1, b2⟩ := hb
  have := hm.2
  have := hm.1
  rw [addI_eq (by omega) (by omega), remN (by omega) (by omega)]

theorem alike_t {m m' : Int} {l l' : List Site} (h : chAlike (m, l) (m', l') = true) : chainOk (m, l) = true ∧ chainOk (m', l') = true ∧ m = m' ∧ dimsOf l = dimsOf l' ∧ l.length = l'.length := by
  simp only [chAlike, Bool.and_eq_true, decide_eq_true_eq] at h
  obtain ⟨h1, h2, h3, h4⟩ := h
  exact ⟨h1, h2, h3, h4, by rw [← dims_len l, ← dims_len l', h4]⟩

theorem site_pair {m : Int} {l l' : List Site} (h : chAlike (m, l) (m, l') = true) {i : Nat} (hi : i < l.length) :
    ∃ (p : Nat) (M M' : Mat), l[i]? = some ((bondN l i : Int), (p : Int), (bondN l (i + 1) : Int), genD (bondN l i * p) (bondN l (i + 1)) M) ∧
      l'[i]? = some ((bondN l' i : Int), (p : Int), (bondN l' (i + 1) : Int), genD (bondN l' i * p) (bondN l' (i + 1)) M') ∧
      bondN l i ≤ 32 ∧ bondN l (i + 1) ≤ 32 ∧ bondN l' i ≤ 32 ∧ bondN l' (i + 1) ≤ 32 ∧ p ≤ 8 ∧ inM m (bondN l i * p) (bondN l (i + 1)) M ∧ inM m (bondN l' i * p) (bondN l' (i + 1)) M' ∧
      M = ofD (bondN l (i + 1)) (genD (bondN l i * p) (bondN l (i + 1)) M) ∧ M' = ofD (bondN l' (i + 1)) (genD (bondN l' i * p) (bondN l' (i + 1)) M') ∧
      innN m l l' (i + 1) = addV m (fun v => mulF m (bondN l' i) (mulF m (bondN l i) (turnF (fun i j => M (i * p + v) j)) (innN m l l' i)) (fun i j => M' (i * p + v) j)) p := by
  obtain ⟨h1, h2, _, h4, h5⟩ := alike_t h
  obtain ⟨_, _, _, _, s1⟩ := chainOk_t h1
  obtain ⟨_, _, _, _, s2⟩ := chainOk_t h2
  obtain ⟨p, M, e, a1, a2, a3, a4, a5⟩ := s1 i hi
  obtain ⟨p', M', e', b1, b2, b3, b4, b5⟩ := s2 i (by omega)
  have hp : p = p' := by
    have q1 := dims_getD l i
    have q2 := dims_getD l' i
    rw [h4, q2, e, e'] at q1
    simp only at q1
    omega
  subst hp
  refine ⟨p, M, M', by rw [getD_some site0 hi, e], by rw [getD_some site0 (show i < l'.length by omega), e'], a1, a2, b1, b2, a3.2, a4, b4, a5, b5, ?_⟩
  have hx : ∀ v, innX m (l.getD i site0) (l'.getD i site0) (innN m l l' i) v = mulF m (bondN l' i) (mulF m (bondN l i) (turnF (fun i j => M (i * p + v) j)) (innN m l l' i)) (fun i j => M' (i * p + v) j) := fun v => by
    rw [innX, e, e', siteV_gen a5, siteV_gen b5]
    simp only [Int.toNat_natCast]
  rw [innN, e]
  simp only [Int.toNat_natCast]
  congr 1
  funext v
  rw [← hx, e, e']

/-- One value's product. -/
theorem inn_mul {m : Int} {b p c b' c' v : Nat} {M M' E : Mat} (hm : pOk m) (h1 : b ≤ 32) (h2 : c ≤ 32) (h3 : b' ≤ 32) (h4 : c' ≤ 32) (hp : p ≤ 8) (hM : inM m (b * p) c M) (hM' : inM m (b' * p) c' M') (hE : ∀ i j, inP m (E i j)) (hv : v < p) :
    F_spec_l31Mul (m, ((c : Int), (b : Int), genD c b (turnF (fun i j => M (i * p + v) j))), ((b : Int), (b' : Int), genD b b' E)) = some ((c : Int), (b' : Int), genD c b' (mulF m b (turnF (fun i j => M (i * p + v) j)) E)) ∧
    F_spec_l31Mul (m, ((c : Int), (b' : Int), genD c b' (mulF m b (turnF (fun i j => M (i * p + v) j)) E)), ((b' : Int), (c' : Int), genD b' c' (fun i j => M' (i * p + v) j))) = some ((c : Int), (c' : Int), genD c c' (mulF m b' (mulF m b (turnF (fun i j => M (i * p + v) j)) E) (fun i j => M' (i * p + v) j))) := by
  have q1 : c * b ≤ 32 * 32 := Nat.mul_le_mul h2 h1
  have q2 : b * b' ≤ 32 * 32 := Nat.mul_le_mul h1 h3
  have q3 : c * b' ≤ 32 * 32 := Nat.mul_le_mul h2 h3
  have q4 : b' * c' ≤ 32 * 32 := Nat.mul_le_mul h3 h4
  have q5 : c * c' ≤ 32 * 32 := Nat.mul_le_mul h2 h4
  exact ⟨mulS_nat hm (by omega) (by omega) (by omega) (by omega) (by omega) (by omega) (fun i hi j hj => row_in hM hv hj hi) (fun i _ j _ => hE i j),
    mulS_nat hm (by omega) (by omega) (by omega) (by omega) (by omega) (by omega) (fun i _ j _ => dotF_in hm _ _ _) (fun i hi j hj => row_in hM' hv hi hj)⟩

theorem f_spec_InnerChains (x : (Int × List Site) × (Int × List Site)) (y : Int × Bool) (h : F_spec_InnerChains x = some y) : G_spec_InnerChains FUEL x = some y := by
  obtain ⟨⟨m, l⟩, m', l'⟩ := x
  simp only [F_spec_InnerChains] at h
  split at h
  · rename_i hc
    rw [← h]
    simp only [G_spec_InnerChains, innR]
    rw [show F_spec_l32Alike ((m, l), (m', l')) = some (chAlike (m, l) (m', l')) from if_pos hc, bnd_s]
    cases hk : chAlike (m, l) (m', l') with
    | false => rw [cnd_t (by rfl), if_neg (by simp)]
    | true =>
      rw [cnd_f (by rfl), if_pos rfl]
      obtain ⟨k1, k2, rfl, k4, k5⟩ := alike_t hk
      obtain ⟨hm, hl, _, hb, _⟩ := chainOk_t k1
      obtain ⟨_, hl', _, hb', _⟩ := chainOk_t k2
      rw [show fulI 0 1 (lenN [(1 : Int)]) = some () from rfl, bnd_s]
      rw [loopT_seq (fun i => ((l, natI (lenN l), (i : Int)), (m, l), (m, l'), ((bondN l i : Int), (bondN l' i : Int)), genD (bondN l i) (bondN l' i) (innN m l l' i))) (r := Sum.inl (((1 : Int), (1 : Int)), genD 1 1 (innN m l l' l.length))) l.length ?_ ?_ ?_ (FUEL_gt (by omega))]
      · rw [joinK_l]
        simp only
        rw [show chkI 0 (lenN (genD 1 1 (innN m l l' l.length))) = some 0 from rfl, bnd_s, addN_0, show getN (genD 1 1 (innN m l l' l.length)) 0 = some (innN m l l' l.length 0 0) from rfl, bnd_s]
      · intro i hi
        obtain ⟨p, M, M', e1, e2, h1, h2, h3, h4, hp, hM, hM', eM, eM', hE⟩ := site_pair hk hi
        have hEin := innN_in hm l l' i
        have q5 : bondN l (i + 1) * bondN l' (i + 1) ≤ 32 * 32 := Nat.mul_le_mul h2 h4
        simp only
        rw [cnd_t (ltL_t hi), getI_nat, e1, bnd_s]
        simp only
        rw [getI_nat, e2, bnd_s, new_nat (by omega) (by omega) (by omega), bnd_s]
        simp only [fulI_id, bnd_s]
        rw [hE]
        generalize innN m l l' i = E at *
        generalize bondN l i = b at *
        generalize bondN l' i = b' at *
        generalize bondN l (i + 1) = c at *
        generalize bondN l' (i + 1) = c' at *
        generalize hX : (fun v => mulF m b' (mulF m b (turnF (fun i j => M (i * p + v) j)) E) (fun i j => M' (i * p + v) j) : Nat → Mat) = X
        rw [loopT_seq (fun v => (((i : Int), (v : Int), l, natI (lenN l), (i : Int)), (m, l), (m, l'), ((b : Int), (b' : Int)), ((b : Int), (p : Int), (c : Int), genD (b * p) c M), ((c : Int), (c' : Int)), genD b b' E, genD c c' (addV m X v))) (r := Sum.inl (((i : Int), l, natI (lenN l)), (m, l), (m, l'), ((b : Int), (b' : Int)), ((c : Int), (c' : Int)), genD b b' E, genD c c' (addV m X p))) p ?_ ?_ ?_ (FUEL_gt (by omega))]
        · rw [joinK_l]
          simp only [fulI_id, bnd_s]
          rw [joinK_l]
          simp only [fulI_id, bnd_s, addN1 (show i ≤ 1048577 by omega)]
        · intro v hv
          simp only
          rw [cnd_t (ltN_t hv), l32At_nat (by omega) (by omega) (by omega) eM hv, bnd_s]
          simp only [winI_id, bnd_s]
          rw [turn_nat (by omega) (by omega) (by have : b * c ≤ 32 * 32 := Nat.mul_le_mul h1 h2; omega), bnd_s]
          simp only [winI_id, bnd_s]
          obtain ⟨m1, m2⟩ := inn_mul hm h1 h2 h3 h4 hp hM hM' hEin hv
          rw [m1, bnd_s]
          simp only
          rw [getI_nat, e2, bnd_s]
          simp only
          rw [l32At_nat (by omega) (by omega) (by omega) eM' hv, bnd_s]
          simp only [winI_id, bnd_s]
          rw [m2, bnd_s]
          simp only [fulI_id, bnd_s]
          rw [show mulF m b' (mulF m b (turnF (fun i j => M (i * p + v) j)) E) (fun i j => M' (i * p + v) j) = X v from by rw [← hX]]
          have hXin : ∀ i j, inP m (X v i j) := fun i j => by rw [← hX]; exact dotF_in hm _ _ _
          have hVin := addV_in hm X v
          rw [loopT_seq (fun k => (((i : Int), (v : Int), l, natI (lenN l), (i : Int), natI (lenN (genD c c' (X v))), (k : Int)), (m, l), (m, l'), ((b : Int), (b' : Int)), ((b : Int), (p : Int), (c : Int), genD (b * p) c M), ((c : Int), (c' : Int)), ((c : Int), (c' : Int)), genD b b' E, rowL (c * c') (addTo m (fun n => addV m X v (n / c') (n % c')) (fun n => X v (n / c') (n % c')) k), rowL (c * c') (fun n => X v (n / c') (n % c'))))
            (r := Sum.inl (((v : Int), (i : Int), l, natI (lenN l), (i : Int)), (m, l), (m, l'), ((b : Int), (b' : Int)), ((b : Int), (p : Int), (c : Int), genD (b * p) c M), ((c : Int), (c' : Int)), genD b b' E, genD c c' (addV m X (v + 1)))) (c * c') ?_ ?_ ?_ (FUEL_gt (by omega))]
          · rw [joinK_l]
            simp only [fulI_id, bnd_s, addN1 (show v ≤ 1048577 by omega)]
          · intro k hkk
            simp only
            rw [cnd_t (by rw [genD_row, lenN_row]; exact ltN_t hkk), chkI_row _ hkk, bnd_s, addN_0, getN_row _ hkk, bnd_s, chkI_row _ hkk, bnd_s, addN_0, getN_row _ hkk, bnd_s, addTo_at, addR hm (hVin _ _) (hXin _ _), bnd_s]
            simp only [bnd_s, addN_0, getN_row _ hkk]
            rw [addTo_set (fun n => addV m X v (n / c') (n % c')) (fun n => X v (n / c') (n % c'))]
            simp only [fulI_row, fulI_id, bnd_s, addN1 (show k ≤ 1048577 by omega)]
          · simp only
            rw [cnd_f (by rw [genD_row, lenN_row]; exact ltN_f (Nat.le_refl _)), addTo_end]
            try simp only [fulI_id, bnd_s]
            rfl
          · rw [addTo_0]; rfl
        · simp only
          rw [cnd_f (ltN_f (Nat.le_refl p))]
        · rfl
      · simp only
        rw [cnd_f (ltI_end l), hb, show bondN l' l.length = 1 from by rw [k5]; exact hb']
        first | rfl | (simp only [fulI_id, bnd_s]; rfl)
      · rfl
  · cases h

theorem f_impl_InnerChains (x : (Int × List Site) × (Int × List Site)) (y : Int × Bool) (h : F_impl_InnerChains x = some y) : G_impl_InnerChains FUEL x = some y := by
  obtain ⟨⟨m, l⟩, m', l'⟩ := x
  simp only [F_impl_InnerChains, F_spec_InnerChains] at h
  split at h
  · rename_i hc
    rw [← h]
    simp only [G_impl_InnerChains, innR]
    rw [show F_impl_sameShape ((m, l), (m', l')) = some (chAlike (m, l) (m', l')) from if_pos hc, bnd_s]
    cases hk : chAlike (m, l) (m', l') with
    | false => rw [cnd_t (by rfl), if_neg (by simp)]
    | true =>
      rw [cnd_f (by rfl), if_pos rfl]
      obtain ⟨k1, k2, rfl, k4, k5⟩ := alike_t hk
      obtain ⟨hm, hl, _, hb, _⟩ := chainOk_t k1
      obtain ⟨_, hl', _, hb', _⟩ := chainOk_t k2
      rw [show fulI 0 1 (lenN [(1 : Int)]) = some () from rfl, bnd_s]
      rw [loopT_seq (fun i => ((m, l, natI (lenN l), (i : Int)), (m, l'), ((bondN l i : Int), (bondN l' i : Int)), genD (bondN l i) (bondN l' i) (innN m l l' i))) (r := Sum.inl (((1 : Int), (1 : Int)), genD 1 1 (innN m l l' l.length))) l.length ?_ ?_ ?_ (FUEL_gt (by omega))]
      · rw [joinK_l]
        simp only
        rw [show chkI 0 (lenN (genD 1 1 (innN m l l' l.length))) = some 0 from rfl, bnd_s, addN_0, show getN (genD 1 1 (innN m l l' l.length)) 0 = some (innN m l l' l.length 0 0) from rfl, bnd_s]
      · intro i hi
        obtain ⟨p, M, M', e1, e2, h1, h2, h3, h4, hp, hM, hM', eM, eM', hE⟩ := site_pair hk hi
        have hEin := innN_in hm l l' i
        have q5 : bondN l (i + 1) * bondN l' (i + 1) ≤ 32 * 32 := Nat.mul_le_mul h2 h4
        simp only
        rw [cnd_t (ltL_t hi), getI_nat, e1, bnd_s]
        simp only
        rw [getI_nat, e2, bnd_s, newI_nat (by omega) (by omega) (by omega), bnd_s]
        simp only [fulI_id, bnd_s]
        rw [hE]
        generalize innN m l l' i = E at *
        generalize bondN l i = b at *
        generalize bondN l' i = b' at *
        generalize bondN l (i + 1) = c at *
        generalize bondN l' (i + 1) = c' at *
        generalize hX : (fun v => mulF m b' (mulF m b (turnF (fun i j => M (i * p + v) j)) E) (fun i j => M' (i * p + v) j) : Nat → Mat) = X
        rw [loopT_seq (fun v => ((m, (v : Int), l, natI (lenN l), (i : Int)), (m, l'), ((b : Int), (b' : Int)), ((b : Int), (p : Int), (c : Int), genD (b * p) c M), ((b' : Int), (p : Int), (c' : Int), genD (b' * p) c' M'), ((c : Int), (c' : Int)), genD b b' E, genD c c' (addV m X v))) (r := Sum.inl (((i : Int), m, l, natI (lenN l)), (m, l'), ((b : Int), (b' : Int)), ((c : Int), (c' : Int)), genD b b' E, genD c c' (addV m X p))) p ?_ ?_ ?_ (FUEL_gt (by omega))]
        · rw [joinK_l]
          simp only [fulI_id, bnd_s]
          rw [joinK_l]
          simp only [fulI_id, bnd_s, addN1 (show i ≤ 1048577 by omega)]
        · intro v hv
          simp only
          rw [cnd_t (ltN_t hv), show F_impl_valueMatrix (((b : Int), (p : Int), (c : Int), genD (b * p) c M), (v : Int)) = _ from l32At_nat (by omega) (by omega) (by omega) eM hv, bnd_s]
          simp only [winI_id, bnd_s]
          rw [show F_impl_rawTranspose ((b : Int), (c : Int), genD b c fun i j => M (i * p + v) j) = _ from turn_nat (by omega) (by omega) (by have : b * c ≤ 32 * 32 := Nat.mul_le_mul h1 h2; omega), bnd_s]
          simp only [winI_id, bnd_s]
          obtain ⟨m1, m2⟩ := inn_mul hm h1 h2 h3 h4 hp hM hM' hEin hv
          have m1' := m1
          rw [show F_impl_rawMulMatrix (m, ((c : Int), (b : Int), genD c b (turnF (fun i j => M (i * p + v) j))), ((b : Int), (b' : Int), genD b b' E)) = _ from m1, bnd_s]
          simp only
          rw [show F_impl_valueMatrix (((b' : Int), (p : Int), (c' : Int), genD (b' * p) c' M'), (v : Int)) = _ from l32At_nat (by omega) (by omega) (by omega) eM' hv, bnd_s]
          simp only [winI_id, bnd_s]
          rw [show F_impl_rawMulMatrix (m, ((c : Int), (b' : Int), genD c b' (mulF m b (turnF (fun i j => M (i * p + v) j)) E)), ((b' : Int), (c' : Int), genD b' c' (fun i j => M' (i * p + v) j))) = _ from m2, bnd_s]
          simp only [fulI_id, bnd_s]
          rw [show mulF m b' (mulF m b (turnF (fun i j => M (i * p + v) j)) E) (fun i j => M' (i * p + v) j) = X v from by rw [← hX]]
          have hXin : ∀ i j, inP m (X v i j) := fun i j => by rw [← hX]; exact dotF_in hm _ _ _
          have hVin := addV_in hm X v
          rw [loopT_seq (fun k => ((m, (v : Int), l, natI (lenN l), (i : Int), natI (lenN (genD c c' (X v))), (k : Int)), (m, l'), ((b : Int), (b' : Int)), ((b : Int), (p : Int), (c : Int), genD (b * p) c M), ((b' : Int), (p : Int), (c' : Int), genD (b' * p) c' M'), ((c : Int), (c' : Int)), genD b b' E, rowL (c * c') (addTo m (fun n => addV m X v (n / c') (n % c')) (fun n => X v (n / c') (n % c')) k), rowL (c * c') (fun n => X v (n / c') (n % c'))))
            (r := Sum.inl (((v : Int), m, l, natI (lenN l), (i : Int)), (m, l'), ((b : Int), (b' : Int)), ((b : Int), (p : Int), (c : Int), genD (b * p) c M), ((b' : Int), (p : Int), (c' : Int), genD (b' * p) c' M'), ((c : Int), (c' : Int)), genD b b' E, genD c c' (addV m X (v + 1)))) (c * c') ?_ ?_ ?_ (FUEL_gt (by omega))]
          · rw [joinK_l]
            simp only [fulI_id, bnd_s, addN1 (show v ≤ 1048577 by omega)]
          · intro k hkk
            simp only
            rw [cnd_t (by rw [genD_row, lenN_row]; exact ltN_t hkk), chkI_row _ hkk, bnd_s, addN_0, getN_row _ hkk, bnd_s, chkI_row _ hkk, bnd_s, addN_0, getN_row _ hkk, bnd_s, addTo_at, addR hm (hVin _ _) (hXin _ _), bnd_s]
            simp only [bnd_s, addN_0, getN_row _ hkk]
            rw [addTo_set (fun n => addV m X v (n / c') (n % c')) (fun n => X v (n / c') (n % c'))]
            simp only [fulI_row, fulI_id, bnd_s, addN1 (show k ≤ 1048577 by omega)]
          · simp only
            rw [cnd_f (by rw [genD_row, lenN_row]; exact ltN_f (Nat.le_refl _)), addTo_end]
            try simp only [fulI_id, bnd_s]
            rfl
          · rw [addTo_0]; rfl
        · simp only
          rw [cnd_f (ltN_f (Nat.le_refl p))]
        · rfl
      · simp only
        rw [cnd_f (ltI_end l), hb, show bondN l' l.length = 1 from by rw [k5]; exact hb']
        first | rfl | (simp only [fulI_id, bnd_s]; rfl)
      · rfl
  · cases h
end Go.Am
end
section
namespace Go.Am

/-! ### compressed chains -/
def mulD (m : Int) (r k c : Nat) (A B : List Int) : List Int := genD r c (mulF m k (ofD k A) (ofD c B))
def F_spec_l32Copy : Int × List Site → Option (Int × List Site) := fun x => if sz_Chain x ≤ 1048576 then some x else none
def F_impl_copyChain : Int × List Site → Option (Int × List Site) := F_spec_l32Copy
def smallS (s : Site) : Prop := (0 ≤ s.1 ∧ s.1 ≤ 4096) ∧ (0 ≤ s.2.1 ∧ s.2.1 ≤ 4096) ∧ (0 ≤ s.2.2.1 ∧ s.2.2.1 ≤ 4096)
instance (s : Site) : Decidable (smallS s) := by unfold smallS; infer_instance
def ag_spec_l32Copy : Sig := [(.agg, [.int .i64, .list [.int .i64, .int .i64, .int .i64, .list [.int .i64]]])]
def rs_spec_l32Copy : Sig := [(.agg, [.int .i64, .list [.int .i64, .int .i64, .int .i64, .list [.int .i64]]])]
def mu_spec_l32Copy : MSig := []
def ag_impl_copyChain : Sig := [(.agg, [.int .i64, .list [.int .i64, .int .i64, .int .i64, .list [.int .i64]]])]
def rs_impl_copyChain : Sig := [(.agg, [.int .i64, .list [.int .i64, .int .i64, .int .i64, .list [.int .i64]]])]
def mu_impl_copyChain : MSig := []
def G_spec_l32Copy (NN : Nat) : (Int × (List (Int × (Int × (Int × (List Int)))))) → (Option (Int × (List (Int × (Int × (Int × (List Int))))))) :=
 (fun ((i0, l1) : (Int × (List (Int × (Int × (Int × (List Int))))))) =>
 joinK ((fulI 0 0 (lenN (([] : List (Int × (Int × (Int × (List Int)))))))).bnd (fun _ =>
 (fulI 0 0 (lenN (([] : List (Int × (Int × (Int × (List Int)))))))).bnd (fun _ =>
 loopT NN (fun (((l2, i3, i4), i5, i6, l7, l8) : (((List (Int × (Int × (Int × (List Int))))) × (Int × Int)) × (Int × (Int × ((List (Int × (Int × (Int × (List Int))))) × (List (Int × (Int × (Int × (List Int)))))))))) =>
 cnd (ltI i4 i3)
 ((getI l2 i4).bnd (fun (i9, i10, i11, l12) =>
 (F_spec_l05Ints l12).bnd (fun l13 =>
 (takI l13 (lenN l13)).bnd (fun l14 =>
 (fulI 0 (lenN l8) (lenN l8)).bnd (fun _ =>
 (fulI 0 1 (lenN (((i9, i10, i11, l14) :: ([] : List (Int × (Int × (Int × (List Int))))))))).bnd (fun _ =>
 (fitI (addN (lenN l8) (lenN (((i9, i10, i11, l14) :: ([] : List (Int × (Int × (Int × (List Int))))))))) 48).bnd (fun _ =>
 (fulI 0 (lenN l7) (lenN l7)).bnd (fun _ =>
 (fulI 0 (addN (lenN l8) (lenN (((i9, i10, i11, l14) :: ([] : List (Int × (Int × (Int × (List Int))))))))) (lenN (appL l8 (((i9, i10, i11, l14) :: ([] : List (Int × (Int × (Int × (List Int)))))))))).bnd (fun _ =>
 some (Sum.inl ((l2, i3, addI .i64 i4 1), i5, i6, l7, appL l8 (((i9, i10, i11, l14) :: ([] : List (Int × (Int × (Int × (List Int))))))))))))))))))
 (((fulI 0 (lenN l7) (lenN l7)).bnd (fun _ =>
 (fulI 0 (lenN l8) (lenN l8)).bnd (fun _ =>
 some (Sum.inl (i5, i6, l7, l8))))).bnd (fun l15 =>
 some (Sum.inr l15))))
 ((l1, natI (lenN l1), (0 : Int)), (0 : Int), i0, ([] : List (Int × (Int × (Int × (List Int))))), ([] : List (Int × (Int × (Int × (List Int)))))))))
 (fun (i16, i17, l18, l19) =>
 (takI l19 (lenN l19)).bnd (fun l20 =>
 some (i17, l20))))


def G_impl_copyChain (NN : Nat) : (Int × (List (Int × (Int × (Int × (List Int)))))) → (Option (Int × (List (Int × (Int × (Int × (List Int))))))) :=
 (fun ((i0, l1) : (Int × (List (Int × (Int × (Int × (List Int))))))) =>
 joinK ((fulI 0 0 (lenN (([] : List (Int × (Int × (Int × (List Int)))))))).bnd (fun _ =>
 (fulI 0 0 (lenN (([] : List (Int × (Int × (Int × (List Int)))))))).bnd (fun _ =>
 loopT NN (fun (((l2, i3, i4), i5, i6, l7, l8) : (((List (Int × (Int × (Int × (List Int))))) × (Int × Int)) × (Int × (Int × ((List (Int × (Int × (Int × (List Int))))) × (List (Int × (Int × (Int × (List Int)))))))))) =>
 cnd (ltI i4 i3)
 ((getI l2 i4).bnd (fun (i9, i10, i11, l12) =>
 (F_impl_copyInts l12).bnd (fun l13 =>
 (takI l13 (lenN l13)).bnd (fun l14 =>
 (fulI 0 (lenN l8) (lenN l8)).bnd (fun _ =>
 (fulI 0 1 (lenN (((i9, i10, i11, l14) :: ([] : List (Int × (Int × (Int × (List Int))))))))).bnd (fun _ =>
 (fitI (addN (lenN l8) (lenN (((i9, i10, i11, l14) :: ([] : List (Int × (Int × (Int × (List Int))))))))) 48).bnd (fun _ =>
 (fulI 0 (lenN l7) (lenN l7)).bnd (fun _ =>
 (fulI 0 (addN (lenN l8) (lenN (((i9, i10, i11, l14) :: ([] : List (Int × (Int × (Int × (List Int))))))))) (lenN (appL l8 (((i9, i10, i11, l14) :: ([] : List (Int × (Int × (Int × (List Int)))))))))).bnd (fun _ =>
 some (Sum.inl ((l2, i3, addI .i64 i4 1), i5, i6, l7, appL l8 (((i9, i10, i11, l14) :: ([] : List (Int × (Int × (Int × (List Int))))))))))))))))))
 (((fulI 0 (lenN l7) (lenN l7)).bnd (fun _ =>
 (fulI 0 (lenN l8) (lenN l8)).bnd (fun _ =>
 some (Sum.inl (i5, i6, l7, l8))))).bnd (fun l15 =>
 some (Sum.inr l15))))
 ((l1, natI (lenN l1), (0 : Int)), (0 : Int), i0, ([] : List (Int × (Int × (Int × (List Int))))), ([] : List (Int × (Int × (Int × (List Int)))))))))
 (fun (i16, i17, l18, l19) =>
 (takI l19 (lenN l19)).bnd (fun l20 =>
 some (i17, l20))))


/-! ### factors and products of lists -/

theorem allP_ofD {m : Int} {r c : Nat} {d : List Int} (hl : d.length = r * c) (h : allP m d) : inM m r c (ofD c d) := by
  rw [← allP_gen, genD_of hl]; exact h

theorem mulD_spec {m : Int} {r k c : Nat} {A B : List Int} (hm : pOk m) (hr : r ≤ 4096) (hk : k ≤ 4096) (hc : c ≤ 4096) (h1 : r * k ≤ 1048576) (h2 : k * c ≤ 1048576) (h3 : r * c ≤ 1048576) (hA : A.length = r * k) (hB : B.length = k * c) (qA : allP m A) (qB : allP m B) :
    F_spec_l31Mul (m, ((r : Int), (k : Int), A), ((k : Int), (c : Int), B)) = some ((r : Int), (c : Int), mulD m r k c A B) := by
  have e := mulS_nat (r := r) (k := k) (c := c) hm hr hk hc h1 h2 h3 (allP_ofD hA qA) (allP_ofD hB qB)
  rw [genD_of hA, genD_of hB] at e
  exact e

theorem site_nat {m : Int} {s : Site} (h : siteOk m s = true) : ∃ (b p c : Nat) (d : List Int), s = ((b : Int), (p : Int), (c : Int), d) ∧ b ≤ 32 ∧ c ≤ 32 ∧ (1 ≤ p ∧ p ≤ 8) ∧ d.length = b * p * c ∧ allP m d := by
  obtain ⟨a, p, c, d⟩ := s
  obtain ⟨t1, t2, t3, t4, t5⟩ := siteOk_t h
  obtain ⟨a, rfl⟩ := natI_eq t1.1
  obtain ⟨p, rfl⟩ := natI_eq (show 0 ≤ p by omega)
  obtain ⟨c, rfl⟩ := natI_eq t2.1
  refine ⟨a, p, c, d, rfl, by omega, by omega, by omega, ?_, fun x hx => of_decide_eq_true (List.all_eq_true.1 t5 x hx)⟩
  have : ((a : Int) * (p : Int) * (c : Int)) = ((a * p * c : Nat) : Int) := by norm_cast
  rw [this] at t4; exact_mod_cast t4
theorem site_mk {m : Int} {b p c : Nat} {d : List Int} (hb : b ≤ 32) (hc : c ≤ 32) (hp : 1 ≤ p ∧ p ≤ 8) (hl : d.length = b * p * c) (hd : allP m d) : siteOk m ((b : Int), (p : Int), (c : Int), d) = true := by
  have hrow : rowOk m d = true := List.all_eq_true.2 fun x hx => decide_eq_true (hd x hx)
  have e3 : (d.length : Int) = (b : Int) * (p : Int) * (c : Int) := by rw [hl]; norm_cast
  simp only [siteOk, hrow, e3, decide_true, Bool.and_true, Bool.and_eq_true, decide_eq_true_eq]
  omega

/-- Sites that fit. -/
def fitC (m : Int) (L : List Site) : Prop := (∀ k, k < L.length → siteOk m (L.getD k site0) = true) ∧ ∀ k, k + 1 < L.length → (L.getD (k + 1) site0).1 = (L.getD k site0).2.2.1

theorem fitC_of {m : Int} {l : List Site} (h : chainOk (m, l) = true) : fitC m l := by
  obtain ⟨hm, hl, _, _, hs⟩ := chainOk_t h
  refine ⟨fun k hk => ?_, fun k hk => ?_⟩
  · obtain ⟨p, M, e, h1, h2, h3, h4, h5⟩ := hs k hk
    rw [e]
    exact site_mk h1 h2 h3 (genD_len _ _ _) (allP_gen.2 h4)
  · obtain ⟨p, M, e, _⟩ := hs k (by omega)
    obtain ⟨p', M', e', _⟩ := hs (k + 1) hk
    rw [e, e']

theorem f_spec_l32Copy (x : Int × List Site) (y : Int × List Site) (h : F_spec_l32Copy x = some y) : G_spec_l32Copy FUEL x = some y := by
  obtain ⟨m, l⟩ := x
  simp only [F_spec_l32Copy] at h
  split at h
  · rename_i hs
    rw [← h]
    obtain ⟨hlen, hmm⟩ := sz_Chain_le hs
    simp only [G_spec_l32Copy]
    rw [show fulI 0 0 (lenN ([] : List (Int × (Int × (Int × (List Int)))))) = some () from rfl]
    simp only [bnd_s]
    rw [loopT_seq (fun i => ((l, natI (lenN l), (i : Int)), (0 : Int), m, ([] : List Site), l.take i)) (r := Sum.inl ((0 : Int), m, ([] : List Site), l)) l.length ?_ ?_ ?_ (FUEL_gt (by omega))]
    · rw [joinK_l]
      simp only [takI_id, bnd_s]
    all_goals try simp only
    · intro j hj
      obtain ⟨⟨a, p, c, d⟩, hs⟩ : ∃ e, l[j]? = some e := ⟨_, List.getElem?_eq_getElem hj⟩
      have hd : d.length ≤ 1048576 := hmm _ (List.mem_of_getElem? hs)
      have e1 : lenN (l.take j) = j := by simp [lenN]; omega
      have e2 : appL (l.take j) [(a, p, c, d)] = l.take (j + 1) := by simp [appL, List.take_add_one, hs]
      rw [cnd_t (ltI_in hs), getI_nat, hs, bnd_s]
      simp only
      rw [show F_spec_l05Ints d = some d from if_pos (by omega), bnd_s, takI_id, bnd_s]
      simp only [e1, fulI_id, bnd_s, lenN_appL, show ∀ s : Site, lenN [s] = 1 from fun _ => rfl, show fitI (addN j 1) 48 = some () from fitI_ok (by simp only [addN, maxBytes]; omega), next_i hs (by omega)]
      rw [e2]
    · rw [cnd_f (ltI_end l), List.take_length]
      simp only [fulI_id, bnd_s]
    · rfl
  · cases h

theorem f_impl_copyChain (x : Int × List Site) (y : Int × List Site) (h : F_impl_copyChain x = some y) : G_impl_copyChain FUEL x = some y := by
  obtain ⟨m, l⟩ := x
  simp only [F_impl_copyChain, F_spec_l32Copy] at h
  split at h
  · rename_i hs
    rw [← h]
    obtain ⟨hlen, hmm⟩ := sz_Chain_le hs
    simp only [G_impl_copyChain]
    rw [show fulI 0 0 (lenN ([] : List (Int × (Int × (Int × (List Int)))))) = some () from rfl]
    simp only [bnd_s]
    rw [loopT_seq (fun i => ((l, natI (lenN l), (i : Int)), (0 : Int), m, ([] : List Site), l.take i)) (r := Sum.inl ((0 : Int), m, ([] : List Site), l)) l.length ?_ ?_ ?_ (FUEL_gt (by omega))]
    · rw [joinK_l]
      simp only [takI_id, bnd_s]
    all_goals try simp only
    · intro j hj
      obtain ⟨⟨a, p, c, d⟩, hs⟩ : ∃ e, l[j]? = some e := ⟨_, List.getElem?_eq_getElem hj⟩
      have hd : d.length ≤ 1048576 := hmm _ (List.mem_of_getElem? hs)
      have e1 : lenN (l.take j) = j := by simp [lenN]; omega
      have e2 : appL (l.take j) [(a, p, c, d)] = l.take (j + 1) := by simp [appL, List.take_add_one, hs]
      rw [cnd_t (ltI_in hs), getI_nat, hs, bnd_s]
      simp only
      rw [show F_impl_copyInts d = some d from if_pos (by omega), bnd_s, takI_id, bnd_s]
      simp only [e1, fulI_id, bnd_s, lenN_appL, show ∀ s : Site, lenN [s] = 1 from fun _ => rfl, show fitI (addN j 1) 48 = some () from fitI_ok (by simp only [addN, maxBytes]; omega), next_i hs (by omega)]
      rw [e2]
    · rw [cnd_f (ltI_end l), List.take_length]
      simp only [fulI_id, bnd_s]
    · rfl
  · cases h

end Go.Am
end
section
namespace Go.Am

/-! ### operators on two sites -/
def bondOk (m : Int) (s t : Site) (x : Int × Int × List Int) : Prop := x.1 = s.2.1 * t.2.1 ∧ x.2.1 = s.2.1 * t.2.1 ∧ s.1 * s.2.1 ≤ 64 ∧ t.2.1 * t.2.2.1 ≤ 64
instance (m : Int) (s t : Site) (x : Int × Int × List Int) : Decidable (bondOk m s t x) := by unfold bondOk; infer_instance
theorem sum_le {α : Type} {f : α → Nat} {B : Nat} : ∀ {l : List α}, (∀ e ∈ l, f e ≤ B) → (l.map f).sum ≤ l.length * B
  | [], _ => by simp
  | a :: l, h => by
    have h1 := h a List.mem_cons_self
    have h2 := sum_le (f := f) (B := B) (l := l) fun e he => h e (List.mem_cons_of_mem _ he)
    rw [List.map_cons, List.sum_cons, List.length_cons, Nat.add_mul]
    omega


/-- What is given for a good operator. -/
theorem mat_nat {m : Int} {x : Int × Int × List Int} (h : matOk m x = true) : ∃ (r c : Nat) (d : List Int), x = ((r : Int), (c : Int), d) ∧ r ≤ 64 ∧ c ≤ 64 ∧ d.length = r * c ∧ allP m d := by
  obtain ⟨r, c, M, e, _, h1, h2, h3, h4, h5⟩ := matOk_red h
  exact ⟨r, c, genD r c M, e, h1, h2, genD_len _ _ _, allP_gen.2 h4⟩

theorem dotF_congr {p : Int} {f g f' g' : Nat → Int} : ∀ {n : Nat}, (∀ q, q < n → f q = f' q ∧ g q = g' q) → dotF p f g n = dotF p f' g' n
  | 0, _ => rfl
  | n + 1, h => by
    rw [dotF, dotF, dotF_congr (n := n) fun q hq => h q (by omega), (h n (by omega)).1, (h n (by omega)).2]

end Go.Am
end
section
namespace Go.Am
def apW (m : Int) (K R : Nat) (X : Mat) (d : List Int) (q : Nat) : Int := dotF m (fun u => X (q / R % K) u) (fun u => ofD R d (q / R / K * K + u) (q % R)) K
def apD (m : Int) (L K R : Nat) (X : Mat) (d : List Int) (t : Nat) : List Int := rowL (L * K * R) fun q => if q < t then apW m K R X d q else d.getD q 0
def siteD (m : Int) (x : Int × Int × List Int) (s : Site) : Site := (s.1, s.2.1, s.2.2.1, rowL (s.1.toNat * s.2.1.toNat * s.2.2.1.toNat) (apW m s.2.1.toNat s.2.2.1.toNat (ofD x.2.1.toNat x.2.2) s.2.2.2))
def appS (m : Int) (l : List Site) (k : Int) (x : Int × Int × List Int) : (Int × List Site) × Bool :=
  if (chainOk (m, l) = true ∧ (0 ≤ k ∧ k < l.length) ∧ matOk m x = true) ∧ x.1 = (l.getD k.toNat site0).2.1 ∧ x.2.1 = (l.getD k.toNat site0).2.1 then ((m, setL l k.toNat (siteD m x (l.getD k.toNat site0))), true) else ((0, []), false)
def F_spec_ApplySite : (Int × List Site) × Int × Int × Int × List Int → Option ((Int × List Site) × Bool) := fun x =>
  if sz_Chain x.1 ≤ 1048576 ∧ sz_Matrix x.2.2 ≤ 1048576 then some (appS x.1.1 x.1.2 x.2.1 x.2.2) else none
def F_impl_ApplySite : (Int × List Site) × Int × Int × Int × List Int → Option ((Int × List Site) × Bool) := F_spec_ApplySite

def ag_spec_ApplySite : Sig := [(.agg, [.int .i64, .list [.int .i64, .int .i64, .int .i64, .list [.int .i64]]]), (.one, [.int .i64]), (.agg, [.int .i64, .int .i64, .list [.int .i64]])]
def rs_spec_ApplySite : Sig := [(.agg, [.int .i64, .list [.int .i64, .int .i64, .int .i64, .list [.int .i64]]]), (.one, [.bool])]
def mu_spec_ApplySite : MSig := []
def ag_impl_ApplySite : Sig := [(.agg, [.int .i64, .list [.int .i64, .int .i64, .int .i64, .list [.int .i64]]]), (.one, [.int .i64]), (.agg, [.int .i64, .int .i64, .list [.int .i64]])]
def rs_impl_ApplySite : Sig := [(.agg, [.int .i64, .list [.int .i64, .int .i64, .int .i64, .list [.int .i64]]]), (.one, [.bool])]
def mu_impl_ApplySite : MSig := []

def G_spec_ApplySite (NN : Nat) : ((Int × (List (Int × (Int × (Int × (List Int)))))) × (Int × (Int × (Int × (List Int))))) → (Option ((Int × (List (Int × (Int × (Int × (List Int)))))) × Bool)) :=
 (fun (((i0, l1), i2, i3, i4, l5) : ((Int × (List (Int × (Int × (Int × (List Int)))))) × (Int × (Int × (Int × (List Int)))))) =>
 (F_spec_ChainOk (i0, l1)).bnd (fun b6 =>
 cnd (notB b6)
 (some (((0 : Int), ([] : List (Int × (Int × (Int × (List Int)))))), false))
 ((F_spec_l01In (i2, (0 : Int), subI .i64 (natI (lenN l1)) (1 : Int))).bnd (fun b7 =>
 cnd (notB b7)
 (some (((0 : Int), ([] : List (Int × (Int × (Int × (List Int)))))), false))
 ((F_spec_MatrixOk (i0, i3, i4, l5)).bnd (fun b8 =>
 cnd (notB b8)
 (some (((0 : Int), ([] : List (Int × (Int × (Int × (List Int)))))), false))
 ((getI l1 i2).bnd (fun (i9, i10, i11, l12) =>
 cnd (neI i3 i10)
 (some (((0 : Int), ([] : List (Int × (Int × (Int × (List Int)))))), false))
 (cnd (neI i4 i10)
 (some (((0 : Int), ([] : List (Int × (Int × (Int × (List Int)))))), false))
 ((F_spec_l32Copy (i0, l1)).bnd (fun (i13, l14) =>
 joinK ((fulI 0 0 (lenN (([] : List (Int × (Int × (Int × (List Int)))))))).bnd (fun _ =>
 (fulI 0 (lenN l14) (lenN l14)).bnd (fun _ =>
 loopT NN (fun (((i15, i16), (i17, l18), (i19, i20, l21), i22, (i23, i24, i25, l26), i27, l28, l29) : ((Int × Int) × ((Int × (List (Int × (Int × (Int × (List Int)))))) × ((Int × (Int × (List Int))) × (Int × ((Int × (Int × (Int × (List Int)))) × (Int × ((List (Int × (Int × (Int × (List Int))))) × (List (Int × (Int × (Int × (List Int))))))))))))) =>
 cnd (ltI i16 i23)
 (joinK ((sliI (mulI .i64 (mulI .i64 i16 i24) i25) (mulI .i64 (mulI .i64 (addI .i64 i16 1) i24) i25) (lenN l26)).bnd (fun (k30, k31) =>
 (F_spec_l31Mul (i17, (i19, i20, l21), i24, i25, sldL l26 k30 k31)).bnd (fun (i32, i33, l34) =>
 (fulI 0 (lenN l34) (lenN l34)).bnd (fun _ =>
 (fulI 0 (lenN l28) (lenN l28)).bnd (fun _ =>
 (fulI 0 (lenN l29) (lenN l29)).bnd (fun _ =>
 loopT NN (fun (((i35, i36, i37, i38), (i39, l40), (i41, i42, l43), i44, (i45, i46, i47, l48), i49, l50, l51, l52) : ((Int × (Int × (Int × Int))) × ((Int × (List (Int × (Int × (Int × (List Int)))))) × ((Int × (Int × (List Int))) × (Int × ((Int × (Int × (Int × (List Int)))) × (Int × ((List (Int × (Int × (Int × (List Int))))) × ((List (Int × (Int × (Int × (List Int))))) × (List Int)))))))))) =>
 cnd (ltI i38 i37)
 ((chkI i38 (lenN l52)).bnd (fun k53 =>
 (getN l52 (addN 0 k53)).bnd (fun i54 =>
 (chkI i35 (lenN l51)).bnd (fun k55 =>
 (getN l51 (addN 0 k55)).bnd (fun (i56, i57, i58, l59) =>
 (getN l51 (addN 0 k55)).bnd (fun (i60, i61, i62, l63) =>
 (chkI (addI .i64 (mulI .i64 (mulI .i64 i36 i46) i47) i38) (lenN l63)).bnd (fun k64 =>
 (getN l51 (addN 0 k55)).bnd (fun (i65, i66, i67, l68) =>
 (getN l68 k64).bnd (fun i69 =>
 (fulI 0 (lenN l52) (lenN l52)).bnd (fun _ =>
 (fulI 0 (lenN l50) (lenN l50)).bnd (fun _ =>
 (fulI 0 (lenN l51) (lenN (setL l51 (addN 0 k55) (i65, i66, i67, setL l68 k64 i54)))).bnd (fun _ =>
 some (Sum.inl ((i35, i36, i37, addI .i64 i38 1), (i39, l40), (i41, i42, l43), i44, (i45, i46, i47, l48), i49, l50, setL l51 (addN 0 k55) (i65, i66, i67, setL l68 k64 i54), l52))))))))))))))
 (((fulI 0 (lenN l50) (lenN l50)).bnd (fun _ =>
 (fulI 0 (lenN l51) (lenN l51)).bnd (fun _ =>
 some (Sum.inl ((i36, i35), (i39, l40), (i41, i42, l43), i44, (i45, i46, i47, l48), i49, l50, l51))))).bnd (fun l70 =>
 some (Sum.inr l70))))
 ((i15, i16, natI (lenN l34), (0 : Int)), (i17, l18), (i19, i20, l21), i22, (i23, i24, i25, l26), i27, l28, l29, l34)))))))
 (fun ((i71, i72), (i73, l74), (i75, i76, l77), i78, (i79, i80, i81, l82), i83, l84, l85) =>
 (fulI 0 (lenN l84) (lenN l84)).bnd (fun _ =>
 (fulI 0 (lenN l85) (lenN l85)).bnd (fun _ =>
 some (Sum.inl ((i72, addI .i64 i71 1), (i73, l74), (i75, i76, l77), i78, (i79, i80, i81, l82), i83, l84, l85))))))
 (((fulI 0 (lenN l28) (lenN l28)).bnd (fun _ =>
 (fulI 0 (lenN l29) (lenN l29)).bnd (fun _ =>
 some (Sum.inl (i22, i27, l28, l29))))).bnd (fun l86 =>
 some (Sum.inr l86))))
 ((i2, (0 : Int)), (i0, l1), (i3, i4, l5), (0 : Int), (i9, i10, i11, l12), i13, ([] : List (Int × (Int × (Int × (List Int))))), l14))))
 (fun (i87, i88, l89, l90) =>
 (takI l90 (lenN l90)).bnd (fun l91 =>
 some ((i88, l91), true))))))))))))))


def G_impl_ApplySite (NN : Nat) : ((Int × (List (Int × (Int × (Int × (List Int)))))) × (Int × (Int × (Int × (List Int))))) → (Option ((Int × (List (Int × (Int × (Int × (List Int)))))) × Bool)) :=
 (fun (((i0, l1), i2, i3, i4, l5) : ((Int × (List (Int × (Int × (Int × (List Int)))))) × (Int × (Int × (Int × (List Int)))))) =>
 (F_impl_ChainOk (i0, l1)).bnd (fun b6 =>
 cnd (notB b6)
 (some (((0 : Int), ([] : List (Int × (Int × (Int × (List Int)))))), false))
 (cnd (ltI i2 (0 : Int))
 (some (((0 : Int), ([] : List (Int × (Int × (Int × (List Int)))))), false))
 (cnd (leI (natI (lenN l1)) i2)
 (some (((0 : Int), ([] : List (Int × (Int × (Int × (List Int)))))), false))
 ((F_impl_MatrixOk (i0, i3, i4, l5)).bnd (fun b7 =>
 cnd (notB b7)
 (some (((0 : Int), ([] : List (Int × (Int × (Int × (List Int)))))), false))
 ((getI l1 i2).bnd (fun (i8, i9, i10, l11) =>
 cnd (neI i3 i9)
 (some (((0 : Int), ([] : List (Int × (Int × (Int × (List Int)))))), false))
 (cnd (neI i4 i9)
 (some (((0 : Int), ([] : List (Int × (Int × (Int × (List Int)))))), false))
 ((F_impl_copyChain (i0, l1)).bnd (fun (i12, l13) =>
 joinK ((fulI 0 0 (lenN (([] : List (Int × (Int × (Int × (List Int)))))))).bnd (fun _ =>
 (fulI 0 (lenN l13) (lenN l13)).bnd (fun _ =>
 loopT NN (fun (((i14, i15), (i16, l17), (i18, i19, l20), i21, (i22, i23, i24, l25), i26, l27, l28) : ((Int × Int) × ((Int × (List (Int × (Int × (Int × (List Int)))))) × ((Int × (Int × (List Int))) × (Int × ((Int × (Int × (Int × (List Int)))) × (Int × ((List (Int × (Int × (Int × (List Int))))) × (List (Int × (Int × (Int × (List Int))))))))))))) =>
 cnd (ltI i15 i22)
 (joinK ((fulI 0 (lenN l27) (lenN l27)).bnd (fun _ =>
 (fulI 0 (lenN l28) (lenN l28)).bnd (fun _ =>
 loopT NN (fun (((i29, i30, i31), (i32, l33), (i34, i35, l36), i37, (i38, i39, i40, l41), i42, l43, l44) : ((Int × (Int × Int)) × ((Int × (List (Int × (Int × (Int × (List Int)))))) × ((Int × (Int × (List Int))) × (Int × ((Int × (Int × (Int × (List Int)))) × (Int × ((List (Int × (Int × (Int × (List Int))))) × (List (Int × (Int × (Int × (List Int))))))))))))) =>
 cnd (ltI i31 i39)
 (joinK ((fulI 0 (lenN l43) (lenN l43)).bnd (fun _ =>
 (fulI 0 (lenN l44) (lenN l44)).bnd (fun _ =>
 loopT NN (fun (((i45, i46, i47, i48), (i49, l50), (i51, i52, l53), i54, (i55, i56, i57, l58), i59, l60, l61) : ((Int × (Int × (Int × Int))) × ((Int × (List (Int × (Int × (Int × (List Int)))))) × ((Int × (Int × (List Int))) × (Int × ((Int × (Int × (Int × (List Int)))) × (Int × ((List (Int × (Int × (Int × (List Int))))) × (List (Int × (Int × (Int × (List Int))))))))))))) =>
 cnd (ltI i48 i57)
 (joinK (joinK ((fulI 0 (lenN l60) (lenN l60)).bnd (fun _ =>
 (fulI 0 (lenN l61) (lenN l61)).bnd (fun _ =>
 loopT NN (fun (((i62, i63, i64, i65, i66, i67), (i68, l69), (i70, i71, l72), i73, (i74, i75, i76, l77), i78, l79, l80) : ((Int × (Int × (Int × (Int × (Int × Int))))) × ((Int × (List (Int × (Int × (Int × (List Int)))))) × ((Int × (Int × (List Int))) × (Int × ((Int × (Int × (Int × (List Int)))) × (Int × ((List (Int × (Int × (Int × (List Int))))) × (List (Int × (Int × (Int × (List Int))))))))))))) =>
 cnd (ltI i67 i75)
 ((F_impl_Matrix_at ((i70, i71, l72), i64, i67)).bnd (fun i81 =>
 (F_impl_Site_at ((i74, i75, i76, l77), i63, i67, i65)).bnd (fun i82 =>
 (remI (addI .i64 i66 (mulI .i64 i81 i82)) i68).bnd (fun i83 =>
 (fulI 0 (lenN l79) (lenN l79)).bnd (fun _ =>
 (fulI 0 (lenN l80) (lenN l80)).bnd (fun _ =>
 some (Sum.inl ((i62, i63, i64, i65, i83, addI .i64 i67 1), (i68, l69), (i70, i71, l72), i73, (i74, i75, i76, l77), i78, l79, l80))))))))
 (((fulI 0 (lenN l79) (lenN l79)).bnd (fun _ =>
 (fulI 0 (lenN l80) (lenN l80)).bnd (fun _ =>
 some (Sum.inl ((i66, i65, i62, i63, i64), (i68, l69), (i70, i71, l72), i73, (i74, i75, i76, l77), i78, l79, l80))))).bnd (fun l84 =>
 some (Sum.inr l84))))
 ((i45, i46, i47, i48, (0 : Int), (0 : Int)), (i49, l50), (i51, i52, l53), i54, (i55, i56, i57, l58), i59, l60, l61))))
 (fun ((i85, i86, i87, i88, i89), (i90, l91), (i92, i93, l94), i95, (i96, i97, i98, l99), i100, l101, l102) =>
 (chkI i87 (lenN l102)).bnd (fun k103 =>
 (getN l102 (addN 0 k103)).bnd (fun (i104, i105, i106, l107) =>
 (getN l102 (addN 0 k103)).bnd (fun (i108, i109, i110, l111) =>
 (chkI (addI .i64 (mulI .i64 (addI .i64 (mulI .i64 i88 i97) i89) i98) i86) (lenN l111)).bnd (fun k112 =>
 (getN l102 (addN 0 k103)).bnd (fun (i113, i114, i115, l116) =>
 (getN l116 k112).bnd (fun i117 =>
 (fulI 0 (lenN l101) (lenN l101)).bnd (fun _ =>
 (fulI 0 (lenN l102) (lenN (setL l102 (addN 0 k103) (i113, i114, i115, setL l116 k112 i85)))).bnd (fun _ =>
 some (Sum.inl ((i86, i87, i88, i89), (i90, l91), (i92, i93, l94), i95, (i96, i97, i98, l99), i100, l101, setL l102 (addN 0 k103) (i113, i114, i115, setL l116 k112 i85)))))))))))))
 (fun ((i118, i119, i120, i121), (i122, l123), (i124, i125, l126), i127, (i128, i129, i130, l131), i132, l133, l134) =>
 (fulI 0 (lenN l133) (lenN l133)).bnd (fun _ =>
 (fulI 0 (lenN l134) (lenN l134)).bnd (fun _ =>
 some (Sum.inl ((i119, i120, i121, addI .i64 i118 1), (i122, l123), (i124, i125, l126), i127, (i128, i129, i130, l131), i132, l133, l134))))))
 (((fulI 0 (lenN l60) (lenN l60)).bnd (fun _ =>
 (fulI 0 (lenN l61) (lenN l61)).bnd (fun _ =>
 some (Sum.inl ((i47, i45, i46), (i49, l50), (i51, i52, l53), i54, (i55, i56, i57, l58), i59, l60, l61))))).bnd (fun l135 =>
 some (Sum.inr l135))))
 ((i29, i30, i31, (0 : Int)), (i32, l33), (i34, i35, l36), i37, (i38, i39, i40, l41), i42, l43, l44))))
 (fun ((i136, i137, i138), (i139, l140), (i141, i142, l143), i144, (i145, i146, i147, l148), i149, l150, l151) =>
 (fulI 0 (lenN l150) (lenN l150)).bnd (fun _ =>
 (fulI 0 (lenN l151) (lenN l151)).bnd (fun _ =>
 some (Sum.inl ((i137, i138, addI .i64 i136 1), (i139, l140), (i141, i142, l143), i144, (i145, i146, i147, l148), i149, l150, l151))))))
 (((fulI 0 (lenN l43) (lenN l43)).bnd (fun _ =>
 (fulI 0 (lenN l44) (lenN l44)).bnd (fun _ =>
 some (Sum.inl ((i30, i29), (i32, l33), (i34, i35, l36), i37, (i38, i39, i40, l41), i42, l43, l44))))).bnd (fun l152 =>
 some (Sum.inr l152))))
 ((i14, i15, (0 : Int)), (i16, l17), (i18, i19, l20), i21, (i22, i23, i24, l25), i26, l27, l28))))
 (fun ((i153, i154), (i155, l156), (i157, i158, l159), i160, (i161, i162, i163, l164), i165, l166, l167) =>
 (fulI 0 (lenN l166) (lenN l166)).bnd (fun _ =>
 (fulI 0 (lenN l167) (lenN l167)).bnd (fun _ =>
 some (Sum.inl ((i154, addI .i64 i153 1), (i155, l156), (i157, i158, l159), i160, (i161, i162, i163, l164), i165, l166, l167))))))
 (((fulI 0 (lenN l27) (lenN l27)).bnd (fun _ =>
 (fulI 0 (lenN l28) (lenN l28)).bnd (fun _ =>
 some (Sum.inl (i21, i26, l27, l28))))).bnd (fun l168 =>
 some (Sum.inr l168))))
 ((i2, (0 : Int)), (i0, l1), (i3, i4, l5), (0 : Int), (i8, i9, i10, l11), i12, ([] : List (Int × (Int × (Int × (List Int))))), l13))))
 (fun (i169, i170, l171, l172) =>
 (takI l172 (lenN l172)).bnd (fun l173 =>
 some ((i170, l173), true))))))))))))))


theorem apSelf {α : Type} {l : List α} {k : Nat} {a : α} (h : l[k]? = some a) : setL l k a = l := by
  unfold setL
  apply List.ext_getElem?
  intro j
  by_cases e : k = j
  · subst e; rw [List.getElem?_set_self (lt_of_get h), h]
  · rw [List.getElem?_set_ne e]
theorem apSS {α : Type} (l : List α) (k : Nat) (a b : α) : setL (setL l k a) k b = setL l k b := List.set_set a
theorem apLen {α : Type} (l : List α) (k : Nat) (a : α) : lenN (setL l k a) = lenN l := List.length_set
theorem apGet {α : Type} {l : List α} {k : Nat} (h : k < l.length) (a : α) : getN (setL l k a) k = some a := List.getElem?_set_self h
theorem fulI_z {α : Type} : fulI 0 0 (lenN ([] : List α)) = some () := fulI_id 0
theorem sliI_nn {a b n : Nat} (h1 : a ≤ b) (h2 : b ≤ n) : sliI (a : Int) (b : Int) n = some (a, b - a) := by
  unfold sliI
  rw [if_pos ⟨by omega, by omega, by omega⟩]
  congr 2
  omega

section
variable {m : Int} {L K R : Nat} {X : Mat} {d : List Int}
theorem apW_at {i v j : Nat} (hv : v < K) (hj : j < R) : apW m K R X d ((i * K + v) * R + j) = dotF m (fun u => X v u) (fun u => ofD R d (i * K + u) j) K := by
  unfold apW
  rw [idx_div hj, idx_mod hj, idx_div hv, idx_mod hv]
theorem apD_0 (hl : d.length = L * K * R) : apD m L K R X d 0 = d := by
  unfold apD
  apply List.ext_getElem?
  intro q
  by_cases hq : q < L * K * R
  · rw [rowL_get _ hq, if_neg (by omega), getD_some 0 (by omega)]
  · rw [List.getElem?_eq_none (by rw [rowL_len]; omega), List.getElem?_eq_none (by omega)]
theorem apD_set (t : Nat) : setL (apD m L K R X d t) t (apW m K R X d t) = apD m L K R X d (t + 1) := by
  unfold apD
  rw [rowL_set]
  refine rowL_congr fun q _ => ?_
  by_cases h : q = t
  · rw [if_pos h, if_pos (by omega), h]
  · rw [if_neg h]
    by_cases h2 : q < t
    · rw [if_pos h2, if_pos (by omega)]
    · rw [if_neg h2, if_neg (by omega)]
theorem apD_end : apD m L K R X d (L * K * R) = rowL (L * K * R) (apW m K R X d) := rowL_congr fun q hq => if_pos hq
theorem apD_chk {t q : Nat} (h : q < L * K * R) : chkI (q : Int) (lenN (apD m L K R X d t)) = some q := chkI_row _ h
theorem apD_get {t q : Nat} (h : q < L * K * R) : getN (apD m L K R X d t) q = some (if q < t then apW m K R X d q else d.getD q 0) := getN_row _ h
/-- One block of the site times the matrix. -/
theorem apY {i : Nat} {xd : List Int} (hl : d.length = L * K * R) (hi : i < L) : mulD m K K R xd (sldL d (i * K * R) (K * R)) = rowL (K * R) fun t => apW m K R (ofD K xd) d (i * K * R + t) := by
  unfold mulD
  show rowL (K * R) _ = _
  refine rowL_congr fun t ht => ?_
  have hR : 0 < R := by rcases Nat.eq_zero_or_pos R with h | h; rw [h] at ht; omega; exact h
  have hv : t / R < K := (Nat.div_lt_iff_lt_mul hR).2 ht
  have hj : t % R < R := Nat.mod_lt _ hR
  have e : i * K * R + t = (i * K + t / R) * R + t % R := by
    rw [Nat.add_mul, Nat.add_assoc, Nat.mul_comm (t / R) R, Nat.div_add_mod]
  rw [e, apW_at hv hj]
  refine dotF_congr fun u hu => ⟨rfl, ?_⟩
  have h1 := idx_lt hu hj
  have h2 := idx_lt hi hu
  have h3 := idx_lt h2 hj
  have e2 : (i * K + u) * R + t % R = i * K * R + (u * R + t % R) := by rw [Nat.add_mul, Nat.add_assoc]
  show (sldL d (i * K * R) (K * R)).getD (u * R + t % R) 0 = d.getD ((i * K + u) * R + t % R) 0
  rw [e2, List.getD_eq_getElem?_getD, List.getD_eq_getElem?_getD]
  congr 1
  unfold sldL
  rw [List.getElem?_take_of_lt h1, List.getElem?_drop]
end

theorem sAt {L K R i u j : Nat} {d : List Int} (hL : L ≤ 32) (hK : K ≤ 8) (hR : R ≤ 32) (hl : d.length = L * K * R) (hi : i < L) (hu : u < K) (hj : j < R) :
    F_impl_Site_at (((L : Int), (K : Int), (R : Int), d), (i : Int), (u : Int), (j : Int)) = some (ofD R d (i * K + u) j) := by
  simp only [F_impl_Site_at]
  rw [if_pos]
  · simp only [siteV, siteM, Int.toNat_natCast]
  · refine ⟨⟨by show (0 : Int) ≤ L ∧ (L : Int) ≤ 64; omega, by show (0 : Int) ≤ K ∧ (K : Int) ≤ 64; omega, by show (0 : Int) ≤ R ∧ (R : Int) ≤ 64; omega, ?_⟩, by omega, by omega, by omega⟩
    show (d.length : Int) = (L : Int) * (K : Int) * (R : Int)
    rw [hl]; norm_cast

/-- What both walks know of a site and a matrix that fit. -/
theorem app_nat {m : Int} {l : List Site} {k : Nat} (hc : chainOk (m, l) = true) (hk : k < l.length) : ∃ (L K R : Nat) (d : List Int), l[k]? = some ((L : Int), (K : Int), (R : Int), d) ∧ l.getD k site0 = ((L : Int), (K : Int), (R : Int), d) ∧
    L ≤ 32 ∧ R ≤ 32 ∧ (1 ≤ K ∧ K ≤ 8) ∧ d.length = L * K * R ∧ allP m d := by
  obtain ⟨L, K, R, d, e, h1, h2, h3, h4, h5⟩ := site_nat ((fitC_of hc).1 k hk)
  refine ⟨L, K, R, d, ?_, e, h1, h2, h3, h4, h5⟩
  rw [getD_some site0 hk, e]

theorem f_spec_ApplySite (x : (Int × List Site) × Int × Int × Int × List Int) (y : (Int × List Site) × Bool) (h : F_spec_ApplySite x = some y) : G_spec_ApplySite FUEL x = some y := by
  obtain ⟨⟨m, l⟩, k, x1, x2, xd⟩ := x
  simp only [F_spec_ApplySite] at h
  split at h
  · rename_i hs
    obtain ⟨hs1, hs2⟩ := hs
    rw [← h]
    simp only [G_spec_ApplySite, appS]
    rw [show F_spec_ChainOk (m, l) = some (chainOk (m, l)) from if_pos hs1, bnd_s]
    cases hc : chainOk (m, l) with
    | false => rw [cnd_t (by rfl), if_neg (by simp)]
    | true =>
      rw [cnd_f (by rfl)]
      obtain ⟨hm, hl, _⟩ := chainOk_t hc
      rw [F_spec_l01In, bnd_s, nl, subI_eq (by omega) (by omega)]
      by_cases k0 : 0 ≤ k ∧ k ≤ (l.length : Int) - 1
      rotate_left
      · rw [cnd_t (notB_d k0), if_neg (fun h => by have := h.1.2.1; omega)]
      rw [cnd_f (notB_p k0), show F_spec_MatrixOk (m, x1, x2, xd) = some (matOk m (x1, x2, xd)) from if_pos hs2, bnd_s]
      cases hx : matOk m (x1, x2, xd) with
      | false => rw [cnd_t (by rfl), if_neg (by simp)]
      | true =>
      rw [cnd_f (by rfl)]
      obtain ⟨k, rfl⟩ := natI_eq (show 0 ≤ k by omega)
      have hk : k < l.length := by omega
      simp only [Int.toNat_natCast]
      obtain ⟨L, K, R, d, g1, g2, hL, hR, hK, hdl, hd⟩ := app_nat hc hk
      rw [getI_nat, g1, bnd_s, g2]
      simp only
      by_cases q1 : x1 = ((K : Nat) : Int)
      rotate_left
      · rw [cnd_t (neI_t q1), if_neg (fun h => q1 h.2.1)]
      rw [cnd_f (neI_f q1)]
      by_cases q2 : x2 = ((K : Nat) : Int)
      rotate_left
      · rw [cnd_t (neI_t q2), if_neg (fun h => q2 h.2.2)]
      rw [cnd_f (neI_f q2), if_pos ⟨⟨trivial, ⟨by omega, by omega⟩, trivial⟩, q1, q2⟩]
      subst q1 q2
      obtain ⟨r, c, xd', ex, _, _, hxl, hxd⟩ := mat_nat hx
      have er : K = r := by injection ex with z _; omega
      have ec : K = c := by injection ex with _ z; injection z with z _; omega
      have exd : xd = xd' := by injection ex with _ z; injection z with _ z
      subst er ec exd
      have hLK : L * K ≤ 32 * 8 := Nat.mul_le_mul hL hK.2
      have hLKR : L * K * R ≤ 32 * 8 * 32 := Nat.mul_le_mul hLK hR
      have hKR : K * R ≤ 8 * 32 := Nat.mul_le_mul hK.2 hR
      have hKK : K * K ≤ 8 * 8 := Nat.mul_le_mul hK.2 hK.2
      rw [show F_spec_l32Copy (m, l) = some (m, l) from if_pos hs1, bnd_s]
      simp only
      rw [fulI_z, bnd_s, fulI_id, bnd_s]
      simp only [siteD, Int.toNat_natCast]
      generalize hX : ofD K xd = X
      rw [loopT_seq (fun i => (((k : Int), (i : Int)), (m, l), ((K : Int), (K : Int), xd), (0 : Int), ((L : Int), (K : Int), (R : Int), d), m, ([] : List Site), setL l k ((L : Int), (K : Int), (R : Int), apD m L K R X d (i * K * R))))
        (r := Sum.inl ((0 : Int), m, ([] : List Site), setL l k ((L : Int), (K : Int), (R : Int), rowL (L * K * R) (apW m K R X d)))) L ?_ ?_ ?_ (FUEL_gt (by omega))]
      · rw [joinK_l]
        simp only [takI_id, bnd_s]
      · intro i hi
        have hi1 : (i + 1) * K * R ≤ L * K * R := Nat.mul_le_mul_right _ (Nat.mul_le_mul_right _ hi)
        have ei : (i + 1) * K * R = i * K * R + K * R := by rw [Nat.add_mul, Nat.one_mul, Nat.add_mul]
        have hiK : i * K ≤ L * K := Nat.mul_le_mul_right _ (Nat.le_of_lt hi)
        have hiK1 : (i + 1) * K ≤ L * K := Nat.mul_le_mul_right _ hi
        simp only
        rw [cnd_t (ltN_t hi), addN1 (show i ≤ 1048577 by omega), mulN (show i ≤ 1048576 by omega) (show K ≤ 1048576 by omega), mulN (show i * K ≤ 1048576 by omega) (show R ≤ 1048576 by omega), mulN (show i + 1 ≤ 1048576 by omega) (show K ≤ 1048576 by omega),
          mulN (show (i + 1) * K ≤ 1048576 by omega) (show R ≤ 1048576 by omega), sliI_nn (by omega) (by unfold lenN; omega), bnd_s]
        simp only
        rw [show (i + 1) * K * R - i * K * R = K * R by omega]
        have hbl : (sldL d (i * K * R) (K * R)).length = K * R := by unfold sldL; rw [List.length_take, List.length_drop]; omega
        rw [show F_spec_l31Mul (m, ((K : Int), (K : Int), xd), ((K : Int), (R : Int), sldL d (i * K * R) (K * R))) = _ from mulD_spec hm (by omega) (by omega) (by omega) (by omega) (by omega) (by omega) hxl hbl hxd (fun x hx => hd x (List.mem_of_mem_drop (List.mem_of_mem_take hx))), bnd_s]
        simp only
        rw [apY hdl hi, hX]
        simp only [fulI_id, fulI_z, bnd_s]
        rw [show natI (lenN (rowL (K * R) fun t => apW m K R X d (i * K * R + t))) = ((K * R : Nat) : Int) by rw [lenN_row]; rfl]
        rw [loopT_seq (fun t => (((k : Int), (i : Int), ((K * R : Nat) : Int), (t : Int)), (m, l), ((K : Int), (K : Int), xd), (0 : Int), ((L : Int), (K : Int), (R : Int), d), m, ([] : List Site), setL l k ((L : Int), (K : Int), (R : Int), apD m L K R X d (i * K * R + t)), rowL (K * R) fun t => apW m K R X d (i * K * R + t)))
          (r := Sum.inl (((i : Int), (k : Int)), (m, l), ((K : Int), (K : Int), xd), (0 : Int), ((L : Int), (K : Int), (R : Int), d), m, ([] : List Site), setL l k ((L : Int), (K : Int), (R : Int), apD m L K R X d ((i + 1) * K * R)))) (K * R) ?_ ?_ ?_ (FUEL_gt (by omega))]
        · rw [joinK_l]
          simp only [fulI_id, fulI_z, bnd_s, addN1 (show i ≤ 1048577 by omega)]
        · intro t ht
          have hq : i * K * R + t < L * K * R := by omega
          simp only
          rw [cnd_t (ltN_t ht), chkI_row _ ht, bnd_s, addN_0, getN_row _ ht, bnd_s, apLen, chkI_nat (show k < lenN l from hk), bnd_s, addN_0, apGet hk, bnd_s]
          simp only [bnd_s]
          rw [mulN (show i ≤ 1048576 by omega) (show K ≤ 1048576 by omega), idxI (show i * K ≤ 1048576 by omega) (show R ≤ 1048576 by omega) (show t ≤ 1048576 by omega), apD_chk hq, bnd_s]
          try simp only [bnd_s]
          rw [apD_get hq, bnd_s, apD_set, apSS, apLen]
          simp only [fulI_id, fulI_z, bnd_s, addN1 (show t ≤ 1048577 by omega)]
          rfl
        · simp only
          rw [cnd_f (ltN_f (Nat.le_refl _)), ← ei]
          try simp only [fulI_id, fulI_z, bnd_s]
        · rfl
      · simp only
        rw [cnd_f (ltN_f (Nat.le_refl _)), apD_end]
        try simp only [fulI_id, fulI_z, bnd_s]
      · rw [Nat.zero_mul, Nat.zero_mul, apD_0 hdl, apSelf g1]; rfl
  · cases h

theorem f_impl_ApplySite (x : (Int × List Site) × Int × Int × Int × List Int) (y : (Int × List Site) × Bool) (h : F_impl_ApplySite x = some y) : G_impl_ApplySite FUEL x = some y := by
  obtain ⟨⟨m, l⟩, k, x1, x2, xd⟩ := x
  simp only [F_impl_ApplySite, F_spec_ApplySite] at h
  split at h
  · rename_i hs
    obtain ⟨hs1, hs2⟩ := hs
    rw [← h]
    simp only [G_impl_ApplySite, appS]
    rw [show F_impl_ChainOk (m, l) = some (chainOk (m, l)) from if_pos hs1, bnd_s]
    cases hc : chainOk (m, l) with
    | false => rw [cnd_t (by rfl), if_neg (by simp)]
    | true =>
      rw [cnd_f (by rfl)]
      obtain ⟨hm, hl, _⟩ := chainOk_t hc
      by_cases k0 : 0 ≤ k
      rotate_left
      · rw [cnd_t (ltI_t (by omega)), if_neg (fun h => k0 h.1.2.1.1)]
      rw [cnd_f (ltI_f k0), nl]
      by_cases k1 : k < l.length
      rotate_left
      · rw [cnd_t (leI_t (by omega)), if_neg (fun h => k1 h.1.2.1.2)]
      rw [cnd_f (leI_f (by omega)), show F_impl_MatrixOk (m, x1, x2, xd) = some (matOk m (x1, x2, xd)) from if_pos hs2, bnd_s]
      cases hx : matOk m (x1, x2, xd) with
      | false => rw [cnd_t (by rfl), if_neg (by simp)]
      | true =>
      rw [cnd_f (by rfl)]
      obtain ⟨k, rfl⟩ := natI_eq k0
      have hk : k < l.length := by omega
      simp only [Int.toNat_natCast]
      obtain ⟨L, K, R, d, g1, g2, hL, hR, hK, hdl, hd⟩ := app_nat hc hk
      rw [getI_nat, g1, bnd_s, g2]
      simp only
      by_cases q1 : x1 = ((K : Nat) : Int)
      rotate_left
      · rw [cnd_t (neI_t q1), if_neg (fun h => q1 h.2.1)]
      rw [cnd_f (neI_f q1)]
      by_cases q2 : x2 = ((K : Nat) : Int)
      rotate_left
      · rw [cnd_t (neI_t q2), if_neg (fun h => q2 h.2.2)]
      rw [cnd_f (neI_f q2), if_pos ⟨⟨trivial, ⟨by omega, by omega⟩, trivial⟩, q1, q2⟩]
      subst q1 q2
      obtain ⟨r, c, xd', ex, _, _, hxl, hxd⟩ := mat_nat hx
      have er : K = r := by injection ex with z _; omega
      have ec : K = c := by injection ex with _ z; injection z with z _; omega
      have exd : xd = xd' := by injection ex with _ z; injection z with _ z
      subst er ec exd
      have hLK : L * K ≤ 32 * 8 := Nat.mul_le_mul hL hK.2
      have hLKR : L * K * R ≤ 32 * 8 * 32 := Nat.mul_le_mul hLK hR
      have hKK : K * K ≤ 8 * 8 := Nat.mul_le_mul hK.2 hK.2
      rw [show F_impl_copyChain (m, l) = some (m, l) from if_pos hs1, bnd_s]
      simp only
      rw [fulI_z, bnd_s, fulI_id, bnd_s]
      simp only [siteD, Int.toNat_natCast]
      have hXg := genD_of hxl
      have hXin : inM m K K (ofD K xd) := allP_ofD hxl hxd
      generalize hX : ofD K xd = X at *
      rw [← hXg]
      have hDin : inM m (L * K) R (ofD R d) := allP_ofD hdl hd
      rw [loopT_seq (fun i => (((k : Int), (i : Int)), (m, l), ((K : Int), (K : Int), genD K K X), (0 : Int), ((L : Int), (K : Int), (R : Int), d), m, ([] : List Site), setL l k ((L : Int), (K : Int), (R : Int), apD m L K R X d (i * K * R))))
        (r := Sum.inl ((0 : Int), m, ([] : List Site), setL l k ((L : Int), (K : Int), (R : Int), rowL (L * K * R) (apW m K R X d)))) L ?_ ?_ ?_ (FUEL_gt (by omega))]
      · rw [joinK_l]
        simp only [takI_id, bnd_s]
      · intro i hi
        simp only
        rw [cnd_t (ltN_t hi)]
        try simp only [fulI_id, fulI_z, bnd_s]
        rw [loopT_seq (fun v => (((k : Int), (i : Int), (v : Int)), (m, l), ((K : Int), (K : Int), genD K K X), (0 : Int), ((L : Int), (K : Int), (R : Int), d), m, ([] : List Site), setL l k ((L : Int), (K : Int), (R : Int), apD m L K R X d ((i * K + v) * R))))
          (r := Sum.inl (((i : Int), (k : Int)), (m, l), ((K : Int), (K : Int), genD K K X), (0 : Int), ((L : Int), (K : Int), (R : Int), d), m, ([] : List Site), setL l k ((L : Int), (K : Int), (R : Int), apD m L K R X d ((i + 1) * K * R)))) K ?_ ?_ ?_ (FUEL_gt (by omega))]
        · rw [joinK_l]
          simp only [fulI_id, fulI_z, bnd_s, addN1 (show i ≤ 1048577 by omega)]
        · intro v hv
          have hI := idx_lt hi hv
          simp only
          rw [cnd_t (ltN_t hv)]
          try simp only [fulI_id, fulI_z, bnd_s]
          rw [loopT_seq (fun j => (((k : Int), (i : Int), (v : Int), (j : Int)), (m, l), ((K : Int), (K : Int), genD K K X), (0 : Int), ((L : Int), (K : Int), (R : Int), d), m, ([] : List Site), setL l k ((L : Int), (K : Int), (R : Int), apD m L K R X d ((i * K + v) * R + j))))
            (r := Sum.inl (((v : Int), (k : Int), (i : Int)), (m, l), ((K : Int), (K : Int), genD K K X), (0 : Int), ((L : Int), (K : Int), (R : Int), d), m, ([] : List Site), setL l k ((L : Int), (K : Int), (R : Int), apD m L K R X d ((i * K + (v + 1)) * R)))) R ?_ ?_ ?_ (FUEL_gt (by omega))]
          · rw [joinK_l]
            simp only [fulI_id, fulI_z, bnd_s, addN1 (show v ≤ 1048577 by omega)]
          · intro j hj
            have hq := idx_lt hI hj
            simp only
            rw [cnd_t (ltN_t hj)]
            try simp only [fulI_id, fulI_z, bnd_s]
            rw [loopT_seq (fun u => (((k : Int), (i : Int), (v : Int), (j : Int), dotF m (fun u => X v u) (fun u => ofD R d (i * K + u) j) u, (u : Int)), (m, l), ((K : Int), (K : Int), genD K K X), (0 : Int), ((L : Int), (K : Int), (R : Int), d), m, ([] : List Site), setL l k ((L : Int), (K : Int), (R : Int), apD m L K R X d ((i * K + v) * R + j))))
              (r := Sum.inl ((apW m K R X d ((i * K + v) * R + j), (j : Int), (k : Int), (i : Int), (v : Int)), (m, l), ((K : Int), (K : Int), genD K K X), (0 : Int), ((L : Int), (K : Int), (R : Int), d), m, ([] : List Site), setL l k ((L : Int), (K : Int), (R : Int), apD m L K R X d ((i * K + v) * R + j)))) K ?_ ?_ ?_ (FUEL_gt (by omega))]
            · rw [joinK_l]
              simp only
              rw [apLen, chkI_nat (show k < lenN l from hk), bnd_s, addN_0, apGet hk, bnd_s]
              simp only [bnd_s]
              rw [idxI (show i ≤ 1048576 by omega) (show K ≤ 1048576 by omega) (show v ≤ 1048576 by omega), idxI (show i * K + v ≤ 1048576 by omega) (show R ≤ 1048576 by omega) (show j ≤ 1048576 by omega), apD_chk hq, bnd_s]
              try simp only [bnd_s]
              rw [apD_get hq, bnd_s, apD_set, apSS, apLen]
              simp only [fulI_id, fulI_z, bnd_s]
              rw [joinK_l]
              simp only [fulI_id, fulI_z, bnd_s, addN1 (show j ≤ 1048577 by omega)]
              rfl
            · intro u hu
              have hIu := idx_lt hi hu
              simp only
              rw [cnd_t (ltN_t hu), at_nat (M := X) (by omega) (by omega) (by omega) hv hu, bnd_s, sAt hL hK.2 hR hdl hi hu hj, bnd_s, macI hm ((dotF_in hm _ _ u).s hm) (hXin v hv u hu).le (hDin _ hIu j hj).le, bnd_s]
              simp only [fulI_id, fulI_z, bnd_s, addN1 (show u ≤ 1048577 by omega), dotF]
            · simp only
              rw [cnd_f (ltN_f (Nat.le_refl _)), apW_at hv hj]
              try simp only [fulI_id, fulI_z, bnd_s]
            · rfl
          · simp only
            rw [cnd_f (ltN_f (Nat.le_refl _)), show (i * K + v) * R + R = (i * K + (v + 1)) * R by rw [← Nat.add_assoc, Nat.add_mul _ 1, Nat.one_mul]]
            try simp only [fulI_id, fulI_z, bnd_s]
          · rfl
        · simp only
          rw [cnd_f (ltN_f (Nat.le_refl _)), show i * K + K = (i + 1) * K by rw [Nat.add_mul, Nat.one_mul]]
          try simp only [fulI_id, fulI_z, bnd_s]
        · rfl
      · simp only
        rw [cnd_f (ltN_f (Nat.le_refl _)), apD_end]
        try simp only [fulI_id, fulI_z, bnd_s]
      · rw [Nat.zero_mul, Nat.zero_mul, apD_0 hdl, apSelf g1]; rfl
  · cases h

theorem appS_sz {m : Int} {l : List Site} {k : Int} {x : Int × Int × List Int} (h : sz_Chain (m, l) ≤ 1048576) : sz_Chain (appS m l k x).1 ≤ 131072 := by
  unfold appS
  split
  · rename_i hh
    obtain ⟨⟨hc, hk, _⟩, _⟩ := hh
    obtain ⟨k, rfl⟩ := natI_eq hk.1
    have hk : k < l.length := by omega
    simp only [Int.toNat_natCast]
    obtain ⟨L, K, R, d, g1, g2, hL, hR, hK, hdl, hd⟩ := app_nat hc hk
    have hLK : L * K ≤ 32 * 8 := Nat.mul_le_mul hL hK.2
    have hLKR : L * K * R ≤ 32 * 8 * 32 := Nat.mul_le_mul hLK hR
    have hn := (chainOk_t hc).2.1
    show (setL l k _).length + ((setL l k _).map sz_Site).sum ≤ _
    have hs := sum_le (f := sz_Site) (B := 8192) (l := setL l k (siteD m x (l.getD k site0))) fun e he => by
      rcases List.mem_or_eq_of_mem_set he with he | rfl
      · obtain ⟨j, hj, rfl⟩ := List.getElem_of_mem he
        obtain ⟨L', K', R', d', f1, _, f3, f4, f5, f6, _⟩ := app_nat hc hj
        rw [List.getElem?_eq_getElem hj] at f1
        injection f1 with f1
        rw [f1]
        have h1 : L' * K' ≤ 32 * 8 := Nat.mul_le_mul f3 f5.2
        have h2 : L' * K' * R' ≤ 32 * 8 * 32 := Nat.mul_le_mul h1 f4
        show d'.length ≤ _
        omega
      · rw [g2]
        simp only [siteD, Int.toNat_natCast]
        show (rowL _ _).length ≤ _
        rw [rowL_len]
        omega
    have hlen : (setL l k (siteD m x (l.getD k site0))).length = l.length := List.length_set
    rw [hlen] at hs ⊢
    have : l.length * 8192 ≤ 8 * 8192 := Nat.mul_le_mul_right _ hn.2
    omega
  · exact Nat.zero_le _
end Go.Am
end
section
namespace Go.Am
def ovlR (a : Int × List Site) (k : Int) (x : Int × Int × List Int) (b : Int × List Site) : Int × Bool := if (appS b.1 b.2 k x).2 = true then innR a (appS b.1 b.2 k x).1 else (0, false)
def F_spec_OverlapChains : (Int × List Site) × Int × (Int × Int × List Int) × Int × List Site → Option (Int × Bool) := fun x =>
  if sz_Chain x.1 ≤ 1048576 ∧ sz_Matrix x.2.2.1 ≤ 1048576 ∧ sz_Chain x.2.2.2 ≤ 1048576 then some (ovlR x.1 x.2.1 x.2.2.1 x.2.2.2) else none
def F_impl_OverlapChains : (Int × List Site) × Int × (Int × Int × List Int) × Int × List Site → Option (Int × Bool) := F_spec_OverlapChains

def ag_spec_OverlapChains : Sig := [(.agg, [.int .i64, .list [.int .i64, .int .i64, .int .i64, .list [.int .i64]]]), (.one, [.int .i64]), (.agg, [.int .i64, .int .i64, .list [.int .i64]]), (.agg, [.int .i64, .list [.int .i64, .int .i64, .int .i64, .list [.int .i64]]])]
def rs_spec_OverlapChains : Sig := [(.one, [.int .i64]), (.one, [.bool])]
def mu_spec_OverlapChains : MSig := []
def ag_impl_OverlapChains : Sig := [(.agg, [.int .i64, .list [.int .i64, .int .i64, .int .i64, .list [.int .i64]]]), (.one, [.int .i64]), (.agg, [.int .i64, .int .i64, .list [.int .i64]]), (.agg, [.int .i64, .list [.int .i64, .int .i64, .int .i64, .list [.int .i64]]])]
def rs_impl_OverlapChains : Sig := [(.one, [.int .i64]), (.one, [.bool])]
def mu_impl_OverlapChains : MSig := []

def G_spec_OverlapChains (NN : Nat) : ((Int × (List (Int × (Int × (Int × (List Int)))))) × (Int × ((Int × (Int × (List Int))) × (Int × (List (Int × (Int × (Int × (List Int))))))))) → (Option (Int × Bool)) :=
 (fun (((i0, l1), i2, (i3, i4, l5), i6, l7) : ((Int × (List (Int × (Int × (Int × (List Int)))))) × (Int × ((Int × (Int × (List Int))) × (Int × (List (Int × (Int × (Int × (List Int)))))))))) =>
 (F_spec_ApplySite ((i6, l7), i2, i3, i4, l5)).bnd (fun ((i8, l9), b10) =>
 cnd (notB b10)
 (some ((0 : Int), false))
 ((winI l9 0 (lenN l9)).bnd (fun l11 =>
 (F_spec_InnerChains ((i0, l1), i8, l11)).bnd (fun (i12, b13) =>
 some (i12, b13))))))


def G_impl_OverlapChains (NN : Nat) : ((Int × (List (Int × (Int × (Int × (List Int)))))) × (Int × ((Int × (Int × (List Int))) × (Int × (List (Int × (Int × (Int × (List Int))))))))) → (Option (Int × Bool)) :=
 (fun (((i0, l1), i2, (i3, i4, l5), i6, l7) : ((Int × (List (Int × (Int × (Int × (List Int)))))) × (Int × ((Int × (Int × (List Int))) × (Int × (List (Int × (Int × (Int × (List Int)))))))))) =>
 (F_impl_ApplySite ((i6, l7), i2, i3, i4, l5)).bnd (fun ((i8, l9), b10) =>
 cnd (notB b10)
 (some ((0 : Int), false))
 ((winI l9 0 (lenN l9)).bnd (fun l11 =>
 (F_impl_InnerChains ((i0, l1), i8, l11)).bnd (fun (i12, b13) =>
 some (i12, b13))))))


theorem f_spec_OverlapChains (x : (Int × List Site) × Int × (Int × Int × List Int) × Int × List Site) (y : Int × Bool) (h : F_spec_OverlapChains x = some y) : G_spec_OverlapChains FUEL x = some y := by
  obtain ⟨⟨a0, a1⟩, k, ⟨x1, x2, xd⟩, b0, b1⟩ := x
  simp only [F_spec_OverlapChains] at h
  split at h
  · rename_i hs
    obtain ⟨h1, h2, h3⟩ := hs
    rw [← h]
    simp only [G_spec_OverlapChains, ovlR]
    rw [show F_spec_ApplySite ((b0, b1), k, x1, x2, xd) = some (appS b0 b1 k (x1, x2, xd)) from if_pos ⟨h3, h2⟩, bnd_s]
    have hz := appS_sz (k := k) (x := (x1, x2, xd)) h3
    generalize appS b0 b1 k (x1, x2, xd) = r at *
    obtain ⟨⟨r0, r1⟩, ok⟩ := r
    cases ok with
    | false => rfl
    | true =>
      simp only
      rw [cnd_f (by rfl), winI_id, bnd_s, show F_spec_InnerChains ((a0, a1), r0, r1) = some (innR (a0, a1) (r0, r1)) from if_pos ⟨h1, Nat.le_trans hz (by decide)⟩, bnd_s, if_pos trivial]
  · cases h
theorem f_impl_OverlapChains (x : (Int × List Site) × Int × (Int × Int × List Int) × Int × List Site) (y : Int × Bool) (h : F_impl_OverlapChains x = some y) : G_impl_OverlapChains FUEL x = some y := by
  obtain ⟨⟨a0, a1⟩, k, ⟨x1, x2, xd⟩, b0, b1⟩ := x
  simp only [F_impl_OverlapChains, F_spec_OverlapChains] at h
  split at h
  · rename_i hs
    obtain ⟨h1, h2, h3⟩ := hs
    rw [← h]
    simp only [G_impl_OverlapChains, ovlR]
    rw [show F_impl_ApplySite ((b0, b1), k, x1, x2, xd) = some (appS b0 b1 k (x1, x2, xd)) from if_pos ⟨h3, h2⟩, bnd_s]
    have hz := appS_sz (k := k) (x := (x1, x2, xd)) h3
    generalize appS b0 b1 k (x1, x2, xd) = r at *
    obtain ⟨⟨r0, r1⟩, ok⟩ := r
    cases ok with
    | false => rfl
    | true =>
      simp only
      rw [cnd_f (by rfl), winI_id, bnd_s, show F_impl_InnerChains ((a0, a1), r0, r1) = some (innR (a0, a1) (r0, r1)) from if_pos ⟨h1, Nat.le_trans hz (by decide)⟩, bnd_s, if_pos trivial]
  · cases h
end Go.Am
end
