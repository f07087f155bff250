/- M1, Mx, M4, M31, M6, M7, M8, M9, Fm, M14, M15, M16, M17, M19, M33, M36, M37, M5, M11, M22, M23, M24, M25, M26, M27, M18, M28, M32: parts of the proof. No condition. -/
import Derived.Test.YtdbokcfhhdkhiaaMT
set_option linter.unusedVariables false
set_option linter.unusedSimpArgs false
section
namespace Go.Am
end Go.Am
end
section
namespace Go.Am

/-! ### loops -/

/-! ### matrices -/

def genD (r c : Nat) (M : Nat → Nat → Int) : List Int := (List.range (r * c)).map fun n => M (n / c) (n % c)
def ofD (c : Nat) (l : List Int) : Nat → Nat → Int := fun i j => l.getD (i * c + j) 0
def updM (M : Nat → Nat → Int) (i j : Nat) (x : Int) : Nat → Nat → Int := fun a b => if a = i ∧ b = j then x else M a b

theorem idx_lt {r c i j : Nat} (hi : i < r) (hj : j < c) : i * c + j < r * c := by
  have : (i + 1) * c ≤ r * c := Nat.mul_le_mul_right _ hi
  rw [Nat.add_mul] at this
  omega
theorem idx_div {c i j : Nat} (hj : j < c) : (i * c + j) / c = i := by
  rw [Nat.mul_comm, Nat.mul_add_div (by omega), Nat.div_eq_of_lt hj, Nat.add_zero]
theorem idx_mod {c i j : Nat} (hj : j < c) : (i * c + j) % c = j := by
  rw [Nat.mul_comm, Nat.mul_add_mod, Nat.mod_eq_of_lt hj]
theorem genD_len (r c : Nat) (M : Nat → Nat → Int) : (genD r c M).length = r * c := by simp [genD]
theorem genD_get {r c i j : Nat} (M : Nat → Nat → Int) (hi : i < r) (hj : j < c) : (genD r c M)[i * c + j]? = some (M i j) := by
  unfold genD
  rw [List.getElem?_map, List.getElem?_range (idx_lt hi hj)]
  simp [idx_div hj, idx_mod hj]
theorem genD_congr {r c : Nat} {M M' : Nat → Nat → Int} (h : ∀ i, i < r → ∀ j, j < c → M i j = M' i j) : genD r c M = genD r c M' := by
  unfold genD
  refine List.map_congr_left fun n hn => ?_
  have hn := List.mem_range.1 hn
  have hc : 0 < c := by
    rcases Nat.eq_zero_or_pos c with h | h
    · subst h; simp at hn
    · exact h
  exact h _ ((Nat.div_lt_iff_lt_mul hc).2 hn) _ (Nat.mod_lt _ hc)
theorem genD_set {r c i j : Nat} (M : Nat → Nat → Int) (hj : j < c) (x : Int) : (genD r c M).set (i * c + j) x = genD r c (updM M i j x) := by
  apply List.ext_getElem?
  intro n
  rw [List.getElem?_set, genD_len]
  unfold genD
  simp only [List.getElem?_map]
  by_cases hn : n < r * c
  · rw [List.getElem?_range hn]
    have hc : 0 < c := by omega
    by_cases he : i * c + j = n
    · rw [if_pos he, if_pos (by omega)]
      subst he
      simp [updM, idx_div hj, idx_mod hj]
    · rw [if_neg he]
      simp only [Option.map_some, updM]
      rw [if_neg]
      rintro ⟨h1, h2⟩
      apply he
      rw [← h1, ← h2]
      have := Nat.div_add_mod n c
      rw [Nat.mul_comm] at this
      exact this
  · rw [List.getElem?_eq_none (by simp; omega)]
    by_cases he : i * c + j = n
    · rw [if_pos he, if_neg (by omega)]; rfl
    · rw [if_neg he]; rfl
theorem genD_of {r c : Nat} {l : List Int} (h : l.length = r * c) : genD r c (ofD c l) = l := by
  apply List.ext_getElem?
  intro n
  unfold genD
  simp only [List.getElem?_map]
  by_cases hn : n < r * c
  · rw [List.getElem?_range hn, List.getElem?_eq_getElem (by omega)]
    simp only [Option.map_some, ofD]
    have := Nat.div_add_mod n c
    rw [Nat.mul_comm] at this
    rw [this, List.getD_eq_getElem?_getD, List.getElem?_eq_getElem (by omega)]
    rfl
  · rw [List.getElem?_eq_none (by simp; omega), List.getElem?_eq_none (by omega)]
    rfl
theorem ofD_gen {r c i j : Nat} (M : Nat → Nat → Int) (hi : i < r) (hj : j < c) : ofD c (genD r c M) i j = M i j := by
  unfold ofD
  rw [List.getD_eq_getElem?_getD, genD_get M hi hj]
  rfl
theorem genD_rep (r c : Nat) (x : Int) : repL (r * c) x = genD r c (fun _ _ => x) := by
  unfold genD repL
  rw [List.map_const', List.length_range]
/-! ### indices as the program computes them -/

theorem idxI {i c j : Nat} (hi : i ≤ 1048576) (hc : c ≤ 1048576) (hj : j ≤ 1048576) : addI .i64 (mulI .i64 (i : Int) (c : Int)) (j : Int) = ((i * c + j : Nat) : Int) := by
  have h1 : i * c ≤ 1048576 * 1048576 := Nat.mul_le_mul hi hc
  have e : (i : Int) * (c : Int) = ((i * c : Nat) : Int) := by norm_cast
  rw [mulI, wrap_id (by omega) (by omega), addI_eq (by omega) (by omega), e]
  omega
theorem mulN {i c : Nat} (hi : i ≤ 1048576) (hc : c ≤ 1048576) : mulI .i64 (i : Int) (c : Int) = ((i * c : Nat) : Int) := by
  have h1 : i * c ≤ 1048576 * 1048576 := Nat.mul_le_mul hi hc
  have e : (i : Int) * (c : Int) = ((i * c : Nat) : Int) := by norm_cast
  rw [mulI, wrap_id (by omega) (by omega), e]
theorem getI_gen {r c i j : Nat} (M : Nat → Nat → Int) (hi : i < r) (hj : j < c) : getI (genD r c M) ((i * c + j : Nat) : Int) = some (M i j) := by rw [getI_nat, genD_get M hi hj]
theorem chkI_gen {r c i j : Nat} (M : Nat → Nat → Int) (hi : i < r) (hj : j < c) : chkI ((i * c + j : Nat) : Int) (lenN (genD r c M)) = some (i * c + j) := chkI_nat (by unfold lenN; rw [genD_len]; exact idx_lt hi hj)
theorem getN_gen {r c i j : Nat} (M : Nat → Nat → Int) (hi : i < r) (hj : j < c) : getN (genD r c M) (i * c + j) = some (M i j) := genD_get M hi hj
theorem setL_gen {r c i j : Nat} (M : Nat → Nat → Int) (hj : j < c) (x : Int) : setL (genD r c M) (i * c + j) x = genD r c (updM M i j x) := genD_set M hj x
theorem lenN_gen (r c : Nat) (M : Nat → Nat → Int) : lenN (genD r c M) = r * c := genD_len r c M
theorem fulI_gen (r c : Nat) (M M' : Nat → Nat → Int) : fulI 0 (lenN (genD r c M)) (lenN (genD r c M')) = some () := by rw [lenN_gen, lenN_gen]; exact fulI_id _
theorem samI_gen (r c : Nat) (M M' : Nat → Nat → Int) : samI (lenN (genD r c M)) (lenN (genD r c M')) = some () := by rw [lenN_gen, lenN_gen]; exact samI_ok rfl
theorem remN {a p : Int} (ha : 0 ≤ a) (hp : 0 < p) : remI a p = some (a % p) := by
  unfold remI
  rw [if_neg (by omega), Int.tmod_eq_emod_of_nonneg ha]
theorem ltN_t {i n : Nat} (h : i < n) : ltI (i : Int) (n : Int) = true := ltI_t (by omega)
theorem ltN_f {i n : Nat} (h : n ≤ i) : ltI (i : Int) (n : Int) = false := ltI_f (by omega)
theorem addN1 {i : Nat} (h : i ≤ 1048577) : addI .i64 (i : Int) 1 = ((i + 1 : Nat) : Int) := by rw [addI_eq (by omega) (by omega)]; omega

/-- Products modulo p. -/
def pOk (p : Int) : Prop := 2 ≤ p ∧ p ≤ 1000003
instance (p : Int) : Decidable (pOk p) := inferInstanceAs (Decidable (2 ≤ p ∧ p ≤ 1000003))
def inP (p x : Int) : Prop := 0 ≤ x ∧ x < p
instance (p x : Int) : Decidable (inP p x) := inferInstanceAs (Decidable (0 ≤ x ∧ x < p))

theorem emod_in {p : Int} (hp : pOk p) (a : Int) : inP p (a % p) := ⟨Int.emod_nonneg _ (by have := hp.1; omega), Int.emod_lt_of_pos _ (by have := hp.1; omega)⟩
theorem inP.le {p x : Int} (h : inP p x) : 0 ≤ x ∧ x ≤ p := ⟨h.1, Int.le_of_lt h.2⟩
theorem inP.s {p x : Int} (hp : pOk p) (h : inP p x) : 0 ≤ x ∧ x ≤ 1000003000000 := ⟨h.1, by have := h.2; have := hp.2; omega⟩
theorem prod_in {p a b : Int} (hp : pOk p) (ha : 0 ≤ a ∧ a ≤ p) (hb : 0 ≤ b ∧ b ≤ p) : 0 ≤ a * b ∧ a * b ≤ 1000006000009 := by
  refine ⟨Int.mul_nonneg ha.1 hb.1, ?_⟩
  have h1 := hp.2
  have := Int.mul_le_mul (show a ≤ 1000003 by omega) (show b ≤ 1000003 by omega) hb.1 (by omega)
  omega
theorem mulI_in {p a b : Int} (hp : pOk p) (ha : 0 ≤ a ∧ a ≤ p) (hb : 0 ≤ b ∧ b ≤ p) : mulI .i64 a b = a * b := by
  have := prod_in hp ha hb
  exact wrap_id (by omega) (by omega)
theorem macI {p s a b : Int} (hp : pOk p) (hs : 0 ≤ s ∧ s ≤ 1000003000000) (ha : 0 ≤ a ∧ a ≤ p) (hb : 0 ≤ b ∧ b ≤ p) : remI (addI .i64 s (mulI .i64 a b)) p = some ((s + a * b) % p) := by
  have h := prod_in hp ha hb
  rw [mulI_in hp ha hb, addI_eq (by omega) (by omega), remN (by omega) (by have := hp.1; omega)]
def dotF (p : Int) (f g : Nat → Int) : Nat → Int
  | 0 => 0
  | n + 1 => (dotF p f g n + f n * g n) % p

theorem dotF_in {p : Int} (hp : pOk p) (f g : Nat → Int) : ∀ n, inP p (dotF p f g n)
  | 0 => ⟨Int.le_refl _, by have := hp.1; show (0 : Int) < p; omega⟩
  | n + 1 => emod_in hp _

def mulF (p : Int) (k : Nat) (A B : Nat → Nat → Int) : Nat → Nat → Int := fun i j => dotF p (fun t => A i t) (fun t => B t j) k

/-- All of a matrix's elements are modulo p. -/
def inM (p : Int) (r c : Nat) (M : Nat → Nat → Int) : Prop := ∀ i, i < r → ∀ j, j < c → inP p (M i j)

def allP (p : Int) (l : List Int) : Prop := ∀ x ∈ l, inP p x
instance (p : Int) (l : List Int) : Decidable (allP p l) := inferInstanceAs (Decidable (∀ x ∈ l, inP p x))

theorem allP_gen {p : Int} {r c : Nat} {M : Nat → Nat → Int} : allP p (genD r c M) ↔ inM p r c M := by
  constructor
  · intro h i hi j hj
    exact h _ (List.mem_of_getElem? (genD_get M hi hj))
  · intro h x hx
    unfold genD at hx
    obtain ⟨n, hn, rfl⟩ := List.mem_map.1 hx
    have hn := List.mem_range.1 hn
    have hc : 0 < c := by
      rcases Nat.eq_zero_or_pos c with h | h
      · subst h; simp at hn
      · exact h
    exact h _ ((Nat.div_lt_iff_lt_mul hc).2 hn) _ (Nat.mod_lt _ hc)

/-- A matrix as the program has it. -/
def mOk (x : Int × Int × List Int) : Prop := (0 ≤ x.1 ∧ x.1 ≤ 4096) ∧ (0 ≤ x.2.1 ∧ x.2.1 ≤ 4096) ∧ (x.2.2.length : Int) = x.1 * x.2.1 ∧ x.2.2.length ≤ 1048576
instance (x : Int × Int × List Int) : Decidable (mOk x) := by unfold mOk; infer_instance

/-- What a matrix is. -/
theorem mOk_gen {x : Int × Int × List Int} (h : mOk x) : ∃ (r c : Nat) (M : Nat → Nat → Int), x = ((r : Int), (c : Int), genD r c M) ∧ r ≤ 4096 ∧ c ≤ 4096 ∧ r * c ≤ 1048576 := by
  obtain ⟨r, c, l⟩ := x
  obtain ⟨h1, h2, h3, h4⟩ := h
  simp only at h1 h2 h3 h4
  obtain ⟨r, rfl⟩ := natI_eq h1.1
  obtain ⟨c, rfl⟩ := natI_eq h2.1
  have e : l.length = r * c := by
    have : ((r : Int) * (c : Int)) = ((r * c : Nat) : Int) := by norm_cast
    rw [this] at h3; exact_mod_cast h3
  exact ⟨r, c, ofD c l, by rw [genD_of e], by omega, by omega, by omega⟩

theorem mOk_mk {r c : Nat} (M : Nat → Nat → Int) (hr : r ≤ 4096) (hc : c ≤ 4096) (h : r * c ≤ 1048576) : mOk ((r : Int), (c : Int), genD r c M) := by
  refine ⟨⟨by omega, by show (r : Int) ≤ 4096; omega⟩, ⟨by show (0 : Int) ≤ c; omega, by show (c : Int) ≤ 4096; omega⟩, ?_, ?_⟩
  · simp only [genD_len]; norm_cast
  · simp only [genD_len]; exact h

end Go.Am
end
section
namespace Go.Am

/-! ### primes, rows, matrices, automata -/

def divAt (n : Int) (i : Nat) : Bool := decide ((i : Int) * i ≤ n) && decide (n % (i : Int) = 0)
def isPrimeI (n : Int) : Bool := decide (2 ≤ n ∧ n ≤ 1000003) && !((List.range' 2 999).any (divAt n))
def F_impl_IsPrime : Int → Option Bool := fun (n : Int) => some (isPrimeI n)
def inB (m : Int) (v : Int) : Bool := decide (0 ≤ v ∧ v < m)
def rowOk (m : Int) (l : List Int) : Bool := l.all (inB m)
def F_impl_inMod : Int × List Int → Option Bool := fun ((m, l) : Int × List Int) => if l.length ≤ 1048576 then some (rowOk m l) else none
def matOk (m : Int) (x : Int × Int × List Int) : Bool := isPrimeI m && (decide (0 ≤ x.1 ∧ x.1 ≤ 64) && (decide (0 ≤ x.2.1 ∧ x.2.1 ≤ 64) && (decide ((x.2.2.length : Int) = x.1 * x.2.1) && rowOk m x.2.2)))
def F_impl_MatrixOk : Int × Int × Int × List Int → Option Bool := fun ((m, x) : Int × Int × Int × List Int) => if sz_Matrix x ≤ 1048576 then some (matOk m x) else none
def matsOk (m n : Int) (x : Int × Int × List Int) : Bool := matOk m x && (decide (x.1 = n) && decide (x.2.1 = n))
def autOk (x : Int × Int × List Int × List (Int × Int × List Int) × List Int) : Bool := match x with
  | (m, n, a, ms, b) => isPrimeI m && (decide (0 ≤ n ∧ n ≤ 12) && ((rowOk m a && decide ((a.length : Int) = n)) && ((rowOk m b && decide ((b.length : Int) = n)) && (decide (1 ≤ ms.length ∧ ms.length ≤ 4) && ms.all (matsOk m n)))))
def F_impl_AutomatonOk : Int × Int × List Int × List (Int × Int × List Int) × List Int → Option Bool := fun x => if sz_Automaton x ≤ 1048576 then some (autOk x) else none

def ag_impl_IsPrime : Sig := [(.one, [.int .i64])]
def rs_impl_IsPrime : Sig := [(.one, [.bool])]
def mu_impl_IsPrime : MSig := []
def ag_impl_inMod : Sig := [(.one, [.int .i64]), (.one, [.list [.int .i64]])]
def rs_impl_inMod : Sig := [(.one, [.bool])]
def mu_impl_inMod : MSig := []
def ag_impl_MatrixOk : Sig := [(.one, [.int .i64]), (.agg, [.int .i64, .int .i64, .list [.int .i64]])]
def rs_impl_MatrixOk : Sig := [(.one, [.bool])]
def mu_impl_MatrixOk : MSig := []
def ag_impl_AutomatonOk : Sig := [(.agg, [.int .i64, .int .i64, .list [.int .i64], .list [.int .i64, .int .i64, .list [.int .i64]], .list [.int .i64]])]
def rs_impl_AutomatonOk : Sig := [(.one, [.bool])]
def mu_impl_AutomatonOk : MSig := []

def G_impl_IsPrime (NN : Nat) : Int → (Option Bool) :=
 (fun (i0 : Int) =>
 cnd (ltI i0 (2 : Int))
 (some false)
 (cnd (ltI (1000003 : Int) i0)
 (some false)
 (joinK (loopT NN (fun ((i1, i2) : (Int × Int)) =>
 cnd (leI (mulI .i64 i2 i2) i1)
 ((remI i1 i2).bnd (fun i3 =>
 cnd (eqI i3 (0 : Int))
 (some (Sum.inr (Sum.inr false)))
 (some (Sum.inl (i1, addI .i64 i2 1)))))
 (some (Sum.inr (Sum.inl ()))))
 (i0, (2 : Int)))
 (fun _ =>
 some true))))

def G_impl_inMod (NN : Nat) : (Int × (List Int)) → (Option Bool) :=
 (fun ((i0, l1) : (Int × (List Int))) =>
 joinK (loopT NN (fun ((i2, l3, i4, i5) : (Int × ((List Int) × (Int × Int)))) =>
 cnd (ltI i5 i4)
 ((getI l3 i5).bnd (fun i6 =>
 cnd (ltI i6 (0 : Int))
 (some (Sum.inr (Sum.inr false)))
 (cnd (leI i2 i6)
 (some (Sum.inr (Sum.inr false)))
 (some (Sum.inl (i2, l3, i4, addI .i64 i5 1))))))
 (some (Sum.inr (Sum.inl ()))))
 (i0, l1, natI (lenN l1), (0 : Int)))
 (fun _ =>
 some true))

def G_impl_MatrixOk (NN : Nat) : (Int × (Int × (Int × (List Int)))) → (Option Bool) :=
 (fun ((i0, i1, i2, l3) : (Int × (Int × (Int × (List Int))))) =>
 (F_impl_IsPrime i0).bnd (fun b4 =>
 cnd (notB b4)
 (some false)
 (cnd (ltI i1 (0 : Int))
 (some false)
 (cnd (ltI i2 (0 : Int))
 (some false)
 (cnd (ltI (64 : Int) i1)
 (some false)
 (cnd (ltI (64 : Int) i2)
 (some false)
 (cnd (eqI (natI (lenN l3)) (mulI .i64 i1 i2))
 ((F_impl_inMod (i0, l3)).bnd (fun b5 =>
 some b5))
 (some false))))))))

def G_impl_AutomatonOk (NN : Nat) : (Int × (Int × ((List Int) × ((List (Int × (Int × (List Int)))) × (List Int))))) → (Option Bool) :=
 (fun ((i0, i1, l2, l3, l4) : (Int × (Int × ((List Int) × ((List (Int × (Int × (List Int)))) × (List Int)))))) =>
 (F_impl_IsPrime i0).bnd (fun b5 =>
 cnd (notB b5)
 (some false)
 (cnd (ltI i1 (0 : Int))
 (some false)
 (cnd (ltI (12 : Int) i1)
 (some false)
 (cnd (neI (natI (lenN l2)) i1)
 (some false)
 (cnd (neI (natI (lenN l4)) i1)
 (some false)
 ((F_impl_inMod (i0, l2)).bnd (fun b6 =>
 cnd (notB b6)
 (some false)
 ((F_impl_inMod (i0, l4)).bnd (fun b7 =>
 cnd (notB b7)
 (some false)
 (cnd (ltI (natI (lenN l3)) (1 : Int))
 (some false)
 (cnd (ltI (4 : Int) (natI (lenN l3)))
 (some false)
 (joinK (loopT NN (fun (((l8, i9, i10), i11, i12, l13, l14, l15) : (((List (Int × (Int × (List Int)))) × (Int × Int)) × (Int × (Int × ((List Int) × ((List (Int × (Int × (List Int)))) × (List Int))))))) =>
 cnd (ltI i10 i9)
 ((getI l8 i10).bnd (fun (i16, i17, l18) =>
 (F_impl_MatrixOk (i11, i16, i17, l18)).bnd (fun b19 =>
 cnd (notB b19)
 (some (Sum.inr (Sum.inr false)))
 (cnd (neI i16 i12)
 (some (Sum.inr (Sum.inr false)))
 (cnd (neI i17 i12)
 (some (Sum.inr (Sum.inr false)))
 (some (Sum.inl ((l8, i9, addI .i64 i10 1), i11, i12, l13, l14, l15))))))))
 (some (Sum.inr (Sum.inl ()))))
 ((l3, natI (lenN l3), (0 : Int)), i0, i1, l2, l3, l4))
 (fun _ =>
 some true))))))))))))))



theorem mulI_eq {a b : Int} (h1 : -9223372036854775808 ≤ a * b) (h2 : a * b ≤ 9223372036854775807) : mulI .i64 a b = a * b := wrap_id h1 h2
theorem remI_nat {n : Int} {i : Nat} (hn : 0 ≤ n) (hi : 0 < i) : remI n (i : Int) = some (n % (i : Int)) := by
  unfold remI
  rw [if_neg (by omega), Int.tmod_eq_emod_of_nonneg hn]

theorem sq_le {i j : Nat} (h : i ≤ j) : (i : Int) * i ≤ (j : Int) * j := by
  have := Nat.mul_le_mul h h
  exact_mod_cast this

/-- The search for a divisor. -/
theorem div_loop {X Y : Type} {f : X → Option (X ⊕ (Y ⊕ Bool))} (n : Int) (mk : Nat → X) (r : Y) (hn : n ≤ 1000003)
    (h1 : ∀ i : Nat, 2 ≤ i → i ≤ 1001 → (i : Int) * i ≤ n → n % (i : Int) = 0 → f (mk i) = some (.inr (.inr false)))
    (h2 : ∀ i : Nat, 2 ≤ i → i ≤ 1001 → (i : Int) * i ≤ n → n % (i : Int) ≠ 0 → f (mk i) = some (.inl (mk (i + 1))))
    (h3 : ∀ i : Nat, 2 ≤ i → i ≤ 1001 → ¬ (i : Int) * i ≤ n → f (mk i) = some (.inr (.inl r))) {x0 : X} (hx : x0 = mk 2) :
    loopT FUEL f x0 = some (if (List.range' 2 999).any (divAt n) = true then .inr false else .inl r) := by
  subst hx
  have key : ∀ (d i : Nat), 2 ≤ i → i + d = 1001 → ∀ N, d < N → loopT N f (mk i) = some (if (List.range' i d).any (divAt n) = true then .inr false else .inl r) := by
    intro d
    induction d with
    | zero =>
      intro i hi hd N hN
      obtain ⟨N, rfl⟩ : ∃ M, N = M + 1 := ⟨N - 1, by omega⟩
      have : i = 1001 := by omega
      subst this
      rw [loopT, h3 1001 (by omega) (by omega) (by omega)]
      rfl
    | succ d ih =>
      intro i hi hd N hN
      obtain ⟨N, rfl⟩ : ∃ M, N = M + 1 := ⟨N - 1, by omega⟩
      rw [List.range'_succ, List.any_cons]
      by_cases hle : (i : Int) * i ≤ n
      · by_cases hm : n % (i : Int) = 0
        · rw [loopT, h1 i hi (by omega) hle hm]
          simp [divAt, hle, hm]
        · rw [loopT, h2 i hi (by omega) hle hm]
          simp only
          rw [ih (i + 1) (by omega) (by omega) N (by omega), show divAt n i = false by simp [divAt, hm], Bool.false_or]
      · rw [loopT, h3 i hi (by omega) hle]
        have : (List.range' (i + 1) d).any (divAt n) = false := by
          rw [List.any_eq_false]
          intro j hj
          have := (List.mem_range'_1.1 hj).1
          have := sq_le (show i ≤ j by omega)
          simp only [divAt, Bool.and_eq_true, decide_eq_true_eq, not_and]
          intro h; omega
        simp only
        rw [this]
        simp [divAt, hle]
  exact key 999 2 (by omega) (by omega) FUEL (FUEL_gt (by omega))

theorem sq_le1001 {i : Nat} (h : i ≤ 1001) : 0 ≤ (i : Int) * i ∧ (i : Int) * i ≤ 1002001 := by
  have h1 := sq_le h
  have h0 := sq_le (Nat.zero_le i)
  omega

theorem f_impl_IsPrime (x : Int) (y : Bool) (h : F_impl_IsPrime x = some y) : G_impl_IsPrime FUEL x = some y := by
  rw [← h]
  simp only [F_impl_IsPrime, G_impl_IsPrime]
  by_cases h2 : x < 2
  · rw [cnd_t (ltI_t h2), isPrimeI, decide_eq_false (by omega)]; rfl
  rw [cnd_f (ltI_f (by omega))]
  by_cases hx : 1000003 < x
  · rw [cnd_t (ltI_t hx), isPrimeI, decide_eq_false (by omega)]; rfl
  rw [cnd_f (ltI_f (by omega))]
  rw [div_loop x (fun i => (x, (i : Int))) () (by omega) ?_ ?_ ?_ ?_]
  · have hr : (2 ≤ x ∧ x ≤ 1000003) := by omega
    by_cases hd : (List.range' 2 999).any (divAt x) = true
    · rw [if_pos hd, joinK_r, isPrimeI, hd]
      simp
    · rw [if_neg hd, joinK_l, isPrimeI]
      simp [hd, hr]
  all_goals try simp only
  · intro i h2 hi hle hm
    have hs := sq_le1001 hi
    rw [mulI_eq (by omega) (by omega), cnd_t (leI_t hle), remI_nat (by omega) (by omega), bnd_s, cnd_t (eqI_t hm)]
  · intro i h2 hi hle hm
    have hs := sq_le1001 hi
    rw [mulI_eq (by omega) (by omega), cnd_t (leI_t hle), remI_nat (by omega) (by omega), bnd_s, cnd_f (eqI_f hm), addI_eq (by omega) (by omega)]
    rfl
  · intro i h2 hi hle
    have hs := sq_le1001 hi
    rw [mulI_eq (by omega) (by omega), cnd_f (leI_f (by omega))]
  · rfl

theorem f_impl_inMod (x : Int × List Int) (y : Bool) (h : F_impl_inMod x = some y) : G_impl_inMod FUEL x = some y := by
  obtain ⟨m, l⟩ := x
  simp only [F_impl_inMod] at h
  split at h
  · rename_i hl
    rw [← h]
    simp only [G_impl_inMod]
    rw [loopT_all (mk := fun i => (m, l, natI (lenN l), (i : Int))) l (inB m) (Sum.inr false) (Sum.inl ()) ?_ ?_ ?_ ?_ (FUEL_gt (by omega))]
    · unfold rowOk
      cases l.all (inB m) <;> rfl
    all_goals try simp only
    · intro i a ha hp
      have hp := of_decide_eq_true hp
      rw [cnd_t (ltI_in ha), getI_nat, ha, bnd_s, cnd_f (ltI_f (by omega)), cnd_f (leI_f (by omega)), next_i ha (by omega)]
    · intro i a ha hp
      have hp := of_decide_eq_false hp
      rw [cnd_t (ltI_in ha), getI_nat, ha, bnd_s]
      by_cases h0 : a < 0
      · rw [cnd_t (ltI_t h0)]
      · rw [cnd_f (ltI_f (by omega)), cnd_t (leI_t (by omega))]
    · rw [cnd_f (ltI_end l)]
    · rfl
  · cases h

theorem isPrimeI_t {m : Int} (h : isPrimeI m = true) : 2 ≤ m ∧ m ≤ 1000003 := by
  simp only [isPrimeI, Bool.and_eq_true, decide_eq_true_eq] at h
  exact h.1

theorem f_impl_MatrixOk (x : Int × Int × Int × List Int) (y : Bool) (h : F_impl_MatrixOk x = some y) : G_impl_MatrixOk FUEL x = some y := by
  obtain ⟨m, r, c, l⟩ := x
  simp only [F_impl_MatrixOk] at h
  split at h
  · rename_i hl
    rw [← h]
    have hl : l.length ≤ 1048576 := hl
    simp only [G_impl_MatrixOk, F_impl_IsPrime, bnd_s, matOk]
    cases hp : isPrimeI m with
    | false => rfl
    | true =>
      rw [cnd_f (by rfl), Bool.true_and]
      by_cases h1 : r < 0
      · rw [cnd_t (ltI_t h1), decide_eq_false (by omega)]; rfl
      rw [cnd_f (ltI_f (by omega))]
      by_cases h2 : c < 0
      · rw [cnd_t (ltI_t h2), decide_eq_false (p := 0 ≤ c ∧ c ≤ 64) (by omega)]; simp
      rw [cnd_f (ltI_f (by omega))]
      by_cases h3 : 64 < r
      · rw [cnd_t (ltI_t h3), decide_eq_false (by omega)]; rfl
      rw [cnd_f (ltI_f (by omega))]
      by_cases h4 : 64 < c
      · rw [cnd_t (ltI_t h4), decide_eq_false (p := 0 ≤ c ∧ c ≤ 64) (by omega)]; simp
      rw [cnd_f (ltI_f (by omega)), decide_eq_true (p := 0 ≤ r ∧ r ≤ 64) (by omega), decide_eq_true (p := 0 ≤ c ∧ c ≤ 64) (by omega), Bool.true_and, Bool.true_and]
      obtain ⟨r, rfl⟩ := natI_eq (z := r) (by omega)
      obtain ⟨c, rfl⟩ := natI_eq (z := c) (by omega)
      have hrc : r * c ≤ 64 * 64 := Nat.mul_le_mul (by omega) (by omega)
      have hrc' : (r : Int) * (c : Int) = ((r * c : Nat) : Int) := by norm_cast
      rw [mulI_eq (by omega) (by omega), show F_impl_inMod (m, l) = some (rowOk m l) from if_pos hl]
      by_cases h5 : (l.length : Int) = (r : Int) * c
      · rw [cnd_t (show eqI (natI (lenN l)) _ = true from eqI_t h5), decide_eq_true h5]; rfl
      · rw [cnd_f (show eqI (natI (lenN l)) _ = false from eqI_f h5), decide_eq_false h5]; rfl
  · cases h

theorem sz_Automaton_le {m n : Int} {a : List Int} {ms : List (Int × Int × List Int)} {b : List Int} (h : sz_Automaton (m, n, a, ms, b) ≤ 1048576) : a.length ≤ 1048576 ∧ b.length ≤ 1048576 ∧ ms.length ≤ 1048576 ∧ ∀ e ∈ ms, sz_Matrix e ≤ 1048576 := by
  have h1 : a.length + sz_MatrixS ms + b.length ≤ 1048576 := h
  have h2 := sz_MatrixS_mem (l := ms) (by omega)
  exact ⟨by omega, by omega, h2.1, h2.2⟩

theorem f_impl_AutomatonOk (x : Int × Int × List Int × List (Int × Int × List Int) × List Int) (y : Bool) (h : F_impl_AutomatonOk x = some y) : G_impl_AutomatonOk FUEL x = some y := by
  obtain ⟨m, n, a, ms, b⟩ := x
  simp only [F_impl_AutomatonOk] at h
  split at h
  · rename_i hl
    rw [← h]
    obtain ⟨ha, hb, hms, hmm⟩ := sz_Automaton_le hl
    simp only [G_impl_AutomatonOk, F_impl_IsPrime, bnd_s, autOk]
    cases hp : isPrimeI m with
    | false => rfl
    | true =>
      have hm := isPrimeI_t hp
      rw [cnd_f (by rfl), Bool.true_and]
      by_cases h0 : n < 0
      · rw [cnd_t (ltI_t h0), decide_eq_false (by omega)]; rfl
      rw [cnd_f (ltI_f (by omega))]
      by_cases h1 : 12 < n
      · rw [cnd_t (ltI_t h1), decide_eq_false (by omega)]; rfl
      rw [cnd_f (ltI_f (by omega)), decide_eq_true (p := 0 ≤ n ∧ n ≤ 12) (by omega), Bool.true_and]
      by_cases e1 : (a.length : Int) = n
      rotate_left
      · rw [cnd_t (show neI (natI (lenN a)) _ = true from neI_t e1), decide_eq_false e1, Bool.and_false, Bool.false_and]
      rw [cnd_f (show neI (natI (lenN a)) _ = false from neI_f e1), decide_eq_true e1, Bool.and_true]
      by_cases e2 : (b.length : Int) = n
      rotate_left
      · rw [cnd_t (show neI (natI (lenN b)) _ = true from neI_t e2), decide_eq_false e2, Bool.and_false, Bool.false_and, Bool.and_false]
      rw [cnd_f (show neI (natI (lenN b)) _ = false from neI_f e2), decide_eq_true e2, Bool.and_true]
      rw [show F_impl_inMod (m, a) = some (rowOk m a) from if_pos ha, bnd_s]
      rw [show F_impl_inMod (m, b) = some (rowOk m b) from if_pos hb, bnd_s]
      cases rowOk m a with
      | false => rfl
      | true =>
      rw [cnd_f (by rfl), Bool.true_and]
      cases rowOk m b with
      | false => rfl
      | true =>
      rw [cnd_f (by rfl), Bool.true_and]
      by_cases h2 : ms.length < 1
      · rw [cnd_t (ltI_t (by have := nl ms; omega)), decide_eq_false (by omega)]; rfl
      rw [cnd_f (ltI_f (by have := nl ms; omega))]
      by_cases h3 : 4 < ms.length
      · rw [cnd_t (ltI_t (by have := nl ms; omega)), decide_eq_false (by omega)]; rfl
      rw [cnd_f (ltI_f (by have := nl ms; omega)), decide_eq_true (by omega), Bool.true_and]
      rw [loopT_all (mk := fun i => ((ms, natI (lenN ms), (i : Int)), m, n, a, ms, b)) ms (matsOk m n) (Sum.inr false) (Sum.inl ()) ?_ ?_ ?_ ?_ (FUEL_gt (by omega))]
      · cases ms.all (matsOk m n) <;> rfl
      all_goals try simp only
      · rintro i ⟨r, c, l⟩ hi hp
        simp only [matsOk, Bool.and_eq_true, decide_eq_true_eq] at hp
        obtain ⟨p1, p2, p3⟩ := hp
        rw [cnd_t (ltI_in hi), getI_nat, hi, bnd_s]
        simp only
        rw [show F_impl_MatrixOk (m, r, c, l) = some (matOk m (r, c, l)) from if_pos (hmm _ (List.mem_of_getElem? hi)), bnd_s, p1, cnd_f (by rfl), cnd_f (neI_f p2), cnd_f (neI_f p3), next_i hi (by omega)]
      · rintro i ⟨r, c, l⟩ hi hp
        rw [cnd_t (ltI_in hi), getI_nat, hi, bnd_s]
        simp only
        rw [show F_impl_MatrixOk (m, r, c, l) = some (matOk m (r, c, l)) from if_pos (hmm _ (List.mem_of_getElem? hi)), bnd_s]
        cases p1 : matOk m (r, c, l) with
        | false => rw [cnd_t (by rfl)]
        | true =>
          rw [cnd_f (by rfl)]
          by_cases p2 : r = n
          · rw [cnd_f (neI_f p2)]
            by_cases p3 : c = n
            · simp [matsOk, p1, p2, p3] at hp
              rw [p2, p3] at p1
              rw [p1] at hp
              cases hp
            · rw [cnd_t (neI_t p3)]
          · rw [cnd_t (neI_t p2)]
      · rw [cnd_f (ltI_end ms)]
      · rfl
  · cases h

end Go.Am
end
section
namespace Go.Am

/-! ### rings -/

def ringOk : Int × Int × Int → Bool := fun ((k, p, n) : Int × Int × Int) =>
  if k = 1 then decide (p = 0 ∧ n = 0) else if k = 2 then isPrimeI p && decide (n = 0) else if k = 3 ∨ k = 4 ∨ k = 5 then decide ((1 ≤ p ∧ p ≤ 1000000) ∧ n = 0)
  else if k = 6 then decide (p = 0 ∧ 1 ≤ n ∧ n ≤ 20) else if k = 7 then isPrimeI p && decide (1 ≤ n ∧ n ≤ 6) else if k = 8 then isPrimeI p && decide (p ≠ 2 ∧ n = 0) else false
def widI : Int × Int × Int → Int := fun ((k, p, n) : Int × Int × Int) => if k = 7 then n else if k = 8 then 4 else 1
def widN (r : Int × Int × Int) : Nat := (widI r).toNat
def topI : Int × Int × Int → Int := fun ((k, p, n) : Int × Int × Int) => if k = 1 then 1 else if k = 3 ∨ k = 4 ∨ k = 5 then p else if k = 6 then 2 ^ n.toNat - 1 else p - 1
def inTop (t v : Int) : Bool := decide (0 ≤ v ∧ v ≤ t)
def elOk (r : Int × Int × Int) (x : List Int) : Bool := decide (x.length = widN r) && x.all (inTop (topI r))
def oneE : Int × Int × Int → List Int := fun ((k, p, n) : Int × Int × Int) => setL (repL (widN (k, p, n)) 0) 0 (if k = 4 then 0 else if k = 5 ∨ k = 6 then topI (k, p, n) else 1)
def sm : Nat → (Nat → Int) → Int
  | 0, _ => 0
  | n + 1, f => sm n f + f n
def kW (om : Bool) (x y : Nat → Int) (t i j : Nat) : Int := if i + j = t then x i * y j else if om = true ∧ i + j = t + 4 then -(x i * y j) else 0
def tab (w : Nat) (f : Nat → Int) : List Int := (List.range w).map f
def fnL (x : List Int) : Nat → Int := fun i => x.getD i 0
def cvE (p : Int) (om : Bool) (w : Nat) (x y : Nat → Int) : List Int := tab w fun t => sm w (fun i => sm w (fun j => kW om x y t i j)) % p
def opM : Int × Int × Int → Int → Int → Int := fun ((k, p, n) : Int × Int × Int) a b =>
  if k = 1 ∨ k = 6 then ((a.toNat &&& b.toNat : Nat) : Int) else if k = 2 then a * b % p else if k = 3 then min (a * b) p else if k = 4 then min (a + b) p else min a b
def mulE (r : Int × Int × Int) (x y : List Int) : List Int := if r.1 = 7 ∨ r.1 = 8 then cvE r.2.1 (decide (r.1 = 8)) (widN r) (fnL x) (fnL y) else [opM r (fnL x 0) (fnL y 0)]
theorem cnd_eqI {α : Type} (a b : Int) (x y : α) : cnd (eqI a b) x y = if a = b then x else y := by
  by_cases h : a = b
  · rw [if_pos h, cnd_t (eqI_t h)]
  · rw [if_neg h, cnd_f (eqI_f h)]
theorem ring_cases {k p n : Int} (h : ringOk (k, p, n) = true) : (k = 1 ∧ p = 0 ∧ n = 0) ∨ (k = 2 ∧ isPrimeI p = true ∧ n = 0) ∨ (k = 3 ∧ (1 ≤ p ∧ p ≤ 1000000) ∧ n = 0) ∨ (k = 4 ∧ (1 ≤ p ∧ p ≤ 1000000) ∧ n = 0) ∨ (k = 5 ∧ (1 ≤ p ∧ p ≤ 1000000) ∧ n = 0) ∨
    (k = 6 ∧ p = 0 ∧ 1 ≤ n ∧ n ≤ 20) ∨ (k = 7 ∧ isPrimeI p = true ∧ 1 ≤ n ∧ n ≤ 6) ∨ (k = 8 ∧ isPrimeI p = true ∧ p ≠ 2 ∧ n = 0) := by
  simp only [ringOk] at h
  by_cases h1 : k = 1
  · rw [if_pos h1] at h; exact .inl ⟨h1, by simpa using h⟩
  rw [if_neg h1] at h
  by_cases h2 : k = 2
  · rw [if_pos h2] at h; simp at h; exact .inr (.inl ⟨h2, h⟩)
  rw [if_neg h2] at h
  by_cases h3 : k = 3 ∨ k = 4 ∨ k = 5
  · rw [if_pos h3] at h
    simp only [decide_eq_true_eq] at h
    rcases h3 with h3 | h3 | h3
    · exact .inr (.inr (.inl ⟨h3, h⟩))
    · exact .inr (.inr (.inr (.inl ⟨h3, h⟩)))
    · exact .inr (.inr (.inr (.inr (.inl ⟨h3, h⟩))))
  rw [if_neg h3] at h
  by_cases h4 : k = 6
  · rw [if_pos h4] at h; simp at h; exact .inr (.inr (.inr (.inr (.inr (.inl ⟨h4, h⟩)))))
  rw [if_neg h4] at h
  by_cases h5 : k = 7
  · rw [if_pos h5] at h; simp at h; exact .inr (.inr (.inr (.inr (.inr (.inr (.inl ⟨h5, h⟩))))))
  rw [if_neg h5] at h
  by_cases h6 : k = 8
  · rw [if_pos h6] at h; simp at h; exact .inr (.inr (.inr (.inr (.inr (.inr (.inr ⟨h6, h⟩))))))
  rw [if_neg h6] at h
  cases h

theorem wid_bd {r : Int × Int × Int} (h : ringOk r = true) : widI r = (widN r : Int) ∧ 1 ≤ widN r ∧ widN r ≤ 6 := by
  obtain ⟨k, p, n⟩ := r
  rcases ring_cases h with ⟨rfl, rfl, rfl⟩ | ⟨rfl, hp, rfl⟩ | ⟨rfl, hp, rfl⟩ | ⟨rfl, hp, rfl⟩ | ⟨rfl, hp, rfl⟩ | ⟨rfl, rfl, hn⟩ | ⟨rfl, hp, hn⟩ | ⟨rfl, hp, hp2, rfl⟩
  · simp [widN, widI]
  · simp [widN, widI]
  · simp [widN, widI]
  · simp [widN, widI]
  · simp [widN, widI]
  · simp [widN, widI]
  · simp [widN, widI]; omega
  · simp [widN, widI]

theorem rep_set {w : Nat} {p : Int} (h : w = 1) : setL (repL w (0 : Int)) 0 p = [p] := by subst h; rfl

/-! ### lists by their places -/

theorem tab_len (w : Nat) (f : Nat → Int) : (tab w f).length = w := by simp [tab]
theorem tab_get {w j : Nat} (f : Nat → Int) (h : j < w) : (tab w f)[j]? = some (f j) := by simp [tab, h]
theorem tab_congr {w : Nat} {f g : Nat → Int} (h : ∀ j, j < w → f j = g j) : tab w f = tab w g := List.map_congr_left fun j hj => h j (List.mem_range.1 hj)
theorem tab_set {w : Nat} (f : Nat → Int) (j : Nat) (v : Int) : (tab w f).set j v = tab w (fun i => if i = j then v else f i) := by
  apply List.ext_getElem?
  intro i
  by_cases hi : i < w
  · rw [tab_get _ hi]
    by_cases hj : j = i
    · subst hj
      rw [List.getElem?_set_self (by rw [tab_len]; exact hi), if_pos rfl]
    · rw [List.getElem?_set_ne hj, tab_get _ hi, if_neg (fun e => hj e.symm)]
  · rw [List.getElem?_eq_none (by rw [List.length_set, tab_len]; omega), List.getElem?_eq_none (by rw [tab_len]; omega)]
theorem fnL_get {x : List Int} {j : Nat} (h : j < x.length) : x[j]? = some (fnL x j) := by
  rw [List.getElem?_eq_getElem h]
  simp [fnL, List.getD_eq_getElem?_getD, List.getElem?_eq_getElem h]
theorem fnL_tab {w j : Nat} (f : Nat → Int) (h : j < w) : fnL (tab w f) j = f j := by simp [fnL, List.getD_eq_getElem?_getD, tab_get f h]
theorem tab_fnL {x : List Int} {w : Nat} (h : x.length = w) : tab w (fnL x) = x := by
  subst h
  apply List.ext_getElem?
  intro i
  by_cases hi : i < x.length
  · rw [tab_get _ hi, fnL_get hi]
  · rw [List.getElem?_eq_none (by rw [tab_len]; omega), List.getElem?_eq_none (by omega)]
theorem tab_rep (w : Nat) (c : Int) : repL w c = tab w fun _ => c := by
  apply List.ext_getElem?
  intro i
  by_cases hi : i < w
  · rw [tab_get _ hi]; simp [repL, hi]
  · rw [List.getElem?_eq_none (by simp [repL]; omega), List.getElem?_eq_none (by rw [tab_len]; omega)]
/-! ### elements -/

theorem el_len {r : Int × Int × Int} {x : List Int} (h : elOk r x = true) : x.length = widN r := by
  simp only [elOk, Bool.and_eq_true, decide_eq_true_eq] at h; exact h.1
theorem el_at {r : Int × Int × Int} {x : List Int} (h : elOk r x = true) {j : Nat} (hj : j < widN r) : 0 ≤ fnL x j ∧ fnL x j ≤ topI r := by
  simp only [elOk, Bool.and_eq_true, decide_eq_true_eq] at h
  have := List.all_eq_true.1 h.2 (fnL x j) (List.mem_of_getElem? (fnL_get (by rw [h.1]; exact hj)))
  simpa [inTop] using this
theorem el_one {r : Int × Int × Int} {x : List Int} (h : elOk r x = true) (hw : widN r = 1) : x = [fnL x 0] ∧ 0 ≤ fnL x 0 ∧ fnL x 0 ≤ topI r := by
  have hl := el_len h
  rw [hw] at hl
  match x, hl with
  | [a], _ => exact ⟨rfl, el_at h (j := 0) (by omega)⟩
theorem remI_pos {a p : Int} (ha : 0 ≤ a) (hp : 0 < p) : remI a p = some (a % p) := by
  obtain ⟨m, rfl⟩ := natI_eq (z := p) (by omega)
  exact remI_nat ha (by omega)

/-! ### products of coefficients -/

theorem sm_congr {f g : Nat → Int} : ∀ {n : Nat}, (∀ i, i < n → f i = g i) → sm n f = sm n g
  | 0, _ => rfl
  | n + 1, h => by simp only [sm]; rw [sm_congr (n := n) (fun i hi => h i (by omega)), h n (by omega)]

/-- What is asked of a ring of coefficients. -/
structure CfR (k p : Int) (w : Nat) : Prop where
  ck : k = 7 ∨ k = 8
  cp : 2 ≤ p ∧ p ≤ 1000003
  cw : 1 ≤ w ∧ w ≤ 6
  w8 : k = 8 → w = 4

theorem cf_of {k p n : Int} (h : ringOk (k, p, n) = true) (hk : k = 7 ∨ k = 8) : CfR k p (widN (k, p, n)) := by
  have hw := wid_bd h
  refine ⟨hk, ?_, hw.2, fun e => by subst e; rfl⟩
  rcases ring_cases h with ⟨rfl, rfl, rfl⟩ | ⟨rfl, hp, rfl⟩ | ⟨rfl, hp, rfl⟩ | ⟨rfl, hp, rfl⟩ | ⟨rfl, hp, rfl⟩ | ⟨rfl, rfl, hn⟩ | ⟨rfl, hp, hn⟩ | ⟨rfl, hp, hp2, rfl⟩
  all_goals first | exact isPrimeI_t hp | (exfalso; omega)

theorem mulE_1 {r : Int × Int × Int} {a b : Int} (h : ¬ (r.1 = 7 ∨ r.1 = 8)) : mulE r [a] [b] = [opM r a b] := by simp only [mulE]; rw [if_neg h]; rfl

theorem el_two {r : Int × Int × Int} {x y : List Int} (hx : elOk r x = true) (hy : elOk r y = true) (hw : widN r = 1) : ∃ a b, x = [a] ∧ y = [b] ∧ (0 ≤ a ∧ a ≤ topI r) ∧ 0 ≤ b ∧ b ≤ topI r :=
  ⟨_, _, (el_one hx hw).1, (el_one hy hw).1, (el_one hx hw).2, (el_one hy hw).2⟩

/-! ### elements stay elements -/

theorem oneE_tab (k p n : Int) : oneE (k, p, n) = tab (widN (k, p, n)) fun j => if j = 0 then (if k = 4 then 0 else if k = 5 ∨ k = 6 then topI (k, p, n) else 1) else 0 := by
  simp only [oneE]
  rw [tab_rep]
  exact tab_set _ 0 _
end Go.Am
end
section
namespace Go.Am
def newOk (x : Int × Int) : Prop := (0 ≤ x.1 ∧ x.1 ≤ 4096) ∧ (0 ≤ x.2 ∧ x.2 ≤ 4096) ∧ x.1 * x.2 ≤ 1048576
instance (x : Int × Int) : Decidable (newOk x) := by unfold newOk; infer_instance
def F_spec_l31New : Int × Int → Option (Int × Int × List Int) := fun (x : Int × Int) => if newOk x then some (x.1, x.2, genD x.1.toNat x.2.toNat fun _ _ => 0) else none
def F_impl_emptyMatrix : Int × Int → Option (Int × Int × List Int) := fun (x : Int × Int) => if newOk x then some (x.1, x.2, genD x.1.toNat x.2.toNat fun _ _ => 0) else none
def F_impl_Matrix_at : (Int × Int × List Int) × Int × Int → Option Int := fun (x : (Int × Int × List Int) × Int × Int) =>
  if mOk x.1 ∧ (0 ≤ x.2.1 ∧ x.2.1 < x.1.1) ∧ (0 ≤ x.2.2 ∧ x.2.2 < x.1.2.1) then some (ofD x.1.2.1.toNat x.1.2.2 x.2.1.toNat x.2.2.toNat) else none
def F_impl_Matrix_set : (Int × Int × List Int) × Int × Int × Int → Option (List Int) := fun (x : (Int × Int × List Int) × Int × Int × Int) =>
  if mOk x.1 ∧ (0 ≤ x.2.1 ∧ x.2.1 < x.1.1) ∧ (0 ≤ x.2.2.1 ∧ x.2.2.1 < x.1.2.1) then some (genD x.1.1.toNat x.1.2.1.toNat (updM (ofD x.1.2.1.toNat x.1.2.2) x.2.1.toNat x.2.2.1.toNat x.2.2.2)) else none
def swapF (M : Nat → Nat → Int) (a b : Nat) : Nat → Nat → Int := fun i j => if i = a then M b j else if i = b then M a j else M i j
def pivF (M : Nat → Nat → Int) (j : Nat) : Nat → Nat → Option Nat
  | 0, _ => none
  | d + 1, k => if M k j = 0 then pivF M j d (k + 1) else some k
def invG (p out x : Int) (n : Nat) : Int := if h : n = 0 then out else invG p (if n % 2 = 1 then out * x % p else out) (x * x % p) (n / 2)
termination_by n
decreasing_by omega
def F_impl_copyInts : List Int → Option (List Int) := fun (l : List Int) => if l.length ≤ 1099511627776 then some l else none
def mulOk (x : Int × (Int × Int × List Int) × (Int × Int × List Int)) : Prop := pOk x.1 ∧ mOk x.2.1 ∧ mOk x.2.2 ∧ x.2.1.2.1 = x.2.2.1 ∧ x.2.1.1 * x.2.2.2.1 ≤ 1048576 ∧ allP x.1 x.2.1.2.2 ∧ allP x.1 x.2.2.2.2
instance (x : Int × (Int × Int × List Int) × (Int × Int × List Int)) : Decidable (mulOk x) := by unfold mulOk; infer_instance
def F_spec_l31Mul : Int × (Int × Int × List Int) × (Int × Int × List Int) → Option (Int × Int × List Int) := fun (x : Int × (Int × Int × List Int) × (Int × Int × List Int)) =>
  if mulOk x then some (x.2.1.1, x.2.2.2.1, genD x.2.1.1.toNat x.2.2.2.1.toNat (mulF x.1 x.2.1.2.1.toNat (ofD x.2.1.2.1.toNat x.2.1.2.2) (ofD x.2.2.2.1.toNat x.2.2.2.2))) else none
def F_impl_rawMulMatrix : Int × (Int × Int × List Int) × (Int × Int × List Int) → Option (Int × Int × List Int) := F_spec_l31Mul
def ag_spec_l31New : Sig := [(.one, [.int .i64]), (.one, [.int .i64])]
def rs_spec_l31New : Sig := [(.agg, [.int .i64, .int .i64, .list [.int .i64]])]
def mu_spec_l31New : MSig := []
def ag_impl_emptyMatrix : Sig := [(.one, [.int .i64]), (.one, [.int .i64])]
def rs_impl_emptyMatrix : Sig := [(.agg, [.int .i64, .int .i64, .list [.int .i64]])]
def mu_impl_emptyMatrix : MSig := []
def ag_impl_copyInts : Sig := [(.one, [.list [.int .i64]])]
def rs_impl_copyInts : Sig := [(.one, [.list [.int .i64]])]
def mu_impl_copyInts : MSig := []
def ag_impl_Matrix_at : Sig := [(.agg, [.int .i64, .int .i64, .list [.int .i64]]), (.one, [.int .i64]), (.one, [.int .i64])]
def rs_impl_Matrix_at : Sig := [(.one, [.int .i64])]
def mu_impl_Matrix_at : MSig := []
def ag_impl_Matrix_set : Sig := [(.agg, [.int .i64, .int .i64, .list [.int .i64]]), (.one, [.int .i64]), (.one, [.int .i64]), (.one, [.int .i64])]
def rs_impl_Matrix_set : Sig := [(.one, [.list [.int .i64]])]
def mu_impl_Matrix_set : MSig := [[none, none, some .froz]]
def ag_impl_rawMulMatrix : Sig := [(.one, [.int .i64]), (.agg, [.int .i64, .int .i64, .list [.int .i64]]), (.agg, [.int .i64, .int .i64, .list [.int .i64]])]
def rs_impl_rawMulMatrix : Sig := [(.agg, [.int .i64, .int .i64, .list [.int .i64]])]
def mu_impl_rawMulMatrix : MSig := []

def G_spec_l31New (NN : Nat) : (Int × Int) → (Option (Int × (Int × (List Int)))) :=
 (fun ((i0, i1) : (Int × Int)) =>
 (mkI (mulI .i64 i0 i1) (mulI .i64 i0 i1) 8).bnd (fun k2 =>
 (takI (repL k2 (0 : Int)) k2).bnd (fun l3 =>
 some (i0, i1, l3))))

def G_impl_emptyMatrix (NN : Nat) : (Int × Int) → (Option (Int × (Int × (List Int)))) :=
 (fun ((i0, i1) : (Int × Int)) =>
 (mkI (mulI .i64 i0 i1) (mulI .i64 i0 i1) 8).bnd (fun k2 =>
 (takI (repL k2 (0 : Int)) k2).bnd (fun l3 =>
 some (i0, i1, l3))))

def G_impl_copyInts (NN : Nat) : (List Int) → (Option (List Int)) :=
 (fun (l0 : (List Int)) =>
 (fitI (addN (lenN (([] : List Int))) (lenN l0)) 8).bnd (fun _ =>
 (takI (appL (([] : List Int)) l0) (addN (lenN (([] : List Int))) (lenN l0))).bnd (fun l1 =>
 some l1)))

def G_impl_Matrix_at (NN : Nat) : ((Int × (Int × (List Int))) × (Int × Int)) → (Option Int) :=
 (fun (((i0, i1, l2), i3, i4) : ((Int × (Int × (List Int))) × (Int × Int))) =>
 (getI l2 (addI .i64 (mulI .i64 i3 i1) i4)).bnd (fun i5 =>
 some i5))

def G_impl_Matrix_set (NN : Nat) : ((Int × (Int × (List Int))) × (Int × (Int × Int))) → (Option (List Int)) :=
 (fun (((i0, i1, l2), i3, i4, i5) : ((Int × (Int × (List Int))) × (Int × (Int × Int)))) =>
 (chkI (addI .i64 (mulI .i64 i3 i1) i4) (lenN l2)).bnd (fun k6 =>
 (getN l2 (addN 0 k6)).bnd (fun i7 =>
 (samI (lenN (setL l2 (addN 0 k6) i5)) (lenN l2)).bnd (fun _ =>
 some (setL l2 (addN 0 k6) i5)))))

def G_impl_rawMulMatrix (NN : Nat) : (Int × ((Int × (Int × (List Int))) × (Int × (Int × (List Int))))) → (Option (Int × (Int × (List Int)))) :=
 (fun ((i0, (i1, i2, l3), i4, i5, l6) : (Int × ((Int × (Int × (List Int))) × (Int × (Int × (List Int)))))) =>
 (F_impl_emptyMatrix (i1, i5)).bnd (fun (i7, i8, l9) =>
 joinK ((fulI 0 0 (lenN (([] : List Int)))).bnd (fun _ =>
 (fulI 0 (lenN l9) (lenN l9)).bnd (fun _ =>
 loopT NN (fun (((i10, i11), (i12, i13, l14), (i15, i16, l17), (i18, i19), (i20, i21), l22, l23) : ((Int × Int) × ((Int × (Int × (List Int))) × ((Int × (Int × (List Int))) × ((Int × Int) × ((Int × Int) × ((List Int) × (List Int)))))))) =>
 cnd (ltI i11 i12)
 (joinK ((fulI 0 (lenN l22) (lenN l22)).bnd (fun _ =>
 (fulI 0 (lenN l23) (lenN l23)).bnd (fun _ =>
 loopT NN (fun (((i24, i25, i26), (i27, i28, l29), (i30, i31, l32), (i33, i34), (i35, i36), l37, l38) : ((Int × (Int × Int)) × ((Int × (Int × (List Int))) × ((Int × (Int × (List Int))) × ((Int × Int) × ((Int × Int) × ((List Int) × (List Int)))))))) =>
 cnd (ltI i26 i31)
 (joinK (joinK ((fulI 0 (lenN l37) (lenN l37)).bnd (fun _ =>
 (fulI 0 (lenN l38) (lenN l38)).bnd (fun _ =>
 loopT NN (fun (((i39, i40, i41, i42, i43), (i44, i45, l46), (i47, i48, l49), (i50, i51), (i52, i53), l54, l55) : ((Int × (Int × (Int × (Int × Int)))) × ((Int × (Int × (List Int))) × ((Int × (Int × (List Int))) × ((Int × Int) × ((Int × Int) × ((List Int) × (List Int)))))))) =>
 cnd (ltI i43 i45)
 ((F_impl_Matrix_at ((i44, i45, l46), i40, i43)).bnd (fun i56 =>
 (F_impl_Matrix_at ((i47, i48, l49), i43, i41)).bnd (fun i57 =>
 (remI (addI .i64 i42 (mulI .i64 i56 i57)) i39).bnd (fun i58 =>
 (fulI 0 (lenN l54) (lenN l54)).bnd (fun _ =>
 (fulI 0 (lenN l55) (lenN l55)).bnd (fun _ =>
 some (Sum.inl ((i39, i40, i41, i58, addI .i64 i43 1), (i44, i45, l46), (i47, i48, l49), (i50, i51), (i52, i53), l54, l55))))))))
 (((fulI 0 (lenN l54) (lenN l54)).bnd (fun _ =>
 (fulI 0 (lenN l55) (lenN l55)).bnd (fun _ =>
 some (Sum.inl ((i42, i41, i39, i40), (i44, i45, l46), (i47, i48, l49), (i50, i51), (i52, i53), l54, l55))))).bnd (fun l59 =>
 some (Sum.inr l59))))
 ((i24, i25, i26, (0 : Int), (0 : Int)), (i27, i28, l29), (i30, i31, l32), (i33, i34), (i35, i36), l37, l38))))
 (fun ((i60, i61, i62, i63), (i64, i65, l66), (i67, i68, l69), (i70, i71), (i72, i73), l74, l75) =>
 (fulI 0 (lenN l75) (lenN l75)).bnd (fun _ =>
 (F_impl_Matrix_set ((i72, i73, l75), i63, i61, i60)).bnd (fun l76 =>
 (fulI 0 (lenN l74) (lenN l74)).bnd (fun _ =>
 (fulI 0 (lenN l75) (lenN l76)).bnd (fun _ =>
 some (Sum.inl ((i61, i62, i63), (i64, i65, l66), (i67, i68, l69), (i70, i71), (i72, i73), l74, l76))))))))
 (fun ((i77, i78, i79), (i80, i81, l82), (i83, i84, l85), (i86, i87), (i88, i89), l90, l91) =>
 (fulI 0 (lenN l90) (lenN l90)).bnd (fun _ =>
 (fulI 0 (lenN l91) (lenN l91)).bnd (fun _ =>
 some (Sum.inl ((i78, i79, addI .i64 i77 1), (i80, i81, l82), (i83, i84, l85), (i86, i87), (i88, i89), l90, l91))))))
 (((fulI 0 (lenN l37) (lenN l37)).bnd (fun _ =>
 (fulI 0 (lenN l38) (lenN l38)).bnd (fun _ =>
 some (Sum.inl ((i25, i24), (i27, i28, l29), (i30, i31, l32), (i33, i34), (i35, i36), l37, l38))))).bnd (fun l92 =>
 some (Sum.inr l92))))
 ((i10, i11, (0 : Int)), (i12, i13, l14), (i15, i16, l17), (i18, i19), (i20, i21), l22, l23))))
 (fun ((i93, i94), (i95, i96, l97), (i98, i99, l100), (i101, i102), (i103, i104), l105, l106) =>
 (fulI 0 (lenN l105) (lenN l105)).bnd (fun _ =>
 (fulI 0 (lenN l106) (lenN l106)).bnd (fun _ =>
 some (Sum.inl ((i94, addI .i64 i93 1), (i95, i96, l97), (i98, i99, l100), (i101, i102), (i103, i104), l105, l106))))))
 (((fulI 0 (lenN l22) (lenN l22)).bnd (fun _ =>
 (fulI 0 (lenN l23) (lenN l23)).bnd (fun _ =>
 some (Sum.inl ((i18, i19), (i20, i21), l22, l23))))).bnd (fun l107 =>
 some (Sum.inr l107))))
 ((i0, (0 : Int)), (i1, i2, l3), (i4, i5, l6), ((0 : Int), (0 : Int)), (i7, i8), ([] : List Int), l9))))
 (fun ((i108, i109), (i110, i111), l112, l113) =>
 (takI l113 (lenN l113)).bnd (fun l114 =>
 some (i110, i111, l114)))))


theorem newOk_nat {r c : Nat} (hr : r ≤ 4096) (hc : c ≤ 4096) (h : r * c ≤ 1048576) : newOk ((r : Int), (c : Int)) := by
  refine ⟨⟨by omega, by show (r : Int) ≤ 4096; omega⟩, ⟨by show (0 : Int) ≤ c; omega, by show (c : Int) ≤ 4096; omega⟩, ?_⟩
  show (r : Int) * (c : Int) ≤ 1048576
  have e : (r : Int) * (c : Int) = ((r * c : Nat) : Int) := by norm_cast
  omega
theorem newOk_gen {x : Int × Int} (h : newOk x) : ∃ r c : Nat, x = ((r : Int), (c : Int)) ∧ r ≤ 4096 ∧ c ≤ 4096 ∧ r * c ≤ 1048576 := by
  obtain ⟨r, c⟩ := x
  obtain ⟨h1, h2, h3⟩ := h
  simp only at h1 h2 h3
  obtain ⟨r, rfl⟩ := natI_eq h1.1
  obtain ⟨c, rfl⟩ := natI_eq h2.1
  have e : (r : Int) * (c : Int) = ((r * c : Nat) : Int) := by norm_cast
  exact ⟨r, c, rfl, by omega, by omega, by omega⟩
theorem new_nat {r c : Nat} (hr : r ≤ 4096) (hc : c ≤ 4096) (h : r * c ≤ 1048576) : F_spec_l31New ((r : Int), (c : Int)) = some ((r : Int), (c : Int), genD r c fun _ _ => 0) := by
  simp only [F_spec_l31New, Int.toNat_natCast]
  rw [if_pos (newOk_nat hr hc h)]

theorem newI_nat {r c : Nat} (hr : r ≤ 4096) (hc : c ≤ 4096) (h : r * c ≤ 1048576) : F_impl_emptyMatrix ((r : Int), (c : Int)) = some ((r : Int), (c : Int), genD r c fun _ _ => 0) := new_nat hr hc h

theorem g_new {r c : Nat} (hr : r ≤ 4096) (hc : c ≤ 4096) (h : r * c ≤ 1048576) : G_spec_l31New FUEL ((r : Int), (c : Int)) = some ((r : Int), (c : Int), genD r c fun _ _ => 0) := by
  simp only [G_spec_l31New]
  rw [mulN (by omega) (by omega)]
  have := mkI_nat (n := r * c) (by_ := 8) (by unfold maxBytes; omega)
  rw [show ((r * c : Nat) : Int) = natI (r * c) from rfl, this, bnd_s, genD_rep]
  rw [show takI (genD r c fun _ _ => 0) (r * c) = some (genD r c fun _ _ => 0) by
    have := takI_id (genD r c fun _ _ => (0 : Int))
    rwa [lenN_gen] at this]
  rfl
theorem f_spec_l31New (x : Int × Int) (y : Int × Int × List Int) (h : F_spec_l31New x = some y) : G_spec_l31New FUEL x = some y := by
  simp only [F_spec_l31New] at h
  split at h
  · rename_i hc
    obtain ⟨r, c, rfl, h1, h2, h3⟩ := newOk_gen hc
    rw [← h, g_new h1 h2 h3]; rfl
  · cases h
theorem f_impl_emptyMatrix (x : Int × Int) (y : Int × Int × List Int) (h : F_impl_emptyMatrix x = some y) : G_impl_emptyMatrix FUEL x = some y := f_spec_l31New x y h

theorem f_impl_copyInts (x y : List Int) (h : F_impl_copyInts x = some y) : G_impl_copyInts FUEL x = some y := by
  simp only [F_impl_copyInts] at h
  split at h
  · rename_i hl
    rw [← h]
    simp only [G_impl_copyInts]
    rw [fitI_ok (by simp only [addN, lenN, List.length_nil, maxBytes]; omega), bnd_s]
    have : appL [] x = x := rfl
    rw [this, show addN (lenN ([] : List Int)) (lenN x) = lenN x by simp [addN, lenN], takI_id]
    rfl
  · cases h
theorem natP {a b : Int} (h : 0 ≤ a ∧ a < b) : ∃ n : Nat, a = (n : Int) ∧ ∀ m : Nat, b = (m : Int) → n < m := ⟨a.toNat, by omega, fun m hm => by omega⟩
theorem g_at {r c i j : Nat} {M : Nat → Nat → Int} (hr : r ≤ 4096) (hc : c ≤ 4096) (hi : i < r) (hj : j < c) : G_impl_Matrix_at FUEL (((r : Int), (c : Int), genD r c M), (i : Int), (j : Int)) = some (M i j) := by
  simp only [G_impl_Matrix_at]
  rw [idxI (by omega) (by omega) (by omega), getI_gen M hi hj]; rfl
theorem at_nat {r c i j : Nat} {M : Nat → Nat → Int} (hr : r ≤ 4096) (hc : c ≤ 4096) (h : r * c ≤ 1048576) (hi : i < r) (hj : j < c) : F_impl_Matrix_at (((r : Int), (c : Int), genD r c M), (i : Int), (j : Int)) = some (M i j) := by
  simp only [F_impl_Matrix_at, Int.toNat_natCast]
  rw [if_pos ⟨mOk_mk M hr hc h, by omega, by omega⟩]
  rw [ofD_gen M hi hj]
theorem f_impl_Matrix_at (x : (Int × Int × List Int) × Int × Int) (y : Int) (h : F_impl_Matrix_at x = some y) : G_impl_Matrix_at FUEL x = some y := by
  obtain ⟨m, i, j⟩ := x
  simp only [F_impl_Matrix_at] at h
  split at h
  · rename_i hc
    obtain ⟨h1, h2, h3⟩ := hc
    obtain ⟨r, c, M, rfl, hr, hc, hrc⟩ := mOk_gen h1
    obtain ⟨i, rfl, hi⟩ := natP h2
    obtain ⟨j, rfl, hj⟩ := natP h3
    have hi := hi r rfl; have hj := hj c rfl
    rw [← h, g_at hr hc hi hj]
    exact congrArg some (ofD_gen M hi hj).symm
  · cases h

theorem g_set {r c i j : Nat} {M : Nat → Nat → Int} {x : Int} (hr : r ≤ 4096) (hc : c ≤ 4096) (hi : i < r) (hj : j < c) : G_impl_Matrix_set FUEL (((r : Int), (c : Int), genD r c M), (i : Int), (j : Int), x) = some (genD r c (updM M i j x)) := by
  simp only [G_impl_Matrix_set]
  rw [idxI (by omega) (by omega) (by omega), chkI_gen M hi hj, bnd_s, addN_0, getN_gen M hi hj, bnd_s, setL_gen M hj, samI_gen, bnd_s]
theorem set_nat {r c i j : Nat} {M : Nat → Nat → Int} {x : Int} (hr : r ≤ 4096) (hc : c ≤ 4096) (h : r * c ≤ 1048576) (hi : i < r) (hj : j < c) : F_impl_Matrix_set (((r : Int), (c : Int), genD r c M), (i : Int), (j : Int), x) = some (genD r c (updM M i j x)) := by
  simp only [F_impl_Matrix_set, Int.toNat_natCast]
  rw [if_pos ⟨mOk_mk M hr hc h, by omega, by omega⟩]
  refine (congrArg some (genD_congr fun a ha b hb => ?_))
  unfold updM
  rw [ofD_gen M ha hb]
theorem f_impl_Matrix_set (x : (Int × Int × List Int) × Int × Int × Int) (y : List Int) (h : F_impl_Matrix_set x = some y) : G_impl_Matrix_set FUEL x = some y := by
  obtain ⟨m, i, j, v⟩ := x
  have h0 := h
  simp only [F_impl_Matrix_set] at h
  split at h
  · rename_i hc
    obtain ⟨h1, h2, h3⟩ := hc
    obtain ⟨r, c, M, rfl, hr, hc, hrc⟩ := mOk_gen h1
    obtain ⟨i, rfl, hi⟩ := natP h2
    obtain ⟨j, rfl, hj⟩ := natP h3
    have hi := hi r rfl; have hj := hj c rfl
    rw [← h0, g_set hr hc hi hj, set_nat hr hc hrc hi hj]
  · cases h

/-! ### rows -/

/-! ### pivots, inverses -/

theorem pivF_lt {M : Nat → Nat → Int} {j q : Nat} : ∀ {d k : Nat}, pivF M j d k = some q → k ≤ q ∧ q < k + d ∧ M q j ≠ 0
  | 0, k, h => by cases h
  | d + 1, k, h => by
    simp only [pivF] at h
    split at h
    · have := pivF_lt h
      exact ⟨by omega, by omega, this.2.2⟩
    · rename_i h0
      injection h with h
      subst h
      exact ⟨by omega, by omega, h0⟩

theorem invG_0 (p out x : Int) : invG p out x 0 = out := by rw [invG]; rfl
theorem invG_s {n : Nat} (h : n ≠ 0) (p out x : Int) : invG p out x n = invG p (if n % 2 = 1 then out * x % p else out) (x * x % p) (n / 2) := by
  rw [invG, dif_neg h]
/-! ### transposed -/

/-! ### products -/

def mulTo (W : Nat → Nat → Int) (i j : Nat) : Nat → Nat → Int := fun a b => if a < i ∨ a = i ∧ b < j then W a b else 0
theorem mul_step {r c : Nat} (W : Nat → Nat → Int) (i j : Nat) : genD r c (updM (mulTo W i j) i j (W i j)) = genD r c (mulTo W i (j + 1)) := by
  refine genD_congr fun a _ b _ => ?_
  unfold updM mulTo
  by_cases h : a = i ∧ b = j
  · obtain ⟨rfl, rfl⟩ := h
    simp
  · rw [if_neg h]
    by_cases h1 : a < i ∨ a = i ∧ b < j
    · simp only [if_pos h1, if_pos (show a < i ∨ a = i ∧ b < j + 1 by omega)]
    · simp only [if_neg h1, if_neg (show ¬ (a < i ∨ a = i ∧ b < j + 1) by omega)]
theorem mul_row {r c : Nat} (W : Nat → Nat → Int) (i : Nat) : genD r c (mulTo W i c) = genD r c (mulTo W (i + 1) 0) := by
  refine genD_congr fun a _ b hb => ?_
  unfold mulTo
  by_cases h1 : a < i ∨ a = i ∧ b < c
  · simp only [if_pos h1, if_pos (show a < i + 1 ∨ a = i + 1 ∧ b < 0 by omega)]
  · simp only [if_neg h1, if_neg (show ¬ (a < i + 1 ∨ a = i + 1 ∧ b < 0) by omega)]
theorem mul_end {r c : Nat} (W : Nat → Nat → Int) : genD r c (mulTo W r 0) = genD r c W := genD_congr fun a ha b hb => if_pos (.inl ha)
theorem mul_0 {r c : Nat} (W : Nat → Nat → Int) : genD r c (mulTo W 0 0) = genD r c fun _ _ => 0 := genD_congr fun a ha b hb => if_neg (by omega)

theorem mulF_congr {p : Int} {k : Nat} {A A' B B' : Nat → Nat → Int} {i j : Nat} (hA : ∀ t, t < k → A i t = A' i t) (hB : ∀ t, t < k → B t j = B' t j) : mulF p k A B i j = mulF p k A' B' i j := by
  unfold mulF
  have : ∀ n, n ≤ k → dotF p (fun t => A i t) (fun t => B t j) n = dotF p (fun t => A' i t) (fun t => B' t j) n := by
    intro n
    induction n with
    | zero => intro _; rfl
    | succ n ih =>
      intro hn
      simp only [dotF]
      rw [ih (by omega), hA n (by omega), hB n (by omega)]
  exact this k (Nat.le_refl k)
theorem mulF_in {p : Int} (hp : pOk p) (r c k : Nat) (A B : Nat → Nat → Int) : inM p r c (mulF p k A B) := fun i _ j _ => dotF_in hp _ _ k

theorem mulOk_gen {x : Int × (Int × Int × List Int) × (Int × Int × List Int)} (h : mulOk x) : ∃ (p : Int) (r k c : Nat) (A B : Nat → Nat → Int), x = (p, ((r : Int), (k : Int), genD r k A), ((k : Int), (c : Int), genD k c B)) ∧ pOk p ∧
    r ≤ 4096 ∧ k ≤ 4096 ∧ c ≤ 4096 ∧ r * k ≤ 1048576 ∧ k * c ≤ 1048576 ∧ r * c ≤ 1048576 ∧ inM p r k A ∧ inM p k c B := by
  obtain ⟨p, a, b⟩ := x
  obtain ⟨hp, ha, hb, hk, hrc, h1, h2⟩ := h
  obtain ⟨r, k, A, rfl, q1, q2, q3⟩ := mOk_gen ha
  obtain ⟨k', c, B, rfl, q4, q5, q6⟩ := mOk_gen hb
  simp only at hk hrc h1 h2
  have : k' = k := by omega
  subst this
  have e : (r : Int) * (c : Int) = ((r * c : Nat) : Int) := by norm_cast
  exact ⟨p, r, k', c, A, B, rfl, hp, q1, q2, q5, q3, q6, by omega, allP_gen.1 h1, allP_gen.1 h2⟩
theorem mulOk_mk {p : Int} {r k c : Nat} {A B : Nat → Nat → Int} (hp : pOk p) (hr : r ≤ 4096) (hk : k ≤ 4096) (hc : c ≤ 4096) (h1 : r * k ≤ 1048576) (h2 : k * c ≤ 1048576) (h3 : r * c ≤ 1048576) (hA : inM p r k A) (hB : inM p k c B) :
    mulOk (p, ((r : Int), (k : Int), genD r k A), ((k : Int), (c : Int), genD k c B)) := by
  refine ⟨hp, mOk_mk A hr hk h1, mOk_mk B hk hc h2, rfl, ?_, allP_gen.2 hA, allP_gen.2 hB⟩
  show (r : Int) * (c : Int) ≤ 1048576
  have e : (r : Int) * (c : Int) = ((r * c : Nat) : Int) := by norm_cast
  omega
theorem mulS_nat {p : Int} {r k c : Nat} {A B : Nat → Nat → Int} (hp : pOk p) (hr : r ≤ 4096) (hk : k ≤ 4096) (hc : c ≤ 4096) (h1 : r * k ≤ 1048576) (h2 : k * c ≤ 1048576) (h3 : r * c ≤ 1048576) (hA : inM p r k A) (hB : inM p k c B) :
    F_spec_l31Mul (p, ((r : Int), (k : Int), genD r k A), ((k : Int), (c : Int), genD k c B)) = some ((r : Int), (c : Int), genD r c (mulF p k A B)) := by
  simp only [F_spec_l31Mul, Int.toNat_natCast]
  rw [if_pos (mulOk_mk hp hr hk hc h1 h2 h3 hA hB)]
  exact congrArg (fun l => some ((r : Int), (c : Int), l)) (genD_congr fun i hi j hj => mulF_congr (fun t ht => ofD_gen A hi ht) (fun t ht => ofD_gen B ht hj))

theorem g_mulI {p : Int} {r k c : Nat} {A B : Nat → Nat → Int} (hp : pOk p) (hr : r ≤ 4096) (hk : k ≤ 4096) (hc : c ≤ 4096) (h1 : r * k ≤ 1048576) (h2 : k * c ≤ 1048576) (h3 : r * c ≤ 1048576) (hA : inM p r k A) (hB : inM p k c B) :
    G_impl_rawMulMatrix FUEL (p, ((r : Int), (k : Int), genD r k A), ((k : Int), (c : Int), genD k c B)) = some ((r : Int), (c : Int), genD r c (mulF p k A B)) := by
  simp only [G_impl_rawMulMatrix, newI_nat hr hc h3, bnd_s, fulI_id]
  rw [show fulI 0 0 (lenN ([] : List Int)) = some () from rfl, bnd_s]
  rw [loopT_seq (r := Sum.inl (((0 : Int), (0 : Int)), ((r : Int), (c : Int)), ([] : List Int), genD r c (mulF p k A B))) (fun i => ((p, (i : Int)), ((r : Int), (k : Int), genD r k A), ((k : Int), (c : Int), genD k c B), ((0 : Int), (0 : Int)), ((r : Int), (c : Int)), ([] : List Int), genD r c (mulTo (mulF p k A B) i 0))) r ?_ ?_ ?_ (FUEL_gt (by omega))]
  · rw [joinK_l]; simp only [takI_id, bnd_s]
  · intro i hi
    simp only
    rw [cnd_t (ltN_t hi)]
    rw [loopT_seq (r := Sum.inl (((i : Int), p), ((r : Int), (k : Int), genD r k A), ((k : Int), (c : Int), genD k c B), ((0 : Int), (0 : Int)), ((r : Int), (c : Int)), ([] : List Int), genD r c (mulTo (mulF p k A B) (i + 1) 0))) (fun j => ((p, (i : Int), (j : Int)), ((r : Int), (k : Int), genD r k A), ((k : Int), (c : Int), genD k c B), ((0 : Int), (0 : Int)), ((r : Int), (c : Int)), ([] : List Int), genD r c (mulTo (mulF p k A B) i j))) c ?_ ?_ ?_ (FUEL_gt (by omega))]
    · rw [joinK_l]; simp only [addN1 (show i ≤ 1048577 by omega)]
    · intro j hj
      simp only
      rw [cnd_t (ltN_t hj)]
      rw [loopT_seq (r := Sum.inl ((mulF p k A B i j, (j : Int), p, (i : Int)), ((r : Int), (k : Int), genD r k A), ((k : Int), (c : Int), genD k c B), ((0 : Int), (0 : Int)), ((r : Int), (c : Int)), ([] : List Int), genD r c (mulTo (mulF p k A B) i j))) (fun t => ((p, (i : Int), (j : Int), dotF p (fun t => A i t) (fun t => B t j) t, (t : Int)), ((r : Int), (k : Int), genD r k A), ((k : Int), (c : Int), genD k c B), ((0 : Int), (0 : Int)), ((r : Int), (c : Int)), ([] : List Int), genD r c (mulTo (mulF p k A B) i j))) k ?_ ?_ ?_ (FUEL_gt (by omega))]
      · rw [joinK_l]
        simp only [set_nat hr hc h3 hi hj, bnd_s, fulI_gen, mul_step (r := r) (c := c)]
        rw [joinK_l]
        simp only [addN1 (show j ≤ 1048577 by omega)]
      · intro t ht
        simp only
        rw [cnd_t (ltN_t ht), at_nat hr hk h1 hi ht, bnd_s, at_nat hk hc h2 ht hj, bnd_s, macI hp ((dotF_in hp _ _ t).s hp) (hA i hi t ht).le (hB t ht j hj).le, bnd_s]
        simp only [addN1 (show t ≤ 1048577 by omega), dotF]
      · simp only
        rw [cnd_f (ltN_f (Nat.le_refl k))]
        rfl
      · rfl
    · simp only
      rw [cnd_f (ltN_f (Nat.le_refl c)), mul_row]
    · rfl
  · simp only
    rw [cnd_f (ltN_f (Nat.le_refl r)), mul_end]
  · rw [mul_0]; rfl
theorem f_impl_rawMulMatrix (x : Int × (Int × Int × List Int) × (Int × Int × List Int)) (y : Int × Int × List Int) (h : F_impl_rawMulMatrix x = some y) : G_impl_rawMulMatrix FUEL x = some y := by
  have h0 : F_spec_l31Mul x = some y := h
  simp only [F_impl_rawMulMatrix, F_spec_l31Mul] at h
  split at h
  · rename_i hc
    obtain ⟨p, r, k, c, A, B, rfl, hp, hr, hk, hc, h1, h2, h3, hA, hB⟩ := mulOk_gen hc
    rw [← h0, g_mulI hp hr hk hc h1 h2 h3 hA hB, mulS_nat hp hr hk hc h1 h2 h3 hA hB]
  · cases h
end Go.Am
end
section
namespace Go.Am
/-! ### transposes, products and swaps of good matrices -/

def sopOk (x : Int × Int × Int) : Prop := isPrimeI x.1 = true ∧ (1 ≤ x.2.1 ∧ x.2.1 ≤ 8) ∧ (1 ≤ x.2.2 ∧ x.2.2 ≤ 8)
instance (x : Int × Int × Int) : Decidable (sopOk x) := by unfold sopOk; infer_instance
theorem inM_of {p : Int} {r c : Nat} {l : List Int} (h : l.length = r * c) (hr : rowOk p l = true) : inM p r c (ofD c l) := by
  apply allP_gen.1
  rw [genD_of h]
  intro x hx
  have := List.all_eq_true.1 hr x hx
  exact of_decide_eq_true this
theorem matOk_nat {m : Int} {x : Int × Int × List Int} (h : matOk m x = true) : ∃ (r c : Nat) (M : Nat → Nat → Int), x = ((r : Int), (c : Int), genD r c M) ∧ pOk m ∧ r ≤ 64 ∧ c ≤ 64 ∧ r * c ≤ 4096 ∧ inM m r c M := by
  obtain ⟨r, c, l⟩ := x
  simp only [matOk, Bool.and_eq_true, decide_eq_true_eq] at h
  obtain ⟨h1, h2, h3, h4, h5⟩ := h
  obtain ⟨r, rfl⟩ := natI_eq (z := r) (by omega)
  obtain ⟨c, rfl⟩ := natI_eq (z := c) (by omega)
  have hl : l.length = r * c := by
    have e : (r : Int) * (c : Int) = ((r * c : Nat) : Int) := by norm_cast
    omega
  have hrc : r * c ≤ 64 * 64 := Nat.mul_le_mul (by omega) (by omega)
  exact ⟨r, c, ofD c l, by rw [genD_of hl], isPrimeI_t h1, by omega, by omega, by omega, inM_of hl h5⟩

/-! ### the swap operator -/

end Go.Am
end
section
namespace Go.Am
/-! ### reduced forms -/

abbrev Mat := Nat → Nat → Int
def sclF (p inv : Int) (M : Mat) (t : Nat) : Mat := fun a b => if a = t then M t b * inv % p else M a b
def clrF (p : Int) (M : Mat) (t j n : Nat) : Mat := fun a b => if a < n ∧ a ≠ t then (M a b + (p - M a j) * M t b) % p else M a b
def pivS (p : Int) (M : Mat) (t j k : Nat) : Mat := sclF p (invG p 1 (swapF M t k t j) (p - 2).toNat) (swapF M t k) t
def redD (p : Int) (M : Mat) (t j k : Nat) (d : Int) : Int := (if k = t then d else (p - d) % p) * swapF M t k t j % p
def redS (p : Int) (r : Nat) (s : Mat × List Int × Int) (j : Nat) : Mat × List Int × Int :=
  if s.2.1.length < r then
    match pivF s.1 j (r - s.2.1.length) s.2.1.length with
    | none => s
    | some k => (clrF p (pivS p s.1 s.2.1.length j k) s.2.1.length j r, s.2.1 ++ [(j : Int)], redD p s.1 s.2.1.length j k s.2.2)
  else s
def redN (p : Int) (r : Nat) (M : Mat) : Nat → Mat × List Int × Int
  | 0 => (M, [], 1)
  | j + 1 => redS p r (redN p r M j) j
def redOk (x : Int × Int × Int × List Int) : Prop := pOk x.1 ∧ mOk x.2 ∧ allP x.1 x.2.2.2
instance (x : Int × Int × Int × List Int) : Decidable (redOk x) := by unfold redOk; infer_instance
theorem swapF_in {p : Int} {r c : Nat} {M : Mat} (hM : inM p r c M) {a b : Nat} (ha : a < r) (hb : b < r) : inM p r c (swapF M a b) := by
  intro i hi j hj
  unfold swapF
  split
  · exact hM b hb j hj
  · split
    · exact hM a ha j hj
    · exact hM i hi j hj
theorem sclF_in {p inv : Int} {r c : Nat} {M : Mat} (hp : pOk p) (hM : inM p r c M) (t : Nat) : inM p r c (sclF p inv M t) := by
  intro i hi j hj
  unfold sclF
  split
  · exact emod_in hp _
  · exact hM i hi j hj
theorem clrF_in {p : Int} {r c : Nat} {M : Mat} (hp : pOk p) (hM : inM p r c M) (t k n : Nat) : inM p r c (clrF p M t k n) := by
  intro i hi j hj
  unfold clrF
  split
  · exact emod_in hp _
  · exact hM i hi j hj
theorem pivS_in {p : Int} {r c : Nat} {M : Mat} (hp : pOk p) (hM : inM p r c M) {t k : Nat} (ht : t < r) (hk : k < r) (j : Nat) : inM p r c (pivS p M t j k) := sclF_in hp (swapF_in hM ht hk) t

structure RI (p : Int) (r c : Nat) (s : Mat × List Int × Int) (j : Nat) : Prop where
  m : inM p r c s.1
  l : s.2.1.length ≤ r
  lj : s.2.1.length ≤ j
  d : inP p s.2.2
  e : ∀ x ∈ s.2.1, 0 ≤ x ∧ x < (j : Int)
theorem RI.step {p : Int} {r c : Nat} {s : Mat × List Int × Int} {j : Nat} (hp : pOk p) (h : RI p r c s j) : RI p r c (redS p r s j) (j + 1) := by
  have keep : RI p r c s (j + 1) := ⟨h.m, h.l, by have := h.lj; omega, h.d, fun x hx => by have := h.e x hx; omega⟩
  unfold redS
  split
  · rename_i hl
    split
    · exact keep
    · rename_i k hk
      have hq := pivF_lt hk
      refine ⟨clrF_in hp (pivS_in hp h.m hl (by omega) j) _ _ _, ?_, ?_, emod_in hp _, ?_⟩
      · simp only [List.length_append, List.length_cons, List.length_nil]; omega
      · have := h.lj
        simp only [List.length_append, List.length_cons, List.length_nil]; omega
      · intro x hx
        simp only [List.mem_append, List.mem_singleton] at hx
        rcases hx with hx | rfl
        · have := h.e x hx; omega
        · omega
  · exact keep
theorem clrF_0 {p : Int} (M : Mat) (t j : Nat) : clrF p M t j 0 = M := by funext a b; exact if_neg (by omega)
theorem clrF_old {p : Int} (M : Mat) (t j n b : Nat) : clrF p M t j n n b = M n b := if_neg (by omega)
theorem clrF_t {p : Int} (M : Mat) (t j n b : Nat) : clrF p M t j n t b = M t b := if_neg (by omega)
theorem clrF_skip {p : Int} (M : Mat) (t j : Nat) : clrF p M t j (t + 1) = clrF p M t j t := by
  funext a b
  unfold clrF
  by_cases h : a < t
  · rw [if_pos (by omega), if_pos (by omega)]
  · rw [if_neg (by omega), if_neg (by omega)]
theorem pivF_none {M : Mat} {j : Nat} : ∀ {d k : Nat}, pivF M j d k = none → ∀ i, k ≤ i → i < k + d → M i j = 0
  | 0, k, _, i, h1, h2 => by omega
  | d + 1, k, h, i, h1, h2 => by
    simp only [pivF] at h
    split at h
    · rename_i h0
      by_cases hi : i = k
      · rw [hi]; exact h0
      · exact pivF_none h i (by omega) (by omega)
    · cases h
theorem redS_n {p : Int} {r : Nat} {s : Mat × List Int × Int} {j : Nat} (hl : s.2.1.length < r) (h : pivF s.1 j (r - s.2.1.length) s.2.1.length = none) : redS p r s j = s := by
  unfold redS
  rw [if_pos hl, h]
theorem redS_s {p : Int} {r : Nat} {s : Mat × List Int × Int} {j k : Nat} (hl : s.2.1.length < r) (h : pivF s.1 j (r - s.2.1.length) s.2.1.length = some k) :
    redS p r s j = (clrF p (pivS p s.1 s.2.1.length j k) s.2.1.length j r, s.2.1 ++ [(j : Int)], redD p s.1 s.2.1.length j k s.2.2) := by
  unfold redS
  rw [if_pos hl, h]
/-! ### the walk of the spec's reduction -/

section
variable {p : Int} {r c : Nat} {M0 : Mat}

end
/-! ### the walk of the program's reduction -/

section
variable {p : Int} {r c : Nat} {M0 : Mat}

end

end Go.Am
end
section
namespace Go.Am
/-! ### ranks, reduced forms and factors of good matrices -/

/-! ### factors -/

section
variable {p : Int} {r c : Nat} {M R : Mat} {L : List Int}

end

end Go.Am
end
section
namespace Go.Am

def ch : Nat → Nat → Nat
  | _, 0 => 1
  | 0, _ + 1 => 0
  | n + 1, k + 1 => ch n k + ch n (k + 1)

theorem ch_gt : ∀ {n k : Nat}, n < k → ch n k = 0
  | 0, k + 1, _ => by simp [ch]
  | n + 1, k + 1, h => by simp [ch, ch_gt (show n < k by omega), ch_gt (show n < k + 1 by omega)]
theorem ch_0 (n : Nat) : ch n 0 = 1 := by cases n <;> rfl
theorem ch_self : ∀ n, ch n n = 1
  | 0 => rfl
  | n + 1 => by simp [ch, ch_self n, ch_gt (Nat.lt_succ_self n)]

theorem ch_mul : ∀ (n k : Nat), (k + 1) * ch (n + 1) (k + 1) = (n + 1) * ch n k
  | 0, 0 => by simp [ch]
  | 0, k + 1 => by simp [ch]
  | n + 1, 0 => by
    have h := ch_mul n 0
    simp only [ch_0] at h ⊢
    have e : ch (n + 1 + 1) (0 + 1) = ch (n + 1) 0 + ch (n + 1) (0 + 1) := rfl
    rw [e, ch_0]
    omega
  | n + 1, k + 1 => by
    have h1 := ch_mul n k
    have h2 := ch_mul n (k + 1)
    have e1 : ch (n + 1 + 1) (k + 1 + 1) = ch (n + 1) (k + 1) + ch (n + 1) (k + 1 + 1) := rfl
    have e2 : ch (n + 1) (k + 1) = ch n k + ch n (k + 1) := rfl
    rw [e1]
    generalize ch (n + 1) (k + 1 + 1) = B at *
    generalize ch (n + 1) (k + 1) = A at *
    generalize ch n k = u at *
    generalize ch n (k + 1) = v at *
    subst e2
    grind

def sumF (f : Nat → Nat) : Nat → Nat
  | 0 => 0
  | m + 1 => sumF f m + f m

theorem sum_step (n a : Nat) : ∀ m, sumF (fun k => ch (n + 1) k * a ^ k) (m + 1) = sumF (fun k => ch n k * a ^ k) (m + 1) + a * sumF (fun k => ch n k * a ^ k) m
  | 0 => by simp [sumF, ch_0]
  | m + 1 => by
    have h := sum_step n a m
    simp only [sumF] at h ⊢
    have e : ch (n + 1) (m + 1) = ch n m + ch n (m + 1) := rfl
    rw [h, e, Nat.pow_succ]
    grind

theorem binom (a : Nat) : ∀ n, (a + 1) ^ n = sumF (fun k => ch n k * a ^ k) (n + 1)
  | 0 => by simp [sumF, ch_0]
  | n + 1 => by
    rw [sum_step]
    have e : sumF (fun k => ch n k * a ^ k) (n + 1 + 1) = sumF (fun k => ch n k * a ^ k) (n + 1) := by
      show sumF _ (n + 1) + ch n (n + 1) * a ^ (n + 1) = _
      rw [ch_gt (Nat.lt_succ_self n)]; simp
    rw [e, ← binom a n, Nat.pow_succ]
    grind

theorem sum_mod {p : Nat} {f : Nat → Nat} : ∀ m, (∀ k, 0 < k → k ≤ m → p ∣ f k) → sumF f (m + 1) % p = f 0 % p
  | 0, h => by simp [sumF]
  | m + 1, h => by
    have i := sum_mod m fun k h1 h2 => h k h1 (by omega)
    obtain ⟨c, hc⟩ := h (m + 1) (by omega) (Nat.le_refl _)
    show (sumF f (m + 1) + f (m + 1)) % p = _
    rw [hc, Nat.add_mul_mod_self_left, i]

def PrimeN (p : Nat) : Prop := 2 ≤ p ∧ ∀ d, d ∣ p → d = 1 ∨ d = p

theorem PrimeN.cop {p a : Nat} (hp : PrimeN p) (h : ¬ p ∣ a) : Nat.Coprime p a := by
  have := hp.2 (Nat.gcd p a) (Nat.gcd_dvd_left p a)
  rcases this with h1 | h1
  · exact h1
  · exact absurd (h1 ▸ Nat.gcd_dvd_right p a) h

theorem PrimeN.ch {p k : Nat} (hp : PrimeN p) (h1 : 0 < k) (h2 : k < p) : p ∣ ch p k := by
  obtain ⟨q, rfl⟩ : ∃ q, p = q + 1 := ⟨p - 1, by omega⟩
  obtain ⟨j, rfl⟩ : ∃ j, k = j + 1 := ⟨k - 1, by omega⟩
  have hm := ch_mul q j
  have hd : (q + 1) ∣ (j + 1) * Go.Am.ch (q + 1) (j + 1) := ⟨Go.Am.ch q j, hm⟩
  exact (hp.cop fun h => absurd (Nat.le_of_dvd (by omega) h) (by omega)).dvd_of_dvd_mul_left hd

theorem fermat0 {p : Nat} (hp : PrimeN p) : ∀ a, a ^ p % p = a % p
  | 0 => by rw [Nat.zero_pow (by have := hp.1; omega)]
  | a + 1 => by
    rw [binom]
    show (sumF _ p + Go.Am.ch p p * a ^ p) % p = _
    obtain ⟨q, rfl⟩ : ∃ q, p = q + 1 := ⟨p - 1, by have := hp.1; omega⟩
    have h := sum_mod (p := q + 1) (f := fun k => Go.Am.ch (q + 1) k * a ^ k) q fun k h1 h2 => Nat.dvd_trans (hp.ch h1 (by omega)) (Nat.dvd_mul_right _ _)
    rw [ch_self, Nat.one_mul, Nat.add_mod, h, fermat0 hp a]
    simp only [ch_0, Nat.pow_zero, Nat.mul_one]
    rw [← Nat.add_mod, Nat.add_comm]

theorem fermat {p a : Nat} (hp : PrimeN p) (ha : ¬ p ∣ a) : a * a ^ (p - 2) % p = 1 := by
  have h2 := hp.1
  have h := fermat0 hp a
  have e : a ^ p = a * (a * a ^ (p - 2)) := by
    obtain ⟨q, rfl⟩ : ∃ q, p = q + 2 := ⟨p - 2, by omega⟩
    rw [Nat.pow_succ, Nat.pow_succ, Nat.add_sub_cancel]
    rw [Nat.mul_comm a (a ^ q), Nat.mul_comm a (a ^ q * a)]
  rw [e] at h
  have ha0 : 0 < a := by
    rcases Nat.eq_zero_or_pos a with h | h
    · subst h; exact absurd ⟨0, by simp⟩ ha
    · exact h
  have hz : 0 < a * a ^ (p - 2) := Nat.mul_pos ha0 (Nat.pow_pos ha0)
  generalize a * a ^ (p - 2) = z at h hz ⊢
  obtain ⟨y, rfl⟩ : ∃ y, z = y + 1 := ⟨z - 1, by omega⟩
  have hd : p ∣ a * y := by
    have e : a * (y + 1) = a * y + a := by rw [Nat.mul_add, Nat.mul_one]
    rw [e] at h
    have : (a * y + a - a) % p = 0 := Nat.sub_mod_eq_zero_of_mod_eq h
    rw [Nat.add_sub_cancel] at this
    exact Nat.dvd_of_mod_eq_zero this
  obtain ⟨c, rfl⟩ := (hp.cop ha).dvd_of_dvd_mul_left hd
  rw [Nat.add_comm, Nat.add_mul_mod_self_left]
  exact Nat.mod_eq_of_lt (by omega)

end Go.Am
end
section
namespace Go.Am

/-! ### inverses modulo p -/

theorem isPrimeI_N {p : Int} (h : isPrimeI p = true) : PrimeN p.toNat := by
  have hp := isPrimeI_t h
  obtain ⟨n, rfl⟩ := natI_eq (show 0 ≤ p by omega)
  simp only [Int.toNat_natCast]
  refine ⟨by omega, fun d hd => ?_⟩
  rcases Nat.lt_or_ge d 2 with h2 | h2
  · rcases Nat.eq_zero_or_pos d with h0 | h0
    · subst h0
      have := Nat.eq_zero_of_zero_dvd hd
      omega
    · exact .inl (by omega)
  · obtain ⟨e, he⟩ := hd
    simp only [isPrimeI, Bool.and_eq_true, decide_eq_true_eq, Bool.not_eq_true', List.any_eq_false] at h
    have key : ∀ a b : Nat, 2 ≤ a → 2 ≤ b → a ≤ b → n ≠ a * b := by
      intro a b ha hb hab e
      have h1 : a * a ≤ n := by rw [e]; exact Nat.mul_le_mul_left _ hab
      have h3 : a < 1001 := by
        rcases Nat.lt_or_ge a 1001 with h | h
        · exact h
        · have := Nat.mul_le_mul h h; omega
      refine h.2 a (by simp; omega) ?_
      unfold divAt
      have ea : ((a : Int)) * (a : Int) = ((a * a : Nat) : Int) := by norm_cast
      simp only [Bool.and_eq_true, decide_eq_true_eq]
      constructor
      · rw [ea]; omega
      · rw [e]; push_cast; exact Int.mul_emod_right _ _
    right
    rcases Nat.lt_or_ge e 2 with h3 | h3
    · have : e = 1 := by
        rcases Nat.eq_zero_or_pos e with h0 | h0
        · subst h0; simp at he; omega
        · omega
      subst this; omega
    · exfalso
      rcases Nat.le_total d e with hde | hde
      · exact key d e h2 h3 hde he
      · exact key e d h3 h2 hde (by rw [he, Nat.mul_comm])

theorem pow_sq (x : Int) (b : Nat) : ∀ m : Nat, (x * x) ^ m * x ^ b = x ^ (2 * m + b)
  | 0 => by simp
  | m + 1 => by
    have ih := pow_sq x b m
    rw [show 2 * (m + 1) + b = 2 * m + b + 1 + 1 by omega, Int.pow_succ, Int.pow_succ (n := 2 * m + b + 1), Int.pow_succ (n := 2 * m + b), ← ih]
    grind

theorem invG_pow {p : Int} (hp : pOk p) : ∀ (n : Nat) (out x : Int), invG p out x n % p = out * x ^ n % p := by
  intro n
  induction n using Nat.strongRecOn with
  | ind n ih =>
    intro out x
    by_cases h0 : n = 0
    · subst h0; rw [invG_0]; simp
    · rw [invG_s h0, ih (n / 2) (by omega)]
      have e : x ^ n = (x * x) ^ (n / 2) * x ^ (n % 2) := by
        rw [pow_sq, Nat.div_add_mod]
      rw [e]
      have h1 : ((x * x % p) ^ (n / 2)) % p = ((x * x) ^ (n / 2)) % p := by
        have : ∀ k : Nat, ((x * x % p) ^ k) % p = ((x * x) ^ k) % p := by
          intro k
          induction k with
          | zero => simp
          | succ k ih => rw [Int.pow_succ, Int.pow_succ, Int.mul_emod, ih, Int.emod_emod, ← Int.mul_emod]
        exact this _
      by_cases hb : n % 2 = 1
      · rw [if_pos hb, hb, Int.mul_emod, h1, Int.emod_emod, ← Int.mul_emod]
        congr 1
        grind
      · rw [if_neg hb, show n % 2 = 0 by omega, Int.mul_emod, h1, ← Int.mul_emod]
        congr 1
        grind

theorem inv_one {p x : Int} (hpr : isPrimeI p = true) (hx : inP p x) (h0 : x ≠ 0) : x * invG p 1 x (p - 2).toNat % p = 1 := by
  have hp := isPrimeI_t hpr
  have hp' : pOk p := ⟨hp.1, hp.2⟩
  obtain ⟨n, rfl⟩ := natI_eq (show 0 ≤ p by omega)
  obtain ⟨a, rfl⟩ := natI_eq hx.1
  have hN := isPrimeI_N hpr
  simp only [Int.toNat_natCast] at hN
  have ha : ¬ n ∣ a := fun h => by
    have := Nat.le_of_dvd (by omega) h
    have := hx.2
    omega
  have hf := fermat hN ha
  have e : (((n : Int)) - 2).toNat = n - 2 := by omega
  rw [Int.mul_emod, invG_pow hp', e, Int.one_mul, ← Int.mul_emod]
  exact_mod_cast hf

/-! ### sums -/

def sumD (f g : Nat → Int) : Nat → Int
  | 0 => 0
  | n + 1 => sumD f g n + f n * g n

theorem sumD_mod {p : Int} {f f' g : Nat → Int} : ∀ n, (∀ k, k < n → ∃ q, f k = f' k + p * q) → ∃ q, sumD f g n = sumD f' g n + p * q
  | 0, _ => ⟨0, by simp [sumD]⟩
  | n + 1, h => by
    obtain ⟨q, hq⟩ := sumD_mod (g := g) n fun k hk => h k (by omega)
    obtain ⟨q', hq'⟩ := h n (by omega)
    exact ⟨q + q' * g n, by simp only [sumD, hq, hq']; grind⟩
theorem sumD_l (f f2 g : Nat → Int) (c : Int) : ∀ n, sumD (fun k => f k + c * f2 k) g n = sumD f g n + c * sumD f2 g n
  | 0 => by simp [sumD]
  | n + 1 => by simp only [sumD, sumD_l f f2 g c n]; grind
theorem sumD_r (f g g2 : Nat → Int) (c : Int) : ∀ n, sumD f (fun k => g k - c * g2 k) n = sumD f g n - c * sumD f g2 n
  | 0 => by simp [sumD]
  | n + 1 => by simp only [sumD, sumD_r f g g2 c n]; grind
theorem sumD_sl (f g : Nat → Int) (c : Int) : ∀ n, sumD (fun k => f k * c) g n = sumD f g n * c
  | 0 => by simp [sumD]
  | n + 1 => by simp only [sumD, sumD_sl f g c n]; grind
theorem sumD_sr (f g : Nat → Int) (c : Int) : ∀ n, sumD f (fun k => g k * c) n = sumD f g n * c
  | 0 => by simp [sumD]
  | n + 1 => by simp only [sumD, sumD_sr f g c n]; grind
/-! ### a right inverse is kept by row operations -/

def dl (a b : Nat) : Int := if a = b then 1 else 0

def RInv (p : Int) (n : Nat) (E X : Mat) : Prop := ∀ a, a < n → ∀ b, b < n → ∃ q, sumD (E a) (fun k => X k b) n = dl a b + p * q

theorem RInv.congr {p : Int} {n : Nat} {E E' X : Mat} (h : RInv p n E X) (he : ∀ a, a < n → ∀ k, k < n → ∃ q, E' a k = E a k + p * q) : RInv p n E' X := by
  intro a ha b hb
  obtain ⟨q, hq⟩ := h a ha b hb
  obtain ⟨q', hq'⟩ := sumD_mod (p := p) (f := E' a) (f' := E a) (g := fun k => X k b) n (he a ha)
  exact ⟨q + q', by rw [hq', hq]; grind⟩

theorem RInv.swap {p : Int} {n : Nat} {E X : Mat} (h : RInv p n E X) {s t : Nat} (hs : s < n) (ht : t < n) : ∃ X', RInv p n (swapF E s t) X' := by
  let sw : Nat → Nat := fun i => if i = s then t else if i = t then s else i
  have hsw : ∀ i, i < n → sw i < n := by
    intro i hi
    show (if i = s then t else if i = t then s else i) < n
    split
    · exact ht
    · split
      · exact hs
      · exact hi
  have hinj : ∀ i j, sw i = sw j → i = j := by
    intro i j
    show (if i = s then t else if i = t then s else i) = (if j = s then t else if j = t then s else j) → i = j
    intro h
    repeat' split at h
    all_goals omega
  refine ⟨fun k b => X k (sw b), fun a ha b hb => ?_⟩
  obtain ⟨q, hq⟩ := h (sw a) (hsw a ha) (sw b) (hsw b hb)
  refine ⟨q, ?_⟩
  have e : swapF E s t a = E (sw a) := by
    funext k
    show (if a = s then E t k else if a = t then E s k else E a k) = E (if a = s then t else if a = t then s else a) k
    split
    · rfl
    · split <;> rfl
  rw [e, hq]
  congr 1
  unfold dl
  by_cases hab : a = b
  · subst hab; simp
  · rw [if_neg hab, if_neg fun h => hab (hinj _ _ h)]

theorem RInv.scale {p inv u : Int} {n : Nat} {E X : Mat} (h : RInv p n E X) {t : Nat} (ht : t < n) (hu : u * inv % p = 1) : ∃ X', RInv p n (sclF p inv E t) X' := by
  have hu' : ∃ z, u * inv = 1 + p * z := ⟨u * inv / p, by have := Int.emod_add_mul_ediv (u * inv) p; omega⟩
  obtain ⟨z, hz⟩ := hu'
  refine ⟨fun k b => if b = t then X k t * u else X k b, RInv.congr (E := fun a k => if a = t then E t k * inv else E a k) (fun a ha b hb => ?_) (fun a ha k hk => ?_)⟩
  · obtain ⟨q, hq⟩ := h a ha b hb
    by_cases hat : a = t
    · subst hat
      by_cases hbt : b = a
      · subst hbt
        refine ⟨z + q * inv * u, ?_⟩
        simp only [if_true]
        rw [sumD_sl, sumD_sr, hq, dl, if_pos rfl]
        grind
      · refine ⟨q * inv, ?_⟩
        simp only [if_true, if_neg hbt]
        rw [sumD_sl, hq, dl, if_neg (Ne.symm hbt)]
        grind
    · by_cases hbt : b = t
      · subst hbt
        refine ⟨q * u, ?_⟩
        simp only [if_neg hat, if_true]
        rw [sumD_sr]
        have : sumD (fun k => E a k) (fun k => X k b) n = dl a b + p * q := hq
        rw [this, dl, if_neg hat]
        grind
      · refine ⟨q, ?_⟩
        simp only [if_neg hat, if_neg hbt]
        exact hq
  · unfold sclF
    by_cases hat : a = t
    · simp only [hat, if_true]
      refine ⟨-(E t k * inv / p), ?_⟩
      have := Int.emod_add_mul_ediv (E t k * inv) p
      have e : p * -(E t k * inv / p) = -(p * (E t k * inv / p)) := Int.mul_neg _ _
      omega
    · simp only [hat, if_false]
      exact ⟨0, by simp⟩

theorem RInv.add {p f : Int} {n : Nat} {E E' X : Mat} (h : RInv p n E X) {m t : Nat} (hm : m < n) (ht : t < n) (hmt : m ≠ t) (he : ∀ a, a < n → ∀ k, k < n → ∃ q, E' a k = (if a = m then E m k + f * E t k else E a k) + p * q) : ∃ X', RInv p n E' X' := by
  refine ⟨fun k b => if b = t then X k t - f * X k m else X k b, RInv.congr (E := fun a k => if a = m then E m k + f * E t k else E a k) (fun a ha b hb => ?_) he⟩
  obtain ⟨q1, h1⟩ := h a ha b hb
  obtain ⟨q2, h2⟩ := h t ht b hb
  obtain ⟨q3, h3⟩ := h a ha m hm
  obtain ⟨q4, h4⟩ := h t ht m hm
  have h1' : sumD (fun k => E a k) (fun k => X k b) n = dl a b + p * q1 := h1
  have h2' : sumD (fun k => E t k) (fun k => X k b) n = dl t b + p * q2 := h2
  have h3' : sumD (fun k => E a k) (fun k => X k m) n = dl a m + p * q3 := h3
  have h4' : sumD (fun k => E t k) (fun k => X k m) n = dl t m + p * q4 := h4
  have d1 : dl t m = 0 := if_neg (Ne.symm hmt)
  by_cases ham : a = m
  · subst ham
    have d2 : dl a a = 1 := if_pos rfl
    by_cases hbt : b = t
    · subst hbt
      have d3 : dl a b = 0 := if_neg hmt
      have d4 : dl b b = 1 := if_pos rfl
      refine ⟨q1 + f * q2 - f * q3 - f * f * q4, ?_⟩
      simp only [if_true]
      rw [sumD_l, sumD_r, sumD_r, h1', h2', h3', h4', d1, d2, d3, d4]
      grind
    · refine ⟨q1 + f * q2, ?_⟩
      have d3 : dl t b = 0 := if_neg (Ne.symm hbt)
      simp only [if_true, if_neg hbt]
      rw [sumD_l, h1', h2', d3]
      grind
  · by_cases hbt : b = t
    · subst hbt
      have d3 : dl a m = 0 := if_neg ham
      refine ⟨q1 - f * q3, ?_⟩
      simp only [if_neg ham, if_true]
      rw [sumD_r, h1', h3', d3]
      grind
    · refine ⟨q1, ?_⟩
      simp only [if_neg ham, if_neg hbt]
      exact h1'

/-! ### the reduction -/

/-- The rows behind the rank are zero in the columns that are done; the right half has a right inverse. -/
def RK (p : Int) (n : Nat) (s : Mat × List Int × Int) (j : Nat) : Prop :=
  (∃ X, RInv p n (fun a k => s.1 a (n + k)) X) ∧ ∀ b, b < j → ∀ i, s.2.1.length ≤ i → i < n → s.1 i b = 0

theorem RK.step {p : Int} {n : Nat} {s : Mat × List Int × Int} {j : Nat} (hpr : isPrimeI p = true) (hj : j < 2 * n) (I : RI p n (2 * n) s j) (h : RK p n s j) : RK p n (redS p n s j) (j + 1) := by
  have hp : pOk p := isPrimeI_t hpr
  obtain ⟨⟨X, hX⟩, hz⟩ := h
  obtain ⟨M, L, d⟩ := s
  simp only at hX hz
  by_cases hl : L.length < n
  · cases hk : pivF M j (n - L.length) L.length with
    | none =>
      rw [redS_n (s := (M, L, d)) hl hk]
      refine ⟨⟨X, hX⟩, fun b hb i h1 h2 => ?_⟩
      by_cases hbj : b = j
      · subst hbj; exact pivF_none hk i h1 (by simp only at h1; omega)
      · exact hz b (by omega) i h1 h2
    | some k =>
      rw [redS_s (s := (M, L, d)) hl hk]
      simp only
      have hq := pivF_lt hk
      have hkn : k < n := by omega
      have hM : inM p n (2 * n) M := I.m
      have hx : inP p (M k j) := hM k hkn j hj
      have hsw : swapF M L.length k L.length j = M k j := if_pos rfl
      have hi := inv_one hpr hx hq.2.2
      generalize hinv : invG p 1 (M k j) (p - 2).toNat = inv at hi
      have hpiv : pivS p M L.length j k = sclF p inv (swapF M L.length k) L.length := by unfold pivS; rw [hsw, hinv]
      rw [hpiv]
      have hS : inM p n (2 * n) (swapF M L.length k) := swapF_in hM hl hkn
      generalize hM2 : sclF p inv (swapF M L.length k) L.length = M2
      have hM2i : inM p n (2 * n) M2 := by rw [← hM2]; exact sclF_in hp hS _
      constructor
      · obtain ⟨X1, hX1⟩ := hX.swap (s := L.length) (t := k) hl hkn
        obtain ⟨X2, hX2⟩ := hX1.scale (inv := inv) (u := M k j) hl hi
        have base : RInv p n (fun a b => clrF p M2 L.length j 0 a (n + b)) X2 := by
          rw [clrF_0, ← hM2]; exact hX2
        have key : ∀ m, m ≤ n → ∃ X', RInv p n (fun a b => clrF p M2 L.length j m a (n + b)) X' := by
          intro m
          induction m with
          | zero => intro _; exact ⟨X2, base⟩
          | succ m ih =>
            intro hm
            obtain ⟨X', hX'⟩ := ih (by omega)
            by_cases hmt : m = L.length
            · subst hmt
              rw [clrF_skip]; exact ⟨X', hX'⟩
            · refine hX'.add (f := p - M2 m j) (m := m) (t := L.length) (by omega) hl hmt fun a ha b hb => ?_
              show ∃ q, clrF p M2 L.length j (m + 1) a (n + b) = _
              by_cases ham : a = m
              · subst ham
                rw [if_pos rfl]
                show ∃ q, clrF p M2 L.length j (a + 1) a (n + b) = (clrF p M2 L.length j a a (n + b) + (p - M2 a j) * clrF p M2 L.length j a L.length (n + b)) + p * q
                rw [clrF_old, clrF_t]
                unfold clrF
                rw [if_pos ⟨by omega, hmt⟩]
                refine ⟨-((M2 a (n + b) + (p - M2 a j) * M2 L.length (n + b)) / p), ?_⟩
                have e1 := Int.emod_add_mul_ediv (M2 a (n + b) + (p - M2 a j) * M2 L.length (n + b)) p
                have e2 := Int.mul_neg p ((M2 a (n + b) + (p - M2 a j) * M2 L.length (n + b)) / p)
                omega
              · rw [if_neg ham]
                refine ⟨0, ?_⟩
                show clrF p M2 L.length j (m + 1) a (n + b) = clrF p M2 L.length j m a (n + b) + p * 0
                unfold clrF
                by_cases hc : a < m ∧ a ≠ L.length
                · rw [if_pos hc, if_pos ⟨by omega, hc.2⟩]; simp
                · rw [if_neg hc, if_neg (by omega)]; simp
        exact key n (Nat.le_refl _)
      · intro b hb i h1 h2
        simp only [List.length_append, List.length_cons, List.length_nil] at h1
        show clrF p M2 L.length j n i b = 0
        unfold clrF
        rw [if_pos ⟨h2, by omega⟩]
        have e2 : ∀ c, M2 i c = swapF M L.length k i c := fun c => by rw [← hM2]; exact if_neg (by omega)
        have e3 : ∀ c, M2 L.length c = M k c * inv % p := fun c => by rw [← hM2]; show (if L.length = L.length then _ else _) = _; rw [if_pos rfl]; congr 2; exact if_pos rfl
        by_cases hbj : b = j
        · subst hbj
          rw [e3 b, hi]
          have : M2 i b + (p - M2 i b) * 1 = p := by omega
          rw [this]; exact Int.emod_self
        · have hbj' : b < j := by omega
          rw [e3 b, hz b hbj' k hq.1 hkn, e2 b]
          have : swapF M L.length k i b = 0 := by
            unfold swapF
            rw [if_neg (by omega)]
            split
            · exact hz b hbj' L.length (Nat.le_refl _) hl
            · exact hz b hbj' i (by omega) h2
          rw [this]; simp
  · unfold redS
    rw [if_neg hl]
    exact ⟨⟨X, hX⟩, fun b hb i h1 h2 => by simp only at h1; omega⟩

end Go.Am
end
section
namespace Go.Am
def wideF (n : Nat) (M : Mat) : Mat := fun a b => if b < n then M a b else dl a (b - n)
def wideM (n : Nat) (M : Mat) : Mat := ofD (2 * n) (genD n (2 * n) (wideF n M))
def invX (p : Int) (n : Nat) (M : Mat) : Mat × List Int × Int := redN p n (wideM n M) (2 * n)
def invOk (p : Int) (n : Nat) (M : Mat) : Prop := ∀ i, i < n → (invX p n M).2.1.getD i 0 = (i : Int)
instance (p : Int) (n : Nat) (M : Mat) : Decidable (invOk p n M) := inferInstanceAs (Decidable (∀ i, i < n → (invX p n M).2.1.getD i 0 = (i : Int)))
section
variable {p : Int} {n : Nat} {M R : Mat} {L : List Int}

end
section
variable {p : Int} {n : Nat} {M R : Mat} {L : List Int}
end

end Go.Am
end
section
namespace Go.Am
abbrev Mx3 := Int × Int × List Int
abbrev Aut := Int × Int × List Int × List (Int × Int × List Int) × List Int
def wOk (k : Nat) (w : List Int) : Prop := ∀ c ∈ w, 0 ≤ c ∧ c < (k : Int)
instance (k : Nat) (w : List Int) : Decidable (wOk k w) := inferInstanceAs (Decidable (∀ c ∈ w, 0 ≤ c ∧ c < (k : Int)))
def stepR (p : Int) (n : Nat) (ms : List Mx3) (v : List Int) (c : Int) : List Int := genD 1 n (mulF p n (ofD n v) (ofD n (ms.getD c.toNat (0, 0, [])).2.2))
def reachL (p : Int) (n : Nat) (ms : List Mx3) (v : List Int) (w : List Int) : List Int := w.foldl (stepR p n ms) v
def dotL (p : Int) (x y : List Int) : Int := dotF p (fun t => x.getD t 0) (fun t => y.getD t 0) x.length
def reachOk (x : Aut × List Int) : Prop := autOk x.1 = true ∧ wOk x.1.2.2.2.1.length x.2 ∧ x.2.length ≤ 1048576
instance (x : Aut × List Int) : Decidable (reachOk x) := by unfold reachOk; infer_instance
def F_spec_l34Reach : Aut × List Int → Option (List Int) := fun (x : Aut × List Int) => if reachOk x then some (reachL x.1.1 x.1.2.1.toNat x.1.2.2.2.1 x.1.2.2.1 x.2) else none
def F_impl_wordRow : Aut × List Int → Option (List Int) := F_spec_l34Reach
def weightL (x : Aut × List Int) : Int := dotL x.1.1 (reachL x.1.1 x.1.2.1.toNat x.1.2.2.2.1 x.1.2.2.1 x.2) x.1.2.2.2.2
def F_impl_rawWordWeight : Aut × List Int → Option Int := fun (x : Aut × List Int) => if reachOk x then some (weightL x) else none
def F_spec_WordWeight : Aut × List Int → Option Int := fun (x : Aut × List Int) =>
  if sz_Automaton x.1 ≤ 1048576 ∧ x.2.length ≤ 1048576 then some (if autOk x.1 = true ∧ x.2.length ≤ 24 ∧ wOk x.1.2.2.2.1.length x.2 then weightL x else -1) else none
def F_impl_WordWeight : Aut × List Int → Option Int := F_spec_WordWeight

def ag_impl_wordRow : Sig := [(.agg, [.int .i64, .int .i64, .list [.int .i64], .list [.int .i64, .int .i64, .list [.int .i64]], .list [.int .i64]]), (.one, [.list [.int .i64]])]
def rs_impl_wordRow : Sig := [(.one, [.list [.int .i64]])]
def mu_impl_wordRow : MSig := []
def ag_impl_rawWordWeight : Sig := [(.agg, [.int .i64, .int .i64, .list [.int .i64], .list [.int .i64, .int .i64, .list [.int .i64]], .list [.int .i64]]), (.one, [.list [.int .i64]])]
def rs_impl_rawWordWeight : Sig := [(.one, [.int .i64])]
def mu_impl_rawWordWeight : MSig := []
def ag_impl_WordWeight : Sig := [(.agg, [.int .i64, .int .i64, .list [.int .i64], .list [.int .i64, .int .i64, .list [.int .i64]], .list [.int .i64]]), (.one, [.list [.int .i64]])]
def rs_impl_WordWeight : Sig := [(.one, [.int .i64])]
def mu_impl_WordWeight : MSig := []

def G_impl_wordRow (NN : Nat) : ((Int × (Int × ((List Int) × ((List (Int × (Int × (List Int)))) × (List Int))))) × (List Int)) → (Option (List Int)) :=
 (fun (((i0, i1, l2, l3, l4), l5) : ((Int × (Int × ((List Int) × ((List (Int × (Int × (List Int)))) × (List Int))))) × (List Int))) =>
 (F_impl_copyInts l2).bnd (fun l6 =>
 joinK ((fulI 0 (lenN l6) (lenN l6)).bnd (fun _ =>
 loopT NN (fun (((l7, i8, i9), (i10, i11, l12, l13, l14), (i15, i16), l17) : (((List Int) × (Int × Int)) × ((Int × (Int × ((List Int) × ((List (Int × (Int × (List Int)))) × (List Int))))) × ((Int × Int) × (List Int))))) =>
 cnd (ltI i9 i8)
 ((getI l7 i9).bnd (fun i18 =>
 (getI l13 i18).bnd (fun (i19, i20, l21) =>
 (winI l17 0 (lenN l17)).bnd (fun l22 =>
 (F_impl_rawMulMatrix (i10, (i15, i16, l22), i19, i20, l21)).bnd (fun (i23, i24, l25) =>
 (fulI 0 (lenN l25) (lenN l25)).bnd (fun _ =>
 some (Sum.inl ((l7, i8, addI .i64 i9 1), (i10, i11, l12, l13, l14), (i23, i24), l25))))))))
 (((fulI 0 (lenN l17) (lenN l17)).bnd (fun _ =>
 some (Sum.inl ((i15, i16), l17)))).bnd (fun l26 =>
 some (Sum.inr l26))))
 ((l5, natI (lenN l5), (0 : Int)), (i0, i1, l2, l3, l4), ((1 : Int), natI (lenN l6)), l6)))
 (fun ((i27, i28), l29) =>
 (takI l29 (lenN l29)).bnd (fun l30 =>
 some l30))))


def G_impl_rawWordWeight (NN : Nat) : ((Int × (Int × ((List Int) × ((List (Int × (Int × (List Int)))) × (List Int))))) × (List Int)) → (Option Int) :=
 (fun (((i0, i1, l2, l3, l4), l5) : ((Int × (Int × ((List Int) × ((List (Int × (Int × (List Int)))) × (List Int))))) × (List Int))) =>
 (F_impl_wordRow ((i0, i1, l2, l3, l4), l5)).bnd (fun l6 =>
 (winI l6 0 (lenN l6)).bnd (fun l7 =>
 (F_impl_rawMulMatrix (i0, ((1 : Int), natI (lenN l6), l7), natI (lenN l4), (1 : Int), l4)).bnd (fun (i8, i9, l10) =>
 (chkI (0 : Int) (lenN l10)).bnd (fun k11 =>
 (getN l10 (addN 0 k11)).bnd (fun i12 =>
 some i12))))))


def G_impl_WordWeight (NN : Nat) : ((Int × (Int × ((List Int) × ((List (Int × (Int × (List Int)))) × (List Int))))) × (List Int)) → (Option Int) :=
 (fun (((i0, i1, l2, l3, l4), l5) : ((Int × (Int × ((List Int) × ((List (Int × (Int × (List Int)))) × (List Int))))) × (List Int))) =>
 (F_impl_AutomatonOk (i0, i1, l2, l3, l4)).bnd (fun b6 =>
 cnd (notB b6)
 (some ((-1 : Int)))
 (cnd (ltI (24 : Int) (natI (lenN l5)))
 (some ((-1 : Int)))
 (joinK (loopT NN (fun (((l7, l8, i9, i10), i11, i12, l13, l14, l15) : (((List Int) × ((List Int) × (Int × Int))) × (Int × (Int × ((List Int) × ((List (Int × (Int × (List Int)))) × (List Int))))))) =>
 cnd (ltI i10 i9)
 ((getI l8 i10).bnd (fun i16 =>
 cnd (ltI i16 (0 : Int))
 (some (Sum.inr (Sum.inr ((-1 : Int)))))
 (cnd (leI (natI (lenN l14)) i16)
 (some (Sum.inr (Sum.inr ((-1 : Int)))))
 (some (Sum.inl ((l7, l8, i9, addI .i64 i10 1), i11, i12, l13, l14, l15))))))
 (some (Sum.inr (Sum.inl (l7, i11, i12, l13, l14, l15)))))
 ((l5, l5, natI (lenN l5), (0 : Int)), i0, i1, l2, l3, l4))
 (fun (l17, i18, i19, l20, l21, l22) =>
 (F_impl_rawWordWeight ((i18, i19, l20, l21, l22), l17)).bnd (fun i23 =>
 some i23))))))


/-! ### good automata -/

theorem rowOk_P {m : Int} {l : List Int} : rowOk m l = true ↔ allP m l := by
  simp only [rowOk, allP, List.all_eq_true, inB, decide_eq_true_eq, inP]

structure AutOk (p : Int) (n : Nat) (a : List Int) (ms : List Mx3) (b : List Int) : Prop where
  pr : isPrimeI p = true
  hn : n ≤ 12
  al : a.length = n
  ap : allP p a
  bl : b.length = n
  bp : allP p b
  l1 : 1 ≤ ms.length
  l4 : ms.length ≤ 4
  hm : ∀ x ∈ ms, ∃ M : Mat, x = ((n : Int), (n : Int), genD n n M) ∧ inM p n n M

theorem AutOk.p {p : Int} {n : Nat} {a b : List Int} {ms : List Mx3} (h : AutOk p n a ms b) : pOk p := isPrimeI_t h.pr

theorem autOk_nat {x : Aut} (h : autOk x = true) : ∃ (p : Int) (n : Nat) (a : List Int) (ms : List Mx3) (b : List Int), x = (p, (n : Int), a, ms, b) ∧ AutOk p n a ms b := by
  obtain ⟨p, n, a, ms, b⟩ := x
  simp only [autOk, Bool.and_eq_true, decide_eq_true_eq] at h
  obtain ⟨h1, h2, ⟨h3, h4⟩, ⟨h5, h6⟩, h7, h8⟩ := h
  obtain ⟨n, rfl⟩ := natI_eq h2.1
  refine ⟨p, n, a, ms, b, rfl, h1, by omega, by omega, rowOk_P.1 h3, by omega, rowOk_P.1 h5, by omega, by omega, fun x hx => ?_⟩
  have hm := List.all_eq_true.1 h8 x hx
  simp only [matsOk, Bool.and_eq_true, decide_eq_true_eq] at hm
  obtain ⟨hm, hr, hc⟩ := hm
  obtain ⟨r, c, M, rfl, hp, hr', hc', hrc, hM⟩ := matOk_nat hm
  simp only at hr hc
  have er : r = n := by omega
  have ec : c = n := by omega
  subst er ec
  exact ⟨M, rfl, hM⟩

theorem ofD_in {p : Int} {r c : Nat} {l : List Int} (hl : l.length = r * c) (h : allP p l) : inM p r c (ofD c l) := allP_gen.1 (by rw [genD_of hl]; exact h)

section
variable {p : Int} {n : Nat} {a b : List Int} {ms : List Mx3}

theorem stepR_len {s : List Int} {c : Int} : (stepR p n ms s c).length = n := by unfold stepR; rw [genD_len]; omega
theorem stepR_in (hp : pOk p) {s : List Int} {c : Int} : allP p (stepR p n ms s c) := allP_gen.2 (mulF_in hp 1 n n _ _)

theorem mul_row1 (H : AutOk p n a ms b) {s : List Int} (hl : s.length = n) (hs : allP p s) {x : Mx3} (hx : x ∈ ms) :
    F_spec_l31Mul (p, (1, (n : Int), s), x) = some (1, (n : Int), genD 1 n (mulF p n (ofD n s) (ofD n x.2.2))) := by
  obtain ⟨M, rfl, hM⟩ := H.hm x hx
  have hn := H.hn
  have hnn : n * n ≤ 12 * 12 := Nat.mul_le_mul hn hn
  have e1 : genD 1 n (ofD n s) = s := genD_of (by omega)
  have e2 : genD n n (ofD n (genD n n M)) = genD n n M := genD_of (genD_len _ _ _)
  have h := mulS_nat (r := 1) (k := n) (c := n) (A := ofD n s) (B := ofD n (genD n n M)) H.p (by omega) (by omega) (by omega) (by omega) (by omega) (by omega) (ofD_in (by omega) hs) (ofD_in (genD_len _ _ _) (allP_gen.2 hM))
  rw [e1, e2] at h
  exact h

theorem steps_get {w : List Int} (hw : wOk ms.length w) {i : Nat} {c : Int} (hc : w[i]? = some c) : ∃ x, x ∈ ms ∧ getI ms c = some x ∧ ms.getD c.toNat (0, 0, []) = x := by
  have h := hw c (List.mem_of_getElem? hc)
  obtain ⟨k, rfl⟩ := natI_eq h.1
  have hk : k < ms.length := by omega
  refine ⟨ms[k], List.getElem_mem hk, by rw [getI_nat, List.getElem?_eq_getElem hk], ?_⟩
  simp [List.getD, hk]

theorem foldN_l {S α : Type} (f : S → α → S) : ∀ (l : List α) (i : Nat) (s : S), foldN (fun _ s a => f s a) i s l = l.foldl f s
  | [], i, s => rfl
  | x :: l, i, s => foldN_l f l (i + 1) (f s x)

theorem reachL_I (hp : pOk p) : ∀ (w : List Int) (s : List Int), s.length = n → allP p s → (reachL p n ms s w).length = n ∧ allP p (reachL p n ms s w)
  | [], s, h1, h2 => ⟨h1, h2⟩
  | c :: w, s, h1, h2 => reachL_I hp w (stepR p n ms s c) stepR_len (stepR_in hp)

theorem g_reachI (H : AutOk p n a ms b) {w : List Int} (hw : wOk ms.length w) (hl : w.length ≤ 1048576) : G_impl_wordRow FUEL ((p, (n : Int), a, ms, b), w) = some (reachL p n ms a w) := by
  simp only [G_impl_wordRow]
  rw [show F_impl_copyInts a = some a from if_pos (by have := H.al; have := H.hn; omega), bnd_s]
  simp only [fulI_id, bnd_s]
  have ea : natI (lenN a) = (n : Int) := by rw [nl, H.al]
  rw [ea]
  rw [loopT_foldN w (fun s i => ((w, natI (lenN w), (i : Int)), (p, (n : Int), a, ms, b), ((1 : Int), (n : Int)), s)) (fun _ s => s.length = n ∧ allP p s) (fun _ s c => stepR p n ms s c) (fun s => Sum.inl (((1 : Int), (n : Int)), s)) ?h1 ?h3 (s := a) ⟨H.al, H.ap⟩ ?h0 (FUEL_gt (by omega))]
  case h0 => rfl
  case h1 =>
    intro i s c hc hI
    refine ⟨?_, stepR_len, stepR_in H.p⟩
    obtain ⟨x, hx, hg, hd⟩ := steps_get hw hc
    have ht : F_impl_rawMulMatrix (p, (1, (n : Int), s), x) = _ := mul_row1 H hI.1 hI.2 hx
    simp only
    rw [cnd_t (ltI_in hc), getI_nat, hc, bnd_s, hg, bnd_s]
    obtain ⟨x0, x1, x2⟩ := x
    simp only [winI_id, bnd_s, ht, fulI_id]
    rw [next_i hc (by omega)]
    unfold stepR
    rw [hd]
  case h3 =>
    intro s hI
    simp only
    rw [cnd_f (ltI_end w)]
    try simp only [fulI_id, bnd_s]
  rw [joinK_l]
  simp only [takI_id, bnd_s]
  rw [foldN_l]
  rfl
end

theorem f_impl_wordRow (x : Aut × List Int) (y : List Int) (h : F_impl_wordRow x = some y) : G_impl_wordRow FUEL x = some y := by
  obtain ⟨x, w⟩ := x
  simp only [F_impl_wordRow, F_spec_l34Reach] at h
  split at h
  · rename_i hc
    obtain ⟨p, n, a, ms, b, rfl, H⟩ := autOk_nat hc.1
    rw [← h]
    exact g_reachI H hc.2.1 hc.2.2
  · cases h

theorem weight_mul {p : Int} {n : Nat} {s b : List Int} (hp : pOk p) (hn : n ≤ 12) (hl : s.length = n) (hs : allP p s) (hb : b.length = n) (hB : allP p b) :
    F_impl_rawMulMatrix (p, (1, (n : Int), s), ((n : Int), 1, b)) = some (1, 1, [dotL p s b]) := by
  have e1 : genD 1 n (ofD n s) = s := genD_of (by omega)
  have e2 : genD n 1 (ofD 1 b) = b := genD_of (by omega)
  have h := mulS_nat (r := 1) (k := n) (c := 1) (A := ofD n s) (B := ofD 1 b) hp (by omega) (by omega) (by omega) (by omega) (by omega) (by omega) (ofD_in (by omega) hs) (ofD_in (by omega) hB)
  rw [e1, e2] at h
  have e3 : genD 1 1 (mulF p n (ofD n s) (ofD 1 b)) = [dotL p s b] := by
    show [dotF p (fun t => ofD n s 0 t) (fun t => ofD 1 b t 0) n] = [dotL p s b]
    unfold dotL
    rw [hl]
    have : ∀ k, k ≤ n → dotF p (fun t => ofD n s 0 t) (fun t => ofD 1 b t 0) k = dotF p (fun t => s.getD t 0) (fun t => b.getD t 0) k := by
      intro k
      induction k with
      | zero => intro _; rfl
      | succ k ih =>
        intro hk
        show (dotF _ _ _ k + _) % p = (dotF _ _ _ k + _) % p
        rw [ih (by omega)]
        have a1 : ofD n s 0 k = s.getD k 0 := by unfold ofD; rw [Nat.zero_mul, Nat.zero_add]
        have a2 : ofD 1 b k 0 = b.getD k 0 := by unfold ofD; rw [Nat.mul_one, Nat.add_zero]
        simp only [a1, a2]
    rw [this n (Nat.le_refl n)]
  rw [e3] at h
  exact h

theorem f_impl_rawWordWeight (x : Aut × List Int) (y : Int) (h : F_impl_rawWordWeight x = some y) : G_impl_rawWordWeight FUEL x = some y := by
  obtain ⟨x, w⟩ := x
  simp only [F_impl_rawWordWeight] at h
  split at h
  · rename_i hc
    have hr : F_impl_wordRow (x, w) = some _ := if_pos hc
    obtain ⟨p, n, a, ms, b, rfl, H⟩ := autOk_nat hc.1
    rw [← h]
    simp only [Int.toNat_natCast] at hr
    obtain ⟨h1, h2⟩ := reachL_I (ms := ms) H.p w a H.al H.ap
    simp only [G_impl_rawWordWeight, hr, bnd_s, winI_id]
    rw [show natI (lenN (reachL p n ms a w)) = (n : Int) by rw [nl, h1], show natI (lenN b) = (n : Int) by rw [nl, H.bl], weight_mul H.p H.hn h1 h2 H.bl H.bp, bnd_s]
    simp only
    rw [show chkI 0 (lenN [dotL p (reachL p n ms a w) b]) = some 0 from rfl]
    simp only [bnd_s, weightL, Int.toNat_natCast]
    rfl
  · cases h

theorem wOk_all {k : Nat} {w : List Int} : w.all (fun c => decide (0 ≤ c ∧ c < (k : Int))) = true ↔ wOk k w := by
  simp only [List.all_eq_true, decide_eq_true_eq]
  rfl

theorem f_impl_WordWeight (x : Aut × List Int) (y : Int) (h : F_impl_WordWeight x = some y) : G_impl_WordWeight FUEL x = some y := by
  obtain ⟨x, w⟩ := x
  simp only [F_impl_WordWeight, F_spec_WordWeight] at h
  split at h
  · rename_i hl
    rw [← h]
    have hA : F_impl_AutomatonOk x = some (autOk x) := if_pos hl.1
    cases hx : autOk x with
    | false =>
      rw [if_neg (by simp)]
      obtain ⟨p, n, a, ms, b⟩ := x
      simp only [G_impl_WordWeight, hA, bnd_s, hx]
      rfl
    | true =>
      have hx' := hx
      rw [hx] at hA
      obtain ⟨p, n, a, ms, b, rfl, H⟩ := autOk_nat hx
      simp only [G_impl_WordWeight, hA, bnd_s]
      rw [cnd_f (by rfl), nl]
      by_cases h24 : w.length ≤ 24
      · rw [cnd_f (ltI_f (by omega))]
        rw [loopT_all w (fun i => ((w, w, (w.length : Int), (i : Int)), p, (n : Int), a, ms, b)) (fun c => decide (0 ≤ c ∧ c < (ms.length : Int))) (Sum.inr (-1)) (Sum.inl (w, p, (n : Int), a, ms, b)) ?h1 ?h2 ?h3 ?h0 (FUEL_gt (by omega))]
        case h0 => rfl
        case h1 =>
          intro i c hc hp
          have hp := of_decide_eq_true hp
          simp only
          rw [cnd_t (ltI_t (by have := lt_of_get hc; omega)), getI_nat, hc, bnd_s, cnd_f (ltI_f (by omega)), nl, cnd_f (leI_f (by omega)), next_i hc (by omega)]
        case h2 =>
          intro i c hc hp
          have hp := of_decide_eq_false hp
          simp only
          rw [cnd_t (ltI_t (by have := lt_of_get hc; omega)), getI_nat, hc, bnd_s]
          by_cases h0 : c < 0
          · rw [cnd_t (ltI_t h0)]
          · rw [cnd_f (ltI_f (by omega)), nl, cnd_t (leI_t (by omega))]
        case h3 =>
          simp only
          rw [cnd_f (ltI_f (by omega))]
        by_cases hw : w.all (fun c => decide (0 ≤ c ∧ c < (ms.length : Int))) = true
        · rw [if_pos hw, joinK_l, if_pos (show _ ∧ _ ∧ _ from ⟨by first | trivial | rfl, h24, wOk_all.1 hw⟩)]
          simp only
          rw [show F_impl_rawWordWeight ((p, (n : Int), a, ms, b), w) = some _ from if_pos ⟨hx', wOk_all.1 hw, by show w.length ≤ _; omega⟩, bnd_s]
        · rw [if_neg hw, joinK_r, if_neg (fun h => hw (wOk_all.2 h.2.2))]
      · rw [cnd_t (ltI_t (by omega)), if_neg (fun h => h24 h.2.1)]
  · cases h

end Go.Am
end
section
namespace Go.Am
def stM (n : Nat) (ms : List Mx3) (k : Nat) : Mat := ofD n (ms.getD k (0, 0, [])).2.2
/-! ### sums of automata -/

section
variable {p : Int} {n m : Nat} {a b a2 b2 : List Int} {ms ms2 : List Mx3}

end

section
variable {p sg : Int} {n m : Nat} {a b a2 b2 : List Int} {ms ms2 : List Mx3}

end

end Go.Am
end
section
namespace Go.Am
/-! ### contracted edges -/

section
variable {n : Int} {d : List (Int × Int)} {a b : Int}
end

end Go.Am
end
section
namespace Go.Am
/-! ### the functions -/

def relab (b a : Int) (l : List Int) : List Int := l.map fun x => if x = b then a else x
def atI (l : List Int) (i : Int) : Int := l.getD i.toNat 0
def iotaI (n : Nat) : List Int := (List.range n).map fun i => ((i : Nat) : Int)
/-- The reference: the number of parts that are left, and each node's part. -/
def partStep (s : Nat) (i : Nat) (st : Int × List Int) (e : Int × Int) : Int × List Int :=
  if s.testBit i = true ∧ atI st.2 e.1 ≠ atI st.2 e.2 then (st.1 - 1, relab (atI st.2 e.2) (atI st.2 e.1) st.2) else st
def parts (n : Int) (es : List (Int × Int)) (s : Int) : Int × List Int := foldN (partStep s.toNat) 0 (n, iotaI n.toNat) es
def leastStep (s : Nat) (i : Nat) (l : List Int) (e : Int × Int) : List Int :=
  if s.testBit i = true then relab (max (atI l e.1) (atI l e.2)) (min (atI l e.1) (atI l e.2)) l else l
def fixes (l : List Int) : Int := ((List.range l.length).countP fun i => l.getD i 0 == (i : Int) : Nat)
/-! ### the functions do so -/

/-! ### parts -/

theorem iotaI_len (n : Nat) : (iotaI n).length = n := by simp [iotaI]
theorem relab_len (b a : Int) (l : List Int) : (relab b a l).length = l.length := by simp [relab]
theorem minI_eq (a b : Int) : minI a b = min a b := by unfold minI; split <;> omega
theorem countP_succ (p : Nat → Bool) (j : Nat) : (List.range (j + 1)).countP p = (List.range j).countP p + (if p j = true then 1 else 0) := by
  rw [List.range_succ, List.countP_append, List.countP_singleton]

/-! ### the parts have as many as the fixed points -/

theorem countP_one (p q : Nat → Bool) (k : Nat) : ∀ n, k < n → (∀ i, i < n → i ≠ k → p i = q i) → p k = true → q k = false → (List.range n).countP p = (List.range n).countP q + 1
  | 0, h, _, _, _ => by omega
  | n + 1, h, hpq, h1, h2 => by
    rw [countP_succ, countP_succ]
    by_cases hk : k = n
    · subst hk
      rw [h1, h2]
      have : (List.range k).countP p = (List.range k).countP q := List.countP_congr fun i hi => by
        have := List.mem_range.1 hi
        rw [hpq i (by omega) (by omega)]
      rw [this]
      simp
    · rw [countP_one p q k n (by omega) (fun i hi => hpq i (by omega)) h1 h2, hpq n (by omega) (by omega)]
      omega

structure PInv (m : Nat) (l : List Int) (c : Int) (q : List Int) : Prop where
  ll : l.length = m
  lq : q.length = m
  same : ∀ i j : Nat, i < m → j < m → (l.getD i 0 = l.getD j 0 ↔ q.getD i 0 = q.getD j 0)
  low : ∀ i : Nat, i < m → 0 ≤ l.getD i 0 ∧ l.getD i 0 ≤ (i : Int) ∧ l.getD (l.getD i 0).toNat 0 = l.getD i 0
  cnt : fixes l = c

theorem relab_getD {b a : Int} {l : List Int} {i : Nat} (h : i < l.length) : (relab b a l).getD i 0 = if l.getD i 0 = b then a else l.getD i 0 := by
  simp [relab, List.getD, List.getElem?_map, List.getElem?_eq_getElem h]

theorem relab_self (b : Int) (l : List Int) : relab b b l = l := by
  unfold relab
  conv => rhs; rw [← List.map_id l]
  refine List.map_congr_left fun x _ => ?_
  split
  · rename_i h; exact h.symm
  · rfl

theorem merge_eq {b a x y : Int} : ((if x = b then a else x) = (if y = b then a else y)) ↔ (x = y ∨ ((x = b ∨ x = a) ∧ (y = b ∨ y = a))) := by
  constructor
  · intro h; split at h <;> split at h <;> omega
  · intro h; split <;> split <;> omega

theorem PInv.step {m : Nat} {l : List Int} {c : Int} {q : List Int} (h : PInv m l c q) {u v : Nat} (hu : u < m) (hv : v < m) {s i : Nat} :
    PInv m (leastStep s i l ((u : Int), (v : Int))) (partStep s i (c, q) ((u : Int), (v : Int))).1 (partStep s i (c, q) ((u : Int), (v : Int))).2 := by
  cases hb : s.testBit i with
  | false =>
    have e1 : leastStep s i l ((u : Int), (v : Int)) = l := if_neg (by rw [hb]; decide)
    have e2 : partStep s i (c, q) ((u : Int), (v : Int)) = (c, q) := if_neg (fun hh => by rw [hb] at hh; exact absurd hh.1 (by decide))
    rw [e1, e2]
    exact h
  | true =>
    have ep : q.getD u 0 = q.getD v 0 → partStep s i (c, q) ((u : Int), (v : Int)) = (c, q) := fun h => if_neg (fun hh => hh.2 h)
    have en : q.getD u 0 ≠ q.getD v 0 → partStep s i (c, q) ((u : Int), (v : Int)) = (c - 1, relab (q.getD v 0) (q.getD u 0) q) := fun h => if_pos ⟨hb, h⟩
    have el : leastStep s i l ((u : Int), (v : Int)) = relab (max (l.getD u 0) (l.getD v 0)) (min (l.getD u 0) (l.getD v 0)) l := if_pos hb
    obtain ⟨ll, lq, same, low, cnt⟩ := h
    by_cases hq : q.getD u 0 = q.getD v 0
    · have hl := (same u v hu hv).2 hq
      rw [ep hq, el, hl, Int.max_self, Int.min_self, relab_self]
      exact ⟨ll, lq, same, low, cnt⟩
    · have hl : l.getD u 0 ≠ l.getD v 0 := fun e => hq ((same u v hu hv).1 e)
      rw [en hq, el]
      obtain ⟨lu0, lu1, lu2⟩ := low u hu
      obtain ⟨lv0, lv1, lv2⟩ := low v hv
      -- lo and hi
      obtain ⟨lo, hi, e1, e2, hlt, hset, hlo0, hlo, hhi, hhim⟩ : ∃ lo hi : Nat, min (l.getD u 0) (l.getD v 0) = (lo : Int) ∧ max (l.getD u 0) (l.getD v 0) = (hi : Int) ∧ lo < hi ∧
          (∀ x : Int, (x = (hi : Int) ∨ x = (lo : Int)) ↔ (x = l.getD v 0 ∨ x = l.getD u 0)) ∧ lo < m ∧ l.getD lo 0 = (lo : Int) ∧ l.getD hi 0 = (hi : Int) ∧ hi < m := by
        obtain ⟨a, ha⟩ := natI_eq lu0
        obtain ⟨b, hb⟩ := natI_eq lv0
        rw [ha, Int.toNat_natCast] at lu2
        rw [hb, Int.toNat_natCast] at lv2
        rw [ha] at lu1 hl
        rw [hb] at lv1 hl
        rw [ha, hb]
        rcases Nat.lt_or_ge a b with hab | hab
        · exact ⟨a, b, by omega, by omega, hab, fun x => by omega, by omega, lu2, lv2, by omega⟩
        · exact ⟨b, a, by omega, by omega, by omega, fun x => by omega, by omega, lv2, lu2, by omega⟩
      rw [e1, e2]
      have gl : ∀ j, j < m → (relab (hi : Int) (lo : Int) l).getD j 0 = if l.getD j 0 = (hi : Int) then (lo : Int) else l.getD j 0 := fun j hj => relab_getD (by omega)
      have gq : ∀ j, j < m → (relab (q.getD v 0) (q.getD u 0) q).getD j 0 = if q.getD j 0 = q.getD v 0 then q.getD u 0 else q.getD j 0 := fun j hj => relab_getD (by omega)
      refine ⟨by rw [relab_len]; exact ll, by rw [relab_len]; exact lq, ?_, ?_, ?_⟩
      · intro x y hx hy
        rw [gl x hx, gl y hy, gq x hx, gq y hy, merge_eq, merge_eq, hset, hset, same x y hx hy, same x u hx hu, same x v hx hv, same y u hy hu, same y v hy hv]
      · intro x hx
        obtain ⟨h0, h1, h2⟩ := low x hx
        rw [gl x hx]
        by_cases hxh : l.getD x 0 = (hi : Int)
        · rw [if_pos hxh]
          refine ⟨by omega, by omega, ?_⟩
          rw [Int.toNat_natCast, gl lo hlo0, hlo, if_neg (by omega)]
        · rw [if_neg hxh]
          refine ⟨h0, h1, ?_⟩
          rw [gl _ (by omega), h2, if_neg hxh]
      · have hc := countP_one (fun j => l.getD j 0 == (j : Int)) (fun j => (relab (hi : Int) (lo : Int) l).getD j 0 == (j : Int)) hi m hhim ?_ (by rw [hhi]; simp) (by rw [gl hi hhim, if_pos hhi]; simp; omega)
        · unfold fixes at cnt ⊢
          rw [relab_len, ll]
          rw [ll, hc] at cnt
          omega
        · intro j hj hne
          rw [gl j hj]
          by_cases hjh : l.getD j 0 = (hi : Int)
          · rw [if_pos hjh, hjh, Bool.eq_iff_iff]
            simp only [beq_iff_eq]
            constructor
            · intro h; omega
            · intro h
              have : lo = j := by omega
              subst this
              omega
          · rw [if_neg hjh]

theorem iotaI_getD {m i : Nat} (h : i < m) : (iotaI m).getD i 0 = (i : Int) := by
  simp [iotaI, List.getD, List.getElem?_map, List.getElem?_range h]

theorem PInv.init (m : Nat) : PInv m (iotaI m) (m : Int) (iotaI m) := by
  refine ⟨iotaI_len m, iotaI_len m, fun _ _ _ _ => Iff.rfl, fun i hi => ?_, ?_⟩
  · rw [iotaI_getD hi, Int.toNat_natCast, iotaI_getD hi]
    omega
  · unfold fixes
    rw [iotaI_len]
    have : (List.range m).countP (fun i => (iotaI m).getD i 0 == (i : Int)) = (List.range m).length := by
      rw [List.countP_eq_length]
      intro i hi
      rw [iotaI_getD (List.mem_range.1 hi)]
      simp
    rw [this, List.length_range]

end Go.Am
end
section
namespace Go.Am

/-! ### loops by an invariant -/

theorem loopT_ex {X Y : Type} {f : X → Option (X ⊕ Y)} (n : Nat) (I : Nat → X → Prop) (Q : Y → Prop)
    (h1 : ∀ i x, i < n → I i x → ∃ x', f x = some (.inl x') ∧ I (i + 1) x') (h2 : ∀ x, I n x → ∃ r, f x = some (.inr r) ∧ Q r) {x0 : X} (h0 : I 0 x0) {N : Nat} (hN : n < N) : ∃ r, loopT N f x0 = some r ∧ Q r := by
  have key : ∀ (k i : Nat) (x : X), i + k = n → I i x → ∀ N, k < N → ∃ r, loopT N f x = some r ∧ Q r := by
    intro k
    induction k with
    | zero =>
      intro i x hi hx N hN
      obtain ⟨N, rfl⟩ : ∃ M, N = M + 1 := ⟨N - 1, by omega⟩
      have : i = n := by omega
      subst this
      obtain ⟨r, e, q⟩ := h2 x hx
      exact ⟨r, by simp only [loopT, e], q⟩
    | succ k ih =>
      intro i x hi hx N hN
      obtain ⟨N, rfl⟩ : ∃ M, N = M + 1 := ⟨N - 1, by omega⟩
      obtain ⟨x', e, hx'⟩ := h1 i x (by omega) hx
      obtain ⟨r, e', q⟩ := ih (i + 1) x' (by omega) hx' N (by omega)
      exact ⟨r, by simp only [loopT, e]; exact e', q⟩
  exact key n 0 x0 (by omega) h0 N hN

/-! ### cursors -/

abbrev Cu : Type := List Int × Int × Int
def CuOk (c : Cu) : Prop := 0 ≤ c.2.1 ∧ c.1.length ≤ 1048576

theorem and_bits (a : Int) : 0 ≤ andI .i64 a 255 ∧ andI .i64 a 255 ≤ 255 := by
  have e : andI .i64 a 255 = IntKind.wrap .i64 (((BitVec.ofInt 64 a &&& BitVec.ofInt 64 255).toNat : Nat) : Int) := rfl
  have h : (BitVec.ofInt 64 a &&& BitVec.ofInt 64 255).toNat ≤ 255 := by
    rw [BitVec.toNat_and]
    exact Nat.le_trans Nat.and_le_right (by decide)
  rw [e]
  generalize (BitVec.ofInt 64 a &&& BitVec.ofInt 64 255).toNat = m at h
  rw [wraps_i64 _ (by omega) (by omega)]
  omega
theorem fulI_nil0 {α : Type} : fulI 0 0 (lenN ([] : List α)) = some () := rfl
theorem fulI_app1 {α : Type} (l : List α) (x : α) : fulI 0 (addN (lenN l) (lenN [x])) (lenN (appL l [x])) = some () := by
  rw [show lenN (appL l [x]) = addN (lenN l) (lenN [x]) by simp [addN, lenN, appL]]; exact fulI_id _

def ag_spec_l01New : Sig := [(.one, [.list [.int .u8]])]
def rs_spec_l01New : Sig := [(.ptr, [.list [.int .u8], .int .i64, .int .i64])]
def mu_spec_l01New : MSig := [[some .bor]]

def G_spec_l01New (NN : Nat) : (List Int) → (Option ((List Int) × (Int × Int))) :=
 (fun (l0 : (List Int)) =>
 joinK (loopT NN (fun ((l1, i2, i3) : ((List Int) × (Int × Int))) =>
 cnd (ltI i3 (natI (lenN l1)))
 (cnd (ltI i3 (4000 : Int))
 ((getI l1 i3).bnd (fun i4 =>
 some (Sum.inl (l1, andI .i64 (addI .i64 (addI .i64 (mulI .i64 i2 131) (convI .i64 i4)) (7 : Int)) (1073741823 : Int), addI .i64 i3 1))))
 (some (Sum.inr (Sum.inl (l1, i2)))))
 (some (Sum.inr (Sum.inl (l1, i2)))))
 (l0, addI .i64 (55127 : Int) (natI (lenN l0)), (0 : Int)))
 (fun (l5, i6) =>
 some (l5, (0 : Int), i6)))

def F_spec_l01New : (List Int) → (Option ((List Int) × (Int × Int))) := G_spec_l01New FUEL
theorem f_spec_l01New (x : (List Int)) (z : ((List Int) × (Int × Int))) (h : F_spec_l01New x = some z) : G_spec_l01New FUEL x = some z := h

def ag_spec_l45At : Sig := [(.one, [.list [.int .u8]]), (.one, [.int .i64])]
def rs_spec_l45At : Sig := [(.ptr, [.list [.int .u8], .int .i64, .int .i64])]
def mu_spec_l45At : MSig := [[some .bor]]

def G_spec_l45At (NN : Nat) : ((List Int) × Int) → (Option ((List Int) × (Int × Int))) :=
 (fun ((l0, i1) : ((List Int) × Int)) =>
 (F_spec_l01New l0).bnd (fun (l2, i3, i4) =>
 some (l2, minI i1 (natI (lenN l0)), andI .i64 (addI .i64 (addI .i64 (mulI .i64 i4 31) (mulI .i64 i1 7919)) (1 : Int)) (1073741823 : Int))))

def F_spec_l45At : ((List Int) × Int) → (Option ((List Int) × (Int × Int))) := G_spec_l45At FUEL
theorem f_spec_l45At (x : ((List Int) × Int)) (z : ((List Int) × (Int × Int))) (h : F_spec_l45At x = some z) : G_spec_l45At FUEL x = some z := h

def ag_spec_l01Byte : Sig := [(.ptr, [.list [.int .u8], .int .i64, .int .i64])]
def rs_spec_l01Byte : Sig := [(.one, [.int .i64]), (.ptr, [.list [.int .u8], .int .i64, .int .i64])]
def mu_spec_l01Byte : MSig := [[some .bor]]

def G_spec_l01Byte (NN : Nat) : ((List Int) × (Int × Int)) → (Option (Int × ((List Int) × (Int × Int)))) :=
 (fun ((l0, i1, i2) : ((List Int) × (Int × Int))) =>
 (shrI .i64 (addI .i64 (mulI .i64 i2 6364136223846793005) (1442695040888963407 : Int)) (33 : Int)).bnd (fun i3 =>
 (shrI .i64 (addI .i64 (mulI .i64 i2 6364136223846793005) (1442695040888963407 : Int)) (45 : Int)).bnd (fun i4 =>
 joinK (cnd (ltI i1 (natI (lenN l0)))
 ((getI l0 i1).bnd (fun i5 =>
 some (Sum.inl (andI .i64 (addI .i64 (andI .i64 (xorI .i64 i3 i4) (255 : Int)) (convI .i64 i5)) (255 : Int), l0, addI .i64 i1 1, addI .i64 (mulI .i64 i2 6364136223846793005) (1442695040888963407 : Int)))))
 (some (Sum.inl (andI .i64 (xorI .i64 i3 i4) (255 : Int), l0, i1, addI .i64 (mulI .i64 i2 6364136223846793005) (1442695040888963407 : Int)))))
 (fun (i6, l7, i8, i9) =>
 some (i6, l7, i8, i9)))))

def F_spec_l01Byte : ((List Int) × (Int × Int)) → (Option (Int × ((List Int) × (Int × Int)))) := G_spec_l01Byte FUEL
theorem f_spec_l01Byte (x : ((List Int) × (Int × Int))) (z : (Int × ((List Int) × (Int × Int)))) (h : F_spec_l01Byte x = some z) : G_spec_l01Byte FUEL x = some z := h

def ag_spec_l01Below : Sig := [(.ptr, [.list [.int .u8], .int .i64, .int .i64]), (.one, [.int .i64])]
def rs_spec_l01Below : Sig := [(.one, [.int .i64]), (.ptr, [.list [.int .u8], .int .i64, .int .i64])]
def mu_spec_l01Below : MSig := [[some .bor]]

def G_spec_l01Below (NN : Nat) : (((List Int) × (Int × Int)) × Int) → (Option (Int × ((List Int) × (Int × Int)))) :=
 (fun (((l0, i1, i2), i3) : (((List Int) × (Int × Int)) × Int)) =>
 cnd (leI i3 (0 : Int))
 (some ((0 : Int), l0, i1, i2))
 ((F_spec_l01Byte (l0, i1, i2)).bnd (fun (i4, l5, i6, i7) =>
 (remI i4 i3).bnd (fun i8 =>
 some (i8, l5, i6, i7)))))

def F_spec_l01Below : (((List Int) × (Int × Int)) × Int) → (Option (Int × ((List Int) × (Int × Int)))) := G_spec_l01Below FUEL
theorem f_spec_l01Below (x : (((List Int) × (Int × Int)) × Int)) (z : (Int × ((List Int) × (Int × Int)))) (h : F_spec_l01Below x = some z) : G_spec_l01Below FUEL x = some z := h

def ag_spec_l01Once : Sig := [(.ptr, [.list [.int .u8], .int .i64, .int .i64]), (.one, [.int .i64])]
def rs_spec_l01Once : Sig := [(.one, [.bool]), (.ptr, [.list [.int .u8], .int .i64, .int .i64])]
def mu_spec_l01Once : MSig := [[some .bor]]

def G_spec_l01Once (NN : Nat) : (((List Int) × (Int × Int)) × Int) → (Option (Bool × ((List Int) × (Int × Int)))) :=
 (fun (((l0, i1, i2), i3) : (((List Int) × (Int × Int)) × Int)) =>
 (F_spec_l01Below ((l0, i1, i2), i3)).bnd (fun (i4, l5, i6, i7) =>
 some (eqI i4 (0 : Int), l5, i6, i7)))

def F_spec_l01Once : (((List Int) × (Int × Int)) × Int) → (Option (Bool × ((List Int) × (Int × Int)))) := G_spec_l01Once FUEL
theorem f_spec_l01Once (x : (((List Int) × (Int × Int)) × Int)) (z : (Bool × ((List Int) × (Int × Int)))) (h : F_spec_l01Once x = some z) : G_spec_l01Once FUEL x = some z := h

def ag_spec_l01Pick : Sig := [(.ptr, [.list [.int .u8], .int .i64, .int .i64]), (.one, [.list [.int .i64]])]
def rs_spec_l01Pick : Sig := [(.one, [.int .i64]), (.ptr, [.list [.int .u8], .int .i64, .int .i64])]
def mu_spec_l01Pick : MSig := [[some .bor]]

def G_spec_l01Pick (NN : Nat) : (((List Int) × (Int × Int)) × (List Int)) → (Option (Int × ((List Int) × (Int × Int)))) :=
 (fun (((l0, i1, i2), l3) : (((List Int) × (Int × Int)) × (List Int))) =>
 (F_spec_l01Below ((l0, i1, i2), natI (lenN l3))).bnd (fun (i4, l5, i6, i7) =>
 (getI l3 i4).bnd (fun i8 =>
 some (i8, l5, i6, i7))))

def F_spec_l01Pick : (((List Int) × (Int × Int)) × (List Int)) → (Option (Int × ((List Int) × (Int × Int)))) := G_spec_l01Pick FUEL
theorem f_spec_l01Pick (x : (((List Int) × (Int × Int)) × (List Int))) (z : (Int × ((List Int) × (Int × Int)))) (h : F_spec_l01Pick x = some z) : G_spec_l01Pick FUEL x = some z := h

theorem byte_ok (c : Cu) (h : CuOk c) : ∃ x c', F_spec_l01Byte c = some (x, c') ∧ (0 ≤ x ∧ x ≤ 255) ∧ CuOk c' := by
  obtain ⟨l, i, k⟩ := c
  obtain ⟨h0, h1⟩ := h
  dsimp only at h0 h1
  obtain ⟨i, rfl⟩ := natI_eq h0
  obtain ⟨s1, e1⟩ : ∃ s, shrI .i64 (addI .i64 (mulI .i64 k (6364136223846793005 : Int)) (1442695040888963407 : Int)) (33 : Int) = some s := ⟨_, if_neg (by decide)⟩
  obtain ⟨s2, e2⟩ : ∃ s, shrI .i64 (addI .i64 (mulI .i64 k (6364136223846793005 : Int)) (1442695040888963407 : Int)) (45 : Int) = some s := ⟨_, if_neg (by decide)⟩
  simp only [F_spec_l01Byte, G_spec_l01Byte]
  rw [e1, e2]
  simp only [Option.bnd, Option.bind]
  by_cases hc : i < l.length
  · rw [cnd_t (ltI_t (by unfold natI lenN; omega))]
    rw [getI_nat, List.getElem?_eq_getElem hc]
    simp only [joinK, Option.bind]
    refine ⟨_, _, rfl, and_bits _, ?_, h1⟩
    dsimp only
    rw [addI_eq (by omega) (by omega)]
    omega
  · rw [cnd_f (ltI_f (by unfold natI lenN; omega))]
    simp only [joinK, Option.bind]
    exact ⟨_, _, rfl, and_bits _, h0, h1⟩

theorem below_ok (c : Cu) (n : Int) (h : CuOk c) (hn : 1 ≤ n) : ∃ x c', F_spec_l01Below (c, n) = some (x, c') ∧ (0 ≤ x ∧ x < n) ∧ x ≤ 255 ∧ CuOk c' := by
  obtain ⟨l, i, k⟩ := c
  obtain ⟨x, ⟨l', i', k'⟩, e, hx, hc⟩ := byte_ok _ h
  simp only [F_spec_l01Below, G_spec_l01Below]
  rw [cnd_f (leI_f (by omega)), e]
  simp only [Option.bnd, Option.bind]
  rw [remI_pos hx.1 (by omega)]
  refine ⟨_, _, rfl, ⟨Int.emod_nonneg _ (by omega), Int.emod_lt_of_pos _ (by omega)⟩, ?_, hc⟩
  have := Int.emod_lt_of_pos x (show 0 < n by omega)
  by_cases hl : x < n
  · rw [Int.emod_eq_of_lt hx.1 hl]; omega
  · omega

theorem once_ok (c : Cu) (n : Int) (h : CuOk c) (hn : 1 ≤ n) : ∃ b c', F_spec_l01Once (c, n) = some (b, c') ∧ CuOk c' := by
  obtain ⟨l, i, k⟩ := c
  obtain ⟨x, ⟨l', i', k'⟩, e, _, _, hc⟩ := below_ok _ n h hn
  simp only [F_spec_l01Once, G_spec_l01Once]
  rw [e]
  exact ⟨_, _, rfl, hc⟩

theorem pick_ok (c : Cu) (l : List Int) (h : CuOk c) (h1 : l ≠ []) (h2 : l.length ≤ 100) : ∃ x c', F_spec_l01Pick (c, l) = some (x, c') ∧ x ∈ l ∧ CuOk c' := by
  obtain ⟨cl, i, k⟩ := c
  have hl : 1 ≤ l.length := by rcases l with _ | ⟨a, l⟩ <;> simp_all
  obtain ⟨x, ⟨l', i', k'⟩, e, hx, _, hc⟩ := below_ok (cl, i, k) (natI (lenN l)) h (by unfold natI lenN; omega)
  simp only [F_spec_l01Pick, G_spec_l01Pick]
  rw [e]
  simp only [Option.bnd, Option.bind]
  obtain ⟨j, rfl⟩ := natI_eq hx.1
  have hj : j < l.length := by unfold natI lenN at hx; omega
  rw [getI_nat, List.getElem?_eq_getElem hj]
  exact ⟨_, _, rfl, List.getElem_mem hj, hc⟩

theorem new_ok (l : List Int) (h : l.length ≤ 1048576) : ∃ c, F_spec_l01New l = some c ∧ CuOk c := by
  simp only [F_spec_l01New, G_spec_l01New]
  generalize hL : loopT FUEL _ _ = o
  obtain ⟨r, rfl, z, rfl⟩ : ∃ r, o = some r ∧ ∃ z, r = Sum.inl (l, z) := by
    rw [← hL]
    refine loopT_ex (min l.length 4000) (fun i (x : List Int × Int × Int) => x.1 = l ∧ x.2.2 = (i : Int)) _ ?_ ?_ ⟨rfl, rfl⟩ (FUEL_gt (by omega))
    · intro i x hi hx
      obtain ⟨l1, i2, i3⟩ := x
      dsimp only at hx ⊢
      obtain ⟨rfl, rfl⟩ := hx
      rw [cnd_t (ltI_t (by unfold natI lenN; omega)), cnd_t (ltI_t (by omega)), getI_nat, List.getElem?_eq_getElem (by omega)]
      exact ⟨_, rfl, rfl, addI_eq (by omega) (by omega)⟩
    · intro x hx
      obtain ⟨l1, i2, i3⟩ := x
      dsimp only at hx ⊢
      obtain ⟨rfl, rfl⟩ := hx
      by_cases hc : l1.length ≤ 4000
      · rw [cnd_f (ltI_f (by unfold natI lenN; omega))]
        exact ⟨_, rfl, _, rfl⟩
      · rw [cnd_t (ltI_t (by unfold natI lenN; omega)), cnd_f (ltI_f (by omega))]
        exact ⟨_, rfl, _, rfl⟩
  exact ⟨_, rfl, Int.le_refl _, h⟩

theorem at_ok (l : List Int) (n : Int) (h : l.length ≤ 1048576) (hn : 0 ≤ n) : ∃ c, F_spec_l45At (l, n) = some c ∧ CuOk c := by
  obtain ⟨⟨l', i', k'⟩, e, hc⟩ := new_ok l h
  simp only [F_spec_l45At, G_spec_l45At]
  rw [e]
  refine ⟨_, rfl, ?_, hc.2⟩
  dsimp only
  rw [minI_eq]
  unfold natI lenN
  omega

end Go.Am
end
section
namespace Go.Am

def ag_spec_l31Draw : Sig := [(.ptr, [.list [.int .u8], .int .i64, .int .i64]), (.one, [.int .i64]), (.one, [.int .i64]), (.one, [.int .i64])]
def rs_spec_l31Draw : Sig := [(.agg, [.int .i64, .int .i64, .list [.int .i64]]), (.ptr, [.list [.int .u8], .int .i64, .int .i64])]
def mu_spec_l31Draw : MSig := [[some .bor]]

def G_spec_l31Draw (NN : Nat) : (((List Int) × (Int × Int)) × (Int × (Int × Int))) → (Option ((Int × (Int × (List Int))) × ((List Int) × (Int × Int)))) :=
 (fun (((l0, i1, i2), i3, i4, i5) : (((List Int) × (Int × Int)) × (Int × (Int × Int)))) =>
 (F_spec_l31New (i4, i5)).bnd (fun (i6, i7, l8) =>
 joinK ((fulI 0 0 (lenN (([] : List Int)))).bnd (fun _ =>
 (fulI 0 (lenN l8) (lenN l8)).bnd (fun _ =>
 loopT NN (fun (((i9, i10, i11, i12, i13), (l14, i15, i16), (i17, i18), (i19, i20), l21, l22) : ((Int × (Int × (Int × (Int × Int)))) × (((List Int) × (Int × Int)) × ((Int × Int) × ((Int × Int) × ((List Int) × (List Int))))))) =>
 cnd (ltI i13 i12)
 ((F_spec_l01Once ((l14, i15, i16), (3 : Int))).bnd (fun (b23, l24, i25, i26) =>
 cnd (notB b23)
 ((F_spec_l01Below ((l24, i25, i26), minI i9 (256 : Int))).bnd (fun (i27, l28, i29, i30) =>
 (chkI i13 (lenN l22)).bnd (fun k31 =>
 (getN l22 (addN 0 k31)).bnd (fun i32 =>
 (fulI 0 (lenN l21) (lenN l21)).bnd (fun _ =>
 (fulI 0 (lenN l22) (lenN (setL l22 (addN 0 k31) i27))).bnd (fun _ =>
 some (Sum.inl ((i9, i10, i11, i12, addI .i64 i13 1), (l28, i29, i30), (i17, i18), (i19, i20), l21, setL l22 (addN 0 k31) i27))))))))
 ((fulI 0 (lenN l21) (lenN l21)).bnd (fun _ =>
 (fulI 0 (lenN l22) (lenN l22)).bnd (fun _ =>
 some (Sum.inl ((i9, i10, i11, i12, addI .i64 i13 1), (l24, i25, i26), (i17, i18), (i19, i20), l21, l22)))))))
 (((fulI 0 (lenN l21) (lenN l21)).bnd (fun _ =>
 (fulI 0 (lenN l22) (lenN l22)).bnd (fun _ =>
 some (Sum.inl ((i10, i11), (l14, i15, i16), (i17, i18), (i19, i20), l21, l22))))).bnd (fun l33 =>
 some (Sum.inr l33))))
 ((i3, i4, i5, natI (lenN l8), (0 : Int)), (l0, i1, i2), ((0 : Int), (0 : Int)), (i6, i7), ([] : List Int), l8))))
 (fun ((i34, i35), (l36, i37, i38), (i39, i40), (i41, i42), l43, l44) =>
 cnd (ltI (1 : Int) i34)
 ((F_spec_l01Once ((l36, i37, i38), (3 : Int))).bnd (fun (b45, l46, i47, i48) =>
 joinK (cnd (b45)
 ((fulI 0 (lenN l43) (lenN l43)).bnd (fun _ =>
 (fulI 0 (lenN l44) (lenN l44)).bnd (fun _ =>
 loopT NN (fun (((i49, i50), (l51, i52, i53), (i54, i55), (i56, i57), l58, l59) : ((Int × Int) × (((List Int) × (Int × Int)) × ((Int × Int) × ((Int × Int) × ((List Int) × (List Int))))))) =>
 cnd (ltI i50 i49)
 ((chkI i50 (lenN l59)).bnd (fun k60 =>
 (getN l59 (addN 0 k60)).bnd (fun i61 =>
 (chkI (addI .i64 i49 i50) (lenN l59)).bnd (fun k62 =>
 (getN l59 (addN 0 k62)).bnd (fun i63 =>
 (fulI 0 (lenN l58) (lenN l58)).bnd (fun _ =>
 (fulI 0 (lenN l59) (lenN (setL l59 (addN 0 k62) i61))).bnd (fun _ =>
 some (Sum.inl ((i49, addI .i64 i50 1), (l51, i52, i53), (i54, i55), (i56, i57), l58, setL l59 (addN 0 k62) i61)))))))))
 (((fulI 0 (lenN l58) (lenN l58)).bnd (fun _ =>
 (fulI 0 (lenN l59) (lenN l59)).bnd (fun _ =>
 some (Sum.inl ((l51, i52, i53), (i54, i55), (i56, i57), l58, l59))))).bnd (fun l64 =>
 some (Sum.inr l64))))
 ((i35, (0 : Int)), (l46, i47, i48), (i39, i40), (i41, i42), l43, l44))))
 ((fulI 0 (lenN l43) (lenN l43)).bnd (fun _ =>
 (fulI 0 (lenN l44) (lenN l44)).bnd (fun _ =>
 some (Sum.inl ((l46, i47, i48), (i39, i40), (i41, i42), l43, l44))))))
 (fun ((l65, i66, i67), (i68, i69), (i70, i71), l72, l73) =>
 (winI l73 0 (lenN l73)).bnd (fun l74 =>
 some ((i70, i71, l74), l65, i66, i67)))))
 (joinK ((fulI 0 (lenN l43) (lenN l43)).bnd (fun _ =>
 (fulI 0 (lenN l44) (lenN l44)).bnd (fun _ =>
 some (Sum.inl ((l36, i37, i38), (i39, i40), (i41, i42), l43, l44)))))
 (fun ((l75, i76, i77), (i78, i79), (i80, i81), l82, l83) =>
 (winI l83 0 (lenN l83)).bnd (fun l84 =>
 some ((i80, i81, l84), l75, i76, i77)))))))

def F_spec_l31Draw : (((List Int) × (Int × Int)) × (Int × (Int × Int))) → (Option ((Int × (Int × (List Int))) × ((List Int) × (Int × Int)))) := G_spec_l31Draw FUEL
theorem f_spec_l31Draw (x : (((List Int) × (Int × Int)) × (Int × (Int × Int)))) (z : ((Int × (Int × (List Int))) × ((List Int) × (Int × Int)))) (h : F_spec_l31Draw x = some z) : G_spec_l31Draw FUEL x = some z := h

def ag_spec_l34Draw : Sig := [(.ptr, [.list [.int .u8], .int .i64, .int .i64]), (.one, [.int .i64]), (.one, [.int .i64]), (.one, [.int .i64])]
def rs_spec_l34Draw : Sig := [(.agg, [.int .i64, .int .i64, .list [.int .i64], .list [.int .i64, .int .i64, .list [.int .i64]], .list [.int .i64]]), (.ptr, [.list [.int .u8], .int .i64, .int .i64])]
def mu_spec_l34Draw : MSig := [[some .bor]]

def G_spec_l34Draw (NN : Nat) : (((List Int) × (Int × Int)) × (Int × (Int × Int))) → (Option ((Int × (Int × ((List Int) × ((List (Int × (Int × (List Int)))) × (List Int))))) × ((List Int) × (Int × Int)))) :=
 (fun (((l0, i1, i2), i3, i4, i5) : (((List Int) × (Int × Int)) × (Int × (Int × Int)))) =>
 (F_spec_l31Draw ((l0, i1, i2), i3, (1 : Int), i4)).bnd (fun ((i6, i7, l8), l9, i10, i11) =>
 (F_spec_l31Draw ((l9, i10, i11), i3, (1 : Int), i4)).bnd (fun ((i12, i13, l14), l15, i16, i17) =>
 joinK ((fulI 0 0 (lenN (([] : List Int)))).bnd (fun _ =>
 (fulI 0 0 (lenN (([] : List (Int × (Int × (List Int))))))).bnd (fun _ =>
 (fulI 0 0 (lenN (([] : List Int)))).bnd (fun _ =>
 (fulI 0 0 (lenN (([] : List (Int × (Int × (List Int))))))).bnd (fun _ =>
 loopT NN (fun (((i18, i19, i20), (l21, i22, i23), (i24, i25), (i26, i27, l28, l29), l30, l31, l32, l33) : ((Int × (Int × Int)) × (((List Int) × (Int × Int)) × ((Int × Int) × ((Int × (Int × ((List Int) × (List Int)))) × ((List Int) × ((List (Int × (Int × (List Int)))) × ((List Int) × (List (Int × (Int × (List Int)))))))))))) =>
 cnd (ltI (0 : Int) i20)
 ((F_spec_l31Draw ((l21, i22, i23), i18, i19, i19)).bnd (fun ((i34, i35, l36), l37, i38, i39) =>
 (fulI 0 (lenN l33) (lenN l33)).bnd (fun _ =>
 (fulI 0 1 (lenN (((i34, i35, l36) :: ([] : List (Int × (Int × (List Int)))))))).bnd (fun _ =>
 (fitI (addN (lenN l33) (lenN (((i34, i35, l36) :: ([] : List (Int × (Int × (List Int)))))))) 40).bnd (fun _ =>
 (fulI 0 (lenN l30) (lenN l30)).bnd (fun _ =>
 (fulI 0 (lenN l31) (lenN l31)).bnd (fun _ =>
 (fulI 0 (lenN l32) (lenN l32)).bnd (fun _ =>
 (fulI 0 (addN (lenN l33) (lenN (((i34, i35, l36) :: ([] : List (Int × (Int × (List Int)))))))) (lenN (appL l33 (((i34, i35, l36) :: ([] : List (Int × (Int × (List Int))))))))).bnd (fun _ =>
 some (Sum.inl ((i18, i19, subI .i64 i20 1), (l37, i38, i39), (i24, i25), (i26, i27, l28, l29), l30, l31, l32, appL l33 (((i34, i35, l36) :: ([] : List (Int × (Int × (List Int)))))))))))))))))
 (((fulI 0 (lenN l30) (lenN l30)).bnd (fun _ =>
 (fulI 0 (lenN l31) (lenN l31)).bnd (fun _ =>
 (fulI 0 (lenN l32) (lenN l32)).bnd (fun _ =>
 (fulI 0 (lenN l33) (lenN l33)).bnd (fun _ =>
 some (Sum.inl ((l21, i22, i23), (i24, i25), (i26, i27, l28, l29), l30, l31, l32, l33))))))).bnd (fun l40 =>
 some (Sum.inr l40))))
 ((i3, i4, i5), (l15, i16, i17), ((0 : Int), (0 : Int)), (i3, i4, l8, l14), ([] : List Int), ([] : List (Int × (Int × (List Int)))), ([] : List Int), ([] : List (Int × (Int × (List Int))))))))))
 (fun ((l41, i42, i43), (i44, i45), (i46, i47, l48, l49), l50, l51, l52, l53) =>
 (winI l53 0 (lenN l53)).bnd (fun l54 =>
 some ((i46, i47, l48, l54, l49), l41, i42, i43))))))

def F_spec_l34Draw : (((List Int) × (Int × Int)) × (Int × (Int × Int))) → (Option ((Int × (Int × ((List Int) × ((List (Int × (Int × (List Int)))) × (List Int))))) × ((List Int) × (Int × Int)))) := G_spec_l34Draw FUEL
theorem f_spec_l34Draw (x : (((List Int) × (Int × Int)) × (Int × (Int × Int)))) (z : ((Int × (Int × ((List Int) × ((List (Int × (Int × (List Int)))) × (List Int))))) × ((List Int) × (Int × Int)))) (h : F_spec_l34Draw x = some z) : G_spec_l34Draw FUEL x = some z := h

def ag_spec_MakeAutomata : Sig := [(.one, [.list [.int .u8]]), (.one, [.int .i64])]
def rs_spec_MakeAutomata : Sig := [(.agg, [.int .i64, .int .i64, .list [.int .i64], .list [.int .i64, .int .i64, .list [.int .i64]], .list [.int .i64]]), (.agg, [.int .i64, .int .i64, .list [.int .i64], .list [.int .i64, .int .i64, .list [.int .i64]], .list [.int .i64]])]
def mu_spec_MakeAutomata : MSig := [[some .bor]]

def G_spec_MakeAutomata (NN : Nat) : ((List Int) × Int) → (Option ((Int × (Int × ((List Int) × ((List (Int × (Int × (List Int)))) × (List Int))))) × (Int × (Int × ((List Int) × ((List (Int × (Int × (List Int)))) × (List Int))))))) :=
 (fun ((l0, i1) : ((List Int) × Int)) =>
 (F_spec_l45At (l0, i1)).bnd (fun (l2, i3, i4) =>
 (takI (((2 : Int) :: ((3 : Int) :: ((7 : Int) :: ((101 : Int) :: ([] : List Int)))))) 4).bnd (fun l5 =>
 (F_spec_l01Pick ((l2, i3, i4), l5)).bnd (fun (i6, l7, i8, i9) =>
 (F_spec_l01Below ((l7, i8, i9), (3 : Int))).bnd (fun (i10, l11, i12, i13) =>
 (F_spec_l01Below ((l11, i12, i13), (4 : Int))).bnd (fun (i14, l15, i16, i17) =>
 (F_spec_l34Draw ((l15, i16, i17), i6, i14, addI .i64 (1 : Int) i10)).bnd (fun ((i18, i19, l20, l21, l22), l23, i24, i25) =>
 (F_spec_l01Below ((l23, i24, i25), (4 : Int))).bnd (fun (i26, l27, i28, i29) =>
 (F_spec_l34Draw ((l27, i28, i29), i6, i26, addI .i64 (1 : Int) i10)).bnd (fun ((i30, i31, l32, l33, l34), l35, i36, i37) =>
 some ((i18, i19, l20, l21, l22), i30, i31, l32, l33, l34))))))))))

def F_spec_MakeAutomata : ((List Int) × Int) → (Option ((Int × (Int × ((List Int) × ((List (Int × (Int × (List Int)))) × (List Int))))) × (Int × (Int × ((List Int) × ((List (Int × (Int × (List Int)))) × (List Int))))))) := G_spec_MakeAutomata FUEL
theorem f_spec_MakeAutomata (x : ((List Int) × Int)) (z : ((Int × (Int × ((List Int) × ((List (Int × (Int × (List Int)))) × (List Int))))) × (Int × (Int × ((List Int) × ((List (Int × (Int × (List Int)))) × (List Int))))))) (h : F_spec_MakeAutomata x = some z) : G_spec_MakeAutomata FUEL x = some z := h

def ag_spec_MakeWord : Sig := [(.one, [.list [.int .u8]]), (.one, [.int .i64]), (.one, [.int .i64])]
def rs_spec_MakeWord : Sig := [(.one, [.list [.int .i64]])]
def mu_spec_MakeWord : MSig := [[some .bor]]

def G_spec_MakeWord (NN : Nat) : ((List Int) × (Int × Int)) → (Option (List Int)) :=
 (fun ((l0, i1, i2) : ((List Int) × (Int × Int))) =>
 (F_spec_l45At (l0, i1)).bnd (fun (l3, i4, i5) =>
 (F_spec_l01Below ((l3, i4, i5), (7 : Int))).bnd (fun (i6, l7, i8, i9) =>
 joinK ((fulI 0 0 (lenN (([] : List Int)))).bnd (fun _ =>
 loopT NN (fun (((i10, i11), (l12, i13, i14), l15) : ((Int × Int) × (((List Int) × (Int × Int)) × (List Int)))) =>
 cnd (ltI (0 : Int) i11)
 ((F_spec_l01Below ((l12, i13, i14), i10)).bnd (fun (i16, l17, i18, i19) =>
 (fulI 0 (lenN l15) (lenN l15)).bnd (fun _ =>
 (winI ((i16 :: ([] : List Int))) 0 1).bnd (fun l20 =>
 (fitI (addN (lenN l15) (lenN l20)) 8).bnd (fun _ =>
 (fulI 0 (addN (lenN l15) (lenN l20)) (lenN (appL l15 l20))).bnd (fun _ =>
 some (Sum.inl ((i10, subI .i64 i11 1), (l17, i18, i19), appL l15 l20))))))))
 (((fulI 0 (lenN l15) (lenN l15)).bnd (fun _ =>
 some (Sum.inl l15))).bnd (fun l21 =>
 some (Sum.inr l21))))
 ((i2, i6), (l7, i8, i9), ([] : List Int))))
 (fun l22 =>
 (winI l22 0 (lenN l22)).bnd (fun l23 =>
 some l23)))))

def F_spec_MakeWord : ((List Int) × (Int × Int)) → (Option (List Int)) := G_spec_MakeWord FUEL
theorem f_spec_MakeWord (x : ((List Int) × (Int × Int))) (z : (List Int)) (h : F_spec_MakeWord x = some z) : G_spec_MakeWord FUEL x = some z := h

theorem min_pos {p : Int} (h : 2 ≤ p) : 1 ≤ minI p 256 ∧ minI p 256 ≤ p := by rw [minI_eq]; omega
theorem lenN_e {α : Type} (l : List α) : lenN l = l.length := rfl

theorem draw_ok (c : Cu) (p : Int) (r k : Nat) (h : CuOk c) (hp : pOk p) (hr : r ≤ 100) (hk : k ≤ 100) :
    ∃ d c', F_spec_l31Draw (c, p, (r : Int), (k : Int)) = some (((r : Int), (k : Int), d), c') ∧ d.length = r * k ∧ allP p d ∧ CuOk c' := by
  obtain ⟨cl, ci, ch⟩ := c
  have hrk : r * k ≤ 10000 := by
    have := Nat.mul_le_mul hr hk
    omega
  simp only [F_spec_l31Draw, G_spec_l31Draw]
  rw [new_nat (by omega) (by omega) (by omega)]
  simp only [bnd_s, fulI_nil0, fulI_id]
  generalize hL : loopT FUEL _ _ = o
  obtain ⟨s, rfl, c', d, rfl, hc', hl, hd⟩ : ∃ s, o = some s ∧ ∃ (c' : Cu) (d : List Int), s = Sum.inl (((r : Int), (k : Int)), c', (0, 0), ((r : Int), (k : Int)), [], d) ∧ CuOk c' ∧ d.length = r * k ∧ allP p d := by
    rw [← hL]
    refine loopT_ex (r * k) (fun j (s : ((Int × (Int × (Int × (Int × Int)))) × (((List Int) × (Int × Int)) × ((Int × Int) × ((Int × Int) × ((List Int) × (List Int))))))) => ∃ (c' : Cu) (d : List Int), s = ((p, (r : Int), (k : Int), ((r * k : Nat) : Int), (j : Int)), c', (0, 0), ((r : Int), (k : Int)), [], d) ∧ CuOk c' ∧ d.length = r * k ∧ allP p d) _ ?_ ?_ ?_ (FUEL_gt (by omega))
    · rintro j s hj ⟨⟨l1, i1, h1⟩, d, rfl, hc, hl, hd⟩
      dsimp only
      rw [cnd_t (ltI_t (by omega))]
      obtain ⟨b, ⟨l2, i2, h2⟩, e2, hc⟩ := once_ok _ 3 hc (by decide)
      rw [e2]
      simp only [bnd_s]
      cases b
      · rw [cnd_t (show notB false = true from rfl)]
        obtain ⟨x, ⟨l3, i3, h3⟩, e3, hx, _, hc⟩ := below_ok _ (minI p 256) hc (min_pos hp.1).1
        have hm := (min_pos hp.1).2
        rw [e3]
        simp only [bnd_s]
        have hj' : j < d.length := by omega
        rw [chkI_nat (show j < lenN d by rw [lenN_e]; exact hj')]
        simp only [bnd_s, addN_0]
        rw [show getN d j = some d[j] from List.getElem?_eq_getElem hj']
        simp only [bnd_s]
        rw [show fulI 0 (lenN d) (lenN (setL d j x)) = some () from fulI_ok (by simp [lenN, setL])]
        simp only [bnd_s]
        rw [addI_eq (by omega) (by omega)]
        refine ⟨_, rfl, _, _, rfl, hc, by unfold setL; rw [List.length_set]; exact hl, ?_⟩
        intro e he
        unfold setL at he
        rcases List.mem_or_eq_of_mem_set he with h | h
        · exact hd e h
        · subst h; exact ⟨hx.1, by omega⟩
      · rw [cnd_f (show notB true = false from rfl)]
        rw [addI_eq (by omega) (by omega)]
        exact ⟨_, rfl, _, _, rfl, hc, hl, hd⟩
    · rintro s ⟨⟨l1, i1, h1⟩, d, rfl, hc, hl, hd⟩
      dsimp only
      rw [cnd_f (ltI_f (by omega))]
      exact ⟨_, rfl, _, _, rfl, hc, hl, hd⟩
    · refine ⟨_, _, ?_, h, genD_len r k _, allP_gen.2 (fun i j _ _ => ⟨Int.le_refl _, by have := hp.1; omega⟩)⟩
      rw [show natI (lenN (genD r k fun _ _ => 0)) = ((r * k : Nat) : Int) by unfold natI lenN; rw [genD_len]]
      rfl
  obtain ⟨l1, i1, h1⟩ := c'
  simp only [joinK, Option.bind, Option.bnd]
  by_cases hc : 1 < r
  · rw [cnd_t (ltI_t (by omega))]
    obtain ⟨b, ⟨l2, i2, h2⟩, e2, hc2⟩ := once_ok _ 3 hc' (by decide)
    rw [e2]
    dsimp only
    cases b
    · simp only [cnd_false, fulI_id, winI_id]
      exact ⟨_, _, rfl, hl, hd, hc2⟩
    · simp only [cnd_true, fulI_id, winI_id]
      generalize hL : loopT FUEL _ _ = o
      obtain ⟨s, rfl, d', rfl, hl', hd'⟩ : ∃ s, o = some s ∧ ∃ (d' : List Int), s = Sum.inl ((l2, i2, h2), (0, 0), ((r : Int), (k : Int)), [], d') ∧ d'.length = r * k ∧ allP p d' := by
        rw [← hL]
        refine loopT_ex k (fun j (s : ((Int × Int) × (((List Int) × (Int × Int)) × ((Int × Int) × ((Int × Int) × ((List Int) × (List Int))))))) => ∃ (d : List Int), s = (((k : Int), (j : Int)), (l2, i2, h2), (0, 0), ((r : Int), (k : Int)), [], d) ∧ d.length = r * k ∧ allP p d) _ ?_ ?_ ⟨_, rfl, hl, hd⟩ (FUEL_gt (by omega))
        · rintro j s hj ⟨d, rfl, hl, hd⟩
          dsimp only
          have hrk2 : 2 * k ≤ r * k := Nat.mul_le_mul_right k hc
          rw [cnd_t (ltI_t (by omega))]
          have hj1 : j < d.length := by omega
          have hj2 : k + j < d.length := by omega
          rw [addI_eq (by omega) (by omega), show ((k : Int) + (j : Int)) = ((k + j : Nat) : Int) by push_cast; rfl]
          rw [chkI_nat (show j < lenN d by rw [lenN_e]; exact hj1), chkI_nat (show k + j < lenN d by rw [lenN_e]; exact hj2)]
          simp only [addN_0]
          rw [show getN d j = some d[j] from List.getElem?_eq_getElem hj1, show getN d (k + j) = some d[k + j] from List.getElem?_eq_getElem hj2]
          dsimp only
          rw [show fulI 0 (lenN d) (lenN (setL d (k + j) d[j])) = some () from fulI_ok (by simp [lenN, setL])]
          dsimp only
          rw [addI_eq (by omega) (by omega)]
          refine ⟨_, rfl, _, rfl, by unfold setL; rw [List.length_set]; exact hl, ?_⟩
          intro e he
          unfold setL at he
          rcases List.mem_or_eq_of_mem_set he with h | h
          · exact hd e h
          · subst h; exact hd _ (List.getElem_mem hj1)
        · rintro s ⟨d, rfl, hl, hd⟩
          dsimp only
          rw [cnd_f (ltI_f (by omega))]
          exact ⟨_, rfl, _, rfl, hl, hd⟩
      simp only [winI_id]
      exact ⟨_, _, rfl, hl', hd', hc2⟩
  · rw [cnd_f (ltI_f (by omega))]
    simp only [fulI_id, winI_id]
    exact ⟨_, _, rfl, hl, hd, hc'⟩

theorem aut_ok (c : Cu) (p : Int) (n t : Nat) (h : CuOk c) (hp : isPrimeI p = true) (hn : n ≤ 12) (ht : 1 ≤ t ∧ t ≤ 4) :
    ∃ a ms b c', F_spec_l34Draw (c, p, (n : Int), (t : Int)) = some ((p, (n : Int), a, ms, b), c') ∧ AutOk p n a ms b ∧ ms.length = t ∧ CuOk c' := by
  have hq : pOk p := isPrimeI_t hp
  obtain ⟨a, ⟨l1, i1, h1⟩, e1, hla, ha, hc⟩ := draw_ok _ p 1 n h hq (by omega) (by omega)
  obtain ⟨b, ⟨l2, i2, h2⟩, e2, hlb, hb, hc⟩ := draw_ok _ p 1 n hc hq (by omega) (by omega)
  obtain ⟨cl, ci, ch⟩ := c
  simp only [F_spec_l34Draw, G_spec_l34Draw]
  rw [show (1 : Int) = ((1 : Nat) : Int) from rfl, e1]
  simp only [bnd_s]
  rw [e2]
  simp only [bnd_s, fulI_nil0, fulI_id]
  generalize hL : loopT FUEL _ _ = o
  obtain ⟨s, rfl, c', ms, rfl, hc', hl, hm⟩ : ∃ s, o = some s ∧ ∃ (c' : Cu) (ms : List Mx3), s = Sum.inl (c', (0, 0), (p, (n : Int), a, b), [], [], [], ms) ∧ CuOk c' ∧ ms.length = t ∧ ∀ x ∈ ms, ∃ M : Mat, x = ((n : Int), (n : Int), genD n n M) ∧ inM p n n M := by
    rw [← hL]
    refine loopT_ex t (fun j (s : ((Int × (Int × Int)) × (((List Int) × (Int × Int)) × ((Int × Int) × ((Int × (Int × ((List Int) × (List Int)))) × ((List Int) × ((List (Int × (Int × (List Int)))) × ((List Int) × (List (Int × (Int × (List Int)))))))))))) => ∃ (c' : Cu) (ms : List Mx3), s = ((p, (n : Int), (t : Int) - j), c', (0, 0), (p, (n : Int), a, b), [], [], [], ms) ∧ CuOk c' ∧ ms.length = j ∧ ∀ x ∈ ms, ∃ M : Mat, x = ((n : Int), (n : Int), genD n n M) ∧ inM p n n M) _ ?_ ?_ ?_ (FUEL_gt (by omega))
    · rintro j s hj ⟨⟨l3, i3, h3⟩, ms, rfl, hc, hl, hm⟩
      dsimp only
      rw [cnd_t (ltI_t (by omega))]
      obtain ⟨d, ⟨l4, i4, h4⟩, e4, hld, hd, hc⟩ := draw_ok _ p n n hc hq (by omega) (by omega)
      rw [e4]
      simp only [bnd_s, fulI_id, fulI_app1]
      rw [show fulI 0 1 (lenN [((n : Int), (n : Int), d)]) = some () from fulI_id 1]
      simp only [bnd_s]
      rw [fitI_ok (by simp only [addN, lenN, List.length_cons, List.length_nil]; rw [hl]; have : maxBytes = 140737488355328 := rfl; omega)]
      simp only [bnd_s]
      rw [subI_eq (by omega) (by omega), show (t : Int) - (j : Int) - ((1 : Nat) : Int) = (t : Int) - ((j + 1 : Nat) : Int) by omega]
      refine ⟨_, rfl, _, _, rfl, hc, by simp [appL, hl], ?_⟩
      intro x hx
      rcases List.mem_append.1 hx with h | h
      · exact hm x h
      · rw [List.mem_singleton] at h
        subst h
        exact ⟨ofD n d, by rw [genD_of (r := n) (c := n) hld], ofD_in hld hd⟩
    · rintro s ⟨⟨l3, i3, h3⟩, ms, rfl, hc, hl, hm⟩
      dsimp only
      rw [cnd_f (ltI_f (by omega))]
      exact ⟨_, rfl, _, _, rfl, hc, hl, hm⟩
    · exact ⟨_, _, by rw [show (t : Int) - ((0 : Nat) : Int) = (t : Int) by omega], hc, rfl, fun x hx => absurd hx (by simp)⟩
  obtain ⟨l5, i5, h5⟩ := c'
  simp only [joinK, Option.bind, Option.bnd, winI_id]
  refine ⟨_, _, _, _, rfl, ⟨hp, hn, by omega, ha, by omega, hb, by omega, by omega, hm⟩, hl, hc'⟩

theorem pr_2 : isPrimeI 2 = true := by decide +kernel
theorem pr_3 : isPrimeI 3 = true := by decide +kernel
theorem pr_7 : isPrimeI 7 = true := by decide +kernel
theorem pr_101 : isPrimeI 101 = true := by decide +kernel
theorem pr_1000003 : isPrimeI 1000003 = true := by decide +kernel
theorem pr_5 {x : Int} (h : x ∈ [(2 : Int), 3, 7, 101, 1000003]) : isPrimeI x = true := by
  simp only [List.mem_cons, List.not_mem_nil, or_false] at h
  rcases h with rfl | rfl | rfl | rfl | rfl
  · exact pr_2
  · exact pr_3
  · exact pr_7
  · exact pr_101
  · exact pr_1000003
theorem pr_4 {x : Int} (h : x ∈ [(2 : Int), 3, 7, 101]) : isPrimeI x = true := pr_5 (by simp only [List.mem_cons, List.not_mem_nil, or_false] at h ⊢; omega)

theorem MakeAutomata_ok (l : List Int) (n : Int) (h : l.length ≤ 1048576) (hn : 0 ≤ n) :
    ∃ (p : Int) (u v t : Nat) (a : List Int) (ms : List Mx3) (b a' : List Int) (ms' : List Mx3) (b' : List Int), F_spec_MakeAutomata (l, n) = some ((p, (u : Int), a, ms, b), (p, (v : Int), a', ms', b')) ∧
      AutOk p u a ms b ∧ AutOk p v a' ms' b' ∧ ms.length = t ∧ ms'.length = t ∧ u ≤ 3 ∧ v ≤ 3 ∧ t ≤ 3 := by
  obtain ⟨⟨l1, i1, k1⟩, e1, hc⟩ := at_ok l n h hn
  obtain ⟨p, ⟨l2, i2, k2⟩, e2, hp, hc⟩ := pick_ok _ [(2 : Int), 3, 7, 101] hc (by simp) (by simp)
  obtain ⟨t, ⟨l3, i3, k3⟩, e3, ht, _, hc⟩ := below_ok _ 3 hc (by decide)
  obtain ⟨u, ⟨l4, i4, k4⟩, e4, hu, _, hc⟩ := below_ok _ 4 hc (by decide)
  obtain ⟨t, rfl⟩ := natI_eq ht.1
  obtain ⟨u, rfl⟩ := natI_eq hu.1
  have hP := pr_4 hp
  obtain ⟨a, ms, b, ⟨l5, i5, k5⟩, e5, hA, hlA, hc⟩ := aut_ok _ p u (1 + t) hc hP (by omega) (by omega)
  obtain ⟨v, ⟨l6, i6, k6⟩, e6, hv, _, hc⟩ := below_ok _ 4 hc (by decide)
  obtain ⟨v, rfl⟩ := natI_eq hv.1
  obtain ⟨a', ms', b', ⟨l7, i7, k7⟩, e7, hB, hlB, hc⟩ := aut_ok _ p v (1 + t) hc hP (by omega) (by omega)
  simp only [F_spec_MakeAutomata, G_spec_MakeAutomata]
  rw [e1]
  simp only [bnd_s, takI, List.length_cons, List.length_nil, Nat.le_refl, if_true, List.take]
  rw [e2]
  simp only [bnd_s]
  rw [e3]
  simp only [bnd_s]
  rw [e4]
  simp only [bnd_s]
  rw [addI_eq (by omega) (by omega), show (1 : Int) + (t : Int) = ((1 + t : Nat) : Int) by push_cast; rfl, e5]
  simp only [bnd_s]
  rw [e6]
  simp only [bnd_s]
  rw [e7]
  exact ⟨p, u, v, 1 + t, a, ms, b, a', ms', b', rfl, hA, hB, hlA, hlB, by omega, by omega, by omega⟩

theorem MakeWord_ok (l : List Int) (n m : Int) (h : l.length ≤ 1048576) (hn : 0 ≤ n) (hm : 1 ≤ m) :
    ∃ w, F_spec_MakeWord (l, n, m) = some w ∧ w.length ≤ 6 ∧ allP m w := by
  obtain ⟨⟨l1, i1, k1⟩, e1, hc⟩ := at_ok l n h hn
  obtain ⟨t, ⟨l3, i3, k3⟩, e3, ht, _, hc⟩ := below_ok _ 7 hc (by decide)
  obtain ⟨t, rfl⟩ := natI_eq ht.1
  simp only [F_spec_MakeWord, G_spec_MakeWord]
  rw [e1]
  simp only [bnd_s]
  rw [e3]
  simp only [bnd_s, fulI_nil0]
  generalize hL : loopT FUEL _ _ = o
  obtain ⟨s, rfl, w, rfl, hl, hw⟩ : ∃ s, o = some s ∧ ∃ (w : List Int), s = Sum.inl w ∧ w.length = t ∧ allP m w := by
    rw [← hL]
    refine loopT_ex t (fun j (s : ((Int × Int) × (((List Int) × (Int × Int)) × (List Int)))) => ∃ (c' : Cu) (w : List Int), s = ((m, (t : Int) - j), c', w) ∧ CuOk c' ∧ w.length = j ∧ allP m w) _ ?_ ?_ ?_ (FUEL_gt (by omega))
    · rintro j s hj ⟨⟨l3, i3, h3⟩, w, rfl, hc, hl, hw⟩
      dsimp only
      rw [cnd_t (ltI_t (by omega))]
      obtain ⟨x, ⟨l4, i4, h4⟩, e4, hx, _, hc⟩ := below_ok _ m hc hm
      rw [e4]
      simp only [bnd_s, fulI_id, fulI_app1, winI_len (xs := [x]) (n := 1) rfl]
      rw [fitI_ok (by simp only [addN, lenN, List.length_cons, List.length_nil]; rw [hl]; have : maxBytes = 140737488355328 := rfl; omega)]
      simp only [bnd_s]
      rw [subI_eq (by omega) (by omega), show (t : Int) - (j : Int) - (1 : Int) = (t : Int) - ((j + 1 : Nat) : Int) by omega]
      refine ⟨_, rfl, _, _, rfl, hc, by simp [appL, hl], ?_⟩
      intro y hy
      rcases List.mem_append.1 hy with h | h
      · exact hw y h
      · rw [List.mem_singleton] at h
        subst h
        exact hx
    · rintro s ⟨⟨l3, i3, h3⟩, w, rfl, hc, hl, hw⟩
      dsimp only
      rw [cnd_f (ltI_f (by omega))]
      simp only [fulI_id, bnd_s]
      exact ⟨_, rfl, _, rfl, hl, hw⟩
    · exact ⟨_, _, by rw [show (t : Int) - ((0 : Nat) : Int) = (t : Int) by omega], hc, rfl, fun x hx => absurd hx (by simp)⟩
  simp only [joinK, Option.bind, Option.bnd, winI_id]
  exact ⟨w, rfl, by omega, hw⟩
end Go.Am
end
section
namespace Go.Am
/-! ### products of dimensions -/

def prodI : List Int → Int
  | [] => 1
  | x :: l => x * prodI l
theorem mul_bd {a x A B : Int} (h0 : 0 ≤ a) (h1 : a ≤ A) (h2 : 0 ≤ x) (h3 : x ≤ B) : 0 ≤ a * x ∧ a * x ≤ A * B :=
  ⟨Int.mul_nonneg h0 h2, Int.mul_le_mul h1 h3 h2 (by omega)⟩

end Go.Am
end
section
namespace Go.Am
/-! ### sizes of tensors, charges -/

def axP (L D : List Int) (j : Nat) : Prop := (0 ≤ L.getD j 0 ∧ L.getD j 0 ≤ 99) ∧ (1 ≤ D.getD j 0 ∧ D.getD j 0 ≤ 8) ∧ L.getD j 0 ∉ L.take j
instance (L D : List Int) (j : Nat) : Decidable (axP L D j) := by unfold axP; infer_instance
def chP (m : Int) (D : List Int) (R : List (List Int)) (j : Nat) : Prop := ((R.getD j []).length : Int) = D.getD j 0 ∧ rowOk m (R.getD j []) = true
instance (m : Int) (D : List Int) (R : List (List Int)) (j : Nat) : Decidable (chP m D R j) := by unfold chP; infer_instance
def chDom (x : (List Int × List Int × List Int) × Int × List (List Int)) : Prop := (x.1.1.length ≤ 1048576 ∧ x.1.2.1.length ≤ 1048576) ∧ x.2.2.length ≤ 1048576 ∧ ∀ l ∈ x.2.2, l.length ≤ 1048576
instance (x : (List Int × List Int × List Int) × Int × List (List Int)) : Decidable (chDom x) := by unfold chDom; infer_instance
theorem getD_some {α : Type} {l : List α} {j : Nat} (d : α) (h : j < l.length) : l[j]? = some (l.getD j d) := by
  simp [List.getD, h]
theorem ltL_t {α : Type} {l : List α} {j : Nat} (h : j < l.length) : ltI (j : Int) (natI (lenN l)) = true := ltN_t h

def axQ (L D : List Int) (j : Nat) : Prop := axP L D j ∧ prodI (D.take (j + 1)) ≤ 4096
instance (L D : List Int) (j : Nat) : Decidable (axQ L D j) := by unfold axQ; infer_instance

end Go.Am
end
section
namespace Go.Am

/-! ### chains -/

def siteOk (m : Int) (s : Int × Int × Int × List Int) : Bool := decide (0 ≤ s.1 ∧ s.1 ≤ 32) && (decide (0 ≤ s.2.2.1 ∧ s.2.2.1 ≤ 32) && (decide (1 ≤ s.2.1 ∧ s.2.1 ≤ 8) && (decide ((s.2.2.2.length : Int) = s.1 * s.2.1 * s.2.2.1) && rowOk m s.2.2.2)))
def chStep (m : Int) (_ : Nat) (b : Int) (s : Int × Int × Int × List Int) : Option Int := if siteOk m s = true ∧ s.1 = b then some s.2.2.1 else none
def chStep2 (m : Int) (_ : Nat) (st : Int × Int) (s : Int × Int × Int × List Int) : Option (Int × Int) := if siteOk m s = true ∧ s.1 = st.1 then some (s.2.2.1, st.2 * s.2.1) else none
def dimsOf (l : List (Int × Int × Int × List Int)) : List Int := l.map fun s => s.2.1
def chainOk (x : Int × List (Int × Int × Int × List Int)) : Bool := match x with
  | (m, l) => isPrimeI m && (decide (1 ≤ l.length ∧ l.length ≤ 8) && (match foldO (chStep m) 0 1 l with
    | some b => decide (b = 1) && decide (prodI (dimsOf l) ≤ 4096)
    | none => false))
def F_spec_l32Dims : Int × List (Int × Int × Int × List Int) → Option (List Int) := fun ((m, l) : Int × List (Int × Int × Int × List Int)) => if l.length ≤ 1048576 then some (dimsOf l) else none
def F_impl_siteOk : Int × Int × Int × Int × List Int → Option Bool := fun ((m, s) : Int × Int × Int × Int × List Int) => if sz_Site s ≤ 1048576 then some (siteOk m s) else none
def F_impl_ChainOk : Int × List (Int × Int × Int × List Int) → Option Bool := fun x => if sz_Chain x ≤ 1048576 then some (chainOk x) else none


def ag_impl_siteOk : Sig := [(.one, [.int .i64]), (.agg, [.int .i64, .int .i64, .int .i64, .list [.int .i64]])]
def rs_impl_siteOk : Sig := [(.one, [.bool])]
def mu_impl_siteOk : MSig := []
def ag_impl_ChainOk : Sig := [(.agg, [.int .i64, .list [.int .i64, .int .i64, .int .i64, .list [.int .i64]]])]
def rs_impl_ChainOk : Sig := [(.one, [.bool])]
def mu_impl_ChainOk : MSig := []

def G_spec_l32Dims (NN : Nat) : (Int × (List (Int × (Int × (Int × (List Int)))))) → (Option (List Int)) :=
 (fun ((i0, l1) : (Int × (List (Int × (Int × (Int × (List Int))))))) =>
 joinK ((fulI 0 0 (lenN (([] : List Int)))).bnd (fun _ =>
 loopT NN (fun (((l2, i3, i4), l5) : (((List (Int × (Int × (Int × (List Int))))) × (Int × Int)) × (List Int))) =>
 cnd (ltI i4 i3)
 ((getI l2 i4).bnd (fun (i6, i7, i8, l9) =>
 (fulI 0 (lenN l5) (lenN l5)).bnd (fun _ =>
 (winI ((i7 :: ([] : List Int))) 0 1).bnd (fun l10 =>
 (fitI (addN (lenN l5) (lenN l10)) 8).bnd (fun _ =>
 (fulI 0 (addN (lenN l5) (lenN l10)) (lenN (appL l5 l10))).bnd (fun _ =>
 some (Sum.inl ((l2, i3, addI .i64 i4 1), appL l5 l10))))))))
 (((fulI 0 (lenN l5) (lenN l5)).bnd (fun _ =>
 some (Sum.inl l5))).bnd (fun l11 =>
 some (Sum.inr l11))))
 ((l1, natI (lenN l1), (0 : Int)), ([] : List Int))))
 (fun l12 =>
 (takI l12 (lenN l12)).bnd (fun l13 =>
 some l13)))


def G_impl_siteOk (NN : Nat) : (Int × (Int × (Int × (Int × (List Int))))) → (Option Bool) :=
 (fun ((i0, i1, i2, i3, l4) : (Int × (Int × (Int × (Int × (List Int)))))) =>
 cnd (ltI i1 (0 : Int))
 (some false)
 (cnd (ltI (32 : Int) i1)
 (some false)
 (cnd (ltI i3 (0 : Int))
 (some false)
 (cnd (ltI (32 : Int) i3)
 (some false)
 (cnd (ltI i2 (1 : Int))
 (some false)
 (cnd (ltI (8 : Int) i2)
 (some false)
 (cnd (eqI (natI (lenN l4)) (mulI .i64 (mulI .i64 i1 i2) i3))
 ((F_impl_inMod (i0, l4)).bnd (fun b5 =>
 some b5))
 (some false))))))))


def G_impl_ChainOk (NN : Nat) : (Int × (List (Int × (Int × (Int × (List Int)))))) → (Option Bool) :=
 (fun ((i0, l1) : (Int × (List (Int × (Int × (Int × (List Int))))))) =>
 (F_impl_IsPrime i0).bnd (fun b2 =>
 cnd (notB b2)
 (some false)
 (cnd (ltI (natI (lenN l1)) (1 : Int))
 (some false)
 (cnd (ltI (8 : Int) (natI (lenN l1)))
 (some false)
 (joinK (loopT NN (fun (((i3, i4, l5, i6, i7), i8, l9) : ((Int × (Int × ((List (Int × (Int × (Int × (List Int))))) × (Int × Int)))) × (Int × (List (Int × (Int × (Int × (List Int)))))))) =>
 cnd (ltI i7 i6)
 ((getI l5 i7).bnd (fun (i10, i11, i12, l13) =>
 (F_impl_siteOk (i8, i10, i11, i12, l13)).bnd (fun b14 =>
 cnd (notB b14)
 (some (Sum.inr (Sum.inr false)))
 (cnd (neI i10 i3)
 (some (Sum.inr (Sum.inr false)))
 (some (Sum.inl ((i12, mulI .i64 i4 i11, l5, i6, addI .i64 i7 1), i8, l9)))))))
 (some (Sum.inr (Sum.inl (i3, i4)))))
 (((1 : Int), (1 : Int), l1, natI (lenN l1), (0 : Int)), i0, l1))
 (fun (i15, i16) =>
 cnd (eqI i15 (1 : Int))
 (some (leI i16 (4096 : Int)))
 (some false)))))))



theorem f_spec_l32Dims (x : Int × List (Int × Int × Int × List Int)) (y : List Int) (h : F_spec_l32Dims x = some y) : G_spec_l32Dims FUEL x = some y := by
  obtain ⟨m, l⟩ := x
  simp only [F_spec_l32Dims] at h
  split at h
  · rename_i hl
    rw [← h]
    simp only [G_spec_l32Dims]
    rw [show fulI 0 0 (lenN ([] : List Int)) = some () from rfl, bnd_s]
    rw [loopT_seq (fun i => ((l, natI (lenN l), (i : Int)), dimsOf (l.take i))) (r := Sum.inl (dimsOf l)) l.length ?_ ?_ ?_ (FUEL_gt (by omega))]
    · rw [joinK_l, takI_id]; rfl
    all_goals try simp only
    · intro j hj
      obtain ⟨⟨a, p, c, d⟩, hs⟩ : ∃ e, l[j]? = some e := ⟨_, List.getElem?_eq_getElem hj⟩
      have e1 : lenN (dimsOf (l.take j)) = j := by simp [lenN, dimsOf]; omega
      have e2 : appL (dimsOf (l.take j)) [p] = dimsOf (l.take (j + 1)) := by simp [appL, dimsOf, List.take_add_one, hs]
      have e3 : fitI (addN j 1) 8 = some () := fitI_ok (by simp only [addN, maxBytes]; omega)
      rw [cnd_t (ltI_in hs), getI_nat, hs, bnd_s]
      simp only [e1, fulI_id, bnd_s, win1, lenN_appL, show lenN [p] = 1 from rfl, e3, next_i hs (by omega), e2]
    · rw [cnd_f (ltI_end l), List.take_length]
      simp only [fulI_id, bnd_s]
    · rfl
  · cases h

theorem f_impl_siteOk (x : Int × Int × Int × Int × List Int) (y : Bool) (h : F_impl_siteOk x = some y) : G_impl_siteOk FUEL x = some y := by
  obtain ⟨m, a, p, c, l⟩ := x
  simp only [F_impl_siteOk] at h
  split at h
  · rename_i hl
    rw [← h]
    have hl : l.length ≤ 1048576 := hl
    simp only [G_impl_siteOk, siteOk]
    by_cases h1 : a < 0
    · rw [cnd_t (ltI_t h1), decide_eq_false (p := 0 ≤ a ∧ a ≤ 32) (by omega)]; rfl
    rw [cnd_f (ltI_f (by omega))]
    by_cases h2 : 32 < a
    · rw [cnd_t (ltI_t h2), decide_eq_false (p := 0 ≤ a ∧ a ≤ 32) (by omega)]; rfl
    rw [cnd_f (ltI_f (by omega)), decide_eq_true (p := 0 ≤ a ∧ a ≤ 32) (by omega), Bool.true_and]
    by_cases h3 : c < 0
    · rw [cnd_t (ltI_t h3), decide_eq_false (p := 0 ≤ c ∧ c ≤ 32) (by omega)]; rfl
    rw [cnd_f (ltI_f (by omega))]
    by_cases h4 : 32 < c
    · rw [cnd_t (ltI_t h4), decide_eq_false (p := 0 ≤ c ∧ c ≤ 32) (by omega)]; rfl
    rw [cnd_f (ltI_f (by omega)), decide_eq_true (p := 0 ≤ c ∧ c ≤ 32) (by omega), Bool.true_and]
    by_cases h5 : p < 1
    · rw [cnd_t (ltI_t h5), decide_eq_false (p := 1 ≤ p ∧ p ≤ 8) (by omega)]; rfl
    rw [cnd_f (ltI_f (by omega))]
    by_cases h6 : 8 < p
    · rw [cnd_t (ltI_t h6), decide_eq_false (p := 1 ≤ p ∧ p ≤ 8) (by omega)]; rfl
    rw [cnd_f (ltI_f (by omega)), decide_eq_true (p := 1 ≤ p ∧ p ≤ 8) (by omega), Bool.true_and]
    obtain ⟨b1, b2⟩ := mul_bd (a := a) (x := p) (A := 32) (B := 8) (by omega) (by omega) (by omega) (by omega)
    obtain ⟨b3, b4⟩ := mul_bd (a := a * p) (x := c) (A := 32 * 8) (B := 32) (by omega) (by omega) (by omega) (by omega)
    rw [mulI_eq (a := a) (by omega) (by omega), mulI_eq (by omega) (by omega), show F_impl_inMod (m, l) = some (rowOk m l) from if_pos hl]
    by_cases h5 : (l.length : Int) = a * p * c
    · rw [cnd_t (show eqI (natI (lenN l)) _ = true from eqI_t h5), decide_eq_true h5]; rfl
    · rw [cnd_f (show eqI (natI (lenN l)) _ = false from eqI_f h5), decide_eq_false h5]; rfl
  · cases h

theorem siteOk_t {m a p c : Int} {l : List Int} (h : siteOk m (a, p, c, l) = true) : (0 ≤ a ∧ a ≤ 32) ∧ (0 ≤ c ∧ c ≤ 32) ∧ (1 ≤ p ∧ p ≤ 8) ∧ (l.length : Int) = a * p * c ∧ rowOk m l = true := by
  simp only [siteOk, Bool.and_eq_true, decide_eq_true_eq] at h
  exact ⟨h.1, h.2.1, h.2.2.1, h.2.2.2.1, h.2.2.2.2⟩

theorem chStep2_eq {m : Int} : ∀ (l : List (Int × Int × Int × List Int)) (i : Nat) (b z : Int), foldO (chStep2 m) i (b, z) l = (foldO (chStep m) i b l).map fun c => (c, z * prodI (dimsOf l))
  | [], i, b, z => by simp [foldO, dimsOf, prodI]
  | s :: l, i, b, z => by
    rw [foldO, foldO]
    simp only [chStep2, chStep]
    by_cases hc : siteOk m s = true ∧ s.1 = b
    · rw [if_pos hc, if_pos hc]
      simp only
      rw [chStep2_eq l (i + 1)]
      simp only [dimsOf, List.map_cons, prodI, Int.mul_assoc]
    · rw [if_neg hc, if_neg hc]
      rfl

theorem sz_Chain_le {m : Int} {l : List (Int × Int × Int × List Int)} (h : sz_Chain (m, l) ≤ 1048576) : l.length ≤ 1048576 ∧ ∀ e ∈ l, sz_Site e ≤ 1048576 := sz_SiteS_mem h

theorem pow8 {i : Nat} (h : i ≤ 8) : (8 : Int) ^ i ≤ 16777216 := by
  have h1 : (8 : Nat) ^ i ≤ 16777216 := Nat.le_trans (Nat.pow_le_pow_right (by decide) h) (by decide)
  have h2 : ((8 ^ i : Nat) : Int) = (8 : Int) ^ i := by norm_cast
  rw [← h2]
  omega

theorem f_impl_ChainOk (x : Int × List (Int × Int × Int × List Int)) (y : Bool) (h : F_impl_ChainOk x = some y) : G_impl_ChainOk FUEL x = some y := by
  obtain ⟨m, l⟩ := x
  simp only [F_impl_ChainOk] at h
  split at h
  · rename_i hl
    rw [← h]
    obtain ⟨hlen, hmm⟩ := sz_Chain_le hl
    simp only [G_impl_ChainOk, F_impl_IsPrime, bnd_s, chainOk]
    cases hp : isPrimeI m with
    | false => rfl
    | true =>
      have hm := isPrimeI_t hp
      rw [cnd_f (by rfl), Bool.true_and]
      by_cases h2 : l.length < 1
      · rw [cnd_t (ltI_t (by have := nl l; omega)), decide_eq_false (by omega)]; rfl
      rw [cnd_f (ltI_f (by have := nl l; omega))]
      by_cases h3 : 8 < l.length
      · rw [cnd_t (ltI_t (by have := nl l; omega)), decide_eq_false (by omega)]; rfl
      rw [cnd_f (ltI_f (by have := nl l; omega)), decide_eq_true (by omega), Bool.true_and]
      rw [loopT_foldO l (fun (st : Int × Int) i => ((st.1, st.2, l, natI (lenN l), (i : Int)), m, l)) (fun i st => 0 ≤ st.2 ∧ st.2 ≤ (8 : Int) ^ i) (chStep2 m) (Sum.inr false) (fun st => Sum.inl st) ?_ ?_ ?_ (s := (1, 1)) ⟨by decide, by decide⟩ ?_ (FUEL_gt (by omega))]
      · rw [chStep2_eq]
        cases hf : foldO (chStep m) 0 1 l with
        | none => rfl
        | some c =>
          simp only [Option.map_some, Int.one_mul]
          rw [joinK_l]
          simp only
          by_cases hc : c = 1
          · rw [cnd_t (eqI_t hc), decide_eq_true hc, Bool.true_and]; rfl
          · rw [cnd_f (eqI_f hc), decide_eq_false hc, Bool.false_and]
      all_goals try simp only
      · rintro i ⟨b, z⟩ ⟨a, p, c, d⟩ st' hi hz hs
        simp only [chStep2] at hs
        split at hs
        · rename_i hc
          injection hs with hs
          subst hs
          obtain ⟨t1, t2, t3, t4, t5⟩ := siteOk_t hc.1
          have hab : a = b := hc.2
          have hi8 : i ≤ 8 := by have := lt_of_get hi; omega
          have h8 := pow8 hi8
          obtain ⟨b1, b2⟩ := mul_bd hz.1 hz.2 (show 0 ≤ p by omega) t3.2
          simp only at b1 b2
          refine ⟨?_, b1, ?_⟩
          · rw [cnd_t (ltI_in hi), getI_nat, hi, bnd_s]
            simp only
            rw [show F_impl_siteOk (m, a, p, c, d) = some (siteOk m (a, p, c, d)) from if_pos (hmm _ (List.mem_of_getElem? hi)), bnd_s, hc.1, cnd_f (by rfl), cnd_f (neI_f hab), mulI_eq (by omega) (by omega), next_i hi (by omega)]
          · rw [Int.pow_succ]; exact b2
        · cases hs
      · rintro i ⟨b, z⟩ ⟨a, p, c, d⟩ hi hz hs
        simp only [chStep2] at hs
        split at hs
        · cases hs
        · rename_i hc
          rw [cnd_t (ltI_in hi), getI_nat, hi, bnd_s]
          simp only
          rw [show F_impl_siteOk (m, a, p, c, d) = some (siteOk m (a, p, c, d)) from if_pos (hmm _ (List.mem_of_getElem? hi)), bnd_s]
          cases h1 : siteOk m (a, p, c, d) with
          | false => rw [cnd_t (by rfl)]
          | true =>
            rw [cnd_f (by rfl), cnd_t (neI_t (fun e => hc ⟨h1, e⟩))]
      · rintro ⟨b, z⟩ _
        simp only
        rw [cnd_f (ltI_end l)]
      · rfl
  · cases h

theorem loopT_foldO' {X Y α S : Type} {f : X → Option (X ⊕ Y)} (es : List α) (mk : S → Nat → X) (I : Nat → S → Prop) (step : Nat → S → α → Option S) (bad : Y) (good : S → Y)
    (h1 : ∀ i s a, es[i]? = some a → I i s → f (mk s i) = some (match step i s a with | some s' => .inl (mk s' (i + 1)) | none => .inr bad))
    (hI : ∀ i s a s', es[i]? = some a → I i s → step i s a = some s' → I (i + 1) s')
    (h3 : ∀ s, I es.length s → f (mk s es.length) = some (.inr (good s))) {s : S} (h0 : I 0 s) {x0 : X} (hx : x0 = mk s 0) {N : Nat} (hN : es.length < N) :
    loopT N f x0 = some (match foldO step 0 s es with | some s' => good s' | none => bad) :=
  loopT_foldO es mk I step bad good (fun i s a s' ha hi hs => ⟨by rw [h1 i s a ha hi, hs], hI i s a s' ha hi hs⟩) (fun i s a ha hi hs => by rw [h1 i s a ha hi, hs]) h3 h0 hx hN

end Go.Am
end
section
namespace Go.Am

/-! ### chains as matrices -/
abbrev Site := Int × Int × Int × List Int
def site0 : Site := (0, 0, 0, [])
def siteM (s : Site) : Mat := ofD s.2.2.1.toNat s.2.2.2
def siteV (s : Site) (v : Nat) : Mat := fun i j => siteM s (i * s.2.1.toNat + v) j
def bondN (l : List Site) : Nat → Nat
  | 0 => 1
  | i + 1 => (l.getD i site0).2.2.1.toNat
def rowS (m : Int) (R : Nat → Int) (s : Site) (v : Nat) : Nat → Int := fun j => dotF m R (fun t => siteV s v t j) s.1.toNat
def rowN (m : Int) (l : List Site) (ix : List Int) : Nat → (Nat → Int)
  | 0 => fun _ => 1
  | i + 1 => rowS m (rowN m l ix i) (l.getD i site0) (ix.getD i 0).toNat
def chainAt (m : Int) (l : List Site) (ix : List Int) : Int := rowN m l ix l.length 0
def siteG (s : Site) : Prop := (0 ≤ s.1 ∧ s.1 ≤ 64) ∧ (0 ≤ s.2.1 ∧ s.2.1 ≤ 64) ∧ (0 ≤ s.2.2.1 ∧ s.2.2.1 ≤ 64) ∧ (s.2.2.2.length : Int) = s.1 * s.2.1 * s.2.2.1
instance (s : Site) : Decidable (siteG s) := by unfold siteG; infer_instance
def idxB (D ix : List Int) : Bool := decide (ix.length = D.length) && decide (∀ i, i < D.length → 0 ≤ ix.getD i 0 ∧ ix.getD i 0 < D.getD i 0)
def F_impl_chainDims : Int × List Site → Option (List Int) := F_spec_l32Dims
def F_impl_indexOk : List Int × List Int → Option Bool := fun x => if x.1.length ≤ 1048576 ∧ x.2.length ≤ 1048576 then some (idxB x.1 x.2) else none
def F_impl_Site_at : Site × Int × Int × Int → Option Int := fun x =>
  if siteG x.1 ∧ (0 ≤ x.2.1 ∧ x.2.1 < x.1.1) ∧ (0 ≤ x.2.2.1 ∧ x.2.2.1 < x.1.2.1) ∧ (0 ≤ x.2.2.2 ∧ x.2.2.2 < x.1.2.2.1) then some (siteV x.1 x.2.2.1.toNat x.2.1.toNat x.2.2.2.toNat) else none
def F_spec_l32Elem : (Int × List Site) × List Int → Option Int := fun x => if chainOk x.1 = true ∧ idxB (dimsOf x.1.2) x.2 = true then some (chainAt x.1.1 x.1.2 x.2) else none
def F_impl_rawChainAt : (Int × List Site) × List Int → Option Int := F_spec_l32Elem
def F_spec_ChainAt : (Int × List Site) × List Int → Option Int := fun x =>
  if sz_Chain x.1 ≤ 1048576 ∧ x.2.length ≤ 1048576 then some (if chainOk x.1 = true ∧ idxB (dimsOf x.1.2) x.2 = true then chainAt x.1.1 x.1.2 x.2 else -1) else none
def F_impl_ChainAt : (Int × List Site) × List Int → Option Int := F_spec_ChainAt

def ag_impl_chainDims : Sig := [(.agg, [.int .i64, .list [.int .i64, .int .i64, .int .i64, .list [.int .i64]]])]
def rs_impl_chainDims : Sig := [(.one, [.list [.int .i64]])]
def mu_impl_chainDims : MSig := []
def ag_impl_indexOk : Sig := [(.one, [.list [.int .i64]]), (.one, [.list [.int .i64]])]
def rs_impl_indexOk : Sig := [(.one, [.bool])]
def mu_impl_indexOk : MSig := []
def ag_impl_Site_at : Sig := [(.agg, [.int .i64, .int .i64, .int .i64, .list [.int .i64]]), (.one, [.int .i64]), (.one, [.int .i64]), (.one, [.int .i64])]
def rs_impl_Site_at : Sig := [(.one, [.int .i64])]
def mu_impl_Site_at : MSig := []
def ag_impl_rawChainAt : Sig := [(.agg, [.int .i64, .list [.int .i64, .int .i64, .int .i64, .list [.int .i64]]]), (.one, [.list [.int .i64]])]
def rs_impl_rawChainAt : Sig := [(.one, [.int .i64])]
def mu_impl_rawChainAt : MSig := []
def ag_impl_ChainAt : Sig := [(.agg, [.int .i64, .list [.int .i64, .int .i64, .int .i64, .list [.int .i64]]]), (.one, [.list [.int .i64]])]
def rs_impl_ChainAt : Sig := [(.one, [.int .i64])]
def mu_impl_ChainAt : MSig := []

def G_impl_chainDims (NN : Nat) : (Int × (List (Int × (Int × (Int × (List Int)))))) → (Option (List Int)) :=
 (fun ((i0, l1) : (Int × (List (Int × (Int × (Int × (List Int))))))) =>
 joinK ((fulI 0 0 (lenN (([] : List Int)))).bnd (fun _ =>
 loopT NN (fun (((l2, i3, i4), l5) : (((List (Int × (Int × (Int × (List Int))))) × (Int × Int)) × (List Int))) =>
 cnd (ltI i4 i3)
 ((getI l2 i4).bnd (fun (i6, i7, i8, l9) =>
 (fulI 0 (lenN l5) (lenN l5)).bnd (fun _ =>
 (winI ((i7 :: ([] : List Int))) 0 1).bnd (fun l10 =>
 (fitI (addN (lenN l5) (lenN l10)) 8).bnd (fun _ =>
 (fulI 0 (addN (lenN l5) (lenN l10)) (lenN (appL l5 l10))).bnd (fun _ =>
 some (Sum.inl ((l2, i3, addI .i64 i4 1), appL l5 l10))))))))
 (((fulI 0 (lenN l5) (lenN l5)).bnd (fun _ =>
 some (Sum.inl l5))).bnd (fun l11 =>
 some (Sum.inr l11))))
 ((l1, natI (lenN l1), (0 : Int)), ([] : List Int))))
 (fun l12 =>
 (takI l12 (lenN l12)).bnd (fun l13 =>
 some l13)))


def G_impl_indexOk (NN : Nat) : ((List Int) × (List Int)) → (Option Bool) :=
 (fun ((l0, l1) : ((List Int) × (List Int))) =>
 cnd (neI (natI (lenN l1)) (natI (lenN l0)))
 (some false)
 (joinK (loopT NN (fun ((l2, l3, i4, i5) : ((List Int) × ((List Int) × (Int × Int)))) =>
 cnd (ltI i5 i4)
 ((getI l3 i5).bnd (fun i6 =>
 cnd (ltI i6 (0 : Int))
 (some (Sum.inr (Sum.inr false)))
 ((getI l2 i5).bnd (fun i7 =>
 cnd (leI i7 i6)
 (some (Sum.inr (Sum.inr false)))
 (some (Sum.inl (l2, l3, i4, addI .i64 i5 1)))))))
 (some (Sum.inr (Sum.inl ()))))
 (l0, l1, natI (lenN l1), (0 : Int)))
 (fun _ =>
 some true)))


def G_impl_Site_at (NN : Nat) : ((Int × (Int × (Int × (List Int)))) × (Int × (Int × Int))) → (Option Int) :=
 (fun (((i0, i1, i2, l3), i4, i5, i6) : ((Int × (Int × (Int × (List Int)))) × (Int × (Int × Int)))) =>
 (getI l3 (addI .i64 (mulI .i64 (addI .i64 (mulI .i64 i4 i1) i5) i2) i6)).bnd (fun i7 =>
 some i7))


def G_impl_rawChainAt (NN : Nat) : ((Int × (List (Int × (Int × (Int × (List Int)))))) × (List Int)) → (Option Int) :=
 (fun (((i0, l1), l2) : ((Int × (List (Int × (Int × (Int × (List Int)))))) × (List Int))) =>
 joinK ((fulI 0 1 (lenN (((1 : Int) :: ([] : List Int))))).bnd (fun _ =>
 loopT NN (fun (((l3, l4, i5, i6), (i7, l8), l9) : (((List Int) × ((List (Int × (Int × (Int × (List Int))))) × (Int × Int))) × ((Int × (List (Int × (Int × (Int × (List Int)))))) × (List Int)))) =>
 cnd (ltI i6 i5)
 (joinK ((getI l4 i6).bnd (fun (i10, i11, i12, l13) =>
 (mkI i12 i12 8).bnd (fun k14 =>
 joinK ((fulI 0 (lenN l9) (lenN l9)).bnd (fun _ =>
 (fulI 0 k14 (lenN (repL k14 (0 : Int)))).bnd (fun _ =>
 loopT NN (fun (((l15, i16, l17, i18, i19, i20, i21), (i22, l23), (i24, i25, i26, l27), l28, l29) : (((List Int) × (Int × ((List (Int × (Int × (Int × (List Int))))) × (Int × (Int × (Int × Int)))))) × ((Int × (List (Int × (Int × (Int × (List Int)))))) × ((Int × (Int × (Int × (List Int)))) × ((List Int) × (List Int)))))) =>
 cnd (ltI i21 i20)
 (joinK ((fulI 0 (lenN l28) (lenN l28)).bnd (fun _ =>
 (fulI 0 (lenN l29) (lenN l29)).bnd (fun _ =>
 (fulI 0 (lenN l28) (lenN l28)).bnd (fun _ =>
 loopT NN (fun (((l30, i31, i32, l33, i34, i35, i36, i37, i38, i39), (i40, l41), (i42, i43, i44, l45), l46, l47) : (((List Int) × (Int × (Int × ((List (Int × (Int × (Int × (List Int))))) × (Int × (Int × (Int × (Int × (Int × Int))))))))) × ((Int × (List (Int × (Int × (Int × (List Int)))))) × ((Int × (Int × (Int × (List Int)))) × ((List Int) × (List Int)))))) =>
 cnd (ltI i39 i38)
 ((chkI i39 (lenN l46)).bnd (fun k48 =>
 (getN l46 (addN 0 k48)).bnd (fun i49 =>
 (chkI i32 (lenN l47)).bnd (fun k50 =>
 (getN l47 (addN 0 k50)).bnd (fun i51 =>
 (getI l30 i31).bnd (fun i52 =>
 (F_impl_Site_at ((i42, i43, i44, l45), i39, i52, i32)).bnd (fun i53 =>
 (remI (addI .i64 i51 (mulI .i64 i49 i53)) i40).bnd (fun i54 =>
 (chkI i32 (lenN l47)).bnd (fun k55 =>
 (getN l47 (addN 0 k55)).bnd (fun i56 =>
 (fulI 0 (lenN l46) (lenN l46)).bnd (fun _ =>
 (fulI 0 (lenN l47) (lenN (setL l47 (addN 0 k55) i54))).bnd (fun _ =>
 (fulI 0 (lenN l46) (lenN l46)).bnd (fun _ =>
 some (Sum.inl ((l30, i31, i32, l33, i34, i35, i36, i37, i38, addI .i64 i39 1), (i40, l41), (i42, i43, i44, l45), l46, setL l47 (addN 0 k55) i54)))))))))))))))
 (((fulI 0 (lenN l46) (lenN l46)).bnd (fun _ =>
 (fulI 0 (lenN l47) (lenN l47)).bnd (fun _ =>
 some (Sum.inl ((i37, l30, i31, l33, i34, i35, i36), (i40, l41), (i42, i43, i44, l45), l46, l47))))).bnd (fun l57 =>
 some (Sum.inr l57))))
 ((l15, i16, i21, l17, i18, i19, i20, i21, natI (lenN l28), (0 : Int)), (i22, l23), (i24, i25, i26, l27), l28, l29)))))
 (fun ((i58, l59, i60, l61, i62, i63, i64), (i65, l66), (i67, i68, i69, l70), l71, l72) =>
 (fulI 0 (lenN l71) (lenN l71)).bnd (fun _ =>
 (fulI 0 (lenN l72) (lenN l72)).bnd (fun _ =>
 some (Sum.inl ((l59, i60, l61, i62, i63, i64, addI .i64 i58 1), (i65, l66), (i67, i68, i69, l70), l71, l72))))))
 (((fulI 0 (lenN l29) (lenN l29)).bnd (fun _ =>
 some (Sum.inl ((i19, l15, l17, i18), (i22, l23), l29)))).bnd (fun l73 =>
 some (Sum.inr l73))))
 ((l3, i6, l4, i5, i6, natI k14, (0 : Int)), (i7, l8), (i10, i11, i12, l13), l9, repL k14 (0 : Int)))))
 (fun ((i74, l75, l76, i77), (i78, l79), l80) =>
 (fulI 0 (lenN l80) (lenN l80)).bnd (fun _ =>
 some (Sum.inl ((i74, l75, l76, i77), (i78, l79), l80)))))))
 (fun ((i81, l82, l83, i84), (i85, l86), l87) =>
 (fulI 0 (lenN l87) (lenN l87)).bnd (fun _ =>
 some (Sum.inl ((l82, l83, i84, addI .i64 i81 1), (i85, l86), l87)))))
 (((fulI 0 (lenN l9) (lenN l9)).bnd (fun _ =>
 some (Sum.inl l9))).bnd (fun l88 =>
 some (Sum.inr l88))))
 ((l2, l1, natI (lenN l1), (0 : Int)), (i0, l1), ((1 : Int) :: ([] : List Int)))))
 (fun l89 =>
 (chkI (0 : Int) (lenN l89)).bnd (fun k90 =>
 (getN l89 (addN 0 k90)).bnd (fun i91 =>
 some i91))))


def G_impl_ChainAt (NN : Nat) : ((Int × (List (Int × (Int × (Int × (List Int)))))) × (List Int)) → (Option Int) :=
 (fun (((i0, l1), l2) : ((Int × (List (Int × (Int × (Int × (List Int)))))) × (List Int))) =>
 (F_impl_ChainOk (i0, l1)).bnd (fun b3 =>
 cnd (notB b3)
 (some ((-1 : Int)))
 ((F_impl_chainDims (i0, l1)).bnd (fun l4 =>
 (winI l4 0 (lenN l4)).bnd (fun l5 =>
 (F_impl_indexOk (l5, l2)).bnd (fun b6 =>
 cnd (notB b6)
 (some ((-1 : Int)))
 ((F_impl_rawChainAt ((i0, l1), l2)).bnd (fun i7 =>
 some i7))))))))


/-! ### good chains -/

def bd (b : Int) (l : List Site) : Nat → Int
  | 0 => b
  | k + 1 => (l.getD k site0).2.2.1

theorem chStep_iff {m : Int} : ∀ (l : List Site) (i : Nat) (b c : Int), foldO (chStep m) i b l = some c ↔ ((∀ k, k < l.length → siteOk m (l.getD k site0) = true ∧ (l.getD k site0).1 = bd b l k) ∧ c = bd b l l.length)
  | [], i, b, c => by
    simp only [foldO, bd, List.length_nil]
    exact ⟨fun h => ⟨fun k hk => absurd hk (Nat.not_lt_zero k), (Option.some.inj h).symm⟩, fun h => by rw [h.2]⟩
  | s :: l, i, b, c => by
    have key : ∀ k, bd b (s :: l) (k + 1) = bd s.2.2.1 l k := fun k => by cases k <;> rfl
    rw [foldO]
    by_cases hs : siteOk m s = true ∧ s.1 = b
    · rw [show chStep m i b s = some s.2.2.1 from if_pos hs]
      try simp only
      rw [chStep_iff l (i + 1) s.2.2.1 c]
      constructor
      · rintro ⟨h1, h2⟩
        refine ⟨fun k hk => ?_, h2.trans (key _).symm⟩
        cases k with
        | zero => exact hs
        | succ k => rw [key]; exact h1 k (by simpa using hk)
      · rintro ⟨h1, h2⟩
        exact ⟨fun k hk => by rw [← key]; exact h1 (k + 1) (by simpa using hk), h2.trans (key _)⟩
    · rw [show chStep m i b s = none from if_neg hs]
      constructor
      · intro h; cases h
      · rintro ⟨h1, _⟩
        exact absurd (h1 0 (by simp)) hs

theorem bd_toNat (l : List Site) (k : Nat) : (bd 1 l k).toNat = bondN l k := by cases k <;> rfl

/-- What a good chain is. -/
theorem chainOk_t {m : Int} {l : List Site} (h : chainOk (m, l) = true) : pOk m ∧ (1 ≤ l.length ∧ l.length ≤ 8) ∧ prodI (dimsOf l) ≤ 4096 ∧ bondN l l.length = 1 ∧
    ∀ i, i < l.length → ∃ (p : Nat) (M : Mat), l.getD i site0 = ((bondN l i : Int), (p : Int), (bondN l (i + 1) : Int), genD (bondN l i * p) (bondN l (i + 1)) M) ∧ bondN l i ≤ 32 ∧ bondN l (i + 1) ≤ 32 ∧ (1 ≤ p ∧ p ≤ 8) ∧
      inM m (bondN l i * p) (bondN l (i + 1)) M ∧ M = ofD (bondN l (i + 1)) (genD (bondN l i * p) (bondN l (i + 1)) M) := by
  simp only [chainOk, Bool.and_eq_true, decide_eq_true_eq] at h
  obtain ⟨hp, hl, h⟩ := h
  cases hf : foldO (chStep m) 0 1 l with
  | none => rw [hf] at h; cases h
  | some c =>
    rw [hf] at h
    simp only [Bool.and_eq_true, decide_eq_true_eq] at h
    obtain ⟨h1, h2⟩ := (chStep_iff l 0 1 c).1 hf
    have hm := isPrimeI_t hp
    refine ⟨hm, hl, h.2, by rw [← bd_toNat, ← h2, h.1]; rfl, fun i hi => ?_⟩
    obtain ⟨s1, s2⟩ := h1 i hi
    have e2 : (l.getD i site0).2.2.1 = bd 1 l (i + 1) := rfl
    generalize hs : l.getD i site0 = s at *
    obtain ⟨a, p, c', d⟩ := s
    obtain ⟨t1, t2, t3, t4, t5⟩ := siteOk_t s1
    simp only at s2 e2
    obtain ⟨p, rfl⟩ := natI_eq (show 0 ≤ p by omega)
    have ea : a = (bondN l i : Int) := by rw [← bd_toNat, ← s2]; omega
    have ec : c' = (bondN l (i + 1) : Int) := by rw [← bd_toNat, ← e2]; omega
    subst ea ec
    have el : d.length = bondN l i * p * bondN l (i + 1) := by
      have : ((bondN l i : Int) * (p : Int) * (bondN l (i + 1) : Int)) = ((bondN l i * p * bondN l (i + 1) : Nat) : Int) := by norm_cast
      rw [this] at t4; exact_mod_cast t4
    have eg := genD_of (r := bondN l i * p) (c := bondN l (i + 1)) el
    refine ⟨p, ofD (bondN l (i + 1)) d, by rw [eg], by omega, by omega, by omega, ?_, by rw [eg]⟩
    rw [← allP_gen, eg]
    intro x hx
    exact of_decide_eq_true (List.all_eq_true.1 t5 x hx)

theorem dims_getD (l : List Site) (i : Nat) : (dimsOf l).getD i 0 = (l.getD i site0).2.1 := by
  simp only [dimsOf, List.getD_eq_getElem?_getD, List.getElem?_map]
  cases l[i]? <;> rfl
theorem dims_len (l : List Site) : (dimsOf l).length = l.length := by simp [dimsOf]

theorem siteG_gen {s : Site} (h : siteG s) : ∃ (a p c : Nat) (M : Mat), s = ((a : Int), (p : Int), (c : Int), genD (a * p) c M) ∧ a ≤ 64 ∧ p ≤ 64 ∧ c ≤ 64 ∧ M = ofD c (genD (a * p) c M) := by
  obtain ⟨a, p, c, d⟩ := s
  obtain ⟨h1, h2, h3, h4⟩ := h
  simp only at h1 h2 h3 h4
  obtain ⟨a, rfl⟩ := natI_eq h1.1
  obtain ⟨p, rfl⟩ := natI_eq h2.1
  obtain ⟨c, rfl⟩ := natI_eq h3.1
  have el : d.length = a * p * c := by
    have : ((a : Int) * (p : Int) * (c : Int)) = ((a * p * c : Nat) : Int) := by norm_cast
    rw [this] at h4; exact_mod_cast h4
  have eg := genD_of (r := a * p) (c := c) el
  exact ⟨a, p, c, ofD c d, by rw [eg], by omega, by omega, by omega, by rw [eg]⟩
theorem siteG_mk {a p c : Nat} (M : Mat) (ha : a ≤ 64) (hp : p ≤ 64) (hc : c ≤ 64) : siteG ((a : Int), (p : Int), (c : Int), genD (a * p) c M) := by
  refine ⟨⟨by omega, by show (a : Int) ≤ 64; omega⟩, ⟨by show (0 : Int) ≤ p; omega, by show (p : Int) ≤ 64; omega⟩, ⟨by show (0 : Int) ≤ c; omega, by show (c : Int) ≤ 64; omega⟩, ?_⟩
  simp only [genD_len]; norm_cast
theorem siteV_gen {a p c : Nat} {M : Mat} (e : M = ofD c (genD (a * p) c M)) (v : Nat) : siteV ((a : Int), (p : Int), (c : Int), genD (a * p) c M) v = fun i j => M (i * p + v) j := by
  funext i j
  simp only [siteV, siteM, Int.toNat_natCast]
  rw [← e]

theorem f_impl_Site_at (x : Site × Int × Int × Int) (y : Int) (h : F_impl_Site_at x = some y) : G_impl_Site_at FUEL x = some y := by
  obtain ⟨s, i, v, j⟩ := x
  simp only [F_impl_Site_at] at h
  split at h
  · rename_i hc
    obtain ⟨hs, hi, hv, hj⟩ := hc
    obtain ⟨a, p, c, M, rfl, ha, hp, hc, eM⟩ := siteG_gen hs
    obtain ⟨i, rfl⟩ := natI_eq hi.1
    obtain ⟨v, rfl⟩ := natI_eq hv.1
    obtain ⟨j, rfl⟩ := natI_eq hj.1
    rw [← h, siteV_gen eM]
    simp only [Int.toNat_natCast, G_impl_Site_at]
    have hi' : i < a := by have := hi.2; simp only at this; omega
    have hv' : v < p := by have := hv.2; simp only at this; omega
    have hj' : j < c := by have := hj.2; simp only at this; omega
    have hk := idx_lt hi' hv'
    have hap : a * p ≤ 64 * 64 := Nat.mul_le_mul ha hp
    rw [idxI (by omega) (by omega) (by omega), idxI (by omega) (by omega) (by omega), getI_gen M hk hj', bnd_s]
  · cases h

theorem siteAt_nat {a p c i v j : Nat} {M : Mat} (ha : a ≤ 64) (hp : p ≤ 64) (hc : c ≤ 64) (e : M = ofD c (genD (a * p) c M)) (hi : i < a) (hv : v < p) (hj : j < c) :
    F_impl_Site_at (((a : Int), (p : Int), (c : Int), genD (a * p) c M), (i : Int), (v : Int), (j : Int)) = some (M (i * p + v) j) := by
  simp only [F_impl_Site_at]
  rw [if_pos ⟨siteG_mk M ha hp hc, by first | omega | (simp only; omega), by first | omega | (simp only; omega), by first | omega | (simp only; omega)⟩, siteV_gen e]
  simp only [Int.toNat_natCast]

/-! ### rows -/

def rowL (n : Nat) (f : Nat → Int) : List Int := (List.range n).map f
theorem rowL_len (n : Nat) (f : Nat → Int) : (rowL n f).length = n := by simp [rowL]
theorem rowL_get {n j : Nat} (f : Nat → Int) (h : j < n) : (rowL n f)[j]? = some (f j) := by simp [rowL, List.getElem?_range h]
theorem rowL_congr {n : Nat} {f g : Nat → Int} (h : ∀ j, j < n → f j = g j) : rowL n f = rowL n g := List.map_congr_left fun j hj => h j (List.mem_range.1 hj)
theorem rowL_set {n j : Nat} (f : Nat → Int) (x : Int) : setL (rowL n f) j x = rowL n (fun q => if q = j then x else f q) := by
  unfold setL
  apply List.ext_getElem?
  intro k
  rw [List.getElem?_set, rowL_len]
  by_cases hk : k < n
  · rw [rowL_get _ hk, rowL_get _ hk]
    by_cases e : j = k
    · subst e; simp [hk]
    · rw [if_neg e]; simp [show ¬ k = j from fun h => e h.symm]
  · rw [List.getElem?_eq_none (by rw [rowL_len]; omega), List.getElem?_eq_none (by rw [rowL_len]; omega)]
    by_cases e : j = k
    · subst e; simp [hk]
    · simp [e]
theorem lenN_row (n : Nat) (f : Nat → Int) : lenN (rowL n f) = n := rowL_len n f
theorem rowL_rep (n : Nat) (x : Int) : repL n x = rowL n (fun _ => x) := by
  unfold repL rowL
  rw [List.map_const', List.length_range]
theorem fulI_row (n : Nat) (f g : Nat → Int) : fulI 0 (lenN (rowL n f)) (lenN (rowL n g)) = some () := by rw [lenN_row, lenN_row]; exact fulI_id n
theorem chkI_row {n j : Nat} (f : Nat → Int) (h : j < n) : chkI (j : Int) (lenN (rowL n f)) = some j := chkI_nat (by rw [lenN_row]; exact h)
theorem getN_row {n j : Nat} (f : Nat → Int) (h : j < n) : getN (rowL n f) j = some (f j) := rowL_get f h
theorem rowN_in {m : Int} (hm : pOk m) (l : List Site) (ix : List Int) : ∀ i j, inP m (rowN m l ix i j)
  | 0, j => ⟨by show (0 : Int) ≤ 1; omega, by have := hm.1; show (1 : Int) < m; omega⟩
  | i + 1, j => dotF_in hm _ _ _

theorem idxB_t {D ix : List Int} (h : idxB D ix = true) : ix.length = D.length ∧ ∀ i, i < D.length → 0 ≤ ix.getD i 0 ∧ ix.getD i 0 < D.getD i 0 := by
  simp only [idxB, Bool.and_eq_true, decide_eq_true_eq] at h
  exact h

/-- A site of a good chain and a value. -/
theorem site_at {m : Int} {l : List Site} {ix : List Int} (h : chainOk (m, l) = true) (hx : idxB (dimsOf l) ix = true) {i : Nat} (hi : i < l.length) :
    ∃ (p v : Nat) (M : Mat), l[i]? = some ((bondN l i : Int), (p : Int), (bondN l (i + 1) : Int), genD (bondN l i * p) (bondN l (i + 1)) M) ∧ ix[i]? = some (v : Int) ∧ v < p ∧ bondN l i ≤ 32 ∧ bondN l (i + 1) ≤ 32 ∧ p ≤ 8 ∧
      inM m (bondN l i * p) (bondN l (i + 1)) M ∧ M = ofD (bondN l (i + 1)) (genD (bondN l i * p) (bondN l (i + 1)) M) ∧ rowN m l ix (i + 1) = fun j => dotF m (rowN m l ix i) (fun t => M (t * p + v) j) (bondN l i) := by
  obtain ⟨_, _, _, _, hs⟩ := chainOk_t h
  obtain ⟨p, M, e, h1, h2, h3, h4, h5⟩ := hs i hi
  obtain ⟨k1, k2⟩ := idxB_t hx
  have hk := k2 i (by rw [dims_len]; exact hi)
  rw [dims_getD, e] at hk
  simp only at hk
  obtain ⟨v, hv⟩ := natI_eq hk.1
  have hil : i < ix.length := by rw [k1, dims_len]; exact hi
  refine ⟨p, v, M, ?_, ?_, by omega, h1, h2, h3.2, h4, h5, ?_⟩
  · rw [getD_some site0 hi, e]
  · rw [getD_some 0 hil, hv]
  · funext j
    simp only [rowN, rowS, e, hv, Int.toNat_natCast]
    rw [siteV_gen h5]

theorem row_in {m : Int} {a p c v : Nat} {M : Mat} (h : inM m (a * p) c M) (hv : v < p) {t j : Nat} (ht : t < a) (hj : j < c) : inP m (M (t * p + v) j) := h _ (idx_lt ht hv) j hj

/-- The row that is being summed up. -/
def accR (R' : Nat → Int) (j : Nat) (s : Int) : Nat → Int := fun q => if q < j then R' q else if q = j then s else 0

theorem f_impl_rawChainAt (x : (Int × List Site) × List Int) (y : Int) (h : F_impl_rawChainAt x = some y) : G_impl_rawChainAt FUEL x = some y := by
  obtain ⟨⟨m, l⟩, ix⟩ := x
  simp only [F_impl_rawChainAt, F_spec_l32Elem] at h
  split at h
  · rename_i hc
    obtain ⟨hc, hx⟩ := hc
    rw [← h]
    obtain ⟨hm, hl, _, hb, _⟩ := chainOk_t hc
    simp only [G_impl_rawChainAt, chainAt]
    rw [show fulI 0 1 (lenN [(1 : Int)]) = some () from rfl, bnd_s]
    rw [loopT_seq (fun i => ((ix, l, natI (lenN l), (i : Int)), (m, l), rowL (bondN l i) (rowN m l ix i))) (r := Sum.inl (rowL 1 (rowN m l ix l.length))) l.length ?_ ?_ ?_ (FUEL_gt (by omega))]
    · rw [joinK_l]
      try simp only
      rw [show (0 : Int) = ((0 : Nat) : Int) from rfl, chkI_row _ (by omega), bnd_s, addN_0, getN_row _ (by omega), bnd_s]
    · intro i hi
      obtain ⟨p, v, M, e1, e2, hv, h1, h2, h3, h4, h5, h6⟩ := site_at hc hx hi
      try simp only
      rw [cnd_t (ltL_t hi), getI_nat, e1, bnd_s]
      try simp only
      generalize hR : rowN m l ix i = R at *
      generalize hR' : rowN m l ix (i + 1) = R' at *
      generalize ha : bondN l i = a at *
      generalize hcc : bondN l (i + 1) = c at *
      have hRin : ∀ j, inP m (R j) := fun j => by rw [← hR]; exact rowN_in hm l ix i j
      rw [show mkI (c : Int) (c : Int) 8 = some c from mkI_nat (n := c) (by simp only [maxBytes]; omega), bnd_s]
      simp only [fulI_id, bnd_s, show fulI 0 c (lenN (repL c (0 : Int))) = some () from by rw [lenN_repL]; exact fulI_id c]
      rw [loopT_seq (fun j => ((ix, (i : Int), l, natI (lenN l), (i : Int), (c : Int), (j : Int)), (m, l), ((a : Int), (p : Int), (c : Int), genD (a * p) c M), rowL a R, rowL c (accR R' j 0))) (r := Sum.inl (((i : Int), ix, l, natI (lenN l)), (m, l), rowL c R')) c ?_ ?_ ?_ (FUEL_gt (by omega))]
      · rw [joinK_l]
        try simp only [fulI_row, bnd_s]
        rw [joinK_l]
        simp only [fulI_row, bnd_s, addN1 (show i ≤ 1048577 by omega)]
      · intro j hj
        try simp only
        rw [cnd_t (ltN_t hj)]
        try simp only [fulI_row, bnd_s]
        rw [loopT_seq (fun t => ((ix, (i : Int), (j : Int), l, natI (lenN l), (i : Int), (c : Int), (j : Int), natI (lenN (rowL a R)), (t : Int)), (m, l), ((a : Int), (p : Int), (c : Int), genD (a * p) c M), rowL a R, rowL c (accR R' j (dotF m R (fun t => M (t * p + v) j) t))))
          (r := Sum.inl (((j : Int), ix, (i : Int), l, natI (lenN l), (i : Int), (c : Int)), (m, l), ((a : Int), (p : Int), (c : Int), genD (a * p) c M), rowL a R, rowL c (accR R' (j + 1) 0))) a ?_ ?_ ?_ (FUEL_gt (by omega))]
        · rw [joinK_l]
          simp only [fulI_row, bnd_s, addN1 (show j ≤ 1048577 by omega)]
        · intro t ht
          try simp only
          rw [cnd_t (by rw [lenN_row]; exact ltN_t ht), chkI_row _ ht, bnd_s, addN_0, getN_row _ ht, bnd_s, chkI_row _ hj, bnd_s, addN_0, getN_row _ hj, bnd_s, getI_nat, e2, bnd_s, siteAt_nat (by omega) (by omega) (by omega) h5 ht hv hj, bnd_s]
          have ej : accR R' j (dotF m R (fun t => M (t * p + v) j) t) j = dotF m R (fun t => M (t * p + v) j) t := by simp [accR]
          rw [ej, macI hm ((dotF_in hm _ _ t).s hm) (hRin t).le (row_in h4 hv ht hj).le, bnd_s]
          have es : setL (rowL c (accR R' j (dotF m R (fun t => M (t * p + v) j) t))) j ((dotF m R (fun t => M (t * p + v) j) t + R t * M (t * p + v) j) % m) = rowL c (accR R' j (dotF m R (fun t => M (t * p + v) j) (t + 1))) := by
            rw [rowL_set]
            refine rowL_congr fun q _ => ?_
            simp only [accR, dotF]
            by_cases e : q = j
            · subst e; simp
            · simp [e]
          rw [bnd_s, addN_0, getN_row _ hj, bnd_s, es]
          simp only [fulI_row, bnd_s, addN1 (show t ≤ 1048577 by omega)]
        · try simp only
          rw [cnd_f (by rw [lenN_row]; exact ltN_f (Nat.le_refl a))]
          try simp only [fulI_row, bnd_s]
          have ee : rowL c (accR R' j (dotF m R (fun t => M (t * p + v) j) a)) = rowL c (accR R' (j + 1) 0) := by
            refine rowL_congr fun q _ => ?_
            simp only [accR, h6]
            by_cases e : q < j
            · simp [e, show q < j + 1 by omega]
            · by_cases e2 : q = j
              · subst e2; simp
              · simp [e, e2, show ¬ q < j + 1 by omega]
          rw [ee]
        · rfl
      · try simp only
        rw [cnd_f (ltN_f (Nat.le_refl c))]
        try simp only [fulI_row, bnd_s]
        rw [show rowL c (accR R' c 0) = rowL c R' from rowL_congr fun q hq => by simp [accR, hq]]
      · rw [rowL_rep, show rowL c (fun _ => 0) = rowL c (accR R' 0 0) from rowL_congr fun q _ => by simp [accR]]
        rfl
    · try simp only
      rw [cnd_f (ltI_end l), hb]
      try simp only [fulI_row, bnd_s]
    · rfl
  · cases h

theorem foldO_all {α : Type} (P : Nat → α → Bool) (d : α) : ∀ (l : List α) (i : Nat), foldO (fun i (_ : Unit) a => if P i a = true then some () else none) i () l = if (∀ k, k < l.length → P (i + k) (l.getD k d) = true) then some () else none
  | [], i => by simp [foldO]
  | a :: l, i => by
    rw [foldO]
    by_cases h : P i a = true
    · rw [if_pos h]
      try simp only
      rw [foldO_all P d l (i + 1)]
      have : (∀ k, k < l.length → P (i + 1 + k) (l.getD k d) = true) ↔ (∀ k, k < (a :: l).length → P (i + k) ((a :: l).getD k d) = true) := by
        constructor
        · intro h1 k hk
          cases k with
          | zero => exact h
          | succ k => have := h1 k (by simpa using hk); rw [show i + (k + 1) = i + 1 + k by omega]; exact this
        · intro h1 k hk
          have := h1 (k + 1) (by simpa using hk)
          rw [show i + (k + 1) = i + 1 + k by omega] at this
          exact this
      by_cases hc : ∀ k, k < l.length → P (i + 1 + k) (l.getD k d) = true
      · rw [if_pos hc, if_pos (this.1 hc)]
      · rw [if_neg hc, if_neg (fun h2 => hc (this.2 h2))]
    · rw [if_neg h, if_neg (fun h1 => h (h1 0 (by simp)))]

theorem f_impl_chainDims (x : Int × List (Int × Int × Int × List Int)) (y : List Int) (h : F_impl_chainDims x = some y) : G_impl_chainDims FUEL x = some y := by
  have h0 := f_spec_l32Dims x y h
  exact h0

theorem idxB_f {D ix : List Int} (hl : ix.length = D.length) : idxB D ix = decide (∀ k, k < ix.length → decide (0 ≤ ix.getD k 0 ∧ ix.getD k 0 < D.getD (0 + k) 0) = true) := by
  rw [idxB, decide_eq_true hl, Bool.true_and, ← hl]
  simp only [decide_eq_true_eq, Nat.zero_add]

theorem f_impl_indexOk (x : List Int × List Int) (y : Bool) (h : F_impl_indexOk x = some y) : G_impl_indexOk FUEL x = some y := by
  obtain ⟨D, ix⟩ := x
  simp only [F_impl_indexOk] at h
  split at h
  · rename_i hc
    obtain ⟨h1, h2⟩ := hc
    rw [← h]
    simp only [G_impl_indexOk]
    by_cases hl : ix.length = D.length
    · rw [cnd_f (neI_f (by simp only [nl, hl])), idxB_f hl]
      rw [loopT_foldO' ix (fun (_ : Unit) i => (D, ix, natI (lenN ix), (i : Int))) (fun _ _ => True) (fun i _ v => if decide (0 ≤ v ∧ v < D.getD i 0) = true then some () else none) (Sum.inr false) (fun _ => Sum.inl ()) ?_ ?_ ?_ (s := ()) trivial ?_ (FUEL_gt (by omega))]
      · rw [foldO_all (fun i v => decide (0 ≤ v ∧ v < D.getD i 0)) 0]
        by_cases hk : ∀ k, k < ix.length → decide (0 ≤ ix.getD k 0 ∧ ix.getD k 0 < D.getD (0 + k) 0) = true
        · rw [if_pos hk, decide_eq_true hk]; rfl
        · rw [if_neg hk, decide_eq_false hk]; rfl
      all_goals try simp only
      · intro i _ v hv _
        have hi := lt_of_get hv
        rw [cnd_t (ltI_in hv), getI_nat, hv, bnd_s]
        by_cases q1 : v < 0
        · rw [cnd_t (ltI_t q1), if_neg (by simp only [decide_eq_true_eq]; omega)]
        rw [cnd_f (ltI_f (by omega)), getI_nat, getD_some 0 (show i < D.length by omega), bnd_s]
        by_cases q2 : D.getD i 0 ≤ v
        · rw [cnd_t (leI_t q2), if_neg (by simp only [decide_eq_true_eq]; omega)]
        · rw [cnd_f (leI_f (by omega)), if_pos (by simp only [decide_eq_true_eq]; omega), next_i hv (by omega)]
      · intros; trivial
      · intro _ _
        rw [cnd_f (ltI_end ix)]
      · rfl
    · rw [cnd_t (neI_t (by simp only [nl]; omega)), idxB, decide_eq_false hl]; rfl
  · cases h

theorem f_impl_ChainAt (x : (Int × List Site) × List Int) (y : Int) (h : F_impl_ChainAt x = some y) : G_impl_ChainAt FUEL x = some y := by
  obtain ⟨⟨m, l⟩, ix⟩ := x
  simp only [F_impl_ChainAt, F_spec_ChainAt] at h
  split at h
  · rename_i hc
    obtain ⟨hs, hx⟩ := hc
    rw [← h]
    obtain ⟨hlen, hmm⟩ := sz_Chain_le hs
    simp only [G_impl_ChainAt]
    rw [show F_impl_ChainOk (m, l) = some (chainOk (m, l)) from if_pos hs, bnd_s]
    cases hk : chainOk (m, l) with
    | false => rw [cnd_t (by rfl), if_neg (by simp)]
    | true =>
      rw [cnd_f (by rfl), show F_impl_chainDims (m, l) = some (dimsOf l) from if_pos hlen, bnd_s, winI_id, bnd_s, show F_impl_indexOk (dimsOf l, ix) = some (idxB (dimsOf l) ix) from if_pos ⟨by rw [dims_len]; exact hlen, hx⟩, bnd_s]
      cases hb : idxB (dimsOf l) ix with
      | false => rw [cnd_t (by rfl), if_neg (by simp)]
      | true =>
        rw [cnd_f (by rfl), if_pos ⟨rfl, rfl⟩, show F_impl_rawChainAt ((m, l), ix) = some (chainAt m l ix) from if_pos ⟨hk, hb⟩, bnd_s]
  · cases h

/-! ### bonds -/

theorem map_take {α : Type} (g : α → Int) {L : List α} {j : Nat} {x : α} (h : L[j]? = some x) : appL ((L.take j).map g) [g x] = (L.take (j + 1)).map g := by
  simp [appL, List.take_add_one, h]

end Go.Am
end
section
namespace Go.Am

/-! ### indices of dims -/
def dimsG (D : List Int) : Prop := D.length ≤ 1048576 ∧ ∀ x ∈ D, 1 ≤ x ∧ x ≤ 1048576
instance (D : List Int) : Decidable (dimsG D) := by unfold dimsG; infer_instance
theorem subN1 {n : Nat} (h : n ≤ 1048577) : subI .i64 (n : Int) 1 = (n : Int) - 1 := subI_eq (by omega) (by omega)

/-! ### tensors of chains -/

end Go.Am
end
section
namespace Go.Am

/-! ### inner products of chains -/
end Go.Am
end
section
namespace Go.Am

/-! ### compressed chains -/
def mulD (m : Int) (r k c : Nat) (A B : List Int) : List Int := genD r c (mulF m k (ofD k A) (ofD c B))
def smallS (s : Site) : Prop := (0 ≤ s.1 ∧ s.1 ≤ 4096) ∧ (0 ≤ s.2.1 ∧ s.2.1 ≤ 4096) ∧ (0 ≤ s.2.2.1 ∧ s.2.2.1 ≤ 4096)
instance (s : Site) : Decidable (smallS s) := by unfold smallS; infer_instance
/-! ### factors and products of lists -/

theorem allP_ofD {m : Int} {r c : Nat} {d : List Int} (hl : d.length = r * c) (h : allP m d) : inM m r c (ofD c d) := by
  rw [← allP_gen, genD_of hl]; exact h

theorem mulD_len (m : Int) (r k c : Nat) (A B : List Int) : (mulD m r k c A B).length = r * c := genD_len _ _ _
theorem mulD_in {m : Int} (hm : pOk m) (r k c : Nat) (A B : List Int) : allP m (mulD m r k c A B) := by
  unfold mulD
  rw [allP_gen]
  exact fun i _ j _ => dotF_in hm _ _ _
theorem mulD_spec {m : Int} {r k c : Nat} {A B : List Int} (hm : pOk m) (hr : r ≤ 4096) (hk : k ≤ 4096) (hc : c ≤ 4096) (h1 : r * k ≤ 1048576) (h2 : k * c ≤ 1048576) (h3 : r * c ≤ 1048576) (hA : A.length = r * k) (hB : B.length = k * c) (qA : allP m A) (qB : allP m B) :
    F_spec_l31Mul (m, ((r : Int), (k : Int), A), ((k : Int), (c : Int), B)) = some ((r : Int), (c : Int), mulD m r k c A B) := by
  have e := mulS_nat (r := r) (k := k) (c := c) hm hr hk hc h1 h2 h3 (allP_ofD hA qA) (allP_ofD hB qB)
  rw [genD_of hA, genD_of hB] at e
  exact e

end Go.Am
end
section
namespace Go.Am

/-! ### operators on two sites -/
def bondOk (m : Int) (s t : Site) (x : Int × Int × List Int) : Prop := x.1 = s.2.1 * t.2.1 ∧ x.2.1 = s.2.1 * t.2.1 ∧ s.1 * s.2.1 ≤ 64 ∧ t.2.1 * t.2.2.1 ≤ 64
instance (m : Int) (s t : Site) (x : Int × Int × List Int) : Decidable (bondOk m s t x) := by unfold bondOk; infer_instance
def bondR2 (m : Int) (out : List Site) : (Int × List Site) × Bool := if chainOk (m, out) = true then ((m, out), true) else ((0, []), false)
theorem sum_le {α : Type} {f : α → Nat} {B : Nat} : ∀ {l : List α}, (∀ e ∈ l, f e ≤ B) → (l.map f).sum ≤ l.length * B
  | [], _ => by simp
  | a :: l, h => by
    have h1 := h a List.mem_cons_self
    have h2 := sum_le (f := f) (B := B) (l := l) fun e he => h e (List.mem_cons_of_mem _ he)
    rw [List.map_cons, List.sum_cons, List.length_cons, Nat.add_mul]
    omega


end Go.Am
end
section
namespace Go.Am
def kronOk (x : Int × Mx3 × Mx3) : Prop := pOk x.1 ∧ mOk x.2.1 ∧ mOk x.2.2 ∧ (x.2.1.1 * x.2.2.1 ≤ 4096 ∧ x.2.1.2.1 * x.2.2.2.1 ≤ 4096) ∧ (x.2.1.1 * x.2.2.1) * (x.2.1.2.1 * x.2.2.2.1) ≤ 1048576 ∧ allP x.1 x.2.1.2.2 ∧ allP x.1 x.2.2.2.2
instance (x : Int × Mx3 × Mx3) : Decidable (kronOk x) := by unfold kronOk; infer_instance
/-! ### products of all elements -/

section
variable {p : Int} {r c s d : Nat} {A B : Mat}

end

/-! ### products of automata -/

section
variable {p : Int} {n m : Nat} {a b a2 b2 : List Int} {ms ms2 : List Mx3}

end

end Go.Am
end
section
namespace Go.Am

/-! ### chains of automata -/
def acL (n k : Nat) : Nat := if k = 0 then 1 else n
def acR (n N k : Nat) : Nat := if k + 1 = N then 1 else n
def acA (p : Int) (n : Nat) (a : List Int) (k : Nat) (d : List Int) : List Int := if k = 0 then mulD p 1 n n a d else d
def acX (p : Int) (n : Nat) (a b : List Int) (N k : Nat) (d : List Int) : List Int := if k + 1 = N then mulD p (acL n k) n 1 (acA p n a k d) b else acA p n a k d
def acF (K R : Nat) (X : Nat → List Int) : Mat := fun I j => ofD R (X (I % K)) (I / K) j
def acM (p : Int) (n : Nat) (a : List Int) (ms : List Mx3) (b : List Int) (N k : Nat) : Nat → List Int := fun v => acX p n a b N k (ms.getD v (0, 0, [])).2.2
def acS (p : Int) (n : Nat) (a : List Int) (ms : List Mx3) (b : List Int) (N k : Nat) : Site :=
  ((acL n k : Int), (ms.length : Int), (acR n N k : Int), genD (acL n k * ms.length) (acR n N k) (acF ms.length (acR n N k) (acM p n a ms b N k)))
def acC (p : Int) (n : Nat) (a : List Int) (ms : List Mx3) (b : List Int) (N : Nat) (k : Nat) : List Site := (List.range k).map (acS p n a ms b N)
def F_spec_AutomatonChain : Aut × Int → Option ((Int × List Site) × Bool) := fun x =>
  if sz_Automaton x.1 ≤ 1048576 then some (if autOk x.1 = true ∧ 1 ≤ x.2 ∧ x.2 ≤ 8 then bondR2 x.1.1 (acC x.1.1 x.1.2.1.toNat x.1.2.2.1 x.1.2.2.2.1 x.1.2.2.2.2 x.2.toNat x.2.toNat) else ((0, []), false)) else none
def F_impl_AutomatonChain : Aut × Int → Option ((Int × List Site) × Bool) := F_spec_AutomatonChain

def ag_impl_AutomatonChain : Sig := [(.agg, [.int .i64, .int .i64, .list [.int .i64], .list [.int .i64, .int .i64, .list [.int .i64]], .list [.int .i64]]), (.one, [.int .i64])]
def rs_impl_AutomatonChain : Sig := [(.agg, [.int .i64, .list [.int .i64, .int .i64, .int .i64, .list [.int .i64]]]), (.one, [.bool])]
def mu_impl_AutomatonChain : MSig := []

def G_impl_AutomatonChain (NN : Nat) : ((Int × (Int × ((List Int) × ((List (Int × (Int × (List Int)))) × (List Int))))) × Int) → (Option ((Int × (List (Int × (Int × (Int × (List Int)))))) × Bool)) :=
 (fun (((i0, i1, l2, l3, l4), i5) : ((Int × (Int × ((List Int) × ((List (Int × (Int × (List Int)))) × (List Int))))) × Int)) =>
 (F_impl_AutomatonOk (i0, i1, l2, l3, l4)).bnd (fun b6 =>
 cnd (notB b6)
 (some (((0 : Int), ([] : List (Int × (Int × (Int × (List Int)))))), false))
 (cnd (ltI i5 (1 : Int))
 (some (((0 : Int), ([] : List (Int × (Int × (Int × (List Int)))))), false))
 (cnd (ltI (8 : Int) i5)
 (some (((0 : Int), ([] : List (Int × (Int × (Int × (List Int)))))), false))
 (joinK ((fulI 0 0 (lenN (([] : List (Int × (Int × (Int × (List Int)))))))).bnd (fun _ =>
 (fulI 0 0 (lenN (([] : List (Int × (Int × (Int × (List Int)))))))).bnd (fun _ =>
 loopT NN (fun (((i7, i8), (i9, i10, l11, l12, l13), i14, i15, l16, l17) : ((Int × Int) × ((Int × (Int × ((List Int) × ((List (Int × (Int × (List Int)))) × (List Int))))) × (Int × (Int × ((List (Int × (Int × (Int × (List Int))))) × (List (Int × (Int × (Int × (List Int))))))))))) =>
 cnd (ltI i8 i7)
 (joinK (joinK ((fulI 0 0 (lenN (([] : List (Int × (Int × (List Int))))))).bnd (fun _ =>
 (fulI 0 (lenN l16) (lenN l16)).bnd (fun _ =>
 (fulI 0 (lenN l17) (lenN l17)).bnd (fun _ =>
 (fulI 0 0 (lenN (([] : List Int)))).bnd (fun _ =>
 loopT NN (fun (((i18, i19, l20, i21, i22), (i23, i24, l25, l26, l27), i28, i29, (i30, i31, i32), l33, l34, l35, l36) : ((Int × (Int × ((List (Int × (Int × (List Int)))) × (Int × Int)))) × ((Int × (Int × ((List Int) × ((List (Int × (Int × (List Int)))) × (List Int))))) × (Int × (Int × ((Int × (Int × Int)) × ((List (Int × (Int × (Int × (List Int))))) × ((List (Int × (Int × (Int × (List Int))))) × ((List Int) × (List (Int × (Int × (List Int))))))))))))) =>
 cnd (ltI i22 i21)
 ((getI l20 i22).bnd (fun (i37, i38, l39) =>
 joinK (cnd (eqI i19 (0 : Int))
 ((F_impl_rawMulMatrix (i23, ((1 : Int), natI (lenN l25), l25), i37, i38, l39)).bnd (fun (i40, i41, l42) =>
 (fulI 0 (lenN l36) (lenN l36)).bnd (fun _ =>
 (fulI 0 (lenN l33) (lenN l33)).bnd (fun _ =>
 (fulI 0 (lenN l34) (lenN l34)).bnd (fun _ =>
 (fulI 0 (lenN l35) (lenN l35)).bnd (fun _ =>
 some (Sum.inl ((i22, i18, i19, l20, i21), (i23, i24, l25, l26, l27), i28, i29, (i30, i31, i32), (i40, i41, l42), l33, l34, l35, l36))))))))
 ((fulI 0 (lenN l36) (lenN l36)).bnd (fun _ =>
 (fulI 0 (lenN l33) (lenN l33)).bnd (fun _ =>
 (fulI 0 (lenN l34) (lenN l34)).bnd (fun _ =>
 (fulI 0 (lenN l35) (lenN l35)).bnd (fun _ =>
 some (Sum.inl ((i22, i18, i19, l20, i21), (i23, i24, l25, l26, l27), i28, i29, (i30, i31, i32), (i37, i38, l39), l33, l34, l35, l36))))))))
 (fun ((i43, i44, i45, l46, i47), (i48, i49, l50, l51, l52), i53, i54, (i55, i56, i57), (i58, i59, l60), l61, l62, l63, l64) =>
 joinK (cnd (eqI i45 (subI .i64 i44 1))
 ((F_impl_rawMulMatrix (i48, (i58, i59, l60), natI (lenN l52), (1 : Int), l52)).bnd (fun (i65, i66, l67) =>
 (fulI 0 (lenN l64) (lenN l64)).bnd (fun _ =>
 (fulI 0 (lenN l61) (lenN l61)).bnd (fun _ =>
 (fulI 0 (lenN l62) (lenN l62)).bnd (fun _ =>
 (fulI 0 (lenN l63) (lenN l63)).bnd (fun _ =>
 some (Sum.inl ((i43, i44, i45, l46, i47), (i48, i49, l50, l51, l52), i53, i54, (i55, i56, i57), (i65, i66, l67), l61, l62, l63, l64))))))))
 ((fulI 0 (lenN l64) (lenN l64)).bnd (fun _ =>
 (fulI 0 (lenN l61) (lenN l61)).bnd (fun _ =>
 (fulI 0 (lenN l62) (lenN l62)).bnd (fun _ =>
 (fulI 0 (lenN l63) (lenN l63)).bnd (fun _ =>
 some (Sum.inl ((i43, i44, i45, l46, i47), (i48, i49, l50, l51, l52), i53, i54, (i55, i56, i57), (i58, i59, l60), l61, l62, l63, l64))))))))
 (fun ((i68, i69, i70, l71, i72), (i73, i74, l75, l76, l77), i78, i79, (i80, i81, i82), (i83, i84, l85), l86, l87, l88, l89) =>
 (fulI 0 (lenN l89) (lenN l89)).bnd (fun _ =>
 (fulI 0 1 (lenN (((i83, i84, l85) :: ([] : List (Int × (Int × (List Int)))))))).bnd (fun _ =>
 (fitI (addN (lenN l89) (lenN (((i83, i84, l85) :: ([] : List (Int × (Int × (List Int)))))))) 40).bnd (fun _ =>
 (fulI 0 (addN (lenN l89) (lenN (((i83, i84, l85) :: ([] : List (Int × (Int × (List Int)))))))) (lenN (appL l89 (((i83, i84, l85) :: ([] : List (Int × (Int × (List Int))))))))).bnd (fun _ =>
 (fulI 0 (lenN l86) (lenN l86)).bnd (fun _ =>
 (fulI 0 (lenN l87) (lenN l87)).bnd (fun _ =>
 (fulI 0 (lenN l88) (lenN l88)).bnd (fun _ =>
 some (Sum.inl ((i69, i70, l71, i72, addI .i64 i68 1), (i73, i74, l75, l76, l77), i78, i79, (i83, i81, i84), l86, l87, l88, appL l89 (((i83, i84, l85) :: ([] : List (Int × (Int × (List Int)))))))))))))))))))
 (((fulI 0 (lenN l36) (lenN l36)).bnd (fun _ =>
 (fulI 0 (lenN l33) (lenN l33)).bnd (fun _ =>
 (fulI 0 (lenN l34) (lenN l34)).bnd (fun _ =>
 (fulI 0 (lenN l35) (lenN l35)).bnd (fun _ =>
 some (Sum.inl ((i18, i19), (i23, i24, l25, l26, l27), i28, i29, (i30, i31, i32), l33, l34, l35, l36))))))).bnd (fun l90 =>
 some (Sum.inr l90))))
 ((i7, i8, l12, natI (lenN l12), (0 : Int)), (i9, i10, l11, l12, l13), i14, i15, (i10, natI (lenN l12), i10), l16, l17, ([] : List Int), ([] : List (Int × (Int × (List Int))))))))))
 (fun ((i91, i92), (i93, i94, l95, l96, l97), i98, i99, (i100, i101, i102), l103, l104, l105, l106) =>
 joinK ((fulI 0 (lenN l106) (lenN l106)).bnd (fun _ =>
 (fulI 0 (lenN l103) (lenN l103)).bnd (fun _ =>
 (fulI 0 (lenN l104) (lenN l104)).bnd (fun _ =>
 (fulI 0 (lenN l105) (lenN l105)).bnd (fun _ =>
 loopT NN (fun (((i107, i108, i109), (i110, i111, l112, l113, l114), i115, i116, (i117, i118, i119), l120, l121, l122, l123) : ((Int × (Int × Int)) × ((Int × (Int × ((List Int) × ((List (Int × (Int × (List Int)))) × (List Int))))) × (Int × (Int × ((Int × (Int × Int)) × ((List (Int × (Int × (Int × (List Int))))) × ((List (Int × (Int × (Int × (List Int))))) × ((List Int) × (List (Int × (Int × (List Int))))))))))))) =>
 cnd (ltI i109 i117)
 (joinK ((fulI 0 (lenN l123) (lenN l123)).bnd (fun _ =>
 (fulI 0 (lenN l123) (lenN l123)).bnd (fun _ =>
 (fulI 0 (lenN l120) (lenN l120)).bnd (fun _ =>
 (fulI 0 (lenN l121) (lenN l121)).bnd (fun _ =>
 (fulI 0 (lenN l122) (lenN l122)).bnd (fun _ =>
 loopT NN (fun (((i124, i125, i126, i127, i128), (i129, i130, l131, l132, l133), i134, i135, (i136, i137, i138), l139, l140, l141, l142) : ((Int × (Int × (Int × (Int × Int)))) × ((Int × (Int × ((List Int) × ((List (Int × (Int × (List Int)))) × (List Int))))) × (Int × (Int × ((Int × (Int × Int)) × ((List (Int × (Int × (Int × (List Int))))) × ((List (Int × (Int × (Int × (List Int))))) × ((List Int) × (List (Int × (Int × (List Int))))))))))))) =>
 cnd (ltI i128 i127)
 ((chkI i128 (lenN l142)).bnd (fun k143 =>
 (getN l142 (addN 0 k143)).bnd (fun (i144, i145, l146) =>
 (sliI (mulI .i64 i126 i145) (mulI .i64 (addI .i64 i126 1) i145) (lenN l146)).bnd (fun (k147, k148) =>
 (fulI 0 (lenN l141) (lenN l141)).bnd (fun _ =>
 (fitI (addN (lenN l141) (lenN (sldL l146 k147 k148))) 8).bnd (fun _ =>
 (fulI 0 (lenN l142) (lenN l142)).bnd (fun _ =>
 (fulI 0 (lenN l142) (lenN l142)).bnd (fun _ =>
 (fulI 0 (lenN l139) (lenN l139)).bnd (fun _ =>
 (fulI 0 (lenN l140) (lenN l140)).bnd (fun _ =>
 (fulI 0 (addN (lenN l141) (lenN (sldL l146 k147 k148))) (lenN (appL l141 (sldL l146 k147 k148)))).bnd (fun _ =>
 some (Sum.inl ((i124, i125, i126, i127, addI .i64 i128 1), (i129, i130, l131, l132, l133), i134, i135, (i136, i137, i138), l139, l140, appL l141 (sldL l146 k147 k148), l142)))))))))))))
 (((fulI 0 (lenN l142) (lenN l142)).bnd (fun _ =>
 (fulI 0 (lenN l139) (lenN l139)).bnd (fun _ =>
 (fulI 0 (lenN l140) (lenN l140)).bnd (fun _ =>
 (fulI 0 (lenN l141) (lenN l141)).bnd (fun _ =>
 some (Sum.inl ((i126, i124, i125), (i129, i130, l131, l132, l133), i134, i135, (i136, i137, i138), l139, l140, l141, l142))))))).bnd (fun l149 =>
 some (Sum.inr l149))))
 ((i107, i108, i109, natI (lenN l123), (0 : Int)), (i110, i111, l112, l113, l114), i115, i116, (i117, i118, i119), l120, l121, l122, l123)))))))
 (fun ((i150, i151, i152), (i153, i154, l155, l156, l157), i158, i159, (i160, i161, i162), l163, l164, l165, l166) =>
 (fulI 0 (lenN l166) (lenN l166)).bnd (fun _ =>
 (fulI 0 (lenN l163) (lenN l163)).bnd (fun _ =>
 (fulI 0 (lenN l164) (lenN l164)).bnd (fun _ =>
 (fulI 0 (lenN l165) (lenN l165)).bnd (fun _ =>
 some (Sum.inl ((i151, i152, addI .i64 i150 1), (i153, i154, l155, l156, l157), i158, i159, (i160, i161, i162), l163, l164, l165, l166))))))))
 (((fulI 0 (lenN l120) (lenN l120)).bnd (fun _ =>
 (fulI 0 (lenN l121) (lenN l121)).bnd (fun _ =>
 (fulI 0 (lenN l122) (lenN l122)).bnd (fun _ =>
 some (Sum.inl ((i108, i107), (i110, i111, l112, l113, l114), i115, i116, (i117, i118, i119), l120, l121, l122)))))).bnd (fun l167 =>
 some (Sum.inr l167))))
 ((i91, i92, (0 : Int)), (i93, i94, l95, l96, l97), i98, i99, (i100, i101, i102), l103, l104, l105, l106))))))
 (fun ((i168, i169), (i170, i171, l172, l173, l174), i175, i176, (i177, i178, i179), l180, l181, l182) =>
 (takI l182 (lenN l182)).bnd (fun l183 =>
 (fulI 0 (lenN l181) (lenN l181)).bnd (fun _ =>
 (fulI 0 1 (lenN (((i177, i178, i179, l183) :: ([] : List (Int × (Int × (Int × (List Int))))))))).bnd (fun _ =>
 (fitI (addN (lenN l181) (lenN (((i177, i178, i179, l183) :: ([] : List (Int × (Int × (Int × (List Int))))))))) 48).bnd (fun _ =>
 (fulI 0 (lenN l180) (lenN l180)).bnd (fun _ =>
 (fulI 0 (addN (lenN l181) (lenN (((i177, i178, i179, l183) :: ([] : List (Int × (Int × (Int × (List Int))))))))) (lenN (appL l181 (((i177, i178, i179, l183) :: ([] : List (Int × (Int × (Int × (List Int)))))))))).bnd (fun _ =>
 some (Sum.inl ((i168, i169), (i170, i171, l172, l173, l174), i175, i176, l180, appL l181 (((i177, i178, i179, l183) :: ([] : List (Int × (Int × (Int × (List Int))))))))))))))))))
 (fun ((i184, i185), (i186, i187, l188, l189, l190), i191, i192, l193, l194) =>
 (fulI 0 (lenN l193) (lenN l193)).bnd (fun _ =>
 (fulI 0 (lenN l194) (lenN l194)).bnd (fun _ =>
 some (Sum.inl ((i185, addI .i64 i184 1), (i186, i187, l188, l189, l190), i191, i192, l193, l194))))))
 (((fulI 0 (lenN l16) (lenN l16)).bnd (fun _ =>
 (fulI 0 (lenN l17) (lenN l17)).bnd (fun _ =>
 some (Sum.inl (i14, i15, l16, l17))))).bnd (fun l195 =>
 some (Sum.inr l195))))
 ((i5, (0 : Int)), (i0, i1, l2, l3, l4), (0 : Int), i0, ([] : List (Int × (Int × (Int × (List Int))))), ([] : List (Int × (Int × (Int × (List Int)))))))))
 (fun (i196, i197, l198, l199) =>
 (winI l199 0 (lenN l199)).bnd (fun l200 =>
 (F_impl_ChainOk (i197, l200)).bnd (fun b201 =>
 cnd (notB b201)
 (some (((0 : Int), ([] : List (Int × (Int × (Int × (List Int)))))), false))
 ((takI l199 (lenN l199)).bnd (fun l202 =>
 some ((i197, l202), true)))))))))))


section
variable {A1 A2 A3 A4 A5 X Y Z T ρ : Type}
theorem selB (c : Bool) (a1 : A1) (a2 : A2) (a3 : A3) (a4 : A4) (a5 : A5) (x x' : X) (y y' : Y) (z z' : Z) (t : T) :
    cnd c (some (Sum.inl (a1, a2, a3, a4, a5, (x, y, z), t)) : Option ((A1 × A2 × A3 × A4 × A5 × (X × Y × Z) × T) ⊕ ρ)) (some (Sum.inl (a1, a2, a3, a4, a5, (x', y', z'), t))) = some (Sum.inl (a1, a2, a3, a4, a5, (cnd c x x', cnd c y y', cnd c z z'), t)) := by cases c <;> rfl
theorem cnd_same (c : Bool) (x : X) : cnd c x x = x := by cases c <;> rfl
end

theorem eqI_0 (k : Nat) : eqI (k : Int) 0 = decide (k = 0) := by by_cases h : k = 0 <;> simp [eqI, h]
theorem eqI_last {k N : Nat} (hN : 1 ≤ N) (h8 : N ≤ 8) : eqI (k : Int) (subI .i64 (N : Int) 1) = decide (k + 1 = N) := by
  rw [subN1 (by omega)]
  by_cases h : k + 1 = N
  · rw [decide_eq_true h, eqI_t (by omega)]
  · rw [decide_eq_false h, eqI_f (by omega)]
theorem cnd_if {α : Type} (q : Prop) [Decidable q] (x y : α) : cnd (decide q) x y = if q then x else y := by by_cases h : q <;> simp [h, cnd]

section
variable {p : Int} {n : Nat} {a b : List Int} {ms : List Mx3} {N k : Nat}

theorem acA_facts (H : AutOk p n a ms b) {d : List Int} (hl : d.length = n * n) (hd : allP p d) :
    F_spec_l31Mul (p, ((1 : Int), (n : Int), a), ((n : Int), (n : Int), d)) = some ((1 : Int), (n : Int), mulD p 1 n n a d) ∧ (acA p n a k d).length = acL n k * n ∧ allP p (acA p n a k d) ∧
    F_spec_l31Mul (p, ((acL n k : Int), (n : Int), acA p n a k d), ((n : Int), (1 : Int), b)) = some ((acL n k : Int), (1 : Int), mulD p (acL n k) n 1 (acA p n a k d) b) ∧
    (acX p n a b N k d).length = acL n k * acR n N k ∧ allP p (acX p n a b N k d) ∧ acL n k ≤ 12 ∧ acR n N k ≤ 12 := by
  have hn := H.hn
  have h1 : n * n ≤ 12 * 12 := Nat.mul_le_mul hn hn
  have hL : acL n k ≤ 12 := by unfold acL; split <;> omega
  have hR : acR n N k ≤ 12 := by unfold acR; split <;> omega
  have h2 : acL n k * n ≤ 12 * 12 := Nat.mul_le_mul hL hn
  have hAl : (acA p n a k d).length = acL n k * n := by
    unfold acA acL
    split
    · rw [mulD_len]
    · exact hl
  have hAp : allP p (acA p n a k d) := by
    unfold acA
    split
    · exact mulD_in H.p _ _ _ _ _
    · exact hd
  refine ⟨mulD_spec (r := 1) H.p (by omega) (by omega) (by omega) (by omega) (by omega) (by omega) (by rw [H.al]; omega) hl H.ap hd, hAl, hAp,
    mulD_spec (c := 1) H.p (by omega) (by omega) (by omega) (by omega) (by omega) (by omega) hAl (by rw [H.bl]; omega) hAp H.bp, ?_, ?_, hL, hR⟩
  · unfold acX acR
    split
    · rw [mulD_len]
    · exact hAl
  · unfold acX
    split
    · exact mulD_in H.p _ _ _ _ _
    · exact hAp

theorem ms_at (H : AutOk p n a ms b) {v : Nat} (hv : v < ms.length) : ∃ d, ms[v]? = some ((n : Int), (n : Int), d) ∧ (ms.getD v (0, 0, [])).2.2 = d ∧ d.length = n * n ∧ allP p d := by
  have e := getD_some ((0 : Int), (0 : Int), ([] : List Int)) hv
  obtain ⟨M, e1, h1⟩ := H.hm _ (List.mem_of_getElem? e)
  refine ⟨genD n n M, by rw [e, e1], by rw [e1], genD_len _ _ _, allP_gen.2 h1⟩

theorem acC_sz (H : AutOk p n a ms b) (h8 : N ≤ 8) : sz_Chain (p, acC p n a ms b N N) ≤ 131072 := by
  show (acC p n a ms b N N).length + ((acC p n a ms b N N).map sz_Site).sum ≤ _
  have hl : (acC p n a ms b N N).length = N := by simp [acC]
  have hs := sum_le (f := sz_Site) (B := 576) (l := acC p n a ms b N N) fun e he => by
    obtain ⟨k, _, rfl⟩ := List.mem_map.1 he
    show (genD _ _ _).length ≤ _
    rw [genD_len]
    have hn := H.hn
    have hL : acL n k ≤ 12 := by unfold acL; split <;> omega
    have hR : acR n N k ≤ 12 := by unfold acR; split <;> omega
    have q1 : acL n k * ms.length ≤ 12 * 4 := Nat.mul_le_mul hL H.l4
    have q2 : acL n k * ms.length * acR n N k ≤ (12 * 4) * 12 := Nat.mul_le_mul q1 hR
    omega
  rw [hl] at hs ⊢
  have : N * 576 ≤ 8 * 576 := Nat.mul_le_mul_right _ h8
  omega

theorem acC_next : appL (acC p n a ms b N k) [acS p n a ms b N k] = acC p n a ms b N (k + 1) := by
  unfold appL acC
  rw [List.range_succ, List.map_append]
  rfl
theorem acC_len : lenN (acC p n a ms b N k) = k := by simp [acC, lenN]
end

theorem sld_row {L R i : Nat} {d : List Int} (hl : d.length = L * R) (hi : i < L) : sldL d (i * R) R = rowL R fun j => ofD R d i j := by
  apply List.ext_getElem?
  intro j
  unfold sldL
  rw [List.getElem?_take]
  by_cases hj : j < R
  · have h1 := idx_lt hi hj
    rw [if_pos hj, rowL_get _ hj, List.getElem?_drop, ofD, getD_some 0 (show i * R + j < d.length by omega)]
  · rw [if_neg hj, List.getElem?_eq_none (by rw [rowL_len]; omega)]

theorem rowL_add (n m : Nat) (f : Nat → Int) : appL (rowL n f) (rowL m fun j => f (n + j)) = rowL (n + m) f := by
  unfold appL rowL
  rw [List.range_add, List.map_append, List.map_map]
  rfl

theorem acF_at {K R v i j : Nat} {X : Nat → List Int} (hv : v < K) : acF K R X (i * K + v) j = ofD R (X v) i j := by
  unfold acF
  rw [idx_mod hv, idx_div hv]

section
variable {p : Int} {n : Nat} {a b : List Int} {ms : List Mx3} {N k : Nat}
theorem acL_i : cnd (eqI (k : Int) 0) (1 : Int) (n : Int) = ((acL n k : Nat) : Int) := by
  rw [eqI_0, cnd_if]; unfold acL; split <;> rfl
theorem acR_i (hN : 1 ≤ N) (h8 : N ≤ 8) : cnd (eqI (k : Int) (subI .i64 (N : Int) 1)) (1 : Int) (n : Int) = ((acR n N k : Nat) : Int) := by
  rw [eqI_last hN h8, cnd_if]; unfold acR; split <;> rfl
theorem acA_i (d : List Int) : cnd (eqI (k : Int) 0) (mulD p 1 n n a d) d = acA p n a k d := by
  rw [eqI_0, cnd_if]; rfl
theorem acX_i (hN : 1 ≤ N) (h8 : N ≤ 8) (d : List Int) : cnd (eqI (k : Int) (subI .i64 (N : Int) 1)) (mulD p (acL n k) n 1 (acA p n a k d) b) (acA p n a k d) = acX p n a b N k d := by
  rw [eqI_last hN h8, cnd_if]; rfl
theorem fulI_1 {α : Type} (x : α) : fulI 0 1 (lenN [x]) = some () := fulI_id 1
theorem fulI_e {α : Type} : fulI 0 0 (lenN ([] : List α)) = some () := fulI_id 0
theorem fulI_a {α : Type} (l : List α) (x : α) : fulI 0 (addN (lenN l) (lenN [x])) (lenN (appL l [x])) = some () := fulI_ok (by simp [addN, lenN, appL])
theorem fulI_a2 {α : Type} (l r : List α) : fulI 0 (addN (lenN l) (lenN r)) (lenN (appL l r)) = some () := fulI_ok (by simp [addN, lenN, appL])
theorem acC_fit (hk : k < 8) (s : Site) : fitI (addN (lenN (acC p n a ms b N k)) (lenN [s])) 48 = some () := by
  rw [acC_len]; exact fitI_ok (by simp only [addN, lenN, maxBytes, List.length_cons, List.length_nil]; omega)
theorem rawMul_l31 : F_impl_rawMulMatrix = F_spec_l31Mul := rfl
end

def acMs (L R : Nat) (X : Nat → List Int) (v : Nat) : List Mx3 := (List.range v).map fun v => ((L : Int), (R : Int), X v)
theorem acMs_len (L R : Nat) (X : Nat → List Int) (v : Nat) : lenN (acMs L R X v) = v := by simp [acMs, lenN]
theorem acMs_next (L R : Nat) (X : Nat → List Int) (v : Nat) : appL (acMs L R X v) [((L : Int), (R : Int), X v)] = acMs L R X (v + 1) := by
  unfold appL acMs
  rw [List.range_succ, List.map_append]
  rfl
theorem acMs_get {L R K v : Nat} {X : Nat → List Int} (hv : v < K) : getN (acMs L R X K) v = some ((L : Int), (R : Int), X v) := by
  unfold getN acMs
  rw [List.getElem?_map, List.getElem?_range hv]
  rfl
theorem acMs_fit {L R v : Nat} {X : Nat → List Int} (hv : v < 8) (s : Mx3) : fitI (addN (lenN (acMs L R X v)) (lenN [s])) 40 = some () := by
  rw [acMs_len]; exact fitI_ok (by simp only [addN, lenN, maxBytes, List.length_cons, List.length_nil]; omega)
theorem sliI_row {i R n : Nat} (h : (i + 1) * R ≤ n) : sliI ((i * R : Nat) : Int) (((i + 1) * R : Nat) : Int) n = some (i * R, R) := by
  have e : (i + 1) * R = i * R + R := by rw [Nat.add_mul, Nat.one_mul]
  unfold sliI
  rw [e] at h ⊢
  rw [if_pos ⟨by omega, by omega, by omega⟩]
  congr 2 <;> omega
theorem genD_rowL (r c : Nat) (M : Mat) : genD r c M = rowL (r * c) fun q => M (q / c) (q % c) := rfl

theorem f_impl_AutomatonChain (x : Aut × Int) (y : (Int × List Site) × Bool) (h : F_impl_AutomatonChain x = some y) : G_impl_AutomatonChain FUEL x = some y := by
  obtain ⟨x, c⟩ := x
  simp only [F_impl_AutomatonChain, F_spec_AutomatonChain] at h
  split at h
  · rename_i hs
    injection h with h
    subst h
    have hA : F_impl_AutomatonOk x = some (autOk x) := if_pos hs
    cases hx : autOk x with
    | false =>
      obtain ⟨x0, x1, x2, x3, x4⟩ := x
      simp only [G_impl_AutomatonChain]
      rw [hA, bnd_s, hx, cnd_t (by rfl), if_neg (by simp)]
    | true =>
    by_cases hc1 : 1 ≤ c
    rotate_left
    · obtain ⟨x0, x1, x2, x3, x4⟩ := x
      simp only [G_impl_AutomatonChain]
      rw [hA, bnd_s, hx, cnd_f (by rfl), cnd_t (ltI_t (by omega)), if_neg (fun q => hc1 q.2.1)]
    by_cases hc8 : c ≤ 8
    rotate_left
    · obtain ⟨x0, x1, x2, x3, x4⟩ := x
      simp only [G_impl_AutomatonChain]
      rw [hA, bnd_s, hx, cnd_f (by rfl), cnd_f (ltI_f (by omega)), cnd_t (ltI_t (by omega)), if_neg (fun q => hc8 q.2.2)]
    obtain ⟨p, n, a, ms, b, rfl, H⟩ := autOk_nat hx
    obtain ⟨N, rfl⟩ := natI_eq (show 0 ≤ c by omega)
    have hN : 1 ≤ N := by omega
    have h8 : N ≤ 8 := by omega
    rw [if_pos ⟨rfl, hc1, hc8⟩]
    simp only [G_impl_AutomatonChain, Int.toNat_natCast]
    rw [hA, bnd_s, hx, cnd_f (by rfl), cnd_f (ltI_f hc1), cnd_f (ltI_f hc8)]
    simp only [fulI_e, bnd_s]
    rw [loopT_seq (fun k => (((N : Int), (k : Int)), (p, (n : Int), a, ms, b), (0 : Int), p, ([] : List Site), acC p n a ms b N k))
      (r := Sum.inl ((0 : Int), p, ([] : List Site), acC p n a ms b N N)) N ?_ ?_ ?_ (FUEL_gt (by omega))]
    · rw [joinK_l]
      simp only [winI_id, bnd_s]
      rw [show F_impl_ChainOk (p, acC p n a ms b N N) = some (chainOk (p, acC p n a ms b N N)) from if_pos (Nat.le_trans (acC_sz H h8) (by omega)), bnd_s, bondR2]
      cases chainOk (p, acC p n a ms b N N) with
      | false => rfl
      | true =>
        rw [cnd_f (by rfl), if_pos rfl]
        simp only [takI_id, bnd_s]
    · intro k hk
      simp only
      rw [cnd_t (ltN_t hk)]
      simp only [fulI_id, fulI_e, bnd_s]
      have hn := H.hn
      have hL : acL n k ≤ 12 := by unfold acL; split <;> omega
      have hR : acR n N k ≤ 12 := by unfold acR; split <;> omega
      have hK := H.l4
      have hK1 := H.l1
      have hLK : acL n k * ms.length ≤ 12 * 4 := Nat.mul_le_mul hL hK
      have hLKR : acL n k * ms.length * acR n N k ≤ 12 * 4 * 12 := Nat.mul_le_mul hLK hR
      have hal : natI (lenN a) = ((n : Nat) : Int) := by rw [natI, lenN, H.al]
      have hbl : natI (lenN b) = ((n : Nat) : Int) := by rw [natI, lenN, H.bl]
      generalize hX : acM p n a ms b N k = X
      have hXl : ∀ v, v < ms.length → (X v).length = acL n k * acR n N k := fun v hv => by
        obtain ⟨d, e1, e2, hl, hd⟩ := ms_at H hv
        obtain ⟨f1, f2, f3, f4, f5, f6, _, _⟩ := acA_facts (N := N) (k := k) H hl hd
        rw [← hX]
        show (acX p n a b N k (ms.getD v (0, 0, [])).2.2).length = _
        rw [e2]
        exact f5
      generalize hS : acF ms.length (acR n N k) X = S
      rw [loopT_seq (fun v => (((N : Int), (k : Int), ms, (ms.length : Int), (v : Int)), (p, (n : Int), a, ms, b), (0 : Int), p, (if v = 0 then (n : Int) else (acL n k : Int), (ms.length : Int), if v = 0 then (n : Int) else (acR n N k : Int)), ([] : List Site), acC p n a ms b N k, ([] : List Int), acMs (acL n k) (acR n N k) X v))
        (r := Sum.inl (((N : Int), (k : Int)), (p, (n : Int), a, ms, b), (0 : Int), p, ((acL n k : Int), (ms.length : Int), (acR n N k : Int)), ([] : List Site), acC p n a ms b N k, ([] : List Int), acMs (acL n k) (acR n N k) X ms.length)) ms.length ?_ ?_ ?_ (FUEL_gt (by omega))]
      · rw [joinK_l]
        try simp only [fulI_id, fulI_e, bnd_s]
        rw [loopT_seq (fun i => (((N : Int), (k : Int), (i : Int)), (p, (n : Int), a, ms, b), (0 : Int), p, ((acL n k : Int), (ms.length : Int), (acR n N k : Int)), ([] : List Site), acC p n a ms b N k, rowL (i * ms.length * acR n N k) (fun q => S (q / acR n N k) (q % acR n N k)), acMs (acL n k) (acR n N k) X ms.length))
          (r := Sum.inl (((k : Int), (N : Int)), (p, (n : Int), a, ms, b), (0 : Int), p, ((acL n k : Int), (ms.length : Int), (acR n N k : Int)), ([] : List Site), acC p n a ms b N k, genD (acL n k * ms.length) (acR n N k) S)) (acL n k) ?_ ?_ ?_ (FUEL_gt (by omega))]
        · rw [joinK_l]
          simp only [takI_id, fulI_id, fulI_1, bnd_s]
          rw [acC_fit (by omega), bnd_s, fulI_a, bnd_s]
          try simp only [fulI_id, bnd_s]
          rw [show ((acL n k : Int), (ms.length : Int), (acR n N k : Int), genD (acL n k * ms.length) (acR n N k) S) = acS p n a ms b N k by rw [← hS, ← hX]; rfl, acC_next, joinK_l]
          simp only [fulI_id, bnd_s, addN1 (show k ≤ 1048577 by omega)]
        · intro i hi
          simp only
          rw [cnd_t (ltN_t hi)]
          try simp only [fulI_id, bnd_s]
          rw [loopT_seq (fun v => (((N : Int), (k : Int), (i : Int), (ms.length : Int), (v : Int)), (p, (n : Int), a, ms, b), (0 : Int), p, ((acL n k : Int), (ms.length : Int), (acR n N k : Int)), ([] : List Site), acC p n a ms b N k, rowL ((i * ms.length + v) * acR n N k) (fun q => S (q / acR n N k) (q % acR n N k)), acMs (acL n k) (acR n N k) X ms.length))
            (r := Sum.inl (((i : Int), (N : Int), (k : Int)), (p, (n : Int), a, ms, b), (0 : Int), p, ((acL n k : Int), (ms.length : Int), (acR n N k : Int)), ([] : List Site), acC p n a ms b N k, rowL ((i + 1) * ms.length * acR n N k) (fun q => S (q / acR n N k) (q % acR n N k)), acMs (acL n k) (acR n N k) X ms.length)) ms.length ?_ ?_ ?_ (FUEL_gt (by omega))]
          · rw [joinK_l]
            simp only [fulI_id, bnd_s, addN1 (show i ≤ 1048577 by omega)]
          · intro v hv
            have hI := idx_lt hi hv
            have hb : (i + 1) * acR n N k ≤ acL n k * acR n N k := Nat.mul_le_mul_right _ hi
            have hc : (i * ms.length + v) * acR n N k ≤ 48 * 12 := Nat.mul_le_mul (by omega) hR
            have hrow : sldL (X v) (i * acR n N k) (acR n N k) = rowL (acR n N k) fun j => S (((i * ms.length + v) * acR n N k + j) / acR n N k) (((i * ms.length + v) * acR n N k + j) % acR n N k) := by
              rw [sld_row (hXl v hv) hi]
              refine rowL_congr fun j hj => ?_
              rw [idx_div hj, idx_mod hj, ← hS, acF_at hv]
            simp only
            rw [cnd_t (ltN_t hv), acMs_len, chkI_nat hv, bnd_s, addN_0, acMs_get hv, bnd_s]
            simp only
            rw [addN1 (show i ≤ 1048577 by omega), mulN (show i ≤ 1048576 by omega) (show acR n N k ≤ 1048576 by omega), mulN (show i + 1 ≤ 1048576 by omega) (show acR n N k ≤ 1048576 by omega), sliI_row (by rw [lenN, hXl v hv]; exact hb), bnd_s]
            simp only
            rw [hrow]
            rw [show fitI (addN (lenN (rowL ((i * ms.length + v) * acR n N k) (fun q => S (q / acR n N k) (q % acR n N k)))) (lenN (rowL (acR n N k) fun j => S (((i * ms.length + v) * acR n N k + j) / acR n N k) (((i * ms.length + v) * acR n N k + j) % acR n N k)))) 8 = some () by rw [lenN_row, lenN_row]; exact fitI_ok (by simp only [addN, maxBytes]; omega), fulI_a2, rowL_add _ _ (fun q => S (q / acR n N k) (q % acR n N k))]
            simp only [fulI_id, bnd_s, addN1 (show v ≤ 1048577 by omega)]
            rw [show (i * ms.length + v) * acR n N k + acR n N k = (i * ms.length + (v + 1)) * acR n N k by rw [← Nat.add_assoc, Nat.add_mul _ 1, Nat.one_mul]]
          · simp only
            rw [cnd_f (ltN_f (Nat.le_refl _)), show i * ms.length + ms.length = (i + 1) * ms.length by rw [Nat.add_mul, Nat.one_mul]]
            try simp only [fulI_id, bnd_s]
          · rw [acMs_len]; rfl
        · simp only
          rw [cnd_f (ltN_f (Nat.le_refl _)), genD_rowL]
          try simp only [fulI_id, bnd_s]
        · rw [Nat.zero_mul, Nat.zero_mul]; rfl
      · intro v hv
        obtain ⟨d, e1, e2, hl, hd⟩ := ms_at H hv
        obtain ⟨f1, f2, f3, f4, f5, f6, _, _⟩ := acA_facts (N := N) (k := k) H hl hd
        have hXv : X v = acX p n a b N k d := by rw [← hX]; show acX p n a b N k (ms.getD v (0, 0, [])).2.2 = _; rw [e2]
        simp only
        rw [cnd_t (ltN_t hv), getI_nat, e1, bnd_s]
        simp only
        rw [hal, rawMul_l31, f1, bnd_s]
        simp only [fulI_id, fulI_e, bnd_s]
        rw [selB, joinK_l]
        simp only [cnd_same]
        rw [acL_i, acA_i, hbl, f4, bnd_s]
        simp only [fulI_id, fulI_e, bnd_s]
        rw [selB, joinK_l]
        simp only [cnd_same]
        rw [acR_i hN h8, acX_i hN h8, ← hXv]
        try simp only [fulI_id, fulI_e, fulI_1, bnd_s]
        rw [acMs_fit (by omega), bnd_s, fulI_a, bnd_s, acMs_next]
        simp only [fulI_id, fulI_e, bnd_s, addN1 (show v ≤ 1048577 by omega), if_neg (Nat.succ_ne_zero v)]
      · simp only
        rw [cnd_f (ltN_f (Nat.le_refl _))]
        simp only [fulI_id, fulI_e, bnd_s, if_neg (show ¬ ms.length = 0 by omega)]
      · rfl
    · simp only
      rw [cnd_f (ltN_f (Nat.le_refl _))]
      try simp only [fulI_id, bnd_s]
    · rfl
  · cases h
end Go.Am
end
section
namespace Go.Am

/-! ### sums over sets -/

/-! ### numbers of members -/

end Go.Am
end
