/- M1, Mx, M4, M31, M6, M7, M8, M9, Fm, M14, M15, M16, M17, M19, M33, M36, M37, M18, M32, M34, M38: parts of the proof. No condition. -/
import Derived.Test.YtdbokcfhhdkhiaaMT
set_option linter.unusedVariables false
set_option linter.unusedSimpArgs false
section
namespace Go.Am
end Go.Am
end
section
namespace Go.Am

/-! ### loops -/

/-! ### matrices -/

def genD (r c : Nat) (M : Nat → Nat → Int) : List Int := (List.range (r * c)).map fun n => M (n / c) (n % c)
def ofD (c : Nat) (l : List Int) : Nat → Nat → Int := fun i j => l.getD (i * c + j) 0
def updM (M : Nat → Nat → Int) (i j : Nat) (x : Int) : Nat → Nat → Int := fun a b => if a = i ∧ b = j then x else M a b

theorem idx_lt {r c i j : Nat} (hi : i < r) (hj : j < c) : i * c + j < r * c := by
  have : (i + 1) * c ≤ r * c := Nat.mul_le_mul_right _ hi
  rw [Nat.add_mul] at this
  omega
theorem idx_div {c i j : Nat} (hj : j < c) : (i * c + j) / c = i := by
  rw [Nat.mul_comm, Nat.mul_add_div (by omega), Nat.div_eq_of_lt hj, Nat.add_zero]
theorem idx_mod {c i j : Nat} (hj : j < c) : (i * c + j) % c = j := by
  rw [Nat.mul_comm, Nat.mul_add_mod, Nat.mod_eq_of_lt hj]
theorem genD_len (r c : Nat) (M : Nat → Nat → Int) : (genD r c M).length = r * c := by simp [genD]
theorem genD_get {r c i j : Nat} (M : Nat → Nat → Int) (hi : i < r) (hj : j < c) : (genD r c M)[i * c + j]? = some (M i j) := by
  unfold genD
  rw [List.getElem?_map, List.getElem?_range (idx_lt hi hj)]
  simp [idx_div hj, idx_mod hj]
theorem genD_congr {r c : Nat} {M M' : Nat → Nat → Int} (h : ∀ i, i < r → ∀ j, j < c → M i j = M' i j) : genD r c M = genD r c M' := by
  unfold genD
  refine List.map_congr_left fun n hn => ?_
  have hn := List.mem_range.1 hn
  have hc : 0 < c := by
    rcases Nat.eq_zero_or_pos c with h | h
    · subst h; simp at hn
    · exact h
  exact h _ ((Nat.div_lt_iff_lt_mul hc).2 hn) _ (Nat.mod_lt _ hc)
theorem genD_set {r c i j : Nat} (M : Nat → Nat → Int) (hj : j < c) (x : Int) : (genD r c M).set (i * c + j) x = genD r c (updM M i j x) := by
  apply List.ext_getElem?
  intro n
  rw [List.getElem?_set, genD_len]
  unfold genD
  simp only [List.getElem?_map]
  by_cases hn : n < r * c
  · rw [List.getElem?_range hn]
    have hc : 0 < c := by omega
    by_cases he : i * c + j = n
    · rw [if_pos he, if_pos (by omega)]
      subst he
      simp [updM, idx_div hj, idx_mod hj]
    · rw [if_neg he]
      simp only [Option.map_some, updM]
      rw [if_neg]
      rintro ⟨h1, h2⟩
      apply he
      rw [← h1, ← h2]
      have := Nat.div_add_mod n c
      rw [Nat.mul_comm] at this
      exact this
  · rw [List.getElem?_eq_none (by simp; omega)]
    by_cases he : i * c + j = n
    · rw [if_pos he, if_neg (by omega)]; rfl
    · rw [if_neg he]; rfl
theorem genD_of {r c : Nat} {l : List Int} (h : l.length = r * c) : genD r c (ofD c l) = l := by
  apply List.ext_getElem?
  intro n
  unfold genD
  simp only [List.getElem?_map]
  by_cases hn : n < r * c
  · rw [List.getElem?_range hn, List.getElem?_eq_getElem (by omega)]
    simp only [Option.map_some, ofD]
    have := Nat.div_add_mod n c
    rw [Nat.mul_comm] at this
    rw [this, List.getD_eq_getElem?_getD, List.getElem?_eq_getElem (by omega)]
    rfl
  · rw [List.getElem?_eq_none (by simp; omega), List.getElem?_eq_none (by omega)]
    rfl
theorem ofD_gen {r c i j : Nat} (M : Nat → Nat → Int) (hi : i < r) (hj : j < c) : ofD c (genD r c M) i j = M i j := by
  unfold ofD
  rw [List.getD_eq_getElem?_getD, genD_get M hi hj]
  rfl
theorem genD_rep (r c : Nat) (x : Int) : repL (r * c) x = genD r c (fun _ _ => x) := by
  unfold genD repL
  rw [List.map_const', List.length_range]
/-! ### indices as the program computes them -/

theorem idxI {i c j : Nat} (hi : i ≤ 1048576) (hc : c ≤ 1048576) (hj : j ≤ 1048576) : addI .i64 (mulI .i64 (i : Int) (c : Int)) (j : Int) = ((i * c + j : Nat) : Int) := by
  have h1 : i * c ≤ 1048576 * 1048576 := Nat.mul_le_mul hi hc
  have e : (i : Int) * (c : Int) = ((i * c : Nat) : Int) := by norm_cast
  rw [mulI, wrap_id (by omega) (by omega), addI_eq (by omega) (by omega), e]
  omega
theorem mulN {i c : Nat} (hi : i ≤ 1048576) (hc : c ≤ 1048576) : mulI .i64 (i : Int) (c : Int) = ((i * c : Nat) : Int) := by
  have h1 : i * c ≤ 1048576 * 1048576 := Nat.mul_le_mul hi hc
  have e : (i : Int) * (c : Int) = ((i * c : Nat) : Int) := by norm_cast
  rw [mulI, wrap_id (by omega) (by omega), e]
theorem getI_gen {r c i j : Nat} (M : Nat → Nat → Int) (hi : i < r) (hj : j < c) : getI (genD r c M) ((i * c + j : Nat) : Int) = some (M i j) := by rw [getI_nat, genD_get M hi hj]
theorem chkI_gen {r c i j : Nat} (M : Nat → Nat → Int) (hi : i < r) (hj : j < c) : chkI ((i * c + j : Nat) : Int) (lenN (genD r c M)) = some (i * c + j) := chkI_nat (by unfold lenN; rw [genD_len]; exact idx_lt hi hj)
theorem getN_gen {r c i j : Nat} (M : Nat → Nat → Int) (hi : i < r) (hj : j < c) : getN (genD r c M) (i * c + j) = some (M i j) := genD_get M hi hj
theorem setL_gen {r c i j : Nat} (M : Nat → Nat → Int) (hj : j < c) (x : Int) : setL (genD r c M) (i * c + j) x = genD r c (updM M i j x) := genD_set M hj x
theorem lenN_gen (r c : Nat) (M : Nat → Nat → Int) : lenN (genD r c M) = r * c := genD_len r c M
theorem fulI_gen (r c : Nat) (M M' : Nat → Nat → Int) : fulI 0 (lenN (genD r c M)) (lenN (genD r c M')) = some () := by rw [lenN_gen, lenN_gen]; exact fulI_id _
theorem samI_gen (r c : Nat) (M M' : Nat → Nat → Int) : samI (lenN (genD r c M)) (lenN (genD r c M')) = some () := by rw [lenN_gen, lenN_gen]; exact samI_ok rfl
theorem remN {a p : Int} (ha : 0 ≤ a) (hp : 0 < p) : remI a p = some (a % p) := by
  unfold remI
  rw [if_neg (by omega), Int.tmod_eq_emod_of_nonneg ha]
theorem ltN_t {i n : Nat} (h : i < n) : ltI (i : Int) (n : Int) = true := ltI_t (by omega)
theorem ltN_f {i n : Nat} (h : n ≤ i) : ltI (i : Int) (n : Int) = false := ltI_f (by omega)
theorem addN1 {i : Nat} (h : i ≤ 1048577) : addI .i64 (i : Int) 1 = ((i + 1 : Nat) : Int) := by rw [addI_eq (by omega) (by omega)]; omega

/-- Products modulo p. -/
def pOk (p : Int) : Prop := 2 ≤ p ∧ p ≤ 1000003
instance (p : Int) : Decidable (pOk p) := inferInstanceAs (Decidable (2 ≤ p ∧ p ≤ 1000003))
def inP (p x : Int) : Prop := 0 ≤ x ∧ x < p
instance (p x : Int) : Decidable (inP p x) := inferInstanceAs (Decidable (0 ≤ x ∧ x < p))

theorem emod_in {p : Int} (hp : pOk p) (a : Int) : inP p (a % p) := ⟨Int.emod_nonneg _ (by have := hp.1; omega), Int.emod_lt_of_pos _ (by have := hp.1; omega)⟩
theorem inP.le {p x : Int} (h : inP p x) : 0 ≤ x ∧ x ≤ p := ⟨h.1, Int.le_of_lt h.2⟩
theorem inP.s {p x : Int} (hp : pOk p) (h : inP p x) : 0 ≤ x ∧ x ≤ 1000003000000 := ⟨h.1, by have := h.2; have := hp.2; omega⟩
theorem prod_in {p a b : Int} (hp : pOk p) (ha : 0 ≤ a ∧ a ≤ p) (hb : 0 ≤ b ∧ b ≤ p) : 0 ≤ a * b ∧ a * b ≤ 1000006000009 := by
  refine ⟨Int.mul_nonneg ha.1 hb.1, ?_⟩
  have h1 := hp.2
  have := Int.mul_le_mul (show a ≤ 1000003 by omega) (show b ≤ 1000003 by omega) hb.1 (by omega)
  omega
theorem mulI_in {p a b : Int} (hp : pOk p) (ha : 0 ≤ a ∧ a ≤ p) (hb : 0 ≤ b ∧ b ≤ p) : mulI .i64 a b = a * b := by
  have := prod_in hp ha hb
  exact wrap_id (by omega) (by omega)
theorem macI {p s a b : Int} (hp : pOk p) (hs : 0 ≤ s ∧ s ≤ 1000003000000) (ha : 0 ≤ a ∧ a ≤ p) (hb : 0 ≤ b ∧ b ≤ p) : remI (addI .i64 s (mulI .i64 a b)) p = some ((s + a * b) % p) := by
  have h := prod_in hp ha hb
  rw [mulI_in hp ha hb, addI_eq (by omega) (by omega), remN (by omega) (by have := hp.1; omega)]
theorem mulR {p a b : Int} (hp : pOk p) (ha : 0 ≤ a ∧ a ≤ p) (hb : 0 ≤ b ∧ b ≤ p) : remI (mulI .i64 a b) p = some (a * b % p) := by
  have h := prod_in hp ha hb
  rw [mulI_in hp ha hb, remN h.1 (by have := hp.1; omega)]

def dotF (p : Int) (f g : Nat → Int) : Nat → Int
  | 0 => 0
  | n + 1 => (dotF p f g n + f n * g n) % p

theorem dotF_in {p : Int} (hp : pOk p) (f g : Nat → Int) : ∀ n, inP p (dotF p f g n)
  | 0 => ⟨Int.le_refl _, by have := hp.1; show (0 : Int) < p; omega⟩
  | n + 1 => emod_in hp _

def mulF (p : Int) (k : Nat) (A B : Nat → Nat → Int) : Nat → Nat → Int := fun i j => dotF p (fun t => A i t) (fun t => B t j) k

/-- All of a matrix's elements are modulo p. -/
def inM (p : Int) (r c : Nat) (M : Nat → Nat → Int) : Prop := ∀ i, i < r → ∀ j, j < c → inP p (M i j)

def allP (p : Int) (l : List Int) : Prop := ∀ x ∈ l, inP p x
instance (p : Int) (l : List Int) : Decidable (allP p l) := inferInstanceAs (Decidable (∀ x ∈ l, inP p x))

theorem allP_gen {p : Int} {r c : Nat} {M : Nat → Nat → Int} : allP p (genD r c M) ↔ inM p r c M := by
  constructor
  · intro h i hi j hj
    exact h _ (List.mem_of_getElem? (genD_get M hi hj))
  · intro h x hx
    unfold genD at hx
    obtain ⟨n, hn, rfl⟩ := List.mem_map.1 hx
    have hn := List.mem_range.1 hn
    have hc : 0 < c := by
      rcases Nat.eq_zero_or_pos c with h | h
      · subst h; simp at hn
      · exact h
    exact h _ ((Nat.div_lt_iff_lt_mul hc).2 hn) _ (Nat.mod_lt _ hc)

/-- A matrix as the program has it. -/
def mOk (x : Int × Int × List Int) : Prop := (0 ≤ x.1 ∧ x.1 ≤ 4096) ∧ (0 ≤ x.2.1 ∧ x.2.1 ≤ 4096) ∧ (x.2.2.length : Int) = x.1 * x.2.1 ∧ x.2.2.length ≤ 1048576
instance (x : Int × Int × List Int) : Decidable (mOk x) := by unfold mOk; infer_instance

/-- What a matrix is. -/
theorem mOk_gen {x : Int × Int × List Int} (h : mOk x) : ∃ (r c : Nat) (M : Nat → Nat → Int), x = ((r : Int), (c : Int), genD r c M) ∧ r ≤ 4096 ∧ c ≤ 4096 ∧ r * c ≤ 1048576 := by
  obtain ⟨r, c, l⟩ := x
  obtain ⟨h1, h2, h3, h4⟩ := h
  simp only at h1 h2 h3 h4
  obtain ⟨r, rfl⟩ := natI_eq h1.1
  obtain ⟨c, rfl⟩ := natI_eq h2.1
  have e : l.length = r * c := by
    have : ((r : Int) * (c : Int)) = ((r * c : Nat) : Int) := by norm_cast
    rw [this] at h3; exact_mod_cast h3
  exact ⟨r, c, ofD c l, by rw [genD_of e], by omega, by omega, by omega⟩

theorem mOk_mk {r c : Nat} (M : Nat → Nat → Int) (hr : r ≤ 4096) (hc : c ≤ 4096) (h : r * c ≤ 1048576) : mOk ((r : Int), (c : Int), genD r c M) := by
  refine ⟨⟨by omega, by show (r : Int) ≤ 4096; omega⟩, ⟨by show (0 : Int) ≤ c; omega, by show (c : Int) ≤ 4096; omega⟩, ?_, ?_⟩
  · simp only [genD_len]; norm_cast
  · simp only [genD_len]; exact h

end Go.Am
end
section
namespace Go.Am

/-! ### primes, rows, matrices, automata -/

def divAt (n : Int) (i : Nat) : Bool := decide ((i : Int) * i ≤ n) && decide (n % (i : Int) = 0)
def isPrimeI (n : Int) : Bool := decide (2 ≤ n ∧ n ≤ 1000003) && !((List.range' 2 999).any (divAt n))
def F_impl_IsPrime : Int → Option Bool := fun (n : Int) => some (isPrimeI n)
def inB (m : Int) (v : Int) : Bool := decide (0 ≤ v ∧ v < m)
def rowOk (m : Int) (l : List Int) : Bool := l.all (inB m)
def F_impl_inMod : Int × List Int → Option Bool := fun ((m, l) : Int × List Int) => if l.length ≤ 1048576 then some (rowOk m l) else none
def matOk (m : Int) (x : Int × Int × List Int) : Bool := isPrimeI m && (decide (0 ≤ x.1 ∧ x.1 ≤ 64) && (decide (0 ≤ x.2.1 ∧ x.2.1 ≤ 64) && (decide ((x.2.2.length : Int) = x.1 * x.2.1) && rowOk m x.2.2)))
def F_impl_MatrixOk : Int × Int × Int × List Int → Option Bool := fun ((m, x) : Int × Int × Int × List Int) => if sz_Matrix x ≤ 1048576 then some (matOk m x) else none
def matsOk (m n : Int) (x : Int × Int × List Int) : Bool := matOk m x && (decide (x.1 = n) && decide (x.2.1 = n))
def autOk (x : Int × Int × List Int × List (Int × Int × List Int) × List Int) : Bool := match x with
  | (m, n, a, ms, b) => isPrimeI m && (decide (0 ≤ n ∧ n ≤ 12) && ((rowOk m a && decide ((a.length : Int) = n)) && ((rowOk m b && decide ((b.length : Int) = n)) && (decide (1 ≤ ms.length ∧ ms.length ≤ 4) && ms.all (matsOk m n)))))
def F_impl_AutomatonOk : Int × Int × List Int × List (Int × Int × List Int) × List Int → Option Bool := fun x => if sz_Automaton x ≤ 1048576 then some (autOk x) else none

def ag_impl_IsPrime : Sig := [(.one, [.int .i64])]
def rs_impl_IsPrime : Sig := [(.one, [.bool])]
def mu_impl_IsPrime : MSig := []
def ag_impl_inMod : Sig := [(.one, [.int .i64]), (.one, [.list [.int .i64]])]
def rs_impl_inMod : Sig := [(.one, [.bool])]
def mu_impl_inMod : MSig := []
def ag_impl_MatrixOk : Sig := [(.one, [.int .i64]), (.agg, [.int .i64, .int .i64, .list [.int .i64]])]
def rs_impl_MatrixOk : Sig := [(.one, [.bool])]
def mu_impl_MatrixOk : MSig := []
def ag_impl_AutomatonOk : Sig := [(.agg, [.int .i64, .int .i64, .list [.int .i64], .list [.int .i64, .int .i64, .list [.int .i64]], .list [.int .i64]])]
def rs_impl_AutomatonOk : Sig := [(.one, [.bool])]
def mu_impl_AutomatonOk : MSig := []

def G_impl_IsPrime (NN : Nat) : Int → (Option Bool) :=
 (fun (i0 : Int) =>
 cnd (ltI i0 (2 : Int))
 (some false)
 (cnd (ltI (1000003 : Int) i0)
 (some false)
 (joinK (loopT NN (fun ((i1, i2) : (Int × Int)) =>
 cnd (leI (mulI .i64 i2 i2) i1)
 ((remI i1 i2).bnd (fun i3 =>
 cnd (eqI i3 (0 : Int))
 (some (Sum.inr (Sum.inr false)))
 (some (Sum.inl (i1, addI .i64 i2 1)))))
 (some (Sum.inr (Sum.inl ()))))
 (i0, (2 : Int)))
 (fun _ =>
 some true))))

def G_impl_inMod (NN : Nat) : (Int × (List Int)) → (Option Bool) :=
 (fun ((i0, l1) : (Int × (List Int))) =>
 joinK (loopT NN (fun ((i2, l3, i4, i5) : (Int × ((List Int) × (Int × Int)))) =>
 cnd (ltI i5 i4)
 ((getI l3 i5).bnd (fun i6 =>
 cnd (ltI i6 (0 : Int))
 (some (Sum.inr (Sum.inr false)))
 (cnd (leI i2 i6)
 (some (Sum.inr (Sum.inr false)))
 (some (Sum.inl (i2, l3, i4, addI .i64 i5 1))))))
 (some (Sum.inr (Sum.inl ()))))
 (i0, l1, natI (lenN l1), (0 : Int)))
 (fun _ =>
 some true))

def G_impl_MatrixOk (NN : Nat) : (Int × (Int × (Int × (List Int)))) → (Option Bool) :=
 (fun ((i0, i1, i2, l3) : (Int × (Int × (Int × (List Int))))) =>
 (F_impl_IsPrime i0).bnd (fun b4 =>
 cnd (notB b4)
 (some false)
 (cnd (ltI i1 (0 : Int))
 (some false)
 (cnd (ltI i2 (0 : Int))
 (some false)
 (cnd (ltI (64 : Int) i1)
 (some false)
 (cnd (ltI (64 : Int) i2)
 (some false)
 (cnd (eqI (natI (lenN l3)) (mulI .i64 i1 i2))
 ((F_impl_inMod (i0, l3)).bnd (fun b5 =>
 some b5))
 (some false))))))))

def G_impl_AutomatonOk (NN : Nat) : (Int × (Int × ((List Int) × ((List (Int × (Int × (List Int)))) × (List Int))))) → (Option Bool) :=
 (fun ((i0, i1, l2, l3, l4) : (Int × (Int × ((List Int) × ((List (Int × (Int × (List Int)))) × (List Int)))))) =>
 (F_impl_IsPrime i0).bnd (fun b5 =>
 cnd (notB b5)
 (some false)
 (cnd (ltI i1 (0 : Int))
 (some false)
 (cnd (ltI (12 : Int) i1)
 (some false)
 (cnd (neI (natI (lenN l2)) i1)
 (some false)
 (cnd (neI (natI (lenN l4)) i1)
 (some false)
 ((F_impl_inMod (i0, l2)).bnd (fun b6 =>
 cnd (notB b6)
 (some false)
 ((F_impl_inMod (i0, l4)).bnd (fun b7 =>
 cnd (notB b7)
 (some false)
 (cnd (ltI (natI (lenN l3)) (1 : Int))
 (some false)
 (cnd (ltI (4 : Int) (natI (lenN l3)))
 (some false)
 (joinK (loopT NN (fun (((l8, i9, i10), i11, i12, l13, l14, l15) : (((List (Int × (Int × (List Int)))) × (Int × Int)) × (Int × (Int × ((List Int) × ((List (Int × (Int × (List Int)))) × (List Int))))))) =>
 cnd (ltI i10 i9)
 ((getI l8 i10).bnd (fun (i16, i17, l18) =>
 (F_impl_MatrixOk (i11, i16, i17, l18)).bnd (fun b19 =>
 cnd (notB b19)
 (some (Sum.inr (Sum.inr false)))
 (cnd (neI i16 i12)
 (some (Sum.inr (Sum.inr false)))
 (cnd (neI i17 i12)
 (some (Sum.inr (Sum.inr false)))
 (some (Sum.inl ((l8, i9, addI .i64 i10 1), i11, i12, l13, l14, l15))))))))
 (some (Sum.inr (Sum.inl ()))))
 ((l3, natI (lenN l3), (0 : Int)), i0, i1, l2, l3, l4))
 (fun _ =>
 some true))))))))))))))



theorem mulI_eq {a b : Int} (h1 : -9223372036854775808 ≤ a * b) (h2 : a * b ≤ 9223372036854775807) : mulI .i64 a b = a * b := wrap_id h1 h2
theorem remI_nat {n : Int} {i : Nat} (hn : 0 ≤ n) (hi : 0 < i) : remI n (i : Int) = some (n % (i : Int)) := by
  unfold remI
  rw [if_neg (by omega), Int.tmod_eq_emod_of_nonneg hn]

theorem sq_le {i j : Nat} (h : i ≤ j) : (i : Int) * i ≤ (j : Int) * j := by
  have := Nat.mul_le_mul h h
  exact_mod_cast this

/-- The search for a divisor. -/
theorem div_loop {X Y : Type} {f : X → Option (X ⊕ (Y ⊕ Bool))} (n : Int) (mk : Nat → X) (r : Y) (hn : n ≤ 1000003)
    (h1 : ∀ i : Nat, 2 ≤ i → i ≤ 1001 → (i : Int) * i ≤ n → n % (i : Int) = 0 → f (mk i) = some (.inr (.inr false)))
    (h2 : ∀ i : Nat, 2 ≤ i → i ≤ 1001 → (i : Int) * i ≤ n → n % (i : Int) ≠ 0 → f (mk i) = some (.inl (mk (i + 1))))
    (h3 : ∀ i : Nat, 2 ≤ i → i ≤ 1001 → ¬ (i : Int) * i ≤ n → f (mk i) = some (.inr (.inl r))) {x0 : X} (hx : x0 = mk 2) :
    loopT FUEL f x0 = some (if (List.range' 2 999).any (divAt n) = true then .inr false else .inl r) := by
  subst hx
  have key : ∀ (d i : Nat), 2 ≤ i → i + d = 1001 → ∀ N, d < N → loopT N f (mk i) = some (if (List.range' i d).any (divAt n) = true then .inr false else .inl r) := by
    intro d
    induction d with
    | zero =>
      intro i hi hd N hN
      obtain ⟨N, rfl⟩ : ∃ M, N = M + 1 := ⟨N - 1, by omega⟩
      have : i = 1001 := by omega
      subst this
      rw [loopT, h3 1001 (by omega) (by omega) (by omega)]
      rfl
    | succ d ih =>
      intro i hi hd N hN
      obtain ⟨N, rfl⟩ : ∃ M, N = M + 1 := ⟨N - 1, by omega⟩
      rw [List.range'_succ, List.any_cons]
      by_cases hle : (i : Int) * i ≤ n
      · by_cases hm : n % (i : Int) = 0
        · rw [loopT, h1 i hi (by omega) hle hm]
          simp [divAt, hle, hm]
        · rw [loopT, h2 i hi (by omega) hle hm]
          simp only
          rw [ih (i + 1) (by omega) (by omega) N (by omega), show divAt n i = false by simp [divAt, hm], Bool.false_or]
      · rw [loopT, h3 i hi (by omega) hle]
        have : (List.range' (i + 1) d).any (divAt n) = false := by
          rw [List.any_eq_false]
          intro j hj
          have := (List.mem_range'_1.1 hj).1
          have := sq_le (show i ≤ j by omega)
          simp only [divAt, Bool.and_eq_true, decide_eq_true_eq, not_and]
          intro h; omega
        simp only
        rw [this]
        simp [divAt, hle]
  exact key 999 2 (by omega) (by omega) FUEL (FUEL_gt (by omega))

theorem sq_le1001 {i : Nat} (h : i ≤ 1001) : 0 ≤ (i : Int) * i ∧ (i : Int) * i ≤ 1002001 := by
  have h1 := sq_le h
  have h0 := sq_le (Nat.zero_le i)
  omega

theorem f_impl_IsPrime (x : Int) (y : Bool) (h : F_impl_IsPrime x = some y) : G_impl_IsPrime FUEL x = some y := by
  rw [← h]
  simp only [F_impl_IsPrime, G_impl_IsPrime]
  by_cases h2 : x < 2
  · rw [cnd_t (ltI_t h2), isPrimeI, decide_eq_false (by omega)]; rfl
  rw [cnd_f (ltI_f (by omega))]
  by_cases hx : 1000003 < x
  · rw [cnd_t (ltI_t hx), isPrimeI, decide_eq_false (by omega)]; rfl
  rw [cnd_f (ltI_f (by omega))]
  rw [div_loop x (fun i => (x, (i : Int))) () (by omega) ?_ ?_ ?_ ?_]
  · have hr : (2 ≤ x ∧ x ≤ 1000003) := by omega
    by_cases hd : (List.range' 2 999).any (divAt x) = true
    · rw [if_pos hd, joinK_r, isPrimeI, hd]
      simp
    · rw [if_neg hd, joinK_l, isPrimeI]
      simp [hd, hr]
  all_goals try simp only
  · intro i h2 hi hle hm
    have hs := sq_le1001 hi
    rw [mulI_eq (by omega) (by omega), cnd_t (leI_t hle), remI_nat (by omega) (by omega), bnd_s, cnd_t (eqI_t hm)]
  · intro i h2 hi hle hm
    have hs := sq_le1001 hi
    rw [mulI_eq (by omega) (by omega), cnd_t (leI_t hle), remI_nat (by omega) (by omega), bnd_s, cnd_f (eqI_f hm), addI_eq (by omega) (by omega)]
    rfl
  · intro i h2 hi hle
    have hs := sq_le1001 hi
    rw [mulI_eq (by omega) (by omega), cnd_f (leI_f (by omega))]
  · rfl

theorem f_impl_inMod (x : Int × List Int) (y : Bool) (h : F_impl_inMod x = some y) : G_impl_inMod FUEL x = some y := by
  obtain ⟨m, l⟩ := x
  simp only [F_impl_inMod] at h
  split at h
  · rename_i hl
    rw [← h]
    simp only [G_impl_inMod]
    rw [loopT_all (mk := fun i => (m, l, natI (lenN l), (i : Int))) l (inB m) (Sum.inr false) (Sum.inl ()) ?_ ?_ ?_ ?_ (FUEL_gt (by omega))]
    · unfold rowOk
      cases l.all (inB m) <;> rfl
    all_goals try simp only
    · intro i a ha hp
      have hp := of_decide_eq_true hp
      rw [cnd_t (ltI_in ha), getI_nat, ha, bnd_s, cnd_f (ltI_f (by omega)), cnd_f (leI_f (by omega)), next_i ha (by omega)]
    · intro i a ha hp
      have hp := of_decide_eq_false hp
      rw [cnd_t (ltI_in ha), getI_nat, ha, bnd_s]
      by_cases h0 : a < 0
      · rw [cnd_t (ltI_t h0)]
      · rw [cnd_f (ltI_f (by omega)), cnd_t (leI_t (by omega))]
    · rw [cnd_f (ltI_end l)]
    · rfl
  · cases h

theorem isPrimeI_t {m : Int} (h : isPrimeI m = true) : 2 ≤ m ∧ m ≤ 1000003 := by
  simp only [isPrimeI, Bool.and_eq_true, decide_eq_true_eq] at h
  exact h.1

theorem f_impl_MatrixOk (x : Int × Int × Int × List Int) (y : Bool) (h : F_impl_MatrixOk x = some y) : G_impl_MatrixOk FUEL x = some y := by
  obtain ⟨m, r, c, l⟩ := x
  simp only [F_impl_MatrixOk] at h
  split at h
  · rename_i hl
    rw [← h]
    have hl : l.length ≤ 1048576 := hl
    simp only [G_impl_MatrixOk, F_impl_IsPrime, bnd_s, matOk]
    cases hp : isPrimeI m with
    | false => rfl
    | true =>
      rw [cnd_f (by rfl), Bool.true_and]
      by_cases h1 : r < 0
      · rw [cnd_t (ltI_t h1), decide_eq_false (by omega)]; rfl
      rw [cnd_f (ltI_f (by omega))]
      by_cases h2 : c < 0
      · rw [cnd_t (ltI_t h2), decide_eq_false (p := 0 ≤ c ∧ c ≤ 64) (by omega)]; simp
      rw [cnd_f (ltI_f (by omega))]
      by_cases h3 : 64 < r
      · rw [cnd_t (ltI_t h3), decide_eq_false (by omega)]; rfl
      rw [cnd_f (ltI_f (by omega))]
      by_cases h4 : 64 < c
      · rw [cnd_t (ltI_t h4), decide_eq_false (p := 0 ≤ c ∧ c ≤ 64) (by omega)]; simp
      rw [cnd_f (ltI_f (by omega)), decide_eq_true (p := 0 ≤ r ∧ r ≤ 64) (by omega), decide_eq_true (p := 0 ≤ c ∧ c ≤ 64) (by omega), Bool.true_and, Bool.true_and]
      obtain ⟨r, rfl⟩ := natI_eq (z := r) (by omega)
      obtain ⟨c, rfl⟩ := natI_eq (z := c) (by omega)
      have hrc : r * c ≤ 64 * 64 := Nat.mul_le_mul (by omega) (by omega)
      have hrc' : (r : Int) * (c : Int) = ((r * c : Nat) : Int) := by norm_cast
      rw [mulI_eq (by omega) (by omega), show F_impl_inMod (m, l) = some (rowOk m l) from if_pos hl]
      by_cases h5 : (l.length : Int) = (r : Int) * c
      · rw [cnd_t (show eqI (natI (lenN l)) _ = true from eqI_t h5), decide_eq_true h5]; rfl
      · rw [cnd_f (show eqI (natI (lenN l)) _ = false from eqI_f h5), decide_eq_false h5]; rfl
  · cases h

theorem sz_Automaton_le {m n : Int} {a : List Int} {ms : List (Int × Int × List Int)} {b : List Int} (h : sz_Automaton (m, n, a, ms, b) ≤ 1048576) : a.length ≤ 1048576 ∧ b.length ≤ 1048576 ∧ ms.length ≤ 1048576 ∧ ∀ e ∈ ms, sz_Matrix e ≤ 1048576 := by
  have h1 : a.length + sz_MatrixS ms + b.length ≤ 1048576 := h
  have h2 := sz_MatrixS_mem (l := ms) (by omega)
  exact ⟨by omega, by omega, h2.1, h2.2⟩

theorem f_impl_AutomatonOk (x : Int × Int × List Int × List (Int × Int × List Int) × List Int) (y : Bool) (h : F_impl_AutomatonOk x = some y) : G_impl_AutomatonOk FUEL x = some y := by
  obtain ⟨m, n, a, ms, b⟩ := x
  simp only [F_impl_AutomatonOk] at h
  split at h
  · rename_i hl
    rw [← h]
    obtain ⟨ha, hb, hms, hmm⟩ := sz_Automaton_le hl
    simp only [G_impl_AutomatonOk, F_impl_IsPrime, bnd_s, autOk]
    cases hp : isPrimeI m with
    | false => rfl
    | true =>
      have hm := isPrimeI_t hp
      rw [cnd_f (by rfl), Bool.true_and]
      by_cases h0 : n < 0
      · rw [cnd_t (ltI_t h0), decide_eq_false (by omega)]; rfl
      rw [cnd_f (ltI_f (by omega))]
      by_cases h1 : 12 < n
      · rw [cnd_t (ltI_t h1), decide_eq_false (by omega)]; rfl
      rw [cnd_f (ltI_f (by omega)), decide_eq_true (p := 0 ≤ n ∧ n ≤ 12) (by omega), Bool.true_and]
      by_cases e1 : (a.length : Int) = n
      rotate_left
      · rw [cnd_t (show neI (natI (lenN a)) _ = true from neI_t e1), decide_eq_false e1, Bool.and_false, Bool.false_and]
      rw [cnd_f (show neI (natI (lenN a)) _ = false from neI_f e1), decide_eq_true e1, Bool.and_true]
      by_cases e2 : (b.length : Int) = n
      rotate_left
      · rw [cnd_t (show neI (natI (lenN b)) _ = true from neI_t e2), decide_eq_false e2, Bool.and_false, Bool.false_and, Bool.and_false]
      rw [cnd_f (show neI (natI (lenN b)) _ = false from neI_f e2), decide_eq_true e2, Bool.and_true]
      rw [show F_impl_inMod (m, a) = some (rowOk m a) from if_pos ha, bnd_s]
      rw [show F_impl_inMod (m, b) = some (rowOk m b) from if_pos hb, bnd_s]
      cases rowOk m a with
      | false => rfl
      | true =>
      rw [cnd_f (by rfl), Bool.true_and]
      cases rowOk m b with
      | false => rfl
      | true =>
      rw [cnd_f (by rfl), Bool.true_and]
      by_cases h2 : ms.length < 1
      · rw [cnd_t (ltI_t (by have := nl ms; omega)), decide_eq_false (by omega)]; rfl
      rw [cnd_f (ltI_f (by have := nl ms; omega))]
      by_cases h3 : 4 < ms.length
      · rw [cnd_t (ltI_t (by have := nl ms; omega)), decide_eq_false (by omega)]; rfl
      rw [cnd_f (ltI_f (by have := nl ms; omega)), decide_eq_true (by omega), Bool.true_and]
      rw [loopT_all (mk := fun i => ((ms, natI (lenN ms), (i : Int)), m, n, a, ms, b)) ms (matsOk m n) (Sum.inr false) (Sum.inl ()) ?_ ?_ ?_ ?_ (FUEL_gt (by omega))]
      · cases ms.all (matsOk m n) <;> rfl
      all_goals try simp only
      · rintro i ⟨r, c, l⟩ hi hp
        simp only [matsOk, Bool.and_eq_true, decide_eq_true_eq] at hp
        obtain ⟨p1, p2, p3⟩ := hp
        rw [cnd_t (ltI_in hi), getI_nat, hi, bnd_s]
        simp only
        rw [show F_impl_MatrixOk (m, r, c, l) = some (matOk m (r, c, l)) from if_pos (hmm _ (List.mem_of_getElem? hi)), bnd_s, p1, cnd_f (by rfl), cnd_f (neI_f p2), cnd_f (neI_f p3), next_i hi (by omega)]
      · rintro i ⟨r, c, l⟩ hi hp
        rw [cnd_t (ltI_in hi), getI_nat, hi, bnd_s]
        simp only
        rw [show F_impl_MatrixOk (m, r, c, l) = some (matOk m (r, c, l)) from if_pos (hmm _ (List.mem_of_getElem? hi)), bnd_s]
        cases p1 : matOk m (r, c, l) with
        | false => rw [cnd_t (by rfl)]
        | true =>
          rw [cnd_f (by rfl)]
          by_cases p2 : r = n
          · rw [cnd_f (neI_f p2)]
            by_cases p3 : c = n
            · simp [matsOk, p1, p2, p3] at hp
              rw [p2, p3] at p1
              rw [p1] at hp
              cases hp
            · rw [cnd_t (neI_t p3)]
          · rw [cnd_t (neI_t p2)]
      · rw [cnd_f (ltI_end ms)]
      · rfl
  · cases h

end Go.Am
end
section
namespace Go.Am

/-! ### rings -/

def ringOk : Int × Int × Int → Bool := fun ((k, p, n) : Int × Int × Int) =>
  if k = 1 then decide (p = 0 ∧ n = 0) else if k = 2 then isPrimeI p && decide (n = 0) else if k = 3 ∨ k = 4 ∨ k = 5 then decide ((1 ≤ p ∧ p ≤ 1000000) ∧ n = 0)
  else if k = 6 then decide (p = 0 ∧ 1 ≤ n ∧ n ≤ 20) else if k = 7 then isPrimeI p && decide (1 ≤ n ∧ n ≤ 6) else if k = 8 then isPrimeI p && decide (p ≠ 2 ∧ n = 0) else false
def widI : Int × Int × Int → Int := fun ((k, p, n) : Int × Int × Int) => if k = 7 then n else if k = 8 then 4 else 1
def widN (r : Int × Int × Int) : Nat := (widI r).toNat
def topI : Int × Int × Int → Int := fun ((k, p, n) : Int × Int × Int) => if k = 1 then 1 else if k = 3 ∨ k = 4 ∨ k = 5 then p else if k = 6 then 2 ^ n.toNat - 1 else p - 1
def inTop (t v : Int) : Bool := decide (0 ≤ v ∧ v ≤ t)
def elOk (r : Int × Int × Int) (x : List Int) : Bool := decide (x.length = widN r) && x.all (inTop (topI r))
def oneE : Int × Int × Int → List Int := fun ((k, p, n) : Int × Int × Int) => setL (repL (widN (k, p, n)) 0) 0 (if k = 4 then 0 else if k = 5 ∨ k = 6 then topI (k, p, n) else 1)
def sm : Nat → (Nat → Int) → Int
  | 0, _ => 0
  | n + 1, f => sm n f + f n
def kW (om : Bool) (x y : Nat → Int) (t i j : Nat) : Int := if i + j = t then x i * y j else if om = true ∧ i + j = t + 4 then -(x i * y j) else 0
def tab (w : Nat) (f : Nat → Int) : List Int := (List.range w).map f
def fnL (x : List Int) : Nat → Int := fun i => x.getD i 0
def cvE (p : Int) (om : Bool) (w : Nat) (x y : Nat → Int) : List Int := tab w fun t => sm w (fun i => sm w (fun j => kW om x y t i j)) % p
def opM : Int × Int × Int → Int → Int → Int := fun ((k, p, n) : Int × Int × Int) a b =>
  if k = 1 ∨ k = 6 then ((a.toNat &&& b.toNat : Nat) : Int) else if k = 2 then a * b % p else if k = 3 then min (a * b) p else if k = 4 then min (a + b) p else min a b
def mulE (r : Int × Int × Int) (x y : List Int) : List Int := if r.1 = 7 ∨ r.1 = 8 then cvE r.2.1 (decide (r.1 = 8)) (widN r) (fnL x) (fnL y) else [opM r (fnL x 0) (fnL y 0)]
theorem ring_cases {k p n : Int} (h : ringOk (k, p, n) = true) : (k = 1 ∧ p = 0 ∧ n = 0) ∨ (k = 2 ∧ isPrimeI p = true ∧ n = 0) ∨ (k = 3 ∧ (1 ≤ p ∧ p ≤ 1000000) ∧ n = 0) ∨ (k = 4 ∧ (1 ≤ p ∧ p ≤ 1000000) ∧ n = 0) ∨ (k = 5 ∧ (1 ≤ p ∧ p ≤ 1000000) ∧ n = 0) ∨
    (k = 6 ∧ p = 0 ∧ 1 ≤ n ∧ n ≤ 20) ∨ (k = 7 ∧ isPrimeI p = true ∧ 1 ≤ n ∧ n ≤ 6) ∨ (k = 8 ∧ isPrimeI p = true ∧ p ≠ 2 ∧ n = 0) := by
  simp only [ringOk] at h
  by_cases h1 : k = 1
  · rw [if_pos h1] at h; exact .inl ⟨h1, by simpa using h⟩
  rw [if_neg h1] at h
  by_cases h2 : k = 2
  · rw [if_pos h2] at h; simp at h; exact .inr (.inl ⟨h2, h⟩)
  rw [if_neg h2] at h
  by_cases h3 : k = 3 ∨ k = 4 ∨ k = 5
  · rw [if_pos h3] at h
    simp only [decide_eq_true_eq] at h
    rcases h3 with h3 | h3 | h3
    · exact .inr (.inr (.inl ⟨h3, h⟩))
    · exact .inr (.inr (.inr (.inl ⟨h3, h⟩)))
    · exact .inr (.inr (.inr (.inr (.inl ⟨h3, h⟩))))
  rw [if_neg h3] at h
  by_cases h4 : k = 6
  · rw [if_pos h4] at h; simp at h; exact .inr (.inr (.inr (.inr (.inr (.inl ⟨h4, h⟩)))))
  rw [if_neg h4] at h
  by_cases h5 : k = 7
  · rw [if_pos h5] at h; simp at h; exact .inr (.inr (.inr (.inr (.inr (.inr (.inl ⟨h5, h⟩))))))
  rw [if_neg h5] at h
  by_cases h6 : k = 8
  · rw [if_pos h6] at h; simp at h; exact .inr (.inr (.inr (.inr (.inr (.inr (.inr ⟨h6, h⟩))))))
  rw [if_neg h6] at h
  cases h

theorem wid_bd {r : Int × Int × Int} (h : ringOk r = true) : widI r = (widN r : Int) ∧ 1 ≤ widN r ∧ widN r ≤ 6 := by
  obtain ⟨k, p, n⟩ := r
  rcases ring_cases h with ⟨rfl, rfl, rfl⟩ | ⟨rfl, hp, rfl⟩ | ⟨rfl, hp, rfl⟩ | ⟨rfl, hp, rfl⟩ | ⟨rfl, hp, rfl⟩ | ⟨rfl, rfl, hn⟩ | ⟨rfl, hp, hn⟩ | ⟨rfl, hp, hp2, rfl⟩
  · simp [widN, widI]
  · simp [widN, widI]
  · simp [widN, widI]
  · simp [widN, widI]
  · simp [widN, widI]
  · simp [widN, widI]
  · simp [widN, widI]; omega
  · simp [widN, widI]

theorem rep_set {w : Nat} {p : Int} (h : w = 1) : setL (repL w (0 : Int)) 0 p = [p] := by subst h; rfl

/-! ### lists by their places -/

theorem tab_len (w : Nat) (f : Nat → Int) : (tab w f).length = w := by simp [tab]
theorem tab_get {w j : Nat} (f : Nat → Int) (h : j < w) : (tab w f)[j]? = some (f j) := by simp [tab, h]
theorem tab_congr {w : Nat} {f g : Nat → Int} (h : ∀ j, j < w → f j = g j) : tab w f = tab w g := List.map_congr_left fun j hj => h j (List.mem_range.1 hj)
theorem tab_set {w : Nat} (f : Nat → Int) (j : Nat) (v : Int) : (tab w f).set j v = tab w (fun i => if i = j then v else f i) := by
  apply List.ext_getElem?
  intro i
  by_cases hi : i < w
  · rw [tab_get _ hi]
    by_cases hj : j = i
    · subst hj
      rw [List.getElem?_set_self (by rw [tab_len]; exact hi), if_pos rfl]
    · rw [List.getElem?_set_ne hj, tab_get _ hi, if_neg (fun e => hj e.symm)]
  · rw [List.getElem?_eq_none (by rw [List.length_set, tab_len]; omega), List.getElem?_eq_none (by rw [tab_len]; omega)]
theorem fnL_get {x : List Int} {j : Nat} (h : j < x.length) : x[j]? = some (fnL x j) := by
  rw [List.getElem?_eq_getElem h]
  simp [fnL, List.getD_eq_getElem?_getD, List.getElem?_eq_getElem h]
theorem fnL_tab {w j : Nat} (f : Nat → Int) (h : j < w) : fnL (tab w f) j = f j := by simp [fnL, List.getD_eq_getElem?_getD, tab_get f h]
theorem tab_fnL {x : List Int} {w : Nat} (h : x.length = w) : tab w (fnL x) = x := by
  subst h
  apply List.ext_getElem?
  intro i
  by_cases hi : i < x.length
  · rw [tab_get _ hi, fnL_get hi]
  · rw [List.getElem?_eq_none (by rw [tab_len]; omega), List.getElem?_eq_none (by omega)]
theorem tab_rep (w : Nat) (c : Int) : repL w c = tab w fun _ => c := by
  apply List.ext_getElem?
  intro i
  by_cases hi : i < w
  · rw [tab_get _ hi]; simp [repL, hi]
  · rw [List.getElem?_eq_none (by simp [repL]; omega), List.getElem?_eq_none (by rw [tab_len]; omega)]
/-! ### elements -/

theorem el_len {r : Int × Int × Int} {x : List Int} (h : elOk r x = true) : x.length = widN r := by
  simp only [elOk, Bool.and_eq_true, decide_eq_true_eq] at h; exact h.1
theorem el_at {r : Int × Int × Int} {x : List Int} (h : elOk r x = true) {j : Nat} (hj : j < widN r) : 0 ≤ fnL x j ∧ fnL x j ≤ topI r := by
  simp only [elOk, Bool.and_eq_true, decide_eq_true_eq] at h
  have := List.all_eq_true.1 h.2 (fnL x j) (List.mem_of_getElem? (fnL_get (by rw [h.1]; exact hj)))
  simpa [inTop] using this
theorem el_one {r : Int × Int × Int} {x : List Int} (h : elOk r x = true) (hw : widN r = 1) : x = [fnL x 0] ∧ 0 ≤ fnL x 0 ∧ fnL x 0 ≤ topI r := by
  have hl := el_len h
  rw [hw] at hl
  match x, hl with
  | [a], _ => exact ⟨rfl, el_at h (j := 0) (by omega)⟩
theorem remI_pos {a p : Int} (ha : 0 ≤ a) (hp : 0 < p) : remI a p = some (a % p) := by
  obtain ⟨m, rfl⟩ := natI_eq (z := p) (by omega)
  exact remI_nat ha (by omega)

/-! ### products of coefficients -/

theorem sm_congr {f g : Nat → Int} : ∀ {n : Nat}, (∀ i, i < n → f i = g i) → sm n f = sm n g
  | 0, _ => rfl
  | n + 1, h => by simp only [sm]; rw [sm_congr (n := n) (fun i hi => h i (by omega)), h n (by omega)]

/-- What is asked of a ring of coefficients. -/
structure CfR (k p : Int) (w : Nat) : Prop where
  ck : k = 7 ∨ k = 8
  cp : 2 ≤ p ∧ p ≤ 1000003
  cw : 1 ≤ w ∧ w ≤ 6
  w8 : k = 8 → w = 4

theorem cf_of {k p n : Int} (h : ringOk (k, p, n) = true) (hk : k = 7 ∨ k = 8) : CfR k p (widN (k, p, n)) := by
  have hw := wid_bd h
  refine ⟨hk, ?_, hw.2, fun e => by subst e; rfl⟩
  rcases ring_cases h with ⟨rfl, rfl, rfl⟩ | ⟨rfl, hp, rfl⟩ | ⟨rfl, hp, rfl⟩ | ⟨rfl, hp, rfl⟩ | ⟨rfl, hp, rfl⟩ | ⟨rfl, rfl, hn⟩ | ⟨rfl, hp, hn⟩ | ⟨rfl, hp, hp2, rfl⟩
  all_goals first | exact isPrimeI_t hp | (exfalso; omega)

theorem mulE_1 {r : Int × Int × Int} {a b : Int} (h : ¬ (r.1 = 7 ∨ r.1 = 8)) : mulE r [a] [b] = [opM r a b] := by simp only [mulE]; rw [if_neg h]; rfl

theorem el_two {r : Int × Int × Int} {x y : List Int} (hx : elOk r x = true) (hy : elOk r y = true) (hw : widN r = 1) : ∃ a b, x = [a] ∧ y = [b] ∧ (0 ≤ a ∧ a ≤ topI r) ∧ 0 ≤ b ∧ b ≤ topI r :=
  ⟨_, _, (el_one hx hw).1, (el_one hy hw).1, (el_one hx hw).2, (el_one hy hw).2⟩

/-! ### elements stay elements -/

theorem oneE_tab (k p n : Int) : oneE (k, p, n) = tab (widN (k, p, n)) fun j => if j = 0 then (if k = 4 then 0 else if k = 5 ∨ k = 6 then topI (k, p, n) else 1) else 0 := by
  simp only [oneE]
  rw [tab_rep]
  exact tab_set _ 0 _
end Go.Am
end
section
namespace Go.Am
def newOk (x : Int × Int) : Prop := (0 ≤ x.1 ∧ x.1 ≤ 4096) ∧ (0 ≤ x.2 ∧ x.2 ≤ 4096) ∧ x.1 * x.2 ≤ 1048576
instance (x : Int × Int) : Decidable (newOk x) := by unfold newOk; infer_instance
def F_spec_l31New : Int × Int → Option (Int × Int × List Int) := fun (x : Int × Int) => if newOk x then some (x.1, x.2, genD x.1.toNat x.2.toNat fun _ _ => 0) else none
def F_impl_emptyMatrix : Int × Int → Option (Int × Int × List Int) := fun (x : Int × Int) => if newOk x then some (x.1, x.2, genD x.1.toNat x.2.toNat fun _ _ => 0) else none
def F_impl_Matrix_at : (Int × Int × List Int) × Int × Int → Option Int := fun (x : (Int × Int × List Int) × Int × Int) =>
  if mOk x.1 ∧ (0 ≤ x.2.1 ∧ x.2.1 < x.1.1) ∧ (0 ≤ x.2.2 ∧ x.2.2 < x.1.2.1) then some (ofD x.1.2.1.toNat x.1.2.2 x.2.1.toNat x.2.2.toNat) else none
def F_impl_Matrix_set : (Int × Int × List Int) × Int × Int × Int → Option (List Int) := fun (x : (Int × Int × List Int) × Int × Int × Int) =>
  if mOk x.1 ∧ (0 ≤ x.2.1 ∧ x.2.1 < x.1.1) ∧ (0 ≤ x.2.2.1 ∧ x.2.2.1 < x.1.2.1) then some (genD x.1.1.toNat x.1.2.1.toNat (updM (ofD x.1.2.1.toNat x.1.2.2) x.2.1.toNat x.2.2.1.toNat x.2.2.2)) else none
def swapF (M : Nat → Nat → Int) (a b : Nat) : Nat → Nat → Int := fun i j => if i = a then M b j else if i = b then M a j else M i j
def pivF (M : Nat → Nat → Int) (j : Nat) : Nat → Nat → Option Nat
  | 0, _ => none
  | d + 1, k => if M k j = 0 then pivF M j d (k + 1) else some k
def invG (p out x : Int) (n : Nat) : Int := if h : n = 0 then out else invG p (if n % 2 = 1 then out * x % p else out) (x * x % p) (n / 2)
termination_by n
decreasing_by omega
def F_impl_copyInts : List Int → Option (List Int) := fun (l : List Int) => if l.length ≤ 1099511627776 then some l else none
def mulOk (x : Int × (Int × Int × List Int) × (Int × Int × List Int)) : Prop := pOk x.1 ∧ mOk x.2.1 ∧ mOk x.2.2 ∧ x.2.1.2.1 = x.2.2.1 ∧ x.2.1.1 * x.2.2.2.1 ≤ 1048576 ∧ allP x.1 x.2.1.2.2 ∧ allP x.1 x.2.2.2.2
instance (x : Int × (Int × Int × List Int) × (Int × Int × List Int)) : Decidable (mulOk x) := by unfold mulOk; infer_instance
def F_spec_l31Mul : Int × (Int × Int × List Int) × (Int × Int × List Int) → Option (Int × Int × List Int) := fun (x : Int × (Int × Int × List Int) × (Int × Int × List Int)) =>
  if mulOk x then some (x.2.1.1, x.2.2.2.1, genD x.2.1.1.toNat x.2.2.2.1.toNat (mulF x.1 x.2.1.2.1.toNat (ofD x.2.1.2.1.toNat x.2.1.2.2) (ofD x.2.2.2.1.toNat x.2.2.2.2))) else none
def F_impl_rawMulMatrix : Int × (Int × Int × List Int) × (Int × Int × List Int) → Option (Int × Int × List Int) := F_spec_l31Mul
def ag_spec_l31New : Sig := [(.one, [.int .i64]), (.one, [.int .i64])]
def rs_spec_l31New : Sig := [(.agg, [.int .i64, .int .i64, .list [.int .i64]])]
def mu_spec_l31New : MSig := []
def ag_impl_emptyMatrix : Sig := [(.one, [.int .i64]), (.one, [.int .i64])]
def rs_impl_emptyMatrix : Sig := [(.agg, [.int .i64, .int .i64, .list [.int .i64]])]
def mu_impl_emptyMatrix : MSig := []
def ag_impl_copyInts : Sig := [(.one, [.list [.int .i64]])]
def rs_impl_copyInts : Sig := [(.one, [.list [.int .i64]])]
def mu_impl_copyInts : MSig := []
def ag_impl_Matrix_at : Sig := [(.agg, [.int .i64, .int .i64, .list [.int .i64]]), (.one, [.int .i64]), (.one, [.int .i64])]
def rs_impl_Matrix_at : Sig := [(.one, [.int .i64])]
def mu_impl_Matrix_at : MSig := []
def ag_impl_Matrix_set : Sig := [(.agg, [.int .i64, .int .i64, .list [.int .i64]]), (.one, [.int .i64]), (.one, [.int .i64]), (.one, [.int .i64])]
def rs_impl_Matrix_set : Sig := [(.one, [.list [.int .i64]])]
def mu_impl_Matrix_set : MSig := [[none, none, some .froz]]
def ag_impl_rawMulMatrix : Sig := [(.one, [.int .i64]), (.agg, [.int .i64, .int .i64, .list [.int .i64]]), (.agg, [.int .i64, .int .i64, .list [.int .i64]])]
def rs_impl_rawMulMatrix : Sig := [(.agg, [.int .i64, .int .i64, .list [.int .i64]])]
def mu_impl_rawMulMatrix : MSig := []

def G_spec_l31New (NN : Nat) : (Int × Int) → (Option (Int × (Int × (List Int)))) :=
 (fun ((i0, i1) : (Int × Int)) =>
 (mkI (mulI .i64 i0 i1) (mulI .i64 i0 i1) 8).bnd (fun k2 =>
 (takI (repL k2 (0 : Int)) k2).bnd (fun l3 =>
 some (i0, i1, l3))))

def G_impl_emptyMatrix (NN : Nat) : (Int × Int) → (Option (Int × (Int × (List Int)))) :=
 (fun ((i0, i1) : (Int × Int)) =>
 (mkI (mulI .i64 i0 i1) (mulI .i64 i0 i1) 8).bnd (fun k2 =>
 (takI (repL k2 (0 : Int)) k2).bnd (fun l3 =>
 some (i0, i1, l3))))

def G_impl_copyInts (NN : Nat) : (List Int) → (Option (List Int)) :=
 (fun (l0 : (List Int)) =>
 (fitI (addN (lenN (([] : List Int))) (lenN l0)) 8).bnd (fun _ =>
 (takI (appL (([] : List Int)) l0) (addN (lenN (([] : List Int))) (lenN l0))).bnd (fun l1 =>
 some l1)))

def G_impl_Matrix_at (NN : Nat) : ((Int × (Int × (List Int))) × (Int × Int)) → (Option Int) :=
 (fun (((i0, i1, l2), i3, i4) : ((Int × (Int × (List Int))) × (Int × Int))) =>
 (getI l2 (addI .i64 (mulI .i64 i3 i1) i4)).bnd (fun i5 =>
 some i5))

def G_impl_Matrix_set (NN : Nat) : ((Int × (Int × (List Int))) × (Int × (Int × Int))) → (Option (List Int)) :=
 (fun (((i0, i1, l2), i3, i4, i5) : ((Int × (Int × (List Int))) × (Int × (Int × Int)))) =>
 (chkI (addI .i64 (mulI .i64 i3 i1) i4) (lenN l2)).bnd (fun k6 =>
 (getN l2 (addN 0 k6)).bnd (fun i7 =>
 (samI (lenN (setL l2 (addN 0 k6) i5)) (lenN l2)).bnd (fun _ =>
 some (setL l2 (addN 0 k6) i5)))))

def G_impl_rawMulMatrix (NN : Nat) : (Int × ((Int × (Int × (List Int))) × (Int × (Int × (List Int))))) → (Option (Int × (Int × (List Int)))) :=
 (fun ((i0, (i1, i2, l3), i4, i5, l6) : (Int × ((Int × (Int × (List Int))) × (Int × (Int × (List Int)))))) =>
 (F_impl_emptyMatrix (i1, i5)).bnd (fun (i7, i8, l9) =>
 joinK ((fulI 0 0 (lenN (([] : List Int)))).bnd (fun _ =>
 (fulI 0 (lenN l9) (lenN l9)).bnd (fun _ =>
 loopT NN (fun (((i10, i11), (i12, i13, l14), (i15, i16, l17), (i18, i19), (i20, i21), l22, l23) : ((Int × Int) × ((Int × (Int × (List Int))) × ((Int × (Int × (List Int))) × ((Int × Int) × ((Int × Int) × ((List Int) × (List Int)))))))) =>
 cnd (ltI i11 i12)
 (joinK ((fulI 0 (lenN l22) (lenN l22)).bnd (fun _ =>
 (fulI 0 (lenN l23) (lenN l23)).bnd (fun _ =>
 loopT NN (fun (((i24, i25, i26), (i27, i28, l29), (i30, i31, l32), (i33, i34), (i35, i36), l37, l38) : ((Int × (Int × Int)) × ((Int × (Int × (List Int))) × ((Int × (Int × (List Int))) × ((Int × Int) × ((Int × Int) × ((List Int) × (List Int)))))))) =>
 cnd (ltI i26 i31)
 (joinK (joinK ((fulI 0 (lenN l37) (lenN l37)).bnd (fun _ =>
 (fulI 0 (lenN l38) (lenN l38)).bnd (fun _ =>
 loopT NN (fun (((i39, i40, i41, i42, i43), (i44, i45, l46), (i47, i48, l49), (i50, i51), (i52, i53), l54, l55) : ((Int × (Int × (Int × (Int × Int)))) × ((Int × (Int × (List Int))) × ((Int × (Int × (List Int))) × ((Int × Int) × ((Int × Int) × ((List Int) × (List Int)))))))) =>
 cnd (ltI i43 i45)
 ((F_impl_Matrix_at ((i44, i45, l46), i40, i43)).bnd (fun i56 =>
 (F_impl_Matrix_at ((i47, i48, l49), i43, i41)).bnd (fun i57 =>
 (remI (addI .i64 i42 (mulI .i64 i56 i57)) i39).bnd (fun i58 =>
 (fulI 0 (lenN l54) (lenN l54)).bnd (fun _ =>
 (fulI 0 (lenN l55) (lenN l55)).bnd (fun _ =>
 some (Sum.inl ((i39, i40, i41, i58, addI .i64 i43 1), (i44, i45, l46), (i47, i48, l49), (i50, i51), (i52, i53), l54, l55))))))))
 (((fulI 0 (lenN l54) (lenN l54)).bnd (fun _ =>
 (fulI 0 (lenN l55) (lenN l55)).bnd (fun _ =>
 some (Sum.inl ((i42, i41, i39, i40), (i44, i45, l46), (i47, i48, l49), (i50, i51), (i52, i53), l54, l55))))).bnd (fun l59 =>
 some (Sum.inr l59))))
 ((i24, i25, i26, (0 : Int), (0 : Int)), (i27, i28, l29), (i30, i31, l32), (i33, i34), (i35, i36), l37, l38))))
 (fun ((i60, i61, i62, i63), (i64, i65, l66), (i67, i68, l69), (i70, i71), (i72, i73), l74, l75) =>
 (fulI 0 (lenN l75) (lenN l75)).bnd (fun _ =>
 (F_impl_Matrix_set ((i72, i73, l75), i63, i61, i60)).bnd (fun l76 =>
 (fulI 0 (lenN l74) (lenN l74)).bnd (fun _ =>
 (fulI 0 (lenN l75) (lenN l76)).bnd (fun _ =>
 some (Sum.inl ((i61, i62, i63), (i64, i65, l66), (i67, i68, l69), (i70, i71), (i72, i73), l74, l76))))))))
 (fun ((i77, i78, i79), (i80, i81, l82), (i83, i84, l85), (i86, i87), (i88, i89), l90, l91) =>
 (fulI 0 (lenN l90) (lenN l90)).bnd (fun _ =>
 (fulI 0 (lenN l91) (lenN l91)).bnd (fun _ =>
 some (Sum.inl ((i78, i79, addI .i64 i77 1), (i80, i81, l82), (i83, i84, l85), (i86, i87), (i88, i89), l90, l91))))))
 (((fulI 0 (lenN l37) (lenN l37)).bnd (fun _ =>
 (fulI 0 (lenN l38) (lenN l38)).bnd (fun _ =>
 some (Sum.inl ((i25, i24), (i27, i28, l29), (i30, i31, l32), (i33, i34), (i35, i36), l37, l38))))).bnd (fun l92 =>
 some (Sum.inr l92))))
 ((i10, i11, (0 : Int)), (i12, i13, l14), (i15, i16, l17), (i18, i19), (i20, i21), l22, l23))))
 (fun ((i93, i94), (i95, i96, l97), (i98, i99, l100), (i101, i102), (i103, i104), l105, l106) =>
 (fulI 0 (lenN l105) (lenN l105)).bnd (fun _ =>
 (fulI 0 (lenN l106) (lenN l106)).bnd (fun _ =>
 some (Sum.inl ((i94, addI .i64 i93 1), (i95, i96, l97), (i98, i99, l100), (i101, i102), (i103, i104), l105, l106))))))
 (((fulI 0 (lenN l22) (lenN l22)).bnd (fun _ =>
 (fulI 0 (lenN l23) (lenN l23)).bnd (fun _ =>
 some (Sum.inl ((i18, i19), (i20, i21), l22, l23))))).bnd (fun l107 =>
 some (Sum.inr l107))))
 ((i0, (0 : Int)), (i1, i2, l3), (i4, i5, l6), ((0 : Int), (0 : Int)), (i7, i8), ([] : List Int), l9))))
 (fun ((i108, i109), (i110, i111), l112, l113) =>
 (takI l113 (lenN l113)).bnd (fun l114 =>
 some (i110, i111, l114)))))


theorem newOk_nat {r c : Nat} (hr : r ≤ 4096) (hc : c ≤ 4096) (h : r * c ≤ 1048576) : newOk ((r : Int), (c : Int)) := by
  refine ⟨⟨by omega, by show (r : Int) ≤ 4096; omega⟩, ⟨by show (0 : Int) ≤ c; omega, by show (c : Int) ≤ 4096; omega⟩, ?_⟩
  show (r : Int) * (c : Int) ≤ 1048576
  have e : (r : Int) * (c : Int) = ((r * c : Nat) : Int) := by norm_cast
  omega
theorem newOk_gen {x : Int × Int} (h : newOk x) : ∃ r c : Nat, x = ((r : Int), (c : Int)) ∧ r ≤ 4096 ∧ c ≤ 4096 ∧ r * c ≤ 1048576 := by
  obtain ⟨r, c⟩ := x
  obtain ⟨h1, h2, h3⟩ := h
  simp only at h1 h2 h3
  obtain ⟨r, rfl⟩ := natI_eq h1.1
  obtain ⟨c, rfl⟩ := natI_eq h2.1
  have e : (r : Int) * (c : Int) = ((r * c : Nat) : Int) := by norm_cast
  exact ⟨r, c, rfl, by omega, by omega, by omega⟩
theorem new_nat {r c : Nat} (hr : r ≤ 4096) (hc : c ≤ 4096) (h : r * c ≤ 1048576) : F_spec_l31New ((r : Int), (c : Int)) = some ((r : Int), (c : Int), genD r c fun _ _ => 0) := by
  simp only [F_spec_l31New, Int.toNat_natCast]
  rw [if_pos (newOk_nat hr hc h)]

theorem newI_nat {r c : Nat} (hr : r ≤ 4096) (hc : c ≤ 4096) (h : r * c ≤ 1048576) : F_impl_emptyMatrix ((r : Int), (c : Int)) = some ((r : Int), (c : Int), genD r c fun _ _ => 0) := new_nat hr hc h

theorem g_new {r c : Nat} (hr : r ≤ 4096) (hc : c ≤ 4096) (h : r * c ≤ 1048576) : G_spec_l31New FUEL ((r : Int), (c : Int)) = some ((r : Int), (c : Int), genD r c fun _ _ => 0) := by
  simp only [G_spec_l31New]
  rw [mulN (by omega) (by omega)]
  have := mkI_nat (n := r * c) (by_ := 8) (by unfold maxBytes; omega)
  rw [show ((r * c : Nat) : Int) = natI (r * c) from rfl, this, bnd_s, genD_rep]
  rw [show takI (genD r c fun _ _ => 0) (r * c) = some (genD r c fun _ _ => 0) by
    have := takI_id (genD r c fun _ _ => (0 : Int))
    rwa [lenN_gen] at this]
  rfl
theorem f_spec_l31New (x : Int × Int) (y : Int × Int × List Int) (h : F_spec_l31New x = some y) : G_spec_l31New FUEL x = some y := by
  simp only [F_spec_l31New] at h
  split at h
  · rename_i hc
    obtain ⟨r, c, rfl, h1, h2, h3⟩ := newOk_gen hc
    rw [← h, g_new h1 h2 h3]; rfl
  · cases h
theorem f_impl_emptyMatrix (x : Int × Int) (y : Int × Int × List Int) (h : F_impl_emptyMatrix x = some y) : G_impl_emptyMatrix FUEL x = some y := f_spec_l31New x y h

theorem f_impl_copyInts (x y : List Int) (h : F_impl_copyInts x = some y) : G_impl_copyInts FUEL x = some y := by
  simp only [F_impl_copyInts] at h
  split at h
  · rename_i hl
    rw [← h]
    simp only [G_impl_copyInts]
    rw [fitI_ok (by simp only [addN, lenN, List.length_nil, maxBytes]; omega), bnd_s]
    have : appL [] x = x := rfl
    rw [this, show addN (lenN ([] : List Int)) (lenN x) = lenN x by simp [addN, lenN], takI_id]
    rfl
  · cases h
theorem natP {a b : Int} (h : 0 ≤ a ∧ a < b) : ∃ n : Nat, a = (n : Int) ∧ ∀ m : Nat, b = (m : Int) → n < m := ⟨a.toNat, by omega, fun m hm => by omega⟩
theorem g_at {r c i j : Nat} {M : Nat → Nat → Int} (hr : r ≤ 4096) (hc : c ≤ 4096) (hi : i < r) (hj : j < c) : G_impl_Matrix_at FUEL (((r : Int), (c : Int), genD r c M), (i : Int), (j : Int)) = some (M i j) := by
  simp only [G_impl_Matrix_at]
  rw [idxI (by omega) (by omega) (by omega), getI_gen M hi hj]; rfl
theorem at_nat {r c i j : Nat} {M : Nat → Nat → Int} (hr : r ≤ 4096) (hc : c ≤ 4096) (h : r * c ≤ 1048576) (hi : i < r) (hj : j < c) : F_impl_Matrix_at (((r : Int), (c : Int), genD r c M), (i : Int), (j : Int)) = some (M i j) := by
  simp only [F_impl_Matrix_at, Int.toNat_natCast]
  rw [if_pos ⟨mOk_mk M hr hc h, by omega, by omega⟩]
  rw [ofD_gen M hi hj]
theorem f_impl_Matrix_at (x : (Int × Int × List Int) × Int × Int) (y : Int) (h : F_impl_Matrix_at x = some y) : G_impl_Matrix_at FUEL x = some y := by
  obtain ⟨m, i, j⟩ := x
  simp only [F_impl_Matrix_at] at h
  split at h
  · rename_i hc
    obtain ⟨h1, h2, h3⟩ := hc
    obtain ⟨r, c, M, rfl, hr, hc, hrc⟩ := mOk_gen h1
    obtain ⟨i, rfl, hi⟩ := natP h2
    obtain ⟨j, rfl, hj⟩ := natP h3
    have hi := hi r rfl; have hj := hj c rfl
    rw [← h, g_at hr hc hi hj]
    exact congrArg some (ofD_gen M hi hj).symm
  · cases h

theorem g_set {r c i j : Nat} {M : Nat → Nat → Int} {x : Int} (hr : r ≤ 4096) (hc : c ≤ 4096) (hi : i < r) (hj : j < c) : G_impl_Matrix_set FUEL (((r : Int), (c : Int), genD r c M), (i : Int), (j : Int), x) = some (genD r c (updM M i j x)) := by
  simp only [G_impl_Matrix_set]
  rw [idxI (by omega) (by omega) (by omega), chkI_gen M hi hj, bnd_s, addN_0, getN_gen M hi hj, bnd_s, setL_gen M hj, samI_gen, bnd_s]
theorem set_nat {r c i j : Nat} {M : Nat → Nat → Int} {x : Int} (hr : r ≤ 4096) (hc : c ≤ 4096) (h : r * c ≤ 1048576) (hi : i < r) (hj : j < c) : F_impl_Matrix_set (((r : Int), (c : Int), genD r c M), (i : Int), (j : Int), x) = some (genD r c (updM M i j x)) := by
  simp only [F_impl_Matrix_set, Int.toNat_natCast]
  rw [if_pos ⟨mOk_mk M hr hc h, by omega, by omega⟩]
  refine (congrArg some (genD_congr fun a ha b hb => ?_))
  unfold updM
  rw [ofD_gen M ha hb]
theorem f_impl_Matrix_set (x : (Int × Int × List Int) × Int × Int × Int) (y : List Int) (h : F_impl_Matrix_set x = some y) : G_impl_Matrix_set FUEL x = some y := by
  obtain ⟨m, i, j, v⟩ := x
  have h0 := h
  simp only [F_impl_Matrix_set] at h
  split at h
  · rename_i hc
    obtain ⟨h1, h2, h3⟩ := hc
    obtain ⟨r, c, M, rfl, hr, hc, hrc⟩ := mOk_gen h1
    obtain ⟨i, rfl, hi⟩ := natP h2
    obtain ⟨j, rfl, hj⟩ := natP h3
    have hi := hi r rfl; have hj := hj c rfl
    rw [← h0, g_set hr hc hi hj, set_nat hr hc hrc hi hj]
  · cases h

/-! ### rows -/

/-! ### pivots, inverses -/

theorem pivF_lt {M : Nat → Nat → Int} {j q : Nat} : ∀ {d k : Nat}, pivF M j d k = some q → k ≤ q ∧ q < k + d ∧ M q j ≠ 0
  | 0, k, h => by cases h
  | d + 1, k, h => by
    simp only [pivF] at h
    split at h
    · have := pivF_lt h
      exact ⟨by omega, by omega, this.2.2⟩
    · rename_i h0
      injection h with h
      subst h
      exact ⟨by omega, by omega, h0⟩

theorem invG_0 (p out x : Int) : invG p out x 0 = out := by rw [invG]; rfl
theorem invG_s {n : Nat} (h : n ≠ 0) (p out x : Int) : invG p out x n = invG p (if n % 2 = 1 then out * x % p else out) (x * x % p) (n / 2) := by
  rw [invG, dif_neg h]
/-! ### transposed -/

/-! ### products -/

def mulTo (W : Nat → Nat → Int) (i j : Nat) : Nat → Nat → Int := fun a b => if a < i ∨ a = i ∧ b < j then W a b else 0
theorem mul_step {r c : Nat} (W : Nat → Nat → Int) (i j : Nat) : genD r c (updM (mulTo W i j) i j (W i j)) = genD r c (mulTo W i (j + 1)) := by
  refine genD_congr fun a _ b _ => ?_
  unfold updM mulTo
  by_cases h : a = i ∧ b = j
  · obtain ⟨rfl, rfl⟩ := h
    simp
  · rw [if_neg h]
    by_cases h1 : a < i ∨ a = i ∧ b < j
    · simp only [if_pos h1, if_pos (show a < i ∨ a = i ∧ b < j + 1 by omega)]
    · simp only [if_neg h1, if_neg (show ¬ (a < i ∨ a = i ∧ b < j + 1) by omega)]
theorem mul_row {r c : Nat} (W : Nat → Nat → Int) (i : Nat) : genD r c (mulTo W i c) = genD r c (mulTo W (i + 1) 0) := by
  refine genD_congr fun a _ b hb => ?_
  unfold mulTo
  by_cases h1 : a < i ∨ a = i ∧ b < c
  · simp only [if_pos h1, if_pos (show a < i + 1 ∨ a = i + 1 ∧ b < 0 by omega)]
  · simp only [if_neg h1, if_neg (show ¬ (a < i + 1 ∨ a = i + 1 ∧ b < 0) by omega)]
theorem mul_end {r c : Nat} (W : Nat → Nat → Int) : genD r c (mulTo W r 0) = genD r c W := genD_congr fun a ha b hb => if_pos (.inl ha)
theorem mul_0 {r c : Nat} (W : Nat → Nat → Int) : genD r c (mulTo W 0 0) = genD r c fun _ _ => 0 := genD_congr fun a ha b hb => if_neg (by omega)

theorem mulF_congr {p : Int} {k : Nat} {A A' B B' : Nat → Nat → Int} {i j : Nat} (hA : ∀ t, t < k → A i t = A' i t) (hB : ∀ t, t < k → B t j = B' t j) : mulF p k A B i j = mulF p k A' B' i j := by
  unfold mulF
  have : ∀ n, n ≤ k → dotF p (fun t => A i t) (fun t => B t j) n = dotF p (fun t => A' i t) (fun t => B' t j) n := by
    intro n
    induction n with
    | zero => intro _; rfl
    | succ n ih =>
      intro hn
      simp only [dotF]
      rw [ih (by omega), hA n (by omega), hB n (by omega)]
  exact this k (Nat.le_refl k)
theorem mulF_in {p : Int} (hp : pOk p) (r c k : Nat) (A B : Nat → Nat → Int) : inM p r c (mulF p k A B) := fun i _ j _ => dotF_in hp _ _ k

theorem mulOk_gen {x : Int × (Int × Int × List Int) × (Int × Int × List Int)} (h : mulOk x) : ∃ (p : Int) (r k c : Nat) (A B : Nat → Nat → Int), x = (p, ((r : Int), (k : Int), genD r k A), ((k : Int), (c : Int), genD k c B)) ∧ pOk p ∧
    r ≤ 4096 ∧ k ≤ 4096 ∧ c ≤ 4096 ∧ r * k ≤ 1048576 ∧ k * c ≤ 1048576 ∧ r * c ≤ 1048576 ∧ inM p r k A ∧ inM p k c B := by
  obtain ⟨p, a, b⟩ := x
  obtain ⟨hp, ha, hb, hk, hrc, h1, h2⟩ := h
  obtain ⟨r, k, A, rfl, q1, q2, q3⟩ := mOk_gen ha
  obtain ⟨k', c, B, rfl, q4, q5, q6⟩ := mOk_gen hb
  simp only at hk hrc h1 h2
  have : k' = k := by omega
  subst this
  have e : (r : Int) * (c : Int) = ((r * c : Nat) : Int) := by norm_cast
  exact ⟨p, r, k', c, A, B, rfl, hp, q1, q2, q5, q3, q6, by omega, allP_gen.1 h1, allP_gen.1 h2⟩
theorem mulOk_mk {p : Int} {r k c : Nat} {A B : Nat → Nat → Int} (hp : pOk p) (hr : r ≤ 4096) (hk : k ≤ 4096) (hc : c ≤ 4096) (h1 : r * k ≤ 1048576) (h2 : k * c ≤ 1048576) (h3 : r * c ≤ 1048576) (hA : inM p r k A) (hB : inM p k c B) :
    mulOk (p, ((r : Int), (k : Int), genD r k A), ((k : Int), (c : Int), genD k c B)) := by
  refine ⟨hp, mOk_mk A hr hk h1, mOk_mk B hk hc h2, rfl, ?_, allP_gen.2 hA, allP_gen.2 hB⟩
  show (r : Int) * (c : Int) ≤ 1048576
  have e : (r : Int) * (c : Int) = ((r * c : Nat) : Int) := by norm_cast
  omega
theorem mulS_nat {p : Int} {r k c : Nat} {A B : Nat → Nat → Int} (hp : pOk p) (hr : r ≤ 4096) (hk : k ≤ 4096) (hc : c ≤ 4096) (h1 : r * k ≤ 1048576) (h2 : k * c ≤ 1048576) (h3 : r * c ≤ 1048576) (hA : inM p r k A) (hB : inM p k c B) :
    F_spec_l31Mul (p, ((r : Int), (k : Int), genD r k A), ((k : Int), (c : Int), genD k c B)) = some ((r : Int), (c : Int), genD r c (mulF p k A B)) := by
  simp only [F_spec_l31Mul, Int.toNat_natCast]
  rw [if_pos (mulOk_mk hp hr hk hc h1 h2 h3 hA hB)]
  exact congrArg (fun l => some ((r : Int), (c : Int), l)) (genD_congr fun i hi j hj => mulF_congr (fun t ht => ofD_gen A hi ht) (fun t ht => ofD_gen B ht hj))

theorem g_mulI {p : Int} {r k c : Nat} {A B : Nat → Nat → Int} (hp : pOk p) (hr : r ≤ 4096) (hk : k ≤ 4096) (hc : c ≤ 4096) (h1 : r * k ≤ 1048576) (h2 : k * c ≤ 1048576) (h3 : r * c ≤ 1048576) (hA : inM p r k A) (hB : inM p k c B) :
    G_impl_rawMulMatrix FUEL (p, ((r : Int), (k : Int), genD r k A), ((k : Int), (c : Int), genD k c B)) = some ((r : Int), (c : Int), genD r c (mulF p k A B)) := by
  simp only [G_impl_rawMulMatrix, newI_nat hr hc h3, bnd_s, fulI_id]
  rw [show fulI 0 0 (lenN ([] : List Int)) = some () from rfl, bnd_s]
  rw [loopT_seq (r := Sum.inl (((0 : Int), (0 : Int)), ((r : Int), (c : Int)), ([] : List Int), genD r c (mulF p k A B))) (fun i => ((p, (i : Int)), ((r : Int), (k : Int), genD r k A), ((k : Int), (c : Int), genD k c B), ((0 : Int), (0 : Int)), ((r : Int), (c : Int)), ([] : List Int), genD r c (mulTo (mulF p k A B) i 0))) r ?_ ?_ ?_ (FUEL_gt (by omega))]
  · rw [joinK_l]; simp only [takI_id, bnd_s]
  · intro i hi
    simp only
    rw [cnd_t (ltN_t hi)]
    rw [loopT_seq (r := Sum.inl (((i : Int), p), ((r : Int), (k : Int), genD r k A), ((k : Int), (c : Int), genD k c B), ((0 : Int), (0 : Int)), ((r : Int), (c : Int)), ([] : List Int), genD r c (mulTo (mulF p k A B) (i + 1) 0))) (fun j => ((p, (i : Int), (j : Int)), ((r : Int), (k : Int), genD r k A), ((k : Int), (c : Int), genD k c B), ((0 : Int), (0 : Int)), ((r : Int), (c : Int)), ([] : List Int), genD r c (mulTo (mulF p k A B) i j))) c ?_ ?_ ?_ (FUEL_gt (by omega))]
    · rw [joinK_l]; simp only [addN1 (show i ≤ 1048577 by omega)]
    · intro j hj
      simp only
      rw [cnd_t (ltN_t hj)]
      rw [loopT_seq (r := Sum.inl ((mulF p k A B i j, (j : Int), p, (i : Int)), ((r : Int), (k : Int), genD r k A), ((k : Int), (c : Int), genD k c B), ((0 : Int), (0 : Int)), ((r : Int), (c : Int)), ([] : List Int), genD r c (mulTo (mulF p k A B) i j))) (fun t => ((p, (i : Int), (j : Int), dotF p (fun t => A i t) (fun t => B t j) t, (t : Int)), ((r : Int), (k : Int), genD r k A), ((k : Int), (c : Int), genD k c B), ((0 : Int), (0 : Int)), ((r : Int), (c : Int)), ([] : List Int), genD r c (mulTo (mulF p k A B) i j))) k ?_ ?_ ?_ (FUEL_gt (by omega))]
      · rw [joinK_l]
        simp only [set_nat hr hc h3 hi hj, bnd_s, fulI_gen, mul_step (r := r) (c := c)]
        rw [joinK_l]
        simp only [addN1 (show j ≤ 1048577 by omega)]
      · intro t ht
        simp only
        rw [cnd_t (ltN_t ht), at_nat hr hk h1 hi ht, bnd_s, at_nat hk hc h2 ht hj, bnd_s, macI hp ((dotF_in hp _ _ t).s hp) (hA i hi t ht).le (hB t ht j hj).le, bnd_s]
        simp only [addN1 (show t ≤ 1048577 by omega), dotF]
      · simp only
        rw [cnd_f (ltN_f (Nat.le_refl k))]
        rfl
      · rfl
    · simp only
      rw [cnd_f (ltN_f (Nat.le_refl c)), mul_row]
    · rfl
  · simp only
    rw [cnd_f (ltN_f (Nat.le_refl r)), mul_end]
  · rw [mul_0]; rfl
theorem f_impl_rawMulMatrix (x : Int × (Int × Int × List Int) × (Int × Int × List Int)) (y : Int × Int × List Int) (h : F_impl_rawMulMatrix x = some y) : G_impl_rawMulMatrix FUEL x = some y := by
  have h0 : F_spec_l31Mul x = some y := h
  simp only [F_impl_rawMulMatrix, F_spec_l31Mul] at h
  split at h
  · rename_i hc
    obtain ⟨p, r, k, c, A, B, rfl, hp, hr, hk, hc, h1, h2, h3, hA, hB⟩ := mulOk_gen hc
    rw [← h0, g_mulI hp hr hk hc h1 h2 h3 hA hB, mulS_nat hp hr hk hc h1 h2 h3 hA hB]
  · cases h
end Go.Am
end
section
namespace Go.Am
/-! ### transposes, products and swaps of good matrices -/

def sopOk (x : Int × Int × Int) : Prop := isPrimeI x.1 = true ∧ (1 ≤ x.2.1 ∧ x.2.1 ≤ 8) ∧ (1 ≤ x.2.2 ∧ x.2.2 ≤ 8)
instance (x : Int × Int × Int) : Decidable (sopOk x) := by unfold sopOk; infer_instance
theorem inM_of {p : Int} {r c : Nat} {l : List Int} (h : l.length = r * c) (hr : rowOk p l = true) : inM p r c (ofD c l) := by
  apply allP_gen.1
  rw [genD_of h]
  intro x hx
  have := List.all_eq_true.1 hr x hx
  exact of_decide_eq_true this
theorem matOk_nat {m : Int} {x : Int × Int × List Int} (h : matOk m x = true) : ∃ (r c : Nat) (M : Nat → Nat → Int), x = ((r : Int), (c : Int), genD r c M) ∧ pOk m ∧ r ≤ 64 ∧ c ≤ 64 ∧ r * c ≤ 4096 ∧ inM m r c M := by
  obtain ⟨r, c, l⟩ := x
  simp only [matOk, Bool.and_eq_true, decide_eq_true_eq] at h
  obtain ⟨h1, h2, h3, h4, h5⟩ := h
  obtain ⟨r, rfl⟩ := natI_eq (z := r) (by omega)
  obtain ⟨c, rfl⟩ := natI_eq (z := c) (by omega)
  have hl : l.length = r * c := by
    have e : (r : Int) * (c : Int) = ((r * c : Nat) : Int) := by norm_cast
    omega
  have hrc : r * c ≤ 64 * 64 := Nat.mul_le_mul (by omega) (by omega)
  exact ⟨r, c, ofD c l, by rw [genD_of hl], isPrimeI_t h1, by omega, by omega, by omega, inM_of hl h5⟩

/-! ### the swap operator -/

theorem addNN {x y : Nat} (h : x + y ≤ 1099511627776) : addI .i64 (x : Int) (y : Int) = ((x + y : Nat) : Int) := by
  rw [addI_eq (by omega) (by omega)]
  omega
end Go.Am
end
section
namespace Go.Am
/-! ### reduced forms -/

abbrev Mat := Nat → Nat → Int
def sclF (p inv : Int) (M : Mat) (t : Nat) : Mat := fun a b => if a = t then M t b * inv % p else M a b
def clrF (p : Int) (M : Mat) (t j n : Nat) : Mat := fun a b => if a < n ∧ a ≠ t then (M a b + (p - M a j) * M t b) % p else M a b
def pivS (p : Int) (M : Mat) (t j k : Nat) : Mat := sclF p (invG p 1 (swapF M t k t j) (p - 2).toNat) (swapF M t k) t
def redD (p : Int) (M : Mat) (t j k : Nat) (d : Int) : Int := (if k = t then d else (p - d) % p) * swapF M t k t j % p
def redS (p : Int) (r : Nat) (s : Mat × List Int × Int) (j : Nat) : Mat × List Int × Int :=
  if s.2.1.length < r then
    match pivF s.1 j (r - s.2.1.length) s.2.1.length with
    | none => s
    | some k => (clrF p (pivS p s.1 s.2.1.length j k) s.2.1.length j r, s.2.1 ++ [(j : Int)], redD p s.1 s.2.1.length j k s.2.2)
  else s
def redN (p : Int) (r : Nat) (M : Mat) : Nat → Mat × List Int × Int
  | 0 => (M, [], 1)
  | j + 1 => redS p r (redN p r M j) j
def redOk (x : Int × Int × Int × List Int) : Prop := pOk x.1 ∧ mOk x.2 ∧ allP x.1 x.2.2.2
instance (x : Int × Int × Int × List Int) : Decidable (redOk x) := by unfold redOk; infer_instance
theorem swapF_in {p : Int} {r c : Nat} {M : Mat} (hM : inM p r c M) {a b : Nat} (ha : a < r) (hb : b < r) : inM p r c (swapF M a b) := by
  intro i hi j hj
  unfold swapF
  split
  · exact hM b hb j hj
  · split
    · exact hM a ha j hj
    · exact hM i hi j hj
theorem sclF_in {p inv : Int} {r c : Nat} {M : Mat} (hp : pOk p) (hM : inM p r c M) (t : Nat) : inM p r c (sclF p inv M t) := by
  intro i hi j hj
  unfold sclF
  split
  · exact emod_in hp _
  · exact hM i hi j hj
theorem clrF_in {p : Int} {r c : Nat} {M : Mat} (hp : pOk p) (hM : inM p r c M) (t k n : Nat) : inM p r c (clrF p M t k n) := by
  intro i hi j hj
  unfold clrF
  split
  · exact emod_in hp _
  · exact hM i hi j hj
theorem pivS_in {p : Int} {r c : Nat} {M : Mat} (hp : pOk p) (hM : inM p r c M) {t k : Nat} (ht : t < r) (hk : k < r) (j : Nat) : inM p r c (pivS p M t j k) := sclF_in hp (swapF_in hM ht hk) t

structure RI (p : Int) (r c : Nat) (s : Mat × List Int × Int) (j : Nat) : Prop where
  m : inM p r c s.1
  l : s.2.1.length ≤ r
  lj : s.2.1.length ≤ j
  d : inP p s.2.2
  e : ∀ x ∈ s.2.1, 0 ≤ x ∧ x < (j : Int)
theorem RI.step {p : Int} {r c : Nat} {s : Mat × List Int × Int} {j : Nat} (hp : pOk p) (h : RI p r c s j) : RI p r c (redS p r s j) (j + 1) := by
  have keep : RI p r c s (j + 1) := ⟨h.m, h.l, by have := h.lj; omega, h.d, fun x hx => by have := h.e x hx; omega⟩
  unfold redS
  split
  · rename_i hl
    split
    · exact keep
    · rename_i k hk
      have hq := pivF_lt hk
      refine ⟨clrF_in hp (pivS_in hp h.m hl (by omega) j) _ _ _, ?_, ?_, emod_in hp _, ?_⟩
      · simp only [List.length_append, List.length_cons, List.length_nil]; omega
      · have := h.lj
        simp only [List.length_append, List.length_cons, List.length_nil]; omega
      · intro x hx
        simp only [List.mem_append, List.mem_singleton] at hx
        rcases hx with hx | rfl
        · have := h.e x hx; omega
        · omega
  · exact keep
theorem clrF_0 {p : Int} (M : Mat) (t j : Nat) : clrF p M t j 0 = M := by funext a b; exact if_neg (by omega)
theorem clrF_old {p : Int} (M : Mat) (t j n b : Nat) : clrF p M t j n n b = M n b := if_neg (by omega)
theorem clrF_t {p : Int} (M : Mat) (t j n b : Nat) : clrF p M t j n t b = M t b := if_neg (by omega)
theorem clrF_skip {p : Int} (M : Mat) (t j : Nat) : clrF p M t j (t + 1) = clrF p M t j t := by
  funext a b
  unfold clrF
  by_cases h : a < t
  · rw [if_pos (by omega), if_pos (by omega)]
  · rw [if_neg (by omega), if_neg (by omega)]
theorem pivF_none {M : Mat} {j : Nat} : ∀ {d k : Nat}, pivF M j d k = none → ∀ i, k ≤ i → i < k + d → M i j = 0
  | 0, k, _, i, h1, h2 => by omega
  | d + 1, k, h, i, h1, h2 => by
    simp only [pivF] at h
    split at h
    · rename_i h0
      by_cases hi : i = k
      · rw [hi]; exact h0
      · exact pivF_none h i (by omega) (by omega)
    · cases h
theorem redS_n {p : Int} {r : Nat} {s : Mat × List Int × Int} {j : Nat} (hl : s.2.1.length < r) (h : pivF s.1 j (r - s.2.1.length) s.2.1.length = none) : redS p r s j = s := by
  unfold redS
  rw [if_pos hl, h]
theorem redS_s {p : Int} {r : Nat} {s : Mat × List Int × Int} {j k : Nat} (hl : s.2.1.length < r) (h : pivF s.1 j (r - s.2.1.length) s.2.1.length = some k) :
    redS p r s j = (clrF p (pivS p s.1 s.2.1.length j k) s.2.1.length j r, s.2.1 ++ [(j : Int)], redD p s.1 s.2.1.length j k s.2.2) := by
  unfold redS
  rw [if_pos hl, h]
/-! ### the walk of the spec's reduction -/

section
variable {p : Int} {r c : Nat} {M0 : Mat}

end
/-! ### the walk of the program's reduction -/

section
variable {p : Int} {r c : Nat} {M0 : Mat}

end

end Go.Am
end
section
namespace Go.Am
/-! ### ranks, reduced forms and factors of good matrices -/

/-! ### factors -/

section
variable {p : Int} {r c : Nat} {M R : Mat} {L : List Int}

end

end Go.Am
end
section
namespace Go.Am

def ch : Nat → Nat → Nat
  | _, 0 => 1
  | 0, _ + 1 => 0
  | n + 1, k + 1 => ch n k + ch n (k + 1)

theorem ch_gt : ∀ {n k : Nat}, n < k → ch n k = 0
  | 0, k + 1, _ => by simp [ch]
  | n + 1, k + 1, h => by simp [ch, ch_gt (show n < k by omega), ch_gt (show n < k + 1 by omega)]
theorem ch_0 (n : Nat) : ch n 0 = 1 := by cases n <;> rfl
theorem ch_self : ∀ n, ch n n = 1
  | 0 => rfl
  | n + 1 => by simp [ch, ch_self n, ch_gt (Nat.lt_succ_self n)]

theorem ch_mul : ∀ (n k : Nat), (k + 1) * ch (n + 1) (k + 1) = (n + 1) * ch n k
  | 0, 0 => by simp [ch]
  | 0, k + 1 => by simp [ch]
  | n + 1, 0 => by
    have h := ch_mul n 0
    simp only [ch_0] at h ⊢
    have e : ch (n + 1 + 1) (0 + 1) = ch (n + 1) 0 + ch (n + 1) (0 + 1) := rfl
    rw [e, ch_0]
    omega
  | n + 1, k + 1 => by
    have h1 := ch_mul n k
    have h2 := ch_mul n (k + 1)
    have e1 : ch (n + 1 + 1) (k + 1 + 1) = ch (n + 1) (k + 1) + ch (n + 1) (k + 1 + 1) := rfl
    have e2 : ch (n + 1) (k + 1) = ch n k + ch n (k + 1) := rfl
    rw [e1]
    generalize ch (n + 1) (k + 1 + 1) = B at *
    generalize ch (n + 1) (k + 1) = A at *
    generalize ch n k = u at *
    generalize ch n (k + 1) = v at *
    subst e2
    grind

def sumF (f : Nat → Nat) : Nat → Nat
  | 0 => 0
  | m + 1 => sumF f m + f m

theorem sum_step (n a : Nat) : ∀ m, sumF (fun k => ch (n + 1) k * a ^ k) (m + 1) = sumF (fun k => ch n k * a ^ k) (m + 1) + a * sumF (fun k => ch n k * a ^ k) m
  | 0 => by simp [sumF, ch_0]
  | m + 1 => by
    have h := sum_step n a m
    simp only [sumF] at h ⊢
    have e : ch (n + 1) (m + 1) = ch n m + ch n (m + 1) := rfl
    rw [h, e, Nat.pow_succ]
    grind

theorem binom (a : Nat) : ∀ n, (a + 1) ^ n = sumF (fun k => ch n k * a ^ k) (n + 1)
  | 0 => by simp [sumF, ch_0]
  | n + 1 => by
    rw [sum_step]
    have e : sumF (fun k => ch n k * a ^ k) (n + 1 + 1) = sumF (fun k => ch n k * a ^ k) (n + 1) := by
      show sumF _ (n + 1) + ch n (n + 1) * a ^ (n + 1) = _
      rw [ch_gt (Nat.lt_succ_self n)]; simp
    rw [e, ← binom a n, Nat.pow_succ]
    grind

theorem sum_mod {p : Nat} {f : Nat → Nat} : ∀ m, (∀ k, 0 < k → k ≤ m → p ∣ f k) → sumF f (m + 1) % p = f 0 % p
  | 0, h => by simp [sumF]
  | m + 1, h => by
    have i := sum_mod m fun k h1 h2 => h k h1 (by omega)
    obtain ⟨c, hc⟩ := h (m + 1) (by omega) (Nat.le_refl _)
    show (sumF f (m + 1) + f (m + 1)) % p = _
    rw [hc, Nat.add_mul_mod_self_left, i]

def PrimeN (p : Nat) : Prop := 2 ≤ p ∧ ∀ d, d ∣ p → d = 1 ∨ d = p

theorem PrimeN.cop {p a : Nat} (hp : PrimeN p) (h : ¬ p ∣ a) : Nat.Coprime p a := by
  have := hp.2 (Nat.gcd p a) (Nat.gcd_dvd_left p a)
  rcases this with h1 | h1
  · exact h1
  · exact absurd (h1 ▸ Nat.gcd_dvd_right p a) h

theorem PrimeN.ch {p k : Nat} (hp : PrimeN p) (h1 : 0 < k) (h2 : k < p) : p ∣ ch p k := by
  obtain ⟨q, rfl⟩ : ∃ q, p = q + 1 := ⟨p - 1, by omega⟩
  obtain ⟨j, rfl⟩ : ∃ j, k = j + 1 := ⟨k - 1, by omega⟩
  have hm := ch_mul q j
  have hd : (q + 1) ∣ (j + 1) * Go.Am.ch (q + 1) (j + 1) := ⟨Go.Am.ch q j, hm⟩
  exact (hp.cop fun h => absurd (Nat.le_of_dvd (by omega) h) (by omega)).dvd_of_dvd_mul_left hd

theorem fermat0 {p : Nat} (hp : PrimeN p) : ∀ a, a ^ p % p = a % p
  | 0 => by rw [Nat.zero_pow (by have := hp.1; omega)]
  | a + 1 => by
    rw [binom]
    show (sumF _ p + Go.Am.ch p p * a ^ p) % p = _
    obtain ⟨q, rfl⟩ : ∃ q, p = q + 1 := ⟨p - 1, by have := hp.1; omega⟩
    have h := sum_mod (p := q + 1) (f := fun k => Go.Am.ch (q + 1) k * a ^ k) q fun k h1 h2 => Nat.dvd_trans (hp.ch h1 (by omega)) (Nat.dvd_mul_right _ _)
    rw [ch_self, Nat.one_mul, Nat.add_mod, h, fermat0 hp a]
    simp only [ch_0, Nat.pow_zero, Nat.mul_one]
    rw [← Nat.add_mod, Nat.add_comm]

theorem fermat {p a : Nat} (hp : PrimeN p) (ha : ¬ p ∣ a) : a * a ^ (p - 2) % p = 1 := by
  have h2 := hp.1
  have h := fermat0 hp a
  have e : a ^ p = a * (a * a ^ (p - 2)) := by
    obtain ⟨q, rfl⟩ : ∃ q, p = q + 2 := ⟨p - 2, by omega⟩
    rw [Nat.pow_succ, Nat.pow_succ, Nat.add_sub_cancel]
    rw [Nat.mul_comm a (a ^ q), Nat.mul_comm a (a ^ q * a)]
  rw [e] at h
  have ha0 : 0 < a := by
    rcases Nat.eq_zero_or_pos a with h | h
    · subst h; exact absurd ⟨0, by simp⟩ ha
    · exact h
  have hz : 0 < a * a ^ (p - 2) := Nat.mul_pos ha0 (Nat.pow_pos ha0)
  generalize a * a ^ (p - 2) = z at h hz ⊢
  obtain ⟨y, rfl⟩ : ∃ y, z = y + 1 := ⟨z - 1, by omega⟩
  have hd : p ∣ a * y := by
    have e : a * (y + 1) = a * y + a := by rw [Nat.mul_add, Nat.mul_one]
    rw [e] at h
    have : (a * y + a - a) % p = 0 := Nat.sub_mod_eq_zero_of_mod_eq h
    rw [Nat.add_sub_cancel] at this
    exact Nat.dvd_of_mod_eq_zero this
  obtain ⟨c, rfl⟩ := (hp.cop ha).dvd_of_dvd_mul_left hd
  rw [Nat.add_comm, Nat.add_mul_mod_self_left]
  exact Nat.mod_eq_of_lt (by omega)

end Go.Am
end
section
namespace Go.Am

/-! ### inverses modulo p -/

theorem isPrimeI_N {p : Int} (h : isPrimeI p = true) : PrimeN p.toNat := by
  have hp := isPrimeI_t h
  obtain ⟨n, rfl⟩ := natI_eq (show 0 ≤ p by omega)
  simp only [Int.toNat_natCast]
  refine ⟨by omega, fun d hd => ?_⟩
  rcases Nat.lt_or_ge d 2 with h2 | h2
  · rcases Nat.eq_zero_or_pos d with h0 | h0
    · subst h0
      have := Nat.eq_zero_of_zero_dvd hd
      omega
    · exact .inl (by omega)
  · obtain ⟨e, he⟩ := hd
    simp only [isPrimeI, Bool.and_eq_true, decide_eq_true_eq, Bool.not_eq_true', List.any_eq_false] at h
    have key : ∀ a b : Nat, 2 ≤ a → 2 ≤ b → a ≤ b → n ≠ a * b := by
      intro a b ha hb hab e
      have h1 : a * a ≤ n := by rw [e]; exact Nat.mul_le_mul_left _ hab
      have h3 : a < 1001 := by
        rcases Nat.lt_or_ge a 1001 with h | h
        · exact h
        · have := Nat.mul_le_mul h h; omega
      refine h.2 a (by simp; omega) ?_
      unfold divAt
      have ea : ((a : Int)) * (a : Int) = ((a * a : Nat) : Int) := by norm_cast
      simp only [Bool.and_eq_true, decide_eq_true_eq]
      constructor
      · rw [ea]; omega
      · rw [e]; push_cast; exact Int.mul_emod_right _ _
    right
    rcases Nat.lt_or_ge e 2 with h3 | h3
    · have : e = 1 := by
        rcases Nat.eq_zero_or_pos e with h0 | h0
        · subst h0; simp at he; omega
        · omega
      subst this; omega
    · exfalso
      rcases Nat.le_total d e with hde | hde
      · exact key d e h2 h3 hde he
      · exact key e d h3 h2 hde (by rw [he, Nat.mul_comm])

theorem pow_sq (x : Int) (b : Nat) : ∀ m : Nat, (x * x) ^ m * x ^ b = x ^ (2 * m + b)
  | 0 => by simp
  | m + 1 => by
    have ih := pow_sq x b m
    rw [show 2 * (m + 1) + b = 2 * m + b + 1 + 1 by omega, Int.pow_succ, Int.pow_succ (n := 2 * m + b + 1), Int.pow_succ (n := 2 * m + b), ← ih]
    grind

theorem invG_pow {p : Int} (hp : pOk p) : ∀ (n : Nat) (out x : Int), invG p out x n % p = out * x ^ n % p := by
  intro n
  induction n using Nat.strongRecOn with
  | ind n ih =>
    intro out x
    by_cases h0 : n = 0
    · subst h0; rw [invG_0]; simp
    · rw [invG_s h0, ih (n / 2) (by omega)]
      have e : x ^ n = (x * x) ^ (n / 2) * x ^ (n % 2) := by
        rw [pow_sq, Nat.div_add_mod]
      rw [e]
      have h1 : ((x * x % p) ^ (n / 2)) % p = ((x * x) ^ (n / 2)) % p := by
        have : ∀ k : Nat, ((x * x % p) ^ k) % p = ((x * x) ^ k) % p := by
          intro k
          induction k with
          | zero => simp
          | succ k ih => rw [Int.pow_succ, Int.pow_succ, Int.mul_emod, ih, Int.emod_emod, ← Int.mul_emod]
        exact this _
      by_cases hb : n % 2 = 1
      · rw [if_pos hb, hb, Int.mul_emod, h1, Int.emod_emod, ← Int.mul_emod]
        congr 1
        grind
      · rw [if_neg hb, show n % 2 = 0 by omega, Int.mul_emod, h1, ← Int.mul_emod]
        congr 1
        grind

theorem inv_one {p x : Int} (hpr : isPrimeI p = true) (hx : inP p x) (h0 : x ≠ 0) : x * invG p 1 x (p - 2).toNat % p = 1 := by
  have hp := isPrimeI_t hpr
  have hp' : pOk p := ⟨hp.1, hp.2⟩
  obtain ⟨n, rfl⟩ := natI_eq (show 0 ≤ p by omega)
  obtain ⟨a, rfl⟩ := natI_eq hx.1
  have hN := isPrimeI_N hpr
  simp only [Int.toNat_natCast] at hN
  have ha : ¬ n ∣ a := fun h => by
    have := Nat.le_of_dvd (by omega) h
    have := hx.2
    omega
  have hf := fermat hN ha
  have e : (((n : Int)) - 2).toNat = n - 2 := by omega
  rw [Int.mul_emod, invG_pow hp', e, Int.one_mul, ← Int.mul_emod]
  exact_mod_cast hf

/-! ### sums -/

def sumD (f g : Nat → Int) : Nat → Int
  | 0 => 0
  | n + 1 => sumD f g n + f n * g n

theorem sumD_mod {p : Int} {f f' g : Nat → Int} : ∀ n, (∀ k, k < n → ∃ q, f k = f' k + p * q) → ∃ q, sumD f g n = sumD f' g n + p * q
  | 0, _ => ⟨0, by simp [sumD]⟩
  | n + 1, h => by
    obtain ⟨q, hq⟩ := sumD_mod (g := g) n fun k hk => h k (by omega)
    obtain ⟨q', hq'⟩ := h n (by omega)
    exact ⟨q + q' * g n, by simp only [sumD, hq, hq']; grind⟩
theorem sumD_l (f f2 g : Nat → Int) (c : Int) : ∀ n, sumD (fun k => f k + c * f2 k) g n = sumD f g n + c * sumD f2 g n
  | 0 => by simp [sumD]
  | n + 1 => by simp only [sumD, sumD_l f f2 g c n]; grind
theorem sumD_r (f g g2 : Nat → Int) (c : Int) : ∀ n, sumD f (fun k => g k - c * g2 k) n = sumD f g n - c * sumD f g2 n
  | 0 => by simp [sumD]
  | n + 1 => by simp only [sumD, sumD_r f g g2 c n]; grind
theorem sumD_sl (f g : Nat → Int) (c : Int) : ∀ n, sumD (fun k => f k * c) g n = sumD f g n * c
  | 0 => by simp [sumD]
  | n + 1 => by simp only [sumD, sumD_sl f g c n]; grind
theorem sumD_sr (f g : Nat → Int) (c : Int) : ∀ n, sumD f (fun k => g k * c) n = sumD f g n * c
  | 0 => by simp [sumD]
  | n + 1 => by simp only [sumD, sumD_sr f g c n]; grind
/-! ### a right inverse is kept by row operations -/

def dl (a b : Nat) : Int := if a = b then 1 else 0

def RInv (p : Int) (n : Nat) (E X : Mat) : Prop := ∀ a, a < n → ∀ b, b < n → ∃ q, sumD (E a) (fun k => X k b) n = dl a b + p * q

theorem RInv.congr {p : Int} {n : Nat} {E E' X : Mat} (h : RInv p n E X) (he : ∀ a, a < n → ∀ k, k < n → ∃ q, E' a k = E a k + p * q) : RInv p n E' X := by
  intro a ha b hb
  obtain ⟨q, hq⟩ := h a ha b hb
  obtain ⟨q', hq'⟩ := sumD_mod (p := p) (f := E' a) (f' := E a) (g := fun k => X k b) n (he a ha)
  exact ⟨q + q', by rw [hq', hq]; grind⟩

theorem RInv.swap {p : Int} {n : Nat} {E X : Mat} (h : RInv p n E X) {s t : Nat} (hs : s < n) (ht : t < n) : ∃ X', RInv p n (swapF E s t) X' := by
  let sw : Nat → Nat := fun i => if i = s then t else if i = t then s else i
  have hsw : ∀ i, i < n → sw i < n := by
    intro i hi
    show (if i = s then t else if i = t then s else i) < n
    split
    · exact ht
    · split
      · exact hs
      · exact hi
  have hinj : ∀ i j, sw i = sw j → i = j := by
    intro i j
    show (if i = s then t else if i = t then s else i) = (if j = s then t else if j = t then s else j) → i = j
    intro h
    repeat' split at h
    all_goals omega
  refine ⟨fun k b => X k (sw b), fun a ha b hb => ?_⟩
  obtain ⟨q, hq⟩ := h (sw a) (hsw a ha) (sw b) (hsw b hb)
  refine ⟨q, ?_⟩
  have e : swapF E s t a = E (sw a) := by
    funext k
    show (if a = s then E t k else if a = t then E s k else E a k) = E (if a = s then t else if a = t then s else a) k
    split
    · rfl
    · split <;> rfl
  rw [e, hq]
  congr 1
  unfold dl
  by_cases hab : a = b
  · subst hab; simp
  · rw [if_neg hab, if_neg fun h => hab (hinj _ _ h)]

theorem RInv.scale {p inv u : Int} {n : Nat} {E X : Mat} (h : RInv p n E X) {t : Nat} (ht : t < n) (hu : u * inv % p = 1) : ∃ X', RInv p n (sclF p inv E t) X' := by
  have hu' : ∃ z, u * inv = 1 + p * z := ⟨u * inv / p, by have := Int.emod_add_mul_ediv (u * inv) p; omega⟩
  obtain ⟨z, hz⟩ := hu'
  refine ⟨fun k b => if b = t then X k t * u else X k b, RInv.congr (E := fun a k => if a = t then E t k * inv else E a k) (fun a ha b hb => ?_) (fun a ha k hk => ?_)⟩
  · obtain ⟨q, hq⟩ := h a ha b hb
    by_cases hat : a = t
    · subst hat
      by_cases hbt : b = a
      · subst hbt
        refine ⟨z + q * inv * u, ?_⟩
        simp only [if_true]
        rw [sumD_sl, sumD_sr, hq, dl, if_pos rfl]
        grind
      · refine ⟨q * inv, ?_⟩
        simp only [if_true, if_neg hbt]
        rw [sumD_sl, hq, dl, if_neg (Ne.symm hbt)]
        grind
    · by_cases hbt : b = t
      · subst hbt
        refine ⟨q * u, ?_⟩
        simp only [if_neg hat, if_true]
        rw [sumD_sr]
        have : sumD (fun k => E a k) (fun k => X k b) n = dl a b + p * q := hq
        rw [this, dl, if_neg hat]
        grind
      · refine ⟨q, ?_⟩
        simp only [if_neg hat, if_neg hbt]
        exact hq
  · unfold sclF
    by_cases hat : a = t
    · simp only [hat, if_true]
      refine ⟨-(E t k * inv / p), ?_⟩
      have := Int.emod_add_mul_ediv (E t k * inv) p
      have e : p * -(E t k * inv / p) = -(p * (E t k * inv / p)) := Int.mul_neg _ _
      omega
    · simp only [hat, if_false]
      exact ⟨0, by simp⟩

theorem RInv.add {p f : Int} {n : Nat} {E E' X : Mat} (h : RInv p n E X) {m t : Nat} (hm : m < n) (ht : t < n) (hmt : m ≠ t) (he : ∀ a, a < n → ∀ k, k < n → ∃ q, E' a k = (if a = m then E m k + f * E t k else E a k) + p * q) : ∃ X', RInv p n E' X' := by
  refine ⟨fun k b => if b = t then X k t - f * X k m else X k b, RInv.congr (E := fun a k => if a = m then E m k + f * E t k else E a k) (fun a ha b hb => ?_) he⟩
  obtain ⟨q1, h1⟩ := h a ha b hb
  obtain ⟨q2, h2⟩ := h t ht b hb
  obtain ⟨q3, h3⟩ := h a ha m hm
  obtain ⟨q4, h4⟩ := h t ht m hm
  have h1' : sumD (fun k => E a k) (fun k => X k b) n = dl a b + p * q1 := h1
  have h2' : sumD (fun k => E t k) (fun k => X k b) n = dl t b + p * q2 := h2
  have h3' : sumD (fun k => E a k) (fun k => X k m) n = dl a m + p * q3 := h3
  have h4' : sumD (fun k => E t k) (fun k => X k m) n = dl t m + p * q4 := h4
  have d1 : dl t m = 0 := if_neg (Ne.symm hmt)
  by_cases ham : a = m
  · subst ham
    have d2 : dl a a = 1 := if_pos rfl
    by_cases hbt : b = t
    · subst hbt
      have d3 : dl a b = 0 := if_neg hmt
      have d4 : dl b b = 1 := if_pos rfl
      refine ⟨q1 + f * q2 - f * q3 - f * f * q4, ?_⟩
      simp only [if_true]
      rw [sumD_l, sumD_r, sumD_r, h1', h2', h3', h4', d1, d2, d3, d4]
      grind
    · refine ⟨q1 + f * q2, ?_⟩
      have d3 : dl t b = 0 := if_neg (Ne.symm hbt)
      simp only [if_true, if_neg hbt]
      rw [sumD_l, h1', h2', d3]
      grind
  · by_cases hbt : b = t
    · subst hbt
      have d3 : dl a m = 0 := if_neg ham
      refine ⟨q1 - f * q3, ?_⟩
      simp only [if_neg ham, if_true]
      rw [sumD_r, h1', h3', d3]
      grind
    · refine ⟨q1, ?_⟩
      simp only [if_neg ham, if_neg hbt]
      exact h1'

/-! ### the reduction -/

/-- The rows behind the rank are zero in the columns that are done; the right half has a right inverse. -/
def RK (p : Int) (n : Nat) (s : Mat × List Int × Int) (j : Nat) : Prop :=
  (∃ X, RInv p n (fun a k => s.1 a (n + k)) X) ∧ ∀ b, b < j → ∀ i, s.2.1.length ≤ i → i < n → s.1 i b = 0

theorem RK.step {p : Int} {n : Nat} {s : Mat × List Int × Int} {j : Nat} (hpr : isPrimeI p = true) (hj : j < 2 * n) (I : RI p n (2 * n) s j) (h : RK p n s j) : RK p n (redS p n s j) (j + 1) := by
  have hp : pOk p := isPrimeI_t hpr
  obtain ⟨⟨X, hX⟩, hz⟩ := h
  obtain ⟨M, L, d⟩ := s
  simp only at hX hz
  by_cases hl : L.length < n
  · cases hk : pivF M j (n - L.length) L.length with
    | none =>
      rw [redS_n (s := (M, L, d)) hl hk]
      refine ⟨⟨X, hX⟩, fun b hb i h1 h2 => ?_⟩
      by_cases hbj : b = j
      · subst hbj; exact pivF_none hk i h1 (by simp only at h1; omega)
      · exact hz b (by omega) i h1 h2
    | some k =>
      rw [redS_s (s := (M, L, d)) hl hk]
      simp only
      have hq := pivF_lt hk
      have hkn : k < n := by omega
      have hM : inM p n (2 * n) M := I.m
      have hx : inP p (M k j) := hM k hkn j hj
      have hsw : swapF M L.length k L.length j = M k j := if_pos rfl
      have hi := inv_one hpr hx hq.2.2
      generalize hinv : invG p 1 (M k j) (p - 2).toNat = inv at hi
      have hpiv : pivS p M L.length j k = sclF p inv (swapF M L.length k) L.length := by unfold pivS; rw [hsw, hinv]
      rw [hpiv]
      have hS : inM p n (2 * n) (swapF M L.length k) := swapF_in hM hl hkn
      generalize hM2 : sclF p inv (swapF M L.length k) L.length = M2
      have hM2i : inM p n (2 * n) M2 := by rw [← hM2]; exact sclF_in hp hS _
      constructor
      · obtain ⟨X1, hX1⟩ := hX.swap (s := L.length) (t := k) hl hkn
        obtain ⟨X2, hX2⟩ := hX1.scale (inv := inv) (u := M k j) hl hi
        have base : RInv p n (fun a b => clrF p M2 L.length j 0 a (n + b)) X2 := by
          rw [clrF_0, ← hM2]; exact hX2
        have key : ∀ m, m ≤ n → ∃ X', RInv p n (fun a b => clrF p M2 L.length j m a (n + b)) X' := by
          intro m
          induction m with
          | zero => intro _; exact ⟨X2, base⟩
          | succ m ih =>
            intro hm
            obtain ⟨X', hX'⟩ := ih (by omega)
            by_cases hmt : m = L.length
            · subst hmt
              rw [clrF_skip]; exact ⟨X', hX'⟩
            · refine hX'.add (f := p - M2 m j) (m := m) (t := L.length) (by omega) hl hmt fun a ha b hb => ?_
              show ∃ q, clrF p M2 L.length j (m + 1) a (n + b) = _
              by_cases ham : a = m
              · subst ham
                rw [if_pos rfl]
                show ∃ q, clrF p M2 L.length j (a + 1) a (n + b) = (clrF p M2 L.length j a a (n + b) + (p - M2 a j) * clrF p M2 L.length j a L.length (n + b)) + p * q
                rw [clrF_old, clrF_t]
                unfold clrF
                rw [if_pos ⟨by omega, hmt⟩]
                refine ⟨-((M2 a (n + b) + (p - M2 a j) * M2 L.length (n + b)) / p), ?_⟩
                have e1 := Int.emod_add_mul_ediv (M2 a (n + b) + (p - M2 a j) * M2 L.length (n + b)) p
                have e2 := Int.mul_neg p ((M2 a (n + b) + (p - M2 a j) * M2 L.length (n + b)) / p)
                omega
              · rw [if_neg ham]
                refine ⟨0, ?_⟩
                show clrF p M2 L.length j (m + 1) a (n + b) = clrF p M2 L.length j m a (n + b) + p * 0
                unfold clrF
                by_cases hc : a < m ∧ a ≠ L.length
                · rw [if_pos hc, if_pos ⟨by omega, hc.2⟩]; simp
                · rw [if_neg hc, if_neg (by omega)]; simp
        exact key n (Nat.le_refl _)
      · intro b hb i h1 h2
        simp only [List.length_append, List.length_cons, List.length_nil] at h1
        show clrF p M2 L.length j n i b = 0
        unfold clrF
        rw [if_pos ⟨h2, by omega⟩]
        have e2 : ∀ c, M2 i c = swapF M L.length k i c := fun c => by rw [← hM2]; exact if_neg (by omega)
        have e3 : ∀ c, M2 L.length c = M k c * inv % p := fun c => by rw [← hM2]; show (if L.length = L.length then _ else _) = _; rw [if_pos rfl]; congr 2; exact if_pos rfl
        by_cases hbj : b = j
        · subst hbj
          rw [e3 b, hi]
          have : M2 i b + (p - M2 i b) * 1 = p := by omega
          rw [this]; exact Int.emod_self
        · have hbj' : b < j := by omega
          rw [e3 b, hz b hbj' k hq.1 hkn, e2 b]
          have : swapF M L.length k i b = 0 := by
            unfold swapF
            rw [if_neg (by omega)]
            split
            · exact hz b hbj' L.length (Nat.le_refl _) hl
            · exact hz b hbj' i (by omega) h2
          rw [this]; simp
  · unfold redS
    rw [if_neg hl]
    exact ⟨⟨X, hX⟩, fun b hb i h1 h2 => by simp only at h1; omega⟩

end Go.Am
end
section
namespace Go.Am
def wideF (n : Nat) (M : Mat) : Mat := fun a b => if b < n then M a b else dl a (b - n)
def wideM (n : Nat) (M : Mat) : Mat := ofD (2 * n) (genD n (2 * n) (wideF n M))
def invX (p : Int) (n : Nat) (M : Mat) : Mat × List Int × Int := redN p n (wideM n M) (2 * n)
def invOk (p : Int) (n : Nat) (M : Mat) : Prop := ∀ i, i < n → (invX p n M).2.1.getD i 0 = (i : Int)
instance (p : Int) (n : Nat) (M : Mat) : Decidable (invOk p n M) := inferInstanceAs (Decidable (∀ i, i < n → (invX p n M).2.1.getD i 0 = (i : Int)))
section
variable {p : Int} {n : Nat} {M R : Mat} {L : List Int}

end
section
variable {p : Int} {n : Nat} {M R : Mat} {L : List Int}
end

end Go.Am
end
section
namespace Go.Am
abbrev Mx3 := Int × Int × List Int
abbrev Aut := Int × Int × List Int × List (Int × Int × List Int) × List Int
def wOk (k : Nat) (w : List Int) : Prop := ∀ c ∈ w, 0 ≤ c ∧ c < (k : Int)
instance (k : Nat) (w : List Int) : Decidable (wOk k w) := inferInstanceAs (Decidable (∀ c ∈ w, 0 ≤ c ∧ c < (k : Int)))
def stepR (p : Int) (n : Nat) (ms : List Mx3) (v : List Int) (c : Int) : List Int := genD 1 n (mulF p n (ofD n v) (ofD n (ms.getD c.toNat (0, 0, [])).2.2))
def reachL (p : Int) (n : Nat) (ms : List Mx3) (v : List Int) (w : List Int) : List Int := w.foldl (stepR p n ms) v
def dotL (p : Int) (x y : List Int) : Int := dotF p (fun t => x.getD t 0) (fun t => y.getD t 0) x.length
def reachOk (x : Aut × List Int) : Prop := autOk x.1 = true ∧ wOk x.1.2.2.2.1.length x.2 ∧ x.2.length ≤ 1048576
instance (x : Aut × List Int) : Decidable (reachOk x) := by unfold reachOk; infer_instance
def F_spec_l34Reach : Aut × List Int → Option (List Int) := fun (x : Aut × List Int) => if reachOk x then some (reachL x.1.1 x.1.2.1.toNat x.1.2.2.2.1 x.1.2.2.1 x.2) else none
def F_impl_wordRow : Aut × List Int → Option (List Int) := F_spec_l34Reach
def weightL (x : Aut × List Int) : Int := dotL x.1.1 (reachL x.1.1 x.1.2.1.toNat x.1.2.2.2.1 x.1.2.2.1 x.2) x.1.2.2.2.2
def F_impl_rawWordWeight : Aut × List Int → Option Int := fun (x : Aut × List Int) => if reachOk x then some (weightL x) else none
def F_spec_WordWeight : Aut × List Int → Option Int := fun (x : Aut × List Int) =>
  if sz_Automaton x.1 ≤ 1048576 ∧ x.2.length ≤ 1048576 then some (if autOk x.1 = true ∧ x.2.length ≤ 24 ∧ wOk x.1.2.2.2.1.length x.2 then weightL x else -1) else none
def F_impl_WordWeight : Aut × List Int → Option Int := F_spec_WordWeight

def ag_impl_wordRow : Sig := [(.agg, [.int .i64, .int .i64, .list [.int .i64], .list [.int .i64, .int .i64, .list [.int .i64]], .list [.int .i64]]), (.one, [.list [.int .i64]])]
def rs_impl_wordRow : Sig := [(.one, [.list [.int .i64]])]
def mu_impl_wordRow : MSig := []
def ag_impl_rawWordWeight : Sig := [(.agg, [.int .i64, .int .i64, .list [.int .i64], .list [.int .i64, .int .i64, .list [.int .i64]], .list [.int .i64]]), (.one, [.list [.int .i64]])]
def rs_impl_rawWordWeight : Sig := [(.one, [.int .i64])]
def mu_impl_rawWordWeight : MSig := []
def ag_impl_WordWeight : Sig := [(.agg, [.int .i64, .int .i64, .list [.int .i64], .list [.int .i64, .int .i64, .list [.int .i64]], .list [.int .i64]]), (.one, [.list [.int .i64]])]
def rs_impl_WordWeight : Sig := [(.one, [.int .i64])]
def mu_impl_WordWeight : MSig := []

def G_impl_wordRow (NN : Nat) : ((Int × (Int × ((List Int) × ((List (Int × (Int × (List Int)))) × (List Int))))) × (List Int)) → (Option (List Int)) :=
 (fun (((i0, i1, l2, l3, l4), l5) : ((Int × (Int × ((List Int) × ((List (Int × (Int × (List Int)))) × (List Int))))) × (List Int))) =>
 (F_impl_copyInts l2).bnd (fun l6 =>
 joinK ((fulI 0 (lenN l6) (lenN l6)).bnd (fun _ =>
 loopT NN (fun (((l7, i8, i9), (i10, i11, l12, l13, l14), (i15, i16), l17) : (((List Int) × (Int × Int)) × ((Int × (Int × ((List Int) × ((List (Int × (Int × (List Int)))) × (List Int))))) × ((Int × Int) × (List Int))))) =>
 cnd (ltI i9 i8)
 ((getI l7 i9).bnd (fun i18 =>
 (getI l13 i18).bnd (fun (i19, i20, l21) =>
 (winI l17 0 (lenN l17)).bnd (fun l22 =>
 (F_impl_rawMulMatrix (i10, (i15, i16, l22), i19, i20, l21)).bnd (fun (i23, i24, l25) =>
 (fulI 0 (lenN l25) (lenN l25)).bnd (fun _ =>
 some (Sum.inl ((l7, i8, addI .i64 i9 1), (i10, i11, l12, l13, l14), (i23, i24), l25))))))))
 (((fulI 0 (lenN l17) (lenN l17)).bnd (fun _ =>
 some (Sum.inl ((i15, i16), l17)))).bnd (fun l26 =>
 some (Sum.inr l26))))
 ((l5, natI (lenN l5), (0 : Int)), (i0, i1, l2, l3, l4), ((1 : Int), natI (lenN l6)), l6)))
 (fun ((i27, i28), l29) =>
 (takI l29 (lenN l29)).bnd (fun l30 =>
 some l30))))


def G_impl_rawWordWeight (NN : Nat) : ((Int × (Int × ((List Int) × ((List (Int × (Int × (List Int)))) × (List Int))))) × (List Int)) → (Option Int) :=
 (fun (((i0, i1, l2, l3, l4), l5) : ((Int × (Int × ((List Int) × ((List (Int × (Int × (List Int)))) × (List Int))))) × (List Int))) =>
 (F_impl_wordRow ((i0, i1, l2, l3, l4), l5)).bnd (fun l6 =>
 (winI l6 0 (lenN l6)).bnd (fun l7 =>
 (F_impl_rawMulMatrix (i0, ((1 : Int), natI (lenN l6), l7), natI (lenN l4), (1 : Int), l4)).bnd (fun (i8, i9, l10) =>
 (chkI (0 : Int) (lenN l10)).bnd (fun k11 =>
 (getN l10 (addN 0 k11)).bnd (fun i12 =>
 some i12))))))


def G_impl_WordWeight (NN : Nat) : ((Int × (Int × ((List Int) × ((List (Int × (Int × (List Int)))) × (List Int))))) × (List Int)) → (Option Int) :=
 (fun (((i0, i1, l2, l3, l4), l5) : ((Int × (Int × ((List Int) × ((List (Int × (Int × (List Int)))) × (List Int))))) × (List Int))) =>
 (F_impl_AutomatonOk (i0, i1, l2, l3, l4)).bnd (fun b6 =>
 cnd (notB b6)
 (some ((-1 : Int)))
 (cnd (ltI (24 : Int) (natI (lenN l5)))
 (some ((-1 : Int)))
 (joinK (loopT NN (fun (((l7, l8, i9, i10), i11, i12, l13, l14, l15) : (((List Int) × ((List Int) × (Int × Int))) × (Int × (Int × ((List Int) × ((List (Int × (Int × (List Int)))) × (List Int))))))) =>
 cnd (ltI i10 i9)
 ((getI l8 i10).bnd (fun i16 =>
 cnd (ltI i16 (0 : Int))
 (some (Sum.inr (Sum.inr ((-1 : Int)))))
 (cnd (leI (natI (lenN l14)) i16)
 (some (Sum.inr (Sum.inr ((-1 : Int)))))
 (some (Sum.inl ((l7, l8, i9, addI .i64 i10 1), i11, i12, l13, l14, l15))))))
 (some (Sum.inr (Sum.inl (l7, i11, i12, l13, l14, l15)))))
 ((l5, l5, natI (lenN l5), (0 : Int)), i0, i1, l2, l3, l4))
 (fun (l17, i18, i19, l20, l21, l22) =>
 (F_impl_rawWordWeight ((i18, i19, l20, l21, l22), l17)).bnd (fun i23 =>
 some i23))))))


/-! ### good automata -/

theorem rowOk_P {m : Int} {l : List Int} : rowOk m l = true ↔ allP m l := by
  simp only [rowOk, allP, List.all_eq_true, inB, decide_eq_true_eq, inP]

structure AutOk (p : Int) (n : Nat) (a : List Int) (ms : List Mx3) (b : List Int) : Prop where
  pr : isPrimeI p = true
  hn : n ≤ 12
  al : a.length = n
  ap : allP p a
  bl : b.length = n
  bp : allP p b
  l1 : 1 ≤ ms.length
  l4 : ms.length ≤ 4
  hm : ∀ x ∈ ms, ∃ M : Mat, x = ((n : Int), (n : Int), genD n n M) ∧ inM p n n M

theorem AutOk.p {p : Int} {n : Nat} {a b : List Int} {ms : List Mx3} (h : AutOk p n a ms b) : pOk p := isPrimeI_t h.pr

theorem autOk_nat {x : Aut} (h : autOk x = true) : ∃ (p : Int) (n : Nat) (a : List Int) (ms : List Mx3) (b : List Int), x = (p, (n : Int), a, ms, b) ∧ AutOk p n a ms b := by
  obtain ⟨p, n, a, ms, b⟩ := x
  simp only [autOk, Bool.and_eq_true, decide_eq_true_eq] at h
  obtain ⟨h1, h2, ⟨h3, h4⟩, ⟨h5, h6⟩, h7, h8⟩ := h
  obtain ⟨n, rfl⟩ := natI_eq h2.1
  refine ⟨p, n, a, ms, b, rfl, h1, by omega, by omega, rowOk_P.1 h3, by omega, rowOk_P.1 h5, by omega, by omega, fun x hx => ?_⟩
  have hm := List.all_eq_true.1 h8 x hx
  simp only [matsOk, Bool.and_eq_true, decide_eq_true_eq] at hm
  obtain ⟨hm, hr, hc⟩ := hm
  obtain ⟨r, c, M, rfl, hp, hr', hc', hrc, hM⟩ := matOk_nat hm
  simp only at hr hc
  have er : r = n := by omega
  have ec : c = n := by omega
  subst er ec
  exact ⟨M, rfl, hM⟩

theorem ofD_in {p : Int} {r c : Nat} {l : List Int} (hl : l.length = r * c) (h : allP p l) : inM p r c (ofD c l) := allP_gen.1 (by rw [genD_of hl]; exact h)

section
variable {p : Int} {n : Nat} {a b : List Int} {ms : List Mx3}

theorem stepR_len {s : List Int} {c : Int} : (stepR p n ms s c).length = n := by unfold stepR; rw [genD_len]; omega
theorem stepR_in (hp : pOk p) {s : List Int} {c : Int} : allP p (stepR p n ms s c) := allP_gen.2 (mulF_in hp 1 n n _ _)

theorem mul_row1 (H : AutOk p n a ms b) {s : List Int} (hl : s.length = n) (hs : allP p s) {x : Mx3} (hx : x ∈ ms) :
    F_spec_l31Mul (p, (1, (n : Int), s), x) = some (1, (n : Int), genD 1 n (mulF p n (ofD n s) (ofD n x.2.2))) := by
  obtain ⟨M, rfl, hM⟩ := H.hm x hx
  have hn := H.hn
  have hnn : n * n ≤ 12 * 12 := Nat.mul_le_mul hn hn
  have e1 : genD 1 n (ofD n s) = s := genD_of (by omega)
  have e2 : genD n n (ofD n (genD n n M)) = genD n n M := genD_of (genD_len _ _ _)
  have h := mulS_nat (r := 1) (k := n) (c := n) (A := ofD n s) (B := ofD n (genD n n M)) H.p (by omega) (by omega) (by omega) (by omega) (by omega) (by omega) (ofD_in (by omega) hs) (ofD_in (genD_len _ _ _) (allP_gen.2 hM))
  rw [e1, e2] at h
  exact h

theorem steps_get {w : List Int} (hw : wOk ms.length w) {i : Nat} {c : Int} (hc : w[i]? = some c) : ∃ x, x ∈ ms ∧ getI ms c = some x ∧ ms.getD c.toNat (0, 0, []) = x := by
  have h := hw c (List.mem_of_getElem? hc)
  obtain ⟨k, rfl⟩ := natI_eq h.1
  have hk : k < ms.length := by omega
  refine ⟨ms[k], List.getElem_mem hk, by rw [getI_nat, List.getElem?_eq_getElem hk], ?_⟩
  simp [List.getD, hk]

theorem foldN_l {S α : Type} (f : S → α → S) : ∀ (l : List α) (i : Nat) (s : S), foldN (fun _ s a => f s a) i s l = l.foldl f s
  | [], i, s => rfl
  | x :: l, i, s => foldN_l f l (i + 1) (f s x)

theorem reachL_I (hp : pOk p) : ∀ (w : List Int) (s : List Int), s.length = n → allP p s → (reachL p n ms s w).length = n ∧ allP p (reachL p n ms s w)
  | [], s, h1, h2 => ⟨h1, h2⟩
  | c :: w, s, h1, h2 => reachL_I hp w (stepR p n ms s c) stepR_len (stepR_in hp)

theorem g_reachI (H : AutOk p n a ms b) {w : List Int} (hw : wOk ms.length w) (hl : w.length ≤ 1048576) : G_impl_wordRow FUEL ((p, (n : Int), a, ms, b), w) = some (reachL p n ms a w) := by
  simp only [G_impl_wordRow]
  rw [show F_impl_copyInts a = some a from if_pos (by have := H.al; have := H.hn; omega), bnd_s]
  simp only [fulI_id, bnd_s]
  have ea : natI (lenN a) = (n : Int) := by rw [nl, H.al]
  rw [ea]
  rw [loopT_foldN w (fun s i => ((w, natI (lenN w), (i : Int)), (p, (n : Int), a, ms, b), ((1 : Int), (n : Int)), s)) (fun _ s => s.length = n ∧ allP p s) (fun _ s c => stepR p n ms s c) (fun s => Sum.inl (((1 : Int), (n : Int)), s)) ?h1 ?h3 (s := a) ⟨H.al, H.ap⟩ ?h0 (FUEL_gt (by omega))]
  case h0 => rfl
  case h1 =>
    intro i s c hc hI
    refine ⟨?_, stepR_len, stepR_in H.p⟩
    obtain ⟨x, hx, hg, hd⟩ := steps_get hw hc
    have ht : F_impl_rawMulMatrix (p, (1, (n : Int), s), x) = _ := mul_row1 H hI.1 hI.2 hx
    simp only
    rw [cnd_t (ltI_in hc), getI_nat, hc, bnd_s, hg, bnd_s]
    obtain ⟨x0, x1, x2⟩ := x
    simp only [winI_id, bnd_s, ht, fulI_id]
    rw [next_i hc (by omega)]
    unfold stepR
    rw [hd]
  case h3 =>
    intro s hI
    simp only
    rw [cnd_f (ltI_end w)]
    try simp only [fulI_id, bnd_s]
  rw [joinK_l]
  simp only [takI_id, bnd_s]
  rw [foldN_l]
  rfl
end

theorem f_impl_wordRow (x : Aut × List Int) (y : List Int) (h : F_impl_wordRow x = some y) : G_impl_wordRow FUEL x = some y := by
  obtain ⟨x, w⟩ := x
  simp only [F_impl_wordRow, F_spec_l34Reach] at h
  split at h
  · rename_i hc
    obtain ⟨p, n, a, ms, b, rfl, H⟩ := autOk_nat hc.1
    rw [← h]
    exact g_reachI H hc.2.1 hc.2.2
  · cases h

theorem weight_mul {p : Int} {n : Nat} {s b : List Int} (hp : pOk p) (hn : n ≤ 12) (hl : s.length = n) (hs : allP p s) (hb : b.length = n) (hB : allP p b) :
    F_impl_rawMulMatrix (p, (1, (n : Int), s), ((n : Int), 1, b)) = some (1, 1, [dotL p s b]) := by
  have e1 : genD 1 n (ofD n s) = s := genD_of (by omega)
  have e2 : genD n 1 (ofD 1 b) = b := genD_of (by omega)
  have h := mulS_nat (r := 1) (k := n) (c := 1) (A := ofD n s) (B := ofD 1 b) hp (by omega) (by omega) (by omega) (by omega) (by omega) (by omega) (ofD_in (by omega) hs) (ofD_in (by omega) hB)
  rw [e1, e2] at h
  have e3 : genD 1 1 (mulF p n (ofD n s) (ofD 1 b)) = [dotL p s b] := by
    show [dotF p (fun t => ofD n s 0 t) (fun t => ofD 1 b t 0) n] = [dotL p s b]
    unfold dotL
    rw [hl]
    have : ∀ k, k ≤ n → dotF p (fun t => ofD n s 0 t) (fun t => ofD 1 b t 0) k = dotF p (fun t => s.getD t 0) (fun t => b.getD t 0) k := by
      intro k
      induction k with
      | zero => intro _; rfl
      | succ k ih =>
        intro hk
        show (dotF _ _ _ k + _) % p = (dotF _ _ _ k + _) % p
        rw [ih (by omega)]
        have a1 : ofD n s 0 k = s.getD k 0 := by unfold ofD; rw [Nat.zero_mul, Nat.zero_add]
        have a2 : ofD 1 b k 0 = b.getD k 0 := by unfold ofD; rw [Nat.mul_one, Nat.add_zero]
        simp only [a1, a2]
    rw [this n (Nat.le_refl n)]
  rw [e3] at h
  exact h

theorem f_impl_rawWordWeight (x : Aut × List Int) (y : Int) (h : F_impl_rawWordWeight x = some y) : G_impl_rawWordWeight FUEL x = some y := by
  obtain ⟨x, w⟩ := x
  simp only [F_impl_rawWordWeight] at h
  split at h
  · rename_i hc
    have hr : F_impl_wordRow (x, w) = some _ := if_pos hc
    obtain ⟨p, n, a, ms, b, rfl, H⟩ := autOk_nat hc.1
    rw [← h]
    simp only [Int.toNat_natCast] at hr
    obtain ⟨h1, h2⟩ := reachL_I (ms := ms) H.p w a H.al H.ap
    simp only [G_impl_rawWordWeight, hr, bnd_s, winI_id]
    rw [show natI (lenN (reachL p n ms a w)) = (n : Int) by rw [nl, h1], show natI (lenN b) = (n : Int) by rw [nl, H.bl], weight_mul H.p H.hn h1 h2 H.bl H.bp, bnd_s]
    simp only
    rw [show chkI 0 (lenN [dotL p (reachL p n ms a w) b]) = some 0 from rfl]
    simp only [bnd_s, weightL, Int.toNat_natCast]
    rfl
  · cases h

theorem wOk_all {k : Nat} {w : List Int} : w.all (fun c => decide (0 ≤ c ∧ c < (k : Int))) = true ↔ wOk k w := by
  simp only [List.all_eq_true, decide_eq_true_eq]
  rfl

theorem f_impl_WordWeight (x : Aut × List Int) (y : Int) (h : F_impl_WordWeight x = some y) : G_impl_WordWeight FUEL x = some y := by
  obtain ⟨x, w⟩ := x
  simp only [F_impl_WordWeight, F_spec_WordWeight] at h
  split at h
  · rename_i hl
    rw [← h]
    have hA : F_impl_AutomatonOk x = some (autOk x) := if_pos hl.1
    cases hx : autOk x with
    | false =>
      rw [if_neg (by simp)]
      obtain ⟨p, n, a, ms, b⟩ := x
      simp only [G_impl_WordWeight, hA, bnd_s, hx]
      rfl
    | true =>
      have hx' := hx
      rw [hx] at hA
      obtain ⟨p, n, a, ms, b, rfl, H⟩ := autOk_nat hx
      simp only [G_impl_WordWeight, hA, bnd_s]
      rw [cnd_f (by rfl), nl]
      by_cases h24 : w.length ≤ 24
      · rw [cnd_f (ltI_f (by omega))]
        rw [loopT_all w (fun i => ((w, w, (w.length : Int), (i : Int)), p, (n : Int), a, ms, b)) (fun c => decide (0 ≤ c ∧ c < (ms.length : Int))) (Sum.inr (-1)) (Sum.inl (w, p, (n : Int), a, ms, b)) ?h1 ?h2 ?h3 ?h0 (FUEL_gt (by omega))]
        case h0 => rfl
        case h1 =>
          intro i c hc hp
          have hp := of_decide_eq_true hp
          simp only
          rw [cnd_t (ltI_t (by have := lt_of_get hc; omega)), getI_nat, hc, bnd_s, cnd_f (ltI_f (by omega)), nl, cnd_f (leI_f (by omega)), next_i hc (by omega)]
        case h2 =>
          intro i c hc hp
          have hp := of_decide_eq_false hp
          simp only
          rw [cnd_t (ltI_t (by have := lt_of_get hc; omega)), getI_nat, hc, bnd_s]
          by_cases h0 : c < 0
          · rw [cnd_t (ltI_t h0)]
          · rw [cnd_f (ltI_f (by omega)), nl, cnd_t (leI_t (by omega))]
        case h3 =>
          simp only
          rw [cnd_f (ltI_f (by omega))]
        by_cases hw : w.all (fun c => decide (0 ≤ c ∧ c < (ms.length : Int))) = true
        · rw [if_pos hw, joinK_l, if_pos (show _ ∧ _ ∧ _ from ⟨by first | trivial | rfl, h24, wOk_all.1 hw⟩)]
          simp only
          rw [show F_impl_rawWordWeight ((p, (n : Int), a, ms, b), w) = some _ from if_pos ⟨hx', wOk_all.1 hw, by show w.length ≤ _; omega⟩, bnd_s]
        · rw [if_neg hw, joinK_r, if_neg (fun h => hw (wOk_all.2 h.2.2))]
      · rw [cnd_t (ltI_t (by omega)), if_neg (fun h => h24 h.2.1)]
  · cases h

end Go.Am
end
section
namespace Go.Am
def alikeB (x y : Aut) : Bool := autOk x && (autOk y && (decide (x.1 = y.1) && decide (x.2.2.2.1.length = y.2.2.2.1.length)))
def F_spec_l34Alike : Aut × Aut → Option Bool := fun (x : Aut × Aut) => if sz_Automaton x.1 ≤ 1048576 ∧ sz_Automaton x.2 ≤ 1048576 then some (alikeB x.1 x.2) else none
def F_impl_sameLetters : Aut × Aut → Option Bool := F_spec_l34Alike
def stM (n : Nat) (ms : List Mx3) (k : Nat) : Mat := ofD n (ms.getD k (0, 0, [])).2.2
def sumM (n : Nat) (A B : Mat) : Mat := fun i j => if i < n ∧ j < n then A i j else if n ≤ i ∧ n ≤ j then B (i - n) (j - n) else 0
def sumSt (n m : Nat) (ms ms2 : List Mx3) (k : Nat) : List Mx3 := (List.range k).map fun t => (((n + m : Nat) : Int), ((n + m : Nat) : Int), genD (n + m) (n + m) (sumM n (stM n ms t) (stM m ms2 t)))
def sumX (x y : Aut) (sg : Int) : Aut := (x.1, ((x.2.1.toNat + y.2.1.toNat : Nat) : Int), x.2.2.1 ++ y.2.2.1, sumSt x.2.1.toNat y.2.1.toNat x.2.2.2.1 y.2.2.2.1 x.2.2.2.1.length, x.2.2.2.2 ++ y.2.2.2.2.map fun v => v * sg % x.1)
def F_impl_rawAddAutomata : Aut × Aut → Option Aut := fun (x : Aut × Aut) => if alikeB x.1 x.2 = true then some (sumX x.1 x.2 1) else none
def F_spec_AddAutomata : Aut × Aut → Option (Aut × Bool) := fun (x : Aut × Aut) =>
  if sz_Automaton x.1 ≤ 1048576 ∧ sz_Automaton x.2 ≤ 1048576 then some (if alikeB x.1 x.2 = true ∧ x.1.2.1 + x.2.2.1 ≤ 12 then (sumX x.1 x.2 1, true) else ((0, 0, [], [], []), false)) else none
def F_impl_AddAutomata : Aut × Aut → Option (Aut × Bool) := F_spec_AddAutomata

def ag_impl_sameLetters : Sig := [(.agg, [.int .i64, .int .i64, .list [.int .i64], .list [.int .i64, .int .i64, .list [.int .i64]], .list [.int .i64]]), (.agg, [.int .i64, .int .i64, .list [.int .i64], .list [.int .i64, .int .i64, .list [.int .i64]], .list [.int .i64]])]
def rs_impl_sameLetters : Sig := [(.one, [.bool])]
def mu_impl_sameLetters : MSig := []
def ag_impl_rawAddAutomata : Sig := [(.agg, [.int .i64, .int .i64, .list [.int .i64], .list [.int .i64, .int .i64, .list [.int .i64]], .list [.int .i64]]), (.agg, [.int .i64, .int .i64, .list [.int .i64], .list [.int .i64, .int .i64, .list [.int .i64]], .list [.int .i64]])]
def rs_impl_rawAddAutomata : Sig := [(.agg, [.int .i64, .int .i64, .list [.int .i64], .list [.int .i64, .int .i64, .list [.int .i64]], .list [.int .i64]])]
def mu_impl_rawAddAutomata : MSig := []
def ag_impl_AddAutomata : Sig := [(.agg, [.int .i64, .int .i64, .list [.int .i64], .list [.int .i64, .int .i64, .list [.int .i64]], .list [.int .i64]]), (.agg, [.int .i64, .int .i64, .list [.int .i64], .list [.int .i64, .int .i64, .list [.int .i64]], .list [.int .i64]])]
def rs_impl_AddAutomata : Sig := [(.agg, [.int .i64, .int .i64, .list [.int .i64], .list [.int .i64, .int .i64, .list [.int .i64]], .list [.int .i64]]), (.one, [.bool])]
def mu_impl_AddAutomata : MSig := []

def G_impl_sameLetters (NN : Nat) : ((Int × (Int × ((List Int) × ((List (Int × (Int × (List Int)))) × (List Int))))) × (Int × (Int × ((List Int) × ((List (Int × (Int × (List Int)))) × (List Int)))))) → (Option Bool) :=
 (fun (((i0, i1, l2, l3, l4), i5, i6, l7, l8, l9) : ((Int × (Int × ((List Int) × ((List (Int × (Int × (List Int)))) × (List Int))))) × (Int × (Int × ((List Int) × ((List (Int × (Int × (List Int)))) × (List Int))))))) =>
 (F_impl_AutomatonOk (i0, i1, l2, l3, l4)).bnd (fun b10 =>
 cnd (b10)
 ((F_impl_AutomatonOk (i5, i6, l7, l8, l9)).bnd (fun b11 =>
 cnd (b11)
 (cnd (eqI i0 i5)
 (some (eqI (natI (lenN l3)) (natI (lenN l8))))
 (some false))
 (some false)))
 (some false)))


def G_impl_rawAddAutomata (NN : Nat) : ((Int × (Int × ((List Int) × ((List (Int × (Int × (List Int)))) × (List Int))))) × (Int × (Int × ((List Int) × ((List (Int × (Int × (List Int)))) × (List Int)))))) → (Option (Int × (Int × ((List Int) × ((List (Int × (Int × (List Int)))) × (List Int)))))) :=
 (fun (((i0, i1, l2, l3, l4), i5, i6, l7, l8, l9) : ((Int × (Int × ((List Int) × ((List (Int × (Int × (List Int)))) × (List Int))))) × (Int × (Int × ((List Int) × ((List (Int × (Int × (List Int)))) × (List Int))))))) =>
 (F_impl_copyInts l2).bnd (fun l10 =>
 (fulI 0 (lenN l10) (lenN l10)).bnd (fun _ =>
 (fitI (addN (lenN l10) (lenN l7)) 8).bnd (fun _ =>
 (F_impl_copyInts l4).bnd (fun l11 =>
 (fulI 0 (lenN l11) (lenN l11)).bnd (fun _ =>
 (fitI (addN (lenN l11) (lenN l9)) 8).bnd (fun _ =>
 joinK ((fulI 0 0 (lenN (([] : List Int)))).bnd (fun _ =>
 (fulI 0 0 (lenN (([] : List (Int × (Int × (List Int))))))).bnd (fun _ =>
 (fulI 0 0 (lenN (([] : List Int)))).bnd (fun _ =>
 (fulI 0 (addN (lenN l10) (lenN l7)) (lenN (appL l10 l7))).bnd (fun _ =>
 (fulI 0 0 (lenN (([] : List (Int × (Int × (List Int))))))).bnd (fun _ =>
 (fulI 0 (addN (lenN l11) (lenN l9)) (lenN (appL l11 l9))).bnd (fun _ =>
 loopT NN (fun (((l12, i13, i14), (i15, i16, l17, l18, l19), (i20, i21, l22, l23, l24), (i25, i26), (i27, i28), l29, l30, l31, l32, l33, l34) : (((List (Int × (Int × (List Int)))) × (Int × Int)) × ((Int × (Int × ((List Int) × ((List (Int × (Int × (List Int)))) × (List Int))))) × ((Int × (Int × ((List Int) × ((List (Int × (Int × (List Int)))) × (List Int))))) × ((Int × Int) × ((Int × Int) × ((List Int) × ((List (Int × (Int × (List Int)))) × ((List Int) × ((List Int) × ((List (Int × (Int × (List Int)))) × (List Int)))))))))))) =>
 cnd (ltI i14 i13)
 (joinK ((getI l12 i14).bnd (fun (i35, i36, l37) =>
 (F_impl_emptyMatrix (i28, i28)).bnd (fun (i38, i39, l40) =>
 joinK ((fulI 0 (lenN l29) (lenN l29)).bnd (fun _ =>
 (fulI 0 (lenN l30) (lenN l30)).bnd (fun _ =>
 (fulI 0 (lenN l31) (lenN l31)).bnd (fun _ =>
 (fulI 0 (lenN l32) (lenN l32)).bnd (fun _ =>
 (fulI 0 (lenN l33) (lenN l33)).bnd (fun _ =>
 (fulI 0 (lenN l34) (lenN l34)).bnd (fun _ =>
 (fulI 0 (lenN l40) (lenN l40)).bnd (fun _ =>
 loopT NN (fun (((i41, i42, l43, i44, i45), (i46, i47, l48, l49, l50), (i51, i52, l53, l54, l55), (i56, i57), (i58, i59), (i60, i61, l62), (i63, i64), l65, l66, l67, l68, l69, l70, l71) : ((Int × (Int × ((List (Int × (Int × (List Int)))) × (Int × Int)))) × ((Int × (Int × ((List Int) × ((List (Int × (Int × (List Int)))) × (List Int))))) × ((Int × (Int × ((List Int) × ((List (Int × (Int × (List Int)))) × (List Int))))) × ((Int × Int) × ((Int × Int) × ((Int × (Int × (List Int))) × ((Int × Int) × ((List Int) × ((List (Int × (Int × (List Int)))) × ((List Int) × ((List Int) × ((List (Int × (Int × (List Int)))) × ((List Int) × (List Int))))))))))))))) =>
 cnd (ltI i42 i47)
 (joinK ((fulI 0 (lenN l65) (lenN l65)).bnd (fun _ =>
 (fulI 0 (lenN l66) (lenN l66)).bnd (fun _ =>
 (fulI 0 (lenN l67) (lenN l67)).bnd (fun _ =>
 (fulI 0 (lenN l68) (lenN l68)).bnd (fun _ =>
 (fulI 0 (lenN l69) (lenN l69)).bnd (fun _ =>
 (fulI 0 (lenN l70) (lenN l70)).bnd (fun _ =>
 (fulI 0 (lenN l71) (lenN l71)).bnd (fun _ =>
 loopT NN (fun (((i72, i73, i74, l75, i76, i77), (i78, i79, l80, l81, l82), (i83, i84, l85, l86, l87), (i88, i89), (i90, i91), (i92, i93, l94), (i95, i96), l97, l98, l99, l100, l101, l102, l103) : ((Int × (Int × (Int × ((List (Int × (Int × (List Int)))) × (Int × Int))))) × ((Int × (Int × ((List Int) × ((List (Int × (Int × (List Int)))) × (List Int))))) × ((Int × (Int × ((List Int) × ((List (Int × (Int × (List Int)))) × (List Int))))) × ((Int × Int) × ((Int × Int) × ((Int × (Int × (List Int))) × ((Int × Int) × ((List Int) × ((List (Int × (Int × (List Int)))) × ((List Int) × ((List Int) × ((List (Int × (Int × (List Int)))) × ((List Int) × (List Int))))))))))))))) =>
 cnd (ltI i74 i79)
 ((F_impl_Matrix_at ((i92, i93, l94), i73, i74)).bnd (fun i104 =>
 (fulI 0 (lenN l103) (lenN l103)).bnd (fun _ =>
 (F_impl_Matrix_set ((i95, i96, l103), i73, i74, i104)).bnd (fun l105 =>
 (fulI 0 (lenN l97) (lenN l97)).bnd (fun _ =>
 (fulI 0 (lenN l98) (lenN l98)).bnd (fun _ =>
 (fulI 0 (lenN l99) (lenN l99)).bnd (fun _ =>
 (fulI 0 (lenN l100) (lenN l100)).bnd (fun _ =>
 (fulI 0 (lenN l101) (lenN l101)).bnd (fun _ =>
 (fulI 0 (lenN l102) (lenN l102)).bnd (fun _ =>
 (fulI 0 (lenN l103) (lenN l105)).bnd (fun _ =>
 some (Sum.inl ((i72, i73, addI .i64 i74 1, l75, i76, i77), (i78, i79, l80, l81, l82), (i83, i84, l85, l86, l87), (i88, i89), (i90, i91), (i92, i93, l94), (i95, i96), l97, l98, l99, l100, l101, l102, l105)))))))))))))
 (((fulI 0 (lenN l97) (lenN l97)).bnd (fun _ =>
 (fulI 0 (lenN l98) (lenN l98)).bnd (fun _ =>
 (fulI 0 (lenN l99) (lenN l99)).bnd (fun _ =>
 (fulI 0 (lenN l100) (lenN l100)).bnd (fun _ =>
 (fulI 0 (lenN l101) (lenN l101)).bnd (fun _ =>
 (fulI 0 (lenN l102) (lenN l102)).bnd (fun _ =>
 (fulI 0 (lenN l103) (lenN l103)).bnd (fun _ =>
 some (Sum.inl ((i73, i72, l75, i76, i77), (i78, i79, l80, l81, l82), (i83, i84, l85, l86, l87), (i88, i89), (i90, i91), (i92, i93, l94), (i95, i96), l97, l98, l99, l100, l101, l102, l103)))))))))).bnd (fun l106 =>
 some (Sum.inr l106))))
 ((i41, i42, (0 : Int), l43, i44, i45), (i46, i47, l48, l49, l50), (i51, i52, l53, l54, l55), (i56, i57), (i58, i59), (i60, i61, l62), (i63, i64), l65, l66, l67, l68, l69, l70, l71)))))))))
 (fun ((i107, i108, l109, i110, i111), (i112, i113, l114, l115, l116), (i117, i118, l119, l120, l121), (i122, i123), (i124, i125), (i126, i127, l128), (i129, i130), l131, l132, l133, l134, l135, l136, l137) =>
 (fulI 0 (lenN l131) (lenN l131)).bnd (fun _ =>
 (fulI 0 (lenN l132) (lenN l132)).bnd (fun _ =>
 (fulI 0 (lenN l133) (lenN l133)).bnd (fun _ =>
 (fulI 0 (lenN l134) (lenN l134)).bnd (fun _ =>
 (fulI 0 (lenN l135) (lenN l135)).bnd (fun _ =>
 (fulI 0 (lenN l136) (lenN l136)).bnd (fun _ =>
 (fulI 0 (lenN l137) (lenN l137)).bnd (fun _ =>
 some (Sum.inl ((i108, addI .i64 i107 1, l109, i110, i111), (i112, i113, l114, l115, l116), (i117, i118, l119, l120, l121), (i122, i123), (i124, i125), (i126, i127, l128), (i129, i130), l131, l132, l133, l134, l135, l136, l137)))))))))))
 (((fulI 0 (lenN l65) (lenN l65)).bnd (fun _ =>
 (fulI 0 (lenN l66) (lenN l66)).bnd (fun _ =>
 (fulI 0 (lenN l67) (lenN l67)).bnd (fun _ =>
 (fulI 0 (lenN l68) (lenN l68)).bnd (fun _ =>
 (fulI 0 (lenN l69) (lenN l69)).bnd (fun _ =>
 (fulI 0 (lenN l70) (lenN l70)).bnd (fun _ =>
 (fulI 0 (lenN l71) (lenN l71)).bnd (fun _ =>
 some (Sum.inl ((i44, l43, i45, i41), (i46, i47, l48, l49, l50), (i51, i52, l53, l54, l55), (i56, i57), (i58, i59), (i63, i64), l65, l66, l67, l68, l69, l70, l71)))))))))).bnd (fun l138 =>
 some (Sum.inr l138))))
 ((i14, (0 : Int), l12, i13, i14), (i15, i16, l17, l18, l19), (i20, i21, l22, l23, l24), (i25, i26), (i27, i28), (i35, i36, l37), (i38, i39), l29, l30, l31, l32, l33, l34, l40)))))))))
 (fun ((i139, l140, i141, i142), (i143, i144, l145, l146, l147), (i148, i149, l150, l151, l152), (i153, i154), (i155, i156), (i157, i158), l159, l160, l161, l162, l163, l164, l165) =>
 joinK ((fulI 0 (lenN l159) (lenN l159)).bnd (fun _ =>
 (fulI 0 (lenN l160) (lenN l160)).bnd (fun _ =>
 (fulI 0 (lenN l161) (lenN l161)).bnd (fun _ =>
 (fulI 0 (lenN l162) (lenN l162)).bnd (fun _ =>
 (fulI 0 (lenN l163) (lenN l163)).bnd (fun _ =>
 (fulI 0 (lenN l164) (lenN l164)).bnd (fun _ =>
 (fulI 0 (lenN l165) (lenN l165)).bnd (fun _ =>
 loopT NN (fun (((i166, i167, l168, i169, i170), (i171, i172, l173, l174, l175), (i176, i177, l178, l179, l180), (i181, i182), (i183, i184), (i185, i186), l187, l188, l189, l190, l191, l192, l193) : ((Int × (Int × ((List (Int × (Int × (List Int)))) × (Int × Int)))) × ((Int × (Int × ((List Int) × ((List (Int × (Int × (List Int)))) × (List Int))))) × ((Int × (Int × ((List Int) × ((List (Int × (Int × (List Int)))) × (List Int))))) × ((Int × Int) × ((Int × Int) × ((Int × Int) × ((List Int) × ((List (Int × (Int × (List Int)))) × ((List Int) × ((List Int) × ((List (Int × (Int × (List Int)))) × ((List Int) × (List Int)))))))))))))) =>
 cnd (ltI i167 i177)
 (joinK ((fulI 0 (lenN l187) (lenN l187)).bnd (fun _ =>
 (fulI 0 (lenN l188) (lenN l188)).bnd (fun _ =>
 (fulI 0 (lenN l189) (lenN l189)).bnd (fun _ =>
 (fulI 0 (lenN l190) (lenN l190)).bnd (fun _ =>
 (fulI 0 (lenN l191) (lenN l191)).bnd (fun _ =>
 (fulI 0 (lenN l192) (lenN l192)).bnd (fun _ =>
 (fulI 0 (lenN l193) (lenN l193)).bnd (fun _ =>
 loopT NN (fun (((i194, i195, i196, l197, i198, i199), (i200, i201, l202, l203, l204), (i205, i206, l207, l208, l209), (i210, i211), (i212, i213), (i214, i215), l216, l217, l218, l219, l220, l221, l222) : ((Int × (Int × (Int × ((List (Int × (Int × (List Int)))) × (Int × Int))))) × ((Int × (Int × ((List Int) × ((List (Int × (Int × (List Int)))) × (List Int))))) × ((Int × (Int × ((List Int) × ((List (Int × (Int × (List Int)))) × (List Int))))) × ((Int × Int) × ((Int × Int) × ((Int × Int) × ((List Int) × ((List (Int × (Int × (List Int)))) × ((List Int) × ((List Int) × ((List (Int × (Int × (List Int)))) × ((List Int) × (List Int)))))))))))))) =>
 cnd (ltI i196 i206)
 ((getI l208 i194).bnd (fun (i223, i224, l225) =>
 (F_impl_Matrix_at ((i223, i224, l225), i195, i196)).bnd (fun i226 =>
 (fulI 0 (lenN l222) (lenN l222)).bnd (fun _ =>
 (F_impl_Matrix_set ((i214, i215, l222), addI .i64 i201 i195, addI .i64 i201 i196, i226)).bnd (fun l227 =>
 (fulI 0 (lenN l216) (lenN l216)).bnd (fun _ =>
 (fulI 0 (lenN l217) (lenN l217)).bnd (fun _ =>
 (fulI 0 (lenN l218) (lenN l218)).bnd (fun _ =>
 (fulI 0 (lenN l219) (lenN l219)).bnd (fun _ =>
 (fulI 0 (lenN l220) (lenN l220)).bnd (fun _ =>
 (fulI 0 (lenN l221) (lenN l221)).bnd (fun _ =>
 (fulI 0 (lenN l222) (lenN l227)).bnd (fun _ =>
 some (Sum.inl ((i194, i195, addI .i64 i196 1, l197, i198, i199), (i200, i201, l202, l203, l204), (i205, i206, l207, l208, l209), (i210, i211), (i212, i213), (i214, i215), l216, l217, l218, l219, l220, l221, l227))))))))))))))
 (((fulI 0 (lenN l216) (lenN l216)).bnd (fun _ =>
 (fulI 0 (lenN l217) (lenN l217)).bnd (fun _ =>
 (fulI 0 (lenN l218) (lenN l218)).bnd (fun _ =>
 (fulI 0 (lenN l219) (lenN l219)).bnd (fun _ =>
 (fulI 0 (lenN l220) (lenN l220)).bnd (fun _ =>
 (fulI 0 (lenN l221) (lenN l221)).bnd (fun _ =>
 (fulI 0 (lenN l222) (lenN l222)).bnd (fun _ =>
 some (Sum.inl ((i195, i194, l197, i198, i199), (i200, i201, l202, l203, l204), (i205, i206, l207, l208, l209), (i210, i211), (i212, i213), (i214, i215), l216, l217, l218, l219, l220, l221, l222)))))))))).bnd (fun l228 =>
 some (Sum.inr l228))))
 ((i166, i167, (0 : Int), l168, i169, i170), (i171, i172, l173, l174, l175), (i176, i177, l178, l179, l180), (i181, i182), (i183, i184), (i185, i186), l187, l188, l189, l190, l191, l192, l193)))))))))
 (fun ((i229, i230, l231, i232, i233), (i234, i235, l236, l237, l238), (i239, i240, l241, l242, l243), (i244, i245), (i246, i247), (i248, i249), l250, l251, l252, l253, l254, l255, l256) =>
 (fulI 0 (lenN l250) (lenN l250)).bnd (fun _ =>
 (fulI 0 (lenN l251) (lenN l251)).bnd (fun _ =>
 (fulI 0 (lenN l252) (lenN l252)).bnd (fun _ =>
 (fulI 0 (lenN l253) (lenN l253)).bnd (fun _ =>
 (fulI 0 (lenN l254) (lenN l254)).bnd (fun _ =>
 (fulI 0 (lenN l255) (lenN l255)).bnd (fun _ =>
 (fulI 0 (lenN l256) (lenN l256)).bnd (fun _ =>
 some (Sum.inl ((i230, addI .i64 i229 1, l231, i232, i233), (i234, i235, l236, l237, l238), (i239, i240, l241, l242, l243), (i244, i245), (i246, i247), (i248, i249), l250, l251, l252, l253, l254, l255, l256)))))))))))
 (((fulI 0 (lenN l187) (lenN l187)).bnd (fun _ =>
 (fulI 0 (lenN l188) (lenN l188)).bnd (fun _ =>
 (fulI 0 (lenN l189) (lenN l189)).bnd (fun _ =>
 (fulI 0 (lenN l190) (lenN l190)).bnd (fun _ =>
 (fulI 0 (lenN l191) (lenN l191)).bnd (fun _ =>
 (fulI 0 (lenN l192) (lenN l192)).bnd (fun _ =>
 (fulI 0 (lenN l193) (lenN l193)).bnd (fun _ =>
 some (Sum.inl ((i170, l168, i169), (i171, i172, l173, l174, l175), (i176, i177, l178, l179, l180), (i181, i182), (i183, i184), (i185, i186), l187, l188, l189, l190, l191, l192, l193)))))))))).bnd (fun l257 =>
 some (Sum.inr l257))))
 ((i142, (0 : Int), l140, i139, i141), (i143, i144, l145, l146, l147), (i148, i149, l150, l151, l152), (i153, i154), (i155, i156), (i157, i158), l159, l160, l161, l162, l163, l164, l165)))))))))
 (fun ((i258, l259, i260), (i261, i262, l263, l264, l265), (i266, i267, l268, l269, l270), (i271, i272), (i273, i274), (i275, i276), l277, l278, l279, l280, l281, l282, l283) =>
 (takI l283 (lenN l283)).bnd (fun l284 =>
 (fulI 0 (lenN l281) (lenN l281)).bnd (fun _ =>
 (fulI 0 1 (lenN (((i275, i276, l284) :: ([] : List (Int × (Int × (List Int)))))))).bnd (fun _ =>
 (fitI (addN (lenN l281) (lenN (((i275, i276, l284) :: ([] : List (Int × (Int × (List Int)))))))) 40).bnd (fun _ =>
 (fulI 0 (lenN l277) (lenN l277)).bnd (fun _ =>
 (fulI 0 (lenN l278) (lenN l278)).bnd (fun _ =>
 (fulI 0 (lenN l279) (lenN l279)).bnd (fun _ =>
 (fulI 0 (lenN l280) (lenN l280)).bnd (fun _ =>
 (fulI 0 (addN (lenN l281) (lenN (((i275, i276, l284) :: ([] : List (Int × (Int × (List Int)))))))) (lenN (appL l281 (((i275, i276, l284) :: ([] : List (Int × (Int × (List Int))))))))).bnd (fun _ =>
 (fulI 0 (lenN l282) (lenN l282)).bnd (fun _ =>
 some (Sum.inl ((i258, l259, i260), (i261, i262, l263, l264, l265), (i266, i267, l268, l269, l270), (i271, i272), (i273, i274), l277, l278, l279, l280, appL l281 (((i275, i276, l284) :: ([] : List (Int × (Int × (List Int)))))), l282)))))))))))))))))
 (fun ((i285, l286, i287), (i288, i289, l290, l291, l292), (i293, i294, l295, l296, l297), (i298, i299), (i300, i301), l302, l303, l304, l305, l306, l307) =>
 (fulI 0 (lenN l302) (lenN l302)).bnd (fun _ =>
 (fulI 0 (lenN l303) (lenN l303)).bnd (fun _ =>
 (fulI 0 (lenN l304) (lenN l304)).bnd (fun _ =>
 (fulI 0 (lenN l305) (lenN l305)).bnd (fun _ =>
 (fulI 0 (lenN l306) (lenN l306)).bnd (fun _ =>
 (fulI 0 (lenN l307) (lenN l307)).bnd (fun _ =>
 some (Sum.inl ((l286, i287, addI .i64 i285 1), (i288, i289, l290, l291, l292), (i293, i294, l295, l296, l297), (i298, i299), (i300, i301), l302, l303, l304, l305, l306, l307))))))))))
 (((fulI 0 (lenN l29) (lenN l29)).bnd (fun _ =>
 (fulI 0 (lenN l30) (lenN l30)).bnd (fun _ =>
 (fulI 0 (lenN l31) (lenN l31)).bnd (fun _ =>
 (fulI 0 (lenN l32) (lenN l32)).bnd (fun _ =>
 (fulI 0 (lenN l33) (lenN l33)).bnd (fun _ =>
 (fulI 0 (lenN l34) (lenN l34)).bnd (fun _ =>
 some (Sum.inl ((i25, i26), (i27, i28), l29, l30, l31, l32, l33, l34))))))))).bnd (fun l308 =>
 some (Sum.inr l308))))
 ((l3, natI (lenN l3), (0 : Int)), (i0, i1, l2, l3, l4), (i5, i6, l7, l8, l9), ((0 : Int), (0 : Int)), (i0, addI .i64 i1 i6), ([] : List Int), ([] : List (Int × (Int × (List Int)))), ([] : List Int), appL l10 l7, ([] : List (Int × (Int × (List Int)))), appL l11 l9))))))))
 (fun ((i309, i310), (i311, i312), l313, l314, l315, l316, l317, l318) =>
 (takI l316 (lenN l316)).bnd (fun l319 =>
 (takI l317 (lenN l317)).bnd (fun l320 =>
 (takI l318 (lenN l318)).bnd (fun l321 =>
 some (i311, i312, l319, l320, l321))))))))))))


def G_impl_AddAutomata (NN : Nat) : ((Int × (Int × ((List Int) × ((List (Int × (Int × (List Int)))) × (List Int))))) × (Int × (Int × ((List Int) × ((List (Int × (Int × (List Int)))) × (List Int)))))) → (Option ((Int × (Int × ((List Int) × ((List (Int × (Int × (List Int)))) × (List Int))))) × Bool)) :=
 (fun (((i0, i1, l2, l3, l4), i5, i6, l7, l8, l9) : ((Int × (Int × ((List Int) × ((List (Int × (Int × (List Int)))) × (List Int))))) × (Int × (Int × ((List Int) × ((List (Int × (Int × (List Int)))) × (List Int))))))) =>
 (F_impl_sameLetters ((i0, i1, l2, l3, l4), i5, i6, l7, l8, l9)).bnd (fun b10 =>
 cnd (notB b10)
 (some (((0 : Int), (0 : Int), ([] : List Int), ([] : List (Int × (Int × (List Int)))), ([] : List Int)), false))
 (cnd (ltI (12 : Int) (addI .i64 i1 i6))
 (some (((0 : Int), (0 : Int), ([] : List Int), ([] : List (Int × (Int × (List Int)))), ([] : List Int)), false))
 ((F_impl_rawAddAutomata ((i0, i1, l2, l3, l4), i5, i6, l7, l8, l9)).bnd (fun (i11, i12, l13, l14, l15) =>
 (takI l13 (lenN l13)).bnd (fun l16 =>
 (takI l14 (lenN l14)).bnd (fun l17 =>
 (takI l15 (lenN l15)).bnd (fun l18 =>
 some ((i11, i12, l16, l17, l18), true)))))))))


/-! ### sums of automata -/

def sum1 (n : Nat) (A : Mat) (i j : Nat) : Mat := fun a b => if a < i ∧ b < n ∨ a = i ∧ b < j then A a b else 0
def sum2 (n : Nat) (A B : Mat) (i j : Nat) : Mat := fun a b => if a < n ∧ b < n then A a b else if n ≤ a ∧ n ≤ b ∧ (a < n + i ∨ a = n + i ∧ b < n + j) then B (a - n) (b - n) else 0

theorem sum1_0 {r c : Nat} (n : Nat) (A : Mat) : genD r c (sum1 n A 0 0) = genD r c fun _ _ => 0 := genD_congr fun a _ b _ => if_neg (by omega)
theorem sum1_step {r c : Nat} (n : Nat) (A : Mat) (i j : Nat) : genD r c (updM (sum1 n A i j) i j (A i j)) = genD r c (sum1 n A i (j + 1)) := by
  refine genD_congr fun a ha b hb => ?_
  unfold updM sum1
  by_cases h : a = i ∧ b = j
  · obtain ⟨rfl, rfl⟩ := h
    rw [if_pos ⟨rfl, rfl⟩, if_pos (by omega)]
  · rw [if_neg h]
    by_cases h1 : a < i ∧ b < n ∨ a = i ∧ b < j
    · rw [if_pos h1, if_pos (by omega)]
    · rw [if_neg h1, if_neg (by omega)]
theorem sum1_row {r c : Nat} (n : Nat) (A : Mat) (i : Nat) : genD r c (sum1 n A i n) = genD r c (sum1 n A (i + 1) 0) := by
  refine genD_congr fun a ha b hb => ?_
  unfold sum1
  by_cases h1 : a < i ∧ b < n ∨ a = i ∧ b < n
  · rw [if_pos h1, if_pos (by omega)]
  · rw [if_neg h1, if_neg (by omega)]
theorem sum12 {r c : Nat} (n : Nat) (A B : Mat) : genD r c (sum1 n A n 0) = genD r c (sum2 n A B 0 0) := by
  refine genD_congr fun a ha b hb => ?_
  unfold sum1 sum2
  by_cases h1 : a < n ∧ b < n
  · rw [if_pos (by omega), if_pos h1]
  · rw [if_neg (by omega), if_neg h1, if_neg (by omega)]
theorem sum2_step {r c : Nat} (n : Nat) (A B : Mat) (i j : Nat) : genD r c (updM (sum2 n A B i j) (n + i) (n + j) (B i j)) = genD r c (sum2 n A B i (j + 1)) := by
  refine genD_congr fun a ha b hb => ?_
  unfold updM sum2
  by_cases h : a = n + i ∧ b = n + j
  · obtain ⟨rfl, rfl⟩ := h
    rw [if_pos ⟨rfl, rfl⟩, if_neg (by omega), if_pos (by omega), Nat.add_sub_cancel_left, Nat.add_sub_cancel_left]
  · rw [if_neg h]
    by_cases h0 : a < n ∧ b < n
    · rw [if_pos h0, if_pos h0]
    · rw [if_neg h0, if_neg h0]
      by_cases h1 : n ≤ a ∧ n ≤ b ∧ (a < n + i ∨ a = n + i ∧ b < n + j)
      · rw [if_pos h1, if_pos (by omega)]
      · rw [if_neg h1, if_neg (by omega)]
theorem sum2_row {r m : Nat} (n : Nat) (A B : Mat) (i : Nat) : genD r (n + m) (sum2 n A B i m) = genD r (n + m) (sum2 n A B (i + 1) 0) := by
  refine genD_congr fun a ha b hb => ?_
  unfold sum2
  by_cases h0 : a < n ∧ b < n
  · rw [if_pos h0, if_pos h0]
  · rw [if_neg h0, if_neg h0]
    by_cases h1 : n ≤ a ∧ n ≤ b ∧ (a < n + i ∨ a = n + i ∧ b < n + m)
    · rw [if_pos h1, if_pos (by omega)]
    · rw [if_neg h1, if_neg (by omega)]
theorem sum2_end {m c : Nat} (n : Nat) (A B : Mat) : genD (n + m) c (sum2 n A B m 0) = genD (n + m) c (sumM n A B) := by
  refine genD_congr fun a ha b hb => ?_
  unfold sum2 sumM
  by_cases h0 : a < n ∧ b < n
  · rw [if_pos h0, if_pos h0]
  · rw [if_neg h0, if_neg h0]
    by_cases h1 : n ≤ a ∧ n ≤ b
    · rw [if_pos h1, if_pos (by omega)]
    · rw [if_neg h1, if_neg (by omega)]
theorem sumSt_succ (n m : Nat) (ms ms2 : List Mx3) (k : Nat) : sumSt n m ms ms2 k ++ [(((n + m : Nat) : Int), ((n + m : Nat) : Int), genD (n + m) (n + m) (sumM n (stM n ms k) (stM m ms2 k)))] = sumSt n m ms ms2 (k + 1) := by
  unfold sumSt
  rw [List.range_succ, List.map_append]
  rfl
theorem sumSt_len (n m : Nat) (ms ms2 : List Mx3) (k : Nat) : (sumSt n m ms ms2 k).length = k := by simp [sumSt]
theorem app_len {α : Type} (l r : List α) : fulI 0 (addN (lenN l) (lenN r)) (lenN (l ++ r)) = some () := fulI_ok (by simp [addN, lenN])
theorem fulI_nil {α : Type} : fulI 0 0 (lenN ([] : List α)) = some () := rfl
theorem appL_eq {α : Type} (l r : List α) : appL l r = l ++ r := rfl

section
variable {p : Int} {n m : Nat} {a b a2 b2 : List Int} {ms ms2 : List Mx3}

theorem stM_get (H : AutOk p n a ms b) {k : Nat} (hk : k < ms.length) : ms[k]? = some ((n : Int), (n : Int), genD n n (stM n ms k)) ∧ inM p n n (stM n ms k) := by
  obtain ⟨M, hM, hi⟩ := H.hm ms[k] (List.getElem_mem hk)
  have e : ms.getD k (0, 0, []) = ms[k] := by simp [List.getD, hk]
  have e2 : genD n n (stM n ms k) = genD n n M := by unfold stM; rw [e, hM]; exact genD_of (genD_len _ _ _)
  refine ⟨by rw [List.getElem?_eq_getElem hk, e2, hM], ?_⟩
  unfold stM
  rw [e, hM]
  exact ofD_in (genD_len _ _ _) (allP_gen.2 hi)

theorem g_rawAdd (H : AutOk p n a ms b) (H2 : AutOk p m a2 ms2 b2) (hms : ms.length = ms2.length) :
    G_impl_rawAddAutomata FUEL ((p, (n : Int), a, ms, b), p, (m : Int), a2, ms2, b2) = some (p, ((n + m : Nat) : Int), a ++ a2, sumSt n m ms ms2 ms.length, b ++ b2) := by
  have hn := H.hn
  have hm := H2.hn
  have h4 := H.l4
  have h3 := H.al
  have h5 := H.bl
  have h6 := H2.al
  have h7 := H2.bl
  have hNN : (n + m) * (n + m) ≤ 24 * 24 := Nat.mul_le_mul (by omega) (by omega)
  have hnn : n * n ≤ 24 * 24 := Nat.mul_le_mul (by omega) (by omega)
  have hmm : m * m ≤ 24 * 24 := Nat.mul_le_mul (by omega) (by omega)
  simp only [G_impl_rawAddAutomata]
  rw [show F_impl_copyInts a = some a from if_pos (by omega), bnd_s]
  try simp only [fulI_id, fulI_nil, bnd_s]
  rw [fitI_ok (show (addN (lenN a) (lenN a2)) * 8 ≤ maxBytes by simp only [addN, lenN, maxBytes]; omega), bnd_s, show F_impl_copyInts b = some b from if_pos (by omega), bnd_s]
  try simp only [fulI_id, fulI_nil, bnd_s]
  rw [fitI_ok (show (addN (lenN b) (lenN b2)) * 8 ≤ maxBytes by simp only [addN, lenN, maxBytes]; omega), bnd_s]
  simp only [fulI_id, fulI_nil, bnd_s, appL_eq, app_len, addNN (show n + m ≤ 1099511627776 by omega), nl]
  rw [loopT_seq (fun k => ((ms, (ms.length : Int), (k : Int)), (p, (n : Int), a, ms, b), (p, (m : Int), a2, ms2, b2), ((0 : Int), (0 : Int)), (p, ((n + m : Nat) : Int)), ([] : List Int), ([] : List (Int × Int × List Int)), ([] : List Int), (a ++ a2), sumSt n m ms ms2 k, (b ++ b2))) ms.length ?a1 ?a2 ?a3 (FUEL_gt (by omega))]
  case a3 => rfl
  case a2 => simp only; rw [cnd_f (ltN_f (Nat.le_refl _))]; try (simp only [fulI_id, fulI_nil, bnd_s])
  case a1 =>
    intro k hk
    obtain ⟨g1, g2⟩ := stM_get H hk
    obtain ⟨g3, g4⟩ := stM_get H2 (show k < ms2.length by omega)
    simp only
    rw [cnd_t (ltN_t hk), getI_nat, g1, bnd_s]
    simp only
    rw [newI_nat (by omega) (by omega) (by omega), bnd_s]
    try simp only [fulI_id, fulI_nil, bnd_s]
    rw [loopT_seq (fun i => (((k : Int), (i : Int), ms, (ms.length : Int), (k : Int)), (p, (n : Int), a, ms, b), (p, (m : Int), a2, ms2, b2), ((0 : Int), (0 : Int)), (p, ((n + m : Nat) : Int)), ((n : Int), (n : Int), genD n n (stM n ms k)), (((n + m : Nat) : Int), ((n + m : Nat) : Int)), ([] : List Int), ([] : List (Int × Int × List Int)), ([] : List Int), (a ++ a2), sumSt n m ms ms2 k, (b ++ b2), genD (n + m) (n + m) (sum1 n (stM n ms k) i 0))) n ?b1 ?b2 ?b3 (FUEL_gt (by omega))]
    case b3 => simp only [sum1_0]; try rfl
    case b2 => simp only; rw [cnd_f (ltN_f (Nat.le_refl _))]; try (simp only [fulI_id, fulI_nil, bnd_s])
    case b1 =>
      intro i hi
      simp only
      rw [cnd_t (ltN_t hi)]
      rw [loopT_seq (fun j => (((k : Int), (i : Int), (j : Int), ms, (ms.length : Int), (k : Int)), (p, (n : Int), a, ms, b), (p, (m : Int), a2, ms2, b2), ((0 : Int), (0 : Int)), (p, ((n + m : Nat) : Int)), ((n : Int), (n : Int), genD n n (stM n ms k)), (((n + m : Nat) : Int), ((n + m : Nat) : Int)), ([] : List Int), ([] : List (Int × Int × List Int)), ([] : List Int), (a ++ a2), sumSt n m ms ms2 k, (b ++ b2), genD (n + m) (n + m) (sum1 n (stM n ms k) i j))) n ?c1 ?c2 ?c3 (FUEL_gt (by omega))]
      case c3 => rfl
      case c2 => simp only; rw [cnd_f (ltN_f (Nat.le_refl _))]; try (simp only [fulI_id, fulI_nil, bnd_s])
      case c1 =>
        intro j hj
        simp only
        rw [cnd_t (ltN_t hj), at_nat (by omega) (by omega) (by omega) hi hj, bnd_s, set_nat (by omega) (by omega) (by omega) (show i < n + m by omega) (show j < n + m by omega)]
        simp only [bnd_s, fulI_gen, addN1 (show j ≤ 1048577 by omega)]
        rw [sum1_step]
      rw [joinK_l]
      simp only [addN1 (show i ≤ 1048577 by omega)]
      rw [sum1_row]
    rw [joinK_l]
    simp only
    rw [loopT_seq (fun i => (((k : Int), (i : Int), ms, (ms.length : Int), (k : Int)), (p, (n : Int), a, ms, b), (p, (m : Int), a2, ms2, b2), ((0 : Int), (0 : Int)), (p, ((n + m : Nat) : Int)), (((n + m : Nat) : Int), ((n + m : Nat) : Int)), ([] : List Int), ([] : List (Int × Int × List Int)), ([] : List Int), (a ++ a2), sumSt n m ms ms2 k, (b ++ b2), genD (n + m) (n + m) (sum2 n (stM n ms k) (stM m ms2 k) i 0))) m ?d1 ?d2 ?d3 (FUEL_gt (by omega))]
    case d3 => simp only [sum12 n (stM n ms k) (stM m ms2 k)]; try rfl
    case d2 => simp only; rw [cnd_f (ltN_f (Nat.le_refl _))]; try (simp only [fulI_id, fulI_nil, bnd_s])
    case d1 =>
      intro i hi
      simp only
      rw [cnd_t (ltN_t hi)]
      rw [loopT_seq (fun j => (((k : Int), (i : Int), (j : Int), ms, (ms.length : Int), (k : Int)), (p, (n : Int), a, ms, b), (p, (m : Int), a2, ms2, b2), ((0 : Int), (0 : Int)), (p, ((n + m : Nat) : Int)), (((n + m : Nat) : Int), ((n + m : Nat) : Int)), ([] : List Int), ([] : List (Int × Int × List Int)), ([] : List Int), (a ++ a2), sumSt n m ms ms2 k, (b ++ b2), genD (n + m) (n + m) (sum2 n (stM n ms k) (stM m ms2 k) i j))) m ?e1 ?e2 ?e3 (FUEL_gt (by omega))]
      case e3 => rfl
      case e2 => simp only; rw [cnd_f (ltN_f (Nat.le_refl _))]; try (simp only [fulI_id, fulI_nil, bnd_s])
      case e1 =>
        intro j hj
        simp only
        rw [cnd_t (ltN_t hj), getI_nat, g3, bnd_s]
        simp only
        rw [at_nat (by omega) (by omega) (by omega) hi hj, bnd_s, addNN (show n + i ≤ 1099511627776 by omega), addNN (show n + j ≤ 1099511627776 by omega), set_nat (by omega) (by omega) (by omega) (show n + i < n + m by omega) (show n + j < n + m by omega)]
        simp only [bnd_s, fulI_gen, addN1 (show j ≤ 1048577 by omega)]
        rw [sum2_step]
      rw [joinK_l]
      simp only [addN1 (show i ≤ 1048577 by omega)]
      rw [sum2_row]
    rw [joinK_l]
    simp only [takI_id, bnd_s]
    rw [sum2_end]
    simp only [show fulI 0 1 (lenN [(((n + m : Nat) : Int), ((n + m : Nat) : Int), genD (n + m) (n + m) (sumM n (stM n ms k) (stM m ms2 k)))]) = some () from rfl, bnd_s]
    rw [fitI_ok (show (addN (lenN (sumSt n m ms ms2 k)) (lenN [(((n + m : Nat) : Int), ((n + m : Nat) : Int), genD (n + m) (n + m) (sumM n (stM n ms k) (stM m ms2 k)))])) * 40 ≤ maxBytes by simp only [addN, lenN, maxBytes, sumSt_len, List.length_cons, List.length_nil]; omega), bnd_s]
    try simp only [fulI_id, fulI_nil, bnd_s, appL_eq, app_len]
    rw [sumSt_succ, joinK_l]
    try simp only [addN1 (show k ≤ 1048577 by omega)]
  rw [joinK_l]
  simp only [takI_id, bnd_s]
end

section
variable {p sg : Int} {n m : Nat} {a b a2 b2 : List Int} {ms ms2 : List Mx3}

end

theorem alikeB_nat {x y : Aut} (h : alikeB x y = true) : ∃ (p : Int) (n m : Nat) (a b a2 b2 : List Int) (ms ms2 : List Mx3), x = (p, (n : Int), a, ms, b) ∧ y = (p, (m : Int), a2, ms2, b2) ∧ AutOk p n a ms b ∧ AutOk p m a2 ms2 b2 ∧ ms.length = ms2.length := by
  simp only [alikeB, Bool.and_eq_true, decide_eq_true_eq] at h
  obtain ⟨h1, h2, h3, h4⟩ := h
  obtain ⟨p, n, a, ms, b, rfl, H⟩ := autOk_nat h1
  obtain ⟨q, m, a2, ms2, b2, rfl, H2⟩ := autOk_nat h2
  simp only at h3 h4
  subst h3
  exact ⟨p, n, m, a, b, a2, b2, ms, ms2, rfl, rfl, H, H2, h4⟩

theorem f_impl_sameLetters (x : Aut × Aut) (y : Bool) (h : F_impl_sameLetters x = some y) : G_impl_sameLetters FUEL x = some y := by
  obtain ⟨x, z⟩ := x
  simp only [F_impl_sameLetters, F_spec_l34Alike] at h
  split at h
  · rename_i hl
    rw [← h]
    have e1 : F_impl_AutomatonOk x = some (autOk x) := if_pos hl.1
    have e2 : F_impl_AutomatonOk z = some (autOk z) := if_pos hl.2
    obtain ⟨x0, x1, x2, x3, x4⟩ := x
    obtain ⟨z0, z1, z2, z3, z4⟩ := z
    simp only [G_impl_sameLetters, e1, e2, bnd_s, alikeB]
    cases autOk (x0, x1, x2, x3, x4) with
    | false => rfl
    | true =>
      cases autOk (z0, z1, z2, z3, z4) with
      | false => rfl
      | true =>
        simp only [cnd_true, Bool.true_and]
        by_cases e : x0 = z0
        · rw [cnd_t (by simp [eqI, e]), decide_eq_true e, Bool.true_and]
          congr 1
          rw [nl, nl, eqI]
          rw [Bool.eq_iff_iff]
          simp
          constructor <;> (intro h; omega)
        · rw [cnd_f (by simp [eqI, e]), decide_eq_false e, Bool.false_and]
  · cases h

theorem mul1_map {p : Int} {l : List Int} (h : allP p l) : (l.map fun v => v * 1 % p) = l := by
  have : ∀ v ∈ l, v * 1 % p = v := fun v hv => by rw [Int.mul_one]; exact Int.emod_eq_of_lt (h v hv).1 (h v hv).2
  rw [List.map_congr_left this, List.map_id']

theorem f_impl_rawAddAutomata (x : Aut × Aut) (y : Aut) (h : F_impl_rawAddAutomata x = some y) : G_impl_rawAddAutomata FUEL x = some y := by
  obtain ⟨x, z⟩ := x
  simp only [F_impl_rawAddAutomata] at h
  split at h
  · rename_i hc
    obtain ⟨p, n, m, a, b, a2, b2, ms, ms2, rfl, rfl, H, H2, hl⟩ := alikeB_nat hc
    rw [← h, g_rawAdd H H2 hl]
    simp only [sumX, Int.toNat_natCast, mul1_map H2.bp]
  · cases h

theorem f_impl_AddAutomata (x : Aut × Aut) (y : Aut × Bool) (h : F_impl_AddAutomata x = some y) : G_impl_AddAutomata FUEL x = some y := by
  obtain ⟨x, z⟩ := x
  simp only [F_impl_AddAutomata, F_spec_AddAutomata] at h
  split at h
  · rename_i hl
    rw [← h]
    have e0 : F_impl_sameLetters (x, z) = some (alikeB x z) := if_pos hl
    cases hb : alikeB x z with
    | false =>
      obtain ⟨x0, x1, x2, x3, x4⟩ := x
      obtain ⟨z0, z1, z2, z3, z4⟩ := z
      simp only [G_impl_AddAutomata, e0, bnd_s, hb]
      rfl
    | true =>
      have hb' := hb
      rw [hb] at e0
      obtain ⟨p, n, m, a, b, a2, b2, ms, ms2, rfl, rfl, H, H2, hl2⟩ := alikeB_nat hb
      have hn := H.hn
      have hm := H2.hn
      simp only [G_impl_AddAutomata, e0, bnd_s]
      rw [cnd_f (by rfl), addNN (show n + m ≤ 1099511627776 by omega)]
      by_cases h12 : n + m ≤ 12
      · rw [cnd_f (ltI_f (by omega)), if_pos (show _ ∧ _ from ⟨by first | trivial | rfl, by show (n : Int) + (m : Int) ≤ 12; omega⟩)]
        rw [show F_impl_rawAddAutomata ((p, (n : Int), a, ms, b), (p, (m : Int), a2, ms2, b2)) = some _ from if_pos hb', bnd_s]
        simp only [sumX, takI_id, bnd_s]
      · rw [cnd_t (ltI_t (by omega)), if_neg (fun h => h12 (by have h2 : (n : Int) + (m : Int) ≤ 12 := h.2; omega))]
  · cases h
end Go.Am
end
section
namespace Go.Am
/-! ### contracted edges -/

section
variable {n : Int} {d : List (Int × Int)} {a b : Int}
end

end Go.Am
end
section
namespace Go.Am
/-! ### the functions -/

def relab (b a : Int) (l : List Int) : List Int := l.map fun x => if x = b then a else x
def atI (l : List Int) (i : Int) : Int := l.getD i.toNat 0
def iotaI (n : Nat) : List Int := (List.range n).map fun i => ((i : Nat) : Int)
/-- The reference: the number of parts that are left, and each node's part. -/
def partStep (s : Nat) (i : Nat) (st : Int × List Int) (e : Int × Int) : Int × List Int :=
  if s.testBit i = true ∧ atI st.2 e.1 ≠ atI st.2 e.2 then (st.1 - 1, relab (atI st.2 e.2) (atI st.2 e.1) st.2) else st
def parts (n : Int) (es : List (Int × Int)) (s : Int) : Int × List Int := foldN (partStep s.toNat) 0 (n, iotaI n.toNat) es
def leastStep (s : Nat) (i : Nat) (l : List Int) (e : Int × Int) : List Int :=
  if s.testBit i = true then relab (max (atI l e.1) (atI l e.2)) (min (atI l e.1) (atI l e.2)) l else l
def fixes (l : List Int) : Int := ((List.range l.length).countP fun i => l.getD i 0 == (i : Int) : Nat)
/-! ### the functions do so -/

/-! ### parts -/

theorem iotaI_len (n : Nat) : (iotaI n).length = n := by simp [iotaI]
theorem relab_len (b a : Int) (l : List Int) : (relab b a l).length = l.length := by simp [relab]
theorem minI_eq (a b : Int) : minI a b = min a b := by unfold minI; split <;> omega
theorem countP_succ (p : Nat → Bool) (j : Nat) : (List.range (j + 1)).countP p = (List.range j).countP p + (if p j = true then 1 else 0) := by
  rw [List.range_succ, List.countP_append, List.countP_singleton]

/-! ### the parts have as many as the fixed points -/

theorem countP_one (p q : Nat → Bool) (k : Nat) : ∀ n, k < n → (∀ i, i < n → i ≠ k → p i = q i) → p k = true → q k = false → (List.range n).countP p = (List.range n).countP q + 1
  | 0, h, _, _, _ => by omega
  | n + 1, h, hpq, h1, h2 => by
    rw [countP_succ, countP_succ]
    by_cases hk : k = n
    · subst hk
      rw [h1, h2]
      have : (List.range k).countP p = (List.range k).countP q := List.countP_congr fun i hi => by
        have := List.mem_range.1 hi
        rw [hpq i (by omega) (by omega)]
      rw [this]
      simp
    · rw [countP_one p q k n (by omega) (fun i hi => hpq i (by omega)) h1 h2, hpq n (by omega) (by omega)]
      omega

structure PInv (m : Nat) (l : List Int) (c : Int) (q : List Int) : Prop where
  ll : l.length = m
  lq : q.length = m
  same : ∀ i j : Nat, i < m → j < m → (l.getD i 0 = l.getD j 0 ↔ q.getD i 0 = q.getD j 0)
  low : ∀ i : Nat, i < m → 0 ≤ l.getD i 0 ∧ l.getD i 0 ≤ (i : Int) ∧ l.getD (l.getD i 0).toNat 0 = l.getD i 0
  cnt : fixes l = c

theorem relab_getD {b a : Int} {l : List Int} {i : Nat} (h : i < l.length) : (relab b a l).getD i 0 = if l.getD i 0 = b then a else l.getD i 0 := by
  simp [relab, List.getD, List.getElem?_map, List.getElem?_eq_getElem h]

theorem relab_self (b : Int) (l : List Int) : relab b b l = l := by
  unfold relab
  conv => rhs; rw [← List.map_id l]
  refine List.map_congr_left fun x _ => ?_
  split
  · rename_i h; exact h.symm
  · rfl

theorem merge_eq {b a x y : Int} : ((if x = b then a else x) = (if y = b then a else y)) ↔ (x = y ∨ ((x = b ∨ x = a) ∧ (y = b ∨ y = a))) := by
  constructor
  · intro h; split at h <;> split at h <;> omega
  · intro h; split <;> split <;> omega

theorem PInv.step {m : Nat} {l : List Int} {c : Int} {q : List Int} (h : PInv m l c q) {u v : Nat} (hu : u < m) (hv : v < m) {s i : Nat} :
    PInv m (leastStep s i l ((u : Int), (v : Int))) (partStep s i (c, q) ((u : Int), (v : Int))).1 (partStep s i (c, q) ((u : Int), (v : Int))).2 := by
  cases hb : s.testBit i with
  | false =>
    have e1 : leastStep s i l ((u : Int), (v : Int)) = l := if_neg (by rw [hb]; decide)
    have e2 : partStep s i (c, q) ((u : Int), (v : Int)) = (c, q) := if_neg (fun hh => by rw [hb] at hh; exact absurd hh.1 (by decide))
    rw [e1, e2]
    exact h
  | true =>
    have ep : q.getD u 0 = q.getD v 0 → partStep s i (c, q) ((u : Int), (v : Int)) = (c, q) := fun h => if_neg (fun hh => hh.2 h)
    have en : q.getD u 0 ≠ q.getD v 0 → partStep s i (c, q) ((u : Int), (v : Int)) = (c - 1, relab (q.getD v 0) (q.getD u 0) q) := fun h => if_pos ⟨hb, h⟩
    have el : leastStep s i l ((u : Int), (v : Int)) = relab (max (l.getD u 0) (l.getD v 0)) (min (l.getD u 0) (l.getD v 0)) l := if_pos hb
    obtain ⟨ll, lq, same, low, cnt⟩ := h
    by_cases hq : q.getD u 0 = q.getD v 0
    · have hl := (same u v hu hv).2 hq
      rw [ep hq, el, hl, Int.max_self, Int.min_self, relab_self]
      exact ⟨ll, lq, same, low, cnt⟩
    · have hl : l.getD u 0 ≠ l.getD v 0 := fun e => hq ((same u v hu hv).1 e)
      rw [en hq, el]
      obtain ⟨lu0, lu1, lu2⟩ := low u hu
      obtain ⟨lv0, lv1, lv2⟩ := low v hv
      -- lo and hi
      obtain ⟨lo, hi, e1, e2, hlt, hset, hlo0, hlo, hhi, hhim⟩ : ∃ lo hi : Nat, min (l.getD u 0) (l.getD v 0) = (lo : Int) ∧ max (l.getD u 0) (l.getD v 0) = (hi : Int) ∧ lo < hi ∧
          (∀ x : Int, (x = (hi : Int) ∨ x = (lo : Int)) ↔ (x = l.getD v 0 ∨ x = l.getD u 0)) ∧ lo < m ∧ l.getD lo 0 = (lo : Int) ∧ l.getD hi 0 = (hi : Int) ∧ hi < m := by
        obtain ⟨a, ha⟩ := natI_eq lu0
        obtain ⟨b, hb⟩ := natI_eq lv0
        rw [ha, Int.toNat_natCast] at lu2
        rw [hb, Int.toNat_natCast] at lv2
        rw [ha] at lu1 hl
        rw [hb] at lv1 hl
        rw [ha, hb]
        rcases Nat.lt_or_ge a b with hab | hab
        · exact ⟨a, b, by omega, by omega, hab, fun x => by omega, by omega, lu2, lv2, by omega⟩
        · exact ⟨b, a, by omega, by omega, by omega, fun x => by omega, by omega, lv2, lu2, by omega⟩
      rw [e1, e2]
      have gl : ∀ j, j < m → (relab (hi : Int) (lo : Int) l).getD j 0 = if l.getD j 0 = (hi : Int) then (lo : Int) else l.getD j 0 := fun j hj => relab_getD (by omega)
      have gq : ∀ j, j < m → (relab (q.getD v 0) (q.getD u 0) q).getD j 0 = if q.getD j 0 = q.getD v 0 then q.getD u 0 else q.getD j 0 := fun j hj => relab_getD (by omega)
      refine ⟨by rw [relab_len]; exact ll, by rw [relab_len]; exact lq, ?_, ?_, ?_⟩
      · intro x y hx hy
        rw [gl x hx, gl y hy, gq x hx, gq y hy, merge_eq, merge_eq, hset, hset, same x y hx hy, same x u hx hu, same x v hx hv, same y u hy hu, same y v hy hv]
      · intro x hx
        obtain ⟨h0, h1, h2⟩ := low x hx
        rw [gl x hx]
        by_cases hxh : l.getD x 0 = (hi : Int)
        · rw [if_pos hxh]
          refine ⟨by omega, by omega, ?_⟩
          rw [Int.toNat_natCast, gl lo hlo0, hlo, if_neg (by omega)]
        · rw [if_neg hxh]
          refine ⟨h0, h1, ?_⟩
          rw [gl _ (by omega), h2, if_neg hxh]
      · have hc := countP_one (fun j => l.getD j 0 == (j : Int)) (fun j => (relab (hi : Int) (lo : Int) l).getD j 0 == (j : Int)) hi m hhim ?_ (by rw [hhi]; simp) (by rw [gl hi hhim, if_pos hhi]; simp; omega)
        · unfold fixes at cnt ⊢
          rw [relab_len, ll]
          rw [ll, hc] at cnt
          omega
        · intro j hj hne
          rw [gl j hj]
          by_cases hjh : l.getD j 0 = (hi : Int)
          · rw [if_pos hjh, hjh, Bool.eq_iff_iff]
            simp only [beq_iff_eq]
            constructor
            · intro h; omega
            · intro h
              have : lo = j := by omega
              subst this
              omega
          · rw [if_neg hjh]

theorem iotaI_getD {m i : Nat} (h : i < m) : (iotaI m).getD i 0 = (i : Int) := by
  simp [iotaI, List.getD, List.getElem?_map, List.getElem?_range h]

theorem PInv.init (m : Nat) : PInv m (iotaI m) (m : Int) (iotaI m) := by
  refine ⟨iotaI_len m, iotaI_len m, fun _ _ _ _ => Iff.rfl, fun i hi => ?_, ?_⟩
  · rw [iotaI_getD hi, Int.toNat_natCast, iotaI_getD hi]
    omega
  · unfold fixes
    rw [iotaI_len]
    have : (List.range m).countP (fun i => (iotaI m).getD i 0 == (i : Int)) = (List.range m).length := by
      rw [List.countP_eq_length]
      intro i hi
      rw [iotaI_getD (List.mem_range.1 hi)]
      simp
    rw [this, List.length_range]

end Go.Am
end
section
namespace Go.Am

/-! ### loops by an invariant -/

theorem loopT_ex {X Y : Type} {f : X → Option (X ⊕ Y)} (n : Nat) (I : Nat → X → Prop) (Q : Y → Prop)
    (h1 : ∀ i x, i < n → I i x → ∃ x', f x = some (.inl x') ∧ I (i + 1) x') (h2 : ∀ x, I n x → ∃ r, f x = some (.inr r) ∧ Q r) {x0 : X} (h0 : I 0 x0) {N : Nat} (hN : n < N) : ∃ r, loopT N f x0 = some r ∧ Q r := by
  have key : ∀ (k i : Nat) (x : X), i + k = n → I i x → ∀ N, k < N → ∃ r, loopT N f x = some r ∧ Q r := by
    intro k
    induction k with
    | zero =>
      intro i x hi hx N hN
      obtain ⟨N, rfl⟩ : ∃ M, N = M + 1 := ⟨N - 1, by omega⟩
      have : i = n := by omega
      subst this
      obtain ⟨r, e, q⟩ := h2 x hx
      exact ⟨r, by simp only [loopT, e], q⟩
    | succ k ih =>
      intro i x hi hx N hN
      obtain ⟨N, rfl⟩ : ∃ M, N = M + 1 := ⟨N - 1, by omega⟩
      obtain ⟨x', e, hx'⟩ := h1 i x (by omega) hx
      obtain ⟨r, e', q⟩ := ih (i + 1) x' (by omega) hx' N (by omega)
      exact ⟨r, by simp only [loopT, e]; exact e', q⟩
  exact key n 0 x0 (by omega) h0 N hN

/-! ### cursors -/

abbrev Cu : Type := List Int × Int × Int
def CuOk (c : Cu) : Prop := 0 ≤ c.2.1 ∧ c.1.length ≤ 1048576

theorem and_bits (a : Int) : 0 ≤ andI .i64 a 255 ∧ andI .i64 a 255 ≤ 255 := by
  have e : andI .i64 a 255 = IntKind.wrap .i64 (((BitVec.ofInt 64 a &&& BitVec.ofInt 64 255).toNat : Nat) : Int) := rfl
  have h : (BitVec.ofInt 64 a &&& BitVec.ofInt 64 255).toNat ≤ 255 := by
    rw [BitVec.toNat_and]
    exact Nat.le_trans Nat.and_le_right (by decide)
  rw [e]
  generalize (BitVec.ofInt 64 a &&& BitVec.ofInt 64 255).toNat = m at h
  rw [wraps_i64 _ (by omega) (by omega)]
  omega
theorem fulI_nil0 {α : Type} : fulI 0 0 (lenN ([] : List α)) = some () := rfl
theorem fulI_app1 {α : Type} (l : List α) (x : α) : fulI 0 (addN (lenN l) (lenN [x])) (lenN (appL l [x])) = some () := by
  rw [show lenN (appL l [x]) = addN (lenN l) (lenN [x]) by simp [addN, lenN, appL]]; exact fulI_id _

def ag_spec_l01New : Sig := [(.one, [.list [.int .u8]])]
def rs_spec_l01New : Sig := [(.ptr, [.list [.int .u8], .int .i64, .int .i64])]
def mu_spec_l01New : MSig := [[some .bor]]

def G_spec_l01New (NN : Nat) : (List Int) → (Option ((List Int) × (Int × Int))) :=
 (fun (l0 : (List Int)) =>
 joinK (loopT NN (fun ((l1, i2, i3) : ((List Int) × (Int × Int))) =>
 cnd (ltI i3 (natI (lenN l1)))
 (cnd (ltI i3 (4000 : Int))
 ((getI l1 i3).bnd (fun i4 =>
 some (Sum.inl (l1, andI .i64 (addI .i64 (addI .i64 (mulI .i64 i2 131) (convI .i64 i4)) (7 : Int)) (1073741823 : Int), addI .i64 i3 1))))
 (some (Sum.inr (Sum.inl (l1, i2)))))
 (some (Sum.inr (Sum.inl (l1, i2)))))
 (l0, addI .i64 (55127 : Int) (natI (lenN l0)), (0 : Int)))
 (fun (l5, i6) =>
 some (l5, (0 : Int), i6)))

def F_spec_l01New : (List Int) → (Option ((List Int) × (Int × Int))) := G_spec_l01New FUEL
theorem f_spec_l01New (x : (List Int)) (z : ((List Int) × (Int × Int))) (h : F_spec_l01New x = some z) : G_spec_l01New FUEL x = some z := h

def ag_spec_l45At : Sig := [(.one, [.list [.int .u8]]), (.one, [.int .i64])]
def rs_spec_l45At : Sig := [(.ptr, [.list [.int .u8], .int .i64, .int .i64])]
def mu_spec_l45At : MSig := [[some .bor]]

def G_spec_l45At (NN : Nat) : ((List Int) × Int) → (Option ((List Int) × (Int × Int))) :=
 (fun ((l0, i1) : ((List Int) × Int)) =>
 (F_spec_l01New l0).bnd (fun (l2, i3, i4) =>
 some (l2, minI i1 (natI (lenN l0)), andI .i64 (addI .i64 (addI .i64 (mulI .i64 i4 31) (mulI .i64 i1 7919)) (1 : Int)) (1073741823 : Int))))

def F_spec_l45At : ((List Int) × Int) → (Option ((List Int) × (Int × Int))) := G_spec_l45At FUEL
theorem f_spec_l45At (x : ((List Int) × Int)) (z : ((List Int) × (Int × Int))) (h : F_spec_l45At x = some z) : G_spec_l45At FUEL x = some z := h

def ag_spec_l01Byte : Sig := [(.ptr, [.list [.int .u8], .int .i64, .int .i64])]
def rs_spec_l01Byte : Sig := [(.one, [.int .i64]), (.ptr, [.list [.int .u8], .int .i64, .int .i64])]
def mu_spec_l01Byte : MSig := [[some .bor]]

def G_spec_l01Byte (NN : Nat) : ((List Int) × (Int × Int)) → (Option (Int × ((List Int) × (Int × Int)))) :=
 (fun ((l0, i1, i2) : ((List Int) × (Int × Int))) =>
 (shrI .i64 (addI .i64 (mulI .i64 i2 6364136223846793005) (1442695040888963407 : Int)) (33 : Int)).bnd (fun i3 =>
 (shrI .i64 (addI .i64 (mulI .i64 i2 6364136223846793005) (1442695040888963407 : Int)) (45 : Int)).bnd (fun i4 =>
 joinK (cnd (ltI i1 (natI (lenN l0)))
 ((getI l0 i1).bnd (fun i5 =>
 some (Sum.inl (andI .i64 (addI .i64 (andI .i64 (xorI .i64 i3 i4) (255 : Int)) (convI .i64 i5)) (255 : Int), l0, addI .i64 i1 1, addI .i64 (mulI .i64 i2 6364136223846793005) (1442695040888963407 : Int)))))
 (some (Sum.inl (andI .i64 (xorI .i64 i3 i4) (255 : Int), l0, i1, addI .i64 (mulI .i64 i2 6364136223846793005) (1442695040888963407 : Int)))))
 (fun (i6, l7, i8, i9) =>
 some (i6, l7, i8, i9)))))

def F_spec_l01Byte : ((List Int) × (Int × Int)) → (Option (Int × ((List Int) × (Int × Int)))) := G_spec_l01Byte FUEL
theorem f_spec_l01Byte (x : ((List Int) × (Int × Int))) (z : (Int × ((List Int) × (Int × Int)))) (h : F_spec_l01Byte x = some z) : G_spec_l01Byte FUEL x = some z := h

def ag_spec_l01Below : Sig := [(.ptr, [.list [.int .u8], .int .i64, .int .i64]), (.one, [.int .i64])]
def rs_spec_l01Below : Sig := [(.one, [.int .i64]), (.ptr, [.list [.int .u8], .int .i64, .int .i64])]
def mu_spec_l01Below : MSig := [[some .bor]]

def G_spec_l01Below (NN : Nat) : (((List Int) × (Int × Int)) × Int) → (Option (Int × ((List Int) × (Int × Int)))) :=
 (fun (((l0, i1, i2), i3) : (((List Int) × (Int × Int)) × Int)) =>
 cnd (leI i3 (0 : Int))
 (some ((0 : Int), l0, i1, i2))
 ((F_spec_l01Byte (l0, i1, i2)).bnd (fun (i4, l5, i6, i7) =>
 (remI i4 i3).bnd (fun i8 =>
 some (i8, l5, i6, i7)))))

def F_spec_l01Below : (((List Int) × (Int × Int)) × Int) → (Option (Int × ((List Int) × (Int × Int)))) := G_spec_l01Below FUEL
theorem f_spec_l01Below (x : (((List Int) × (Int × Int)) × Int)) (z : (Int × ((List Int) × (Int × Int)))) (h : F_spec_l01Below x = some z) : G_spec_l01Below FUEL x = some z := h

def ag_spec_l01Once : Sig := [(.ptr, [.list [.int .u8], .int .i64, .int .i64]), (.one, [.int .i64])]
def rs_spec_l01Once : Sig := [(.one, [.bool]), (.ptr, [.list [.int .u8], .int .i64, .int .i64])]
def mu_spec_l01Once : MSig := [[some .bor]]

def G_spec_l01Once (NN : Nat) : (((List Int) × (Int × Int)) × Int) → (Option (Bool × ((List Int) × (Int × Int)))) :=
 (fun (((l0, i1, i2), i3) : (((List Int) × (Int × Int)) × Int)) =>
 (F_spec_l01Below ((l0, i1, i2), i3)).bnd (fun (i4, l5, i6, i7) =>
 some (eqI i4 (0 : Int), l5, i6, i7)))

def F_spec_l01Once : (((List Int) × (Int × Int)) × Int) → (Option (Bool × ((List Int) × (Int × Int)))) := G_spec_l01Once FUEL
theorem f_spec_l01Once (x : (((List Int) × (Int × Int)) × Int)) (z : (Bool × ((List Int) × (Int × Int)))) (h : F_spec_l01Once x = some z) : G_spec_l01Once FUEL x = some z := h

def ag_spec_l01Pick : Sig := [(.ptr, [.list [.int .u8], .int .i64, .int .i64]), (.one, [.list [.int .i64]])]
def rs_spec_l01Pick : Sig := [(.one, [.int .i64]), (.ptr, [.list [.int .u8], .int .i64, .int .i64])]
def mu_spec_l01Pick : MSig := [[some .bor]]

def G_spec_l01Pick (NN : Nat) : (((List Int) × (Int × Int)) × (List Int)) → (Option (Int × ((List Int) × (Int × Int)))) :=
 (fun (((l0, i1, i2), l3) : (((List Int) × (Int × Int)) × (List Int))) =>
 (F_spec_l01Below ((l0, i1, i2), natI (lenN l3))).bnd (fun (i4, l5, i6, i7) =>
 (getI l3 i4).bnd (fun i8 =>
 some (i8, l5, i6, i7))))

def F_spec_l01Pick : (((List Int) × (Int × Int)) × (List Int)) → (Option (Int × ((List Int) × (Int × Int)))) := G_spec_l01Pick FUEL
theorem f_spec_l01Pick (x : (((List Int) × (Int × Int)) × (List Int))) (z : (Int × ((List Int) × (Int × Int)))) (h : F_spec_l01Pick x = some z) : G_spec_l01Pick FUEL x = some z := h

theorem byte_ok (c : Cu) (h : CuOk c) : ∃ x c', F_spec_l01Byte c = some (x, c') ∧ (0 ≤ x ∧ x ≤ 255) ∧ CuOk c' := by
  obtain ⟨l, i, k⟩ := c
  obtain ⟨h0, h1⟩ := h
  dsimp only at h0 h1
  obtain ⟨i, rfl⟩ := natI_eq h0
  obtain ⟨s1, e1⟩ : ∃ s, shrI .i64 (addI .i64 (mulI .i64 k (6364136223846793005 : Int)) (1442695040888963407 : Int)) (33 : Int) = some s := ⟨_, if_neg (by decide)⟩
  obtain ⟨s2, e2⟩ : ∃ s, shrI .i64 (addI .i64 (mulI .i64 k (6364136223846793005 : Int)) (1442695040888963407 : Int)) (45 : Int) = some s := ⟨_, if_neg (by decide)⟩
  simp only [F_spec_l01Byte, G_spec_l01Byte]
  rw [e1, e2]
  simp only [Option.bnd, Option.bind]
  by_cases hc : i < l.length
  · rw [cnd_t (ltI_t (by unfold natI lenN; omega))]
    rw [getI_nat, List.getElem?_eq_getElem hc]
    simp only [joinK, Option.bind]
    refine ⟨_, _, rfl, and_bits _, ?_, h1⟩
    dsimp only
    rw [addI_eq (by omega) (by omega)]
    omega
  · rw [cnd_f (ltI_f (by unfold natI lenN; omega))]
    simp only [joinK, Option.bind]
    exact ⟨_, _, rfl, and_bits _, h0, h1⟩

theorem below_ok (c : Cu) (n : Int) (h : CuOk c) (hn : 1 ≤ n) : ∃ x c', F_spec_l01Below (c, n) = some (x, c') ∧ (0 ≤ x ∧ x < n) ∧ x ≤ 255 ∧ CuOk c' := by
  obtain ⟨l, i, k⟩ := c
  obtain ⟨x, ⟨l', i', k'⟩, e, hx, hc⟩ := byte_ok _ h
  simp only [F_spec_l01Below, G_spec_l01Below]
  rw [cnd_f (leI_f (by omega)), e]
  simp only [Option.bnd, Option.bind]
  rw [remI_pos hx.1 (by omega)]
  refine ⟨_, _, rfl, ⟨Int.emod_nonneg _ (by omega), Int.emod_lt_of_pos _ (by omega)⟩, ?_, hc⟩
  have := Int.emod_lt_of_pos x (show 0 < n by omega)
  by_cases hl : x < n
  · rw [Int.emod_eq_of_lt hx.1 hl]; omega
  · omega

theorem once_ok (c : Cu) (n : Int) (h : CuOk c) (hn : 1 ≤ n) : ∃ b c', F_spec_l01Once (c, n) = some (b, c') ∧ CuOk c' := by
  obtain ⟨l, i, k⟩ := c
  obtain ⟨x, ⟨l', i', k'⟩, e, _, _, hc⟩ := below_ok _ n h hn
  simp only [F_spec_l01Once, G_spec_l01Once]
  rw [e]
  exact ⟨_, _, rfl, hc⟩

theorem pick_ok (c : Cu) (l : List Int) (h : CuOk c) (h1 : l ≠ []) (h2 : l.length ≤ 100) : ∃ x c', F_spec_l01Pick (c, l) = some (x, c') ∧ x ∈ l ∧ CuOk c' := by
  obtain ⟨cl, i, k⟩ := c
  have hl : 1 ≤ l.length := by rcases l with _ | ⟨a, l⟩ <;> simp_all
  obtain ⟨x, ⟨l', i', k'⟩, e, hx, _, hc⟩ := below_ok (cl, i, k) (natI (lenN l)) h (by unfold natI lenN; omega)
  simp only [F_spec_l01Pick, G_spec_l01Pick]
  rw [e]
  simp only [Option.bnd, Option.bind]
  obtain ⟨j, rfl⟩ := natI_eq hx.1
  have hj : j < l.length := by unfold natI lenN at hx; omega
  rw [getI_nat, List.getElem?_eq_getElem hj]
  exact ⟨_, _, rfl, List.getElem_mem hj, hc⟩

theorem new_ok (l : List Int) (h : l.length ≤ 1048576) : ∃ c, F_spec_l01New l = some c ∧ CuOk c := by
  simp only [F_spec_l01New, G_spec_l01New]
  generalize hL : loopT FUEL _ _ = o
  obtain ⟨r, rfl, z, rfl⟩ : ∃ r, o = some r ∧ ∃ z, r = Sum.inl (l, z) := by
    rw [← hL]
    refine loopT_ex (min l.length 4000) (fun i (x : List Int × Int × Int) => x.1 = l ∧ x.2.2 = (i : Int)) _ ?_ ?_ ⟨rfl, rfl⟩ (FUEL_gt (by omega))
    · intro i x hi hx
      obtain ⟨l1, i2, i3⟩ := x
      dsimp only at hx ⊢
      obtain ⟨rfl, rfl⟩ := hx
      rw [cnd_t (ltI_t (by unfold natI lenN; omega)), cnd_t (ltI_t (by omega)), getI_nat, List.getElem?_eq_getElem (by omega)]
      exact ⟨_, rfl, rfl, addI_eq (by omega) (by omega)⟩
    · intro x hx
      obtain ⟨l1, i2, i3⟩ := x
      dsimp only at hx ⊢
      obtain ⟨rfl, rfl⟩ := hx
      by_cases hc : l1.length ≤ 4000
      · rw [cnd_f (ltI_f (by unfold natI lenN; omega))]
        exact ⟨_, rfl, _, rfl⟩
      · rw [cnd_t (ltI_t (by unfold natI lenN; omega)), cnd_f (ltI_f (by omega))]
        exact ⟨_, rfl, _, rfl⟩
  exact ⟨_, rfl, Int.le_refl _, h⟩

theorem at_ok (l : List Int) (n : Int) (h : l.length ≤ 1048576) (hn : 0 ≤ n) : ∃ c, F_spec_l45At (l, n) = some c ∧ CuOk c := by
  obtain ⟨⟨l', i', k'⟩, e, hc⟩ := new_ok l h
  simp only [F_spec_l45At, G_spec_l45At]
  rw [e]
  refine ⟨_, rfl, ?_, hc.2⟩
  dsimp only
  rw [minI_eq]
  unfold natI lenN
  omega

end Go.Am
end
section
namespace Go.Am

def ag_spec_l31Draw : Sig := [(.ptr, [.list [.int .u8], .int .i64, .int .i64]), (.one, [.int .i64]), (.one, [.int .i64]), (.one, [.int .i64])]
def rs_spec_l31Draw : Sig := [(.agg, [.int .i64, .int .i64, .list [.int .i64]]), (.ptr, [.list [.int .u8], .int .i64, .int .i64])]
def mu_spec_l31Draw : MSig := [[some .bor]]

def G_spec_l31Draw (NN : Nat) : (((List Int) × (Int × Int)) × (Int × (Int × Int))) → (Option ((Int × (Int × (List Int))) × ((List Int) × (Int × Int)))) :=
 (fun (((l0, i1, i2), i3, i4, i5) : (((List Int) × (Int × Int)) × (Int × (Int × Int)))) =>
 (F_spec_l31New (i4, i5)).bnd (fun (i6, i7, l8) =>
 joinK ((fulI 0 0 (lenN (([] : List Int)))).bnd (fun _ =>
 (fulI 0 (lenN l8) (lenN l8)).bnd (fun _ =>
 loopT NN (fun (((i9, i10, i11, i12, i13), (l14, i15, i16), (i17, i18), (i19, i20), l21, l22) : ((Int × (Int × (Int × (Int × Int)))) × (((List Int) × (Int × Int)) × ((Int × Int) × ((Int × Int) × ((List Int) × (List Int))))))) =>
 cnd (ltI i13 i12)
 ((F_spec_l01Once ((l14, i15, i16), (3 : Int))).bnd (fun (b23, l24, i25, i26) =>
 cnd (notB b23)
 ((F_spec_l01Below ((l24, i25, i26), minI i9 (256 : Int))).bnd (fun (i27, l28, i29, i30) =>
 (chkI i13 (lenN l22)).bnd (fun k31 =>
 (getN l22 (addN 0 k31)).bnd (fun i32 =>
 (fulI 0 (lenN l21) (lenN l21)).bnd (fun _ =>
 (fulI 0 (lenN l22) (lenN (setL l22 (addN 0 k31) i27))).bnd (fun _ =>
 some (Sum.inl ((i9, i10, i11, i12, addI .i64 i13 1), (l28, i29, i30), (i17, i18), (i19, i20), l21, setL l22 (addN 0 k31) i27))))))))
 ((fulI 0 (lenN l21) (lenN l21)).bnd (fun _ =>
 (fulI 0 (lenN l22) (lenN l22)).bnd (fun _ =>
 some (Sum.inl ((i9, i10, i11, i12, addI .i64 i13 1), (l24, i25, i26), (i17, i18), (i19, i20), l21, l22)))))))
 (((fulI 0 (lenN l21) (lenN l21)).bnd (fun _ =>
 (fulI 0 (lenN l22) (lenN l22)).bnd (fun _ =>
 some (Sum.inl ((i10, i11), (l14, i15, i16), (i17, i18), (i19, i20), l21, l22))))).bnd (fun l33 =>
 some (Sum.inr l33))))
 ((i3, i4, i5, natI (lenN l8), (0 : Int)), (l0, i1, i2), ((0 : Int), (0 : Int)), (i6, i7), ([] : List Int), l8))))
 (fun ((i34, i35), (l36, i37, i38), (i39, i40), (i41, i42), l43, l44) =>
 cnd (ltI (1 : Int) i34)
 ((F_spec_l01Once ((l36, i37, i38), (3 : Int))).bnd (fun (b45, l46, i47, i48) =>
 joinK (cnd (b45)
 ((fulI 0 (lenN l43) (lenN l43)).bnd (fun _ =>
 (fulI 0 (lenN l44) (lenN l44)).bnd (fun _ =>
 loopT NN (fun (((i49, i50), (l51, i52, i53), (i54, i55), (i56, i57), l58, l59) : ((Int × Int) × (((List Int) × (Int × Int)) × ((Int × Int) × ((Int × Int) × ((List Int) × (List Int))))))) =>
 cnd (ltI i50 i49)
 ((chkI i50 (lenN l59)).bnd (fun k60 =>
 (getN l59 (addN 0 k60)).bnd (fun i61 =>
 (chkI (addI .i64 i49 i50) (lenN l59)).bnd (fun k62 =>
 (getN l59 (addN 0 k62)).bnd (fun i63 =>
 (fulI 0 (lenN l58) (lenN l58)).bnd (fun _ =>
 (fulI 0 (lenN l59) (lenN (setL l59 (addN 0 k62) i61))).bnd (fun _ =>
 some (Sum.inl ((i49, addI .i64 i50 1), (l51, i52, i53), (i54, i55), (i56, i57), l58, setL l59 (addN 0 k62) i61)))))))))
 (((fulI 0 (lenN l58) (lenN l58)).bnd (fun _ =>
 (fulI 0 (lenN l59) (lenN l59)).bnd (fun _ =>
 some (Sum.inl ((l51, i52, i53), (i54, i55), (i56, i57), l58, l59))))).bnd (fun l64 =>
 some (Sum.inr l64))))
 ((i35, (0 : Int)), (l46, i47, i48), (i39, i40), (i41, i42), l43, l44))))
 ((fulI 0 (lenN l43) (lenN l43)).bnd (fun _ =>
 (fulI 0 (lenN l44) (lenN l44)).bnd (fun _ =>
 some (Sum.inl ((l46, i47, i48), (i39, i40), (i41, i42), l43, l44))))))
 (fun ((l65, i66, i67), (i68, i69), (i70, i71), l72, l73) =>
 (winI l73 0 (lenN l73)).bnd (fun l74 =>
 some ((i70, i71, l74), l65, i66, i67)))))
 (joinK ((fulI 0 (lenN l43) (lenN l43)).bnd (fun _ =>
 (fulI 0 (lenN l44) (lenN l44)).bnd (fun _ =>
 some (Sum.inl ((l36, i37, i38), (i39, i40), (i41, i42), l43, l44)))))
 (fun ((l75, i76, i77), (i78, i79), (i80, i81), l82, l83) =>
 (winI l83 0 (lenN l83)).bnd (fun l84 =>
 some ((i80, i81, l84), l75, i76, i77)))))))

def F_spec_l31Draw : (((List Int) × (Int × Int)) × (Int × (Int × Int))) → (Option ((Int × (Int × (List Int))) × ((List Int) × (Int × Int)))) := G_spec_l31Draw FUEL
theorem f_spec_l31Draw (x : (((List Int) × (Int × Int)) × (Int × (Int × Int)))) (z : ((Int × (Int × (List Int))) × ((List Int) × (Int × Int)))) (h : F_spec_l31Draw x = some z) : G_spec_l31Draw FUEL x = some z := h

def ag_spec_l34Draw : Sig := [(.ptr, [.list [.int .u8], .int .i64, .int .i64]), (.one, [.int .i64]), (.one, [.int .i64]), (.one, [.int .i64])]
def rs_spec_l34Draw : Sig := [(.agg, [.int .i64, .int .i64, .list [.int .i64], .list [.int .i64, .int .i64, .list [.int .i64]], .list [.int .i64]]), (.ptr, [.list [.int .u8], .int .i64, .int .i64])]
def mu_spec_l34Draw : MSig := [[some .bor]]

def G_spec_l34Draw (NN : Nat) : (((List Int) × (Int × Int)) × (Int × (Int × Int))) → (Option ((Int × (Int × ((List Int) × ((List (Int × (Int × (List Int)))) × (List Int))))) × ((List Int) × (Int × Int)))) :=
 (fun (((l0, i1, i2), i3, i4, i5) : (((List Int) × (Int × Int)) × (Int × (Int × Int)))) =>
 (F_spec_l31Draw ((l0, i1, i2), i3, (1 : Int), i4)).bnd (fun ((i6, i7, l8), l9, i10, i11) =>
 (F_spec_l31Draw ((l9, i10, i11), i3, (1 : Int), i4)).bnd (fun ((i12, i13, l14), l15, i16, i17) =>
 joinK ((fulI 0 0 (lenN (([] : List Int)))).bnd (fun _ =>
 (fulI 0 0 (lenN (([] : List (Int × (Int × (List Int))))))).bnd (fun _ =>
 (fulI 0 0 (lenN (([] : List Int)))).bnd (fun _ =>
 (fulI 0 0 (lenN (([] : List (Int × (Int × (List Int))))))).bnd (fun _ =>
 loopT NN (fun (((i18, i19, i20), (l21, i22, i23), (i24, i25), (i26, i27, l28, l29), l30, l31, l32, l33) : ((Int × (Int × Int)) × (((List Int) × (Int × Int)) × ((Int × Int) × ((Int × (Int × ((List Int) × (List Int)))) × ((List Int) × ((List (Int × (Int × (List Int)))) × ((List Int) × (List (Int × (Int × (List Int)))))))))))) =>
 cnd (ltI (0 : Int) i20)
 ((F_spec_l31Draw ((l21, i22, i23), i18, i19, i19)).bnd (fun ((i34, i35, l36), l37, i38, i39) =>
 (fulI 0 (lenN l33) (lenN l33)).bnd (fun _ =>
 (fulI 0 1 (lenN (((i34, i35, l36) :: ([] : List (Int × (Int × (List Int)))))))).bnd (fun _ =>
 (fitI (addN (lenN l33) (lenN (((i34, i35, l36) :: ([] : List (Int × (Int × (List Int)))))))) 40).bnd (fun _ =>
 (fulI 0 (lenN l30) (lenN l30)).bnd (fun _ =>
 (fulI 0 (lenN l31) (lenN l31)).bnd (fun _ =>
 (fulI 0 (lenN l32) (lenN l32)).bnd (fun _ =>
 (fulI 0 (addN (lenN l33) (lenN (((i34, i35, l36) :: ([] : List (Int × (Int × (List Int)))))))) (lenN (appL l33 (((i34, i35, l36) :: ([] : List (Int × (Int × (List Int))))))))).bnd (fun _ =>
 some (Sum.inl ((i18, i19, subI .i64 i20 1), (l37, i38, i39), (i24, i25), (i26, i27, l28, l29), l30, l31, l32, appL l33 (((i34, i35, l36) :: ([] : List (Int × (Int × (List Int)))))))))))))))))
 (((fulI 0 (lenN l30) (lenN l30)).bnd (fun _ =>
 (fulI 0 (lenN l31) (lenN l31)).bnd (fun _ =>
 (fulI 0 (lenN l32) (lenN l32)).bnd (fun _ =>
 (fulI 0 (lenN l33) (lenN l33)).bnd (fun _ =>
 some (Sum.inl ((l21, i22, i23), (i24, i25), (i26, i27, l28, l29), l30, l31, l32, l33))))))).bnd (fun l40 =>
 some (Sum.inr l40))))
 ((i3, i4, i5), (l15, i16, i17), ((0 : Int), (0 : Int)), (i3, i4, l8, l14), ([] : List Int), ([] : List (Int × (Int × (List Int)))), ([] : List Int), ([] : List (Int × (Int × (List Int))))))))))
 (fun ((l41, i42, i43), (i44, i45), (i46, i47, l48, l49), l50, l51, l52, l53) =>
 (winI l53 0 (lenN l53)).bnd (fun l54 =>
 some ((i46, i47, l48, l54, l49), l41, i42, i43))))))

def F_spec_l34Draw : (((List Int) × (Int × Int)) × (Int × (Int × Int))) → (Option ((Int × (Int × ((List Int) × ((List (Int × (Int × (List Int)))) × (List Int))))) × ((List Int) × (Int × Int)))) := G_spec_l34Draw FUEL
theorem f_spec_l34Draw (x : (((List Int) × (Int × Int)) × (Int × (Int × Int)))) (z : ((Int × (Int × ((List Int) × ((List (Int × (Int × (List Int)))) × (List Int))))) × ((List Int) × (Int × Int)))) (h : F_spec_l34Draw x = some z) : G_spec_l34Draw FUEL x = some z := h

def ag_spec_MakeAutomata : Sig := [(.one, [.list [.int .u8]]), (.one, [.int .i64])]
def rs_spec_MakeAutomata : Sig := [(.agg, [.int .i64, .int .i64, .list [.int .i64], .list [.int .i64, .int .i64, .list [.int .i64]], .list [.int .i64]]), (.agg, [.int .i64, .int .i64, .list [.int .i64], .list [.int .i64, .int .i64, .list [.int .i64]], .list [.int .i64]])]
def mu_spec_MakeAutomata : MSig := [[some .bor]]

def G_spec_MakeAutomata (NN : Nat) : ((List Int) × Int) → (Option ((Int × (Int × ((List Int) × ((List (Int × (Int × (List Int)))) × (List Int))))) × (Int × (Int × ((List Int) × ((List (Int × (Int × (List Int)))) × (List Int))))))) :=
 (fun ((l0, i1) : ((List Int) × Int)) =>
 (F_spec_l45At (l0, i1)).bnd (fun (l2, i3, i4) =>
 (takI (((2 : Int) :: ((3 : Int) :: ((7 : Int) :: ((101 : Int) :: ([] : List Int)))))) 4).bnd (fun l5 =>
 (F_spec_l01Pick ((l2, i3, i4), l5)).bnd (fun (i6, l7, i8, i9) =>
 (F_spec_l01Below ((l7, i8, i9), (3 : Int))).bnd (fun (i10, l11, i12, i13) =>
 (F_spec_l01Below ((l11, i12, i13), (4 : Int))).bnd (fun (i14, l15, i16, i17) =>
 (F_spec_l34Draw ((l15, i16, i17), i6, i14, addI .i64 (1 : Int) i10)).bnd (fun ((i18, i19, l20, l21, l22), l23, i24, i25) =>
 (F_spec_l01Below ((l23, i24, i25), (4 : Int))).bnd (fun (i26, l27, i28, i29) =>
 (F_spec_l34Draw ((l27, i28, i29), i6, i26, addI .i64 (1 : Int) i10)).bnd (fun ((i30, i31, l32, l33, l34), l35, i36, i37) =>
 some ((i18, i19, l20, l21, l22), i30, i31, l32, l33, l34))))))))))

def F_spec_MakeAutomata : ((List Int) × Int) → (Option ((Int × (Int × ((List Int) × ((List (Int × (Int × (List Int)))) × (List Int))))) × (Int × (Int × ((List Int) × ((List (Int × (Int × (List Int)))) × (List Int))))))) := G_spec_MakeAutomata FUEL
theorem f_spec_MakeAutomata (x : ((List Int) × Int)) (z : ((Int × (Int × ((List Int) × ((List (Int × (Int × (List Int)))) × (List Int))))) × (Int × (Int × ((List Int) × ((List (Int × (Int × (List Int)))) × (List Int))))))) (h : F_spec_MakeAutomata x = some z) : G_spec_MakeAutomata FUEL x = some z := h

def ag_spec_MakeWord : Sig := [(.one, [.list [.int .u8]]), (.one, [.int .i64]), (.one, [.int .i64])]
def rs_spec_MakeWord : Sig := [(.one, [.list [.int .i64]])]
def mu_spec_MakeWord : MSig := [[some .bor]]

def G_spec_MakeWord (NN : Nat) : ((List Int) × (Int × Int)) → (Option (List Int)) :=
 (fun ((l0, i1, i2) : ((List Int) × (Int × Int))) =>
 (F_spec_l45At (l0, i1)).bnd (fun (l3, i4, i5) =>
 (F_spec_l01Below ((l3, i4, i5), (7 : Int))).bnd (fun (i6, l7, i8, i9) =>
 joinK ((fulI 0 0 (lenN (([] : List Int)))).bnd (fun _ =>
 loopT NN (fun (((i10, i11), (l12, i13, i14), l15) : ((Int × Int) × (((List Int) × (Int × Int)) × (List Int)))) =>
 cnd (ltI (0 : Int) i11)
 ((F_spec_l01Below ((l12, i13, i14), i10)).bnd (fun (i16, l17, i18, i19) =>
 (fulI 0 (lenN l15) (lenN l15)).bnd (fun _ =>
 (winI ((i16 :: ([] : List Int))) 0 1).bnd (fun l20 =>
 (fitI (addN (lenN l15) (lenN l20)) 8).bnd (fun _ =>
 (fulI 0 (addN (lenN l15) (lenN l20)) (lenN (appL l15 l20))).bnd (fun _ =>
 some (Sum.inl ((i10, subI .i64 i11 1), (l17, i18, i19), appL l15 l20))))))))
 (((fulI 0 (lenN l15) (lenN l15)).bnd (fun _ =>
 some (Sum.inl l15))).bnd (fun l21 =>
 some (Sum.inr l21))))
 ((i2, i6), (l7, i8, i9), ([] : List Int))))
 (fun l22 =>
 (winI l22 0 (lenN l22)).bnd (fun l23 =>
 some l23)))))

def F_spec_MakeWord : ((List Int) × (Int × Int)) → (Option (List Int)) := G_spec_MakeWord FUEL
theorem f_spec_MakeWord (x : ((List Int) × (Int × Int))) (z : (List Int)) (h : F_spec_MakeWord x = some z) : G_spec_MakeWord FUEL x = some z := h

theorem min_pos {p : Int} (h : 2 ≤ p) : 1 ≤ minI p 256 ∧ minI p 256 ≤ p := by rw [minI_eq]; omega
theorem lenN_e {α : Type} (l : List α) : lenN l = l.length := rfl

theorem draw_ok (c : Cu) (p : Int) (r k : Nat) (h : CuOk c) (hp : pOk p) (hr : r ≤ 100) (hk : k ≤ 100) :
    ∃ d c', F_spec_l31Draw (c, p, (r : Int), (k : Int)) = some (((r : Int), (k : Int), d), c') ∧ d.length = r * k ∧ allP p d ∧ CuOk c' := by
  obtain ⟨cl, ci, ch⟩ := c
  have hrk : r * k ≤ 10000 := by
    have := Nat.mul_le_mul hr hk
    omega
  simp only [F_spec_l31Draw, G_spec_l31Draw]
  rw [new_nat (by omega) (by omega) (by omega)]
  simp only [bnd_s, fulI_nil0, fulI_id]
  generalize hL : loopT FUEL _ _ = o
  obtain ⟨s, rfl, c', d, rfl, hc', hl, hd⟩ : ∃ s, o = some s ∧ ∃ (c' : Cu) (d : List Int), s = Sum.inl (((r : Int), (k : Int)), c', (0, 0), ((r : Int), (k : Int)), [], d) ∧ CuOk c' ∧ d.length = r * k ∧ allP p d := by
    rw [← hL]
    refine loopT_ex (r * k) (fun j (s : ((Int × (Int × (Int × (Int × Int)))) × (((List Int) × (Int × Int)) × ((Int × Int) × ((Int × Int) × ((List Int) × (List Int))))))) => ∃ (c' : Cu) (d : List Int), s = ((p, (r : Int), (k : Int), ((r * k : Nat) : Int), (j : Int)), c', (0, 0), ((r : Int), (k : Int)), [], d) ∧ CuOk c' ∧ d.length = r * k ∧ allP p d) _ ?_ ?_ ?_ (FUEL_gt (by omega))
    · rintro j s hj ⟨⟨l1, i1, h1⟩, d, rfl, hc, hl, hd⟩
      dsimp only
      rw [cnd_t (ltI_t (by omega))]
      obtain ⟨b, ⟨l2, i2, h2⟩, e2, hc⟩ := once_ok _ 3 hc (by decide)
      rw [e2]
      simp only [bnd_s]
      cases b
      · rw [cnd_t (show notB false = true from rfl)]
        obtain ⟨x, ⟨l3, i3, h3⟩, e3, hx, _, hc⟩ := below_ok _ (minI p 256) hc (min_pos hp.1).1
        have hm := (min_pos hp.1).2
        rw [e3]
        simp only [bnd_s]
        have hj' : j < d.length := by omega
        rw [chkI_nat (show j < lenN d by rw [lenN_e]; exact hj')]
        simp only [bnd_s, addN_0]
        rw [show getN d j = some d[j] from List.getElem?_eq_getElem hj']
        simp only [bnd_s]
        rw [show fulI 0 (lenN d) (lenN (setL d j x)) = some () from fulI_ok (by simp [lenN, setL])]
        simp only [bnd_s]
        rw [addI_eq (by omega) (by omega)]
        refine ⟨_, rfl, _, _, rfl, hc, by unfold setL; rw [List.length_set]; exact hl, ?_⟩
        intro e he
        unfold setL at he
        rcases List.mem_or_eq_of_mem_set he with h | h
        · exact hd e h
        · subst h; exact ⟨hx.1, by omega⟩
      · rw [cnd_f (show notB true = false from rfl)]
        rw [addI_eq (by omega) (by omega)]
        exact ⟨_, rfl, _, _, rfl, hc, hl, hd⟩
    · rintro s ⟨⟨l1, i1, h1⟩, d, rfl, hc, hl, hd⟩
      dsimp only
      rw [cnd_f (ltI_f (by omega))]
      exact ⟨_, rfl, _, _, rfl, hc, hl, hd⟩
    · refine ⟨_, _, ?_, h, genD_len r k _, allP_gen.2 (fun i j _ _ => ⟨Int.le_refl _, by have := hp.1; omega⟩)⟩
      rw [show natI (lenN (genD r k fun _ _ => 0)) = ((r * k : Nat) : Int) by unfold natI lenN; rw [genD_len]]
      rfl
  obtain ⟨l1, i1, h1⟩ := c'
  simp only [joinK, Option.bind, Option.bnd]
  by_cases hc : 1 < r
  · rw [cnd_t (ltI_t (by omega))]
    obtain ⟨b, ⟨l2, i2, h2⟩, e2, hc2⟩ := once_ok _ 3 hc' (by decide)
    rw [e2]
    dsimp only
    cases b
    · simp only [cnd_false, fulI_id, winI_id]
      exact ⟨_, _, rfl, hl, hd, hc2⟩
    · simp only [cnd_true, fulI_id, winI_id]
      generalize hL : loopT FUEL _ _ = o
      obtain ⟨s, rfl, d', rfl, hl', hd'⟩ : ∃ s, o = some s ∧ ∃ (d' : List Int), s = Sum.inl ((l2, i2, h2), (0, 0), ((r : Int), (k : Int)), [], d') ∧ d'.length = r * k ∧ allP p d' := by
        rw [← hL]
        refine loopT_ex k (fun j (s : ((Int × Int) × (((List Int) × (Int × Int)) × ((Int × Int) × ((Int × Int) × ((List Int) × (List Int))))))) => ∃ (d : List Int), s = (((k : Int), (j : Int)), (l2, i2, h2), (0, 0), ((r : Int), (k : Int)), [], d) ∧ d.length = r * k ∧ allP p d) _ ?_ ?_ ⟨_, rfl, hl, hd⟩ (FUEL_gt (by omega))
        · rintro j s hj ⟨d, rfl, hl, hd⟩
          dsimp only
          have hrk2 : 2 * k ≤ r * k := Nat.mul_le_mul_right k hc
          rw [cnd_t (ltI_t (by omega))]
          have hj1 : j < d.length := by omega
          have hj2 : k + j < d.length := by omega
          rw [addI_eq (by omega) (by omega), show ((k : Int) + (j : Int)) = ((k + j : Nat) : Int) by push_cast; rfl]
          rw [chkI_nat (show j < lenN d by rw [lenN_e]; exact hj1), chkI_nat (show k + j < lenN d by rw [lenN_e]; exact hj2)]
          simp only [addN_0]
          rw [show getN d j = some d[j] from List.getElem?_eq_getElem hj1, show getN d (k + j) = some d[k + j] from List.getElem?_eq_getElem hj2]
          dsimp only
          rw [show fulI 0 (lenN d) (lenN (setL d (k + j) d[j])) = some () from fulI_ok (by simp [lenN, setL])]
          dsimp only
          rw [addI_eq (by omega) (by omega)]
          refine ⟨_, rfl, _, rfl, by unfold setL; rw [List.length_set]; exact hl, ?_⟩
          intro e he
          unfold setL at he
          rcases List.mem_or_eq_of_mem_set he with h | h
          · exact hd e h
          · subst h; exact hd _ (List.getElem_mem hj1)
        · rintro s ⟨d, rfl, hl, hd⟩
          dsimp only
          rw [cnd_f (ltI_f (by omega))]
          exact ⟨_, rfl, _, rfl, hl, hd⟩
      simp only [winI_id]
      exact ⟨_, _, rfl, hl', hd', hc2⟩
  · rw [cnd_f (ltI_f (by omega))]
    simp only [fulI_id, winI_id]
    exact ⟨_, _, rfl, hl, hd, hc'⟩

theorem aut_ok (c : Cu) (p : Int) (n t : Nat) (h : CuOk c) (hp : isPrimeI p = true) (hn : n ≤ 12) (ht : 1 ≤ t ∧ t ≤ 4) :
    ∃ a ms b c', F_spec_l34Draw (c, p, (n : Int), (t : Int)) = some ((p, (n : Int), a, ms, b), c') ∧ AutOk p n a ms b ∧ ms.length = t ∧ CuOk c' := by
  have hq : pOk p := isPrimeI_t hp
  obtain ⟨a, ⟨l1, i1, h1⟩, e1, hla, ha, hc⟩ := draw_ok _ p 1 n h hq (by omega) (by omega)
  obtain ⟨b, ⟨l2, i2, h2⟩, e2, hlb, hb, hc⟩ := draw_ok _ p 1 n hc hq (by omega) (by omega)
  obtain ⟨cl, ci, ch⟩ := c
  simp only [F_spec_l34Draw, G_spec_l34Draw]
  rw [show (1 : Int) = ((1 : Nat) : Int) from rfl, e1]
  simp only [bnd_s]
  rw [e2]
  simp only [bnd_s, fulI_nil0, fulI_id]
  generalize hL : loopT FUEL _ _ = o
  obtain ⟨s, rfl, c', ms, rfl, hc', hl, hm⟩ : ∃ s, o = some s ∧ ∃ (c' : Cu) (ms : List Mx3), s = Sum.inl (c', (0, 0), (p, (n : Int), a, b), [], [], [], ms) ∧ CuOk c' ∧ ms.length = t ∧ ∀ x ∈ ms, ∃ M : Mat, x = ((n : Int), (n : Int), genD n n M) ∧ inM p n n M := by
    rw [← hL]
    refine loopT_ex t (fun j (s : ((Int × (Int × Int)) × (((List Int) × (Int × Int)) × ((Int × Int) × ((Int × (Int × ((List Int) × (List Int)))) × ((List Int) × ((List (Int × (Int × (List Int)))) × ((List Int) × (List (Int × (Int × (List Int)))))))))))) => ∃ (c' : Cu) (ms : List Mx3), s = ((p, (n : Int), (t : Int) - j), c', (0, 0), (p, (n : Int), a, b), [], [], [], ms) ∧ CuOk c' ∧ ms.length = j ∧ ∀ x ∈ ms, ∃ M : Mat, x = ((n : Int), (n : Int), genD n n M) ∧ inM p n n M) _ ?_ ?_ ?_ (FUEL_gt (by omega))
    · rintro j s hj ⟨⟨l3, i3, h3⟩, ms, rfl, hc, hl, hm⟩
      dsimp only
      rw [cnd_t (ltI_t (by omega))]
      obtain ⟨d, ⟨l4, i4, h4⟩, e4, hld, hd, hc⟩ := draw_ok _ p n n hc hq (by omega) (by omega)
      rw [e4]
      simp only [bnd_s, fulI_id, fulI_app1]
      rw [show fulI 0 1 (lenN [((n : Int), (n : Int), d)]) = some () from fulI_id 1]
      simp only [bnd_s]
      rw [fitI_ok (by simp only [addN, lenN, List.length_cons, List.length_nil]; rw [hl]; have : maxBytes = 140737488355328 := rfl; omega)]
      simp only [bnd_s]
      rw [subI_eq (by omega) (by omega), show (t : Int) - (j : Int) - ((1 : Nat) : Int) = (t : Int) - ((j + 1 : Nat) : Int) by omega]
      refine ⟨_, rfl, _, _, rfl, hc, by simp [appL, hl], ?_⟩
      intro x hx
      rcases List.mem_append.1 hx with h | h
      · exact hm x h
      · rw [List.mem_singleton] at h
        subst h
        exact ⟨ofD n d, by rw [genD_of (r := n) (c := n) hld], ofD_in hld hd⟩
    · rintro s ⟨⟨l3, i3, h3⟩, ms, rfl, hc, hl, hm⟩
      dsimp only
      rw [cnd_f (ltI_f (by omega))]
      exact ⟨_, rfl, _, _, rfl, hc, hl, hm⟩
    · exact ⟨_, _, by rw [show (t : Int) - ((0 : Nat) : Int) = (t : Int) by omega], hc, rfl, fun x hx => absurd hx (by simp)⟩
  obtain ⟨l5, i5, h5⟩ := c'
  simp only [joinK, Option.bind, Option.bnd, winI_id]
  refine ⟨_, _, _, _, rfl, ⟨hp, hn, by omega, ha, by omega, hb, by omega, by omega, hm⟩, hl, hc'⟩

theorem pr_2 : isPrimeI 2 = true := by decide +kernel
theorem pr_3 : isPrimeI 3 = true := by decide +kernel
theorem pr_7 : isPrimeI 7 = true := by decide +kernel
theorem pr_101 : isPrimeI 101 = true := by decide +kernel
theorem pr_1000003 : isPrimeI 1000003 = true := by decide +kernel
theorem pr_5 {x : Int} (h : x ∈ [(2 : Int), 3, 7, 101, 1000003]) : isPrimeI x = true := by
  simp only [List.mem_cons, List.not_mem_nil, or_false] at h
  rcases h with rfl | rfl | rfl | rfl | rfl
  · exact pr_2
  · exact pr_3
  · exact pr_7
  · exact pr_101
  · exact pr_1000003
theorem pr_4 {x : Int} (h : x ∈ [(2 : Int), 3, 7, 101]) : isPrimeI x = true := pr_5 (by simp only [List.mem_cons, List.not_mem_nil, or_false] at h ⊢; omega)

theorem MakeAutomata_ok (l : List Int) (n : Int) (h : l.length ≤ 1048576) (hn : 0 ≤ n) :
    ∃ (p : Int) (u v t : Nat) (a : List Int) (ms : List Mx3) (b a' : List Int) (ms' : List Mx3) (b' : List Int), F_spec_MakeAutomata (l, n) = some ((p, (u : Int), a, ms, b), (p, (v : Int), a', ms', b')) ∧
      AutOk p u a ms b ∧ AutOk p v a' ms' b' ∧ ms.length = t ∧ ms'.length = t ∧ u ≤ 3 ∧ v ≤ 3 ∧ t ≤ 3 := by
  obtain ⟨⟨l1, i1, k1⟩, e1, hc⟩ := at_ok l n h hn
  obtain ⟨p, ⟨l2, i2, k2⟩, e2, hp, hc⟩ := pick_ok _ [(2 : Int), 3, 7, 101] hc (by simp) (by simp)
  obtain ⟨t, ⟨l3, i3, k3⟩, e3, ht, _, hc⟩ := below_ok _ 3 hc (by decide)
  obtain ⟨u, ⟨l4, i4, k4⟩, e4, hu, _, hc⟩ := below_ok _ 4 hc (by decide)
  obtain ⟨t, rfl⟩ := natI_eq ht.1
  obtain ⟨u, rfl⟩ := natI_eq hu.1
  have hP := pr_4 hp
  obtain ⟨a, ms, b, ⟨l5, i5, k5⟩, e5, hA, hlA, hc⟩ := aut_ok _ p u (1 + t) hc hP (by omega) (by omega)
  obtain ⟨v, ⟨l6, i6, k6⟩, e6, hv, _, hc⟩ := below_ok _ 4 hc (by decide)
  obtain ⟨v, rfl⟩ := natI_eq hv.1
  obtain ⟨a', ms', b', ⟨l7, i7, k7⟩, e7, hB, hlB, hc⟩ := aut_ok _ p v (1 + t) hc hP (by omega) (by omega)
  simp only [F_spec_MakeAutomata, G_spec_MakeAutomata]
  rw [e1]
  simp only [bnd_s, takI, List.length_cons, List.length_nil, Nat.le_refl, if_true, List.take]
  rw [e2]
  simp only [bnd_s]
  rw [e3]
  simp only [bnd_s]
  rw [e4]
  simp only [bnd_s]
  rw [addI_eq (by omega) (by omega), show (1 : Int) + (t : Int) = ((1 + t : Nat) : Int) by push_cast; rfl, e5]
  simp only [bnd_s]
  rw [e6]
  simp only [bnd_s]
  rw [e7]
  exact ⟨p, u, v, 1 + t, a, ms, b, a', ms', b', rfl, hA, hB, hlA, hlB, by omega, by omega, by omega⟩

theorem MakeWord_ok (l : List Int) (n m : Int) (h : l.length ≤ 1048576) (hn : 0 ≤ n) (hm : 1 ≤ m) :
    ∃ w, F_spec_MakeWord (l, n, m) = some w ∧ w.length ≤ 6 ∧ allP m w := by
  obtain ⟨⟨l1, i1, k1⟩, e1, hc⟩ := at_ok l n h hn
  obtain ⟨t, ⟨l3, i3, k3⟩, e3, ht, _, hc⟩ := below_ok _ 7 hc (by decide)
  obtain ⟨t, rfl⟩ := natI_eq ht.1
  simp only [F_spec_MakeWord, G_spec_MakeWord]
  rw [e1]
  simp only [bnd_s]
  rw [e3]
  simp only [bnd_s, fulI_nil0]
  generalize hL : loopT FUEL _ _ = o
  obtain ⟨s, rfl, w, rfl, hl, hw⟩ : ∃ s, o = some s ∧ ∃ (w : List Int), s = Sum.inl w ∧ w.length = t ∧ allP m w := by
    rw [← hL]
    refine loopT_ex t (fun j (s : ((Int × Int) × (((List Int) × (Int × Int)) × (List Int)))) => ∃ (c' : Cu) (w : List Int), s = ((m, (t : Int) - j), c', w) ∧ CuOk c' ∧ w.length = j ∧ allP m w) _ ?_ ?_ ?_ (FUEL_gt (by omega))
    · rintro j s hj ⟨⟨l3, i3, h3⟩, w, rfl, hc, hl, hw⟩
      dsimp only
      rw [cnd_t (ltI_t (by omega))]
      obtain ⟨x, ⟨l4, i4, h4⟩, e4, hx, _, hc⟩ := below_ok _ m hc hm
      rw [e4]
      simp only [bnd_s, fulI_id, fulI_app1, winI_len (xs := [x]) (n := 1) rfl]
      rw [fitI_ok (by simp only [addN, lenN, List.length_cons, List.length_nil]; rw [hl]; have : maxBytes = 140737488355328 := rfl; omega)]
      simp only [bnd_s]
      rw [subI_eq (by omega) (by omega), show (t : Int) - (j : Int) - (1 : Int) = (t : Int) - ((j + 1 : Nat) : Int) by omega]
      refine ⟨_, rfl, _, _, rfl, hc, by simp [appL, hl], ?_⟩
      intro y hy
      rcases List.mem_append.1 hy with h | h
      · exact hw y h
      · rw [List.mem_singleton] at h
        subst h
        exact hx
    · rintro s ⟨⟨l3, i3, h3⟩, w, rfl, hc, hl, hw⟩
      dsimp only
      rw [cnd_f (ltI_f (by omega))]
      simp only [fulI_id, bnd_s]
      exact ⟨_, rfl, _, rfl, hl, hw⟩
    · exact ⟨_, _, by rw [show (t : Int) - ((0 : Nat) : Int) = (t : Int) by omega], hc, rfl, fun x hx => absurd hx (by simp)⟩
  simp only [joinK, Option.bind, Option.bnd, winI_id]
  exact ⟨w, rfl, by omega, hw⟩
end Go.Am
end
section
namespace Go.Am
def kronM (p : Int) (s d : Nat) (A B : Mat) : Mat := fun i j => A (i / s) (j / d) * B (i % s) (j % d) % p
def kronOk (x : Int × Mx3 × Mx3) : Prop := pOk x.1 ∧ mOk x.2.1 ∧ mOk x.2.2 ∧ (x.2.1.1 * x.2.2.1 ≤ 4096 ∧ x.2.1.2.1 * x.2.2.2.1 ≤ 4096) ∧ (x.2.1.1 * x.2.2.1) * (x.2.1.2.1 * x.2.2.2.1) ≤ 1048576 ∧ allP x.1 x.2.1.2.2 ∧ allP x.1 x.2.2.2.2
instance (x : Int × Mx3 × Mx3) : Decidable (kronOk x) := by unfold kronOk; infer_instance
def kronX (x : Int × Mx3 × Mx3) : Mx3 := (x.2.1.1 * x.2.2.1, x.2.1.2.1 * x.2.2.2.1, genD (x.2.1.1.toNat * x.2.2.1.toNat) (x.2.1.2.1.toNat * x.2.2.2.1.toNat) (kronM x.1 x.2.2.1.toNat x.2.2.2.1.toNat (ofD x.2.1.2.1.toNat x.2.1.2.2) (ofD x.2.2.2.1.toNat x.2.2.2.2)))
def F_spec_l34Kron : Int × Mx3 × Mx3 → Option Mx3 := fun (x : Int × Mx3 × Mx3) => if kronOk x then some (kronX x) else none
def F_impl_pairMatrix : Int × Mx3 × Mx3 → Option Mx3 := F_spec_l34Kron
def prodTo (p : Int) (m : Nat) (a a2 : List Int) (k : Nat) : List Int := (List.range k).map fun t => a.getD (t / m) 0 * a2.getD (t % m) 0 % p
def kronSt (p : Int) (n m : Nat) (ms ms2 : List Mx3) (k : Nat) : List Mx3 := (List.range k).map fun t => (((n * m : Nat) : Int), ((n * m : Nat) : Int), genD (n * m) (n * m) (kronM p m m (stM n ms t) (stM m ms2 t)))
def prodX (x y : Aut) : Aut := (x.1, ((x.2.1.toNat * y.2.1.toNat : Nat) : Int), prodTo x.1 y.2.1.toNat x.2.2.1 y.2.2.1 (x.2.1.toNat * y.2.1.toNat), kronSt x.1 x.2.1.toNat y.2.1.toNat x.2.2.2.1 y.2.2.2.1 x.2.2.2.1.length, prodTo x.1 y.2.1.toNat x.2.2.2.2 y.2.2.2.2 (x.2.1.toNat * y.2.1.toNat))
def F_spec_MultiplyAutomata : Aut × Aut → Option (Aut × Bool) := fun (x : Aut × Aut) =>
  if sz_Automaton x.1 ≤ 1048576 ∧ sz_Automaton x.2 ≤ 1048576 then some (if alikeB x.1 x.2 = true ∧ x.1.2.1 * x.2.2.1 ≤ 12 then (prodX x.1 x.2, true) else ((0, 0, [], [], []), false)) else none
def F_impl_MultiplyAutomata : Aut × Aut → Option (Aut × Bool) := F_spec_MultiplyAutomata

def ag_impl_pairMatrix : Sig := [(.one, [.int .i64]), (.agg, [.int .i64, .int .i64, .list [.int .i64]]), (.agg, [.int .i64, .int .i64, .list [.int .i64]])]
def mu_impl_pairMatrix : MSig := []
def rs_impl_pairMatrix : Sig := [(.agg, [.int .i64, .int .i64, .list [.int .i64]])]
def ag_impl_MultiplyAutomata : Sig := [(.agg, [.int .i64, .int .i64, .list [.int .i64], .list [.int .i64, .int .i64, .list [.int .i64]], .list [.int .i64]]), (.agg, [.int .i64, .int .i64, .list [.int .i64], .list [.int .i64, .int .i64, .list [.int .i64]], .list [.int .i64]])]
def mu_impl_MultiplyAutomata : MSig := []
def rs_impl_MultiplyAutomata : Sig := [(.agg, [.int .i64, .int .i64, .list [.int .i64], .list [.int .i64, .int .i64, .list [.int .i64]], .list [.int .i64]]), (.one, [.bool])]

def G_impl_pairMatrix (NN : Nat) : (Int × ((Int × (Int × (List Int))) × (Int × (Int × (List Int))))) → (Option (Int × (Int × (List Int)))) :=
 (fun ((i0, (i1, i2, l3), i4, i5, l6) : (Int × ((Int × (Int × (List Int))) × (Int × (Int × (List Int)))))) =>
 (F_impl_emptyMatrix (mulI .i64 i1 i4, mulI .i64 i2 i5)).bnd (fun (i7, i8, l9) =>
 joinK ((fulI 0 0 (lenN (([] : List Int)))).bnd (fun _ =>
 (fulI 0 (lenN l9) (lenN l9)).bnd (fun _ =>
 loopT NN (fun (((i10, i11), (i12, i13, l14), (i15, i16, l17), (i18, i19), (i20, i21), l22, l23) : ((Int × Int) × ((Int × (Int × (List Int))) × ((Int × (Int × (List Int))) × ((Int × Int) × ((Int × Int) × ((List Int) × (List Int)))))))) =>
 cnd (ltI i11 i20)
 (joinK ((fulI 0 (lenN l22) (lenN l22)).bnd (fun _ =>
 (fulI 0 (lenN l23) (lenN l23)).bnd (fun _ =>
 loopT NN (fun (((i24, i25, i26), (i27, i28, l29), (i30, i31, l32), (i33, i34), (i35, i36), l37, l38) : ((Int × (Int × Int)) × ((Int × (Int × (List Int))) × ((Int × (Int × (List Int))) × ((Int × Int) × ((Int × Int) × ((List Int) × (List Int)))))))) =>
 cnd (ltI i26 i36)
 ((quoI .i64 i25 i30).bnd (fun i39 =>
 (quoI .i64 i26 i31).bnd (fun i40 =>
 (F_impl_Matrix_at ((i27, i28, l29), i39, i40)).bnd (fun i41 =>
 (remI i25 i30).bnd (fun i42 =>
 (remI i26 i31).bnd (fun i43 =>
 (F_impl_Matrix_at ((i30, i31, l32), i42, i43)).bnd (fun i44 =>
 (remI (mulI .i64 i41 i44) i24).bnd (fun i45 =>
 (fulI 0 (lenN l38) (lenN l38)).bnd (fun _ =>
 (F_impl_Matrix_set ((i35, i36, l38), i25, i26, i45)).bnd (fun l46 =>
 (fulI 0 (lenN l37) (lenN l37)).bnd (fun _ =>
 (fulI 0 (lenN l38) (lenN l46)).bnd (fun _ =>
 some (Sum.inl ((i24, i25, addI .i64 i26 1), (i27, i28, l29), (i30, i31, l32), (i33, i34), (i35, i36), l37, l46))))))))))))))
 (((fulI 0 (lenN l37) (lenN l37)).bnd (fun _ =>
 (fulI 0 (lenN l38) (lenN l38)).bnd (fun _ =>
 some (Sum.inl ((i25, i24), (i27, i28, l29), (i30, i31, l32), (i33, i34), (i35, i36), l37, l38))))).bnd (fun l47 =>
 some (Sum.inr l47))))
 ((i10, i11, (0 : Int)), (i12, i13, l14), (i15, i16, l17), (i18, i19), (i20, i21), l22, l23))))
 (fun ((i48, i49), (i50, i51, l52), (i53, i54, l55), (i56, i57), (i58, i59), l60, l61) =>
 (fulI 0 (lenN l60) (lenN l60)).bnd (fun _ =>
 (fulI 0 (lenN l61) (lenN l61)).bnd (fun _ =>
 some (Sum.inl ((i49, addI .i64 i48 1), (i50, i51, l52), (i53, i54, l55), (i56, i57), (i58, i59), l60, l61))))))
 (((fulI 0 (lenN l22) (lenN l22)).bnd (fun _ =>
 (fulI 0 (lenN l23) (lenN l23)).bnd (fun _ =>
 some (Sum.inl ((i18, i19), (i20, i21), l22, l23))))).bnd (fun l62 =>
 some (Sum.inr l62))))
 ((i0, (0 : Int)), (i1, i2, l3), (i4, i5, l6), ((0 : Int), (0 : Int)), (i7, i8), ([] : List Int), l9))))
 (fun ((i63, i64), (i65, i66), l67, l68) =>
 (takI l68 (lenN l68)).bnd (fun l69 =>
 some (i65, i66, l69)))))


def G_impl_MultiplyAutomata (NN : Nat) : ((Int × (Int × ((List Int) × ((List (Int × (Int × (List Int)))) × (List Int))))) × (Int × (Int × ((List Int) × ((List (Int × (Int × (List Int)))) × (List Int)))))) → (Option ((Int × (Int × ((List Int) × ((List (Int × (Int × (List Int)))) × (List Int))))) × Bool)) :=
 (fun (((i0, i1, l2, l3, l4), i5, i6, l7, l8, l9) : ((Int × (Int × ((List Int) × ((List (Int × (Int × (List Int)))) × (List Int))))) × (Int × (Int × ((List Int) × ((List (Int × (Int × (List Int)))) × (List Int))))))) =>
 (F_impl_sameLetters ((i0, i1, l2, l3, l4), i5, i6, l7, l8, l9)).bnd (fun b10 =>
 cnd (notB b10)
 (some (((0 : Int), (0 : Int), ([] : List Int), ([] : List (Int × (Int × (List Int)))), ([] : List Int)), false))
 (cnd (ltI (12 : Int) (mulI .i64 i1 i6))
 (some (((0 : Int), (0 : Int), ([] : List Int), ([] : List (Int × (Int × (List Int)))), ([] : List Int)), false))
 ((F_impl_pairMatrix (i0, ((1 : Int), natI (lenN l2), l2), (1 : Int), natI (lenN l7), l7)).bnd (fun (i11, i12, l13) =>
 (F_impl_pairMatrix (i0, (natI (lenN l4), (1 : Int), l4), natI (lenN l9), (1 : Int), l9)).bnd (fun (i14, i15, l16) =>
 joinK ((fulI 0 0 (lenN (([] : List Int)))).bnd (fun _ =>
 (fulI 0 0 (lenN (([] : List (Int × (Int × (List Int))))))).bnd (fun _ =>
 (fulI 0 0 (lenN (([] : List Int)))).bnd (fun _ =>
 (fulI 0 (lenN l13) (lenN l13)).bnd (fun _ =>
 (fulI 0 0 (lenN (([] : List (Int × (Int × (List Int))))))).bnd (fun _ =>
 (fulI 0 (lenN l16) (lenN l16)).bnd (fun _ =>
 loopT NN (fun (((l17, i18, i19), (i20, i21, l22, l23, l24), (i25, i26, l27, l28, l29), (i30, i31), (i32, i33), l34, l35, l36, l37, l38, l39) : (((List (Int × (Int × (List Int)))) × (Int × Int)) × ((Int × (Int × ((List Int) × ((List (Int × (Int × (List Int)))) × (List Int))))) × ((Int × (Int × ((List Int) × ((List (Int × (Int × (List Int)))) × (List Int))))) × ((Int × Int) × ((Int × Int) × ((List Int) × ((List (Int × (Int × (List Int)))) × ((List Int) × ((List Int) × ((List (Int × (Int × (List Int)))) × (List Int)))))))))))) =>
 cnd (ltI i19 i18)
 ((getI l17 i19).bnd (fun (i40, i41, l42) =>
 (getI l28 i19).bnd (fun (i43, i44, l45) =>
 (F_impl_pairMatrix (i20, (i40, i41, l42), i43, i44, l45)).bnd (fun (i46, i47, l48) =>
 (takI l48 (lenN l48)).bnd (fun l49 =>
 (fulI 0 (lenN l38) (lenN l38)).bnd (fun _ =>
 (fulI 0 1 (lenN (((i46, i47, l49) :: ([] : List (Int × (Int × (List Int)))))))).bnd (fun _ =>
 (fitI (addN (lenN l38) (lenN (((i46, i47, l49) :: ([] : List (Int × (Int × (List Int)))))))) 40).bnd (fun _ =>
 (fulI 0 (lenN l34) (lenN l34)).bnd (fun _ =>
 (fulI 0 (lenN l35) (lenN l35)).bnd (fun _ =>
 (fulI 0 (lenN l36) (lenN l36)).bnd (fun _ =>
 (fulI 0 (lenN l37) (lenN l37)).bnd (fun _ =>
 (fulI 0 (addN (lenN l38) (lenN (((i46, i47, l49) :: ([] : List (Int × (Int × (List Int)))))))) (lenN (appL l38 (((i46, i47, l49) :: ([] : List (Int × (Int × (List Int))))))))).bnd (fun _ =>
 (fulI 0 (lenN l39) (lenN l39)).bnd (fun _ =>
 some (Sum.inl ((l17, i18, addI .i64 i19 1), (i20, i21, l22, l23, l24), (i25, i26, l27, l28, l29), (i30, i31), (i32, i33), l34, l35, l36, l37, appL l38 (((i46, i47, l49) :: ([] : List (Int × (Int × (List Int)))))), l39))))))))))))))))
 (((fulI 0 (lenN l34) (lenN l34)).bnd (fun _ =>
 (fulI 0 (lenN l35) (lenN l35)).bnd (fun _ =>
 (fulI 0 (lenN l36) (lenN l36)).bnd (fun _ =>
 (fulI 0 (lenN l37) (lenN l37)).bnd (fun _ =>
 (fulI 0 (lenN l38) (lenN l38)).bnd (fun _ =>
 (fulI 0 (lenN l39) (lenN l39)).bnd (fun _ =>
 some (Sum.inl ((i30, i31), (i32, i33), l34, l35, l36, l37, l38, l39))))))))).bnd (fun l50 =>
 some (Sum.inr l50))))
 ((l3, natI (lenN l3), (0 : Int)), (i0, i1, l2, l3, l4), (i5, i6, l7, l8, l9), ((0 : Int), (0 : Int)), (i0, mulI .i64 i1 i6), ([] : List Int), ([] : List (Int × (Int × (List Int)))), ([] : List Int), l13, ([] : List (Int × (Int × (List Int)))), l16))))))))
 (fun ((i51, i52), (i53, i54), l55, l56, l57, l58, l59, l60) =>
 (takI l58 (lenN l58)).bnd (fun l61 =>
 (takI l59 (lenN l59)).bnd (fun l62 =>
 (takI l60 (lenN l60)).bnd (fun l63 =>
 some ((i53, i54, l61, l62, l63), true)))))))))))


/-! ### products of all elements -/

theorem quoN {a b : Nat} (hb : 0 < b) (ha : a ≤ 1099511627776) : quoI .i64 (a : Int) (b : Int) = some ((a / b : Nat) : Int) := by
  unfold quoI
  rw [if_neg (by omega)]
  have h1 : a / b ≤ a := Nat.div_le_self a b
  rw [show Int.tdiv (a : Int) (b : Int) = ((a / b : Nat) : Int) from rfl]
  generalize a / b = q at h1 ⊢
  rw [wrap_id (by omega) (by omega)]
theorem remNN {a b : Nat} (hb : 0 < b) : remI (a : Int) (b : Int) = some ((a % b : Nat) : Int) := by
  rw [remN (by omega) (by omega)]
  rfl

section
variable {p : Int} {r c s d : Nat} {A B : Mat}

theorem kron_idx {t R : Nat} (hR : R = r * s) (ht : t < R * (c * d)) : t / (c * d) < r * s ∧ t % (c * d) < c * d ∧ t / (c * d) / s < r ∧ t % (c * d) / d < c ∧ t / (c * d) % s < s ∧ t % (c * d) % d < d ∧ 0 < c * d ∧ 0 < s ∧ 0 < d := by
  subst hR
  have hC : 0 < c * d := by
    rcases Nat.eq_zero_or_pos (c * d) with h | h
    · rw [h] at ht; simp at ht
    · exact h
  have hd : 0 < d := by
    rcases Nat.eq_zero_or_pos d with h | h
    · subst h; simp at hC
    · exact h
  have h1 : t / (c * d) < r * s := (Nat.div_lt_iff_lt_mul hC).2 ht
  have hs : 0 < s := by
    rcases Nat.eq_zero_or_pos s with h | h
    · subst h; simp at h1
    · exact h
  have h2 : t % (c * d) < c * d := Nat.mod_lt _ hC
  exact ⟨h1, h2, (Nat.div_lt_iff_lt_mul hs).2 h1, (Nat.div_lt_iff_lt_mul hd).2 h2, Nat.mod_lt _ hs, Nat.mod_lt _ hd, hC, hs, hd⟩

theorem g_kronI (hp : pOk p) (hr : r ≤ 4096) (hc : c ≤ 4096) (hs : s ≤ 4096) (hd : d ≤ 4096) (h1 : r * c ≤ 1048576) (h2 : s * d ≤ 1048576) (h3 : r * s ≤ 4096) (h4 : c * d ≤ 4096) (h5 : r * s * (c * d) ≤ 1048576) (hA : inM p r c A) (hB : inM p s d B) :
    G_impl_pairMatrix FUEL (p, ((r : Int), (c : Int), genD r c A), ((s : Int), (d : Int), genD s d B)) = some (((r * s : Nat) : Int), ((c * d : Nat) : Int), genD (r * s) (c * d) (kronM p s d A B)) := by
  simp only [G_impl_pairMatrix]
  rw [mulN (by omega) (by omega), mulN (by omega) (by omega), newI_nat h3 h4 h5, bnd_s]
  simp only [fulI_id, fulI_nil, bnd_s]
  rw [loopT_seq (fun i => ((p, (i : Int)), ((r : Int), (c : Int), genD r c A), ((s : Int), (d : Int), genD s d B), ((0 : Int), (0 : Int)), (((r * s : Nat) : Int), ((c * d : Nat) : Int)), ([] : List Int), genD (r * s) (c * d) (mulTo (kronM p s d A B) i 0))) (r * s) ?a1 ?a2 ?a3 (FUEL_gt (by omega))]
  case a3 => simp only [mul_0]; try rfl
  case a2 => simp only; rw [cnd_f (ltN_f (Nat.le_refl _))]; try (simp only [fulI_id, fulI_nil, bnd_s])
  case a1 =>
    intro i hi
    simp only
    rw [cnd_t (ltN_t hi)]
    rw [loopT_seq (fun j => ((p, (i : Int), (j : Int)), ((r : Int), (c : Int), genD r c A), ((s : Int), (d : Int), genD s d B), ((0 : Int), (0 : Int)), (((r * s : Nat) : Int), ((c * d : Nat) : Int)), ([] : List Int), genD (r * s) (c * d) (mulTo (kronM p s d A B) i j))) (c * d) ?b1 ?b2 ?b3 (FUEL_gt (by omega))]
    case b3 => rfl
    case b2 => simp only; rw [cnd_f (ltN_f (Nat.le_refl _))]; try (simp only [fulI_id, fulI_nil, bnd_s])
    case b1 =>
      intro j hj
      have hlt : i * (c * d) + j < r * s * (c * d) := idx_lt hi hj
      obtain ⟨k1, k2, k3, k4, k5, k6, k7, k8, k9⟩ := kron_idx rfl hlt
      rw [idx_div hj] at k3 k5
      rw [idx_mod hj] at k4 k6
      simp only
      rw [cnd_t (ltN_t hj), quoN k8 (by omega), bnd_s, quoN k9 (by omega), bnd_s, at_nat hr hc h1 k3 k4, bnd_s, remNN k8, bnd_s, remNN k9, bnd_s, at_nat hs hd h2 k5 k6, bnd_s, mulR hp (hA _ k3 _ k4).le (hB _ k5 _ k6).le, bnd_s, set_nat h3 h4 h5 hi hj]
      simp only [bnd_s, fulI_gen, addN1 (show j ≤ 1048577 by omega)]
      rw [show A (i / s) (j / d) * B (i % s) (j % d) % p = kronM p s d A B i j from rfl, mul_step]
    rw [joinK_l]
    simp only [addN1 (show i ≤ 1048577 by omega)]
    rw [mul_row]
  rw [joinK_l]
  simp only [takI_id, bnd_s]
  rw [mul_end]
end

theorem mOk_gen2 {x : Mx3} (h : mOk x) : ∃ (r c : Nat) (M : Mat), x = ((r : Int), (c : Int), genD r c M) ∧ r ≤ 4096 ∧ c ≤ 4096 ∧ r * c ≤ 1048576 ∧ M = ofD c (genD r c M) := by
  obtain ⟨r, c, M, rfl, h1, h2, h3⟩ := mOk_gen h
  have e : genD r c (ofD c (genD r c M)) = genD r c M := genD_of (genD_len _ _ _)
  exact ⟨r, c, ofD c (genD r c M), by rw [e], h1, h2, h3, by rw [e]⟩

theorem kronOk_nat {x : Int × Mx3 × Mx3} (h : kronOk x) : ∃ (p : Int) (r c s d : Nat) (A B : Mat), x = (p, ((r : Int), (c : Int), genD r c A), ((s : Int), (d : Int), genD s d B)) ∧ pOk p ∧ r ≤ 4096 ∧ c ≤ 4096 ∧ s ≤ 4096 ∧ d ≤ 4096 ∧ r * c ≤ 1048576 ∧ s * d ≤ 1048576 ∧
    r * s ≤ 4096 ∧ c * d ≤ 4096 ∧ r * s * (c * d) ≤ 1048576 ∧ inM p r c A ∧ inM p s d B ∧ kronX x = (((r * s : Nat) : Int), ((c * d : Nat) : Int), genD (r * s) (c * d) (kronM p s d A B)) := by
  obtain ⟨p, x, y⟩ := x
  obtain ⟨hp, hx, hy, ⟨h3, h4⟩, h5, hA, hB⟩ := h
  obtain ⟨r, c, A, rfl, r1, c1, rc, eA⟩ := mOk_gen2 hx
  obtain ⟨s, d, B, rfl, s1, d1, sd, eB⟩ := mOk_gen2 hy
  simp only at h3 h4 h5 hA hB
  have e1 : (r : Int) * (s : Int) = ((r * s : Nat) : Int) := by norm_cast
  have e2 : (c : Int) * (d : Int) = ((c * d : Nat) : Int) := by norm_cast
  have e3 : ((r * s : Nat) : Int) * ((c * d : Nat) : Int) = ((r * s * (c * d) : Nat) : Int) := by norm_cast
  rw [e1] at h3 h5
  rw [e2] at h4 h5
  rw [e3] at h5
  refine ⟨p, r, c, s, d, A, B, rfl, hp, r1, c1, s1, d1, rc, sd, by omega, by omega, by omega, allP_gen.1 hA, allP_gen.1 hB, ?_⟩
  simp only [kronX, Int.toNat_natCast, ← eA, ← eB, e1, e2]

theorem f_impl_pairMatrix (x : Int × Mx3 × Mx3) (y : Mx3) (h : F_impl_pairMatrix x = some y) : G_impl_pairMatrix FUEL x = some y := by
  simp only [F_impl_pairMatrix, F_spec_l34Kron] at h
  split at h
  · rename_i hc
    obtain ⟨p, r, c, s, d, A, B, rfl, hp, r1, c1, s1, d1, rc, sd, h3, h4, h5, hA, hB, e⟩ := kronOk_nat hc
    rw [← h, e]
    exact g_kronI hp r1 c1 s1 d1 rc sd h3 h4 h5 hA hB
  · cases h

theorem kron_nat {p : Int} {r c s d : Nat} {A B : Mat} (hp : pOk p) (hr : r ≤ 64) (hc : c ≤ 64) (hs : s ≤ 64) (hd : d ≤ 64) (h3 : r * s ≤ 144) (h4 : c * d ≤ 144) (hA : inM p r c A) (hB : inM p s d B) :
    F_spec_l34Kron (p, ((r : Int), (c : Int), genD r c A), ((s : Int), (d : Int), genD s d B)) = some (((r * s : Nat) : Int), ((c * d : Nat) : Int), genD (r * s) (c * d) (kronM p s d A B)) := by
  have e1 : (r : Int) * (s : Int) = ((r * s : Nat) : Int) := by norm_cast
  have e2 : (c : Int) * (d : Int) = ((c * d : Nat) : Int) := by norm_cast
  have e3 : ((r * s : Nat) : Int) * ((c * d : Nat) : Int) = ((r * s * (c * d) : Nat) : Int) := by norm_cast
  have h1 : r * c ≤ 64 * 64 := Nat.mul_le_mul hr hc
  have h2 : s * d ≤ 64 * 64 := Nat.mul_le_mul hs hd
  have h5 : r * s * (c * d) ≤ 144 * 144 := Nat.mul_le_mul h3 h4
  have ok : kronOk (p, ((r : Int), (c : Int), genD r c A), ((s : Int), (d : Int), genD s d B)) := by
    refine ⟨hp, mOk_mk A (by omega) (by omega) (by omega), mOk_mk B (by omega) (by omega) (by omega), ⟨?_, ?_⟩, ?_, allP_gen.2 hA, allP_gen.2 hB⟩
    · show (r : Int) * (s : Int) ≤ 4096; rw [e1]; omega
    · show (c : Int) * (d : Int) ≤ 4096; rw [e2]; omega
    · show (r : Int) * (s : Int) * ((c : Int) * (d : Int)) ≤ 1048576; rw [e1, e2, e3]; omega
  rw [show F_spec_l34Kron _ = some _ from if_pos ok]
  congr 1
  simp only [kronX, Int.toNat_natCast, e1, e2]
  congr 2
  exact genD_congr fun i hi j hj => by
    obtain ⟨_, _, k3, k4, k5, k6, _, _, _⟩ := kron_idx rfl (idx_lt hi hj)
    rw [idx_div hj] at k3 k5
    rw [idx_mod hj] at k4 k6
    unfold kronM
    rw [ofD_gen A k3 k4, ofD_gen B k5 k6]

/-! ### products of automata -/

theorem prodTo_len {p : Int} {m : Nat} {a a2 : List Int} (k : Nat) : (prodTo p m a a2 k).length = k := by simp [prodTo]
theorem kronSt_succ (p : Int) (n m : Nat) (ms ms2 : List Mx3) (k : Nat) : kronSt p n m ms ms2 k ++ [(((n * m : Nat) : Int), ((n * m : Nat) : Int), genD (n * m) (n * m) (kronM p m m (stM n ms k) (stM m ms2 k)))] = kronSt p n m ms ms2 (k + 1) := by
  unfold kronSt
  rw [List.range_succ, List.map_append]
  rfl
theorem kronSt_len (p : Int) (n m : Nat) (ms ms2 : List Mx3) (k : Nat) : (kronSt p n m ms ms2 k).length = k := by simp [kronSt]

section
variable {p : Int} {n m : Nat} {a b a2 b2 : List Int} {ms ms2 : List Mx3}

theorem row_prod {s t : List Int} (hs : s.length = n) (ht : t.length = m) : genD (1 * 1) (n * m) (kronM p 1 m (ofD n s) (ofD m t)) = prodTo p m s t (n * m) := by
  unfold genD prodTo
  simp only [Nat.one_mul]
  refine List.map_congr_left fun k hk => ?_
  have hk := List.mem_range.1 hk
  have e1 : k / (n * m) = 0 := Nat.div_eq_of_lt hk
  have e2 : k % (n * m) = k := Nat.mod_eq_of_lt hk
  rw [e1, e2]
  unfold kronM ofD
  simp
theorem col_prod {s t : List Int} (hs : s.length = n) (ht : t.length = m) : genD (n * m) (1 * 1) (kronM p m 1 (ofD 1 s) (ofD 1 t)) = prodTo p m s t (n * m) := by
  unfold genD prodTo
  simp only [Nat.mul_one]
  refine List.map_congr_left fun k hk => ?_
  have hk := List.mem_range.1 hk
  rw [Nat.div_one, Nat.mod_one]
  unfold kronM ofD
  simp

theorem pair_row (hp : pOk p) (hn : n ≤ 12) (hm : m ≤ 12) (hnm : n * m ≤ 144) {s t : List Int} (hs : s.length = n) (ht : t.length = m) (hS : allP p s) (hT : allP p t) :
    F_impl_pairMatrix (p, (1, (n : Int), s), (1, (m : Int), t)) = some (1, ((n * m : Nat) : Int), prodTo p m s t (n * m)) := by
  have h := kron_nat (r := 1) (c := n) (s := 1) (d := m) (A := ofD n s) (B := ofD m t) hp (by omega) (by omega) (by omega) (by omega) (by omega) hnm (ofD_in (by omega) hS) (ofD_in (by omega) hT)
  rw [genD_of (c := n) (by omega), genD_of (c := m) (by omega), row_prod hs ht] at h
  exact h
theorem pair_col (hp : pOk p) (hn : n ≤ 12) (hm : m ≤ 12) (hnm : n * m ≤ 144) {s t : List Int} (hs : s.length = n) (ht : t.length = m) (hS : allP p s) (hT : allP p t) :
    F_impl_pairMatrix (p, ((n : Int), 1, s), ((m : Int), 1, t)) = some (((n * m : Nat) : Int), 1, prodTo p m s t (n * m)) := by
  have h := kron_nat (r := n) (c := 1) (s := m) (d := 1) (A := ofD 1 s) (B := ofD 1 t) hp (by omega) (by omega) (by omega) (by omega) hnm (by omega) (ofD_in (by omega) hS) (ofD_in (by omega) hT)
  rw [genD_of (c := 1) (by omega), genD_of (c := 1) (by omega), col_prod hs ht] at h
  exact h

theorem kron_tail (k : Nat) (hk : k ≤ 4) : fitI (addN (lenN (kronSt p n m ms ms2 k)) (lenN [(((n * m : Nat) : Int), ((n * m : Nat) : Int), genD (n * m) (n * m) (kronM p m m (stM n ms k) (stM m ms2 k)))])) 40 = some () :=
  fitI_ok (by simp only [addN, lenN, maxBytes, kronSt_len, List.length_cons, List.length_nil]; omega)

theorem g_mulAI (H : AutOk p n a ms b) (H2 : AutOk p m a2 ms2 b2) (hms : ms.length = ms2.length) (hnm : n * m ≤ 12) (hal : F_impl_sameLetters ((p, (n : Int), a, ms, b), p, (m : Int), a2, ms2, b2) = some true) :
    G_impl_MultiplyAutomata FUEL ((p, (n : Int), a, ms, b), p, (m : Int), a2, ms2, b2) = some ((p, ((n * m : Nat) : Int), prodTo p m a a2 (n * m), kronSt p n m ms ms2 ms.length, prodTo p m b b2 (n * m)), true) := by
  have hn := H.hn
  have hm := H2.hn
  have h4 := H.l4
  have h3 := H.al
  have h5 := H.bl
  have h6 := H2.al
  have h7 := H2.bl
  simp only [G_impl_MultiplyAutomata, hal, bnd_s]
  rw [cnd_f (by rfl), mulN (by omega) (by omega), cnd_f (ltI_f (by omega))]
  rw [show natI (lenN a) = (n : Int) by rw [nl, h3], show natI (lenN a2) = (m : Int) by rw [nl, h6], show natI (lenN b) = (n : Int) by rw [nl, h5], show natI (lenN b2) = (m : Int) by rw [nl, h7]]
  rw [pair_row H.p hn hm (by omega) h3 h6 H.ap H2.ap, bnd_s]
  simp only
  rw [pair_col H.p hn hm (by omega) h5 h7 H.bp H2.bp, bnd_s]
  simp only [fulI_id, fulI_nil, bnd_s, nl]
  rw [loopT_seq (fun k => ((ms, (ms.length : Int), (k : Int)), (p, (n : Int), a, ms, b), (p, (m : Int), a2, ms2, b2), ((0 : Int), (0 : Int)), (p, ((n * m : Nat) : Int)), ([] : List Int), ([] : List (Int × Int × List Int)), ([] : List Int), prodTo p m a a2 (n * m), kronSt p n m ms ms2 k, prodTo p m b b2 (n * m))) ms.length ?a1 ?a2 ?a3 (FUEL_gt (by omega))]
  case a3 => rfl
  case a2 => simp only; rw [cnd_f (ltN_f (Nat.le_refl _))]; try (simp only [fulI_id, fulI_nil, bnd_s])
  case a1 =>
    intro k hk
    obtain ⟨g1, g2⟩ := stM_get H hk
    obtain ⟨g3, g4⟩ := stM_get H2 (show k < ms2.length by omega)
    simp only
    rw [cnd_t (ltN_t hk), getI_nat, g1, bnd_s, getI_nat, g3, bnd_s]
    simp only
    rw [show F_impl_pairMatrix (p, ((n : Int), (n : Int), genD n n (stM n ms k)), ((m : Int), (m : Int), genD m m (stM m ms2 k))) = _ from kron_nat H.p (by omega) (by omega) (by omega) (by omega) (by omega) (by omega) g2 g4, bnd_s]
    simp only [takI_id, bnd_s, show fulI 0 1 (lenN [(((n * m : Nat) : Int), ((n * m : Nat) : Int), genD (n * m) (n * m) (kronM p m m (stM n ms k) (stM m ms2 k)))]) = some () from rfl, kron_tail k (by omega), fulI_id, fulI_nil, appL_eq, app_len]
    rw [kronSt_succ]
    try simp only [addN1 (show k ≤ 1048577 by omega)]
  rw [joinK_l]
  simp only [takI_id, bnd_s]

end

theorem f_impl_MultiplyAutomata (x : Aut × Aut) (y : Aut × Bool) (h : F_impl_MultiplyAutomata x = some y) : G_impl_MultiplyAutomata FUEL x = some y := by
  obtain ⟨x, z⟩ := x
  simp only [F_impl_MultiplyAutomata, F_spec_MultiplyAutomata] at h
  split at h
  · rename_i hl
    rw [← h]
    have e0 : F_impl_sameLetters (x, z) = some (alikeB x z) := if_pos hl
    cases hb : alikeB x z with
    | false =>
      obtain ⟨x0, x1, x2, x3, x4⟩ := x
      obtain ⟨z0, z1, z2, z3, z4⟩ := z
      simp only [G_impl_MultiplyAutomata, e0, bnd_s, hb]
      rfl
    | true =>
      have hb' := hb
      rw [hb] at e0
      obtain ⟨p, n, m, a, b, a2, b2, ms, ms2, rfl, rfl, H, H2, hl2⟩ := alikeB_nat hb
      have hn := H.hn
      have hm := H2.hn
      have enm : (n : Int) * (m : Int) = ((n * m : Nat) : Int) := by norm_cast
      by_cases h12 : n * m ≤ 12
      · rw [if_pos (show _ ∧ _ from ⟨by first | trivial | rfl, by show (n : Int) * (m : Int) ≤ 12; rw [enm]; omega⟩)]
        rw [g_mulAI H H2 hl2 h12 e0]
        simp only [prodX, Int.toNat_natCast]
      · rw [if_neg (fun h => h12 (by have h2 : (n : Int) * (m : Int) ≤ 12 := h.2; rw [enm] at h2; omega))]
        simp only [G_impl_MultiplyAutomata, e0, bnd_s]
        rw [cnd_f (by rfl), mulN (by omega) (by omega), cnd_t (ltI_t (by omega))]
  · cases h
end Go.Am
end
section
namespace Go.Am

/-! ### sums over sets -/

/-! ### numbers of members -/

end Go.Am
end
section
namespace Go.Am

/-! ### the laws of rings -/


def cS (om : Bool) (w : Nat) (x y : Nat → Int) (t : Nat) : Int := sm w (fun i => sm w (fun j => kW om x y t i j))
def pc (x y : Nat → Int) (t : Nat) : Int := sm (t + 1) (fun i => x i * y (t - i))

theorem sm_zero : ∀ (n : Nat) {f : Nat → Int}, (∀ i, i < n → f i = 0) → sm n f = 0
  | 0, _, _ => rfl
  | n + 1, f, h => by simp only [sm]; rw [sm_zero n (fun i hi => h i (by omega)), h n (by omega)]; rfl
theorem sm_at {a : Nat} {f : Nat → Int} : ∀ (n : Nat), a < n → (∀ i, i < n → i ≠ a → f i = 0) → sm n f = f a
  | 0, h, _ => by omega
  | n + 1, h, hf => by
    simp only [sm]
    by_cases e : a = n
    · subst e
      rw [sm_zero a (fun i hi => hf i (by omega) (by omega))]; omega
    · rw [sm_at n (by omega) (fun i hi hne => hf i (by omega) hne), hf n (by omega) (by omega)]; omega
theorem sm_cut {m : Nat} {f : Nat → Int} : ∀ (n : Nat), m ≤ n → (∀ i, i < n → m ≤ i → f i = 0) → sm n f = sm m f
  | 0, h, _ => by rw [show m = 0 by omega]
  | n + 1, h, hf => by
    by_cases e : m = n + 1
    · rw [e]
    · simp only [sm]
      rw [sm_cut n (by omega) (fun i hi hm => hf i (by omega) hm), hf n (by omega) (by omega)]; omega
theorem sm_mod {p : Int} {f g : Nat → Int} : ∀ {n : Nat}, (∀ i, i < n → f i % p = g i % p) → sm n f % p = sm n g % p
  | 0, _ => rfl
  | n + 1, h => by simp only [sm]; rw [Int.add_emod, sm_mod (n := n) (fun i hi => h i (by omega)), h n (by omega), ← Int.add_emod]

theorem cS_pc {w t : Nat} (x y : Nat → Int) (h : t < w) : cS false w x y t = pc x y t := by
  have hin : ∀ i, i < w → sm w (fun j => kW false x y t i j) = if i ≤ t then x i * y (t - i) else 0 := by
    intro i hi
    split
    · rename_i hit
      rw [sm_at (a := t - i) w (by omega) (fun j hj hne => by unfold kW; rw [if_neg (by omega), if_neg (by simp)])]
      unfold kW
      rw [if_pos (by omega)]
    · exact sm_zero w fun j hj => by unfold kW; rw [if_neg (by omega), if_neg (by simp)]
  unfold cS pc
  rw [sm_congr hin, sm_cut (m := t + 1) w (by omega) (fun i hi hm => if_neg (by omega))]
  exact sm_congr fun i hi => if_pos (by omega)

theorem neg_mod {p a b : Int} (hab : a % p = b % p) : (-a) % p = (-b) % p := by
  have : (0 - a) % p = (0 - b) % p := by rw [Int.sub_emod, hab, ← Int.sub_emod]
  simpa using this
theorem cS_mod {om : Bool} {w t : Nat} {p : Int} {x x' y y' : Nat → Int} (hx : ∀ i, i < w → x i % p = x' i % p) (hy : ∀ i, i < w → y i % p = y' i % p) : cS om w x y t % p = cS om w x' y' t % p := by
  refine sm_mod fun i hi => sm_mod fun j hj => ?_
  have hm : (x i * y j) % p = (x' i * y' j) % p := by rw [Int.mul_emod, hx i hi, hy j hj, ← Int.mul_emod]
  unfold kW
  split
  · exact hm
  · split
    · exact neg_mod hm
    · rfl
theorem cS_congr {om : Bool} {w t : Nat} {x x' y y' : Nat → Int} (hx : ∀ i, i < w → x i = x' i) (hy : ∀ i, i < w → y i = y' i) : cS om w x y t = cS om w x' y' t :=
  sm_congr fun i hi => sm_congr fun j hj => by unfold kW; rw [hx i hi, hy j hj]

theorem pc_assoc (x y z : Nat → Int) {t : Nat} (h : t < 6) : pc (pc x y) z t = pc x (pc y z) t := by
  match t, h with
  | 0, _ => simp only [pc, sm, Nat.reduceSub, Nat.reduceAdd, Nat.zero_add]; try grind
  | 1, _ => simp only [pc, sm, Nat.reduceSub, Nat.reduceAdd, Nat.zero_add]; try grind
  | 2, _ => simp only [pc, sm, Nat.reduceSub, Nat.reduceAdd, Nat.zero_add]; try grind
  | 3, _ => simp only [pc, sm, Nat.reduceSub, Nat.reduceAdd, Nat.zero_add]; try grind
  | 4, _ => simp only [pc, sm, Nat.reduceSub, Nat.reduceAdd, Nat.zero_add]; try grind
  | 5, _ => simp only [pc, sm, Nat.reduceSub, Nat.reduceAdd, Nat.zero_add]; try grind

theorem co_0 (x y : Nat → Int) : cS true 4 x y 0 = x 0 * y 0 - x 1 * y 3 - x 2 * y 2 - x 3 * y 1 := by simp [cS, sm, kW]; grind
theorem co_1 (x y : Nat → Int) : cS true 4 x y 1 = x 0 * y 1 + x 1 * y 0 - x 2 * y 3 - x 3 * y 2 := by simp [cS, sm, kW]; grind
theorem co_2 (x y : Nat → Int) : cS true 4 x y 2 = x 0 * y 2 + x 1 * y 1 + x 2 * y 0 - x 3 * y 3 := by simp [cS, sm, kW]; grind
theorem co_3 (x y : Nat → Int) : cS true 4 x y 3 = x 0 * y 3 + x 1 * y 2 + x 2 * y 1 + x 3 * y 0 := by simp [cS, sm, kW]
theorem co_assoc (x y z : Nat → Int) {t : Nat} (h : t < 4) : cS true 4 (cS true 4 x y) z t = cS true 4 x (cS true 4 y z) t := by
  match t, h with
  | 0, _ => rw [co_0, co_0]; simp only [co_0, co_1, co_2, co_3]; grind
  | 1, _ => rw [co_1, co_1]; simp only [co_0, co_1, co_2, co_3]; grind
  | 2, _ => rw [co_2, co_2]; simp only [co_0, co_1, co_2, co_3]; grind
  | 3, _ => rw [co_3, co_3]; simp only [co_0, co_1, co_2, co_3]; grind

theorem cS_assoc {k p : Int} {w : Nat} (c : CfR k p w) (x y z : Nat → Int) {t : Nat} (h : t < w) : cS (decide (k = 8)) w (cS (decide (k = 8)) w x y) z t = cS (decide (k = 8)) w x (cS (decide (k = 8)) w y z) t := by
  by_cases h8 : k = 8
  · obtain rfl := c.w8 h8
    rw [decide_eq_true h8]
    exact co_assoc x y z h
  · rw [decide_eq_false h8]
    have h6 := c.cw
    rw [cS_congr (x' := pc x y) (y' := z) (fun i hi => cS_pc x y hi) (fun _ _ => rfl), cS_pc _ _ h, cS_congr (x' := x) (y' := pc y z) (fun _ _ => rfl) (fun i hi => cS_pc y z hi), cS_pc _ _ h]
    exact pc_assoc x y z (by omega)

theorem cvE_eq (p : Int) (om : Bool) (w : Nat) (x y : Nat → Int) : cvE p om w x y = tab w fun t => cS om w x y t % p := rfl
theorem cv_of {r : Int × Int × Int} (h : r.1 = 7 ∨ r.1 = 8) (x y : List Int) : mulE r x y = cvE r.2.1 (decide (r.1 = 8)) (widN r) (fnL x) (fnL y) := if_pos h

theorem min_mul {a b c p : Int} (hp : 0 ≤ p) (ha : 0 ≤ a) (hb : 0 ≤ b) (hc : 0 ≤ c) : min (min (a * b) p * c) p = min (a * b * c) p := by
  generalize hm : a * b = m
  by_cases h : m ≤ p
  · rw [show min m p = m by omega]
  · rw [show min m p = p by omega]
    by_cases h0 : c = 0
    · subst h0; simp
    · have h1 : p * 1 ≤ p * c := Int.mul_le_mul_of_nonneg_left (by omega) hp
      have h2 : p * c ≤ m * c := Int.mul_le_mul_of_nonneg_right (by omega) hc
      omega

theorem wid1 {r : Int × Int × Int} (hk : ¬ (r.1 = 7 ∨ r.1 = 8)) : widN r = 1 := by
  obtain ⟨k, p, n⟩ := r
  simp only at hk
  simp only [widN, widI]
  rw [if_neg (by omega), if_neg (by omega)]
  rfl

theorem opM_assoc {r : Int × Int × Int} (hr : ringOk r = true) (hk : ¬ (r.1 = 7 ∨ r.1 = 8)) {a b c : Int} (ha : 0 ≤ a ∧ a ≤ topI r) (hb : 0 ≤ b ∧ b ≤ topI r) (hc : 0 ≤ c ∧ c ≤ topI r) : opM r (opM r a b) c = opM r a (opM r b c) := by
  obtain ⟨k, p, n⟩ := r
  simp only at hk
  rcases ring_cases hr with ⟨rfl, rfl, rfl⟩ | ⟨rfl, hp, rfl⟩ | ⟨rfl, hp, rfl⟩ | ⟨rfl, hp, rfl⟩ | ⟨rfl, hp, rfl⟩ | ⟨rfl, rfl, hn⟩ | ⟨rfl, hp, hn⟩ | ⟨rfl, hp, hp2, rfl⟩
  · have o : ∀ u v, opM (1, 0, 0) u v = ((u.toNat &&& v.toNat : Nat) : Int) := fun _ _ => rfl
    rw [o, o, o, o, Int.toNat_natCast, Int.toNat_natCast, Nat.and_assoc]
  · have o : ∀ u v, opM (2, p, 0) u v = u * v % p := fun _ _ => rfl
    rw [o, o, o, o, Int.mul_emod, Int.emod_emod, ← Int.mul_emod, Int.mul_emod a, Int.emod_emod, ← Int.mul_emod, Int.mul_assoc]
  · have o : ∀ u v, opM (3, p, 0) u v = min (u * v) p := fun _ _ => rfl
    rw [o, o, o, o, min_mul (by omega) ha.1 hb.1 hc.1, Int.mul_comm a (min _ _), min_mul (by omega) hb.1 hc.1 ha.1, Int.mul_assoc a b c, Int.mul_comm a]
  · have o : ∀ u v, opM (4, p, 0) u v = min (u + v) p := fun _ _ => rfl
    rw [o, o, o, o]; omega
  · have o : ∀ u v, opM (5, p, 0) u v = min u v := fun _ _ => rfl
    rw [o, o, o, o]; omega
  · have o : ∀ u v, opM (6, 0, n) u v = ((u.toNat &&& v.toNat : Nat) : Int) := fun _ _ => rfl
    rw [o, o, o, o, Int.toNat_natCast, Int.toNat_natCast, Nat.and_assoc]
  · omega
  · omega

theorem mul_assoc {r : Int × Int × Int} {x y z : List Int} (hr : ringOk r = true) (hx : elOk r x = true) (hy : elOk r y = true) (hz : elOk r z = true) : mulE r (mulE r x y) z = mulE r x (mulE r y z) := by
  by_cases hk : r.1 = 7 ∨ r.1 = 8
  · obtain ⟨k, p, n⟩ := r
    have c := cf_of hr hk
    rw [cv_of hk, cv_of hk, cv_of hk, cv_of hk]
    simp only
    refine tab_congr fun t ht => ?_
    show cS (decide (k = 8)) (widN (k, p, n)) (fnL (cvE p (decide (k = 8)) (widN (k, p, n)) (fnL x) (fnL y))) (fnL z) t % p = cS (decide (k = 8)) (widN (k, p, n)) (fnL x) (fnL (cvE p (decide (k = 8)) (widN (k, p, n)) (fnL y) (fnL z))) t % p
    have e1 : cS (decide (k = 8)) (widN (k, p, n)) (fnL (cvE p (decide (k = 8)) (widN (k, p, n)) (fnL x) (fnL y))) (fnL z) t % p = cS (decide (k = 8)) (widN (k, p, n)) (cS (decide (k = 8)) (widN (k, p, n)) (fnL x) (fnL y)) (fnL z) t % p :=
      cS_mod (fun i hi => by rw [cvE_eq, fnL_tab _ hi, Int.emod_emod]) (fun _ _ => rfl)
    have e2 : cS (decide (k = 8)) (widN (k, p, n)) (fnL x) (fnL (cvE p (decide (k = 8)) (widN (k, p, n)) (fnL y) (fnL z))) t % p = cS (decide (k = 8)) (widN (k, p, n)) (fnL x) (cS (decide (k = 8)) (widN (k, p, n)) (fnL y) (fnL z)) t % p :=
      cS_mod (fun _ _ => rfl) (fun i hi => by rw [cvE_eq, fnL_tab _ hi, Int.emod_emod])
    rw [e1, e2, cS_assoc c _ _ _ ht]
  · have hw := wid1 hk
    obtain ⟨a, b, rfl, rfl, ha, hb⟩ := el_two hx hy hw
    obtain ⟨_, c, e, rfl, _, hc⟩ := el_two hx hz hw
    rw [mulE_1 hk, mulE_1 hk, mulE_1 hk, mulE_1 hk, opM_assoc hr hk ha hb hc]

theorem fnL_one {k p n : Int} (hk : k = 7 ∨ k = 8) {j : Nat} (hj : j < widN (k, p, n)) : fnL (oneE (k, p, n)) j = if j = 0 then 1 else 0 := by
  rw [oneE_tab, fnL_tab _ hj, if_neg (show ¬ k = 4 by omega), if_neg (show ¬ (k = 5 ∨ k = 6) by omega)]

theorem cS_0 {k p : Int} {w : Nat} (c : CfR k p w) (u : Nat → Int) (v : Int) {t : Nat} (h : t < w) : cS (decide (k = 8)) w u (fun j => if j = 0 then v else 0) t = u t * v := by
  by_cases h8 : k = 8
  · obtain rfl := c.w8 h8
    rw [decide_eq_true h8]
    match t, h with
    | 0, _ => rw [co_0]; simp
    | 1, _ => rw [co_1]; simp
    | 2, _ => rw [co_2]; simp
    | 3, _ => rw [co_3]; simp
  · rw [decide_eq_false h8, cS_pc _ _ h]
    unfold pc
    rw [sm_at (a := t) (t + 1) (by omega) (fun i hi hne => by simp only; rw [if_neg (by omega), Int.mul_zero])]
    simp only
    rw [if_pos (by omega)]

theorem opM_one {k p n : Int} (hr : ringOk (k, p, n) = true) (hk : ¬ (k = 7 ∨ k = 8)) {a : Int} (ha : 0 ≤ a ∧ a ≤ topI (k, p, n)) : opM (k, p, n) a (if k = 4 then 0 else if k = 5 ∨ k = 6 then topI (k, p, n) else 1) = a := by
  rcases ring_cases hr with ⟨rfl, rfl, rfl⟩ | ⟨rfl, hp, rfl⟩ | ⟨rfl, hp, rfl⟩ | ⟨rfl, hp, rfl⟩ | ⟨rfl, hp, rfl⟩ | ⟨rfl, rfl, hn⟩ | ⟨rfl, hp, hn⟩ | ⟨rfl, hp, hp2, rfl⟩
  · have e : topI (1, 0, 0) = 1 := rfl
    have h1 : a = 0 ∨ a = 1 := by omega
    rcases h1 with rfl | rfl <;> decide
  · have e : topI (2, p, 0) = p - 1 := rfl
    have := isPrimeI_t hp
    show a * 1 % p = a
    rw [Int.mul_one, Int.emod_eq_of_lt (by omega) (by omega)]
  · have e : topI (3, p, 0) = p := rfl
    show min (a * 1) p = a
    omega
  · have e : topI (4, p, 0) = p := rfl
    show min (a + 0) p = a
    omega
  · have e : topI (5, p, 0) = p := rfl
    show min a p = a
    omega
  · have e : topI (6, 0, n) = 2 ^ n.toNat - 1 := rfl
    have e2 : (((2 : Nat) ^ n.toNat : Nat) : Int) = (2 : Int) ^ n.toNat := by push_cast; rfl
    show ((a.toNat &&& (2 ^ n.toNat - 1 : Int).toNat : Nat) : Int) = a
    rw [show (2 ^ n.toNat - 1 : Int).toNat = 2 ^ n.toNat - 1 by omega, Nat.and_two_pow_sub_one_eq_mod, Nat.mod_eq_of_lt (by omega)]
    omega
  · omega
  · omega

theorem mul_one {r : Int × Int × Int} {x : List Int} (hr : ringOk r = true) (hx : elOk r x = true) : mulE r x (oneE r) = x := by
  obtain ⟨k, p, n⟩ := r
  by_cases hk : k = 7 ∨ k = 8
  · have c := cf_of hr hk
    rw [cv_of hk, cvE_eq]
    simp only
    have hT : topI (k, p, n) = p - 1 := by
      simp only [topI]
      rw [if_neg (by omega), if_neg (by omega), if_neg (by omega)]
    refine (tab_congr fun t ht => ?_).trans (tab_fnL (el_len hx))
    rw [cS_congr (x' := fnL x) (y' := fun j => if j = 0 then 1 else 0) (fun _ _ => rfl) (fun i hi => fnL_one hk hi), cS_0 c _ _ ht, Int.mul_one]
    have := el_at hx ht
    rw [hT] at this
    exact Int.emod_eq_of_lt this.1 (by omega)
  · have hw := wid1 (r := (k, p, n)) hk
    obtain ⟨e, ha⟩ := el_one hx hw
    have e1 : oneE (k, p, n) = [if k = 4 then 0 else if k = 5 ∨ k = 6 then topI (k, p, n) else 1] := by simp only [oneE]; exact rep_set hw
    rw [e, e1, mulE_1 hk, opM_one hr hk ha]

/-! ### numbers as elements -/

/-! ### sums over sets of edges -/

end Go.Am
end
section
namespace Go.Am

/-! ### sums -/

theorem dot_sm (p : Int) (f g : Nat → Int) : ∀ n, dotF p f g n = sm n (fun t => f t * g t) % p
  | 0 => by simp [dotF, sm]
  | n + 1 => by simp only [dotF, sm]; rw [dot_sm p f g n, Int.emod_add_emod]
theorem sm_app (n : Nat) (f : Nat → Int) : ∀ m, sm (n + m) f = sm n f + sm m (fun t => f (n + t))
  | 0 => by simp [sm]
  | m + 1 => by rw [← Nat.add_assoc]; simp only [sm]; rw [sm_app n f m]; omega
theorem sm_mulL (c : Int) (f : Nat → Int) : ∀ n, sm n (fun t => c * f t) = c * sm n f
  | 0 => by simp [sm]
  | n + 1 => by simp only [sm]; rw [sm_mulL c f n, Int.mul_add]
theorem sm_prod (f g : Nat → Int) (m : Nat) : ∀ n, sm (n * m) (fun t => f (t / m) * g (t % m)) = sm n f * sm m g
  | 0 => by simp [sm]
  | n + 1 => by
    rw [Nat.succ_mul, sm_app, sm_prod f g m n]
    simp only [sm]
    rw [Int.add_mul, ← sm_mulL (f n) g m]
    congr 1
    refine sm_congr fun t ht => ?_
    rw [show (n * m + t) / m = n by rw [Nat.mul_comm, Nat.mul_add_div (by omega), Nat.div_eq_of_lt ht]; rfl, show (n * m + t) % m = t by rw [Nat.mul_comm, Nat.mul_add_mod, Nat.mod_eq_of_lt ht]]

/-! ### rows as tables -/

theorem stepR_tab (p : Int) (n : Nat) (ms : List Mx3) (v : List Int) (c : Int) : stepR p n ms v c = tab n (fun j => sm n (fun t => fnL v t * stM n ms c.toNat t j) % p) := by
  unfold stepR genD tab
  rw [Nat.one_mul]
  refine List.map_congr_left fun j hj => ?_
  have hj := List.mem_range.1 hj
  rw [Nat.div_eq_of_lt hj, Nat.mod_eq_of_lt hj]
  unfold mulF
  rw [dot_sm]
  congr 1
  refine sm_congr fun t _ => ?_
  unfold ofD fnL stM ofD
  rw [Nat.zero_mul, Nat.zero_add]
theorem tab_app (n m : Nat) (f : Nat → Int) : tab (n + m) f = tab n f ++ tab m (fun j => f (n + j)) := by
  unfold tab
  rw [List.range_add, List.map_append, List.map_map]
  rfl
theorem fnL_app1 {x y : List Int} {t : Nat} (h : t < x.length) : fnL (x ++ y) t = fnL x t := by
  unfold fnL
  rw [List.getD_eq_getElem?_getD, List.getD_eq_getElem?_getD, List.getElem?_append_left h]
theorem fnL_app2 {x y : List Int} {n t : Nat} (h : x.length = n) : fnL (x ++ y) (n + t) = fnL y t := by
  unfold fnL
  rw [List.getD_eq_getElem?_getD, List.getD_eq_getElem?_getD, List.getElem?_append_right (by omega)]
  congr 2
  omega
theorem fnL_tab1 {n j : Nat} (f : Nat → Int) (h : j < n) : fnL (tab n f) j = f j := by
  unfold fnL tab
  rw [List.getD_eq_getElem?_getD, List.getElem?_map, List.getElem?_range h]
  rfl
theorem stM_sum {n m k : Nat} {ms ms2 : List Mx3} {c i j : Nat} (hc : c < k) (hi : i < n + m) (hj : j < n + m) : stM (n + m) (sumSt n m ms ms2 k) c i j = sumM n (stM n ms c) (stM m ms2 c) i j := by
  have e : stM (n + m) (sumSt n m ms ms2 k) c = ofD (n + m) (genD (n + m) (n + m) (sumM n (stM n ms c) (stM m ms2 c))) := by
    conv => lhs; unfold stM
    congr 1
    unfold sumSt
    rw [List.getD_eq_getElem?_getD, List.getElem?_map, List.getElem?_range hc]
    rfl
  rw [e, ofD_gen _ hi hj]
theorem step_sum {p : Int} {n m k : Nat} {ms ms2 : List Mx3} {s t : List Int} {c : Int} (hs : s.length = n) (ht : t.length = m) (hc : c.toNat < k) :
    stepR p (n + m) (sumSt n m ms ms2 k) (s ++ t) c = stepR p n ms s c ++ stepR p m ms2 t c := by
  rw [stepR_tab, stepR_tab, stepR_tab, tab_app]
  congr 1
  · refine tab_congr fun j hj => ?_
    congr 1
    rw [sm_app]
    rw [sm_zero m (f := fun u => fnL (s ++ t) (n + u) * stM (n + m) (sumSt n m ms ms2 k) c.toNat (n + u) j) (fun u hu => by
      rw [stM_sum hc (by omega) (by omega)]
      unfold sumM
      rw [if_neg (by omega), if_neg (by omega), Int.mul_zero]), Int.add_zero]
    refine sm_congr fun u hu => ?_
    rw [stM_sum hc (by omega) (by omega), fnL_app1 (by omega)]
    unfold sumM
    rw [if_pos (by omega)]
  · refine tab_congr fun j hj => ?_
    congr 1
    rw [sm_app]
    rw [sm_zero n (f := fun u => fnL (s ++ t) u * stM (n + m) (sumSt n m ms ms2 k) c.toNat u (n + j)) (fun u hu => by
      rw [stM_sum hc (by omega) (by omega)]
      unfold sumM
      rw [if_neg (by omega), if_neg (by omega), Int.mul_zero]), Int.zero_add]
    refine sm_congr fun u hu => ?_
    rw [stM_sum hc (by omega) (by omega), fnL_app2 hs]
    unfold sumM
    rw [if_neg (by omega), if_pos (by omega), Nat.add_sub_cancel_left, Nat.add_sub_cancel_left]
theorem reach_sum {p : Int} {n m k : Nat} {ms ms2 : List Mx3} : ∀ (w s t : List Int), s.length = n → t.length = m → (∀ c ∈ w, c.toNat < k) →
    reachL p (n + m) (sumSt n m ms ms2 k) (s ++ t) w = reachL p n ms s w ++ reachL p m ms2 t w
  | [], _, _, _, _, _ => rfl
  | c :: w, s, t, hs, ht, hw => by
    unfold reachL
    simp only [List.foldl_cons]
    rw [step_sum hs ht (hw c (by simp))]
    exact reach_sum w _ _ stepR_len stepR_len fun c hc => hw c (by simp [hc])
theorem dotL_sm (p : Int) (x y : List Int) : dotL p x y = sm x.length (fun t => fnL x t * fnL y t) % p := by
  unfold dotL
  rw [dot_sm]
  rfl
theorem dot_app {p : Int} {x y b c : List Int} (h : x.length = b.length) : dotL p (x ++ y) (b ++ c) = (dotL p x b + dotL p y c) % p := by
  rw [dotL_sm, dotL_sm, dotL_sm, List.length_append, sm_app, ← Int.add_emod]
  congr 2
  · exact sm_congr fun t ht => by rw [fnL_app1 ht, fnL_app1 (by omega)]
  · exact sm_congr fun t ht => by rw [fnL_app2 rfl, fnL_app2 h.symm]
/-- The weight of a word in the sum. -/
theorem weight_sum {p : Int} {n m : Nat} {a b a2 b2 : List Int} {ms ms2 : List Mx3} (H : AutOk p n a ms b) (H2 : AutOk p m a2 ms2 b2) {w : List Int} (hw : wOk ms.length w) :
    weightL ((p, ((n + m : Nat) : Int), a ++ a2, sumSt n m ms ms2 ms.length, b ++ b2), w) = (weightL ((p, (n : Int), a, ms, b), w) + weightL ((p, (m : Int), a2, ms2, b2), w)) % p := by
  unfold weightL
  simp only [Int.toNat_natCast]
  rw [reach_sum w a a2 H.al H2.al (fun c hc => by have := hw c hc; omega)]
  exact dot_app (by rw [(reachL_I H.p w a H.al H.ap).1, H.bl])

/-! ### products -/

theorem prodTo_tab (p : Int) (m : Nat) (s t : List Int) (k : Nat) : prodTo p m s t k = tab k (fun q => fnL s (q / m) * fnL t (q % m) % p) := rfl
theorem stM_kron {p : Int} {n m k : Nat} {ms ms2 : List Mx3} {c i j : Nat} (hc : c < k) (hi : i < n * m) (hj : j < n * m) : stM (n * m) (kronSt p n m ms ms2 k) c i j = kronM p m m (stM n ms c) (stM m ms2 c) i j := by
  have e : stM (n * m) (kronSt p n m ms ms2 k) c = ofD (n * m) (genD (n * m) (n * m) (kronM p m m (stM n ms c) (stM m ms2 c))) := by
    conv => lhs; unfold stM
    congr 1
    unfold kronSt
    rw [List.getD_eq_getElem?_getD, List.getElem?_map, List.getElem?_range hc]
    rfl
  rw [e, ofD_gen _ hi hj]
theorem mod_shuffle (p a b c d : Int) : (a * b % p) * (c * d % p) % p = (a * c) * (b * d) % p := by
  rw [← Int.mul_emod]
  congr 1
  rw [Int.mul_assoc, Int.mul_assoc, Int.mul_left_comm b c d]
theorem step_prod {p : Int} {n m k : Nat} {ms ms2 : List Mx3} {s t : List Int} {c : Int} (hc : c.toNat < k) :
    stepR p (n * m) (kronSt p n m ms ms2 k) (prodTo p m s t (n * m)) c = prodTo p m (stepR p n ms s c) (stepR p m ms2 t c) (n * m) := by
  rw [stepR_tab, stepR_tab, stepR_tab, prodTo_tab, prodTo_tab]
  refine tab_congr fun j hj => ?_
  have hm : 0 < m := by
    rcases Nat.eq_zero_or_pos m with h | h
    · subst h; omega
    · exact h
  have hd : j / m < n := (Nat.div_lt_iff_lt_mul hm).2 hj
  rw [fnL_tab1 _ hd, fnL_tab1 _ (Nat.mod_lt j hm)]
  rw [← Int.mul_emod, ← sm_prod]
  refine sm_mod fun q hq => ?_
  rw [fnL_tab1 _ hq, stM_kron hc hq hj]
  unfold kronM
  exact mod_shuffle _ _ _ _ _
theorem reach_prod {p : Int} {n m k : Nat} {ms ms2 : List Mx3} : ∀ (w s t : List Int), (∀ c ∈ w, c.toNat < k) →
    reachL p (n * m) (kronSt p n m ms ms2 k) (prodTo p m s t (n * m)) w = prodTo p m (reachL p n ms s w) (reachL p m ms2 t w) (n * m)
  | [], _, _, _ => rfl
  | c :: w, s, t, hw => by
    unfold reachL
    simp only [List.foldl_cons]
    rw [step_prod (hw c (by simp))]
    exact reach_prod w _ _ fun c hc => hw c (by simp [hc])
theorem dot_prod {p : Int} {n m : Nat} {x y b c : List Int} (hx : x.length = n) (hy : y.length = m) : dotL p (prodTo p m x y (n * m)) (prodTo p m b c (n * m)) = dotL p x b * dotL p y c % p := by
  rw [dotL_sm, dotL_sm, dotL_sm, ← Int.mul_emod, hx, hy, ← sm_prod, prodTo_len]
  refine sm_mod fun q hq => ?_
  rw [prodTo_tab, prodTo_tab, fnL_tab1 _ hq, fnL_tab1 _ hq]
  exact mod_shuffle _ _ _ _ _
/-- The weight of a word in the product. -/
theorem weight_prod {p : Int} {n m : Nat} {a b a2 b2 : List Int} {ms ms2 : List Mx3} (H : AutOk p n a ms b) (H2 : AutOk p m a2 ms2 b2) {w : List Int} (hw : wOk ms.length w) :
    weightL ((p, ((n * m : Nat) : Int), prodTo p m a a2 (n * m), kronSt p n m ms ms2 ms.length, prodTo p m b b2 (n * m)), w) = weightL ((p, (n : Int), a, ms, b), w) * weightL ((p, (m : Int), a2, ms2, b2), w) % p := by
  unfold weightL
  simp only [Int.toNat_natCast]
  rw [reach_prod w a a2 (fun c hc => by have := hw c hc; omega)]
  have e1 := (reachL_I (n := n) (ms := ms) H.p w a H.al H.ap).1
  have e2 := (reachL_I (n := m) (ms := ms2) H2.p w a2 H2.al H2.ap).1
  exact dot_prod e1 e2

/-! ### sizes -/

theorem autOk_mk {p : Int} {n : Nat} {a b : List Int} {ms : List Mx3} (H : AutOk p n a ms b) : autOk (p, (n : Int), a, ms, b) = true := by
  have hp := H.p
  have hn := H.hn
  simp only [autOk, Bool.and_eq_true, decide_eq_true_eq]
  refine ⟨H.pr, ⟨by omega, by omega⟩, ⟨rowOk_P.2 H.ap, by rw [H.al]⟩, ⟨rowOk_P.2 H.bp, by rw [H.bl]⟩, ⟨H.l1, H.l4⟩, List.all_eq_true.2 fun x hx => ?_⟩
  obtain ⟨M, rfl, hM⟩ := H.hm x hx
  simp only [matsOk, matOk, Bool.and_eq_true, decide_eq_true_eq]
  exact ⟨⟨H.pr, ⟨by omega, by omega⟩, ⟨by omega, by omega⟩, by rw [genD_len]; push_cast; rfl, rowOk_P.2 (allP_gen.2 hM)⟩, trivial, trivial⟩
theorem sum_le_len {α : Type} (f : α → Nat) (B : Nat) : ∀ (l : List α), (∀ x ∈ l, f x ≤ B) → (l.map f).sum ≤ B * l.length
  | [], _ => by simp
  | x :: l, h => by
    rw [List.map_cons, List.sum_cons, List.length_cons, Nat.mul_succ]
    have := h x (by simp)
    have := sum_le_len f B l fun y hy => h y (by simp [hy])
    omega
theorem aut_sz {p : Int} {n : Nat} {a b : List Int} {ms : List Mx3} (H : AutOk p n a ms b) : sz_Automaton (p, (n : Int), a, ms, b) ≤ 1000 := by
  have h1 : sz_MatrixS ms ≤ 4 + 144 * 4 := by
    unfold sz_MatrixS
    have := sum_le_len sz_Matrix 144 ms fun x hx => by
      obtain ⟨M, rfl, _⟩ := H.hm x hx
      show (genD n n M).length ≤ 144
      rw [genD_len]
      exact Nat.mul_le_mul H.hn H.hn
    have := H.l4
    have : 144 * ms.length ≤ 144 * 4 := Nat.mul_le_mul_left _ H.l4
    omega
  show a.length + sz_MatrixS ms + b.length ≤ 1000
  have := H.al
  have := H.bl
  have := H.hn
  omega
theorem aut_sum {p : Int} {n m : Nat} {a b a2 b2 : List Int} {ms ms2 : List Mx3} (H : AutOk p n a ms b) (H2 : AutOk p m a2 ms2 b2) (hnm : n + m ≤ 12) (hl : ms.length = ms2.length) : AutOk p (n + m) (a ++ a2) (sumSt n m ms ms2 ms.length) (b ++ b2) := by
  have hp := H.p
  refine ⟨H.pr, hnm, by rw [List.length_append, H.al, H2.al], ?_, by rw [List.length_append, H.bl, H2.bl], ?_, by rw [sumSt_len]; exact H.l1, by rw [sumSt_len]; exact H.l4, ?_⟩
  · intro x hx
    rcases List.mem_append.1 hx with h | h
    · exact H.ap x h
    · exact H2.ap x h
  · intro x hx
    rcases List.mem_append.1 hx with h | h
    · exact H.bp x h
    · exact H2.bp x h
  · intro x hx
    obtain ⟨c, hc, rfl⟩ := List.mem_map.1 hx
    have hc := List.mem_range.1 hc
    refine ⟨_, rfl, ?_⟩
    have h1 := (stM_get H hc).2
    have h2 := (stM_get H2 (k := c) (by omega)).2
    intro i hi j hj
    unfold sumM
    split
    · rename_i h; exact h1 i h.1 j h.2
    · split
      · rename_i h; exact h2 _ (by omega) _ (by omega)
      · exact ⟨Int.le_refl _, by have := hp.1; omega⟩
theorem prodTo_in {p : Int} (hp : pOk p) (m : Nat) (s t : List Int) (k : Nat) : allP p (prodTo p m s t k) := by
  intro x hx
  obtain ⟨q, _, rfl⟩ := List.mem_map.1 hx
  exact ⟨Int.emod_nonneg _ (by have := hp.1; omega), Int.emod_lt_of_pos _ (by have := hp.1; omega)⟩
theorem aut_prod {p : Int} {n m : Nat} {a b a2 b2 : List Int} {ms ms2 : List Mx3} (H : AutOk p n a ms b) (hnm : n * m ≤ 12) : AutOk p (n * m) (prodTo p m a a2 (n * m)) (kronSt p n m ms ms2 ms.length) (prodTo p m b b2 (n * m)) := by
  have hp := H.p
  refine ⟨H.pr, hnm, prodTo_len _, prodTo_in hp _ _ _ _, prodTo_len _, prodTo_in hp _ _ _ _, by rw [kronSt_len]; exact H.l1, by rw [kronSt_len]; exact H.l4, ?_⟩
  intro x hx
  obtain ⟨c, hc, rfl⟩ := List.mem_map.1 hx
  refine ⟨_, rfl, fun i _ j _ => ?_⟩
  unfold kronM
  exact ⟨Int.emod_nonneg _ (by have := hp.1; omega), Int.emod_lt_of_pos _ (by have := hp.1; omega)⟩
theorem alike_mk {p : Int} {n m : Nat} {a b a2 b2 : List Int} {ms ms2 : List Mx3} (H : AutOk p n a ms b) (H2 : AutOk p m a2 ms2 b2) (hl : ms.length = ms2.length) : alikeB (p, (n : Int), a, ms, b) (p, (m : Int), a2, ms2, b2) = true := by
  simp only [alikeB, Bool.and_eq_true, decide_eq_true_eq]
  exact ⟨autOk_mk H, autOk_mk H2, trivial, hl⟩
theorem weight_ok {p : Int} {n : Nat} {a b : List Int} {ms : List Mx3} (H : AutOk p n a ms b) {w : List Int} (hl : w.length ≤ 24) (hw : wOk ms.length w) : F_impl_WordWeight ((p, (n : Int), a, ms, b), w) = some (weightL ((p, (n : Int), a, ms, b), w)) := by
  have h := aut_sz H
  simp only [F_impl_WordWeight, F_spec_WordWeight]
  rw [if_pos ⟨by omega, by omega⟩, if_pos ⟨autOk_mk H, hl, hw⟩]
theorem weight_in {p : Int} {n : Nat} {a b : List Int} {ms : List Mx3} (hp : pOk p) {w : List Int} : 0 ≤ weightL ((p, (n : Int), a, ms, b), w) ∧ weightL ((p, (n : Int), a, ms, b), w) < p := by
  unfold weightL
  rw [dotL_sm]
  dsimp only
  exact ⟨Int.emod_nonneg _ (by have := hp.1; omega), Int.emod_lt_of_pos _ (by have := hp.1; omega)⟩
end Go.Am
end
