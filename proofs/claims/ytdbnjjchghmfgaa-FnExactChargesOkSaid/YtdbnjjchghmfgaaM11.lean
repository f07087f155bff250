/- Mx, M1, M4, M5, M11: parts of the proof. No condition. -/
import Derived.Test.YtdbnjjchghmfgaaMT
set_option linter.unusedVariables false
set_option linter.unusedSimpArgs false
section
namespace Go.Am

/-! ### loops -/

theorem loopT_inv {X Y : Type} {f : X → Option (X ⊕ Y)} {r : Y} (n : Nat) (Inv : Nat → X → Prop) (h1 : ∀ j x, j < n → Inv j x → ∃ x', f x = some (.inl x') ∧ Inv (j + 1) x') (h2 : ∀ x, Inv n x → f x = some (.inr r))
    {x0 : X} (h0 : Inv 0 x0) {N : Nat} (hN : n < N) : loopT N f x0 = some r := by
  refine loopT_run (fun k x => ∃ j, j + k = n ∧ Inv j x) (fun k x ⟨j, hj, hI⟩ => ?_) n x0 ⟨0, by omega, h0⟩ N hN
  by_cases hk : k = 0
  · subst hk
    have : j = n := by omega
    subst this
    exact .inl (h2 x hI)
  · obtain ⟨x', e, hI'⟩ := h1 j x (by omega) hI
    exact .inr ⟨k - 1, x', by omega, e, j + 1, by omega, hI'⟩

/-! ### matrices -/

def genD (r c : Nat) (M : Nat → Nat → Int) : List Int := (List.range (r * c)).map fun n => M (n / c) (n % c)
def ofD (c : Nat) (l : List Int) : Nat → Nat → Int := fun i j => l.getD (i * c + j) 0
def updM (M : Nat → Nat → Int) (i j : Nat) (x : Int) : Nat → Nat → Int := fun a b => if a = i ∧ b = j then x else M a b

theorem idx_lt {r c i j : Nat} (hi : i < r) (hj : j < c) : i * c + j < r * c := by
  have : (i + 1) * c ≤ r * c := Nat.mul_le_mul_right _ hi
  rw [Nat.add_mul] at this
  omega
theorem idx_div {c i j : Nat} (hj : j < c) : (i * c + j) / c = i := by
  rw [Nat.mul_comm, Nat.mul_add_div (by omega), Nat.div_eq_of_lt hj, Nat.add_zero]
theorem idx_mod {c i j : Nat} (hj : j < c) : (i * c + j) % c = j := by
  rw [Nat.mul_comm, Nat.mul_add_mod, Nat.mod_eq_of_lt hj]
theorem idx_inj {c i j i' j' : Nat} (hj : j < c) (hj' : j' < c) (h : i * c + j = i' * c + j') : i = i' ∧ j = j' := by
  have h1 := idx_div (i := i) hj
  have h2 := idx_div (i := i') hj'
  have h3 := idx_mod (i := i) hj
  have h4 := idx_mod (i := i') hj'
  rw [h] at h1 h3
  exact ⟨h1.symm.trans h2, h3.symm.trans h4⟩

theorem genD_len (r c : Nat) (M : Nat → Nat → Int) : (genD r c M).length = r * c := by simp [genD]
theorem genD_get {r c i j : Nat} (M : Nat → Nat → Int) (hi : i < r) (hj : j < c) : (genD r c M)[i * c + j]? = some (M i j) := by
  unfold genD
  rw [List.getElem?_map, List.getElem?_range (idx_lt hi hj)]
  simp [idx_div hj, idx_mod hj]
theorem genD_congr {r c : Nat} {M M' : Nat → Nat → Int} (h : ∀ i, i < r → ∀ j, j < c → M i j = M' i j) : genD r c M = genD r c M' := by
  unfold genD
  refine List.map_congr_left fun n hn => ?_
  have hn := List.mem_range.1 hn
  have hc : 0 < c := by
    rcases Nat.eq_zero_or_pos c with h | h
    · subst h; simp at hn
    · exact h
  exact h _ ((Nat.div_lt_iff_lt_mul hc).2 hn) _ (Nat.mod_lt _ hc)
theorem genD_set {r c i j : Nat} (M : Nat → Nat → Int) (hj : j < c) (x : Int) : (genD r c M).set (i * c + j) x = genD r c (updM M i j x) := by
  apply List.ext_getElem?
  intro n
  rw [List.getElem?_set, genD_len]
  unfold genD
  simp only [List.getElem?_map]
  by_cases hn : n < r * c
  · rw [List.getElem?_range hn]
    have hc : 0 < c := by omega
    by_cases he : i * c + j = n
    · rw [if_pos he, if_pos (by omega)]
      subst he
      simp [updM, idx_div hj, idx_mod hj]
    · rw [if_neg he]
      simp only [Option.map_some, updM]
      rw [if_neg]
      rintro ⟨h1, h2⟩
      apply he
      rw [← h1, ← h2]
      have := Nat.div_add_mod n c
      rw [Nat.mul_comm] at this
      exact this
  · rw [List.getElem?_eq_none (by simp; omega)]
    by_cases he : i * c + j = n
    · rw [if_pos he, if_neg (by omega)]; rfl
    · rw [if_neg he]; rfl
theorem genD_of {r c : Nat} {l : List Int} (h : l.length = r * c) : genD r c (ofD c l) = l := by
  apply List.ext_getElem?
  intro n
  unfold genD
  simp only [List.getElem?_map]
  by_cases hn : n < r * c
  · rw [List.getElem?_range hn, List.getElem?_eq_getElem (by omega)]
    simp only [Option.map_some, ofD]
    have := Nat.div_add_mod n c
    rw [Nat.mul_comm] at this
    rw [this, List.getD_eq_getElem?_getD, List.getElem?_eq_getElem (by omega)]
    rfl
  · rw [List.getElem?_eq_none (by simp; omega), List.getElem?_eq_none (by omega)]
    rfl
theorem ofD_gen {r c i j : Nat} (M : Nat → Nat → Int) (hi : i < r) (hj : j < c) : ofD c (genD r c M) i j = M i j := by
  unfold ofD
  rw [List.getD_eq_getElem?_getD, genD_get M hi hj]
  rfl
theorem genD_rep (r c : Nat) (x : Int) : repL (r * c) x = genD r c (fun _ _ => x) := by
  unfold genD repL
  rw [List.map_const', List.length_range]
theorem genD_inj {r c : Nat} {M M' : Nat → Nat → Int} (h : genD r c M = genD r c M') {i j : Nat} (hi : i < r) (hj : j < c) : M i j = M' i j := by
  have h1 := genD_get M hi hj
  rw [h, genD_get M' hi hj] at h1
  exact (Option.some.inj h1).symm

theorem updM_same (M : Nat → Nat → Int) (i j : Nat) (x : Int) : updM M i j x i j = x := if_pos ⟨rfl, rfl⟩
theorem updM_ne (M : Nat → Nat → Int) {i j a b : Nat} (x : Int) (h : ¬ (a = i ∧ b = j)) : updM M i j x a b = M a b := if_neg h

/-! ### indices as the program computes them -/

theorem idxI {i c j : Nat} (hi : i ≤ 1048576) (hc : c ≤ 1048576) (hj : j ≤ 1048576) : addI .i64 (mulI .i64 (i : Int) (c : Int)) (j : Int) = ((i * c + j : Nat) : Int) := by
  have h1 : i * c ≤ 1048576 * 1048576 := Nat.mul_le_mul hi hc
  have e : (i : Int) * (c : Int) = ((i * c : Nat) : Int) := by norm_cast
  rw [mulI, wrap_id (by omega) (by omega), addI_eq (by omega) (by omega), e]
  omega
theorem mulN {i c : Nat} (hi : i ≤ 1048576) (hc : c ≤ 1048576) : mulI .i64 (i : Int) (c : Int) = ((i * c : Nat) : Int) := by
  have h1 : i * c ≤ 1048576 * 1048576 := Nat.mul_le_mul hi hc
  have e : (i : Int) * (c : Int) = ((i * c : Nat) : Int) := by norm_cast
  rw [mulI, wrap_id (by omega) (by omega), e]
theorem getI_gen {r c i j : Nat} (M : Nat → Nat → Int) (hi : i < r) (hj : j < c) : getI (genD r c M) ((i * c + j : Nat) : Int) = some (M i j) := by rw [getI_nat, genD_get M hi hj]
theorem chkI_gen {r c i j : Nat} (M : Nat → Nat → Int) (hi : i < r) (hj : j < c) : chkI ((i * c + j : Nat) : Int) (lenN (genD r c M)) = some (i * c + j) := chkI_nat (by unfold lenN; rw [genD_len]; exact idx_lt hi hj)
theorem getN_gen {r c i j : Nat} (M : Nat → Nat → Int) (hi : i < r) (hj : j < c) : getN (genD r c M) (i * c + j) = some (M i j) := genD_get M hi hj
theorem setL_gen {r c i j : Nat} (M : Nat → Nat → Int) (hj : j < c) (x : Int) : setL (genD r c M) (i * c + j) x = genD r c (updM M i j x) := genD_set M hj x
theorem lenN_gen (r c : Nat) (M : Nat → Nat → Int) : lenN (genD r c M) = r * c := genD_len r c M
theorem fulI_gen (r c : Nat) (M M' : Nat → Nat → Int) : fulI 0 (lenN (genD r c M)) (lenN (genD r c M')) = some () := by rw [lenN_gen, lenN_gen]; exact fulI_id _
theorem samI_gen (r c : Nat) (M M' : Nat → Nat → Int) : samI (lenN (genD r c M)) (lenN (genD r c M')) = some () := by rw [lenN_gen, lenN_gen]; exact samI_ok rfl
theorem remN {a p : Int} (ha : 0 ≤ a) (hp : 0 < p) : remI a p = some (a % p) := by
  unfold remI
  rw [if_neg (by omega), Int.tmod_eq_emod_of_nonneg ha]
theorem ltN_t {i n : Nat} (h : i < n) : ltI (i : Int) (n : Int) = true := ltI_t (by omega)
theorem ltN_f {i n : Nat} (h : n ≤ i) : ltI (i : Int) (n : Int) = false := ltI_f (by omega)
theorem addN1 {i : Nat} (h : i ≤ 1048577) : addI .i64 (i : Int) 1 = ((i + 1 : Nat) : Int) := by rw [addI_eq (by omega) (by omega)]; omega

/-- Products modulo p. -/
def pOk (p : Int) : Prop := 2 ≤ p ∧ p ≤ 1000003
instance (p : Int) : Decidable (pOk p) := inferInstanceAs (Decidable (2 ≤ p ∧ p ≤ 1000003))
def inP (p x : Int) : Prop := 0 ≤ x ∧ x < p
instance (p x : Int) : Decidable (inP p x) := inferInstanceAs (Decidable (0 ≤ x ∧ x < p))

theorem emod_in {p : Int} (hp : pOk p) (a : Int) : inP p (a % p) := ⟨Int.emod_nonneg _ (by have := hp.1; omega), Int.emod_lt_of_pos _ (by have := hp.1; omega)⟩
theorem inP.le {p x : Int} (h : inP p x) : 0 ≤ x ∧ x ≤ p := ⟨h.1, Int.le_of_lt h.2⟩
theorem inP.s {p x : Int} (hp : pOk p) (h : inP p x) : 0 ≤ x ∧ x ≤ 1000003000000 := ⟨h.1, by have := h.2; have := hp.2; omega⟩
theorem prod_in {p a b : Int} (hp : pOk p) (ha : 0 ≤ a ∧ a ≤ p) (hb : 0 ≤ b ∧ b ≤ p) : 0 ≤ a * b ∧ a * b ≤ 1000006000009 := by
  refine ⟨Int.mul_nonneg ha.1 hb.1, ?_⟩
  have h1 := hp.2
  have := Int.mul_le_mul (show a ≤ 1000003 by omega) (show b ≤ 1000003 by omega) hb.1 (by omega)
  omega
theorem mulI_in {p a b : Int} (hp : pOk p) (ha : 0 ≤ a ∧ a ≤ p) (hb : 0 ≤ b ∧ b ≤ p) : mulI .i64 a b = a * b := by
  have := prod_in hp ha hb
  exact wrap_id (by omega) (by omega)
theorem macI {p s a b : Int} (hp : pOk p) (hs : 0 ≤ s ∧ s ≤ 1000003000000) (ha : 0 ≤ a ∧ a ≤ p) (hb : 0 ≤ b ∧ b ≤ p) : remI (addI .i64 s (mulI .i64 a b)) p = some ((s + a * b) % p) := by
  have h := prod_in hp ha hb
  rw [mulI_in hp ha hb, addI_eq (by omega) (by omega), remN (by omega) (by have := hp.1; omega)]
theorem mulR {p a b : Int} (hp : pOk p) (ha : 0 ≤ a ∧ a ≤ p) (hb : 0 ≤ b ∧ b ≤ p) : remI (mulI .i64 a b) p = some (a * b % p) := by
  have h := prod_in hp ha hb
  rw [mulI_in hp ha hb, remN h.1 (by have := hp.1; omega)]

def dotF (p : Int) (f g : Nat → Int) : Nat → Int
  | 0 => 0
  | n + 1 => (dotF p f g n + f n * g n) % p

theorem dotF_in {p : Int} (hp : pOk p) (f g : Nat → Int) : ∀ n, inP p (dotF p f g n)
  | 0 => ⟨Int.le_refl _, by have := hp.1; show (0 : Int) < p; omega⟩
  | n + 1 => emod_in hp _

def mulF (p : Int) (k : Nat) (A B : Nat → Nat → Int) : Nat → Nat → Int := fun i j => dotF p (fun t => A i t) (fun t => B t j) k

/-- All of a matrix's elements are modulo p. -/
def inM (p : Int) (r c : Nat) (M : Nat → Nat → Int) : Prop := ∀ i, i < r → ∀ j, j < c → inP p (M i j)

def allP (p : Int) (l : List Int) : Prop := ∀ x ∈ l, inP p x
instance (p : Int) (l : List Int) : Decidable (allP p l) := inferInstanceAs (Decidable (∀ x ∈ l, inP p x))

theorem allP_gen {p : Int} {r c : Nat} {M : Nat → Nat → Int} : allP p (genD r c M) ↔ inM p r c M := by
  constructor
  · intro h i hi j hj
    exact h _ (List.mem_of_getElem? (genD_get M hi hj))
  · intro h x hx
    unfold genD at hx
    obtain ⟨n, hn, rfl⟩ := List.mem_map.1 hx
    have hn := List.mem_range.1 hn
    have hc : 0 < c := by
      rcases Nat.eq_zero_or_pos c with h | h
      · subst h; simp at hn
      · exact h
    exact h _ ((Nat.div_lt_iff_lt_mul hc).2 hn) _ (Nat.mod_lt _ hc)

/-- A matrix as the program has it. -/
def mOk (x : Int × Int × List Int) : Prop := (0 ≤ x.1 ∧ x.1 ≤ 4096) ∧ (0 ≤ x.2.1 ∧ x.2.1 ≤ 4096) ∧ (x.2.2.length : Int) = x.1 * x.2.1 ∧ x.2.2.length ≤ 1048576
instance (x : Int × Int × List Int) : Decidable (mOk x) := by unfold mOk; infer_instance

/-- What a matrix is. -/
theorem mOk_gen {x : Int × Int × List Int} (h : mOk x) : ∃ (r c : Nat) (M : Nat → Nat → Int), x = ((r : Int), (c : Int), genD r c M) ∧ r ≤ 4096 ∧ c ≤ 4096 ∧ r * c ≤ 1048576 := by
  obtain ⟨r, c, l⟩ := x
  obtain ⟨h1, h2, h3, h4⟩ := h
  simp only at h1 h2 h3 h4
  obtain ⟨r, rfl⟩ := natI_eq h1.1
  obtain ⟨c, rfl⟩ := natI_eq h2.1
  have e : l.length = r * c := by
    have : ((r : Int) * (c : Int)) = ((r * c : Nat) : Int) := by norm_cast
    rw [this] at h3; exact_mod_cast h3
  exact ⟨r, c, ofD c l, by rw [genD_of e], by omega, by omega, by omega⟩

theorem mOk_mk {r c : Nat} (M : Nat → Nat → Int) (hr : r ≤ 4096) (hc : c ≤ 4096) (h : r * c ≤ 1048576) : mOk ((r : Int), (c : Int), genD r c M) := by
  refine ⟨⟨by omega, by show (r : Int) ≤ 4096; omega⟩, ⟨by show (0 : Int) ≤ c; omega, by show (c : Int) ≤ 4096; omega⟩, ?_, ?_⟩
  · simp only [genD_len]; norm_cast
  · simp only [genD_len]; exact h

end Go.Am
end
section
namespace Go.Am
def F_spec_l01In : Int × Int × Int → Option Bool := fun ((a, b, c) : Int × Int × Int) => some (decide (b ≤ a ∧ a ≤ c))
def edgeOk (n : Int) (e : Int × Int) : Bool := decide ((0 ≤ e.1 ∧ e.1 ≤ n - 1) ∧ (0 ≤ e.2 ∧ e.2 ≤ n - 1))
def graphOk (n : Int) (es : List (Int × Int)) : Bool := decide (0 ≤ n ∧ n ≤ 10) && decide (es.length ≤ 10) && es.all (edgeOk n)
def F_spec_GraphOk : Int × List (Int × Int) → Option Bool := fun ((n, es) : Int × List (Int × Int)) => some (graphOk n es)
def F_impl_GraphOk : Int × List (Int × Int) → Option Bool := fun ((n, es) : Int × List (Int × Int)) => some (graphOk n es)
def delStep (k : Int) (i : Nat) (acc : List (Int × Int)) (e : Int × Int) : List (Int × Int) := if (i : Int) = k then acc else acc ++ [e]
def delE (k : Int) (l : List (Int × Int)) : List (Int × Int) := foldN (delStep k) 0 [] l
def F_spec_l36Delete : (Int × List (Int × Int)) × Int → Option (Int × List (Int × Int)) := fun (((n, l), k) : (Int × List (Int × Int)) × Int) => if l.length ≤ 1048576 then some (n, delE k l) else none
def delR (n : Int) (l : List (Int × Int)) (k : Int) : (Int × List (Int × Int)) × Bool := if graphOk n l = true ∧ 0 ≤ k ∧ k < l.length then ((n, delE k l), true) else ((0, []), false)
def F_spec_DeleteEdge : (Int × List (Int × Int)) × Int → Option ((Int × List (Int × Int)) × Bool) := fun (((n, l), k) : (Int × List (Int × Int)) × Int) => if l.length ≤ 1048576 then some (delR n l k) else none
def F_impl_DeleteEdge : (Int × List (Int × Int)) × Int → Option ((Int × List (Int × Int)) × Bool) := fun (((n, l), k) : (Int × List (Int × Int)) × Int) => if l.length ≤ 1048576 then some (delR n l k) else none
def ag_spec_l01In : Sig := [(.one, [.int .i64]), (.one, [.int .i64]), (.one, [.int .i64])]
def rs_spec_l01In : Sig := [(.one, [.bool])]
def mu_spec_l01In : MSig := []
def ag_spec_GraphOk : Sig := [(.agg, [.int .i64, .list [.int .i64, .int .i64]])]
def rs_spec_GraphOk : Sig := [(.one, [.bool])]
def mu_spec_GraphOk : MSig := []
def ag_impl_GraphOk : Sig := [(.agg, [.int .i64, .list [.int .i64, .int .i64]])]
def rs_impl_GraphOk : Sig := [(.one, [.bool])]
def mu_impl_GraphOk : MSig := []
def ag_spec_l36Delete : Sig := [(.agg, [.int .i64, .list [.int .i64, .int .i64]]), (.one, [.int .i64])]
def rs_spec_l36Delete : Sig := [(.agg, [.int .i64, .list [.int .i64, .int .i64]])]
def mu_spec_l36Delete : MSig := []
def ag_spec_DeleteEdge : Sig := [(.agg, [.int .i64, .list [.int .i64, .int .i64]]), (.one, [.int .i64])]
def rs_spec_DeleteEdge : Sig := [(.agg, [.int .i64, .list [.int .i64, .int .i64]]), (.one, [.bool])]
def mu_spec_DeleteEdge : MSig := []
def ag_impl_DeleteEdge : Sig := [(.agg, [.int .i64, .list [.int .i64, .int .i64]]), (.one, [.int .i64])]
def rs_impl_DeleteEdge : Sig := [(.agg, [.int .i64, .list [.int .i64, .int .i64]]), (.one, [.bool])]
def mu_impl_DeleteEdge : MSig := []

def G_spec_l01In (NN : Nat) : (Int × (Int × Int)) → (Option Bool) :=
  (fun ((i0, i1, i2) : (Int × (Int × Int))) =>
  cnd (leI i1 i0)
    (some (leI i0 i2))
    (some false))

def G_spec_GraphOk (NN : Nat) : (Int × (List (Int × Int))) → (Option Bool) :=
  (fun ((i0, l1) : (Int × (List (Int × Int)))) =>
  (F_spec_l01In (i0, (0 : Int), (10 : Int))).bnd (fun (b2 : Bool) =>
    cnd (notB b2)
      (some false)
      (cnd (ltI (10 : Int) (natI (lenN l1)))
        (some false)
        (joinK (loopT NN (fun (((l3, i4, i5), i6, l7) : (((List (Int × Int)) × (Int × Int)) × (Int × (List (Int × Int))))) =>
              cnd (ltI i5 i4)
                ((getI l3 i5).bnd (fun ((i8, i9) : (Int × Int)) =>
                  (F_spec_l01In (i8, (0 : Int), subI .i64 i6 (1 : Int))).bnd (fun (b10 : Bool) =>
                    cnd (notB b10)
                      (some (Sum.inr (Sum.inr false)))
                      ((F_spec_l01In (i9, (0 : Int), subI .i64 i6 (1 : Int))).bnd (fun (b11 : Bool) =>
                        cnd (notB b11)
                          (some (Sum.inr (Sum.inr false)))
                          (some (Sum.inl ((l3, i4, addI .i64 i5 (1 : Int)), i6, l7))))))))
                (some (Sum.inr (Sum.inl ()))))
            ((l1, natI (lenN l1), (0 : Int)), i0, l1))
          (fun (_ : Unit) =>
            some true)))))

def G_impl_GraphOk (NN : Nat) : (Int × (List (Int × Int))) → (Option Bool) :=
  (fun ((i0, l1) : (Int × (List (Int × Int)))) =>
  cnd (ltI i0 (0 : Int))
    (some false)
    (cnd (ltI (10 : Int) i0)
      (some false)
      (cnd (ltI (10 : Int) (natI (lenN l1)))
        (some false)
        (joinK (loopT NN (fun (((l2, i3, i4), i5, l6) : (((List (Int × Int)) × (Int × Int)) × (Int × (List (Int × Int))))) =>
              cnd (ltI i4 i3)
                ((getI l2 i4).bnd (fun ((i7, i8) : (Int × Int)) =>
                  cnd (ltI i7 (0 : Int))
                    (some (Sum.inr (Sum.inr false)))
                    (cnd (ltI i8 (0 : Int))
                      (some (Sum.inr (Sum.inr false)))
                      (cnd (leI i5 i7)
                        (some (Sum.inr (Sum.inr false)))
                        (cnd (leI i5 i8)
                          (some (Sum.inr (Sum.inr false)))
                          (some (Sum.inl ((l2, i3, addI .i64 i4 (1 : Int)), i5, l6))))))))
                (some (Sum.inr (Sum.inl ()))))
            ((l1, natI (lenN l1), (0 : Int)), i0, l1))
          (fun (_ : Unit) =>
            some true)))))

def G_spec_l36Delete (NN : Nat) : ((Int × (List (Int × Int))) × Int) → (Option (Int × (List (Int × Int)))) :=
  (fun (((i0, l1), i2) : ((Int × (List (Int × Int))) × Int)) =>
  joinK ((fulI 0 0 (lenN (([] : List (Int × Int))))).bnd (fun (_ : Unit) =>
      (fulI 0 0 (lenN (([] : List (Int × Int))))).bnd (fun (_ : Unit) =>
        loopT NN (fun (((i3, l4, i5, i6), i7, i8, l9, l10) : ((Int × ((List (Int × Int)) × (Int × Int))) × (Int × (Int × ((List (Int × Int)) × (List (Int × Int))))))) =>
            cnd (ltI i6 i5)
              ((getI l4 i6).bnd (fun ((i11, i12) : (Int × Int)) =>
                cnd (neI i6 i3)
                  ((fulI 0 (lenN l10) (lenN l10)).bnd (fun (_ : Unit) =>
                    (winI (((i11, i12) :: ([] : List (Int × Int)))) 0 1).bnd (fun (l13 : (List (Int × Int))) =>
                      (fitI (addN (lenN l10) (lenN l13)) 16).bnd (fun (_ : Unit) =>
                        (fulI 0 (lenN l9) (lenN l9)).bnd (fun (_ : Unit) =>
                          (fulI 0 (addN (lenN l10) (lenN l13)) (lenN (appL l10 l13))).bnd (fun (_ : Unit) =>
                            some (Sum.inl ((i3, l4, i5, addI .i64 i6 (1 : Int)), i7, i8, l9, appL l10 l13))))))))
                  ((fulI 0 (lenN l9) (lenN l9)).bnd (fun (_ : Unit) =>
                    (fulI 0 (lenN l10) (lenN l10)).bnd (fun (_ : Unit) =>
                      some (Sum.inl ((i3, l4, i5, addI .i64 i6 (1 : Int)), i7, i8, l9, l10)))))))
              (((fulI 0 (lenN l9) (lenN l9)).bnd (fun (_ : Unit) =>
                (fulI 0 (lenN l10) (lenN l10)).bnd (fun (_ : Unit) =>
                  some (Sum.inl (i7, i8, l9, l10))))).bnd (fun (l14 : ((Int × (Int × ((List (Int × Int)) × (List (Int × Int))))) ⊕ (Int × (List (Int × Int))))) =>
                some (Sum.inr l14))))
          ((i2, l1, natI (lenN l1), (0 : Int)), (0 : Int), i0, ([] : List (Int × Int)), ([] : List (Int × Int))))))
    (fun ((i15, i16, l17, l18) : (Int × (Int × ((List (Int × Int)) × (List (Int × Int)))))) =>
      (takI l18 (lenN l18)).bnd (fun (l19 : (List (Int × Int))) =>
        some (i16, l19))))

def G_spec_DeleteEdge (NN : Nat) : ((Int × (List (Int × Int))) × Int) → (Option ((Int × (List (Int × Int))) × Bool)) :=
  (fun (((i0, l1), i2) : ((Int × (List (Int × Int))) × Int)) =>
  (F_spec_GraphOk (i0, l1)).bnd (fun (b3 : Bool) =>
    cnd (notB b3)
      (some (((0 : Int), ([] : List (Int × Int))), false))
      ((F_spec_l01In (i2, (0 : Int), subI .i64 (natI (lenN l1)) (1 : Int))).bnd (fun (b4 : Bool) =>
        cnd (notB b4)
          (some (((0 : Int), ([] : List (Int × Int))), false))
          ((F_spec_l36Delete ((i0, l1), i2)).bnd (fun ((i5, l6) : (Int × (List (Int × Int)))) =>
            (takI l6 (lenN l6)).bnd (fun (l7 : (List (Int × Int))) =>
              some ((i5, l7), true))))))))

def G_impl_DeleteEdge (NN : Nat) : ((Int × (List (Int × Int))) × Int) → (Option ((Int × (List (Int × Int))) × Bool)) :=
  (fun (((i0, l1), i2) : ((Int × (List (Int × Int))) × Int)) =>
  (F_impl_GraphOk (i0, l1)).bnd (fun (b3 : Bool) =>
    cnd (notB b3)
      (some (((0 : Int), ([] : List (Int × Int))), false))
      (cnd (ltI i2 (0 : Int))
        (some (((0 : Int), ([] : List (Int × Int))), false))
        (cnd (leI (natI (lenN l1)) i2)
          (some (((0 : Int), ([] : List (Int × Int))), false))
          (joinK ((fulI 0 0 (lenN (([] : List (Int × Int))))).bnd (fun (_ : Unit) =>
              (fulI 0 0 (lenN (([] : List (Int × Int))))).bnd (fun (_ : Unit) =>
                loopT NN (fun (((i4, l5, i6, i7), i8, i9, l10, l11) : ((Int × ((List (Int × Int)) × (Int × Int))) × (Int × (Int × ((List (Int × Int)) × (List (Int × Int))))))) =>
                    cnd (ltI i7 i6)
                      ((getI l5 i7).bnd (fun ((i12, i13) : (Int × Int)) =>
                        cnd (neI i7 i4)
                          ((fulI 0 (lenN l11) (lenN l11)).bnd (fun (_ : Unit) =>
                            (winI (((i12, i13) :: ([] : List (Int × Int)))) 0 1).bnd (fun (l14 : (List (Int × Int))) =>
                              (fitI (addN (lenN l11) (lenN l14)) 16).bnd (fun (_ : Unit) =>
                                (fulI 0 (lenN l10) (lenN l10)).bnd (fun (_ : Unit) =>
                                  (fulI 0 (addN (lenN l11) (lenN l14)) (lenN (appL l11 l14))).bnd (fun (_ : Unit) =>
                                    some (Sum.inl ((i4, l5, i6, addI .i64 i7 (1 : Int)), i8, i9, l10, appL l11 l14))))))))
                          ((fulI 0 (lenN l10) (lenN l10)).bnd (fun (_ : Unit) =>
                            (fulI 0 (lenN l11) (lenN l11)).bnd (fun (_ : Unit) =>
                              some (Sum.inl ((i4, l5, i6, addI .i64 i7 (1 : Int)), i8, i9, l10, l11)))))))
                      (((fulI 0 (lenN l10) (lenN l10)).bnd (fun (_ : Unit) =>
                        (fulI 0 (lenN l11) (lenN l11)).bnd (fun (_ : Unit) =>
                          some (Sum.inl (i8, i9, l10, l11))))).bnd (fun (l15 : ((Int × (Int × ((List (Int × Int)) × (List (Int × Int))))) ⊕ ((Int × (List (Int × Int))) × Bool))) =>
                        some (Sum.inr l15))))
                  ((i2, l1, natI (lenN l1), (0 : Int)), (0 : Int), i0, ([] : List (Int × Int)), ([] : List (Int × Int))))))
            (fun ((i16, i17, l18, l19) : (Int × (Int × ((List (Int × Int)) × (List (Int × Int)))))) =>
              (takI l19 (lenN l19)).bnd (fun (l20 : (List (Int × Int))) =>
                some ((i17, l20), true))))))))


theorem f_spec_l01In (x : Int × Int × Int) (y : Bool) (h : F_spec_l01In x = some y) : G_spec_l01In FUEL x = some y := by
  obtain ⟨a, b, c⟩ := x
  rw [← h]
  simp only [F_spec_l01In, G_spec_l01In, leI]
  by_cases hc : b ≤ a <;> simp [hc, cnd]

def resOk (n : Int) : List (Int × Int) → Unit ⊕ Bool
  | [] => .inl ()
  | e :: es => if edgeOk n e = true then resOk n es else .inr false

theorem resOk_eq (n : Int) (es : List (Int × Int)) : resOk n es = if es.all (edgeOk n) = true then .inl () else .inr false := by
  induction es with
  | nil => rfl
  | cons e es ih =>
    simp only [resOk]
    by_cases h : edgeOk n e = true
    · have e1 : (e :: es).all (edgeOk n) = es.all (edgeOk n) := by simp [h]
      rw [if_pos h, ih, e1]
    · have e1 : (e :: es).all (edgeOk n) = false := by simp [h]
      rw [if_neg h, e1]
      rfl

theorem f_spec_GraphOk (x : Int × List (Int × Int)) (y : Bool) (h : F_spec_GraphOk x = some y) : G_spec_GraphOk FUEL x = some y := by
  obtain ⟨n, es⟩ := x
  rw [← h]
  simp only [F_spec_GraphOk, G_spec_GraphOk, F_spec_l01In, bnd_s, graphOk]
  by_cases h1 : 0 ≤ n ∧ n ≤ 10
  · rw [cnd_f (notB_p h1)]
    by_cases h2 : es.length ≤ 10
    · rw [cnd_f (ltI_f (by have := nl es; omega))]
      rw [loopT_run (r := resOk n es) (fun k s => ∃ (i : Nat) (j : Int), j = (i : Int) ∧ i ≤ es.length ∧ k = es.length - i ∧ resOk n es = resOk n (es.drop i) ∧ s = ((es, natI (lenN es), j), n, es)) ?_ es.length _ ⟨0, 0, rfl, by omega, by omega, by simp, rfl⟩ FUEL (FUEL_gt (by omega))]
      · rw [resOk_eq]
        by_cases h3 : es.all (edgeOk n) = true
        · rw [if_pos h3, joinK_l]; simp [h1, h2]; simpa using h3
        · rw [if_neg h3, joinK_r]; simp [h1, h2]; simpa using h3
      · rintro k s ⟨i, _, rfl, hi, rfl, hr, rfl⟩
        simp only
        by_cases hlt : i < es.length
        · obtain ⟨e, he⟩ : ∃ e, es[i]? = some e := ⟨_, List.getElem?_eq_getElem hlt⟩
          obtain ⟨u, v⟩ := e
          have hd := drop_cons he
          rw [cnd_t (ltI_t (by have := nl es; omega)), getI_nat, he, bnd_s]
          simp only [F_spec_l01In, bnd_s, subI_eq (a := n) (b := 1) (by omega) (by omega)]
          rw [hr, hd, resOk]
          by_cases hu : 0 ≤ u ∧ u ≤ n - 1
          · rw [cnd_f (notB_p hu)]
            by_cases hv : 0 ≤ v ∧ v ≤ n - 1
            · right
              refine ⟨es.length - (i + 1), ((es, natI (lenN es), ((i + 1 : Nat) : Int)), n, es), by omega, ?_, i + 1, _, rfl, by omega, rfl, ?_, rfl⟩
              · rw [cnd_f (notB_p hv), addI_eq (by omega) (by omega)]; rfl
              · rw [if_pos (by simp [edgeOk, hu, hv])]
            · left
              rw [cnd_t (notB_d hv), if_neg (by simp [edgeOk]; omega)]
          · left
            rw [cnd_t (notB_d hu), if_neg (by simp [edgeOk]; omega)]
        · left
          have hi' : i = es.length := by omega
          subst hi'
          rw [cnd_f (ltI_f (by have := nl es; omega)), hr]
          simp [resOk]
    · rw [cnd_t (ltI_t (by have := nl es; omega))]
      simp [h2]
  · rw [cnd_t (notB_d h1)]
    simp [h1]

theorem f_impl_GraphOk (x : Int × List (Int × Int)) (y : Bool) (h : F_impl_GraphOk x = some y) : G_impl_GraphOk FUEL x = some y := by
  obtain ⟨n, es⟩ := x
  rw [← h]
  simp only [F_impl_GraphOk, G_impl_GraphOk, graphOk]
  by_cases h0 : n < 0
  · rw [cnd_t (by simp [ltI, h0])]; simp; omega
  rw [cnd_f (by simp [ltI]; omega)]
  by_cases h1 : 10 < n
  · rw [cnd_t (by simp [ltI, h1])]; simp; omega
  rw [cnd_f (by simp [ltI]; omega)]
  by_cases h2 : es.length ≤ 10
  · rw [cnd_f (ltI_f (by have := nl es; omega))]
    rw [loopT_run (r := resOk n es) (fun k s => ∃ (i : Nat) (j : Int), j = (i : Int) ∧ i ≤ es.length ∧ k = es.length - i ∧ resOk n es = resOk n (es.drop i) ∧ s = ((es, natI (lenN es), j), n, es)) ?_ es.length _ ⟨0, 0, rfl, by omega, by omega, by simp, rfl⟩ FUEL (FUEL_gt (by omega))]
    · rw [resOk_eq]
      by_cases h3 : es.all (edgeOk n) = true
      · rw [if_pos h3, joinK_l]; simp [h2]; exact ⟨by omega, by simpa using h3⟩
      · rw [if_neg h3, joinK_r]; simp [h2]; intro _ _; simpa using h3
    · rintro k s ⟨i, _, rfl, hi, rfl, hr, rfl⟩
      simp only
      by_cases hlt : i < es.length
      · obtain ⟨e, he⟩ : ∃ e, es[i]? = some e := ⟨_, List.getElem?_eq_getElem hlt⟩
        obtain ⟨u, v⟩ := e
        have hd := drop_cons he
        rw [cnd_t (ltI_t (by have := nl es; omega)), getI_nat, he, bnd_s]
        rw [hr, hd, resOk]
        simp only
        by_cases c1 : u < 0
        · left; rw [cnd_t (by simp [ltI, c1]), if_neg (by simp [edgeOk]; omega)]
        rw [cnd_f (by simp [ltI]; omega)]
        by_cases c2 : v < 0
        · left; rw [cnd_t (by simp [ltI, c2]), if_neg (by simp [edgeOk]; omega)]
        rw [cnd_f (by simp [ltI]; omega)]
        by_cases c3 : n ≤ u
        · left; rw [cnd_t (by simp [leI, c3]), if_neg (by simp [edgeOk]; omega)]
        rw [cnd_f (by simp [leI]; omega)]
        by_cases c4 : n ≤ v
        · left; rw [cnd_t (by simp [leI, c4]), if_neg (by simp [edgeOk]; omega)]
        rw [cnd_f (by simp [leI]; omega)]
        right
        refine ⟨es.length - (i + 1), ((es, natI (lenN es), ((i + 1 : Nat) : Int)), n, es), by omega, ?_, i + 1, _, rfl, by omega, rfl, ?_, rfl⟩
        · rw [addI_eq (by omega) (by omega)]; rfl
        · rw [if_pos (by simp [edgeOk]; omega)]
      · left
        have hi' : i = es.length := by omega
        subst hi'
        rw [cnd_f (ltI_f (by have := nl es; omega)), hr]
        simp [resOk]
  · rw [cnd_t (ltI_t (by have := nl es; omega))]
    simp [h2]

theorem foldN_inv {S α : Type} (step : Nat → S → α → S) (I : Nat → S → Prop) : ∀ (l : List α) (i : Nat) (s : S), I i s → (∀ j s a, I j s → a ∈ l → I (j + 1) (step j s a)) → I (i + l.length) (foldN step i s l)
  | [], i, s, h, _ => h
  | a :: l, i, s, h, hs => by
    have := foldN_inv step I l (i + 1) (step i s a) (hs i s a h (by simp)) (fun j s b hj hb => hs j s b hj (by simp [hb]))
    rw [List.length_cons, show i + (l.length + 1) = i + 1 + l.length by omega]
    exact this

theorem delE_len (k : Int) (l : List (Int × Int)) : (delE k l).length ≤ l.length := by
  have := foldN_inv (delStep k) (fun i s => s.length ≤ i) l 0 [] (by simp) (fun j s a h _ => by unfold delStep; split <;> (try simp only [List.length_append, List.length_cons, List.length_nil]) <;> omega)
  rwa [Nat.zero_add] at this

theorem delStep_t {k : Int} {i : Nat} {acc : List (Int × Int)} {e : Int × Int} (h : (i : Int) = k) : delStep k i acc e = acc := if_pos h
theorem delStep_f {k : Int} {i : Nat} {acc : List (Int × Int)} {e : Int × Int} (h : (i : Int) ≠ k) : delStep k i acc e = acc ++ [e] := if_neg h

theorem f_spec_l36Delete (x : (Int × List (Int × Int)) × Int) (y : Int × List (Int × Int)) (h : F_spec_l36Delete x = some y) : G_spec_l36Delete FUEL x = some y := by
  obtain ⟨⟨n, l⟩, k⟩ := x
  simp only [F_spec_l36Delete] at h
  split at h
  · rename_i hl
    rw [← h]
    simp only [G_spec_l36Delete, fulI_id, bnd_s, win1]
    rw [show fulI 0 0 (lenN ([] : List (Int × Int))) = some () from rfl, bnd_s, bnd_s]
    rw [loopT_foldN l (fun acc i => ((k, l, natI (lenN l), (i : Int)), (0 : Int), n, ([] : List (Int × Int)), acc)) (fun i acc => acc.length ≤ i) (delStep k) (fun acc => Sum.inl ((0 : Int), n, ([] : List (Int × Int)), acc)) ?_ ?_ (s := []) (by simp) ?_ (FUEL_gt (by omega))]
    · rw [joinK_l]; simp only [takI_id, bnd_s]; rfl
    · rintro i acc ⟨u, v⟩ he hI
      have := lt_of_get he
      refine ⟨?_, by unfold delStep; split <;> (try simp only [List.length_append, List.length_cons, List.length_nil]) <;> omega⟩
      simp only
      rw [cnd_t (ltI_in he), getI_nat, he, bnd_s, next_i he (by omega)]
      by_cases hk : (i : Int) = k
      · rw [cnd_f (neI_f hk), delStep_t hk]
      · rw [cnd_t (neI_t hk), delStep_f hk, fitI_ok (by simp only [addN, lenN, maxBytes, List.length_cons, List.length_nil]; omega), bnd_s, lenN_appL, fulI_id, bnd_s]; rfl
    · intro acc hI
      simp only
      rw [cnd_f (ltI_end l)]
    · rfl
  · cases h

theorem f_spec_DeleteEdge (x : (Int × List (Int × Int)) × Int) (y : (Int × List (Int × Int)) × Bool) (h : F_spec_DeleteEdge x = some y) : G_spec_DeleteEdge FUEL x = some y := by
  obtain ⟨⟨n, l⟩, k⟩ := x
  simp only [F_spec_DeleteEdge] at h
  split at h
  · rename_i hl
    rw [← h]
    have hn := nl l
    simp only [G_spec_DeleteEdge, F_spec_GraphOk, bnd_s, F_spec_l01In, F_spec_l36Delete, if_pos hl, takI_id]
    rw [subI_eq (by omega) (by omega)]
    unfold delR
    by_cases hg : graphOk n l = true
    · rw [cnd_f (by rw [hg]; rfl)]
      by_cases hk : 0 ≤ k ∧ k ≤ natI (lenN l) - 1
      · rw [cnd_f (notB_p hk), if_pos ⟨hg, hk.1, by omega⟩]
      · rw [cnd_t (notB_d hk), if_neg (by omega)]
    · rw [cnd_t (by rw [Bool.eq_false_iff.2 hg]; rfl), if_neg (fun h => hg h.1)]
  · cases h

theorem f_impl_DeleteEdge (x : (Int × List (Int × Int)) × Int) (y : (Int × List (Int × Int)) × Bool) (h : F_impl_DeleteEdge x = some y) : G_impl_DeleteEdge FUEL x = some y := by
  obtain ⟨⟨n, l⟩, k⟩ := x
  simp only [F_impl_DeleteEdge] at h
  split at h
  · rename_i hl
    rw [← h]
    have hn := nl l
    simp only [G_impl_DeleteEdge, F_impl_GraphOk, fulI_id, bnd_s, win1]
    unfold delR
    by_cases hg : graphOk n l = true
    · rw [cnd_f (by rw [hg]; rfl)]
      by_cases hk : k < 0
      · rw [cnd_t (ltI_t hk), if_neg (by omega)]
      rw [cnd_f (ltI_f (by omega))]
      by_cases hk2 : (l.length : Int) ≤ k
      · rw [cnd_t (leI_t (by omega)), if_neg (by omega)]
      rw [cnd_f (leI_f (by omega)), if_pos ⟨hg, by omega, by omega⟩]
      rw [show fulI 0 0 (lenN ([] : List (Int × Int))) = some () from rfl, bnd_s, bnd_s]
      rw [loopT_foldN l (fun acc i => ((k, l, natI (lenN l), (i : Int)), (0 : Int), n, ([] : List (Int × Int)), acc)) (fun i acc => acc.length ≤ i) (delStep k) (fun acc => Sum.inl ((0 : Int), n, ([] : List (Int × Int)), acc)) ?_ ?_ (s := []) (by simp) ?_ (FUEL_gt (by omega))]
      · rw [joinK_l]; simp only [takI_id, bnd_s]; rfl
      · rintro i acc ⟨u, v⟩ he hI
        have := lt_of_get he
        refine ⟨?_, by unfold delStep; split <;> (try simp only [List.length_append, List.length_cons, List.length_nil]) <;> omega⟩
        simp only
        rw [cnd_t (ltI_in he), getI_nat, he, bnd_s, next_i he (by omega)]
        by_cases hk : (i : Int) = k
        · rw [cnd_f (neI_f hk), delStep_t hk]
        · rw [cnd_t (neI_t hk), delStep_f hk, fitI_ok (by simp only [addN, lenN, maxBytes, List.length_cons, List.length_nil]; omega), bnd_s, lenN_appL, fulI_id, bnd_s]; rfl
      · intro acc hI
        simp only
        rw [cnd_f (ltI_end l)]
      · rfl
    · rw [cnd_t (by rw [Bool.eq_false_iff.2 hg]; rfl), if_neg (fun h => hg h.1)]
  · cases h

end Go.Am
end
section
namespace Go.Am

/-! ### primes, rows, matrices, automata -/

def divAt (n : Int) (i : Nat) : Bool := decide ((i : Int) * i ≤ n) && decide (n % (i : Int) = 0)
def isPrimeI (n : Int) : Bool := decide (2 ≤ n ∧ n ≤ 1000003) && !((List.range' 2 999).any (divAt n))
def F_spec_IsPrime : Int → Option Bool := fun (n : Int) => some (isPrimeI n)
def F_impl_IsPrime : Int → Option Bool := fun (n : Int) => some (isPrimeI n)
def inB (m : Int) (v : Int) : Bool := decide (0 ≤ v ∧ v < m)
def rowOk (m : Int) (l : List Int) : Bool := l.all (inB m)
def F_impl_inMod : Int × List Int → Option Bool := fun ((m, l) : Int × List Int) => if l.length ≤ 1048576 then some (rowOk m l) else none
def F_spec_l34Row : Int × List Int × Int → Option Bool := fun ((m, l, n) : Int × List Int × Int) => if (1 ≤ m ∧ m ≤ 1000003) ∧ l.length ≤ 1048576 then some (rowOk m l && decide ((l.length : Int) = n)) else none
def matOk (m : Int) (x : Int × Int × List Int) : Bool := isPrimeI m && (decide (0 ≤ x.1 ∧ x.1 ≤ 64) && (decide (0 ≤ x.2.1 ∧ x.2.1 ≤ 64) && (decide ((x.2.2.length : Int) = x.1 * x.2.1) && rowOk m x.2.2)))
def F_spec_MatrixOk : Int × Int × Int × List Int → Option Bool := fun ((m, x) : Int × Int × Int × List Int) => if sz_Matrix x ≤ 1048576 then some (matOk m x) else none
def F_impl_MatrixOk : Int × Int × Int × List Int → Option Bool := fun ((m, x) : Int × Int × Int × List Int) => if sz_Matrix x ≤ 1048576 then some (matOk m x) else none
def matsOk (m n : Int) (x : Int × Int × List Int) : Bool := matOk m x && (decide (x.1 = n) && decide (x.2.1 = n))
def autOk (x : Int × Int × List Int × List (Int × Int × List Int) × List Int) : Bool := match x with
  | (m, n, a, ms, b) => isPrimeI m && (decide (0 ≤ n ∧ n ≤ 12) && ((rowOk m a && decide ((a.length : Int) = n)) && ((rowOk m b && decide ((b.length : Int) = n)) && (decide (1 ≤ ms.length ∧ ms.length ≤ 4) && ms.all (matsOk m n)))))
def F_spec_AutomatonOk : Int × Int × List Int × List (Int × Int × List Int) × List Int → Option Bool := fun x => if sz_Automaton x ≤ 1048576 then some (autOk x) else none
def F_impl_AutomatonOk : Int × Int × List Int × List (Int × Int × List Int) × List Int → Option Bool := fun x => if sz_Automaton x ≤ 1048576 then some (autOk x) else none

def ag_spec_IsPrime : Sig := [(.one, [.int .i64])]
def rs_spec_IsPrime : Sig := [(.one, [.bool])]
def mu_spec_IsPrime : MSig := []
def ag_spec_l34Row : Sig := [(.one, [.int .i64]), (.one, [.list [.int .i64]]), (.one, [.int .i64])]
def rs_spec_l34Row : Sig := [(.one, [.bool])]
def mu_spec_l34Row : MSig := []
def ag_spec_MatrixOk : Sig := [(.one, [.int .i64]), (.agg, [.int .i64, .int .i64, .list [.int .i64]])]
def rs_spec_MatrixOk : Sig := [(.one, [.bool])]
def mu_spec_MatrixOk : MSig := []
def ag_spec_AutomatonOk : Sig := [(.agg, [.int .i64, .int .i64, .list [.int .i64], .list [.int .i64, .int .i64, .list [.int .i64]], .list [.int .i64]])]
def rs_spec_AutomatonOk : Sig := [(.one, [.bool])]
def mu_spec_AutomatonOk : MSig := []
def ag_impl_IsPrime : Sig := [(.one, [.int .i64])]
def rs_impl_IsPrime : Sig := [(.one, [.bool])]
def mu_impl_IsPrime : MSig := []
def ag_impl_inMod : Sig := [(.one, [.int .i64]), (.one, [.list [.int .i64]])]
def rs_impl_inMod : Sig := [(.one, [.bool])]
def mu_impl_inMod : MSig := []
def ag_impl_MatrixOk : Sig := [(.one, [.int .i64]), (.agg, [.int .i64, .int .i64, .list [.int .i64]])]
def rs_impl_MatrixOk : Sig := [(.one, [.bool])]
def mu_impl_MatrixOk : MSig := []
def ag_impl_AutomatonOk : Sig := [(.agg, [.int .i64, .int .i64, .list [.int .i64], .list [.int .i64, .int .i64, .list [.int .i64]], .list [.int .i64]])]
def rs_impl_AutomatonOk : Sig := [(.one, [.bool])]
def mu_impl_AutomatonOk : MSig := []

def G_spec_IsPrime (NN : Nat) : Int → (Option Bool) :=
  (fun (i0 : Int) =>
  joinK (loopT NN (fun ((i1, i2) : (Int × Int)) =>
        cnd (leI (mulI .i64 i2 i2) i1)
          (cnd (leI i1 (1000003 : Int))
            ((remI i1 i2).bnd (fun (i3 : Int) =>
              cnd (eqI i3 (0 : Int))
                (some (Sum.inr (Sum.inr false)))
                (some (Sum.inl (i1, addI .i64 i2 (1 : Int))))))
            (some (Sum.inr (Sum.inl i1))))
          (some (Sum.inr (Sum.inl i1))))
      (i0, (2 : Int)))
    (fun (i4 : Int) =>
      (F_spec_l01In (i4, (2 : Int), (1000003 : Int))).bnd (fun (b5 : Bool) =>
        some b5)))

def G_spec_l34Row (NN : Nat) : (Int × ((List Int) × Int)) → (Option Bool) :=
  (fun ((i0, l1, i2) : (Int × ((List Int) × Int))) =>
  joinK (loopT NN (fun ((i3, l4, i5, l6, i7, i8) : (Int × ((List Int) × (Int × ((List Int) × (Int × Int)))))) =>
        cnd (ltI i8 i7)
          ((getI l6 i8).bnd (fun (i9 : Int) =>
            (F_spec_l01In (i9, (0 : Int), subI .i64 i3 (1 : Int))).bnd (fun (b10 : Bool) =>
              cnd (notB b10)
                (some (Sum.inr (Sum.inr false)))
                (some (Sum.inl (i3, l4, i5, l6, i7, addI .i64 i8 (1 : Int)))))))
          (some (Sum.inr (Sum.inl (l4, i5)))))
      (i0, l1, i2, l1, natI (lenN l1), (0 : Int)))
    (fun ((l11, i12) : ((List Int) × Int)) =>
      some (eqI (natI (lenN l11)) i12)))

def G_spec_MatrixOk (NN : Nat) : (Int × (Int × (Int × (List Int)))) → (Option Bool) :=
  (fun ((i0, i1, i2, l3) : (Int × (Int × (Int × (List Int))))) =>
  (F_spec_IsPrime i0).bnd (fun (b4 : Bool) =>
    cnd (notB b4)
      (some false)
      ((F_spec_l01In (i1, (0 : Int), (64 : Int))).bnd (fun (b5 : Bool) =>
        cnd (notB b5)
          (some false)
          ((F_spec_l01In (i2, (0 : Int), (64 : Int))).bnd (fun (b6 : Bool) =>
            cnd (notB b6)
              (some false)
              (cnd (neI (natI (lenN l3)) (mulI .i64 i1 i2))
                (some false)
                (joinK (loopT NN (fun ((i7, l8, i9, i10) : (Int × ((List Int) × (Int × Int)))) =>
                      cnd (ltI i10 i9)
                        ((getI l8 i10).bnd (fun (i11 : Int) =>
                          (F_spec_l01In (i11, (0 : Int), subI .i64 i7 (1 : Int))).bnd (fun (b12 : Bool) =>
                            cnd (notB b12)
                              (some (Sum.inr (Sum.inr false)))
                              (some (Sum.inl (i7, l8, i9, addI .i64 i10 (1 : Int)))))))
                        (some (Sum.inr (Sum.inl ()))))
                    (i0, l3, natI (lenN l3), (0 : Int)))
                  (fun (_ : Unit) =>
                    some true)))))))))

def G_spec_AutomatonOk (NN : Nat) : (Int × (Int × ((List Int) × ((List (Int × (Int × (List Int)))) × (List Int))))) → (Option Bool) :=
  (fun ((i0, i1, l2, l3, l4) : (Int × (Int × ((List Int) × ((List (Int × (Int × (List Int)))) × (List Int)))))) =>
  (F_spec_IsPrime i0).bnd (fun (b5 : Bool) =>
    cnd (notB b5)
      (some false)
      ((F_spec_l01In (i1, (0 : Int), (12 : Int))).bnd (fun (b6 : Bool) =>
        cnd (notB b6)
          (some false)
          ((F_spec_l34Row (i0, l2, i1)).bnd (fun (b7 : Bool) =>
            cnd (notB b7)
              (some false)
              ((F_spec_l34Row (i0, l4, i1)).bnd (fun (b8 : Bool) =>
                cnd (notB b8)
                  (some false)
                  ((F_spec_l01In (natI (lenN l3), (1 : Int), (4 : Int))).bnd (fun (b9 : Bool) =>
                    cnd (notB b9)
                      (some false)
                      (joinK (loopT NN (fun (((l10, i11, i12), i13, i14, l15, l16, l17) : (((List (Int × (Int × (List Int)))) × (Int × Int)) × (Int × (Int × ((List Int) × ((List (Int × (Int × (List Int)))) × (List Int))))))) =>
                            cnd (ltI i12 i11)
                              ((getI l10 i12).bnd (fun ((i18, i19, l20) : (Int × (Int × (List Int)))) =>
                                (F_spec_MatrixOk (i13, i18, i19, l20)).bnd (fun (b21 : Bool) =>
                                  cnd (notB b21)
                                    (some (Sum.inr (Sum.inr false)))
                                    (cnd (neI i18 i14)
                                      (some (Sum.inr (Sum.inr false)))
                                      (cnd (neI i19 i14)
                                        (some (Sum.inr (Sum.inr false)))
                                        (some (Sum.inl ((l10, i11, addI .i64 i12 (1 : Int)), i13, i14, l15, l16, l17))))))))
                              (some (Sum.inr (Sum.inl ()))))
                          ((l3, natI (lenN l3), (0 : Int)), i0, i1, l2, l3, l4))
                        (fun (_ : Unit) =>
                          some true))))))))))))

def G_impl_IsPrime (NN : Nat) : Int → (Option Bool) :=
  (fun (i0 : Int) =>
  cnd (ltI i0 (2 : Int))
    (some false)
    (cnd (ltI (1000003 : Int) i0)
      (some false)
      (joinK (loopT NN (fun ((i1, i2) : (Int × Int)) =>
            cnd (leI (mulI .i64 i2 i2) i1)
              ((remI i1 i2).bnd (fun (i3 : Int) =>
                cnd (eqI i3 (0 : Int))
                  (some (Sum.inr (Sum.inr false)))
                  (some (Sum.inl (i1, addI .i64 i2 (1 : Int))))))
              (some (Sum.inr (Sum.inl ()))))
          (i0, (2 : Int)))
        (fun (_ : Unit) =>
          some true))))

def G_impl_inMod (NN : Nat) : (Int × (List Int)) → (Option Bool) :=
  (fun ((i0, l1) : (Int × (List Int))) =>
  joinK (loopT NN (fun ((i2, l3, i4, i5) : (Int × ((List Int) × (Int × Int)))) =>
        cnd (ltI i5 i4)
          ((getI l3 i5).bnd (fun (i6 : Int) =>
            cnd (ltI i6 (0 : Int))
              (some (Sum.inr (Sum.inr false)))
              (cnd (leI i2 i6)
                (some (Sum.inr (Sum.inr false)))
                (some (Sum.inl (i2, l3, i4, addI .i64 i5 (1 : Int)))))))
          (some (Sum.inr (Sum.inl ()))))
      (i0, l1, natI (lenN l1), (0 : Int)))
    (fun (_ : Unit) =>
      some true))

def G_impl_MatrixOk (NN : Nat) : (Int × (Int × (Int × (List Int)))) → (Option Bool) :=
  (fun ((i0, i1, i2, l3) : (Int × (Int × (Int × (List Int))))) =>
  (F_impl_IsPrime i0).bnd (fun (b4 : Bool) =>
    cnd (notB b4)
      (some false)
      (cnd (ltI i1 (0 : Int))
        (some false)
        (cnd (ltI i2 (0 : Int))
          (some false)
          (cnd (ltI (64 : Int) i1)
            (some false)
            (cnd (ltI (64 : Int) i2)
              (some false)
              (cnd (eqI (natI (lenN l3)) (mulI .i64 i1 i2))
                ((F_impl_inMod (i0, l3)).bnd (fun (b5 : Bool) =>
                  some b5))
                (some false))))))))

def G_impl_AutomatonOk (NN : Nat) : (Int × (Int × ((List Int) × ((List (Int × (Int × (List Int)))) × (List Int))))) → (Option Bool) :=
  (fun ((i0, i1, l2, l3, l4) : (Int × (Int × ((List Int) × ((List (Int × (Int × (List Int)))) × (List Int)))))) =>
  (F_impl_IsPrime i0).bnd (fun (b5 : Bool) =>
    cnd (notB b5)
      (some false)
      (cnd (ltI i1 (0 : Int))
        (some false)
        (cnd (ltI (12 : Int) i1)
          (some false)
          (cnd (neI (natI (lenN l2)) i1)
            (some false)
            (cnd (neI (natI (lenN l4)) i1)
              (some false)
              ((F_impl_inMod (i0, l2)).bnd (fun (b6 : Bool) =>
                cnd (notB b6)
                  (some false)
                  ((F_impl_inMod (i0, l4)).bnd (fun (b7 : Bool) =>
                    cnd (notB b7)
                      (some false)
                      (cnd (ltI (natI (lenN l3)) (1 : Int))
                        (some false)
                        (cnd (ltI (4 : Int) (natI (lenN l3)))
                          (some false)
                          (joinK (loopT NN (fun (((l8, i9, i10), i11, i12, l13, l14, l15) : (((List (Int × (Int × (List Int)))) × (Int × Int)) × (Int × (Int × ((List Int) × ((List (Int × (Int × (List Int)))) × (List Int))))))) =>
                                cnd (ltI i10 i9)
                                  ((getI l8 i10).bnd (fun ((i16, i17, l18) : (Int × (Int × (List Int)))) =>
                                    (F_impl_MatrixOk (i11, i16, i17, l18)).bnd (fun (b19 : Bool) =>
                                      cnd (notB b19)
                                        (some (Sum.inr (Sum.inr false)))
                                        (cnd (neI i16 i12)
                                          (some (Sum.inr (Sum.inr false)))
                                          (cnd (neI i17 i12)
                                            (some (Sum.inr (Sum.inr false)))
                                            (some (Sum.inl ((l8, i9, addI .i64 i10 (1 : Int)), i11, i12, l13, l14, l15))))))))
                                  (some (Sum.inr (Sum.inl ()))))
                              ((l3, natI (lenN l3), (0 : Int)), i0, i1, l2, l3, l4))
                            (fun (_ : Unit) =>
                              some true))))))))))))))



theorem mulI_eq {a b : Int} (h1 : -9223372036854775808 ≤ a * b) (h2 : a * b ≤ 9223372036854775807) : mulI .i64 a b = a * b := wrap_id h1 h2
theorem remI_nat {n : Int} {i : Nat} (hn : 0 ≤ n) (hi : 0 < i) : remI n (i : Int) = some (n % (i : Int)) := by
  unfold remI
  rw [if_neg (by omega), Int.tmod_eq_emod_of_nonneg hn]

theorem sq_le {i j : Nat} (h : i ≤ j) : (i : Int) * i ≤ (j : Int) * j := by
  have := Nat.mul_le_mul h h
  exact_mod_cast this

/-- The search for a divisor. -/
theorem div_loop {X Y : Type} {f : X → Option (X ⊕ (Y ⊕ Bool))} (n : Int) (mk : Nat → X) (r : Y) (hn : n ≤ 1000003)
    (h1 : ∀ i : Nat, 2 ≤ i → i ≤ 1001 → (i : Int) * i ≤ n → n % (i : Int) = 0 → f (mk i) = some (.inr (.inr false)))
    (h2 : ∀ i : Nat, 2 ≤ i → i ≤ 1001 → (i : Int) * i ≤ n → n % (i : Int) ≠ 0 → f (mk i) = some (.inl (mk (i + 1))))
    (h3 : ∀ i : Nat, 2 ≤ i → i ≤ 1001 → ¬ (i : Int) * i ≤ n → f (mk i) = some (.inr (.inl r))) {x0 : X} (hx : x0 = mk 2) :
    loopT FUEL f x0 = some (if (List.range' 2 999).any (divAt n) = true then .inr false else .inl r) := by
  subst hx
  have key : ∀ (d i : Nat), 2 ≤ i → i + d = 1001 → ∀ N, d < N → loopT N f (mk i) = some (if (List.range' i d).any (divAt n) = true then .inr false else .inl r) := by
    intro d
    induction d with
    | zero =>
      intro i hi hd N hN
      obtain ⟨N, rfl⟩ : ∃ M, N = M + 1 := ⟨N - 1, by omega⟩
      have : i = 1001 := by omega
      subst this
      rw [loopT, h3 1001 (by omega) (by omega) (by omega)]
      rfl
    | succ d ih =>
      intro i hi hd N hN
      obtain ⟨N, rfl⟩ : ∃ M, N = M + 1 := ⟨N - 1, by omega⟩
      rw [List.range'_succ, List.any_cons]
      by_cases hle : (i : Int) * i ≤ n
      · by_cases hm : n % (i : Int) = 0
        · rw [loopT, h1 i hi (by omega) hle hm]
          simp [divAt, hle, hm]
        · rw [loopT, h2 i hi (by omega) hle hm]
          simp only
          rw [ih (i + 1) (by omega) (by omega) N (by omega), show divAt n i = false by simp [divAt, hm], Bool.false_or]
      · rw [loopT, h3 i hi (by omega) hle]
        have : (List.range' (i + 1) d).any (divAt n) = false := by
          rw [List.any_eq_false]
          intro j hj
          have := (List.mem_range'_1.1 hj).1
          have := sq_le (show i ≤ j by omega)
          simp only [divAt, Bool.and_eq_true, decide_eq_true_eq, not_and]
          intro h; omega
        simp only
        rw [this]
        simp [divAt, hle]
  exact key 999 2 (by omega) (by omega) FUEL (FUEL_gt (by omega))

theorem sq_le1001 {i : Nat} (h : i ≤ 1001) : 0 ≤ (i : Int) * i ∧ (i : Int) * i ≤ 1002001 := by
  have h1 := sq_le h
  have h0 := sq_le (Nat.zero_le i)
  omega

theorem f_spec_IsPrime (x : Int) (y : Bool) (h : F_spec_IsPrime x = some y) : G_spec_IsPrime FUEL x = some y := by
  rw [← h]
  simp only [F_spec_IsPrime, G_spec_IsPrime]
  by_cases hx : x ≤ 1000003
  · rw [div_loop x (fun i => (x, (i : Int))) x hx ?_ ?_ ?_ ?_]
    · by_cases hd : (List.range' 2 999).any (divAt x) = true
      · rw [if_pos hd, joinK_r, isPrimeI, hd]
        simp
      · rw [if_neg hd, joinK_l, isPrimeI]
        simp only [F_spec_l01In, bnd_s]
        simp [hd]
    all_goals try simp only
    · intro i h2 hi hle hm
      have hs := sq_le1001 hi
      rw [mulI_eq (by omega) (by omega), cnd_t (leI_t hle), cnd_t (leI_t hx), remI_nat (by omega) (by omega), bnd_s, cnd_t (eqI_t hm)]
    · intro i h2 hi hle hm
      have hs := sq_le1001 hi
      rw [mulI_eq (by omega) (by omega), cnd_t (leI_t hle), cnd_t (leI_t hx), remI_nat (by omega) (by omega), bnd_s, cnd_f (eqI_f hm), addI_eq (by omega) (by omega)]
      rfl
    · intro i h2 hi hle
      have hs := sq_le1001 hi
      rw [mulI_eq (by omega) (by omega), cnd_f (leI_f (by omega))]
    · rfl
  · rw [loopT_seq (fun i => (x, (i : Int) + 2)) (r := Sum.inl x) 0 (fun j hj => by omega) ?_ ?_ (FUEL_gt (by omega))]
    · rw [joinK_l, isPrimeI]
      simp only [F_spec_l01In, bnd_s]
      have : ¬ (2 ≤ x ∧ x ≤ 1000003) := by omega
      simp [this]
    · simp only
      rw [cnd_t (leI_t (by rw [mulI_eq (by omega) (by omega)]; omega)), cnd_f (leI_f (by omega))]
    · rfl

theorem f_impl_IsPrime (x : Int) (y : Bool) (h : F_impl_IsPrime x = some y) : G_impl_IsPrime FUEL x = some y := by
  rw [← h]
  simp only [F_impl_IsPrime, G_impl_IsPrime]
  by_cases h2 : x < 2
  · rw [cnd_t (ltI_t h2), isPrimeI, decide_eq_false (by omega)]; rfl
  rw [cnd_f (ltI_f (by omega))]
  by_cases hx : 1000003 < x
  · rw [cnd_t (ltI_t hx), isPrimeI, decide_eq_false (by omega)]; rfl
  rw [cnd_f (ltI_f (by omega))]
  rw [div_loop x (fun i => (x, (i : Int))) () (by omega) ?_ ?_ ?_ ?_]
  · have hr : (2 ≤ x ∧ x ≤ 1000003) := by omega
    by_cases hd : (List.range' 2 999).any (divAt x) = true
    · rw [if_pos hd, joinK_r, isPrimeI, hd]
      simp
    · rw [if_neg hd, joinK_l, isPrimeI]
      simp [hd, hr]
  all_goals try simp only
  · intro i h2 hi hle hm
    have hs := sq_le1001 hi
    rw [mulI_eq (by omega) (by omega), cnd_t (leI_t hle), remI_nat (by omega) (by omega), bnd_s, cnd_t (eqI_t hm)]
  · intro i h2 hi hle hm
    have hs := sq_le1001 hi
    rw [mulI_eq (by omega) (by omega), cnd_t (leI_t hle), remI_nat (by omega) (by omega), bnd_s, cnd_f (eqI_f hm), addI_eq (by omega) (by omega)]
    rfl
  · intro i h2 hi hle
    have hs := sq_le1001 hi
    rw [mulI_eq (by omega) (by omega), cnd_f (leI_f (by omega))]
  · rfl

theorem f_impl_inMod (x : Int × List Int) (y : Bool) (h : F_impl_inMod x = some y) : G_impl_inMod FUEL x = some y := by
  obtain ⟨m, l⟩ := x
  simp only [F_impl_inMod] at h
  split at h
  · rename_i hl
    rw [← h]
    simp only [G_impl_inMod]
    rw [loopT_all (mk := fun i => (m, l, natI (lenN l), (i : Int))) l (inB m) (Sum.inr false) (Sum.inl ()) ?_ ?_ ?_ ?_ (FUEL_gt (by omega))]
    · unfold rowOk
      cases l.all (inB m) <;> rfl
    all_goals try simp only
    · intro i a ha hp
      have hp := of_decide_eq_true hp
      rw [cnd_t (ltI_in ha), getI_nat, ha, bnd_s, cnd_f (ltI_f (by omega)), cnd_f (leI_f (by omega)), next_i ha (by omega)]
    · intro i a ha hp
      have hp := of_decide_eq_false hp
      rw [cnd_t (ltI_in ha), getI_nat, ha, bnd_s]
      by_cases h0 : a < 0
      · rw [cnd_t (ltI_t h0)]
      · rw [cnd_f (ltI_f (by omega)), cnd_t (leI_t (by omega))]
    · rw [cnd_f (ltI_end l)]
    · rfl
  · cases h

theorem f_spec_l34Row (x : Int × List Int × Int) (y : Bool) (h : F_spec_l34Row x = some y) : G_spec_l34Row FUEL x = some y := by
  obtain ⟨m, l, n⟩ := x
  simp only [F_spec_l34Row] at h
  split at h
  · rename_i hl
    obtain ⟨hm, hl⟩ := hl
    rw [← h]
    simp only [G_spec_l34Row]
    rw [loopT_all (mk := fun i => (m, l, n, l, natI (lenN l), (i : Int))) l (inB m) (Sum.inr false) (Sum.inl (l, n)) ?_ ?_ ?_ ?_ (FUEL_gt (by omega))]
    · unfold rowOk
      cases l.all (inB m)
      · rfl
      · rw [if_pos rfl, joinK_l]
        simp only [Bool.true_and]
        rfl
    all_goals try simp only
    · intro i a ha hp
      have hp := of_decide_eq_true hp
      rw [cnd_t (ltI_in ha), getI_nat, ha, bnd_s, subI_eq (by omega) (by omega)]
      simp only [F_spec_l01In, bnd_s]
      rw [cnd_f (notB_p (by omega)), next_i ha (by omega)]
    · intro i a ha hp
      have hp := of_decide_eq_false hp
      rw [cnd_t (ltI_in ha), getI_nat, ha, bnd_s, subI_eq (by omega) (by omega)]
      simp only [F_spec_l01In, bnd_s]
      rw [cnd_t (notB_d (by omega))]
    · rw [cnd_f (ltI_end l)]
    · rfl
  · cases h

theorem isPrimeI_t {m : Int} (h : isPrimeI m = true) : 2 ≤ m ∧ m ≤ 1000003 := by
  simp only [isPrimeI, Bool.and_eq_true, decide_eq_true_eq] at h
  exact h.1

theorem f_impl_MatrixOk (x : Int × Int × Int × List Int) (y : Bool) (h : F_impl_MatrixOk x = some y) : G_impl_MatrixOk FUEL x = some y := by
  obtain ⟨m, r, c, l⟩ := x
  simp only [F_impl_MatrixOk] at h
  split at h
  · rename_i hl
    rw [← h]
    have hl : l.length ≤ 1048576 := hl
    simp only [G_impl_MatrixOk, F_impl_IsPrime, bnd_s, matOk]
    cases hp : isPrimeI m with
    | false => rfl
    | true =>
      rw [cnd_f (by rfl), Bool.true_and]
      by_cases h1 : r < 0
      · rw [cnd_t (ltI_t h1), decide_eq_false (by omega)]; rfl
      rw [cnd_f (ltI_f (by omega))]
      by_cases h2 : c < 0
      · rw [cnd_t (ltI_t h2), decide_eq_false (p := 0 ≤ c ∧ c ≤ 64) (by omega)]; simp
      rw [cnd_f (ltI_f (by omega))]
      by_cases h3 : 64 < r
      · rw [cnd_t (ltI_t h3), decide_eq_false (by omega)]; rfl
      rw [cnd_f (ltI_f (by omega))]
      by_cases h4 : 64 < c
      · rw [cnd_t (ltI_t h4), decide_eq_false (p := 0 ≤ c ∧ c ≤ 64) (by omega)]; simp
      rw [cnd_f (ltI_f (by omega)), decide_eq_true (p := 0 ≤ r ∧ r ≤ 64) (by omega), decide_eq_true (p := 0 ≤ c ∧ c ≤ 64) (by omega), Bool.true_and, Bool.true_and]
      obtain ⟨r, rfl⟩ := natI_eq (z := r) (by omega)
      obtain ⟨c, rfl⟩ := natI_eq (z := c) (by omega)
      have hrc : r * c ≤ 64 * 64 := Nat.mul_le_mul (by omega) (by omega)
      have hrc' : (r : Int) * (c : Int) = ((r * c : Nat) : Int) := by norm_cast
      rw [mulI_eq (by omega) (by omega), show F_impl_inMod (m, l) = some (rowOk m l) from if_pos hl]
      by_cases h5 : (l.length : Int) = (r : Int) * c
      · rw [cnd_t (show eqI (natI (lenN l)) _ = true from eqI_t h5), decide_eq_true h5]; rfl
      · rw [cnd_f (show eqI (natI (lenN l)) _ = false from eqI_f h5), decide_eq_false h5]; rfl
  · cases h

theorem f_spec_MatrixOk (x : Int × Int × Int × List Int) (y : Bool) (h : F_spec_MatrixOk x = some y) : G_spec_MatrixOk FUEL x = some y := by
  obtain ⟨m, r, c, l⟩ := x
  simp only [F_spec_MatrixOk] at h
  split at h
  · rename_i hl
    rw [← h]
    have hl : l.length ≤ 1048576 := hl
    simp only [G_spec_MatrixOk, F_spec_IsPrime, F_spec_l01In, bnd_s, matOk]
    cases hp : isPrimeI m with
    | false => rfl
    | true =>
      obtain ⟨hm1, hm2⟩ := isPrimeI_t hp
      rw [cnd_f (by rfl), Bool.true_and]
      by_cases h1 : 0 ≤ r ∧ r ≤ 64
      rotate_left
      · rw [cnd_t (notB_d h1), decide_eq_false h1]; rfl
      rw [cnd_f (notB_p h1), decide_eq_true h1, Bool.true_and]
      by_cases h2 : 0 ≤ c ∧ c ≤ 64
      rotate_left
      · rw [cnd_t (notB_d h2), decide_eq_false h2]; rfl
      rw [cnd_f (notB_p h2), decide_eq_true h2, Bool.true_and]
      obtain ⟨r, rfl⟩ := natI_eq (z := r) (by omega)
      obtain ⟨c, rfl⟩ := natI_eq (z := c) (by omega)
      have hrc : r * c ≤ 64 * 64 := Nat.mul_le_mul (by omega) (by omega)
      have hrc' : (r : Int) * (c : Int) = ((r * c : Nat) : Int) := by norm_cast
      rw [mulI_eq (by omega) (by omega)]
      by_cases h5 : (l.length : Int) = (r : Int) * c
      rotate_left
      · rw [cnd_t (show neI (natI (lenN l)) _ = true from neI_t h5), decide_eq_false h5]; rfl
      rw [cnd_f (show neI (natI (lenN l)) _ = false from neI_f h5), decide_eq_true h5, Bool.true_and]
      rw [loopT_all (mk := fun i => (m, l, natI (lenN l), (i : Int))) l (inB m) (Sum.inr false) (Sum.inl ()) ?_ ?_ ?_ ?_ (FUEL_gt (by omega))]
      · unfold rowOk
        cases l.all (inB m) <;> rfl
      all_goals try simp only
      · intro i a ha hp
        have hp := of_decide_eq_true hp
        rw [cnd_t (ltI_in ha), getI_nat, ha, bnd_s, subI_eq (by omega) (by omega), cnd_f (notB_p (by omega)), next_i ha (by omega)]
      · intro i a ha hp
        have hp := of_decide_eq_false hp
        rw [cnd_t (ltI_in ha), getI_nat, ha, bnd_s, subI_eq (by omega) (by omega), cnd_t (notB_d (by omega))]
      · rw [cnd_f (ltI_end l)]
      · rfl
  · cases h

theorem sz_Automaton_le {m n : Int} {a : List Int} {ms : List (Int × Int × List Int)} {b : List Int} (h : sz_Automaton (m, n, a, ms, b) ≤ 1048576) : a.length ≤ 1048576 ∧ b.length ≤ 1048576 ∧ ms.length ≤ 1048576 ∧ ∀ e ∈ ms, sz_Matrix e ≤ 1048576 := by
  have h1 : a.length + sz_MatrixS ms + b.length ≤ 1048576 := h
  have h2 := sz_MatrixS_mem (l := ms) (by omega)
  exact ⟨by omega, by omega, h2.1, h2.2⟩

theorem f_spec_AutomatonOk (x : Int × Int × List Int × List (Int × Int × List Int) × List Int) (y : Bool) (h : F_spec_AutomatonOk x = some y) : G_spec_AutomatonOk FUEL x = some y := by
  obtain ⟨m, n, a, ms, b⟩ := x
  simp only [F_spec_AutomatonOk] at h
  split at h
  · rename_i hl
    rw [← h]
    obtain ⟨ha, hb, hms, hmm⟩ := sz_Automaton_le hl
    simp only [G_spec_AutomatonOk, F_spec_IsPrime, F_spec_l01In, bnd_s, autOk]
    cases hp : isPrimeI m with
    | false => rfl
    | true =>
      have hm := isPrimeI_t hp
      rw [cnd_f (by rfl), Bool.true_and]
      by_cases h1 : 0 ≤ n ∧ n ≤ 12
      rotate_left
      · rw [cnd_t (notB_d h1), decide_eq_false h1]; rfl
      rw [cnd_f (notB_p h1), decide_eq_true h1, Bool.true_and]
      rw [show F_spec_l34Row (m, a, n) = some (rowOk m a && decide ((a.length : Int) = n)) from if_pos ⟨by omega, ha⟩, bnd_s]
      rw [show F_spec_l34Row (m, b, n) = some (rowOk m b && decide ((b.length : Int) = n)) from if_pos ⟨by omega, hb⟩, bnd_s]
      cases (rowOk m a && decide ((a.length : Int) = n)) with
      | false => rfl
      | true =>
      rw [cnd_f (by rfl), Bool.true_and]
      cases (rowOk m b && decide ((b.length : Int) = n)) with
      | false => rfl
      | true =>
      rw [cnd_f (by rfl), Bool.true_and]
      by_cases h2 : 1 ≤ ms.length ∧ ms.length ≤ 4
      rotate_left
      · rw [cnd_t (notB_d (by have := nl ms; omega)), decide_eq_false h2]; rfl
      rw [cnd_f (notB_p (by have := nl ms; omega)), decide_eq_true h2, Bool.true_and]
      rw [loopT_all (mk := fun i => ((ms, natI (lenN ms), (i : Int)), m, n, a, ms, b)) ms (matsOk m n) (Sum.inr false) (Sum.inl ()) ?_ ?_ ?_ ?_ (FUEL_gt (by omega))]
      · cases ms.all (matsOk m n) <;> rfl
      all_goals try simp only
      · rintro i ⟨r, c, l⟩ hi hp
        simp only [matsOk, Bool.and_eq_true, decide_eq_true_eq] at hp
        obtain ⟨p1, p2, p3⟩ := hp
        rw [cnd_t (ltI_in hi), getI_nat, hi, bnd_s]
        simp only
        rw [show F_spec_MatrixOk (m, r, c, l) = some (matOk m (r, c, l)) from if_pos (hmm _ (List.mem_of_getElem? hi)), bnd_s, p1, cnd_f (by rfl), cnd_f (neI_f p2), cnd_f (neI_f p3), next_i hi (by omega)]
      · rintro i ⟨r, c, l⟩ hi hp
        rw [cnd_t (ltI_in hi), getI_nat, hi, bnd_s]
        simp only
        rw [show F_spec_MatrixOk (m, r, c, l) = some (matOk m (r, c, l)) from if_pos (hmm _ (List.mem_of_getElem? hi)), bnd_s]
        cases p1 : matOk m (r, c, l) with
        | false => rw [cnd_t (by rfl)]
        | true =>
          rw [cnd_f (by rfl)]
          by_cases p2 : r = n
          · rw [cnd_f (neI_f p2)]
            by_cases p3 : c = n
            · simp [matsOk, p1, p2, p3] at hp
              rw [p2, p3] at p1
              rw [p1] at hp
              cases hp
            · rw [cnd_t (neI_t p3)]
          · rw [cnd_t (neI_t p2)]
      · rw [cnd_f (ltI_end ms)]
      · rfl
  · cases h

theorem f_impl_AutomatonOk (x : Int × Int × List Int × List (Int × Int × List Int) × List Int) (y : Bool) (h : F_impl_AutomatonOk x = some y) : G_impl_AutomatonOk FUEL x = some y := by
  obtain ⟨m, n, a, ms, b⟩ := x
  simp only [F_impl_AutomatonOk] at h
  split at h
  · rename_i hl
    rw [← h]
    obtain ⟨ha, hb, hms, hmm⟩ := sz_Automaton_le hl
    simp only [G_impl_AutomatonOk, F_impl_IsPrime, bnd_s, autOk]
    cases hp : isPrimeI m with
    | false => rfl
    | true =>
      have hm := isPrimeI_t hp
      rw [cnd_f (by rfl), Bool.true_and]
      by_cases h0 : n < 0
      · rw [cnd_t (ltI_t h0), decide_eq_false (by omega)]; rfl
      rw [cnd_f (ltI_f (by omega))]
      by_cases h1 : 12 < n
      · rw [cnd_t (ltI_t h1), decide_eq_false (by omega)]; rfl
      rw [cnd_f (ltI_f (by omega)), decide_eq_true (p := 0 ≤ n ∧ n ≤ 12) (by omega), Bool.true_and]
      by_cases e1 : (a.length : Int) = n
      rotate_left
      · rw [cnd_t (show neI (natI (lenN a)) _ = true from neI_t e1), decide_eq_false e1, Bool.and_false, Bool.false_and]
      rw [cnd_f (show neI (natI (lenN a)) _ = false from neI_f e1), decide_eq_true e1, Bool.and_true]
      by_cases e2 : (b.length : Int) = n
      rotate_left
      · rw [cnd_t (show neI (natI (lenN b)) _ = true from neI_t e2), decide_eq_false e2, Bool.and_false, Bool.false_and, Bool.and_false]
      rw [cnd_f (show neI (natI (lenN b)) _ = false from neI_f e2), decide_eq_true e2, Bool.and_true]
      rw [show F_impl_inMod (m, a) = some (rowOk m a) from if_pos ha, bnd_s]
      rw [show F_impl_inMod (m, b) = some (rowOk m b) from if_pos hb, bnd_s]
      cases rowOk m a with
      | false => rfl
      | true =>
      rw [cnd_f (by rfl), Bool.true_and]
      cases rowOk m b with
      | false => rfl
      | true =>
      rw [cnd_f (by rfl), Bool.true_and]
      by_cases h2 : ms.length < 1
      · rw [cnd_t (ltI_t (by have := nl ms; omega)), decide_eq_false (by omega)]; rfl
      rw [cnd_f (ltI_f (by have := nl ms; omega))]
      by_cases h3 : 4 < ms.length
      · rw [cnd_t (ltI_t (by have := nl ms; omega)), decide_eq_false (by omega)]; rfl
      rw [cnd_f (ltI_f (by have := nl ms; omega)), decide_eq_true (by omega), Bool.true_and]
      rw [loopT_all (mk := fun i => ((ms, natI (lenN ms), (i : Int)), m, n, a, ms, b)) ms (matsOk m n) (Sum.inr false) (Sum.inl ()) ?_ ?_ ?_ ?_ (FUEL_gt (by omega))]
      · cases ms.all (matsOk m n) <;> rfl
      all_goals try simp only
      · rintro i ⟨r, c, l⟩ hi hp
        simp only [matsOk, Bool.and_eq_true, decide_eq_true_eq] at hp
        obtain ⟨p1, p2, p3⟩ := hp
        rw [cnd_t (ltI_in hi), getI_nat, hi, bnd_s]
        simp only
        rw [show F_impl_MatrixOk (m, r, c, l) = some (matOk m (r, c, l)) from if_pos (hmm _ (List.mem_of_getElem? hi)), bnd_s, p1, cnd_f (by rfl), cnd_f (neI_f p2), cnd_f (neI_f p3), next_i hi (by omega)]
      · rintro i ⟨r, c, l⟩ hi hp
        rw [cnd_t (ltI_in hi), getI_nat, hi, bnd_s]
        simp only
        rw [show F_impl_MatrixOk (m, r, c, l) = some (matOk m (r, c, l)) from if_pos (hmm _ (List.mem_of_getElem? hi)), bnd_s]
        cases p1 : matOk m (r, c, l) with
        | false => rw [cnd_t (by rfl)]
        | true =>
          rw [cnd_f (by rfl)]
          by_cases p2 : r = n
          · rw [cnd_f (neI_f p2)]
            by_cases p3 : c = n
            · simp [matsOk, p1, p2, p3] at hp
              rw [p2, p3] at p1
              rw [p1] at hp
              cases hp
            · rw [cnd_t (neI_t p3)]
          · rw [cnd_t (neI_t p2)]
      · rw [cnd_f (ltI_end ms)]
      · rfl
  · cases h

end Go.Am
end
section
namespace Go.Am
/-! ### products of dimensions -/

def prodI : List Int → Int
  | [] => 1
  | x :: l => x * prodI l
def capStep (lim : Int) (_ : Nat) (a x : Int) : Int := min (a * x) (lim + 1)
def capProd (lim : Int) (l : List Int) : Int := foldN (capStep lim) 0 1 l
def smallB (x : Int) : Bool := decide (0 ≤ x ∧ x ≤ 1048576)
def F_spec_l05Product : List Int × Int → Option Int := fun ((l, lim) : List Int × Int) => if (0 ≤ lim ∧ lim ≤ 1048576) ∧ l.length ≤ 1048576 ∧ l.all smallB = true then some (capProd lim l) else none
def ag_spec_l05Product : Sig := [(.one, [.list [.int .i64]]), (.one, [.int .i64])]
def rs_spec_l05Product : Sig := [(.one, [.int .i64])]
def mu_spec_l05Product : MSig := []

def G_spec_l05Product (NN : Nat) : ((List Int) × Int) → (Option Int) :=
  (fun ((l0, i1) : ((List Int) × Int)) =>
  joinK (loopT NN (fun ((i2, i3, l4, i5, i6) : (Int × (Int × ((List Int) × (Int × Int))))) =>
        cnd (ltI i6 i5)
          ((getI l4 i6).bnd (fun (i7 : Int) =>
            some (Sum.inl (i2, minI (mulI .i64 i3 i7) (addI .i64 i2 (1 : Int)), l4, i5, addI .i64 i6 (1 : Int)))))
          (some (Sum.inr (Sum.inl i3))))
      (i1, (1 : Int), l0, natI (lenN l0), (0 : Int)))
    (fun (i8 : Int) =>
      some i8))



theorem mul_bd {a x A B : Int} (h0 : 0 ≤ a) (h1 : a ≤ A) (h2 : 0 ≤ x) (h3 : x ≤ B) : 0 ≤ a * x ∧ a * x ≤ A * B :=
  ⟨Int.mul_nonneg h0 h2, Int.mul_le_mul h1 h3 h2 (by omega)⟩

theorem f_spec_l05Product (x : List Int × Int) (y : Int) (h : F_spec_l05Product x = some y) : G_spec_l05Product FUEL x = some y := by
  obtain ⟨l, lim⟩ := x
  simp only [F_spec_l05Product] at h
  split at h
  · rename_i hc
    obtain ⟨hlim, hl, hs⟩ := hc
    rw [← h]
    simp only [G_spec_l05Product]
    rw [loopT_foldN l (fun (a : Int) i => (lim, a, l, natI (lenN l), (i : Int))) (fun _ a => 0 ≤ a ∧ a ≤ lim + 1) (capStep lim) (fun a => Sum.inl a) ?_ ?_ (s := 1) ⟨by omega, by omega⟩ ?_ (FUEL_gt (by omega))]
    · rfl
    all_goals try simp only
    · intro i a x hx ha
      have hxs := of_decide_eq_true (List.all_eq_true.1 hs x (List.mem_of_getElem? hx))
      obtain ⟨b1, b2⟩ := mul_bd ha.1 (show a ≤ 1048577 by omega) hxs.1 hxs.2
      rw [cnd_t (ltI_in hx), getI_nat, hx, bnd_s, mulI_eq (by omega) (by omega), addI_eq (a := lim) (by omega) (by omega), minI_eq', next_i hx (by omega)]
      refine ⟨rfl, ?_⟩
      unfold capStep
      omega
    · intro a _
      rw [cnd_f (ltI_end l)]
    · rfl
  · cases h

theorem prodI_pos : ∀ {l : List Int}, (∀ x ∈ l, 1 ≤ x) → 1 ≤ prodI l
  | [], _ => by simp [prodI]
  | x :: l, h => by
    have h1 := h x List.mem_cons_self
    have h2 := prodI_pos (l := l) (fun x hx => h x (List.mem_cons_of_mem _ hx))
    have := Int.mul_le_mul h1 h2 (by omega) (by omega)
    simpa [prodI] using this

theorem capProd_go {lim : Int} (hlim : 0 ≤ lim) : ∀ (l : List Int) (i : Nat) (a : Int), (∀ x ∈ l, 1 ≤ x) → 1 ≤ a → a ≤ lim + 1 → foldN (capStep lim) i a l = min (a * prodI l) (lim + 1)
  | [], i, a, _, _, h2 => by simp only [foldN, prodI, Int.mul_one]; omega
  | x :: l, i, a, h, h1, h2 => by
    have hx := h x List.mem_cons_self
    have hp := prodI_pos (l := l) (fun x hx => h x (List.mem_cons_of_mem _ hx))
    have hax := Int.mul_le_mul h1 hx (by omega) (by omega)
    rw [foldN, capProd_go hlim l (i + 1) _ (fun x hx => h x (List.mem_cons_of_mem _ hx)) (by unfold capStep; omega) (by unfold capStep; omega), prodI, ← Int.mul_assoc]
    unfold capStep
    generalize a * x = c at *
    by_cases hc : c ≤ lim + 1
    · rw [Int.min_eq_left hc]
    · have e : min c (lim + 1) = lim + 1 := by omega
      rw [e]
      have k1 := Int.mul_le_mul_of_nonneg_left hp (show 0 ≤ lim + 1 by omega)
      have k2 := Int.mul_le_mul_of_nonneg_left hp (show 0 ≤ c by omega)
      omega

theorem capProd_le {lim : Int} (hlim : 0 ≤ lim) {l : List Int} (h : ∀ x ∈ l, 1 ≤ x) : leI (capProd lim l) lim = decide (prodI l ≤ lim) := by
  unfold leI capProd
  rw [capProd_go hlim l 0 1 h (by omega) (by omega), Int.one_mul]
  by_cases hp : prodI l ≤ lim
  · rw [decide_eq_true hp, decide_eq_true (by omega)]
  · rw [decide_eq_false hp, decide_eq_false (by omega)]

end Go.Am
end
section
namespace Go.Am
/-! ### sizes of tensors, charges -/

def posN (l : List Int) (v : Int) : Nat := l.findIdx fun a => decide (a = v)
def findI (l : List Int) (v : Int) : Int := if posN l v < l.length then (posN l v : Int) else -1
def F_spec_l05Find : List Int × Int → Option Int := fun (x : List Int × Int) => if x.1.length ≤ 1048576 then some (findI x.1 x.2) else none
def F_impl_hasInt : List Int × Int → Option Bool := fun (x : List Int × Int) => if x.1.length ≤ 1048576 then some (decide (x.2 ∈ x.1)) else none
def axP (L D : List Int) (j : Nat) : Prop := (0 ≤ L.getD j 0 ∧ L.getD j 0 ≤ 99) ∧ (1 ≤ D.getD j 0 ∧ D.getD j 0 ≤ 8) ∧ L.getD j 0 ∉ L.take j
instance (L D : List Int) (j : Nat) : Decidable (axP L D j) := by unfold axP; infer_instance
def axOk (L D : List Int) : Bool := decide (L.length ≤ 12) && (decide (L.length = D.length) && decide (∀ j, j < L.length → axP L D j))
def tsz (L D : List Int) : Int := if axOk L D = true ∧ prodI D ≤ 4096 then prodI D else -1
def F_spec_l05Axes : List Int × List Int → Option Bool := fun (x : List Int × List Int) => if x.1.length ≤ 1048576 ∧ x.2.length ≤ 1048576 then some (axOk x.1 x.2) else none
def F_spec_TensorSize : List Int × List Int × List Int → Option Int := fun (x : List Int × List Int × List Int) => if x.1.length ≤ 1048576 ∧ x.2.1.length ≤ 1048576 then some (tsz x.1 x.2.1) else none
def F_impl_TensorSize : List Int × List Int × List Int → Option Int := F_spec_TensorSize
def chP (m : Int) (D : List Int) (R : List (List Int)) (j : Nat) : Prop := ((R.getD j []).length : Int) = D.getD j 0 ∧ rowOk m (R.getD j []) = true
instance (m : Int) (D : List Int) (R : List (List Int)) (j : Nat) : Decidable (chP m D R j) := by unfold chP; infer_instance
def chOk (x : (List Int × List Int × List Int) × Int × List (List Int)) : Bool :=
  decide (0 ≤ tsz x.1.1 x.1.2.1) && (decide (1 ≤ x.2.1 ∧ x.2.1 ≤ 12) && (decide (x.2.2.length = x.1.2.1.length) && decide (∀ j, j < x.2.2.length → chP x.2.1 x.1.2.1 x.2.2 j)))
def chDom (x : (List Int × List Int × List Int) × Int × List (List Int)) : Prop := (x.1.1.length ≤ 1048576 ∧ x.1.2.1.length ≤ 1048576) ∧ x.2.2.length ≤ 1048576 ∧ ∀ l ∈ x.2.2, l.length ≤ 1048576
instance (x : (List Int × List Int × List Int) × Int × List (List Int)) : Decidable (chDom x) := by unfold chDom; infer_instance
def F_spec_ChargesOk : (List Int × List Int × List Int) × Int × List (List Int) → Option Bool := fun (x : (List Int × List Int × List Int) × Int × List (List Int)) => if chDom x then some (chOk x) else none
def F_impl_ChargesOk : (List Int × List Int × List Int) × Int × List (List Int) → Option Bool := F_spec_ChargesOk

def ag_spec_l05Find : Sig := [(.one, [.list [.int .i64]]), (.one, [.int .i64])]
def rs_spec_l05Find : Sig := [(.one, [.int .i64])]
def mu_spec_l05Find : MSig := []
def ag_spec_l05Axes : Sig := [(.one, [.list [.int .i64]]), (.one, [.list [.int .i64]])]
def rs_spec_l05Axes : Sig := [(.one, [.bool])]
def mu_spec_l05Axes : MSig := []
def ag_spec_TensorSize : Sig := [(.agg, [.list [.int .i64], .list [.int .i64], .list [.int .i64]])]
def rs_spec_TensorSize : Sig := [(.one, [.int .i64])]
def mu_spec_TensorSize : MSig := []
def ag_spec_ChargesOk : Sig := [(.agg, [.list [.int .i64], .list [.int .i64], .list [.int .i64]]), (.agg, [.int .i64, .list [.list [.int .i64]]])]
def rs_spec_ChargesOk : Sig := [(.one, [.bool])]
def mu_spec_ChargesOk : MSig := []
def ag_impl_hasInt : Sig := [(.one, [.list [.int .i64]]), (.one, [.int .i64])]
def rs_impl_hasInt : Sig := [(.one, [.bool])]
def mu_impl_hasInt : MSig := []
def ag_impl_TensorSize : Sig := [(.agg, [.list [.int .i64], .list [.int .i64], .list [.int .i64]])]
def rs_impl_TensorSize : Sig := [(.one, [.int .i64])]
def mu_impl_TensorSize : MSig := []
def ag_impl_ChargesOk : Sig := [(.agg, [.list [.int .i64], .list [.int .i64], .list [.int .i64]]), (.agg, [.int .i64, .list [.list [.int .i64]]])]
def rs_impl_ChargesOk : Sig := [(.one, [.bool])]
def mu_impl_ChargesOk : MSig := []

def G_spec_l05Find (NN : Nat) : ((List Int) × Int) → (Option Int) :=
  (fun ((l0, i1) : ((List Int) × Int)) =>
  joinK (loopT NN (fun ((i2, l3, i4, i5) : (Int × ((List Int) × (Int × Int)))) =>
        cnd (ltI i5 i4)
          ((getI l3 i5).bnd (fun (i6 : Int) =>
            cnd (eqI i6 i2)
              (some (Sum.inr (Sum.inr i5)))
              (some (Sum.inl (i2, l3, i4, addI .i64 i5 (1 : Int))))))
          (some (Sum.inr (Sum.inl ()))))
      (i1, l0, natI (lenN l0), (0 : Int)))
    (fun (_ : Unit) =>
      some ((-1 : Int))))

def G_spec_l05Axes (NN : Nat) : ((List Int) × (List Int)) → (Option Bool) :=
  (fun ((l0, l1) : ((List Int) × (List Int))) =>
  cnd (ltI (12 : Int) (natI (lenN l0)))
    (some false)
    (cnd (neI (natI (lenN l0)) (natI (lenN l1)))
      (some false)
      (joinK (loopT NN (fun ((l2, l3, l4, i5, i6) : ((List Int) × ((List Int) × ((List Int) × (Int × Int))))) =>
            cnd (ltI i6 i5)
              ((getI l4 i6).bnd (fun (i7 : Int) =>
                (F_spec_l01In (i7, (0 : Int), (99 : Int))).bnd (fun (b8 : Bool) =>
                  cnd (notB b8)
                    (some (Sum.inr (Sum.inr false)))
                    ((getI l3 i6).bnd (fun (i9 : Int) =>
                      (F_spec_l01In (i9, (1 : Int), (8 : Int))).bnd (fun (b10 : Bool) =>
                        cnd (notB b10)
                          (some (Sum.inr (Sum.inr false)))
                          ((sliI (0 : Int) i6 (lenN l2)).bnd (fun ((k11, k12) : (Nat × Nat)) =>
                            (F_spec_l05Find (sldL l2 k11 k12, i7)).bnd (fun (i13 : Int) =>
                              cnd (leI (0 : Int) i13)
                                (some (Sum.inr (Sum.inr false)))
                                (some (Sum.inl (l2, l3, l4, i5, addI .i64 i6 (1 : Int)))))))))))))
              (some (Sum.inr (Sum.inl ()))))
          (l0, l1, l0, natI (lenN l0), (0 : Int)))
        (fun (_ : Unit) =>
          some true))))

def G_spec_TensorSize (NN : Nat) : ((List Int) × ((List Int) × (List Int))) → (Option Int) :=
  (fun ((l0, l1, l2) : ((List Int) × ((List Int) × (List Int)))) =>
  (F_spec_l05Axes (l0, l1)).bnd (fun (b3 : Bool) =>
    cnd (notB b3)
      (some ((-1 : Int)))
      ((F_spec_l05Product (l1, (4096 : Int))).bnd (fun (i4 : Int) =>
        cnd (ltI (4096 : Int) i4)
          (some ((-1 : Int)))
          (some i4)))))

def G_spec_ChargesOk (NN : Nat) : (((List Int) × ((List Int) × (List Int))) × (Int × (List (List Int)))) → (Option Bool) :=
  (fun (((l0, l1, l2), i3, l4) : (((List Int) × ((List Int) × (List Int))) × (Int × (List (List Int))))) =>
  (F_spec_TensorSize (l0, l1, l2)).bnd (fun (i5 : Int) =>
    cnd (ltI i5 (0 : Int))
      (some false)
      ((F_spec_l01In (i3, (1 : Int), (12 : Int))).bnd (fun (b6 : Bool) =>
        cnd (notB b6)
          (some false)
          (cnd (neI (natI (lenN l4)) (natI (lenN l1)))
            (some false)
            (joinK (loopT NN (fun (((l7, i8, i9), i10, l11) : (((List Int) × (Int × Int)) × (Int × (List (List Int))))) =>
                  cnd (ltI i9 i8)
                    (joinK ((getI l7 i9).bnd (fun (i12 : Int) =>
                        (getI l11 i9).bnd (fun (l13 : (List Int)) =>
                          cnd (neI (natI (lenN l13)) i12)
                            (some (Sum.inr (Sum.inr (Sum.inr false))))
                            ((getI l11 i9).bnd (fun (l14 : (List Int)) =>
                              loopT NN (fun (((l15, i16, i17, l18, i19, i20), i21, l22) : (((List Int) × (Int × (Int × ((List Int) × (Int × Int))))) × (Int × (List (List Int))))) =>
                                  cnd (ltI i20 i19)
                                    ((getI l18 i20).bnd (fun (i23 : Int) =>
                                      (F_spec_l01In (i23, (0 : Int), subI .i64 i21 (1 : Int))).bnd (fun (b24 : Bool) =>
                                        cnd (notB b24)
                                          (some (Sum.inr (Sum.inr (Sum.inr (Sum.inr false)))))
                                          (some (Sum.inl ((l15, i16, i17, l18, i19, addI .i64 i20 (1 : Int)), i21, l22))))))
                                    (some (Sum.inr (Sum.inl ((i17, l15, i16), i21, l22)))))
                                ((l7, i8, i9, l14, natI (lenN l14), (0 : Int)), i10, l11))))))
                      (fun (((i25, l26, i27), i28, l29) : ((Int × ((List Int) × Int)) × (Int × (List (List Int))))) =>
                        some (Sum.inl ((l26, i27, addI .i64 i25 (1 : Int)), i28, l29))))
                    (some (Sum.inr (Sum.inl ()))))
                ((l1, natI (lenN l1), (0 : Int)), i3, l4))
              (fun (_ : Unit) =>
                some true)))))))

def G_impl_hasInt (NN : Nat) : ((List Int) × Int) → (Option Bool) :=
  (fun ((l0, i1) : ((List Int) × Int)) =>
  joinK (loopT NN (fun ((i2, l3, i4, i5) : (Int × ((List Int) × (Int × Int)))) =>
        cnd (ltI i5 i4)
          ((getI l3 i5).bnd (fun (i6 : Int) =>
            cnd (eqI i2 i6)
              (some (Sum.inr (Sum.inr true)))
              (some (Sum.inl (i2, l3, i4, addI .i64 i5 (1 : Int))))))
          (some (Sum.inr (Sum.inl ()))))
      (i1, l0, natI (lenN l0), (0 : Int)))
    (fun (_ : Unit) =>
      some false))

def G_impl_TensorSize (NN : Nat) : ((List Int) × ((List Int) × (List Int))) → (Option Int) :=
  (fun ((l0, l1, l2) : ((List Int) × ((List Int) × (List Int)))) =>
  cnd (ltI (12 : Int) (natI (lenN l0)))
    (some ((-1 : Int)))
    (cnd (neI (natI (lenN l0)) (natI (lenN l1)))
      (some ((-1 : Int)))
      (joinK (loopT NN (fun (((i3, l4, i5, i6), l7, l8, l9) : ((Int × ((List Int) × (Int × Int))) × ((List Int) × ((List Int) × (List Int))))) =>
            cnd (ltI i6 i5)
              ((getI l4 i6).bnd (fun (i10 : Int) =>
                cnd (ltI i10 (0 : Int))
                  (some (Sum.inr (Sum.inr ((-1 : Int)))))
                  (cnd (ltI (99 : Int) i10)
                    (some (Sum.inr (Sum.inr ((-1 : Int)))))
                    ((sliI (0 : Int) i6 (lenN l7)).bnd (fun ((k11, k12) : (Nat × Nat)) =>
                      (F_impl_hasInt (sldL l7 k11 k12, i10)).bnd (fun (b13 : Bool) =>
                        cnd (b13)
                          (some (Sum.inr (Sum.inr ((-1 : Int)))))
                          ((getI l8 i6).bnd (fun (i14 : Int) =>
                            cnd (ltI i14 (1 : Int))
                              (some (Sum.inr (Sum.inr ((-1 : Int)))))
                              (cnd (ltI (8 : Int) i14)
                                (some (Sum.inr (Sum.inr ((-1 : Int)))))
                                (cnd (ltI (4096 : Int) (mulI .i64 i3 i14))
                                  (some (Sum.inr (Sum.inr ((-1 : Int)))))
                                  (some (Sum.inl ((mulI .i64 i3 i14, l4, i5, addI .i64 i6 (1 : Int)), l7, l8, l9)))))))))))))
              (some (Sum.inr (Sum.inl i3))))
          (((1 : Int), l0, natI (lenN l0), (0 : Int)), l0, l1, l2))
        (fun (i15 : Int) =>
          some i15))))

def G_impl_ChargesOk (NN : Nat) : (((List Int) × ((List Int) × (List Int))) × (Int × (List (List Int)))) → (Option Bool) :=
  (fun (((l0, l1, l2), i3, l4) : (((List Int) × ((List Int) × (List Int))) × (Int × (List (List Int))))) =>
  (F_impl_TensorSize (l0, l1, l2)).bnd (fun (i5 : Int) =>
    cnd (eqI i5 ((-1 : Int)))
      (some false)
      (cnd (ltI i3 (1 : Int))
        (some false)
        (cnd (ltI (12 : Int) i3)
          (some false)
          (cnd (neI (natI (lenN l4)) (natI (lenN l1)))
            (some false)
            (joinK (loopT NN (fun (((l6, i7, i8), (l9, l10, l11), i12, l13) : (((List (List Int)) × (Int × Int)) × (((List Int) × ((List Int) × (List Int))) × (Int × (List (List Int)))))) =>
                  cnd (ltI i8 i7)
                    ((getI l6 i8).bnd (fun (l14 : (List Int)) =>
                      (getI l10 i8).bnd (fun (i15 : Int) =>
                        cnd (neI (natI (lenN l14)) i15)
                          (some (Sum.inr (Sum.inr false)))
                          ((F_impl_inMod (i12, l14)).bnd (fun (b16 : Bool) =>
                            cnd (notB b16)
                              (some (Sum.inr (Sum.inr false)))
                              (some (Sum.inl ((l6, i7, addI .i64 i8 (1 : Int)), (l9, l10, l11), i12, l13))))))))
                    (some (Sum.inr (Sum.inl ()))))
                ((l4, natI (lenN l4), (0 : Int)), (l0, l1, l2), i3, l4))
              (fun (_ : Unit) =>
                some true)))))))


theorem stop_ex' (P : Nat → Prop) [DecidablePred P] : ∀ c : Nat, ∃ n, n ≤ c ∧ (∀ j, j < n → P j) ∧ (n = c ∨ ¬ P n)
  | 0 => ⟨0, Nat.le_refl 0, fun j hj => absurd hj (Nat.not_lt_zero j), .inl rfl⟩
  | c + 1 => by
    obtain ⟨n, h1, h2, h3⟩ := stop_ex' P c
    by_cases h : P n
    · rcases h3 with h3 | h3
      · subst h3
        refine ⟨n + 1, Nat.le_refl _, fun j hj => ?_, .inl rfl⟩
        by_cases hj' : j = n
        · subst hj'; exact h
        · exact h2 j (by omega)
      · exact absurd h h3
    · exact ⟨n, by omega, h2, .inr h⟩
theorem getD_some {α : Type} {l : List α} {j : Nat} (d : α) (h : j < l.length) : l[j]? = some (l.getD j d) := by
  simp [List.getD, h]
theorem ltL_t {α : Type} {l : List α} {j : Nat} (h : j < l.length) : ltI (j : Int) (natI (lenN l)) = true := ltN_t h

theorem posN_before {l : List Int} {v : Int} {j : Nat} (h : j < posN l v) : l[j]? ≠ some v := by
  intro e
  have hj : j < l.length := (List.getElem?_eq_some_iff.1 e).1
  have := List.not_of_lt_findIdx h
  rw [List.getElem?_eq_getElem hj] at e
  simp [Option.some.inj e] at this
theorem posN_at {l : List Int} {v : Int} (h : posN l v < l.length) : l[posN l v]? = some v := by
  have := List.findIdx_getElem (w := h)
  rw [List.getElem?_eq_getElem h]
  exact congrArg some (of_decide_eq_true this)
theorem posN_le (l : List Int) (v : Int) : posN l v ≤ l.length := List.findIdx_le_length
theorem findI_mem (l : List Int) (v : Int) : leI 0 (findI l v) = decide (v ∈ l) := by
  unfold findI leI
  by_cases h : posN l v < l.length
  · rw [if_pos h, decide_eq_true (by omega), decide_eq_true]
    exact List.mem_of_getElem? (posN_at h)
  · rw [if_neg h, decide_eq_false (by omega), decide_eq_false]
    intro hm
    obtain ⟨i, hi, e⟩ := List.mem_iff_getElem.1 hm
    have := posN_le l v
    exact posN_before (show i < posN l v by omega) (by rw [List.getElem?_eq_getElem hi, e])

theorem f_spec_l05Find (x : List Int × Int) (y : Int) (h : F_spec_l05Find x = some y) : G_spec_l05Find FUEL x = some y := by
  obtain ⟨l, v⟩ := x
  simp only [F_spec_l05Find] at h
  split at h
  · rename_i hl
    rw [← h]
    simp only [G_spec_l05Find]
    have hp := posN_le l v
    rw [loopT_seq (fun i => (v, l, natI (lenN l), (i : Int))) (r := if posN l v < l.length then Sum.inr (posN l v : Int) else Sum.inl ()) (posN l v) ?_ ?_ ?_ (FUEL_gt (by omega))]
    · unfold findI
      by_cases h : posN l v < l.length
      · rw [if_pos h, if_pos h]; rfl
      · rw [if_neg h, if_neg h]; rfl
    · intro j hj
      simp only
      have hjl : j < l.length := by omega
      rw [cnd_t (ltL_t hjl), getI_nat, getD_some 0 hjl, bnd_s, cnd_f (eqI_f (fun e => posN_before hj (by rw [getD_some 0 hjl, e])))]
      simp only [addN1 (show j ≤ 1048577 by omega)]
    · simp only
      by_cases h : posN l v < l.length
      · rw [if_pos h, cnd_t (ltL_t h), getI_nat, posN_at h, bnd_s, cnd_t (eqI_t rfl)]
      · rw [if_neg h, cnd_f (show ltI _ (natI (lenN l)) = false from ltN_f (by show l.length ≤ _; omega))]
    · rfl
  · cases h
theorem f_impl_hasInt (x : List Int × Int) (y : Bool) (h : F_impl_hasInt x = some y) : G_impl_hasInt FUEL x = some y := by
  obtain ⟨l, v⟩ := x
  simp only [F_impl_hasInt] at h
  split at h
  · rename_i hl
    rw [← h]
    simp only [G_impl_hasInt]
    have hp := posN_le l v
    rw [loopT_seq (fun i => (v, l, natI (lenN l), (i : Int))) (r := if posN l v < l.length then Sum.inr true else Sum.inl ()) (posN l v) ?_ ?_ ?_ (FUEL_gt (by omega))]
    · rw [← findI_mem l v]
      unfold findI leI
      by_cases h : posN l v < l.length
      · rw [if_pos h, if_pos h, decide_eq_true (by omega)]; rfl
      · rw [if_neg h, if_neg h]; rfl
    · intro j hj
      simp only
      have hjl : j < l.length := by omega
      rw [cnd_t (ltL_t hjl), getI_nat, getD_some 0 hjl, bnd_s, cnd_f (eqI_f (fun e => posN_before hj (by rw [getD_some 0 hjl, e])))]
      simp only [addN1 (show j ≤ 1048577 by omega)]
    · simp only
      by_cases h : posN l v < l.length
      · rw [if_pos h, cnd_t (ltL_t h), getI_nat, posN_at h, bnd_s, cnd_t (eqI_t rfl)]
      · rw [if_neg h, cnd_f (show ltI _ (natI (lenN l)) = false from ltN_f (by show l.length ≤ _; omega))]
    · rfl
  · cases h
theorem sliI_n {n m : Nat} (h : n ≤ m) : sliI 0 (n : Int) m = some (0, n) := by
  unfold sliI
  rw [if_pos ⟨by omega, by omega, by omega⟩]
  simp
theorem sldL_0 (l : List Int) (n : Nat) : sldL l 0 n = l.take n := rfl

theorem f_spec_l05Axes (x : List Int × List Int) (y : Bool) (h : F_spec_l05Axes x = some y) : G_spec_l05Axes FUEL x = some y := by
  obtain ⟨L, D⟩ := x
  simp only [F_spec_l05Axes] at h
  split at h
  · rename_i hl
    rw [← h]
    simp only [G_spec_l05Axes, axOk]
    by_cases h1 : L.length ≤ 12
    rotate_left
    · rw [cnd_t (ltI_t (by rw [nl]; omega)), decide_eq_false h1]; rfl
    rw [cnd_f (ltI_f (by rw [nl]; omega)), decide_eq_true h1, Bool.true_and]
    by_cases h2 : L.length = D.length
    rotate_left
    · rw [cnd_t (neI_t (by rw [nl, nl]; omega)), decide_eq_false h2]; rfl
    rw [cnd_f (neI_f (by rw [nl, nl]; omega)), decide_eq_true h2, Bool.true_and]
    obtain ⟨n, hn, hlt, hend⟩ := stop_ex' (axP L D) L.length
    rw [loopT_seq (fun i => (L, D, L, natI (lenN L), (i : Int))) (r := if n < L.length then Sum.inr false else Sum.inl ()) n ?_ ?_ ?_ (FUEL_gt (by omega))]
    · by_cases h : n < L.length
      · rw [if_pos h, decide_eq_false (fun q => (hend.resolve_left (by omega)) (q n h))]; rfl
      · rw [if_neg h, decide_eq_true (fun j hj => hlt j (by omega))]; rfl
    · intro j hj
      simp only
      obtain ⟨a1, a2, a3⟩ := hlt j hj
      have hjl : j < L.length := by omega
      rw [cnd_t (ltL_t hjl), getI_nat, getD_some 0 hjl, bnd_s]
      simp only [F_spec_l01In, bnd_s]
      rw [cnd_f (notB_p a1), getI_nat, getD_some 0 (show j < D.length by omega), bnd_s]
      rw [cnd_f (notB_p a2), sliI_n (show j ≤ lenN L by show j ≤ L.length; omega), bnd_s]
      simp only [sldL_0]
      rw [show F_spec_l05Find (L.take j, L.getD j 0) = some (findI (L.take j) (L.getD j 0)) from if_pos (by rw [List.length_take]; omega), bnd_s, findI_mem, cnd_f (decide_eq_false a3)]
      simp only [addN1 (show j ≤ 1048577 by omega)]
    · simp only
      by_cases h : n < L.length
      · have hno := hend.resolve_left (by omega)
        rw [if_pos h, cnd_t (ltL_t h), getI_nat, getD_some 0 h, bnd_s]
        simp only [F_spec_l01In, bnd_s]
        by_cases a1 : 0 ≤ L.getD n 0 ∧ L.getD n 0 ≤ 99
        rotate_left
        · rw [cnd_t (notB_d a1)]
        rw [cnd_f (notB_p a1), getI_nat, getD_some 0 (show n < D.length by omega), bnd_s]
        by_cases a2 : 1 ≤ D.getD n 0 ∧ D.getD n 0 ≤ 8
        rotate_left
        · rw [cnd_t (notB_d a2)]
        rw [cnd_f (notB_p a2), sliI_n (show n ≤ lenN L by show n ≤ L.length; omega), bnd_s]
        simp only [sldL_0]
        rw [show F_spec_l05Find (L.take n, L.getD n 0) = some (findI (L.take n) (L.getD n 0)) from if_pos (by rw [List.length_take]; omega), bnd_s, findI_mem]
        by_cases a3 : L.getD n 0 ∈ L.take n
        · rw [cnd_t (decide_eq_true a3)]
        · exact absurd ⟨a1, a2, a3⟩ hno
      · rw [if_neg h, cnd_f (show ltI _ (natI (lenN L)) = false from ltN_f (by show L.length ≤ _; omega))]
    · rfl
  · cases h
theorem axOk_t {L D : List Int} (h : axOk L D = true) : L.length ≤ 12 ∧ L.length = D.length ∧ ∀ j, j < L.length → axP L D j := by
  simp only [axOk, Bool.and_eq_true, decide_eq_true_eq] at h
  exact h
theorem axOk_dims {L D : List Int} (h : axOk L D = true) : ∀ x ∈ D, 1 ≤ x ∧ x ≤ 8 := by
  obtain ⟨_, h2, h3⟩ := axOk_t h
  intro x hx
  obtain ⟨i, hi, e⟩ := List.mem_iff_getElem.1 hx
  have := (h3 i (by omega)).2.1
  have e2 := getD_some 0 hi
  rw [List.getElem?_eq_getElem hi, e] at e2
  rw [← Option.some.inj e2] at this
  exact this
theorem f_spec_TensorSize (x : List Int × List Int × List Int) (y : Int) (h : F_spec_TensorSize x = some y) : G_spec_TensorSize FUEL x = some y := by
  obtain ⟨L, D, T⟩ := x
  simp only [F_spec_TensorSize] at h
  split at h
  · rename_i hl
    rw [← h]
    simp only [G_spec_TensorSize, tsz]
    rw [show F_spec_l05Axes (L, D) = some (axOk L D) from if_pos hl, bnd_s]
    cases hx : axOk L D with
    | false => simp [cnd, notB]
    | true =>
      have hd := axOk_dims hx
      have h1 : ∀ x ∈ D, 1 ≤ x := fun x hx => (hd x hx).1
      rw [cnd_f (by rfl), show F_spec_l05Product (D, 4096) = some (capProd 4096 D) from if_pos ⟨by omega, hl.2, List.all_eq_true.2 fun x hx => decide_eq_true (by have := hd x hx; omega)⟩, bnd_s]
      unfold capProd
      rw [capProd_go (by omega) D 0 1 h1 (by omega) (by omega), Int.one_mul]
      by_cases hp : prodI D ≤ 4096
      · rw [cnd_f (ltI_f (by omega)), if_pos ⟨rfl, hp⟩, show min (prodI D) (4096 + 1) = prodI D by omega]
      · rw [cnd_t (ltI_t (by omega)), if_neg (fun q => hp q.2)]
  · cases h

theorem prodI_snoc : ∀ (l : List Int) (x : Int), prodI (l ++ [x]) = prodI l * x
  | [], x => by simp [prodI]
  | a :: l, x => by simp [prodI, prodI_snoc l x, Int.mul_assoc]
theorem prodI_app : ∀ (l m : List Int), prodI (l ++ m) = prodI l * prodI m
  | [], m => by simp [prodI]
  | a :: l, m => by simp [prodI, prodI_app l m, Int.mul_assoc]
theorem take_succD {D : List Int} {j : Nat} (h : j < D.length) : D.take (j + 1) = D.take j ++ [D.getD j 0] := by
  rw [List.take_add_one, getD_some 0 h]
  rfl
theorem prodI_take {D : List Int} {j : Nat} (h : j < D.length) : prodI (D.take (j + 1)) = prodI (D.take j) * D.getD j 0 := by rw [take_succD h, prodI_snoc]
theorem prodI_take_le {D : List Int} (h : ∀ x ∈ D, 1 ≤ x) (j : Nat) : prodI (D.take j) ≤ prodI D := by
  have e : prodI D = prodI (D.take j) * prodI (D.drop j) := by rw [← prodI_app, List.take_append_drop]
  have h1 := prodI_pos (l := D.take j) fun x hx => h x (List.mem_of_mem_take hx)
  have h2 := prodI_pos (l := D.drop j) fun x hx => h x (List.mem_of_mem_drop hx)
  have := Int.mul_le_mul_of_nonneg_left h2 (show 0 ≤ prodI (D.take j) by omega)
  rw [e]
  omega

def axQ (L D : List Int) (j : Nat) : Prop := axP L D j ∧ prodI (D.take (j + 1)) ≤ 4096
instance (L D : List Int) (j : Nat) : Decidable (axQ L D j) := by unfold axQ; infer_instance

theorem f_impl_TensorSize (x : List Int × List Int × List Int) (y : Int) (h : F_impl_TensorSize x = some y) : G_impl_TensorSize FUEL x = some y := by
  obtain ⟨L, D, T⟩ := x
  simp only [F_impl_TensorSize, F_spec_TensorSize] at h
  split at h
  · rename_i hl
    rw [← h]
    simp only [G_impl_TensorSize, tsz]
    by_cases h1 : L.length ≤ 12
    rotate_left
    · rw [cnd_t (ltI_t (by rw [nl]; omega)), if_neg (fun q => h1 (axOk_t q.1).1)]
    rw [cnd_f (ltI_f (by rw [nl]; omega))]
    by_cases h2 : L.length = D.length
    rotate_left
    · rw [cnd_t (neI_t (by rw [nl, nl]; omega)), if_neg (fun q => h2 (axOk_t q.1).2.1)]
    rw [cnd_f (neI_f (by rw [nl, nl]; omega))]
    obtain ⟨n, hn, hlt, hend⟩ := stop_ex' (axQ L D) L.length
    have hpre : ∀ j, j ≤ n → 1 ≤ prodI (D.take j) ∧ prodI (D.take j) ≤ 4096 := by
      intro j hj
      constructor
      · apply prodI_pos
        intro x hx
        obtain ⟨i, hi, e⟩ := List.mem_iff_getElem.1 hx
        rw [List.length_take] at hi
        have hp := (hlt i (by omega)).1.2.1
        have e2 := getD_some 0 (show i < D.length by omega)
        rw [List.getElem_take] at e
        rw [List.getElem?_eq_getElem (by omega), e] at e2
        rw [← Option.some.inj e2] at hp
        exact hp.1
      · cases j with
        | zero => simp [prodI]
        | succ j => exact (hlt j (by omega)).2
    rw [loopT_seq (fun i => ((prodI (D.take i), L, natI (lenN L), (i : Int)), L, D, T)) (r := if n < L.length then Sum.inr (-1) else Sum.inl (prodI D)) n ?_ ?_ ?_ (FUEL_gt (by omega))]
    · by_cases h : n < L.length
      · rw [if_pos h, if_neg]
        · rfl
        · intro q
          refine hend.resolve_left (by omega) ⟨(axOk_t q.1).2.2 n h, ?_⟩
          have := prodI_take_le (fun x hx => (axOk_dims q.1 x hx).1) (n + 1)
          have := q.2
          omega
      · have e : n = L.length := by omega
        have hp := (hpre n (Nat.le_refl n)).2
        rw [e, h2, List.take_length] at hp
        rw [if_neg h, if_pos]
        · rfl
        · refine ⟨?_, hp⟩
          simp only [axOk, Bool.and_eq_true, decide_eq_true_eq]
          exact ⟨h1, h2, fun j hj => (hlt j (by omega)).1⟩
    · intro j hj
      simp only
      obtain ⟨⟨a1, a2, a3⟩, a4⟩ := hlt j hj
      have hjl : j < L.length := by omega
      rw [cnd_t (ltL_t hjl), getI_nat, getD_some 0 hjl, bnd_s, cnd_f (ltI_f (by omega)), cnd_f (ltI_f (by omega)), sliI_n (show j ≤ lenN L by show j ≤ L.length; omega), bnd_s]
      simp only [sldL_0]
      rw [show F_impl_hasInt (L.take j, L.getD j 0) = some (decide (L.getD j 0 ∈ L.take j)) from if_pos (by rw [List.length_take]; omega), bnd_s, cnd_f (decide_eq_false a3), getI_nat, getD_some 0 (show j < D.length by omega), bnd_s, cnd_f (ltI_f (by omega)), cnd_f (ltI_f (by omega))]
      have hb := hpre j (by omega)
      obtain ⟨b1, b2⟩ := mul_bd (a := prodI (D.take j)) (x := D.getD j 0) (A := 4096) (B := 8) (by omega) hb.2 (by omega) a2.2
      rw [prodI_take (by omega)] at a4
      rw [mulI_eq (by omega) (by omega), cnd_f (ltI_f a4), ← prodI_take (by omega)]
      simp only [addN1 (show j ≤ 1048577 by omega)]
    · simp only
      by_cases h : n < L.length
      · have hno := hend.resolve_left (by omega)
        rw [if_pos h, cnd_t (ltL_t h), getI_nat, getD_some 0 h, bnd_s]
        by_cases c1 : L.getD n 0 < 0
        · rw [cnd_t (ltI_t c1)]
        rw [cnd_f (ltI_f (by omega))]
        by_cases c2 : 99 < L.getD n 0
        · rw [cnd_t (ltI_t c2)]
        rw [cnd_f (ltI_f (by omega)), sliI_n (show n ≤ lenN L by show n ≤ L.length; omega), bnd_s]
        simp only [sldL_0]
        rw [show F_impl_hasInt (L.take n, L.getD n 0) = some (decide (L.getD n 0 ∈ L.take n)) from if_pos (by rw [List.length_take]; omega), bnd_s]
        by_cases a3 : L.getD n 0 ∈ L.take n
        · rw [cnd_t (decide_eq_true a3)]
        rw [cnd_f (decide_eq_false a3), getI_nat, getD_some 0 (show n < D.length by omega), bnd_s]
        by_cases c3 : D.getD n 0 < 1
        · rw [cnd_t (ltI_t c3)]
        rw [cnd_f (ltI_f (by omega))]
        by_cases c4 : 8 < D.getD n 0
        · rw [cnd_t (ltI_t c4)]
        rw [cnd_f (ltI_f (by omega))]
        have hb := hpre n (Nat.le_refl n)
        obtain ⟨b1, b2⟩ := mul_bd (a := prodI (D.take n)) (x := D.getD n 0) (A := 4096) (B := 8) (by omega) hb.2 (by omega) (by omega)
        rw [mulI_eq (by omega) (by omega)]
        by_cases c5 : 4096 < prodI (D.take n) * D.getD n 0
        · rw [cnd_t (ltI_t c5)]
        · exact absurd ⟨⟨⟨by omega, by omega⟩, ⟨by omega, by omega⟩, a3⟩, by rw [prodI_take (by omega)]; omega⟩ hno
      · have e : n = L.length := by omega
        rw [if_neg h, cnd_f (show ltI _ (natI (lenN L)) = false from ltN_f (by show L.length ≤ _; omega)), e, h2, List.take_length]
    · rfl
  · cases h
theorem rows_len {R : List (List Int)} (h : ∀ l ∈ R, l.length ≤ 1048576) {j : Nat} (hj : j < R.length) : (R.getD j []).length ≤ 1048576 := by
  have e := getD_some [] hj
  exact h _ (List.mem_of_getElem? e)
theorem f_spec_ChargesOk (x : (List Int × List Int × List Int) × Int × List (List Int)) (y : Bool) (h : F_spec_ChargesOk x = some y) : G_spec_ChargesOk FUEL x = some y := by
  obtain ⟨⟨L, D, T⟩, m, R⟩ := x
  simp only [F_spec_ChargesOk] at h
  split at h
  · rename_i hl
    obtain ⟨hl1, hl2, hl3⟩ := hl
    simp only at hl1 hl2 hl3
    rw [← h]
    simp only [G_spec_ChargesOk, chOk]
    rw [show F_spec_TensorSize (L, D, T) = some (tsz L D) from if_pos hl1, bnd_s]
    by_cases h1 : 0 ≤ tsz L D
    rotate_left
    · rw [cnd_t (ltI_t (by omega)), decide_eq_false h1]; rfl
    rw [cnd_f (ltI_f (by omega)), decide_eq_true h1, Bool.true_and]
    simp only [F_spec_l01In, bnd_s]
    by_cases h2 : 1 ≤ m ∧ m ≤ 12
    rotate_left
    · rw [cnd_t (notB_d h2), decide_eq_false h2]; rfl
    rw [cnd_f (notB_p h2), decide_eq_true h2, Bool.true_and]
    by_cases h3 : R.length = D.length
    rotate_left
    · rw [cnd_t (neI_t (by rw [nl, nl]; omega)), decide_eq_false h3]; rfl
    rw [cnd_f (neI_f (by rw [nl, nl]; omega)), decide_eq_true h3, Bool.true_and]
    obtain ⟨n, hn, hlt, hend⟩ := stop_ex' (chP m D R) R.length
    rw [loopT_seq (fun i => ((D, natI (lenN D), (i : Int)), m, R)) (r := if n < R.length then Sum.inr false else Sum.inl ()) n ?_ ?_ ?_ (FUEL_gt (by omega))]
    · by_cases h : n < R.length
      · rw [if_pos h, decide_eq_false (fun q => (hend.resolve_left (by omega)) (q n h))]; rfl
      · rw [if_neg h, decide_eq_true (fun j hj => hlt j (by omega))]; rfl
    · intro j hj
      simp only
      obtain ⟨a1, a2⟩ := hlt j hj
      have hjR : j < R.length := by omega
      have hjD : j < D.length := by omega
      have hr := rows_len hl3 hjR
      rw [cnd_t (ltL_t hjD), getI_nat, getI_nat, getD_some 0 hjD, getD_some [] hjR, bnd_s, bnd_s, cnd_f (neI_f (by rw [nl]; exact a1)), bnd_s]
      rw [loopT_all (mk := fun i => ((D, natI (lenN D), (j : Int), R.getD j [], natI (lenN (R.getD j [])), (i : Int)), m, R)) (R.getD j []) (inB m) (Sum.inr (Sum.inr (Sum.inr false))) (Sum.inl (((j : Int), D, natI (lenN D)), m, R)) ?_ ?_ ?_ ?_ (FUEL_gt (by omega))]
      · rw [if_pos (show (R.getD j []).all (inB m) = true from a2), joinK_l]
        simp only [addN1 (show j ≤ 1048577 by omega)]
      all_goals try simp only
      · intro i a ha hp
        have hp := of_decide_eq_true hp
        rw [cnd_t (ltI_in ha), getI_nat, ha, bnd_s, subI_eq (by omega) (by omega), cnd_f (notB_p (by omega)), next_i ha (by omega)]
      · intro i a ha hp
        have hp := of_decide_eq_false hp
        rw [cnd_t (ltI_in ha), getI_nat, ha, bnd_s, subI_eq (by omega) (by omega), cnd_t (notB_d (by omega))]
      · rw [cnd_f (ltI_end _)]
      · rfl
    · simp only
      by_cases h : n < R.length
      · have hno := hend.resolve_left (by omega)
        have hjD : n < D.length := by omega
        have hr := rows_len hl3 h
        rw [if_pos h, cnd_t (ltL_t hjD), getI_nat, getI_nat, getD_some 0 hjD, getD_some [] h, bnd_s, bnd_s]
        by_cases a1 : ((R.getD n []).length : Int) = D.getD n 0
        rotate_left
        · rw [cnd_t (neI_t (by rw [nl]; exact a1))]; rfl
        rw [cnd_f (neI_f (by rw [nl]; exact a1)), bnd_s]
        have a2 : rowOk m (R.getD n []) ≠ true := fun q => hno ⟨a1, q⟩
        rw [loopT_all (mk := fun i => ((D, natI (lenN D), (n : Int), R.getD n [], natI (lenN (R.getD n [])), (i : Int)), m, R)) (R.getD n []) (inB m) (Sum.inr (Sum.inr (Sum.inr false))) (Sum.inl (((n : Int), D, natI (lenN D)), m, R)) ?_ ?_ ?_ ?_ (FUEL_gt (by omega))]
        · rw [if_neg (show ¬ (R.getD n []).all (inB m) = true from a2)]
          rfl
        all_goals try simp only
        · intro i a ha hp
          have hp := of_decide_eq_true hp
          rw [cnd_t (ltI_in ha), getI_nat, ha, bnd_s, subI_eq (by omega) (by omega), cnd_f (notB_p (by omega)), next_i ha (by omega)]
        · intro i a ha hp
          have hp := of_decide_eq_false hp
          rw [cnd_t (ltI_in ha), getI_nat, ha, bnd_s, subI_eq (by omega) (by omega), cnd_t (notB_d (by omega))]
        · rw [cnd_f (ltI_end _)]
        · rfl
      · rw [if_neg h, cnd_f (show ltI _ (natI (lenN D)) = false from ltN_f (by show D.length ≤ _; omega))]
    · rfl
  · cases h
theorem f_impl_ChargesOk (x : (List Int × List Int × List Int) × Int × List (List Int)) (y : Bool) (h : F_impl_ChargesOk x = some y) : G_impl_ChargesOk FUEL x = some y := by
  obtain ⟨⟨L, D, T⟩, m, R⟩ := x
  simp only [F_impl_ChargesOk, F_spec_ChargesOk] at h
  split at h
  · rename_i hl
    obtain ⟨hl1, hl2, hl3⟩ := hl
    simp only at hl1 hl2 hl3
    rw [← h]
    simp only [G_impl_ChargesOk, chOk]
    rw [show F_impl_TensorSize (L, D, T) = some (tsz L D) from if_pos hl1, bnd_s]
    have hts : tsz L D = -1 ∨ 0 ≤ tsz L D := by
      unfold tsz
      by_cases q : axOk L D = true ∧ prodI D ≤ 4096
      · rw [if_pos q]
        have := prodI_pos fun x hx => (axOk_dims q.1 x hx).1
        right; omega
      · rw [if_neg q]; left; rfl
    by_cases h1 : 0 ≤ tsz L D
    rotate_left
    · rw [cnd_t (eqI_t (by omega)), decide_eq_false h1]; rfl
    rw [cnd_f (eqI_f (by omega)), decide_eq_true h1, Bool.true_and]
    by_cases h2 : 1 ≤ m
    rotate_left
    · rw [cnd_t (ltI_t (by omega)), decide_eq_false (p := 1 ≤ m ∧ m ≤ 12) (by omega)]; rfl
    rw [cnd_f (ltI_f (by omega))]
    by_cases h2' : m ≤ 12
    rotate_left
    · rw [cnd_t (ltI_t (by omega)), decide_eq_false (p := 1 ≤ m ∧ m ≤ 12) (by omega)]; rfl
    rw [cnd_f (ltI_f (by omega)), decide_eq_true (p := 1 ≤ m ∧ m ≤ 12) ⟨h2, h2'⟩, Bool.true_and]
    by_cases h3 : R.length = D.length
    rotate_left
    · rw [cnd_t (neI_t (by rw [nl, nl]; omega)), decide_eq_false h3]; rfl
    rw [cnd_f (neI_f (by rw [nl, nl]; omega)), decide_eq_true h3, Bool.true_and]
    obtain ⟨n, hn, hlt, hend⟩ := stop_ex' (chP m D R) R.length
    rw [loopT_seq (fun i => ((R, natI (lenN R), (i : Int)), (L, D, T), m, R)) (r := if n < R.length then Sum.inr false else Sum.inl ()) n ?_ ?_ ?_ (FUEL_gt (by omega))]
    · by_cases h : n < R.length
      · rw [if_pos h, decide_eq_false (fun q => (hend.resolve_left (by omega)) (q n h))]; rfl
      · rw [if_neg h, decide_eq_true (fun j hj => hlt j (by omega))]; rfl
    · intro j hj
      simp only
      obtain ⟨a1, a2⟩ := hlt j hj
      have hjR : j < R.length := by omega
      have hjD : j < D.length := by omega
      have hr := rows_len hl3 hjR
      rw [cnd_t (ltL_t hjR), getI_nat, getI_nat, getD_some 0 hjD, getD_some [] hjR, bnd_s, bnd_s, cnd_f (neI_f (by rw [nl]; exact a1)), show F_impl_inMod (m, R.getD j []) = some (rowOk m (R.getD j [])) from if_pos hr, bnd_s, a2, cnd_f (by rfl)]
      simp only [addN1 (show j ≤ 1048577 by omega)]
    · simp only
      by_cases h : n < R.length
      · have hno := hend.resolve_left (by omega)
        have hjD : n < D.length := by omega
        have hr := rows_len hl3 h
        rw [if_pos h, cnd_t (ltL_t h), getI_nat, getI_nat, getD_some 0 hjD, getD_some [] h, bnd_s, bnd_s]
        by_cases a1 : ((R.getD n []).length : Int) = D.getD n 0
        rotate_left
        · rw [cnd_t (neI_t (by rw [nl]; exact a1))]
        rw [cnd_f (neI_f (by rw [nl]; exact a1))]
        have a2 : rowOk m (R.getD n []) = false := by
          cases q : rowOk m (R.getD n []) with
          | false => rfl
          | true => exact absurd ⟨a1, q⟩ hno
        rw [show F_impl_inMod (m, R.getD n []) = some (rowOk m (R.getD n [])) from if_pos hr, bnd_s, a2, cnd_t (by rfl)]
      · rw [if_neg h, cnd_f (show ltI _ (natI (lenN R)) = false from ltN_f (by show R.length ≤ _; omega))]
    · rfl
  · cases h
end Go.Am
end
