/- M1, Mx, M4, M31, M6, M7, M8, M9, Fm, M14, M15, M16, M17, M19, M33, M36, M37, M18, M32, M34, M38, M41, M42, M12, M20, M43, M10, M44, M45: parts of the proof. No condition. -/
import Derived.Test.YtdbokcfhhdkhiaaMT
set_option linter.unusedVariables false
set_option linter.unusedSimpArgs false
section
namespace Go.Am
end Go.Am
end
section
namespace Go.Am
theorem loopT_inv {X Y : Type} {f : X → Option (X ⊕ Y)} {r : Y} (n : Nat) (Inv : Nat → X → Prop) (h1 : ∀ j x, j < n → Inv j x → ∃ x', f x = some (.inl x') ∧ Inv (j + 1) x') (h2 : ∀ x, Inv n x → f x = some (.inr r))
  {x0 : X} (h0 : Inv 0 x0) {N : Nat} (hN : n < N) : loopT N f x0 = some r := by
 refine loopT_run (fun k x => ∃ j, j + k = n ∧ Inv j x) (fun k x ⟨j, hj, hI⟩ => ?_) n x0 ⟨0, by omega, h0⟩ N hN
 by_cases hk : k = 0
 ·subst hk
  have : j = n := by omega
  subst this
  exact .inl (h2 x hI)
 ·obtain ⟨x', e, hI'⟩ := h1 j x (by omega) hI
  exact .inr ⟨k - 1, x', by omega, e, j + 1, by omega, hI'⟩
def genD (r c : Nat) (M : Nat → Nat → Int) : List Int := (List.range (r * c)).map fun n => M (n / c) (n % c)
def ofD (c : Nat) (l : List Int) : Nat → Nat → Int := fun i j => l.getD (i * c + j) 0
def updM (M : Nat → Nat → Int) (i j : Nat) (x : Int) : Nat → Nat → Int := fun a b => if a = i ∧ b = j then x else M a b
theorem idx_lt {r c i j : Nat} (hi : i < r) (hj : j < c) : i * c + j < r * c := by
 have : (i + 1) * c ≤ r * c := Nat.mul_le_mul_right _ hi
 rw [Nat.add_mul] at this
 omega
theorem idx_div {c i j : Nat} (hj : j < c) : (i * c + j) / c = i := by
 rw [Nat.mul_comm, Nat.mul_add_div (by omega), Nat.div_eq_of_lt hj, Nat.add_zero]
theorem idx_mod {c i j : Nat} (hj : j < c) : (i * c + j) % c = j := by
 rw [Nat.mul_comm, Nat.mul_add_mod, Nat.mod_eq_of_lt hj]
theorem genD_len (r c : Nat) (M : Nat → Nat → Int) : (genD r c M).length = r * c := by simp [genD]
theorem genD_get {r c i j : Nat} (M : Nat → Nat → Int) (hi : i < r) (hj : j < c) : (genD r c M)[i * c + j]? = some (M i j) := by
 unfold genD
 rw [List.getElem?_map, List.getElem?_range (idx_lt hi hj)]
 simp [idx_div hj, idx_mod hj]
theorem genD_congr {r c : Nat} {M M' : Nat → Nat → Int} (h : ∀ i, i < r → ∀ j, j < c → M i j = M' i j) : genD r c M = genD r c M' := by
 unfold genD
 refine List.map_congr_left fun n hn => ?_
 have hn := List.mem_range.1 hn
 have hc : 0 < c := by
  rcases Nat.eq_zero_or_pos c with h | h
  ·subst h; simp at hn
  ·exact h
 exact h _ ((Nat.div_lt_iff_lt_mul hc).2 hn) _ (Nat.mod_lt _ hc)
theorem genD_set {r c i j : Nat} (M : Nat → Nat → Int) (hj : j < c) (x : Int) : (genD r c M).set (i * c + j) x = genD r c (updM M i j x) := by
 apply List.ext_getElem?
 intro n
 rw [List.getElem?_set, genD_len]
 unfold genD
 simp only [List.getElem?_map]
 by_cases hn : n < r * c
 ·rw [List.getElem?_range hn]
  have hc : 0 < c := by omega
  by_cases he : i * c + j = n
  ·rw [if_pos he, if_pos (by omega)]
   subst he
   simp [updM, idx_div hj, idx_mod hj]
  ·rw [if_neg he]
   simp only [Option.map_some, updM]
   rw [if_neg]
   rintro ⟨h1, h2⟩
   apply he
   rw [← h1, ← h2]
   have := Nat.div_add_mod n c
   rw [Nat.mul_comm] at this
   exact this
 ·rw [List.getElem?_eq_none (by simp; omega)]
  by_cases he : i * c + j = n
  ·rw [if_pos he, if_neg (by omega)]; rfl
  ·rw [if_neg he]; rfl
theorem genD_of {r c : Nat} {l : List Int} (h : l.length = r * c) : genD r c (ofD c l) = l := by
 apply List.ext_getElem?
 intro n
 unfold genD
 simp only [List.getElem?_map]
 by_cases hn : n < r * c
 ·rw [List.getElem?_range hn, List.getElem?_eq_getElem (by omega)]
  simp only [Option.map_some, ofD]
  have := Nat.div_add_mod n c
  rw [Nat.mul_comm] at this
  rw [this, List.getD_eq_getElem?_getD, List.getElem?_eq_getElem (by omega)]
  rfl
 ·rw [List.getElem?_eq_none (by simp; omega), List.getElem?_eq_none (by omega)]
  rfl
theorem ofD_gen {r c i j : Nat} (M : Nat → Nat → Int) (hi : i < r) (hj : j < c) : ofD c (genD r c M) i j = M i j := by
 unfold ofD
 rw [List.getD_eq_getElem?_getD, genD_get M hi hj]
 rfl
theorem genD_rep (r c : Nat) (x : Int) : repL (r * c) x = genD r c (fun _ _ => x) := by
 unfold genD repL
 rw [List.map_const', List.length_range]
theorem idxI {i c j : Nat} (hi : i ≤ 1048576) (hc : c ≤ 1048576) (hj : j ≤ 1048576) : addI .i64 (mulI .i64 (i : Int) (c : Int)) (j : Int) = ((i * c + j : Nat) : Int) := by
 have h1 : i * c ≤ 1048576 * 1048576 := Nat.mul_le_mul hi hc
 have e : (i : Int) * (c : Int) = ((i * c : Nat) : Int) := by norm_cast
 rw [mulI, wrap_id (by omega) (by omega), addI_eq (by omega) (by omega), e]
 omega
theorem mulN {i c : Nat} (hi : i ≤ 1048576) (hc : c ≤ 1048576) : mulI .i64 (i : Int) (c : Int) = ((i * c : Nat) : Int) := by
 have h1 : i * c ≤ 1048576 * 1048576 := Nat.mul_le_mul hi hc
 have e : (i : Int) * (c : Int) = ((i * c : Nat) : Int) := by norm_cast
 rw [mulI, wrap_id (by omega) (by omega), e]
theorem getI_gen {r c i j : Nat} (M : Nat → Nat → Int) (hi : i < r) (hj : j < c) : getI (genD r c M) ((i * c + j : Nat) : Int) = some (M i j) := by rw [getI_nat, genD_get M hi hj]
theorem chkI_gen {r c i j : Nat} (M : Nat → Nat → Int) (hi : i < r) (hj : j < c) : chkI ((i * c + j : Nat) : Int) (lenN (genD r c M)) = some (i * c + j) := chkI_nat (by unfold lenN; rw [genD_len]; exact idx_lt hi hj)
theorem getN_gen {r c i j : Nat} (M : Nat → Nat → Int) (hi : i < r) (hj : j < c) : getN (genD r c M) (i * c + j) = some (M i j) := genD_get M hi hj
theorem setL_gen {r c i j : Nat} (M : Nat → Nat → Int) (hj : j < c) (x : Int) : setL (genD r c M) (i * c + j) x = genD r c (updM M i j x) := genD_set M hj x
theorem lenN_gen (r c : Nat) (M : Nat → Nat → Int) : lenN (genD r c M) = r * c := genD_len r c M
theorem fulI_gen (r c : Nat) (M M' : Nat → Nat → Int) : fulI 0 (lenN (genD r c M)) (lenN (genD r c M')) = some () := by rw [lenN_gen, lenN_gen]; exact fulI_id _
theorem samI_gen (r c : Nat) (M M' : Nat → Nat → Int) : samI (lenN (genD r c M)) (lenN (genD r c M')) = some () := by rw [lenN_gen, lenN_gen]; exact samI_ok rfl
theorem remN {a p : Int} (ha : 0 ≤ a) (hp : 0 < p) : remI a p = some (a % p) := by
 unfold remI
 rw [if_neg (by omega), Int.tmod_eq_emod_of_nonneg ha]
theorem ltN_t {i n : Nat} (h : i < n) : ltI (i : Int) (n : Int) = true := ltI_t (by omega)
theorem ltN_f {i n : Nat} (h : n ≤ i) : ltI (i : Int) (n : Int) = false := ltI_f (by omega)
theorem addN1 {i : Nat} (h : i ≤ 1048577) : addI .i64 (i : Int) 1 = ((i + 1 : Nat) : Int) := by rw [addI_eq (by omega) (by omega)]; omega
def pOk (p : Int) : Prop := 2 ≤ p ∧ p ≤ 1000003
instance (p : Int) : Decidable (pOk p) := inferInstanceAs (Decidable (2 ≤ p ∧ p ≤ 1000003))
def inP (p x : Int) : Prop := 0 ≤ x ∧ x < p
instance (p x : Int) : Decidable (inP p x) := inferInstanceAs (Decidable (0 ≤ x ∧ x < p))
theorem emod_in {p : Int} (hp : pOk p) (a : Int) : inP p (a % p) := ⟨Int.emod_nonneg _ (by have := hp.1; omega), Int.emod_lt_of_pos _ (by have := hp.1; omega)⟩
theorem inP.le {p x : Int} (h : inP p x) : 0 ≤ x ∧ x ≤ p := ⟨h.1, Int.le_of_lt h.2⟩
theorem inP.s {p x : Int} (hp : pOk p) (h : inP p x) : 0 ≤ x ∧ x ≤ 1000003000000 := ⟨h.1, by have := h.2; have := hp.2; omega⟩
theorem prod_in {p a b : Int} (hp : pOk p) (ha : 0 ≤ a ∧ a ≤ p) (hb : 0 ≤ b ∧ b ≤ p) : 0 ≤ a * b ∧ a * b ≤ 1000006000009 := by
 refine ⟨Int.mul_nonneg ha.1 hb.1, ?_⟩
 have h1 := hp.2
 have := Int.mul_le_mul (show a ≤ 1000003 by omega) (show b ≤ 1000003 by omega) hb.1 (by omega)
 omega
theorem mulI_in {p a b : Int} (hp : pOk p) (ha : 0 ≤ a ∧ a ≤ p) (hb : 0 ≤ b ∧ b ≤ p) : mulI .i64 a b = a * b := by
 have := prod_in hp ha hb
 exact wrap_id (by omega) (by omega)
theorem macI {p s a b : Int} (hp : pOk p) (hs : 0 ≤ s ∧ s ≤ 1000003000000) (ha : 0 ≤ a ∧ a ≤ p) (hb : 0 ≤ b ∧ b ≤ p) : remI (addI .i64 s (mulI .i64 a b)) p = some ((s + a * b) % p) := by
 have h := prod_in hp ha hb
 rw [mulI_in hp ha hb, addI_eq (by omega) (by omega), remN (by omega) (by have := hp.1; omega)]
theorem mulR {p a b : Int} (hp : pOk p) (ha : 0 ≤ a ∧ a ≤ p) (hb : 0 ≤ b ∧ b ≤ p) : remI (mulI .i64 a b) p = some (a * b % p) := by
 have h := prod_in hp ha hb
 rw [mulI_in hp ha hb, remN h.1 (by have := hp.1; omega)]
def dotF (p : Int) (f g : Nat → Int) : Nat → Int
 | 0 => 0
 | n + 1 => (dotF p f g n + f n * g n) % p
theorem dotF_in {p : Int} (hp : pOk p) (f g : Nat → Int) : ∀ n, inP p (dotF p f g n)
 | 0 => ⟨Int.le_refl _, by have := hp.1; show (0 : Int) < p; omega⟩
 | n + 1 => emod_in hp _
def mulF (p : Int) (k : Nat) (A B : Nat → Nat → Int) : Nat → Nat → Int := fun i j => dotF p (fun t => A i t) (fun t => B t j) k
def inM (p : Int) (r c : Nat) (M : Nat → Nat → Int) : Prop := ∀ i, i < r → ∀ j, j < c → inP p (M i j)
def allP (p : Int) (l : List Int) : Prop := ∀ x ∈ l, inP p x
instance (p : Int) (l : List Int) : Decidable (allP p l) := inferInstanceAs (Decidable (∀ x ∈ l, inP p x))
theorem allP_gen {p : Int} {r c : Nat} {M : Nat → Nat → Int} : allP p (genD r c M) ↔ inM p r c M := by
 constructor
 ·intro h i hi j hj
  exact h _ (List.mem_of_getElem? (genD_get M hi hj))
 ·intro h x hx
  unfold genD at hx
  obtain ⟨n, hn, rfl⟩ := List.mem_map.1 hx
  have hn := List.mem_range.1 hn
  have hc : 0 < c := by
   rcases Nat.eq_zero_or_pos c with h | h
   ·subst h; simp at hn
   ·exact h
  exact h _ ((Nat.div_lt_iff_lt_mul hc).2 hn) _ (Nat.mod_lt _ hc)
def mOk (x : Int × Int × List Int) : Prop := (0 ≤ x.1 ∧ x.1 ≤ 4096) ∧ (0 ≤ x.2.1 ∧ x.2.1 ≤ 4096) ∧ (x.2.2.length : Int) = x.1 * x.2.1 ∧ x.2.2.length ≤ 1048576
instance (x : Int × Int × List Int) : Decidable (mOk x) := by unfold mOk; infer_instance
theorem mOk_gen {x : Int × Int × List Int} (h : mOk x) : ∃ (r c : Nat) (M : Nat → Nat → Int), x = ((r : Int), (c : Int), genD r c M) ∧ r ≤ 4096 ∧ c ≤ 4096 ∧ r * c ≤ 1048576 := by
 obtain ⟨r, c, l⟩ := x
 obtain ⟨h1, h2, h3, h4⟩ := h
 simp only at h1 h2 h3 h4
 obtain ⟨r, rfl⟩ := natI_eq h1.1
 obtain ⟨c, rfl⟩ := natI_eq h2.1
 have e : l.length = r * c := by
  have : ((r : Int) * (c : Int)) = ((r * c : Nat) : Int) := by norm_cast
  rw [this] at h3; exact_mod_cast h3
 exact ⟨r, c, ofD c l, by rw [genD_of e], by omega, by omega, by omega⟩
theorem mOk_mk {r c : Nat} (M : Nat → Nat → Int) (hr : r ≤ 4096) (hc : c ≤ 4096) (h : r * c ≤ 1048576) : mOk ((r : Int), (c : Int), genD r c M) := by
 refine ⟨⟨by omega, by show (r : Int) ≤ 4096; omega⟩, ⟨by show (0 : Int) ≤ c; omega, by show (c : Int) ≤ 4096; omega⟩, ?_, ?_⟩
 ·simp only [genD_len]; norm_cast
 ·simp only [genD_len]; exact h
end Go.Am
end
section
namespace Go.Am
def divAt (n : Int) (i : Nat) : Bool := decide ((i : Int) * i ≤ n) && decide (n % (i : Int) = 0)
def isPrimeI (n : Int) : Bool := decide (2 ≤ n ∧ n ≤ 1000003) && !((List.range' 2 999).any (divAt n))
def F_impl_IsPrime : Int → Option Bool := fun (n : Int) => some (isPrimeI n)
def inB (m : Int) (v : Int) : Bool := decide (0 ≤ v ∧ v < m)
def rowOk (m : Int) (l : List Int) : Bool := l.all (inB m)
def F_impl_inMod : Int × List Int → Option Bool := fun ((m, l) : Int × List Int) => if l.length ≤ 1048576 then some (rowOk m l) else none
def matOk (m : Int) (x : Int × Int × List Int) : Bool := isPrimeI m && (decide (0 ≤ x.1 ∧ x.1 ≤ 64) && (decide (0 ≤ x.2.1 ∧ x.2.1 ≤ 64) && (decide ((x.2.2.length : Int) = x.1 * x.2.1) && rowOk m x.2.2)))
def F_spec_MatrixOk : Int × Int × Int × List Int → Option Bool := fun ((m, x) : Int × Int × Int × List Int) => if sz_Matrix x ≤ 1048576 then some (matOk m x) else none
def F_impl_MatrixOk : Int × Int × Int × List Int → Option Bool := fun ((m, x) : Int × Int × Int × List Int) => if sz_Matrix x ≤ 1048576 then some (matOk m x) else none
def matsOk (m n : Int) (x : Int × Int × List Int) : Bool := matOk m x && (decide (x.1 = n) && decide (x.2.1 = n))
def autOk (x : Int × Int × List Int × List (Int × Int × List Int) × List Int) : Bool := match x with
 | (m, n, a, ms, b) => isPrimeI m && (decide (0 ≤ n ∧ n ≤ 12) && ((rowOk m a && decide ((a.length : Int) = n)) && ((rowOk m b && decide ((b.length : Int) = n)) && (decide (1 ≤ ms.length ∧ ms.length ≤ 4) && ms.all (matsOk m n)))))
def ag_impl_IsPrime : Sig := [(.one, [.int .i64])]
def rs_impl_IsPrime : Sig := [(.one, [.bool])]
def mu_impl_IsPrime : MSig := []
def ag_impl_inMod : Sig := [(.one, [.int .i64]), (.one, [.list [.int .i64]])]
def rs_impl_inMod : Sig := [(.one, [.bool])]
def mu_impl_inMod : MSig := []
def ag_impl_MatrixOk : Sig := [(.one, [.int .i64]), (.agg, [.int .i64, .int .i64, .list [.int .i64]])]
def rs_impl_MatrixOk : Sig := [(.one, [.bool])]
def mu_impl_MatrixOk : MSig := []
def G_impl_IsPrime (NN : Nat) : Int → (Option Bool) :=
 (fun (i0 : Int) =>
 cnd (ltI i0 (2 : Int))
 (some false)
 (cnd (ltI (1000003 : Int) i0)
 (some false)
 (joinK (loopT NN (fun ((i1, i2) : (Int × Int)) =>
 cnd (leI (mulI .i64 i2 i2) i1)
 ((remI i1 i2).bnd (fun i3 =>
 cnd (eqI i3 (0 : Int))
 (some (Sum.inr (Sum.inr false)))
 (some (Sum.inl (i1, addI .i64 i2 1)))))
 (some (Sum.inr (Sum.inl ()))))
 (i0, (2 : Int)))
 (fun _ =>
 some true))))

def G_impl_inMod (NN : Nat) : (Int × (List Int)) → (Option Bool) :=
 (fun ((i0, l1) : (Int × (List Int))) =>
 joinK (loopT NN (fun ((i2, l3, i4, i5) : (Int × ((List Int) × (Int × Int)))) =>
 cnd (ltI i5 i4)
 ((getI l3 i5).bnd (fun i6 =>
 cnd (ltI i6 (0 : Int))
 (some (Sum.inr (Sum.inr false)))
 (cnd (leI i2 i6)
 (some (Sum.inr (Sum.inr false)))
 (some (Sum.inl (i2, l3, i4, addI .i64 i5 1))))))
 (some (Sum.inr (Sum.inl ()))))
 (i0, l1, natI (lenN l1), (0 : Int)))
 (fun _ =>
 some true))

def G_impl_MatrixOk (NN : Nat) : (Int × (Int × (Int × (List Int)))) → (Option Bool) :=
 (fun ((i0, i1, i2, l3) : (Int × (Int × (Int × (List Int))))) =>
 (F_impl_IsPrime i0).bnd (fun b4 =>
 cnd (notB b4)
 (some false)
 (cnd (ltI i1 (0 : Int))
 (some false)
 (cnd (ltI i2 (0 : Int))
 (some false)
 (cnd (ltI (64 : Int) i1)
 (some false)
 (cnd (ltI (64 : Int) i2)
 (some false)
 (cnd (eqI (natI (lenN l3)) (mulI .i64 i1 i2))
 ((F_impl_inMod (i0, l3)).bnd (fun b5 =>
 some b5))
 (some false))))))))

theorem mulI_eq {a b : Int} (h1 : -9223372036854775808 ≤ a * b) (h2 : a * b ≤ 9223372036854775807) : mulI .i64 a b = a * b := wrap_id h1 h2
theorem remI_nat {n : Int} {i : Nat} (hn : 0 ≤ n) (hi : 0 < i) : remI n (i : Int) = some (n % (i : Int)) := by
 unfold remI
 rw [if_neg (by omega), Int.tmod_eq_emod_of_nonneg hn]
theorem sq_le {i j : Nat} (h : i ≤ j) : (i : Int) * i ≤ (j : Int) * j := by
 have := Nat.mul_le_mul h h
 exact_mod_cast this
theorem div_loop {X Y : Type} {f : X → Option (X ⊕ (Y ⊕ Bool))} (n : Int) (mk : Nat → X) (r : Y) (hn : n ≤ 1000003)
  (h1 : ∀ i : Nat, 2 ≤ i → i ≤ 1001 → (i : Int) * i ≤ n → n % (i : Int) = 0 → f (mk i) = some (.inr (.inr false)))
  (h2 : ∀ i : Nat, 2 ≤ i → i ≤ 1001 → (i : Int) * i ≤ n → n % (i : Int) ≠ 0 → f (mk i) = some (.inl (mk (i + 1))))
  (h3 : ∀ i : Nat, 2 ≤ i → i ≤ 1001 → ¬ (i : Int) * i ≤ n → f (mk i) = some (.inr (.inl r))) {x0 : X} (hx : x0 = mk 2) :
  loopT FUEL f x0 = some (if (List.range' 2 999).any (divAt n) = true then .inr false else .inl r) := by
 subst hx
 have key : ∀ (d i : Nat), 2 ≤ i → i + d = 1001 → ∀ N, d < N → loopT N f (mk i) = some (if (List.range' i d).any (divAt n) = true then .inr false else .inl r) := by
  intro d
  induction d with
  | zero =>
   intro i hi hd N hN
   obtain ⟨N, rfl⟩ : ∃ M, N = M + 1 := ⟨N - 1, by omega⟩
   have : i = 1001 := by omega
   subst this
   rw [loopT, h3 1001 (by omega) (by omega) (by omega)]
   rfl
  | succ d ih =>
   intro i hi hd N hN
   obtain ⟨N, rfl⟩ : ∃ M, N = M + 1 := ⟨N - 1, by omega⟩
   rw [List.range'_succ, List.any_cons]
   by_cases hle : (i : Int) * i ≤ n
   ·by_cases hm : n % (i : Int) = 0
    ·rw [loopT, h1 i hi (by omega) hle hm]
     simp [divAt, hle, hm]
    ·rw [loopT, h2 i hi (by omega) hle hm]
     simp only
     rw [ih (i + 1) (by omega) (by omega) N (by omega), show divAt n i = false by simp [divAt, hm], Bool.false_or]
   ·rw [loopT, h3 i hi (by omega) hle]
    have : (List.range' (i + 1) d).any (divAt n) = false := by
     rw [List.any_eq_false]
     intro j hj
     have := (List.mem_range'_1.1 hj).1
     have := sq_le (show i ≤ j by omega)
     simp only [divAt, Bool.and_eq_true, decide_eq_true_eq, not_and]
     intro h; omega
    simp only
    rw [this]
    simp [divAt, hle]
 exact key 999 2 (by omega) (by omega) FUEL (FUEL_gt (by omega))
theorem sq_le1001 {i : Nat} (h : i ≤ 1001) : 0 ≤ (i : Int) * i ∧ (i : Int) * i ≤ 1002001 := by
 have h1 := sq_le h
 have h0 := sq_le (Nat.zero_le i)
 omega
theorem f_impl_IsPrime (x : Int) (y : Bool) (h : F_impl_IsPrime x = some y) : G_impl_IsPrime FUEL x = some y := by
 rw [← h]
 simp only [F_impl_IsPrime, G_impl_IsPrime]
 by_cases h2 : x < 2
 ·rw [cnd_t (ltI_t h2), isPrimeI, decide_eq_false (by omega)]; rfl
 rw [cnd_f (ltI_f (by omega))]
 by_cases hx : 1000003 < x
 ·rw [cnd_t (ltI_t hx), isPrimeI, decide_eq_false (by omega)]; rfl
 rw [cnd_f (ltI_f (by omega))]
 rw [div_loop x (fun i => (x, (i : Int))) () (by omega) ?_ ?_ ?_ ?_]
 ·have hr : (2 ≤ x ∧ x ≤ 1000003) := by omega
  by_cases hd : (List.range' 2 999).any (divAt x) = true
  ·rw [if_pos hd, joinK_r, isPrimeI, hd]
   simp
  ·rw [if_neg hd, joinK_l, isPrimeI]
   simp [hd, hr]
 all_goals try simp only
 ·intro i h2 hi hle hm
  have hs := sq_le1001 hi
  rw [mulI_eq (by omega) (by omega), cnd_t (leI_t hle), remI_nat (by omega) (by omega), bnd_s, cnd_t (eqI_t hm)]
 ·intro i h2 hi hle hm
  have hs := sq_le1001 hi
  rw [mulI_eq (by omega) (by omega), cnd_t (leI_t hle), remI_nat (by omega) (by omega), bnd_s, cnd_f (eqI_f hm), addI_eq (by omega) (by omega)]
  rfl
 ·intro i h2 hi hle
  have hs := sq_le1001 hi
  rw [mulI_eq (by omega) (by omega), cnd_f (leI_f (by omega))]
 ·rfl
theorem f_impl_inMod (x : Int × List Int) (y : Bool) (h : F_impl_inMod x = some y) : G_impl_inMod FUEL x = some y := by
 obtain ⟨m, l⟩ := x
 simp only [F_impl_inMod] at h
 split at h
 ·rename_i hl
  rw [← h]
  simp only [G_impl_inMod]
  rw [loopT_all (mk := fun i => (m, l, natI (lenN l), (i : Int))) l (inB m) (Sum.inr false) (Sum.inl ()) ?_ ?_ ?_ ?_ (FUEL_gt (by omega))]
  ·unfold rowOk
   cases l.all (inB m) <;> rfl
  all_goals try simp only
  ·intro i a ha hp
   have hp := of_decide_eq_true hp
   rw [cnd_t (ltI_in ha), getI_nat, ha, bnd_s, cnd_f (ltI_f (by omega)), cnd_f (leI_f (by omega)), next_i ha (by omega)]
  ·intro i a ha hp
   have hp := of_decide_eq_false hp
   rw [cnd_t (ltI_in ha), getI_nat, ha, bnd_s]
   by_cases h0 : a < 0
   ·rw [cnd_t (ltI_t h0)]
   ·rw [cnd_f (ltI_f (by omega)), cnd_t (leI_t (by omega))]
  ·rw [cnd_f (ltI_end l)]
  ·rfl
 ·cases h
theorem isPrimeI_t {m : Int} (h : isPrimeI m = true) : 2 ≤ m ∧ m ≤ 1000003 := by
 simp only [isPrimeI, Bool.and_eq_true, decide_eq_true_eq] at h
 exact h.1
theorem f_impl_MatrixOk (x : Int × Int × Int × List Int) (y : Bool) (h : F_impl_MatrixOk x = some y) : G_impl_MatrixOk FUEL x = some y := by
 obtain ⟨m, r, c, l⟩ := x
 simp only [F_impl_MatrixOk] at h
 split at h
 ·rename_i hl
  rw [← h]
  have hl : l.length ≤ 1048576 := hl
  simp only [G_impl_MatrixOk, F_impl_IsPrime, bnd_s, matOk]
  cases hp : isPrimeI m with
  | false => rfl
  | true =>
   rw [cnd_f (by rfl), Bool.true_and]
   by_cases h1 : r < 0
   ·rw [cnd_t (ltI_t h1), decide_eq_false (by omega)]; rfl
   rw [cnd_f (ltI_f (by omega))]
   by_cases h2 : c < 0
   ·rw [cnd_t (ltI_t h2), decide_eq_false (p := 0 ≤ c ∧ c ≤ 64) (by omega)]; simp
   rw [cnd_f (ltI_f (by omega))]
   by_cases h3 : 64 < r
   ·rw [cnd_t (ltI_t h3), decide_eq_false (by omega)]; rfl
   rw [cnd_f (ltI_f (by omega))]
   by_cases h4 : 64 < c
   ·rw [cnd_t (ltI_t h4), decide_eq_false (p := 0 ≤ c ∧ c ≤ 64) (by omega)]; simp
   rw [cnd_f (ltI_f (by omega)), decide_eq_true (p := 0 ≤ r ∧ r ≤ 64) (by omega), decide_eq_true (p := 0 ≤ c ∧ c ≤ 64) (by omega), Bool.true_and, Bool.true_and]
   obtain ⟨r, rfl⟩ := natI_eq (z := r) (by omega)
   obtain ⟨c, rfl⟩ := natI_eq (z := c) (by omega)
   have hrc : r * c ≤ 64 * 64 := Nat.mul_le_mul (by omega) (by omega)
   have hrc' : (r : Int) * (c : Int) = ((r * c : Nat) : Int) := by norm_cast
   rw [mulI_eq (by omega) (by omega), show F_impl_inMod (m, l) = some (rowOk m l) from if_pos hl]
   by_cases h5 : (l.length : Int) = (r : Int) * c
   ·rw [cnd_t (show eqI (natI (lenN l)) _ = true from eqI_t h5), decide_eq_true h5]; rfl
   ·rw [cnd_f (show eqI (natI (lenN l)) _ = false from eqI_f h5), decide_eq_false h5]; rfl
 ·cases h
end Go.Am
end
section
namespace Go.Am
def ringOk : Int × Int × Int → Bool := fun ((k, p, n) : Int × Int × Int) =>
 if k = 1 then decide (p = 0 ∧ n = 0) else if k = 2 then isPrimeI p && decide (n = 0) else if k = 3 ∨ k = 4 ∨ k = 5 then decide ((1 ≤ p ∧ p ≤ 1000000) ∧ n = 0)
 else if k = 6 then decide (p = 0 ∧ 1 ≤ n ∧ n ≤ 20) else if k = 7 then isPrimeI p && decide (1 ≤ n ∧ n ≤ 6) else if k = 8 then isPrimeI p && decide (p ≠ 2 ∧ n = 0) else false
def widI : Int × Int × Int → Int := fun ((k, p, n) : Int × Int × Int) => if k = 7 then n else if k = 8 then 4 else 1
def widN (r : Int × Int × Int) : Nat := (widI r).toNat
def topI : Int × Int × Int → Int := fun ((k, p, n) : Int × Int × Int) => if k = 1 then 1 else if k = 3 ∨ k = 4 ∨ k = 5 then p else if k = 6 then 2 ^ n.toNat - 1 else p - 1
def inTop (t v : Int) : Bool := decide (0 ≤ v ∧ v ≤ t)
def elOk (r : Int × Int × Int) (x : List Int) : Bool := decide (x.length = widN r) && x.all (inTop (topI r))
def oneE : Int × Int × Int → List Int := fun ((k, p, n) : Int × Int × Int) => setL (repL (widN (k, p, n)) 0) 0 (if k = 4 then 0 else if k = 5 ∨ k = 6 then topI (k, p, n) else 1)
def sm : Nat → (Nat → Int) → Int
 | 0, _ => 0
 | n + 1, f => sm n f + f n
def kW (om : Bool) (x y : Nat → Int) (t i j : Nat) : Int := if i + j = t then x i * y j else if om = true ∧ i + j = t + 4 then -(x i * y j) else 0
def tab (w : Nat) (f : Nat → Int) : List Int := (List.range w).map f
def fnL (x : List Int) : Nat → Int := fun i => x.getD i 0
def cvE (p : Int) (om : Bool) (w : Nat) (x y : Nat → Int) : List Int := tab w fun t => sm w (fun i => sm w (fun j => kW om x y t i j)) % p
def opM : Int × Int × Int → Int → Int → Int := fun ((k, p, n) : Int × Int × Int) a b =>
 if k = 1 ∨ k = 6 then ((a.toNat &&& b.toNat : Nat) : Int) else if k = 2 then a * b % p else if k = 3 then min (a * b) p else if k = 4 then min (a + b) p else min a b
def mulE (r : Int × Int × Int) (x y : List Int) : List Int := if r.1 = 7 ∨ r.1 = 8 then cvE r.2.1 (decide (r.1 = 8)) (widN r) (fnL x) (fnL y) else [opM r (fnL x 0) (fnL y 0)]
theorem ring_cases {k p n : Int} (h : ringOk (k, p, n) = true) : (k = 1 ∧ p = 0 ∧ n = 0) ∨ (k = 2 ∧ isPrimeI p = true ∧ n = 0) ∨ (k = 3 ∧ (1 ≤ p ∧ p ≤ 1000000) ∧ n = 0) ∨ (k = 4 ∧ (1 ≤ p ∧ p ≤ 1000000) ∧ n = 0) ∨ (k = 5 ∧ (1 ≤ p ∧ p ≤ 1000000) ∧ n = 0) ∨
  (k = 6 ∧ p = 0 ∧ 1 ≤ n ∧ n ≤ 20) ∨ (k = 7 ∧ isPrimeI p = true ∧ 1 ≤ n ∧ n ≤ 6) ∨ (k = 8 ∧ isPrimeI p = true ∧ p ≠ 2 ∧ n = 0) := by
 simp only [ringOk] at h
 by_cases h1 : k = 1
 ·rw [if_pos h1] at h; exact .inl ⟨h1, by simpa using h⟩
 rw [if_neg h1] at h
 by_cases h2 : k = 2
 ·rw [if_pos h2] at h; simp at h; exact .inr (.inl ⟨h2, h⟩)
 rw [if_neg h2] at h
 by_cases h3 : k = 3 ∨ k = 4 ∨ k = 5
 ·rw [if_pos h3] at h
  simp only [decide_eq_true_eq] at h
  rcases h3 with h3 | h3 | h3
  ·exact .inr (.inr (.inl ⟨h3, h⟩))
  ·exact .inr (.inr (.inr (.inl ⟨h3, h⟩)))
  ·exact .inr (.inr (.inr (.inr (.inl ⟨h3, h⟩))))
 rw [if_neg h3] at h
 by_cases h4 : k = 6
 ·rw [if_pos h4] at h; simp at h; exact .inr (.inr (.inr (.inr (.inr (.inl ⟨h4, h⟩)))))
 rw [if_neg h4] at h
 by_cases h5 : k = 7
 ·rw [if_pos h5] at h; simp at h; exact .inr (.inr (.inr (.inr (.inr (.inr (.inl ⟨h5, h⟩))))))
 rw [if_neg h5] at h
 by_cases h6 : k = 8
 ·rw [if_pos h6] at h; simp at h; exact .inr (.inr (.inr (.inr (.inr (.inr (.inr ⟨h6, h⟩))))))
 rw [if_neg h6] at h
 cases h
theorem wid_bd {r : Int × Int × Int} (h : ringOk r = true) : widI r = (widN r : Int) ∧ 1 ≤ widN r ∧ widN r ≤ 6 := by
 obtain ⟨k, p, n⟩ := r
 rcases ring_cases h with ⟨rfl, rfl, rfl⟩ | ⟨rfl, hp, rfl⟩ | ⟨rfl, hp, rfl⟩ | ⟨rfl, hp, rfl⟩ | ⟨rfl, hp, rfl⟩ | ⟨rfl, rfl, hn⟩ | ⟨rfl, hp, hn⟩ | ⟨rfl, hp, hp2, rfl⟩
 ·simp [widN, widI]
 ·simp [widN, widI]
 ·simp [widN, widI]
 ·simp [widN, widI]
 ·simp [widN, widI]
 ·simp [widN, widI]
 ·simp [widN, widI]; omega
 ·simp [widN, widI]
theorem rep_set {w : Nat} {p : Int} (h : w = 1) : setL (repL w (0 : Int)) 0 p = [p] := by subst h; rfl
theorem tab_len (w : Nat) (f : Nat → Int) : (tab w f).length = w := by simp [tab]
theorem tab_get {w j : Nat} (f : Nat → Int) (h : j < w) : (tab w f)[j]? = some (f j) := by simp [tab, h]
theorem tab_congr {w : Nat} {f g : Nat → Int} (h : ∀ j, j < w → f j = g j) : tab w f = tab w g := List.map_congr_left fun j hj => h j (List.mem_range.1 hj)
theorem tab_set {w : Nat} (f : Nat → Int) (j : Nat) (v : Int) : (tab w f).set j v = tab w (fun i => if i = j then v else f i) := by
 apply List.ext_getElem?
 intro i
 by_cases hi : i < w
 ·rw [tab_get _ hi]
  by_cases hj : j = i
  ·subst hj
   rw [List.getElem?_set_self (by rw [tab_len]; exact hi), if_pos rfl]
  ·rw [List.getElem?_set_ne hj, tab_get _ hi, if_neg (fun e => hj e.symm)]
 ·rw [List.getElem?_eq_none (by rw [List.length_set, tab_len]; omega), List.getElem?_eq_none (by rw [tab_len]; omega)]
theorem fnL_get {x : List Int} {j : Nat} (h : j < x.length) : x[j]? = some (fnL x j) := by
 rw [List.getElem?_eq_getElem h]
 simp [fnL, List.getD_eq_getElem?_getD, List.getElem?_eq_getElem h]
theorem fnL_tab {w j : Nat} (f : Nat → Int) (h : j < w) : fnL (tab w f) j = f j := by simp [fnL, List.getD_eq_getElem?_getD, tab_get f h]
theorem tab_fnL {x : List Int} {w : Nat} (h : x.length = w) : tab w (fnL x) = x := by
 subst h
 apply List.ext_getElem?
 intro i
 by_cases hi : i < x.length
 ·rw [tab_get _ hi, fnL_get hi]
 ·rw [List.getElem?_eq_none (by rw [tab_len]; omega), List.getElem?_eq_none (by omega)]
theorem tab_rep (w : Nat) (c : Int) : repL w c = tab w fun _ => c := by
 apply List.ext_getElem?
 intro i
 by_cases hi : i < w
 ·rw [tab_get _ hi]; simp [repL, hi]
 ·rw [List.getElem?_eq_none (by simp [repL]; omega), List.getElem?_eq_none (by rw [tab_len]; omega)]
theorem el_len {r : Int × Int × Int} {x : List Int} (h : elOk r x = true) : x.length = widN r := by
 simp only [elOk, Bool.and_eq_true, decide_eq_true_eq] at h; exact h.1
theorem el_at {r : Int × Int × Int} {x : List Int} (h : elOk r x = true) {j : Nat} (hj : j < widN r) : 0 ≤ fnL x j ∧ fnL x j ≤ topI r := by
 simp only [elOk, Bool.and_eq_true, decide_eq_true_eq] at h
 have := List.all_eq_true.1 h.2 (fnL x j) (List.mem_of_getElem? (fnL_get (by rw [h.1]; exact hj)))
 simpa [inTop] using this
theorem el_one {r : Int × Int × Int} {x : List Int} (h : elOk r x = true) (hw : widN r = 1) : x = [fnL x 0] ∧ 0 ≤ fnL x 0 ∧ fnL x 0 ≤ topI r := by
 have hl := el_len h
 rw [hw] at hl
 match x, hl with
 | [a], _ => exact ⟨rfl, el_at h (j := 0) (by omega)⟩
theorem remI_pos {a p : Int} (ha : 0 ≤ a) (hp : 0 < p) : remI a p = some (a % p) := by
 obtain ⟨m, rfl⟩ := natI_eq (z := p) (by omega)
 exact remI_nat ha (by omega)
theorem sm_congr {f g : Nat → Int} : ∀ {n : Nat}, (∀ i, i < n → f i = g i) → sm n f = sm n g
 | 0, _ => rfl
 | n + 1, h => by simp only [sm]; rw [sm_congr (n := n) (fun i hi => h i (by omega)), h n (by omega)]
structure CfR (k p : Int) (w : Nat) : Prop where
 ck : k = 7 ∨ k = 8
 cp : 2 ≤ p ∧ p ≤ 1000003
 cw : 1 ≤ w ∧ w ≤ 6
 w8 : k = 8 → w = 4
theorem cf_of {k p n : Int} (h : ringOk (k, p, n) = true) (hk : k = 7 ∨ k = 8) : CfR k p (widN (k, p, n)) := by
 have hw := wid_bd h
 refine ⟨hk, ?_, hw.2, fun e => by subst e; rfl⟩
 rcases ring_cases h with ⟨rfl, rfl, rfl⟩ | ⟨rfl, hp, rfl⟩ | ⟨rfl, hp, rfl⟩ | ⟨rfl, hp, rfl⟩ | ⟨rfl, hp, rfl⟩ | ⟨rfl, rfl, hn⟩ | ⟨rfl, hp, hn⟩ | ⟨rfl, hp, hp2, rfl⟩
 all_goals first | exact isPrimeI_t hp | (exfalso; omega)
theorem mulE_1 {r : Int × Int × Int} {a b : Int} (h : ¬ (r.1 = 7 ∨ r.1 = 8)) : mulE r [a] [b] = [opM r a b] := by simp only [mulE]; rw [if_neg h]; rfl
theorem oneE_tab (k p n : Int) : oneE (k, p, n) = tab (widN (k, p, n)) fun j => if j = 0 then (if k = 4 then 0 else if k = 5 ∨ k = 6 then topI (k, p, n) else 1) else 0 := by
 simp only [oneE]
 rw [tab_rep]
 exact tab_set _ 0 _
end Go.Am
end
section
namespace Go.Am
def newOk (x : Int × Int) : Prop := (0 ≤ x.1 ∧ x.1 ≤ 4096) ∧ (0 ≤ x.2 ∧ x.2 ≤ 4096) ∧ x.1 * x.2 ≤ 1048576
instance (x : Int × Int) : Decidable (newOk x) := by unfold newOk; infer_instance
def F_spec_l31New : Int × Int → Option (Int × Int × List Int) := fun (x : Int × Int) => if newOk x then some (x.1, x.2, genD x.1.toNat x.2.toNat fun _ _ => 0) else none
def F_impl_emptyMatrix : Int × Int → Option (Int × Int × List Int) := fun (x : Int × Int) => if newOk x then some (x.1, x.2, genD x.1.toNat x.2.toNat fun _ _ => 0) else none
def F_impl_Matrix_at : (Int × Int × List Int) × Int × Int → Option Int := fun (x : (Int × Int × List Int) × Int × Int) =>
 if mOk x.1 ∧ (0 ≤ x.2.1 ∧ x.2.1 < x.1.1) ∧ (0 ≤ x.2.2 ∧ x.2.2 < x.1.2.1) then some (ofD x.1.2.1.toNat x.1.2.2 x.2.1.toNat x.2.2.toNat) else none
def F_impl_Matrix_set : (Int × Int × List Int) × Int × Int × Int → Option (List Int) := fun (x : (Int × Int × List Int) × Int × Int × Int) =>
 if mOk x.1 ∧ (0 ≤ x.2.1 ∧ x.2.1 < x.1.1) ∧ (0 ≤ x.2.2.1 ∧ x.2.2.1 < x.1.2.1) then some (genD x.1.1.toNat x.1.2.1.toNat (updM (ofD x.1.2.1.toNat x.1.2.2) x.2.1.toNat x.2.2.1.toNat x.2.2.2)) else none
def swapF (M : Nat → Nat → Int) (a b : Nat) : Nat → Nat → Int := fun i j => if i = a then M b j else if i = b then M a j else M i j
def F_spec_l31Swap : (Int × Int × List Int) × Int × Int → Option (List Int) := fun (x : (Int × Int × List Int) × Int × Int) =>
 if mOk x.1 ∧ (0 ≤ x.2.1 ∧ x.2.1 < x.1.1) ∧ (0 ≤ x.2.2 ∧ x.2.2 < x.1.1) then some (genD x.1.1.toNat x.1.2.1.toNat (swapF (ofD x.1.2.1.toNat x.1.2.2) x.2.1.toNat x.2.2.toNat)) else none
def F_impl_Matrix_swapRows : (Int × Int × List Int) × Int × Int → Option (List Int) := F_spec_l31Swap
def clearF (p : Int) (M : Nat → Nat → Int) (i k : Nat) (f : Int) : Nat → Nat → Int := fun a j => if a = i then (M i j + f * M k j) % p else M a j
def F_impl_Matrix_addRow : (Int × Int × List Int) × Int × Int × Int × Int → Option (List Int) := fun (x : (Int × Int × List Int) × Int × Int × Int × Int) =>
 if mOk x.1 ∧ pOk x.2.1 ∧ (0 ≤ x.2.2.1 ∧ x.2.2.1 < x.1.1) ∧ (0 ≤ x.2.2.2.1 ∧ x.2.2.2.1 < x.1.1) ∧ (0 ≤ x.2.2.2.2 ∧ x.2.2.2.2 ≤ x.2.1) ∧ allP x.2.1 x.1.2.2 then
  some (genD x.1.1.toNat x.1.2.1.toNat (clearF x.2.1 (ofD x.1.2.1.toNat x.1.2.2) x.2.2.1.toNat x.2.2.2.1.toNat x.2.2.2.2)) else none
def pivF (M : Nat → Nat → Int) (j : Nat) : Nat → Nat → Option Nat
 | 0, _ => none
 | d + 1, k => if M k j = 0 then pivF M j d (k + 1) else some k
def invG (p out x : Int) (n : Nat) : Int := if h : n = 0 then out else invG p (if n % 2 = 1 then out * x % p else out) (x * x % p) (n / 2)
termination_by n
decreasing_by omega
def F_spec_l31Inverse : Int × Int → Option Int := fun (x : Int × Int) => if pOk x.1 ∧ inP x.1 x.2 then some (invG x.1 1 x.2 (x.1 - 2).toNat) else none
def F_impl_rawInverse : Int × Int → Option Int := F_spec_l31Inverse
def F_impl_copyInts : List Int → Option (List Int) := fun (l : List Int) => if l.length ≤ 1099511627776 then some l else none
def F_impl_copyMatrix : Int × Int × List Int → Option (Int × Int × List Int) := fun (x : Int × Int × List Int) => if x.2.2.length ≤ 1099511627776 then some x else none
def turnF (M : Nat → Nat → Int) : Nat → Nat → Int := fun i j => M j i
def F_spec_l31Turn : Int × Int × List Int → Option (Int × Int × List Int) := fun (x : Int × Int × List Int) => if mOk x then some (x.2.1, x.1, genD x.2.1.toNat x.1.toNat (turnF (ofD x.2.1.toNat x.2.2))) else none
def F_impl_rawTranspose : Int × Int × List Int → Option (Int × Int × List Int) := F_spec_l31Turn
def mulOk (x : Int × (Int × Int × List Int) × (Int × Int × List Int)) : Prop := pOk x.1 ∧ mOk x.2.1 ∧ mOk x.2.2 ∧ x.2.1.2.1 = x.2.2.1 ∧ x.2.1.1 * x.2.2.2.1 ≤ 1048576 ∧ allP x.1 x.2.1.2.2 ∧ allP x.1 x.2.2.2.2
instance (x : Int × (Int × Int × List Int) × (Int × Int × List Int)) : Decidable (mulOk x) := by unfold mulOk; infer_instance
def F_spec_l31Mul : Int × (Int × Int × List Int) × (Int × Int × List Int) → Option (Int × Int × List Int) := fun (x : Int × (Int × Int × List Int) × (Int × Int × List Int)) =>
 if mulOk x then some (x.2.1.1, x.2.2.2.1, genD x.2.1.1.toNat x.2.2.2.1.toNat (mulF x.1 x.2.1.2.1.toNat (ofD x.2.1.2.1.toNat x.2.1.2.2) (ofD x.2.2.2.1.toNat x.2.2.2.2))) else none
def F_impl_rawMulMatrix : Int × (Int × Int × List Int) × (Int × Int × List Int) → Option (Int × Int × List Int) := F_spec_l31Mul
def ag_spec_l31New : Sig := [(.one, [.int .i64]), (.one, [.int .i64])]
def rs_spec_l31New : Sig := [(.agg, [.int .i64, .int .i64, .list [.int .i64]])]
def mu_spec_l31New : MSig := []
def ag_impl_emptyMatrix : Sig := [(.one, [.int .i64]), (.one, [.int .i64])]
def rs_impl_emptyMatrix : Sig := [(.agg, [.int .i64, .int .i64, .list [.int .i64]])]
def mu_impl_emptyMatrix : MSig := []
def ag_impl_copyInts : Sig := [(.one, [.list [.int .i64]])]
def rs_impl_copyInts : Sig := [(.one, [.list [.int .i64]])]
def mu_impl_copyInts : MSig := []
def ag_impl_copyMatrix : Sig := [(.agg, [.int .i64, .int .i64, .list [.int .i64]])]
def rs_impl_copyMatrix : Sig := [(.agg, [.int .i64, .int .i64, .list [.int .i64]])]
def mu_impl_copyMatrix : MSig := []
def ag_impl_Matrix_at : Sig := [(.agg, [.int .i64, .int .i64, .list [.int .i64]]), (.one, [.int .i64]), (.one, [.int .i64])]
def rs_impl_Matrix_at : Sig := [(.one, [.int .i64])]
def mu_impl_Matrix_at : MSig := []
def ag_impl_Matrix_set : Sig := [(.agg, [.int .i64, .int .i64, .list [.int .i64]]), (.one, [.int .i64]), (.one, [.int .i64]), (.one, [.int .i64])]
def rs_impl_Matrix_set : Sig := [(.one, [.list [.int .i64]])]
def mu_impl_Matrix_set : MSig := [[none, none, some .froz]]
def ag_impl_Matrix_swapRows : Sig := [(.agg, [.int .i64, .int .i64, .list [.int .i64]]), (.one, [.int .i64]), (.one, [.int .i64])]
def rs_impl_Matrix_swapRows : Sig := [(.one, [.list [.int .i64]])]
def mu_impl_Matrix_swapRows : MSig := [[none, none, some .froz]]
def ag_impl_Matrix_addRow : Sig := [(.agg, [.int .i64, .int .i64, .list [.int .i64]]), (.one, [.int .i64]), (.one, [.int .i64]), (.one, [.int .i64]), (.one, [.int .i64])]
def rs_impl_Matrix_addRow : Sig := [(.one, [.list [.int .i64]])]
def mu_impl_Matrix_addRow : MSig := [[none, none, some .froz]]
def ag_impl_rawInverse : Sig := [(.one, [.int .i64]), (.one, [.int .i64])]
def rs_impl_rawInverse : Sig := [(.one, [.int .i64])]
def mu_impl_rawInverse : MSig := []
def ag_impl_rawTranspose : Sig := [(.agg, [.int .i64, .int .i64, .list [.int .i64]])]
def rs_impl_rawTranspose : Sig := [(.agg, [.int .i64, .int .i64, .list [.int .i64]])]
def mu_impl_rawTranspose : MSig := []
def ag_impl_rawMulMatrix : Sig := [(.one, [.int .i64]), (.agg, [.int .i64, .int .i64, .list [.int .i64]]), (.agg, [.int .i64, .int .i64, .list [.int .i64]])]
def rs_impl_rawMulMatrix : Sig := [(.agg, [.int .i64, .int .i64, .list [.int .i64]])]
def mu_impl_rawMulMatrix : MSig := []
def G_spec_l31New (NN : Nat) : (Int × Int) → (Option (Int × (Int × (List Int)))) :=
 (fun ((i0, i1) : (Int × Int)) =>
 (mkI (mulI .i64 i0 i1) (mulI .i64 i0 i1) 8).bnd (fun k2 =>
 (takI (repL k2 (0 : Int)) k2).bnd (fun l3 =>
 some (i0, i1, l3))))

def G_impl_emptyMatrix (NN : Nat) : (Int × Int) → (Option (Int × (Int × (List Int)))) :=
 (fun ((i0, i1) : (Int × Int)) =>
 (mkI (mulI .i64 i0 i1) (mulI .i64 i0 i1) 8).bnd (fun k2 =>
 (takI (repL k2 (0 : Int)) k2).bnd (fun l3 =>
 some (i0, i1, l3))))

def G_impl_copyInts (NN : Nat) : (List Int) → (Option (List Int)) :=
 (fun (l0 : (List Int)) =>
 (fitI (addN (lenN (([] : List Int))) (lenN l0)) 8).bnd (fun _ =>
 (takI (appL (([] : List Int)) l0) (addN (lenN (([] : List Int))) (lenN l0))).bnd (fun l1 =>
 some l1)))

def G_impl_copyMatrix (NN : Nat) : (Int × (Int × (List Int))) → (Option (Int × (Int × (List Int)))) :=
 (fun ((i0, i1, l2) : (Int × (Int × (List Int)))) =>
 (F_impl_copyInts l2).bnd (fun l3 =>
 (takI l3 (lenN l3)).bnd (fun l4 =>
 some (i0, i1, l4))))

def G_impl_Matrix_at (NN : Nat) : ((Int × (Int × (List Int))) × (Int × Int)) → (Option Int) :=
 (fun (((i0, i1, l2), i3, i4) : ((Int × (Int × (List Int))) × (Int × Int))) =>
 (getI l2 (addI .i64 (mulI .i64 i3 i1) i4)).bnd (fun i5 =>
 some i5))

def G_impl_Matrix_set (NN : Nat) : ((Int × (Int × (List Int))) × (Int × (Int × Int))) → (Option (List Int)) :=
 (fun (((i0, i1, l2), i3, i4, i5) : ((Int × (Int × (List Int))) × (Int × (Int × Int)))) =>
 (chkI (addI .i64 (mulI .i64 i3 i1) i4) (lenN l2)).bnd (fun k6 =>
 (getN l2 (addN 0 k6)).bnd (fun i7 =>
 (samI (lenN (setL l2 (addN 0 k6) i5)) (lenN l2)).bnd (fun _ =>
 some (setL l2 (addN 0 k6) i5)))))

def G_impl_Matrix_swapRows (NN : Nat) : ((Int × (Int × (List Int))) × (Int × Int)) → (Option (List Int)) :=
 (fun (((i0, i1, l2), i3, i4) : ((Int × (Int × (List Int))) × (Int × Int))) =>
 (fulI 0 (lenN l2) (lenN l2)).bnd (fun _ =>
 loopT NN (fun (((i5, i6, i7), l8, i9, i10) : ((Int × (Int × Int)) × ((List Int) × (Int × Int)))) =>
 cnd (ltI i7 i10)
 ((winI l8 0 (lenN l8)).bnd (fun l11 =>
 (F_impl_Matrix_at ((i9, i10, l11), i5, i7)).bnd (fun i12 =>
 (winI l8 0 (lenN l8)).bnd (fun l13 =>
 (F_impl_Matrix_at ((i9, i10, l13), i6, i7)).bnd (fun i14 =>
 (fulI 0 (lenN l8) (lenN l8)).bnd (fun _ =>
 (F_impl_Matrix_set ((i9, i10, l8), i5, i7, i14)).bnd (fun l15 =>
 (fulI 0 (lenN l8) (lenN l15)).bnd (fun _ =>
 (F_impl_Matrix_set ((i9, i10, l15), i6, i7, i12)).bnd (fun l16 =>
 (fulI 0 (lenN l8) (lenN l16)).bnd (fun _ =>
 some (Sum.inl ((i5, i6, addI .i64 i7 1), l16, i9, i10))))))))))))
 (((samI (lenN l8) (lenN l2)).bnd (fun _ =>
 some l8)).bnd (fun l17 =>
 some (Sum.inr l17))))
 ((i3, i4, (0 : Int)), l2, i0, i1)))

def G_impl_Matrix_addRow (NN : Nat) : ((Int × (Int × (List Int))) × (Int × (Int × (Int × Int)))) → (Option (List Int)) :=
 (fun (((i0, i1, l2), i3, i4, i5, i6) : ((Int × (Int × (List Int))) × (Int × (Int × (Int × Int))))) =>
 (fulI 0 (lenN l2) (lenN l2)).bnd (fun _ =>
 loopT NN (fun (((i7, i8, i9, i10, i11), l12, i13, i14) : ((Int × (Int × (Int × (Int × Int)))) × ((List Int) × (Int × Int)))) =>
 cnd (ltI i11 i14)
 ((winI l12 0 (lenN l12)).bnd (fun l15 =>
 (F_impl_Matrix_at ((i13, i14, l15), i8, i11)).bnd (fun i16 =>
 (winI l12 0 (lenN l12)).bnd (fun l17 =>
 (F_impl_Matrix_at ((i13, i14, l17), i9, i11)).bnd (fun i18 =>
 (remI (addI .i64 i16 (mulI .i64 i10 i18)) i7).bnd (fun i19 =>
 (fulI 0 (lenN l12) (lenN l12)).bnd (fun _ =>
 (F_impl_Matrix_set ((i13, i14, l12), i8, i11, i19)).bnd (fun l20 =>
 (fulI 0 (lenN l12) (lenN l20)).bnd (fun _ =>
 some (Sum.inl ((i7, i8, i9, i10, addI .i64 i11 1), l20, i13, i14)))))))))))
 (((samI (lenN l12) (lenN l2)).bnd (fun _ =>
 some l12)).bnd (fun l21 =>
 some (Sum.inr l21))))
 ((i3, i4, i5, i6, (0 : Int)), l2, i0, i1)))

def G_impl_rawInverse (NN : Nat) : (Int × Int) → (Option Int) :=
 (fun ((i0, i1) : (Int × Int)) =>
 joinK (loopT NN (fun ((i2, i3, i4, i5) : (Int × (Int × (Int × Int)))) =>
 cnd (ltI (0 : Int) i5)
 (joinK (cnd (eqI (andI .i64 i5 (1 : Int)) (1 : Int))
 ((remI (mulI .i64 i4 i3) i2).bnd (fun i6 =>
 some (Sum.inl (i3, i5, i2, i6))))
 (some (Sum.inl (i3, i5, i2, i4))))
 (fun (i7, i8, i9, i10) =>
 (remI (mulI .i64 i7 i7) i9).bnd (fun i11 =>
 (shrI .i64 i8 (1 : Int)).bnd (fun i12 =>
 some (Sum.inl (i9, i11, i10, i12))))))
 (some (Sum.inr (Sum.inl i4))))
 (i0, i1, (1 : Int), subI .i64 i0 2))
 (fun i13 =>
 some i13))

def G_impl_rawTranspose (NN : Nat) : (Int × (Int × (List Int))) → (Option (Int × (Int × (List Int)))) :=
 (fun ((i0, i1, l2) : (Int × (Int × (List Int)))) =>
 (F_impl_emptyMatrix (i1, i0)).bnd (fun (i3, i4, l5) =>
 joinK ((fulI 0 0 (lenN (([] : List Int)))).bnd (fun _ =>
 (fulI 0 (lenN l5) (lenN l5)).bnd (fun _ =>
 loopT NN (fun ((i6, (i7, i8, l9), (i10, i11), (i12, i13), l14, l15) : (Int × ((Int × (Int × (List Int))) × ((Int × Int) × ((Int × Int) × ((List Int) × (List Int))))))) =>
 cnd (ltI i6 i7)
 (joinK ((fulI 0 (lenN l14) (lenN l14)).bnd (fun _ =>
 (fulI 0 (lenN l15) (lenN l15)).bnd (fun _ =>
 loopT NN (fun (((i16, i17), (i18, i19, l20), (i21, i22), (i23, i24), l25, l26) : ((Int × Int) × ((Int × (Int × (List Int))) × ((Int × Int) × ((Int × Int) × ((List Int) × (List Int))))))) =>
 cnd (ltI i17 i19)
 ((F_impl_Matrix_at ((i18, i19, l20), i16, i17)).bnd (fun i27 =>
 (fulI 0 (lenN l26) (lenN l26)).bnd (fun _ =>
 (F_impl_Matrix_set ((i23, i24, l26), i17, i16, i27)).bnd (fun l28 =>
 (fulI 0 (lenN l25) (lenN l25)).bnd (fun _ =>
 (fulI 0 (lenN l26) (lenN l28)).bnd (fun _ =>
 some (Sum.inl ((i16, addI .i64 i17 1), (i18, i19, l20), (i21, i22), (i23, i24), l25, l28))))))))
 (((fulI 0 (lenN l25) (lenN l25)).bnd (fun _ =>
 (fulI 0 (lenN l26) (lenN l26)).bnd (fun _ =>
 some (Sum.inl (i16, (i18, i19, l20), (i21, i22), (i23, i24), l25, l26))))).bnd (fun l29 =>
 some (Sum.inr l29))))
 ((i6, (0 : Int)), (i7, i8, l9), (i10, i11), (i12, i13), l14, l15))))
 (fun (i30, (i31, i32, l33), (i34, i35), (i36, i37), l38, l39) =>
 (fulI 0 (lenN l38) (lenN l38)).bnd (fun _ =>
 (fulI 0 (lenN l39) (lenN l39)).bnd (fun _ =>
 some (Sum.inl (addI .i64 i30 1, (i31, i32, l33), (i34, i35), (i36, i37), l38, l39))))))
 (((fulI 0 (lenN l14) (lenN l14)).bnd (fun _ =>
 (fulI 0 (lenN l15) (lenN l15)).bnd (fun _ =>
 some (Sum.inl ((i10, i11), (i12, i13), l14, l15))))).bnd (fun l40 =>
 some (Sum.inr l40))))
 ((0 : Int), (i0, i1, l2), ((0 : Int), (0 : Int)), (i3, i4), ([] : List Int), l5))))
 (fun ((i41, i42), (i43, i44), l45, l46) =>
 (takI l46 (lenN l46)).bnd (fun l47 =>
 some (i43, i44, l47)))))

def G_impl_rawMulMatrix (NN : Nat) : (Int × ((Int × (Int × (List Int))) × (Int × (Int × (List Int))))) → (Option (Int × (Int × (List Int)))) :=
 (fun ((i0, (i1, i2, l3), i4, i5, l6) : (Int × ((Int × (Int × (List Int))) × (Int × (Int × (List Int)))))) =>
 (F_impl_emptyMatrix (i1, i5)).bnd (fun (i7, i8, l9) =>
 joinK ((fulI 0 0 (lenN (([] : List Int)))).bnd (fun _ =>
 (fulI 0 (lenN l9) (lenN l9)).bnd (fun _ =>
 loopT NN (fun (((i10, i11), (i12, i13, l14), (i15, i16, l17), (i18, i19), (i20, i21), l22, l23) : ((Int × Int) × ((Int × (Int × (List Int))) × ((Int × (Int × (List Int))) × ((Int × Int) × ((Int × Int) × ((List Int) × (List Int)))))))) =>
 cnd (ltI i11 i12)
 (joinK ((fulI 0 (lenN l22) (lenN l22)).bnd (fun _ =>
 (fulI 0 (lenN l23) (lenN l23)).bnd (fun _ =>
 loopT NN (fun (((i24, i25, i26), (i27, i28, l29), (i30, i31, l32), (i33, i34), (i35, i36), l37, l38) : ((Int × (Int × Int)) × ((Int × (Int × (List Int))) × ((Int × (Int × (List Int))) × ((Int × Int) × ((Int × Int) × ((List Int) × (List Int)))))))) =>
 cnd (ltI i26 i31)
 (joinK (joinK ((fulI 0 (lenN l37) (lenN l37)).bnd (fun _ =>
 (fulI 0 (lenN l38) (lenN l38)).bnd (fun _ =>
 loopT NN (fun (((i39, i40, i41, i42, i43), (i44, i45, l46), (i47, i48, l49), (i50, i51), (i52, i53), l54, l55) : ((Int × (Int × (Int × (Int × Int)))) × ((Int × (Int × (List Int))) × ((Int × (Int × (List Int))) × ((Int × Int) × ((Int × Int) × ((List Int) × (List Int)))))))) =>
 cnd (ltI i43 i45)
 ((F_impl_Matrix_at ((i44, i45, l46), i40, i43)).bnd (fun i56 =>
 (F_impl_Matrix_at ((i47, i48, l49), i43, i41)).bnd (fun i57 =>
 (remI (addI .i64 i42 (mulI .i64 i56 i57)) i39).bnd (fun i58 =>
 (fulI 0 (lenN l54) (lenN l54)).bnd (fun _ =>
 (fulI 0 (lenN l55) (lenN l55)).bnd (fun _ =>
 some (Sum.inl ((i39, i40, i41, i58, addI .i64 i43 1), (i44, i45, l46), (i47, i48, l49), (i50, i51), (i52, i53), l54, l55))))))))
 (((fulI 0 (lenN l54) (lenN l54)).bnd (fun _ =>
 (fulI 0 (lenN l55) (lenN l55)).bnd (fun _ =>
 some (Sum.inl ((i42, i41, i39, i40), (i44, i45, l46), (i47, i48, l49), (i50, i51), (i52, i53), l54, l55))))).bnd (fun l59 =>
 some (Sum.inr l59))))
 ((i24, i25, i26, (0 : Int), (0 : Int)), (i27, i28, l29), (i30, i31, l32), (i33, i34), (i35, i36), l37, l38))))
 (fun ((i60, i61, i62, i63), (i64, i65, l66), (i67, i68, l69), (i70, i71), (i72, i73), l74, l75) =>
 (fulI 0 (lenN l75) (lenN l75)).bnd (fun _ =>
 (F_impl_Matrix_set ((i72, i73, l75), i63, i61, i60)).bnd (fun l76 =>
 (fulI 0 (lenN l74) (lenN l74)).bnd (fun _ =>
 (fulI 0 (lenN l75) (lenN l76)).bnd (fun _ =>
 some (Sum.inl ((i61, i62, i63), (i64, i65, l66), (i67, i68, l69), (i70, i71), (i72, i73), l74, l76))))))))
 (fun ((i77, i78, i79), (i80, i81, l82), (i83, i84, l85), (i86, i87), (i88, i89), l90, l91) =>
 (fulI 0 (lenN l90) (lenN l90)).bnd (fun _ =>
 (fulI 0 (lenN l91) (lenN l91)).bnd (fun _ =>
 some (Sum.inl ((i78, i79, addI .i64 i77 1), (i80, i81, l82), (i83, i84, l85), (i86, i87), (i88, i89), l90, l91))))))
 (((fulI 0 (lenN l37) (lenN l37)).bnd (fun _ =>
 (fulI 0 (lenN l38) (lenN l38)).bnd (fun _ =>
 some (Sum.inl ((i25, i24), (i27, i28, l29), (i30, i31, l32), (i33, i34), (i35, i36), l37, l38))))).bnd (fun l92 =>
 some (Sum.inr l92))))
 ((i10, i11, (0 : Int)), (i12, i13, l14), (i15, i16, l17), (i18, i19), (i20, i21), l22, l23))))
 (fun ((i93, i94), (i95, i96, l97), (i98, i99, l100), (i101, i102), (i103, i104), l105, l106) =>
 (fulI 0 (lenN l105) (lenN l105)).bnd (fun _ =>
 (fulI 0 (lenN l106) (lenN l106)).bnd (fun _ =>
 some (Sum.inl ((i94, addI .i64 i93 1), (i95, i96, l97), (i98, i99, l100), (i101, i102), (i103, i104), l105, l106))))))
 (((fulI 0 (lenN l22) (lenN l22)).bnd (fun _ =>
 (fulI 0 (lenN l23) (lenN l23)).bnd (fun _ =>
 some (Sum.inl ((i18, i19), (i20, i21), l22, l23))))).bnd (fun l107 =>
 some (Sum.inr l107))))
 ((i0, (0 : Int)), (i1, i2, l3), (i4, i5, l6), ((0 : Int), (0 : Int)), (i7, i8), ([] : List Int), l9))))
 (fun ((i108, i109), (i110, i111), l112, l113) =>
 (takI l113 (lenN l113)).bnd (fun l114 =>
 some (i110, i111, l114)))))


theorem newOk_nat {r c : Nat} (hr : r ≤ 4096) (hc : c ≤ 4096) (h : r * c ≤ 1048576) : newOk ((r : Int), (c : Int)) := by
 refine ⟨⟨by omega, by show (r : Int) ≤ 4096; omega⟩, ⟨by show (0 : Int) ≤ c; omega, by show (c : Int) ≤ 4096; omega⟩, ?_⟩
 show (r : Int) * (c : Int) ≤ 1048576
 have e : (r : Int) * (c : Int) = ((r * c : Nat) : Int) := by norm_cast
 omega
theorem newOk_gen {x : Int × Int} (h : newOk x) : ∃ r c : Nat, x = ((r : Int), (c : Int)) ∧ r ≤ 4096 ∧ c ≤ 4096 ∧ r * c ≤ 1048576 := by
 obtain ⟨r, c⟩ := x
 obtain ⟨h1, h2, h3⟩ := h
 simp only at h1 h2 h3
 obtain ⟨r, rfl⟩ := natI_eq h1.1
 obtain ⟨c, rfl⟩ := natI_eq h2.1
 have e : (r : Int) * (c : Int) = ((r * c : Nat) : Int) := by norm_cast
 exact ⟨r, c, rfl, by omega, by omega, by omega⟩
theorem new_nat {r c : Nat} (hr : r ≤ 4096) (hc : c ≤ 4096) (h : r * c ≤ 1048576) : F_spec_l31New ((r : Int), (c : Int)) = some ((r : Int), (c : Int), genD r c fun _ _ => 0) := by
 simp only [F_spec_l31New, Int.toNat_natCast]
 rw [if_pos (newOk_nat hr hc h)]
theorem newI_nat {r c : Nat} (hr : r ≤ 4096) (hc : c ≤ 4096) (h : r * c ≤ 1048576) : F_impl_emptyMatrix ((r : Int), (c : Int)) = some ((r : Int), (c : Int), genD r c fun _ _ => 0) := new_nat hr hc h
theorem g_new {r c : Nat} (hr : r ≤ 4096) (hc : c ≤ 4096) (h : r * c ≤ 1048576) : G_spec_l31New FUEL ((r : Int), (c : Int)) = some ((r : Int), (c : Int), genD r c fun _ _ => 0) := by
 simp only [G_spec_l31New]
 rw [mulN (by omega) (by omega)]
 have := mkI_nat (n := r * c) (by_ := 8) (by unfold maxBytes; omega)
 rw [show ((r * c : Nat) : Int) = natI (r * c) from rfl, this, bnd_s, genD_rep]
 rw [show takI (genD r c fun _ _ => 0) (r * c) = some (genD r c fun _ _ => 0) by
  have := takI_id (genD r c fun _ _ => (0 : Int))
  rwa [lenN_gen] at this]
 rfl
theorem f_spec_l31New (x : Int × Int) (y : Int × Int × List Int) (h : F_spec_l31New x = some y) : G_spec_l31New FUEL x = some y := by
 simp only [F_spec_l31New] at h
 split at h
 ·rename_i hc
  obtain ⟨r, c, rfl, h1, h2, h3⟩ := newOk_gen hc
  rw [← h, g_new h1 h2 h3]; rfl
 ·cases h
theorem f_impl_emptyMatrix (x : Int × Int) (y : Int × Int × List Int) (h : F_impl_emptyMatrix x = some y) : G_impl_emptyMatrix FUEL x = some y := f_spec_l31New x y h
theorem f_impl_copyInts (x y : List Int) (h : F_impl_copyInts x = some y) : G_impl_copyInts FUEL x = some y := by
 simp only [F_impl_copyInts] at h
 split at h
 ·rename_i hl
  rw [← h]
  simp only [G_impl_copyInts]
  rw [fitI_ok (by simp only [addN, lenN, List.length_nil, maxBytes]; omega), bnd_s]
  have : appL [] x = x := rfl
  rw [this, show addN (lenN ([] : List Int)) (lenN x) = lenN x by simp [addN, lenN], takI_id]
  rfl
 ·cases h
theorem f_impl_copyMatrix (x y : Int × Int × List Int) (h : F_impl_copyMatrix x = some y) : G_impl_copyMatrix FUEL x = some y := by
 obtain ⟨r, c, l⟩ := x
 simp only [F_impl_copyMatrix] at h
 split at h
 ·rename_i hl
  rw [← h]
  simp only [G_impl_copyMatrix, F_impl_copyInts, if_pos hl, bnd_s, takI_id]
 ·cases h
theorem natP {a b : Int} (h : 0 ≤ a ∧ a < b) : ∃ n : Nat, a = (n : Int) ∧ ∀ m : Nat, b = (m : Int) → n < m := ⟨a.toNat, by omega, fun m hm => by omega⟩
theorem g_at {r c i j : Nat} {M : Nat → Nat → Int} (hr : r ≤ 4096) (hc : c ≤ 4096) (hi : i < r) (hj : j < c) : G_impl_Matrix_at FUEL (((r : Int), (c : Int), genD r c M), (i : Int), (j : Int)) = some (M i j) := by
 simp only [G_impl_Matrix_at]
 rw [idxI (by omega) (by omega) (by omega), getI_gen M hi hj]; rfl
theorem at_nat {r c i j : Nat} {M : Nat → Nat → Int} (hr : r ≤ 4096) (hc : c ≤ 4096) (h : r * c ≤ 1048576) (hi : i < r) (hj : j < c) : F_impl_Matrix_at (((r : Int), (c : Int), genD r c M), (i : Int), (j : Int)) = some (M i j) := by
 simp only [F_impl_Matrix_at, Int.toNat_natCast]
 rw [if_pos ⟨mOk_mk M hr hc h, by omega, by omega⟩]
 rw [ofD_gen M hi hj]
theorem f_impl_Matrix_at (x : (Int × Int × List Int) × Int × Int) (y : Int) (h : F_impl_Matrix_at x = some y) : G_impl_Matrix_at FUEL x = some y := by
 obtain ⟨m, i, j⟩ := x
 simp only [F_impl_Matrix_at] at h
 split at h
 ·rename_i hc
  obtain ⟨h1, h2, h3⟩ := hc
  obtain ⟨r, c, M, rfl, hr, hc, hrc⟩ := mOk_gen h1
  obtain ⟨i, rfl, hi⟩ := natP h2
  obtain ⟨j, rfl, hj⟩ := natP h3
  have hi := hi r rfl; have hj := hj c rfl
  rw [← h, g_at hr hc hi hj]
  exact congrArg some (ofD_gen M hi hj).symm
 ·cases h
theorem g_set {r c i j : Nat} {M : Nat → Nat → Int} {x : Int} (hr : r ≤ 4096) (hc : c ≤ 4096) (hi : i < r) (hj : j < c) : G_impl_Matrix_set FUEL (((r : Int), (c : Int), genD r c M), (i : Int), (j : Int), x) = some (genD r c (updM M i j x)) := by
 simp only [G_impl_Matrix_set]
 rw [idxI (by omega) (by omega) (by omega), chkI_gen M hi hj, bnd_s, addN_0, getN_gen M hi hj, bnd_s, setL_gen M hj, samI_gen, bnd_s]
theorem set_nat {r c i j : Nat} {M : Nat → Nat → Int} {x : Int} (hr : r ≤ 4096) (hc : c ≤ 4096) (h : r * c ≤ 1048576) (hi : i < r) (hj : j < c) : F_impl_Matrix_set (((r : Int), (c : Int), genD r c M), (i : Int), (j : Int), x) = some (genD r c (updM M i j x)) := by
 simp only [F_impl_Matrix_set, Int.toNat_natCast]
 rw [if_pos ⟨mOk_mk M hr hc h, by omega, by omega⟩]
 refine (congrArg some (genD_congr fun a ha b hb => ?_))
 unfold updM
 rw [ofD_gen M ha hb]
theorem f_impl_Matrix_set (x : (Int × Int × List Int) × Int × Int × Int) (y : List Int) (h : F_impl_Matrix_set x = some y) : G_impl_Matrix_set FUEL x = some y := by
 obtain ⟨m, i, j, v⟩ := x
 have h0 := h
 simp only [F_impl_Matrix_set] at h
 split at h
 ·rename_i hc
  obtain ⟨h1, h2, h3⟩ := hc
  obtain ⟨r, c, M, rfl, hr, hc, hrc⟩ := mOk_gen h1
  obtain ⟨i, rfl, hi⟩ := natP h2
  obtain ⟨j, rfl, hj⟩ := natP h3
  have hi := hi r rfl; have hj := hj c rfl
  rw [← h0, g_set hr hc hi hj, set_nat hr hc hrc hi hj]
 ·cases h
def swapTo (M : Nat → Nat → Int) (a b k : Nat) : Nat → Nat → Int := fun i j => if j < k then swapF M a b i j else M i j
theorem swapTo_0 (M : Nat → Nat → Int) (a b : Nat) : swapTo M a b 0 = M := by funext i j; exact if_neg (by omega)
theorem swap_step {r c : Nat} (M : Nat → Nat → Int) (a b k : Nat) : genD r c (updM (updM (swapTo M a b k) a k (M b k)) b k (M a k)) = genD r c (swapTo M a b (k + 1)) := by
 refine genD_congr fun i _ j _ => ?_
 unfold updM swapTo swapF
 by_cases hj : j = k
 ·subst hj
  by_cases hb : i = b
  ·by_cases ha : i = a
   ·subst hb; subst ha; simp
   ·have : b ≠ a := fun e => ha (hb.trans e)
    simp [hb, this]
  ·by_cases ha : i = a
   ·have : a ≠ b := fun e => hb (ha.trans e)
    simp [ha, this]
   ·simp [ha, hb]
 ·have h1 : ¬ (i = b ∧ j = k) := fun h => hj h.2
  have h2 : ¬ (i = a ∧ j = k) := fun h => hj h.2
  rw [if_neg h1, if_neg h2]
  by_cases hk : j < k
  ·simp only [if_pos hk, if_pos (show j < k + 1 by omega)]
  ·simp only [if_neg hk, if_neg (show ¬ j < k + 1 by omega)]
theorem swapTo_end {r c : Nat} (M : Nat → Nat → Int) (a b : Nat) : genD r c (swapTo M a b c) = genD r c (swapF M a b) := genD_congr fun i _ j hj => if_pos hj
theorem swapTo_old (M : Nat → Nat → Int) (a b k i : Nat) : swapTo M a b k i k = M i k := if_neg (by omega)
theorem swap_nat {r c a b : Nat} {M : Nat → Nat → Int} (hr : r ≤ 4096) (hc : c ≤ 4096) (h : r * c ≤ 1048576) (ha : a < r) (hb : b < r) : F_spec_l31Swap (((r : Int), (c : Int), genD r c M), (a : Int), (b : Int)) = some (genD r c (swapF M a b)) := by
 simp only [F_spec_l31Swap, Int.toNat_natCast]
 rw [if_pos ⟨mOk_mk M hr hc h, by omega, by omega⟩]
 refine (congrArg some (genD_congr fun i hi j hj => ?_))
 unfold swapF
 rw [ofD_gen M hb hj, ofD_gen M ha hj, ofD_gen M hi hj]
theorem g_swapI {r c a b : Nat} {M : Nat → Nat → Int} (hr : r ≤ 4096) (hc : c ≤ 4096) (h : r * c ≤ 1048576) (ha : a < r) (hb : b < r) : G_impl_Matrix_swapRows FUEL (((r : Int), (c : Int), genD r c M), (a : Int), (b : Int)) = some (genD r c (swapF M a b)) := by
 simp only [G_impl_Matrix_swapRows, fulI_id, bnd_s, winI_id]
 refine loopT_seq (fun k => (((a : Int), (b : Int), (k : Int)), genD r c (swapTo M a b k), (r : Int), (c : Int))) c ?_ ?_ ?_ (FUEL_gt (by omega))
 ·intro k hk
  simp only
  rw [cnd_t (ltN_t hk)]
  simp only [at_nat hr hc h ha hk, at_nat hr hc h hb hk, set_nat hr hc h ha hk, set_nat hr hc h hb hk, bnd_s, fulI_gen, swapTo_old, addN1 (show k ≤ 1048577 by omega), swap_step]
 ·simp only
  rw [cnd_f (ltN_f (Nat.le_refl c)), samI_gen, bnd_s, bnd_s, swapTo_end]
 ·rw [swapTo_0]; rfl
theorem f_impl_Matrix_swapRows (x : (Int × Int × List Int) × Int × Int) (y : List Int) (h : F_impl_Matrix_swapRows x = some y) : G_impl_Matrix_swapRows FUEL x = some y := by
 obtain ⟨m, i, j⟩ := x
 have h0 : F_spec_l31Swap (m, i, j) = some y := h
 simp only [F_impl_Matrix_swapRows, F_spec_l31Swap] at h
 split at h
 ·rename_i hc
  obtain ⟨h1, h2, h3⟩ := hc
  obtain ⟨r, c, M, rfl, hr, hc, hrc⟩ := mOk_gen h1
  obtain ⟨i, rfl, hi⟩ := natP h2
  obtain ⟨j, rfl, hj⟩ := natP h3
  have hi := hi r rfl; have hj := hj r rfl
  rw [← h0, g_swapI hr hc hrc hi hj, swap_nat hr hc hrc hi hj]
 ·cases h
def clearTo (p : Int) (M : Nat → Nat → Int) (i k : Nat) (f : Int) (n : Nat) : Nat → Nat → Int := fun a j => if j < n then clearF p M i k f a j else M a j
theorem clearTo_0 (p : Int) (M : Nat → Nat → Int) (i k : Nat) (f : Int) : clearTo p M i k f 0 = M := by funext a j; exact if_neg (by omega)
theorem clear_step {r c : Nat} (p : Int) (M : Nat → Nat → Int) (i k : Nat) (f : Int) (n : Nat) : genD r c (updM (clearTo p M i k f n) i n ((M i n + f * M k n) % p)) = genD r c (clearTo p M i k f (n + 1)) := by
 refine genD_congr fun a _ j _ => ?_
 unfold updM clearTo clearF
 by_cases hj : j = n
 ·subst hj
  by_cases ha : a = i
  ·subst ha; simp
  ·simp [ha]
 ·rw [if_neg (fun h => hj h.2)]
  by_cases hk : j < n
  ·simp only [if_pos hk, if_pos (show j < n + 1 by omega)]
  ·simp only [if_neg hk, if_neg (show ¬ j < n + 1 by omega)]
theorem clearTo_end {r c : Nat} (p : Int) (M : Nat → Nat → Int) (i k : Nat) (f : Int) : genD r c (clearTo p M i k f c) = genD r c (clearF p M i k f) := genD_congr fun a _ j hj => if_pos hj
theorem clearTo_old (p : Int) (M : Nat → Nat → Int) (i k : Nat) (f : Int) (n a : Nat) : clearTo p M i k f n a n = M a n := if_neg (by omega)
theorem g_addRow {p f : Int} {r c i k : Nat} {M : Nat → Nat → Int} (hp : pOk p) (hr : r ≤ 4096) (hc : c ≤ 4096) (h : r * c ≤ 1048576) (hi : i < r) (hk : k < r) (hf : 0 ≤ f ∧ f ≤ p) (hM : inM p r c M) :
  G_impl_Matrix_addRow FUEL (((r : Int), (c : Int), genD r c M), p, (i : Int), (k : Int), f) = some (genD r c (clearF p M i k f)) := by
 simp only [G_impl_Matrix_addRow, fulI_id, bnd_s, winI_id]
 refine loopT_seq (fun n => ((p, (i : Int), (k : Int), f, (n : Int)), genD r c (clearTo p M i k f n), (r : Int), (c : Int))) c ?_ ?_ ?_ (FUEL_gt (by omega))
 ·intro n hn
  simp only
  rw [cnd_t (ltN_t hn)]
  have h1 := hM i hi n hn
  simp only [at_nat hr hc h hi hn, at_nat hr hc h hk hn, bnd_s, clearTo_old, macI hp (h1.s hp) hf (hM k hk n hn).le, set_nat hr hc h hi hn, fulI_gen, addN1 (show n ≤ 1048577 by omega), clear_step]
 ·simp only
  rw [cnd_f (ltN_f (Nat.le_refl c)), samI_gen, bnd_s, bnd_s, clearTo_end]
 ·rw [clearTo_0]; rfl
theorem addRow_nat {p f : Int} {r c i k : Nat} {M : Nat → Nat → Int} (hp : pOk p) (hr : r ≤ 4096) (hc : c ≤ 4096) (h : r * c ≤ 1048576) (hi : i < r) (hk : k < r) (hf : 0 ≤ f ∧ f ≤ p) (hM : inM p r c M) :
  F_impl_Matrix_addRow (((r : Int), (c : Int), genD r c M), p, (i : Int), (k : Int), f) = some (genD r c (clearF p M i k f)) := by
 simp only [F_impl_Matrix_addRow, Int.toNat_natCast]
 rw [if_pos ⟨mOk_mk M hr hc h, hp, by omega, by omega, hf, allP_gen.2 hM⟩]
 refine (congrArg some (genD_congr fun a ha j hj => ?_))
 unfold clearF
 rw [ofD_gen M hi hj, ofD_gen M hk hj, ofD_gen M ha hj]
theorem f_impl_Matrix_addRow (x : (Int × Int × List Int) × Int × Int × Int × Int) (y : List Int) (h : F_impl_Matrix_addRow x = some y) : G_impl_Matrix_addRow FUEL x = some y := by
 obtain ⟨m, p, i, k, f⟩ := x
 have h0 := h
 simp only [F_impl_Matrix_addRow] at h
 split at h
 ·rename_i hc
  obtain ⟨h1, hp, h2, h3, hf, hM⟩ := hc
  obtain ⟨r, c, M, rfl, hr, hc, hrc⟩ := mOk_gen h1
  obtain ⟨i, rfl, hi⟩ := natP h2
  obtain ⟨k, rfl, hk⟩ := natP h3
  have hi := hi r rfl; have hk := hk r rfl
  have hM := allP_gen.1 hM
  rw [← h0, g_addRow hp hr hc hrc hi hk hf hM, addRow_nat hp hr hc hrc hi hk hf hM]
 ·cases h
theorem pivF_congr {M M' : Nat → Nat → Int} {j : Nat} : ∀ (d k : Nat), (∀ i, k ≤ i → i < k + d → M i j = M' i j) → pivF M j d k = pivF M' j d k
 | 0, k, _ => rfl
 | d + 1, k, h => by
  simp only [pivF]
  rw [h k (by omega) (by omega), pivF_congr d (k + 1) fun i h1 h2 => h i (by omega) (by omega)]
theorem pivF_lt {M : Nat → Nat → Int} {j q : Nat} : ∀ {d k : Nat}, pivF M j d k = some q → k ≤ q ∧ q < k + d ∧ M q j ≠ 0
 | 0, k, h => by cases h
 | d + 1, k, h => by
  simp only [pivF] at h
  split at h
  ·have := pivF_lt h
   exact ⟨by omega, by omega, this.2.2⟩
  ·rename_i h0
   injection h with h
   subst h
   exact ⟨by omega, by omega, h0⟩
theorem invG_0 (p out x : Int) : invG p out x 0 = out := by rw [invG]; rfl
theorem invG_s {n : Nat} (h : n ≠ 0) (p out x : Int) : invG p out x n = invG p (if n % 2 = 1 then out * x % p else out) (x * x % p) (n / 2) := by
 rw [invG, dif_neg h]
theorem invG_in {p : Int} (hp : pOk p) : ∀ (n : Nat) (out x : Int), inP p out → inP p (invG p out x n) := by
 intro n
 induction n using Nat.strongRecOn with
 | ind n ih =>
  intro out x ho
  by_cases h : n = 0
  ·subst h; rw [invG_0]; exact ho
  ·rw [invG_s h]
   refine ih (n / 2) (by omega) _ _ ?_
   split
   ·exact emod_in hp _
   ·exact ho
theorem inv_step {p out x : Int} {n : Nat} {Y : Type} {o : Option (Int × Int × Int × Int ⊕ Y)} (k : Int × Int × Int × Int → Option Y) (b : Bool) (hb : b = decide (n % 2 = 1)) (hp : pOk p) (ho : inP p out) (hx : inP p x) :
  joinK (cnd b ((remI (mulI .i64 out x) p).bnd fun i => some (Sum.inl (x, (n : Int), p, i))) (some (Sum.inl (x, (n : Int), p, out)))) k = k (x, (n : Int), p, if n % 2 = 1 then out * x % p else out) := by
 subst hb
 by_cases h : n % 2 = 1
 ·rw [cnd_t (decide_eq_true h), mulR hp ho.le hx.le, bnd_s, joinK_l, if_pos h]
 ·rw [cnd_f (decide_eq_false h), joinK_l, if_neg h]
theorem f_impl_rawInverse (x : Int × Int) (y : Int) (h : F_impl_rawInverse x = some y) : G_impl_rawInverse FUEL x = some y := by
 obtain ⟨p, x⟩ := x
 simp only [F_impl_rawInverse, F_spec_l31Inverse] at h
 split at h
 ·rename_i hc
  obtain ⟨hp, hx⟩ := hc
  have hp1 := hp.1; have hp2 := hp.2
  obtain ⟨n, hn⟩ := natI_eq (show 0 ≤ p - 2 by omega)
  rw [← h]
  simp only [G_impl_rawInverse]
  rw [subI_eq (by omega) (by omega), hn, Int.toNat_natCast]
  rw [loopT_run (r := Sum.inl (invG p 1 x n)) (fun m s => ∃ out x' : Int, s = (p, x', out, (m : Int)) ∧ m ≤ n ∧ inP p out ∧ inP p x' ∧ invG p out x' m = invG p 1 x n) ?_ n _ ⟨1, x, rfl, by omega, ⟨by omega, by omega⟩, hx, rfl⟩ FUEL (FUEL_gt (by omega))]
  ·rw [joinK_l]
  ·rintro m s ⟨out, x', rfl, hm, ho, hx', he⟩
   simp only
   by_cases h0 : m = 0
   ·subst h0
    left
    rw [cnd_f (ltI_f (by omega)), ← he, invG_0]
   ·right
    refine ⟨m / 2, _, by omega, ?_, if m % 2 = 1 then out * x' % p else out, x' * x' % p, rfl, by omega, ?_, emod_in hp _, by rw [← he, invG_s h0]⟩
    ·rw [cnd_t (ltI_t (by omega))]
     have hb : eqI (andI .i64 (m : Int) 1) 1 = decide (m % 2 = 1) := by
      rw [show (1 : Int) = ((1 : Nat) : Int) from rfl, andI_nat (by omega) (by omega), Nat.and_one_is_mod]
      by_cases h1 : m % 2 = 1
      ·rw [eqI_t (by omega), decide_eq_true h1]
      ·rw [eqI_f (by omega), decide_eq_false h1]
     rw [inv_step (o := none) _ _ hb hp ho hx']
     simp only
     rw [mulR hp hx'.le hx'.le, bnd_s]
     have hq : shrI .i64 (m : Int) 1 = some ((m / 2 : Nat) : Int) := by
      rw [show (1 : Int) = ((1 : Nat) : Int) from rfl, shrI_nat (by omega), Nat.shiftRight_eq_div_pow]
     rw [hq, bnd_s]
    ·split
     ·exact emod_in hp _
     ·exact ho
 ·cases h
def turnTo (M : Nat → Nat → Int) (i j : Nat) : Nat → Nat → Int := fun a b => if b < i ∨ b = i ∧ a < j then M b a else 0
theorem turn_step {r c : Nat} (M : Nat → Nat → Int) (i j : Nat) : genD c r (updM (turnTo M i j) j i (M i j)) = genD c r (turnTo M i (j + 1)) := by
 refine genD_congr fun a _ b _ => ?_
 unfold updM turnTo
 by_cases h : a = j ∧ b = i
 ·obtain ⟨rfl, rfl⟩ := h
  simp
 ·rw [if_neg h]
  by_cases h1 : b < i ∨ b = i ∧ a < j
  ·simp only [if_pos h1, if_pos (show b < i ∨ b = i ∧ a < j + 1 by omega)]
  ·simp only [if_neg h1, if_neg (show ¬ (b < i ∨ b = i ∧ a < j + 1) by omega)]
theorem turn_row {r c : Nat} (M : Nat → Nat → Int) (i : Nat) : genD c r (turnTo M i c) = genD c r (turnTo M (i + 1) 0) := by
 refine genD_congr fun a ha b _ => ?_
 unfold turnTo
 by_cases h1 : b < i ∨ b = i ∧ a < c
 ·rw [if_pos h1, if_pos (by omega)]
 ·rw [if_neg h1, if_neg (by omega)]
theorem turn_end {r c : Nat} (M : Nat → Nat → Int) : genD c r (turnTo M r 0) = genD c r (turnF M) := genD_congr fun a ha b hb => if_pos (.inl hb)
theorem turn_0 {r c : Nat} (M : Nat → Nat → Int) : genD c r (turnTo M 0 0) = genD c r fun _ _ => 0 := genD_congr fun a ha b hb => if_neg (by omega)
theorem turn_nat {r c : Nat} {M : Nat → Nat → Int} (hr : r ≤ 4096) (hc : c ≤ 4096) (h : r * c ≤ 1048576) : F_spec_l31Turn ((r : Int), (c : Int), genD r c M) = some ((c : Int), (r : Int), genD c r (turnF M)) := by
 simp only [F_spec_l31Turn, Int.toNat_natCast]
 rw [if_pos (mOk_mk M hr hc h)]
 refine (congrArg (fun l => some ((c : Int), (r : Int), l)) (genD_congr fun a ha b hb => ofD_gen M hb ha))
theorem g_turnI {r c : Nat} {M : Nat → Nat → Int} (hr : r ≤ 4096) (hc : c ≤ 4096) (h : r * c ≤ 1048576) : G_impl_rawTranspose FUEL ((r : Int), (c : Int), genD r c M) = some ((c : Int), (r : Int), genD c r (turnF M)) := by
 have h' : c * r ≤ 1048576 := by rw [Nat.mul_comm]; exact h
 simp only [G_impl_rawTranspose, newI_nat hc hr h', bnd_s, fulI_id]
 rw [show fulI 0 0 (lenN ([] : List Int)) = some () from rfl, bnd_s]
 rw [loopT_seq (r := Sum.inl (((0 : Int), (0 : Int)), ((c : Int), (r : Int)), ([] : List Int), genD c r (turnF M))) (fun i => ((i : Int), ((r : Int), (c : Int), genD r c M), ((0 : Int), (0 : Int)), ((c : Int), (r : Int)), ([] : List Int), genD c r (turnTo M i 0))) r ?_ ?_ ?_ (FUEL_gt (by omega))]
 ·rw [joinK_l]; simp only [takI_id, bnd_s]
 ·intro i hi
  simp only
  rw [cnd_t (ltN_t hi)]
  rw [loopT_seq (r := Sum.inl ((i : Int), ((r : Int), (c : Int), genD r c M), ((0 : Int), (0 : Int)), ((c : Int), (r : Int)), ([] : List Int), genD c r (turnTo M (i + 1) 0))) (fun j => (((i : Int), (j : Int)), ((r : Int), (c : Int), genD r c M), ((0 : Int), (0 : Int)), ((c : Int), (r : Int)), ([] : List Int), genD c r (turnTo M i j))) c ?_ ?_ ?_ (FUEL_gt (by omega))]
  ·rw [joinK_l]; simp only [addN1 (show i ≤ 1048577 by omega)]
  ·intro j hj
   simp only
   rw [cnd_t (ltN_t hj)]
   simp only [at_nat hr hc h hi hj, set_nat hc hr h' hj hi, bnd_s, fulI_gen, turn_step (r := r) (c := c), addN1 (show j ≤ 1048577 by omega)]
  ·simp only
   rw [cnd_f (ltN_f (Nat.le_refl c)), turn_row]
  ·rfl
 ·simp only
  rw [cnd_f (ltN_f (Nat.le_refl r)), turn_end]
 ·rw [turn_0]; rfl
theorem f_impl_rawTranspose (x y : Int × Int × List Int) (h : F_impl_rawTranspose x = some y) : G_impl_rawTranspose FUEL x = some y := by
 have h0 : F_spec_l31Turn x = some y := h
 simp only [F_impl_rawTranspose, F_spec_l31Turn] at h
 split at h
 ·rename_i hc
  obtain ⟨r, c, M, rfl, hr, hc, hrc⟩ := mOk_gen hc
  rw [← h0, g_turnI hr hc hrc, turn_nat hr hc hrc]
 ·cases h
def mulTo (W : Nat → Nat → Int) (i j : Nat) : Nat → Nat → Int := fun a b => if a < i ∨ a = i ∧ b < j then W a b else 0
theorem mul_step {r c : Nat} (W : Nat → Nat → Int) (i j : Nat) : genD r c (updM (mulTo W i j) i j (W i j)) = genD r c (mulTo W i (j + 1)) := by
 refine genD_congr fun a _ b _ => ?_
 unfold updM mulTo
 by_cases h : a = i ∧ b = j
 ·obtain ⟨rfl, rfl⟩ := h
  simp
 ·rw [if_neg h]
  by_cases h1 : a < i ∨ a = i ∧ b < j
  ·simp only [if_pos h1, if_pos (show a < i ∨ a = i ∧ b < j + 1 by omega)]
  ·simp only [if_neg h1, if_neg (show ¬ (a < i ∨ a = i ∧ b < j + 1) by omega)]
theorem mul_row {r c : Nat} (W : Nat → Nat → Int) (i : Nat) : genD r c (mulTo W i c) = genD r c (mulTo W (i + 1) 0) := by
 refine genD_congr fun a _ b hb => ?_
 unfold mulTo
 by_cases h1 : a < i ∨ a = i ∧ b < c
 ·simp only [if_pos h1, if_pos (show a < i + 1 ∨ a = i + 1 ∧ b < 0 by omega)]
 ·simp only [if_neg h1, if_neg (show ¬ (a < i + 1 ∨ a = i + 1 ∧ b < 0) by omega)]
theorem mul_end {r c : Nat} (W : Nat → Nat → Int) : genD r c (mulTo W r 0) = genD r c W := genD_congr fun a ha b hb => if_pos (.inl ha)
theorem mul_0 {r c : Nat} (W : Nat → Nat → Int) : genD r c (mulTo W 0 0) = genD r c fun _ _ => 0 := genD_congr fun a ha b hb => if_neg (by omega)
theorem mulF_congr {p : Int} {k : Nat} {A A' B B' : Nat → Nat → Int} {i j : Nat} (hA : ∀ t, t < k → A i t = A' i t) (hB : ∀ t, t < k → B t j = B' t j) : mulF p k A B i j = mulF p k A' B' i j := by
 unfold mulF
 have : ∀ n, n ≤ k → dotF p (fun t => A i t) (fun t => B t j) n = dotF p (fun t => A' i t) (fun t => B' t j) n := by
  intro n
  induction n with
  | zero => intro _; rfl
  | succ n ih =>
   intro hn
   simp only [dotF]
   rw [ih (by omega), hA n (by omega), hB n (by omega)]
 exact this k (Nat.le_refl k)
theorem mulF_in {p : Int} (hp : pOk p) (r c k : Nat) (A B : Nat → Nat → Int) : inM p r c (mulF p k A B) := fun i _ j _ => dotF_in hp _ _ k
theorem mulOk_gen {x : Int × (Int × Int × List Int) × (Int × Int × List Int)} (h : mulOk x) : ∃ (p : Int) (r k c : Nat) (A B : Nat → Nat → Int), x = (p, ((r : Int), (k : Int), genD r k A), ((k : Int), (c : Int), genD k c B)) ∧ pOk p ∧
  r ≤ 4096 ∧ k ≤ 4096 ∧ c ≤ 4096 ∧ r * k ≤ 1048576 ∧ k * c ≤ 1048576 ∧ r * c ≤ 1048576 ∧ inM p r k A ∧ inM p k c B := by
 obtain ⟨p, a, b⟩ := x
 obtain ⟨hp, ha, hb, hk, hrc, h1, h2⟩ := h
 obtain ⟨r, k, A, rfl, q1, q2, q3⟩ := mOk_gen ha
 obtain ⟨k', c, B, rfl, q4, q5, q6⟩ := mOk_gen hb
 simp only at hk hrc h1 h2
 have : k' = k := by omega
 subst this
 have e : (r : Int) * (c : Int) = ((r * c : Nat) : Int) := by norm_cast
 exact ⟨p, r, k', c, A, B, rfl, hp, q1, q2, q5, q3, q6, by omega, allP_gen.1 h1, allP_gen.1 h2⟩
theorem mulOk_mk {p : Int} {r k c : Nat} {A B : Nat → Nat → Int} (hp : pOk p) (hr : r ≤ 4096) (hk : k ≤ 4096) (hc : c ≤ 4096) (h1 : r * k ≤ 1048576) (h2 : k * c ≤ 1048576) (h3 : r * c ≤ 1048576) (hA : inM p r k A) (hB : inM p k c B) :
  mulOk (p, ((r : Int), (k : Int), genD r k A), ((k : Int), (c : Int), genD k c B)) := by
 refine ⟨hp, mOk_mk A hr hk h1, mOk_mk B hk hc h2, rfl, ?_, allP_gen.2 hA, allP_gen.2 hB⟩
 show (r : Int) * (c : Int) ≤ 1048576
 have e : (r : Int) * (c : Int) = ((r * c : Nat) : Int) := by norm_cast
 omega
theorem mulS_nat {p : Int} {r k c : Nat} {A B : Nat → Nat → Int} (hp : pOk p) (hr : r ≤ 4096) (hk : k ≤ 4096) (hc : c ≤ 4096) (h1 : r * k ≤ 1048576) (h2 : k * c ≤ 1048576) (h3 : r * c ≤ 1048576) (hA : inM p r k A) (hB : inM p k c B) :
  F_spec_l31Mul (p, ((r : Int), (k : Int), genD r k A), ((k : Int), (c : Int), genD k c B)) = some ((r : Int), (c : Int), genD r c (mulF p k A B)) := by
 simp only [F_spec_l31Mul, Int.toNat_natCast]
 rw [if_pos (mulOk_mk hp hr hk hc h1 h2 h3 hA hB)]
 exact congrArg (fun l => some ((r : Int), (c : Int), l)) (genD_congr fun i hi j hj => mulF_congr (fun t ht => ofD_gen A hi ht) (fun t ht => ofD_gen B ht hj))
theorem g_mulI {p : Int} {r k c : Nat} {A B : Nat → Nat → Int} (hp : pOk p) (hr : r ≤ 4096) (hk : k ≤ 4096) (hc : c ≤ 4096) (h1 : r * k ≤ 1048576) (h2 : k * c ≤ 1048576) (h3 : r * c ≤ 1048576) (hA : inM p r k A) (hB : inM p k c B) :
  G_impl_rawMulMatrix FUEL (p, ((r : Int), (k : Int), genD r k A), ((k : Int), (c : Int), genD k c B)) = some ((r : Int), (c : Int), genD r c (mulF p k A B)) := by
 simp only [G_impl_rawMulMatrix, newI_nat hr hc h3, bnd_s, fulI_id]
 rw [show fulI 0 0 (lenN ([] : List Int)) = some () from rfl, bnd_s]
 rw [loopT_seq (r := Sum.inl (((0 : Int), (0 : Int)), ((r : Int), (c : Int)), ([] : List Int), genD r c (mulF p k A B))) (fun i => ((p, (i : Int)), ((r : Int), (k : Int), genD r k A), ((k : Int), (c : Int), genD k c B), ((0 : Int), (0 : Int)), ((r : Int), (c : Int)), ([] : List Int), genD r c (mulTo (mulF p k A B) i 0))) r ?_ ?_ ?_ (FUEL_gt (by omega))]
 ·rw [joinK_l]; simp only [takI_id, bnd_s]
 ·intro i hi
  simp only
  rw [cnd_t (ltN_t hi)]
  rw [loopT_seq (r := Sum.inl (((i : Int), p), ((r : Int), (k : Int), genD r k A), ((k : Int), (c : Int), genD k c B), ((0 : Int), (0 : Int)), ((r : Int), (c : Int)), ([] : List Int), genD r c (mulTo (mulF p k A B) (i + 1) 0))) (fun j => ((p, (i : Int), (j : Int)), ((r : Int), (k : Int), genD r k A), ((k : Int), (c : Int), genD k c B), ((0 : Int), (0 : Int)), ((r : Int), (c : Int)), ([] : List Int), genD r c (mulTo (mulF p k A B) i j))) c ?_ ?_ ?_ (FUEL_gt (by omega))]
  ·rw [joinK_l]; simp only [addN1 (show i ≤ 1048577 by omega)]
  ·intro j hj
   simp only
   rw [cnd_t (ltN_t hj)]
   rw [loopT_seq (r := Sum.inl ((mulF p k A B i j, (j : Int), p, (i : Int)), ((r : Int), (k : Int), genD r k A), ((k : Int), (c : Int), genD k c B), ((0 : Int), (0 : Int)), ((r : Int), (c : Int)), ([] : List Int), genD r c (mulTo (mulF p k A B) i j))) (fun t => ((p, (i : Int), (j : Int), dotF p (fun t => A i t) (fun t => B t j) t, (t : Int)), ((r : Int), (k : Int), genD r k A), ((k : Int), (c : Int), genD k c B), ((0 : Int), (0 : Int)), ((r : Int), (c : Int)), ([] : List Int), genD r c (mulTo (mulF p k A B) i j))) k ?_ ?_ ?_ (FUEL_gt (by omega))]
   ·rw [joinK_l]
    simp only [set_nat hr hc h3 hi hj, bnd_s, fulI_gen, mul_step (r := r) (c := c)]
    rw [joinK_l]
    simp only [addN1 (show j ≤ 1048577 by omega)]
   ·intro t ht
    simp only
    rw [cnd_t (ltN_t ht), at_nat hr hk h1 hi ht, bnd_s, at_nat hk hc h2 ht hj, bnd_s, macI hp ((dotF_in hp _ _ t).s hp) (hA i hi t ht).le (hB t ht j hj).le, bnd_s]
    simp only [addN1 (show t ≤ 1048577 by omega), dotF]
   ·simp only
    rw [cnd_f (ltN_f (Nat.le_refl k))]
    rfl
   ·rfl
  ·simp only
   rw [cnd_f (ltN_f (Nat.le_refl c)), mul_row]
  ·rfl
 ·simp only
  rw [cnd_f (ltN_f (Nat.le_refl r)), mul_end]
 ·rw [mul_0]; rfl
theorem f_impl_rawMulMatrix (x : Int × (Int × Int × List Int) × (Int × Int × List Int)) (y : Int × Int × List Int) (h : F_impl_rawMulMatrix x = some y) : G_impl_rawMulMatrix FUEL x = some y := by
 have h0 : F_spec_l31Mul x = some y := h
 simp only [F_impl_rawMulMatrix, F_spec_l31Mul] at h
 split at h
 ·rename_i hc
  obtain ⟨p, r, k, c, A, B, rfl, hp, hr, hk, hc, h1, h2, h3, hA, hB⟩ := mulOk_gen hc
  rw [← h0, g_mulI hp hr hk hc h1 h2 h3 hA hB, mulS_nat hp hr hk hc h1 h2 h3 hA hB]
 ·cases h
end Go.Am
end
section
namespace Go.Am
def F_spec_TransposeMatrix : Int × Int × Int × List Int → Option (Int × Int × List Int) := fun (x : Int × Int × Int × List Int) => if sz_Matrix x.2 ≤ 1048576 then some (if matOk x.1 x.2 = true then (x.2.2.1, x.2.1, genD x.2.2.1.toNat x.2.1.toNat (turnF (ofD x.2.2.1.toNat x.2.2.2))) else (0, 0, [])) else none
def F_impl_TransposeMatrix : Int × Int × Int × List Int → Option (Int × Int × List Int) := F_spec_TransposeMatrix
def F_spec_MulMatrix : Int × (Int × Int × List Int) × (Int × Int × List Int) → Option ((Int × Int × List Int) × Bool) := fun (x : Int × (Int × Int × List Int) × (Int × Int × List Int)) =>
 if sz_Matrix x.2.1 ≤ 1048576 ∧ sz_Matrix x.2.2 ≤ 1048576 then
  some (if matOk x.1 x.2.1 = true ∧ matOk x.1 x.2.2 = true ∧ x.2.1.2.1 = x.2.2.1 then ((x.2.1.1, x.2.2.2.1, genD x.2.1.1.toNat x.2.2.2.1.toNat (mulF x.1 x.2.1.2.1.toNat (ofD x.2.1.2.1.toNat x.2.1.2.2) (ofD x.2.2.2.1.toNat x.2.2.2.2))), true) else ((0, 0, []), false)) else none
def F_impl_MulMatrix : Int × (Int × Int × List Int) × (Int × Int × List Int) → Option ((Int × Int × List Int) × Bool) := F_spec_MulMatrix
def sopOk (x : Int × Int × Int) : Prop := isPrimeI x.1 = true ∧ (1 ≤ x.2.1 ∧ x.2.1 ≤ 8) ∧ (1 ≤ x.2.2 ∧ x.2.2 ≤ 8)
instance (x : Int × Int × Int) : Decidable (sopOk x) := by unfold sopOk; infer_instance
def ag_impl_TransposeMatrix : Sig := [(.one, [.int .i64]), (.agg, [.int .i64, .int .i64, .list [.int .i64]])]
def rs_impl_TransposeMatrix : Sig := [(.agg, [.int .i64, .int .i64, .list [.int .i64]])]
def mu_impl_TransposeMatrix : MSig := []
def ag_impl_MulMatrix : Sig := [(.one, [.int .i64]), (.agg, [.int .i64, .int .i64, .list [.int .i64]]), (.agg, [.int .i64, .int .i64, .list [.int .i64]])]
def rs_impl_MulMatrix : Sig := [(.agg, [.int .i64, .int .i64, .list [.int .i64]]), (.one, [.bool])]
def mu_impl_MulMatrix : MSig := []
def G_spec_TransposeMatrix (NN : Nat) : (Int × (Int × (Int × (List Int)))) → (Option (Int × (Int × (List Int)))) :=
 (fun ((i0, i1, i2, l3) : (Int × (Int × (Int × (List Int))))) =>
 (F_spec_MatrixOk (i0, i1, i2, l3)).bnd (fun b4 =>
 cnd (notB b4)
 (some ((0 : Int), (0 : Int), ([] : List Int)))
 ((F_spec_l31Turn (i1, i2, l3)).bnd (fun (i5, i6, l7) =>
 (takI l7 (lenN l7)).bnd (fun l8 =>
 some (i5, i6, l8))))))

def G_impl_TransposeMatrix (NN : Nat) : (Int × (Int × (Int × (List Int)))) → (Option (Int × (Int × (List Int)))) :=
 (fun ((i0, i1, i2, l3) : (Int × (Int × (Int × (List Int))))) =>
 (F_impl_MatrixOk (i0, i1, i2, l3)).bnd (fun b4 =>
 cnd (notB b4)
 (some ((0 : Int), (0 : Int), ([] : List Int)))
 ((F_impl_rawTranspose (i1, i2, l3)).bnd (fun (i5, i6, l7) =>
 (takI l7 (lenN l7)).bnd (fun l8 =>
 some (i5, i6, l8))))))

def G_spec_MulMatrix (NN : Nat) : (Int × ((Int × (Int × (List Int))) × (Int × (Int × (List Int))))) → (Option ((Int × (Int × (List Int))) × Bool)) :=
 (fun ((i0, (i1, i2, l3), i4, i5, l6) : (Int × ((Int × (Int × (List Int))) × (Int × (Int × (List Int)))))) =>
 (F_spec_MatrixOk (i0, i1, i2, l3)).bnd (fun b7 =>
 cnd (notB b7)
 (some (((0 : Int), (0 : Int), ([] : List Int)), false))
 ((F_spec_MatrixOk (i0, i4, i5, l6)).bnd (fun b8 =>
 cnd (notB b8)
 (some (((0 : Int), (0 : Int), ([] : List Int)), false))
 (cnd (neI i2 i4)
 (some (((0 : Int), (0 : Int), ([] : List Int)), false))
 ((F_spec_l31Mul (i0, (i1, i2, l3), i4, i5, l6)).bnd (fun (i9, i10, l11) =>
 (takI l11 (lenN l11)).bnd (fun l12 =>
 some ((i9, i10, l12), true)))))))))

def G_impl_MulMatrix (NN : Nat) : (Int × ((Int × (Int × (List Int))) × (Int × (Int × (List Int))))) → (Option ((Int × (Int × (List Int))) × Bool)) :=
 (fun ((i0, (i1, i2, l3), i4, i5, l6) : (Int × ((Int × (Int × (List Int))) × (Int × (Int × (List Int)))))) =>
 (F_impl_MatrixOk (i0, i1, i2, l3)).bnd (fun b7 =>
 cnd (notB b7)
 (some (((0 : Int), (0 : Int), ([] : List Int)), false))
 ((F_impl_MatrixOk (i0, i4, i5, l6)).bnd (fun b8 =>
 cnd (notB b8)
 (some (((0 : Int), (0 : Int), ([] : List Int)), false))
 (cnd (neI i2 i4)
 (some (((0 : Int), (0 : Int), ([] : List Int)), false))
 ((F_impl_rawMulMatrix (i0, (i1, i2, l3), i4, i5, l6)).bnd (fun (i9, i10, l11) =>
 (takI l11 (lenN l11)).bnd (fun l12 =>
 some ((i9, i10, l12), true)))))))))

theorem inM_of {p : Int} {r c : Nat} {l : List Int} (h : l.length = r * c) (hr : rowOk p l = true) : inM p r c (ofD c l) := by
 apply allP_gen.1
 rw [genD_of h]
 intro x hx
 have := List.all_eq_true.1 hr x hx
 exact of_decide_eq_true this
theorem matOk_nat {m : Int} {x : Int × Int × List Int} (h : matOk m x = true) : ∃ (r c : Nat) (M : Nat → Nat → Int), x = ((r : Int), (c : Int), genD r c M) ∧ pOk m ∧ r ≤ 64 ∧ c ≤ 64 ∧ r * c ≤ 4096 ∧ inM m r c M := by
 obtain ⟨r, c, l⟩ := x
 simp only [matOk, Bool.and_eq_true, decide_eq_true_eq] at h
 obtain ⟨h1, h2, h3, h4, h5⟩ := h
 obtain ⟨r, rfl⟩ := natI_eq (z := r) (by omega)
 obtain ⟨c, rfl⟩ := natI_eq (z := c) (by omega)
 have hl : l.length = r * c := by
  have e : (r : Int) * (c : Int) = ((r * c : Nat) : Int) := by norm_cast
  omega
 have hrc : r * c ≤ 64 * 64 := Nat.mul_le_mul (by omega) (by omega)
 exact ⟨r, c, ofD c l, by rw [genD_of hl], isPrimeI_t h1, by omega, by omega, by omega, inM_of hl h5⟩
theorem f_spec_TransposeMatrix (x : Int × Int × Int × List Int) (y : Int × Int × List Int) (h : F_spec_TransposeMatrix x = some y) : G_spec_TransposeMatrix FUEL x = some y := by
 obtain ⟨m, x⟩ := x
 simp only [F_spec_TransposeMatrix] at h
 split at h
 ·rename_i hl
  rw [← h]
  obtain ⟨r, c, l⟩ := x
  simp only [G_spec_TransposeMatrix]
  rw [show F_spec_MatrixOk (m, r, c, l) = some (matOk m (r, c, l)) from if_pos hl, bnd_s]
  cases hm : matOk m (r, c, l) with
  | false => rfl
  | true =>
   obtain ⟨r, c, M, e, hp, hr, hc, hrc, hM⟩ := matOk_nat hm
   cases e
   rw [cnd_f (by rfl), turn_nat (by omega) (by omega) (by omega), bnd_s]
   simp only [takI_id, bnd_s, if_pos, Int.toNat_natCast]
   exact congrArg (fun l => some ((c : Int), (r : Int), l)) (genD_congr fun a ha b hb => (ofD_gen M hb ha).symm)
 ·cases h
theorem f_impl_TransposeMatrix (x : Int × Int × Int × List Int) (y : Int × Int × List Int) (h : F_impl_TransposeMatrix x = some y) : G_impl_TransposeMatrix FUEL x = some y := by
 rw [← f_spec_TransposeMatrix x y h]
 rfl
theorem f_spec_MulMatrix (x : Int × (Int × Int × List Int) × (Int × Int × List Int)) (y : (Int × Int × List Int) × Bool) (h : F_spec_MulMatrix x = some y) : G_spec_MulMatrix FUEL x = some y := by
 obtain ⟨m, a, b⟩ := x
 simp only [F_spec_MulMatrix] at h
 split at h
 ·rename_i hl
  rw [← h]
  obtain ⟨r, k, l⟩ := a
  obtain ⟨k', c, l'⟩ := b
  simp only [G_spec_MulMatrix]
  rw [show F_spec_MatrixOk (m, r, k, l) = some (matOk m (r, k, l)) from if_pos hl.1, bnd_s]
  rw [show F_spec_MatrixOk (m, k', c, l') = some (matOk m (k', c, l')) from if_pos hl.2, bnd_s]
  cases hm : matOk m (r, k, l) with
  | false => simp [cnd, notB]
  | true =>
   rw [cnd_f (by rfl)]
   cases hm' : matOk m (k', c, l') with
   | false => simp [cnd, notB]
   | true =>
    rw [cnd_f (by rfl)]
    by_cases hk : k = k'
    ·subst hk
     obtain ⟨r, k, A, e, hp, hr, hk, hrk, hA⟩ := matOk_nat hm
     cases e
     obtain ⟨k', c, B, e, _, hk', hc, hkc, hB⟩ := matOk_nat hm'
     have e1 : k' = k := by have := congrArg Prod.fst e; simp only at this; omega
     subst e1
     cases e
     have hrc : r * c ≤ 64 * 64 := Nat.mul_le_mul hr hc
     rw [cnd_f (neI_f rfl), mulS_nat hp (by omega) (by omega) (by omega) (by omega) (by omega) (by omega) hA hB, bnd_s]
     simp only [takI_id, bnd_s, Int.toNat_natCast, true_and, if_pos]
     exact congrArg (fun l => some (((r : Int), (c : Int), l), true)) (genD_congr fun i hi j hj => mulF_congr (fun t ht => (ofD_gen A hi ht).symm) (fun t ht => (ofD_gen B ht hj).symm))
    ·rw [cnd_t (neI_t hk), if_neg (fun q => hk q.2.2)]
 ·cases h
theorem f_impl_MulMatrix (x : Int × (Int × Int × List Int) × (Int × Int × List Int)) (y : (Int × Int × List Int) × Bool) (h : F_impl_MulMatrix x = some y) : G_impl_MulMatrix FUEL x = some y := by
 rw [← f_spec_MulMatrix x y h]
 rfl
theorem addNN {x y : Nat} (h : x + y ≤ 1099511627776) : addI .i64 (x : Int) (y : Int) = ((x + y : Nat) : Int) := by
 rw [addI_eq (by omega) (by omega)]
 omega
end Go.Am
end
section
namespace Go.Am
abbrev Mat := Nat → Nat → Int
def sclF (p inv : Int) (M : Mat) (t : Nat) : Mat := fun a b => if a = t then M t b * inv % p else M a b
def clrF (p : Int) (M : Mat) (t j n : Nat) : Mat := fun a b => if a < n ∧ a ≠ t then (M a b + (p - M a j) * M t b) % p else M a b
def pivS (p : Int) (M : Mat) (t j k : Nat) : Mat := sclF p (invG p 1 (swapF M t k t j) (p - 2).toNat) (swapF M t k) t
def redD (p : Int) (M : Mat) (t j k : Nat) (d : Int) : Int := (if k = t then d else (p - d) % p) * swapF M t k t j % p
def redS (p : Int) (r : Nat) (s : Mat × List Int × Int) (j : Nat) : Mat × List Int × Int :=
 if s.2.1.length < r then
  match pivF s.1 j (r - s.2.1.length) s.2.1.length with
  | none => s
  | some k => (clrF p (pivS p s.1 s.2.1.length j k) s.2.1.length j r, s.2.1 ++ [(j : Int)], redD p s.1 s.2.1.length j k s.2.2)
 else s
def redN (p : Int) (r : Nat) (M : Mat) : Nat → Mat × List Int × Int
 | 0 => (M, [], 1)
 | j + 1 => redS p r (redN p r M j) j
def redOk (x : Int × Int × Int × List Int) : Prop := pOk x.1 ∧ mOk x.2 ∧ allP x.1 x.2.2.2
instance (x : Int × Int × Int × List Int) : Decidable (redOk x) := by unfold redOk; infer_instance
theorem stop_ex (P : Nat → Prop) [DecidablePred P] : ∀ c : Nat, ∃ n, n ≤ c ∧ (∀ j, j < n → P j) ∧ (n = c ∨ ¬ P n)
 | 0 => ⟨0, Nat.le_refl 0, fun j hj => absurd hj (Nat.not_lt_zero j), .inl rfl⟩
 | c + 1 => by
  obtain ⟨n, h1, h2, h3⟩ := stop_ex P c
  by_cases h : P n
  ·rcases h3 with h3 | h3
   ·subst h3
    refine ⟨n + 1, Nat.le_refl _, fun j hj => ?_, .inl rfl⟩
    by_cases hj' : j = n
    ·subst hj'; exact h
    ·exact h2 j (by omega)
   ·exact absurd h h3
  ·exact ⟨n, by omega, h2, .inr h⟩
theorem swapF_in {p : Int} {r c : Nat} {M : Mat} (hM : inM p r c M) {a b : Nat} (ha : a < r) (hb : b < r) : inM p r c (swapF M a b) := by
 intro i hi j hj
 unfold swapF
 split
 ·exact hM b hb j hj
 ·split
  ·exact hM a ha j hj
  ·exact hM i hi j hj
theorem swapF_self (M : Mat) (a : Nat) : swapF M a a = M := by
 funext i j
 unfold swapF
 split
 ·rename_i h; rw [h]
 ·rfl
theorem sclF_in {p inv : Int} {r c : Nat} {M : Mat} (hp : pOk p) (hM : inM p r c M) (t : Nat) : inM p r c (sclF p inv M t) := by
 intro i hi j hj
 unfold sclF
 split
 ·exact emod_in hp _
 ·exact hM i hi j hj
theorem clrF_in {p : Int} {r c : Nat} {M : Mat} (hp : pOk p) (hM : inM p r c M) (t k n : Nat) : inM p r c (clrF p M t k n) := by
 intro i hi j hj
 unfold clrF
 split
 ·exact emod_in hp _
 ·exact hM i hi j hj
theorem one_in {p : Int} (hp : pOk p) : inP p 1 := ⟨by omega, by have := hp.1; omega⟩
theorem pivS_in {p : Int} {r c : Nat} {M : Mat} (hp : pOk p) (hM : inM p r c M) {t k : Nat} (ht : t < r) (hk : k < r) (j : Nat) : inM p r c (pivS p M t j k) := sclF_in hp (swapF_in hM ht hk) t
structure RI (p : Int) (r c : Nat) (s : Mat × List Int × Int) (j : Nat) : Prop where
 m : inM p r c s.1
 l : s.2.1.length ≤ r
 lj : s.2.1.length ≤ j
 d : inP p s.2.2
 e : ∀ x ∈ s.2.1, 0 ≤ x ∧ x < (j : Int)
theorem RI.step {p : Int} {r c : Nat} {s : Mat × List Int × Int} {j : Nat} (hp : pOk p) (h : RI p r c s j) : RI p r c (redS p r s j) (j + 1) := by
 have keep : RI p r c s (j + 1) := ⟨h.m, h.l, by have := h.lj; omega, h.d, fun x hx => by have := h.e x hx; omega⟩
 unfold redS
 split
 ·rename_i hl
  split
  ·exact keep
  ·rename_i k hk
   have hq := pivF_lt hk
   refine ⟨clrF_in hp (pivS_in hp h.m hl (by omega) j) _ _ _, ?_, ?_, emod_in hp _, ?_⟩
   ·simp only [List.length_append, List.length_cons, List.length_nil]; omega
   ·have := h.lj
    simp only [List.length_append, List.length_cons, List.length_nil]; omega
   ·intro x hx
    simp only [List.mem_append, List.mem_singleton] at hx
    rcases hx with hx | rfl
    ·have := h.e x hx; omega
    ·omega
 ·exact keep
theorem redN_I {p : Int} {r c : Nat} {M : Mat} (hp : pOk p) (hM : inM p r c M) : ∀ j, RI p r c (redN p r M j) j
 | 0 => ⟨hM, Nat.zero_le _, Nat.le_refl 0, one_in hp, fun x hx => absurd hx (List.not_mem_nil)⟩
 | j + 1 => (redN_I hp hM j).step hp
theorem clrF_0 {p : Int} (M : Mat) (t j : Nat) : clrF p M t j 0 = M := by funext a b; exact if_neg (by omega)
theorem clrF_old {p : Int} (M : Mat) (t j n b : Nat) : clrF p M t j n n b = M n b := if_neg (by omega)
theorem clrF_t {p : Int} (M : Mat) (t j n b : Nat) : clrF p M t j n t b = M t b := if_neg (by omega)
theorem clrF_skip {p : Int} (M : Mat) (t j : Nat) : clrF p M t j (t + 1) = clrF p M t j t := by
 funext a b
 unfold clrF
 by_cases h : a < t
 ·rw [if_pos (by omega), if_pos (by omega)]
 ·rw [if_neg (by omega), if_neg (by omega)]
theorem pivF_none {M : Mat} {j : Nat} : ∀ {d k : Nat}, pivF M j d k = none → ∀ i, k ≤ i → i < k + d → M i j = 0
 | 0, k, _, i, h1, h2 => by omega
 | d + 1, k, h, i, h1, h2 => by
  simp only [pivF] at h
  split at h
  ·rename_i h0
   by_cases hi : i = k
   ·rw [hi]; exact h0
   ·exact pivF_none h i (by omega) (by omega)
  ·cases h
theorem pivF_before {M : Mat} {j q : Nat} : ∀ {d k : Nat}, pivF M j d k = some q → ∀ i, k ≤ i → i < q → M i j = 0
 | 0, k, h, i, h1, h2 => by cases h
 | d + 1, k, h, i, h1, h2 => by
  simp only [pivF] at h
  split at h
  ·rename_i h0
   by_cases hi : i = k
   ·rw [hi]; exact h0
   ·exact pivF_before h i (by omega) h2
  ·have := Option.some.inj h; omega
theorem subR {p d : Int} (hp : pOk p) (hd : inP p d) : remI (subI .i64 p d) p = some ((p - d) % p) := by
 have h1 := hp.1; have h2 := hp.2; have h3 := hd.1; have h4 := hd.2
 rw [subI_eq (by omega) (by omega), remN (by omega) (by omega)]
theorem redS_n {p : Int} {r : Nat} {s : Mat × List Int × Int} {j : Nat} (hl : s.2.1.length < r) (h : pivF s.1 j (r - s.2.1.length) s.2.1.length = none) : redS p r s j = s := by
 unfold redS
 rw [if_pos hl, h]
theorem redS_s {p : Int} {r : Nat} {s : Mat × List Int × Int} {j k : Nat} (hl : s.2.1.length < r) (h : pivF s.1 j (r - s.2.1.length) s.2.1.length = some k) :
  redS p r s j = (clrF p (pivS p s.1 s.2.1.length j k) s.2.1.length j r, s.2.1 ++ [(j : Int)], redD p s.1 s.2.1.length j k s.2.2) := by
 unfold redS
 rw [if_pos hl, h]
theorem invI_nat {p x : Int} (hp : pOk p) (hx : inP p x) : F_impl_rawInverse (p, x) = some (invG p 1 x (p - 2).toNat) := if_pos ⟨hp, hx⟩
theorem winI_gen {r c : Nat} (M M' : Mat) : winI (genD r c M) 0 (lenN (genD r c M')) = some (genD r c M) := winI_len (by rw [lenN_gen]; exact (genD_len r c M))
theorem cnd_eq {α : Type} {b : Bool} {u v x : α} (h1 : b = true → u = x) (h2 : b = false → v = x) : cnd b u v = x := by
 cases b
 ·exact h2 rfl
 ·exact h1 rfl
section
variable {p : Int} {r c : Nat} {M0 : Mat}
end
section
variable {p : Int} {r c : Nat} {M0 : Mat}
end
end Go.Am
end
section
namespace Go.Am
theorem matOk_red {m : Int} {x : Int × Int × List Int} (h : matOk m x = true) : ∃ (r c : Nat) (M : Mat), x = ((r : Int), (c : Int), genD r c M) ∧ pOk m ∧ r ≤ 64 ∧ c ≤ 64 ∧ r * c ≤ 4096 ∧ inM m r c M ∧ M = ofD c (genD r c M) ∧ redOk (m, x) := by
 obtain ⟨r, c, M, rfl, hp, hr, hc, hrc, hM⟩ := matOk_nat h
 have e : genD r c (ofD c (genD r c M)) = genD r c M := genD_of (genD_len r c M)
 refine ⟨r, c, ofD c (genD r c M), by rw [e], hp, hr, hc, hrc, allP_gen.1 (by rw [e]; exact allP_gen.2 hM), by rw [e], hp, mOk_mk M (by omega) (by omega) (by omega), allP_gen.2 hM⟩
section
variable {p : Int} {r c : Nat} {M R : Mat} {L : List Int}
end
end Go.Am
end
section
namespace Go.Am
def ch : Nat → Nat → Nat
 | _, 0 => 1
 | 0, _ + 1 => 0
 | n + 1, k + 1 => ch n k + ch n (k + 1)
theorem ch_gt : ∀ {n k : Nat}, n < k → ch n k = 0
 | 0, k + 1, _ => by simp [ch]
 | n + 1, k + 1, h => by simp [ch, ch_gt (show n < k by omega), ch_gt (show n < k + 1 by omega)]
theorem ch_0 (n : Nat) : ch n 0 = 1 := by cases n <;> rfl
theorem ch_self : ∀ n, ch n n = 1
 | 0 => rfl
 | n + 1 => by simp [ch, ch_self n, ch_gt (Nat.lt_succ_self n)]
theorem ch_mul : ∀ (n k : Nat), (k + 1) * ch (n + 1) (k + 1) = (n + 1) * ch n k
 | 0, 0 => by simp [ch]
 | 0, k + 1 => by simp [ch]
 | n + 1, 0 => by
  have h := ch_mul n 0
  simp only [ch_0] at h ⊢
  have e : ch (n + 1 + 1) (0 + 1) = ch (n + 1) 0 + ch (n + 1) (0 + 1) := rfl
  rw [e, ch_0]
  omega
 | n + 1, k + 1 => by
  have h1 := ch_mul n k
  have h2 := ch_mul n (k + 1)
  have e1 : ch (n + 1 + 1) (k + 1 + 1) = ch (n + 1) (k + 1) + ch (n + 1) (k + 1 + 1) := rfl
  have e2 : ch (n + 1) (k + 1) = ch n k + ch n (k + 1) := rfl
  rw [e1]
  generalize ch (n + 1) (k + 1 + 1) = B at *
  generalize ch (n + 1) (k + 1) = A at *
  generalize ch n k = u at *
  generalize ch n (k + 1) = v at *
  subst e2
  grind
def sumF (f : Nat → Nat) : Nat → Nat
 | 0 => 0
 | m + 1 => sumF f m + f m
theorem sum_step (n a : Nat) : ∀ m, sumF (fun k => ch (n + 1) k * a ^ k) (m + 1) = sumF (fun k => ch n k * a ^ k) (m + 1) + a * sumF (fun k => ch n k * a ^ k) m
 | 0 => by simp [sumF, ch_0]
 | m + 1 => by
  have h := sum_step n a m
  simp only [sumF] at h ⊢
  have e : ch (n + 1) (m + 1) = ch n m + ch n (m + 1) := rfl
  rw [h, e, Nat.pow_succ]
  grind
theorem binom (a : Nat) : ∀ n, (a + 1) ^ n = sumF (fun k => ch n k * a ^ k) (n + 1)
 | 0 => by simp [sumF, ch_0]
 | n + 1 => by
  rw [sum_step]
  have e : sumF (fun k => ch n k * a ^ k) (n + 1 + 1) = sumF (fun k => ch n k * a ^ k) (n + 1) := by
   show sumF _ (n + 1) + ch n (n + 1) * a ^ (n + 1) = _
   rw [ch_gt (Nat.lt_succ_self n)]; simp
  rw [e, ← binom a n, Nat.pow_succ]
  grind
theorem sum_mod {p : Nat} {f : Nat → Nat} : ∀ m, (∀ k, 0 < k → k ≤ m → p ∣ f k) → sumF f (m + 1) % p = f 0 % p
 | 0, h => by simp [sumF]
 | m + 1, h => by
  have i := sum_mod m fun k h1 h2 => h k h1 (by omega)
  obtain ⟨c, hc⟩ := h (m + 1) (by omega) (Nat.le_refl _)
  show (sumF f (m + 1) + f (m + 1)) % p = _
  rw [hc, Nat.add_mul_mod_self_left, i]
def PrimeN (p : Nat) : Prop := 2 ≤ p ∧ ∀ d, d ∣ p → d = 1 ∨ d = p
theorem PrimeN.cop {p a : Nat} (hp : PrimeN p) (h : ¬ p ∣ a) : Nat.Coprime p a := by
 have := hp.2 (Nat.gcd p a) (Nat.gcd_dvd_left p a)
 rcases this with h1 | h1
 ·exact h1
 ·exact absurd (h1 ▸ Nat.gcd_dvd_right p a) h
theorem PrimeN.ch {p k : Nat} (hp : PrimeN p) (h1 : 0 < k) (h2 : k < p) : p ∣ ch p k := by
 obtain ⟨q, rfl⟩ : ∃ q, p = q + 1 := ⟨p - 1, by omega⟩
 obtain ⟨j, rfl⟩ : ∃ j, k = j + 1 := ⟨k - 1, by omega⟩
 have hm := ch_mul q j
 have hd : (q + 1) ∣ (j + 1) * Go.Am.ch (q + 1) (j + 1) := ⟨Go.Am.ch q j, hm⟩
 exact (hp.cop fun h => absurd (Nat.le_of_dvd (by omega) h) (by omega)).dvd_of_dvd_mul_left hd
theorem fermat0 {p : Nat} (hp : PrimeN p) : ∀ a, a ^ p % p = a % p
 | 0 => by rw [Nat.zero_pow (by have := hp.1; omega)]
 | a + 1 => by
  rw [binom]
  show (sumF _ p + Go.Am.ch p p * a ^ p) % p = _
  obtain ⟨q, rfl⟩ : ∃ q, p = q + 1 := ⟨p - 1, by have := hp.1; omega⟩
  have h := sum_mod (p := q + 1) (f := fun k => Go.Am.ch (q + 1) k * a ^ k) q fun k h1 h2 => Nat.dvd_trans (hp.ch h1 (by omega)) (Nat.dvd_mul_right _ _)
  rw [ch_self, Nat.one_mul, Nat.add_mod, h, fermat0 hp a]
  simp only [ch_0, Nat.pow_zero, Nat.mul_one]
  rw [← Nat.add_mod, Nat.add_comm]
theorem fermat {p a : Nat} (hp : PrimeN p) (ha : ¬ p ∣ a) : a * a ^ (p - 2) % p = 1 := by
 have h2 := hp.1
 have h := fermat0 hp a
 have e : a ^ p = a * (a * a ^ (p - 2)) := by
  obtain ⟨q, rfl⟩ : ∃ q, p = q + 2 := ⟨p - 2, by omega⟩
  rw [Nat.pow_succ, Nat.pow_succ, Nat.add_sub_cancel]
  rw [Nat.mul_comm a (a ^ q), Nat.mul_comm a (a ^ q * a)]
 rw [e] at h
 have ha0 : 0 < a := by
  rcases Nat.eq_zero_or_pos a with h | h
  ·subst h; exact absurd ⟨0, by simp⟩ ha
  ·exact h
 have hz : 0 < a * a ^ (p - 2) := Nat.mul_pos ha0 (Nat.pow_pos ha0)
 generalize a * a ^ (p - 2) = z at h hz ⊢
 obtain ⟨y, rfl⟩ : ∃ y, z = y + 1 := ⟨z - 1, by omega⟩
 have hd : p ∣ a * y := by
  have e : a * (y + 1) = a * y + a := by rw [Nat.mul_add, Nat.mul_one]
  rw [e] at h
  have : (a * y + a - a) % p = 0 := Nat.sub_mod_eq_zero_of_mod_eq h
  rw [Nat.add_sub_cancel] at this
  exact Nat.dvd_of_mod_eq_zero this
 obtain ⟨c, rfl⟩ := (hp.cop ha).dvd_of_dvd_mul_left hd
 rw [Nat.add_comm, Nat.add_mul_mod_self_left]
 exact Nat.mod_eq_of_lt (by omega)
end Go.Am
end
section
namespace Go.Am
theorem isPrimeI_N {p : Int} (h : isPrimeI p = true) : PrimeN p.toNat := by
 have hp := isPrimeI_t h
 obtain ⟨n, rfl⟩ := natI_eq (show 0 ≤ p by omega)
 simp only [Int.toNat_natCast]
 refine ⟨by omega, fun d hd => ?_⟩
 rcases Nat.lt_or_ge d 2 with h2 | h2
 ·rcases Nat.eq_zero_or_pos d with h0 | h0
  ·subst h0
   have := Nat.eq_zero_of_zero_dvd hd
   omega
  ·exact .inl (by omega)
 ·obtain ⟨e, he⟩ := hd
  simp only [isPrimeI, Bool.and_eq_true, decide_eq_true_eq, Bool.not_eq_true', List.any_eq_false] at h
  have key : ∀ a b : Nat, 2 ≤ a → 2 ≤ b → a ≤ b → n ≠ a * b := by
   intro a b ha hb hab e
   have h1 : a * a ≤ n := by rw [e]; exact Nat.mul_le_mul_left _ hab
   have h3 : a < 1001 := by
    rcases Nat.lt_or_ge a 1001 with h | h
    ·exact h
    ·have := Nat.mul_le_mul h h; omega
   refine h.2 a (by simp; omega) ?_
   unfold divAt
   have ea : ((a : Int)) * (a : Int) = ((a * a : Nat) : Int) := by norm_cast
   simp only [Bool.and_eq_true, decide_eq_true_eq]
   constructor
   ·rw [ea]; omega
   ·rw [e]; push_cast; exact Int.mul_emod_right _ _
  right
  rcases Nat.lt_or_ge e 2 with h3 | h3
  ·have : e = 1 := by
    rcases Nat.eq_zero_or_pos e with h0 | h0
    ·subst h0; simp at he; omega
    ·omega
   subst this; omega
  ·exfalso
   rcases Nat.le_total d e with hde | hde
   ·exact key d e h2 h3 hde he
   ·exact key e d h3 h2 hde (by rw [he, Nat.mul_comm])
theorem pow_sq (x : Int) (b : Nat) : ∀ m : Nat, (x * x) ^ m * x ^ b = x ^ (2 * m + b)
 | 0 => by simp
 | m + 1 => by
  have ih := pow_sq x b m
  rw [show 2 * (m + 1) + b = 2 * m + b + 1 + 1 by omega, Int.pow_succ, Int.pow_succ (n := 2 * m + b + 1), Int.pow_succ (n := 2 * m + b), ← ih]
  grind
theorem invG_pow {p : Int} (hp : pOk p) : ∀ (n : Nat) (out x : Int), invG p out x n % p = out * x ^ n % p := by
 intro n
 induction n using Nat.strongRecOn with
 | ind n ih =>
  intro out x
  by_cases h0 : n = 0
  ·subst h0; rw [invG_0]; simp
  ·rw [invG_s h0, ih (n / 2) (by omega)]
   have e : x ^ n = (x * x) ^ (n / 2) * x ^ (n % 2) := by
    rw [pow_sq, Nat.div_add_mod]
   rw [e]
   have h1 : ((x * x % p) ^ (n / 2)) % p = ((x * x) ^ (n / 2)) % p := by
    have : ∀ k : Nat, ((x * x % p) ^ k) % p = ((x * x) ^ k) % p := by
     intro k
     induction k with
     | zero => simp
     | succ k ih => rw [Int.pow_succ, Int.pow_succ, Int.mul_emod, ih, Int.emod_emod, ← Int.mul_emod]
    exact this _
   by_cases hb : n % 2 = 1
   ·rw [if_pos hb, hb, Int.mul_emod, h1, Int.emod_emod, ← Int.mul_emod]
    congr 1
    grind
   ·rw [if_neg hb, show n % 2 = 0 by omega, Int.mul_emod, h1, ← Int.mul_emod]
    congr 1
    grind
theorem inv_one {p x : Int} (hpr : isPrimeI p = true) (hx : inP p x) (h0 : x ≠ 0) : x * invG p 1 x (p - 2).toNat % p = 1 := by
 have hp := isPrimeI_t hpr
 have hp' : pOk p := ⟨hp.1, hp.2⟩
 obtain ⟨n, rfl⟩ := natI_eq (show 0 ≤ p by omega)
 obtain ⟨a, rfl⟩ := natI_eq hx.1
 have hN := isPrimeI_N hpr
 simp only [Int.toNat_natCast] at hN
 have ha : ¬ n ∣ a := fun h => by
  have := Nat.le_of_dvd (by omega) h
  have := hx.2
  omega
 have hf := fermat hN ha
 have e : (((n : Int)) - 2).toNat = n - 2 := by omega
 rw [Int.mul_emod, invG_pow hp', e, Int.one_mul, ← Int.mul_emod]
 exact_mod_cast hf
def sumD (f g : Nat → Int) : Nat → Int
 | 0 => 0
 | n + 1 => sumD f g n + f n * g n
theorem sumD_mod {p : Int} {f f' g : Nat → Int} : ∀ n, (∀ k, k < n → ∃ q, f k = f' k + p * q) → ∃ q, sumD f g n = sumD f' g n + p * q
 | 0, _ => ⟨0, by simp [sumD]⟩
 | n + 1, h => by
  obtain ⟨q, hq⟩ := sumD_mod (g := g) n fun k hk => h k (by omega)
  obtain ⟨q', hq'⟩ := h n (by omega)
  exact ⟨q + q' * g n, by simp only [sumD, hq, hq']; grind⟩
theorem sumD_l (f f2 g : Nat → Int) (c : Int) : ∀ n, sumD (fun k => f k + c * f2 k) g n = sumD f g n + c * sumD f2 g n
 | 0 => by simp [sumD]
 | n + 1 => by simp only [sumD, sumD_l f f2 g c n]; grind
theorem sumD_r (f g g2 : Nat → Int) (c : Int) : ∀ n, sumD f (fun k => g k - c * g2 k) n = sumD f g n - c * sumD f g2 n
 | 0 => by simp [sumD]
 | n + 1 => by simp only [sumD, sumD_r f g g2 c n]; grind
theorem sumD_sl (f g : Nat → Int) (c : Int) : ∀ n, sumD (fun k => f k * c) g n = sumD f g n * c
 | 0 => by simp [sumD]
 | n + 1 => by simp only [sumD, sumD_sl f g c n]; grind
theorem sumD_sr (f g : Nat → Int) (c : Int) : ∀ n, sumD f (fun k => g k * c) n = sumD f g n * c
 | 0 => by simp [sumD]
 | n + 1 => by simp only [sumD, sumD_sr f g c n]; grind
def dl (a b : Nat) : Int := if a = b then 1 else 0
def RInv (p : Int) (n : Nat) (E X : Mat) : Prop := ∀ a, a < n → ∀ b, b < n → ∃ q, sumD (E a) (fun k => X k b) n = dl a b + p * q
theorem RInv.congr {p : Int} {n : Nat} {E E' X : Mat} (h : RInv p n E X) (he : ∀ a, a < n → ∀ k, k < n → ∃ q, E' a k = E a k + p * q) : RInv p n E' X := by
 intro a ha b hb
 obtain ⟨q, hq⟩ := h a ha b hb
 obtain ⟨q', hq'⟩ := sumD_mod (p := p) (f := E' a) (f' := E a) (g := fun k => X k b) n (he a ha)
 exact ⟨q + q', by rw [hq', hq]; grind⟩
theorem RInv.swap {p : Int} {n : Nat} {E X : Mat} (h : RInv p n E X) {s t : Nat} (hs : s < n) (ht : t < n) : ∃ X', RInv p n (swapF E s t) X' := by
 let sw : Nat → Nat := fun i => if i = s then t else if i = t then s else i
 have hsw : ∀ i, i < n → sw i < n := by
  intro i hi
  show (if i = s then t else if i = t then s else i) < n
  split
  ·exact ht
  ·split
   ·exact hs
   ·exact hi
 have hinj : ∀ i j, sw i = sw j → i = j := by
  intro i j
  show (if i = s then t else if i = t then s else i) = (if j = s then t else if j = t then s else j) → i = j
  intro h
  repeat' split at h
  all_goals omega
 refine ⟨fun k b => X k (sw b), fun a ha b hb => ?_⟩
 obtain ⟨q, hq⟩ := h (sw a) (hsw a ha) (sw b) (hsw b hb)
 refine ⟨q, ?_⟩
 have e : swapF E s t a = E (sw a) := by
  funext k
  show (if a = s then E t k else if a = t then E s k else E a k) = E (if a = s then t else if a = t then s else a) k
  split
  ·rfl
  ·split <;> rfl
 rw [e, hq]
 congr 1
 unfold dl
 by_cases hab : a = b
 ·subst hab; simp
 ·rw [if_neg hab, if_neg fun h => hab (hinj _ _ h)]
theorem RInv.scale {p inv u : Int} {n : Nat} {E X : Mat} (h : RInv p n E X) {t : Nat} (ht : t < n) (hu : u * inv % p = 1) : ∃ X', RInv p n (sclF p inv E t) X' := by
 have hu' : ∃ z, u * inv = 1 + p * z := ⟨u * inv / p, by have := Int.emod_add_mul_ediv (u * inv) p; omega⟩
 obtain ⟨z, hz⟩ := hu'
 refine ⟨fun k b => if b = t then X k t * u else X k b, RInv.congr (E := fun a k => if a = t then E t k * inv else E a k) (fun a ha b hb => ?_) (fun a ha k hk => ?_)⟩
 ·obtain ⟨q, hq⟩ := h a ha b hb
  by_cases hat : a = t
  ·subst hat
   by_cases hbt : b = a
   ·subst hbt
    refine ⟨z + q * inv * u, ?_⟩
    simp only [if_true]
    rw [sumD_sl, sumD_sr, hq, dl, if_pos rfl]
    grind
   ·refine ⟨q * inv, ?_⟩
    simp only [if_true, if_neg hbt]
    rw [sumD_sl, hq, dl, if_neg (Ne.symm hbt)]
    grind
  ·by_cases hbt : b = t
   ·subst hbt
    refine ⟨q * u, ?_⟩
    simp only [if_neg hat, if_true]
    rw [sumD_sr]
    have : sumD (fun k => E a k) (fun k => X k b) n = dl a b + p * q := hq
    rw [this, dl, if_neg hat]
    grind
   ·refine ⟨q, ?_⟩
    simp only [if_neg hat, if_neg hbt]
    exact hq
 ·unfold sclF
  by_cases hat : a = t
  ·simp only [hat, if_true]
   refine ⟨-(E t k * inv / p), ?_⟩
   have := Int.emod_add_mul_ediv (E t k * inv) p
   have e : p * -(E t k * inv / p) = -(p * (E t k * inv / p)) := Int.mul_neg _ _
   omega
  ·simp only [hat, if_false]
   exact ⟨0, by simp⟩
theorem RInv.add {p f : Int} {n : Nat} {E E' X : Mat} (h : RInv p n E X) {m t : Nat} (hm : m < n) (ht : t < n) (hmt : m ≠ t) (he : ∀ a, a < n → ∀ k, k < n → ∃ q, E' a k = (if a = m then E m k + f * E t k else E a k) + p * q) : ∃ X', RInv p n E' X' := by
 refine ⟨fun k b => if b = t then X k t - f * X k m else X k b, RInv.congr (E := fun a k => if a = m then E m k + f * E t k else E a k) (fun a ha b hb => ?_) he⟩
 obtain ⟨q1, h1⟩ := h a ha b hb
 obtain ⟨q2, h2⟩ := h t ht b hb
 obtain ⟨q3, h3⟩ := h a ha m hm
 obtain ⟨q4, h4⟩ := h t ht m hm
 have h1' : sumD (fun k => E a k) (fun k => X k b) n = dl a b + p * q1 := h1
 have h2' : sumD (fun k => E t k) (fun k => X k b) n = dl t b + p * q2 := h2
 have h3' : sumD (fun k => E a k) (fun k => X k m) n = dl a m + p * q3 := h3
 have h4' : sumD (fun k => E t k) (fun k => X k m) n = dl t m + p * q4 := h4
 have d1 : dl t m = 0 := if_neg (Ne.symm hmt)
 by_cases ham : a = m
 ·subst ham
  have d2 : dl a a = 1 := if_pos rfl
  by_cases hbt : b = t
  ·subst hbt
   have d3 : dl a b = 0 := if_neg hmt
   have d4 : dl b b = 1 := if_pos rfl
   refine ⟨q1 + f * q2 - f * q3 - f * f * q4, ?_⟩
   simp only [if_true]
   rw [sumD_l, sumD_r, sumD_r, h1', h2', h3', h4', d1, d2, d3, d4]
   grind
  ·refine ⟨q1 + f * q2, ?_⟩
   have d3 : dl t b = 0 := if_neg (Ne.symm hbt)
   simp only [if_true, if_neg hbt]
   rw [sumD_l, h1', h2', d3]
   grind
 ·by_cases hbt : b = t
  ·subst hbt
   have d3 : dl a m = 0 := if_neg ham
   refine ⟨q1 - f * q3, ?_⟩
   simp only [if_neg ham, if_true]
   rw [sumD_r, h1', h3', d3]
   grind
  ·refine ⟨q1, ?_⟩
   simp only [if_neg ham, if_neg hbt]
   exact h1'
def RK (p : Int) (n : Nat) (s : Mat × List Int × Int) (j : Nat) : Prop :=
 (∃ X, RInv p n (fun a k => s.1 a (n + k)) X) ∧ ∀ b, b < j → ∀ i, s.2.1.length ≤ i → i < n → s.1 i b = 0
theorem RK.step {p : Int} {n : Nat} {s : Mat × List Int × Int} {j : Nat} (hpr : isPrimeI p = true) (hj : j < 2 * n) (I : RI p n (2 * n) s j) (h : RK p n s j) : RK p n (redS p n s j) (j + 1) := by
 have hp : pOk p := isPrimeI_t hpr
 obtain ⟨⟨X, hX⟩, hz⟩ := h
 obtain ⟨M, L, d⟩ := s
 simp only at hX hz
 by_cases hl : L.length < n
 ·cases hk : pivF M j (n - L.length) L.length with
  | none =>
   rw [redS_n (s := (M, L, d)) hl hk]
   refine ⟨⟨X, hX⟩, fun b hb i h1 h2 => ?_⟩
   by_cases hbj : b = j
   ·subst hbj; exact pivF_none hk i h1 (by simp only at h1; omega)
   ·exact hz b (by omega) i h1 h2
  | some k =>
   rw [redS_s (s := (M, L, d)) hl hk]
   simp only
   have hq := pivF_lt hk
   have hkn : k < n := by omega
   have hM : inM p n (2 * n) M := I.m
   have hx : inP p (M k j) := hM k hkn j hj
   have hsw : swapF M L.length k L.length j = M k j := if_pos rfl
   have hi := inv_one hpr hx hq.2.2
   generalize hinv : invG p 1 (M k j) (p - 2).toNat = inv at hi
   have hpiv : pivS p M L.length j k = sclF p inv (swapF M L.length k) L.length := by unfold pivS; rw [hsw, hinv]
   rw [hpiv]
   have hS : inM p n (2 * n) (swapF M L.length k) := swapF_in hM hl hkn
   generalize hM2 : sclF p inv (swapF M L.length k) L.length = M2
   have hM2i : inM p n (2 * n) M2 := by rw [← hM2]; exact sclF_in hp hS _
   constructor
   ·obtain ⟨X1, hX1⟩ := hX.swap (s := L.length) (t := k) hl hkn
    obtain ⟨X2, hX2⟩ := hX1.scale (inv := inv) (u := M k j) hl hi
    have base : RInv p n (fun a b => clrF p M2 L.length j 0 a (n + b)) X2 := by
     rw [clrF_0, ← hM2]; exact hX2
    have key : ∀ m, m ≤ n → ∃ X', RInv p n (fun a b => clrF p M2 L.length j m a (n + b)) X' := by
     intro m
     induction m with
     | zero => intro _; exact ⟨X2, base⟩
     | succ m ih =>
      intro hm
      obtain ⟨X', hX'⟩ := ih (by omega)
      by_cases hmt : m = L.length
      ·subst hmt
       rw [clrF_skip]; exact ⟨X', hX'⟩
      ·refine hX'.add (f := p - M2 m j) (m := m) (t := L.length) (by omega) hl hmt fun a ha b hb => ?_
       show ∃ q, clrF p M2 L.length j (m + 1) a (n + b) = _
       by_cases ham : a = m
       ·subst ham
        rw [if_pos rfl]
        show ∃ q, clrF p M2 L.length j (a + 1) a (n + b) = (clrF p M2 L.length j a a (n + b) + (p - M2 a j) * clrF p M2 L.length j a L.length (n + b)) + p * q
        rw [clrF_old, clrF_t]
        unfold clrF
        rw [if_pos ⟨by omega, hmt⟩]
        refine ⟨-((M2 a (n + b) + (p - M2 a j) * M2 L.length (n + b)) / p), ?_⟩
        have e1 := Int.emod_add_mul_ediv (M2 a (n + b) + (p - M2 a j) * M2 L.length (n + b)) p
        have e2 := Int.mul_neg p ((M2 a (n + b) + (p - M2 a j) * M2 L.length (n + b)) / p)
        omega
       ·rw [if_neg ham]
        refine ⟨0, ?_⟩
        show clrF p M2 L.length j (m + 1) a (n + b) = clrF p M2 L.length j m a (n + b) + p * 0
        unfold clrF
        by_cases hc : a < m ∧ a ≠ L.length
        ·rw [if_pos hc, if_pos ⟨by omega, hc.2⟩]; simp
        ·rw [if_neg hc, if_neg (by omega)]; simp
    exact key n (Nat.le_refl _)
   ·intro b hb i h1 h2
    simp only [List.length_append, List.length_cons, List.length_nil] at h1
    show clrF p M2 L.length j n i b = 0
    unfold clrF
    rw [if_pos ⟨h2, by omega⟩]
    have e2 : ∀ c, M2 i c = swapF M L.length k i c := fun c => by rw [← hM2]; exact if_neg (by omega)
    have e3 : ∀ c, M2 L.length c = M k c * inv % p := fun c => by rw [← hM2]; show (if L.length = L.length then _ else _) = _; rw [if_pos rfl]; congr 2; exact if_pos rfl
    by_cases hbj : b = j
    ·subst hbj
     rw [e3 b, hi]
     have : M2 i b + (p - M2 i b) * 1 = p := by omega
     rw [this]; exact Int.emod_self
    ·have hbj' : b < j := by omega
     rw [e3 b, hz b hbj' k hq.1 hkn, e2 b]
     have : swapF M L.length k i b = 0 := by
      unfold swapF
      rw [if_neg (by omega)]
      split
      ·exact hz b hbj' L.length (Nat.le_refl _) hl
      ·exact hz b hbj' i (by omega) h2
     rw [this]; simp
 ·unfold redS
  rw [if_neg hl]
  exact ⟨⟨X, hX⟩, fun b hb i h1 h2 => by simp only at h1; omega⟩
end Go.Am
end
section
namespace Go.Am
def wideF (n : Nat) (M : Mat) : Mat := fun a b => if b < n then M a b else dl a (b - n)
def wideM (n : Nat) (M : Mat) : Mat := ofD (2 * n) (genD n (2 * n) (wideF n M))
def invX (p : Int) (n : Nat) (M : Mat) : Mat × List Int × Int := redN p n (wideM n M) (2 * n)
def invOk (p : Int) (n : Nat) (M : Mat) : Prop := ∀ i, i < n → (invX p n M).2.1.getD i 0 = (i : Int)
instance (p : Int) (n : Nat) (M : Mat) : Decidable (invOk p n M) := inferInstanceAs (Decidable (∀ i, i < n → (invX p n M).2.1.getD i 0 = (i : Int)))
section
variable {p : Int} {n : Nat} {M R : Mat} {L : List Int}
end
section
variable {p : Int} {n : Nat} {M R : Mat} {L : List Int}
end
end Go.Am
end
section
namespace Go.Am
abbrev Mx3 := Int × Int × List Int
abbrev Aut := Int × Int × List Int × List (Int × Int × List Int) × List Int
def wOk (k : Nat) (w : List Int) : Prop := ∀ c ∈ w, 0 ≤ c ∧ c < (k : Int)
instance (k : Nat) (w : List Int) : Decidable (wOk k w) := inferInstanceAs (Decidable (∀ c ∈ w, 0 ≤ c ∧ c < (k : Int)))
def reachOk (x : Aut × List Int) : Prop := autOk x.1 = true ∧ wOk x.1.2.2.2.1.length x.2 ∧ x.2.length ≤ 1048576
instance (x : Aut × List Int) : Decidable (reachOk x) := by unfold reachOk; infer_instance
theorem rowOk_P {m : Int} {l : List Int} : rowOk m l = true ↔ allP m l := by
 simp only [rowOk, allP, List.all_eq_true, inB, decide_eq_true_eq, inP]
structure AutOk (p : Int) (n : Nat) (a : List Int) (ms : List Mx3) (b : List Int) : Prop where
 pr : isPrimeI p = true
 hn : n ≤ 12
 al : a.length = n
 ap : allP p a
 bl : b.length = n
 bp : allP p b
 l1 : 1 ≤ ms.length
 l4 : ms.length ≤ 4
 hm : ∀ x ∈ ms, ∃ M : Mat, x = ((n : Int), (n : Int), genD n n M) ∧ inM p n n M
theorem AutOk.p {p : Int} {n : Nat} {a b : List Int} {ms : List Mx3} (h : AutOk p n a ms b) : pOk p := isPrimeI_t h.pr
theorem ofD_in {p : Int} {r c : Nat} {l : List Int} (hl : l.length = r * c) (h : allP p l) : inM p r c (ofD c l) := allP_gen.1 (by rw [genD_of hl]; exact h)
section
variable {p : Int} {n : Nat} {a b : List Int} {ms : List Mx3}
end
end Go.Am
end
section
namespace Go.Am
section
variable {p : Int} {n m : Nat} {a b a2 b2 : List Int} {ms ms2 : List Mx3}
end
section
variable {p sg : Int} {n m : Nat} {a b a2 b2 : List Int} {ms ms2 : List Mx3}
end
end Go.Am
end
section
namespace Go.Am
section
variable {n : Int} {d : List (Int × Int)} {a b : Int}
end
end Go.Am
end
section
namespace Go.Am
def relab (b a : Int) (l : List Int) : List Int := l.map fun x => if x = b then a else x
def atI (l : List Int) (i : Int) : Int := l.getD i.toNat 0
def iotaI (n : Nat) : List Int := (List.range n).map fun i => ((i : Nat) : Int)
def partStep (s : Nat) (i : Nat) (st : Int × List Int) (e : Int × Int) : Int × List Int :=
 if s.testBit i = true ∧ atI st.2 e.1 ≠ atI st.2 e.2 then (st.1 - 1, relab (atI st.2 e.2) (atI st.2 e.1) st.2) else st
def parts (n : Int) (es : List (Int × Int)) (s : Int) : Int × List Int := foldN (partStep s.toNat) 0 (n, iotaI n.toNat) es
def leastStep (s : Nat) (i : Nat) (l : List Int) (e : Int × Int) : List Int :=
 if s.testBit i = true then relab (max (atI l e.1) (atI l e.2)) (min (atI l e.1) (atI l e.2)) l else l
def fixes (l : List Int) : Int := ((List.range l.length).countP fun i => l.getD i 0 == (i : Int) : Nat)
theorem iotaI_len (n : Nat) : (iotaI n).length = n := by simp [iotaI]
theorem relab_len (b a : Int) (l : List Int) : (relab b a l).length = l.length := by simp [relab]
theorem minI_eq (a b : Int) : minI a b = min a b := by unfold minI; split <;> omega
theorem countP_succ (p : Nat → Bool) (j : Nat) : (List.range (j + 1)).countP p = (List.range j).countP p + (if p j = true then 1 else 0) := by
 rw [List.range_succ, List.countP_append, List.countP_singleton]
theorem countP_one (p q : Nat → Bool) (k : Nat) : ∀ n, k < n → (∀ i, i < n → i ≠ k → p i = q i) → p k = true → q k = false → (List.range n).countP p = (List.range n).countP q + 1
 | 0, h, _, _, _ => by omega
 | n + 1, h, hpq, h1, h2 => by
  rw [countP_succ, countP_succ]
  by_cases hk : k = n
  ·subst hk
   rw [h1, h2]
   have : (List.range k).countP p = (List.range k).countP q := List.countP_congr fun i hi => by
    have := List.mem_range.1 hi
    rw [hpq i (by omega) (by omega)]
   rw [this]
   simp
  ·rw [countP_one p q k n (by omega) (fun i hi => hpq i (by omega)) h1 h2, hpq n (by omega) (by omega)]
   omega
structure PInv (m : Nat) (l : List Int) (c : Int) (q : List Int) : Prop where
 ll : l.length = m
 lq : q.length = m
 same : ∀ i j : Nat, i < m → j < m → (l.getD i 0 = l.getD j 0 ↔ q.getD i 0 = q.getD j 0)
 low : ∀ i : Nat, i < m → 0 ≤ l.getD i 0 ∧ l.getD i 0 ≤ (i : Int) ∧ l.getD (l.getD i 0).toNat 0 = l.getD i 0
 cnt : fixes l = c
theorem relab_getD {b a : Int} {l : List Int} {i : Nat} (h : i < l.length) : (relab b a l).getD i 0 = if l.getD i 0 = b then a else l.getD i 0 := by
 simp [relab, List.getD, List.getElem?_map, List.getElem?_eq_getElem h]
theorem relab_self (b : Int) (l : List Int) : relab b b l = l := by
 unfold relab
 conv => rhs; rw [← List.map_id l]
 refine List.map_congr_left fun x _ => ?_
 split
 ·rename_i h; exact h.symm
 ·rfl
theorem merge_eq {b a x y : Int} : ((if x = b then a else x) = (if y = b then a else y)) ↔ (x = y ∨ ((x = b ∨ x = a) ∧ (y = b ∨ y = a))) := by
 constructor
 ·intro h; split at h <;> split at h <;> omega
 ·intro h; split <;> split <;> omega
theorem PInv.step {m : Nat} {l : List Int} {c : Int} {q : List Int} (h : PInv m l c q) {u v : Nat} (hu : u < m) (hv : v < m) {s i : Nat} :
  PInv m (leastStep s i l ((u : Int), (v : Int))) (partStep s i (c, q) ((u : Int), (v : Int))).1 (partStep s i (c, q) ((u : Int), (v : Int))).2 := by
 cases hb : s.testBit i with
 | false =>
  have e1 : leastStep s i l ((u : Int), (v : Int)) = l := if_neg (by rw [hb]; decide)
  have e2 : partStep s i (c, q) ((u : Int), (v : Int)) = (c, q) := if_neg (fun hh => by rw [hb] at hh; exact absurd hh.1 (by decide))
  rw [e1, e2]
  exact h
 | true =>
  have ep : q.getD u 0 = q.getD v 0 → partStep s i (c, q) ((u : Int), (v : Int)) = (c, q) := fun h => if_neg (fun hh => hh.2 h)
  have en : q.getD u 0 ≠ q.getD v 0 → partStep s i (c, q) ((u : Int), (v : Int)) = (c - 1, relab (q.getD v 0) (q.getD u 0) q) := fun h => if_pos ⟨hb, h⟩
  have el : leastStep s i l ((u : Int), (v : Int)) = relab (max (l.getD u 0) (l.getD v 0)) (min (l.getD u 0) (l.getD v 0)) l := if_pos hb
  obtain ⟨ll, lq, same, low, cnt⟩ := h
  by_cases hq : q.getD u 0 = q.getD v 0
  ·have hl := (same u v hu hv).2 hq
   rw [ep hq, el, hl, Int.max_self, Int.min_self, relab_self]
   exact ⟨ll, lq, same, low, cnt⟩
  ·have hl : l.getD u 0 ≠ l.getD v 0 := fun e => hq ((same u v hu hv).1 e)
   rw [en hq, el]
   obtain ⟨lu0, lu1, lu2⟩ := low u hu
   obtain ⟨lv0, lv1, lv2⟩ := low v hv
   -- lo and hi
   obtain ⟨lo, hi, e1, e2, hlt, hset, hlo0, hlo, hhi, hhim⟩ : ∃ lo hi : Nat, min (l.getD u 0) (l.getD v 0) = (lo : Int) ∧ max (l.getD u 0) (l.getD v 0) = (hi : Int) ∧ lo < hi ∧
     (∀ x : Int, (x = (hi : Int) ∨ x = (lo : Int)) ↔ (x = l.getD v 0 ∨ x = l.getD u 0)) ∧ lo < m ∧ l.getD lo 0 = (lo : Int) ∧ l.getD hi 0 = (hi : Int) ∧ hi < m := by
    obtain ⟨a, ha⟩ := natI_eq lu0
    obtain ⟨b, hb⟩ := natI_eq lv0
    rw [ha, Int.toNat_natCast] at lu2
    rw [hb, Int.toNat_natCast] at lv2
    rw [ha] at lu1 hl
    rw [hb] at lv1 hl
    rw [ha, hb]
    rcases Nat.lt_or_ge a b with hab | hab
    ·exact ⟨a, b, by omega, by omega, hab, fun x => by omega, by omega, lu2, lv2, by omega⟩
    ·exact ⟨b, a, by omega, by omega, by omega, fun x => by omega, by omega, lv2, lu2, by omega⟩
   rw [e1, e2]
   have gl : ∀ j, j < m → (relab (hi : Int) (lo : Int) l).getD j 0 = if l.getD j 0 = (hi : Int) then (lo : Int) else l.getD j 0 := fun j hj => relab_getD (by omega)
   have gq : ∀ j, j < m → (relab (q.getD v 0) (q.getD u 0) q).getD j 0 = if q.getD j 0 = q.getD v 0 then q.getD u 0 else q.getD j 0 := fun j hj => relab_getD (by omega)
   refine ⟨by rw [relab_len]; exact ll, by rw [relab_len]; exact lq, ?_, ?_, ?_⟩
   ·intro x y hx hy
    rw [gl x hx, gl y hy, gq x hx, gq y hy, merge_eq, merge_eq, hset, hset, same x y hx hy, same x u hx hu, same x v hx hv, same y u hy hu, same y v hy hv]
   ·intro x hx
    obtain ⟨h0, h1, h2⟩ := low x hx
    rw [gl x hx]
    by_cases hxh : l.getD x 0 = (hi : Int)
    ·rw [if_pos hxh]
     refine ⟨by omega, by omega, ?_⟩
     rw [Int.toNat_natCast, gl lo hlo0, hlo, if_neg (by omega)]
    ·rw [if_neg hxh]
     refine ⟨h0, h1, ?_⟩
     rw [gl _ (by omega), h2, if_neg hxh]
   ·have hc := countP_one (fun j => l.getD j 0 == (j : Int)) (fun j => (relab (hi : Int) (lo : Int) l).getD j 0 == (j : Int)) hi m hhim ?_ (by rw [hhi]; simp) (by rw [gl hi hhim, if_pos hhi]; simp; omega)
    ·unfold fixes at cnt ⊢
     rw [relab_len, ll]
     rw [ll, hc] at cnt
     omega
    ·intro j hj hne
     rw [gl j hj]
     by_cases hjh : l.getD j 0 = (hi : Int)
     ·rw [if_pos hjh, hjh, Bool.eq_iff_iff]
      simp only [beq_iff_eq]
      constructor
      ·intro h; omega
      ·intro h
       have : lo = j := by omega
       subst this
       omega
     ·rw [if_neg hjh]
theorem iotaI_getD {m i : Nat} (h : i < m) : (iotaI m).getD i 0 = (i : Int) := by
 simp [iotaI, List.getD, List.getElem?_map, List.getElem?_range h]
theorem PInv.init (m : Nat) : PInv m (iotaI m) (m : Int) (iotaI m) := by
 refine ⟨iotaI_len m, iotaI_len m, fun _ _ _ _ => Iff.rfl, fun i hi => ?_, ?_⟩
 ·rw [iotaI_getD hi, Int.toNat_natCast, iotaI_getD hi]
  omega
 ·unfold fixes
  rw [iotaI_len]
  have : (List.range m).countP (fun i => (iotaI m).getD i 0 == (i : Int)) = (List.range m).length := by
   rw [List.countP_eq_length]
   intro i hi
   rw [iotaI_getD (List.mem_range.1 hi)]
   simp
  rw [this, List.length_range]
end Go.Am
end
section
namespace Go.Am
theorem loopT_ex {X Y : Type} {f : X → Option (X ⊕ Y)} (n : Nat) (I : Nat → X → Prop) (Q : Y → Prop)
  (h1 : ∀ i x, i < n → I i x → ∃ x', f x = some (.inl x') ∧ I (i + 1) x') (h2 : ∀ x, I n x → ∃ r, f x = some (.inr r) ∧ Q r) {x0 : X} (h0 : I 0 x0) {N : Nat} (hN : n < N) : ∃ r, loopT N f x0 = some r ∧ Q r := by
 have key : ∀ (k i : Nat) (x : X), i + k = n → I i x → ∀ N, k < N → ∃ r, loopT N f x = some r ∧ Q r := by
  intro k
  induction k with
  | zero =>
   intro i x hi hx N hN
   obtain ⟨N, rfl⟩ : ∃ M, N = M + 1 := ⟨N - 1, by omega⟩
   have : i = n := by omega
   subst this
   obtain ⟨r, e, q⟩ := h2 x hx
   exact ⟨r, by simp only [loopT, e], q⟩
  | succ k ih =>
   intro i x hi hx N hN
   obtain ⟨N, rfl⟩ : ∃ M, N = M + 1 := ⟨N - 1, by omega⟩
   obtain ⟨x', e, hx'⟩ := h1 i x (by omega) hx
   obtain ⟨r, e', q⟩ := ih (i + 1) x' (by omega) hx' N (by omega)
   exact ⟨r, by simp only [loopT, e]; exact e', q⟩
 exact key n 0 x0 (by omega) h0 N hN
abbrev Cu : Type := List Int × Int × Int
def CuOk (c : Cu) : Prop := 0 ≤ c.2.1 ∧ c.1.length ≤ 1048576
theorem and_bits (a : Int) : 0 ≤ andI .i64 a 255 ∧ andI .i64 a 255 ≤ 255 := by
 have e : andI .i64 a 255 = IntKind.wrap .i64 (((BitVec.ofInt 64 a &&& BitVec.ofInt 64 255).toNat : Nat) : Int) := rfl
 have h : (BitVec.ofInt 64 a &&& BitVec.ofInt 64 255).toNat ≤ 255 := by
  rw [BitVec.toNat_and]
  exact Nat.le_trans Nat.and_le_right (by decide)
 rw [e]
 generalize (BitVec.ofInt 64 a &&& BitVec.ofInt 64 255).toNat = m at h
 rw [wraps_i64 _ (by omega) (by omega)]
 omega
theorem fulI_nil0 {α : Type} : fulI 0 0 (lenN ([] : List α)) = some () := rfl
def ag_spec_l01New : Sig := [(.one, [.list [.int .u8]])]
def rs_spec_l01New : Sig := [(.ptr, [.list [.int .u8], .int .i64, .int .i64])]
def mu_spec_l01New : MSig := [[some .bor]]
def G_spec_l01New (NN : Nat) : (List Int) → (Option ((List Int) × (Int × Int))) :=
 (fun (l0 : (List Int)) =>
 joinK (loopT NN (fun ((l1, i2, i3) : ((List Int) × (Int × Int))) =>
 cnd (ltI i3 (natI (lenN l1)))
 (cnd (ltI i3 (4000 : Int))
 ((getI l1 i3).bnd (fun i4 =>
 some (Sum.inl (l1, andI .i64 (addI .i64 (addI .i64 (mulI .i64 i2 131) (convI .i64 i4)) (7 : Int)) (1073741823 : Int), addI .i64 i3 1))))
 (some (Sum.inr (Sum.inl (l1, i2)))))
 (some (Sum.inr (Sum.inl (l1, i2)))))
 (l0, addI .i64 (55127 : Int) (natI (lenN l0)), (0 : Int)))
 (fun (l5, i6) =>
 some (l5, (0 : Int), i6)))

def F_spec_l01New : (List Int) → (Option ((List Int) × (Int × Int))) := G_spec_l01New FUEL
theorem f_spec_l01New (x : (List Int)) (z : ((List Int) × (Int × Int))) (h : F_spec_l01New x = some z) : G_spec_l01New FUEL x = some z := h
def ag_spec_l45At : Sig := [(.one, [.list [.int .u8]]), (.one, [.int .i64])]
def rs_spec_l45At : Sig := [(.ptr, [.list [.int .u8], .int .i64, .int .i64])]
def mu_spec_l45At : MSig := [[some .bor]]
def G_spec_l45At (NN : Nat) : ((List Int) × Int) → (Option ((List Int) × (Int × Int))) :=
 (fun ((l0, i1) : ((List Int) × Int)) =>
 (F_spec_l01New l0).bnd (fun (l2, i3, i4) =>
 some (l2, minI i1 (natI (lenN l0)), andI .i64 (addI .i64 (addI .i64 (mulI .i64 i4 31) (mulI .i64 i1 7919)) (1 : Int)) (1073741823 : Int))))

def F_spec_l45At : ((List Int) × Int) → (Option ((List Int) × (Int × Int))) := G_spec_l45At FUEL
theorem f_spec_l45At (x : ((List Int) × Int)) (z : ((List Int) × (Int × Int))) (h : F_spec_l45At x = some z) : G_spec_l45At FUEL x = some z := h
def ag_spec_l01Byte : Sig := [(.ptr, [.list [.int .u8], .int .i64, .int .i64])]
def rs_spec_l01Byte : Sig := [(.one, [.int .i64]), (.ptr, [.list [.int .u8], .int .i64, .int .i64])]
def mu_spec_l01Byte : MSig := [[some .bor]]
def G_spec_l01Byte (NN : Nat) : ((List Int) × (Int × Int)) → (Option (Int × ((List Int) × (Int × Int)))) :=
 (fun ((l0, i1, i2) : ((List Int) × (Int × Int))) =>
 (shrI .i64 (addI .i64 (mulI .i64 i2 6364136223846793005) (1442695040888963407 : Int)) (33 : Int)).bnd (fun i3 =>
 (shrI .i64 (addI .i64 (mulI .i64 i2 6364136223846793005) (1442695040888963407 : Int)) (45 : Int)).bnd (fun i4 =>
 joinK (cnd (ltI i1 (natI (lenN l0)))
 ((getI l0 i1).bnd (fun i5 =>
 some (Sum.inl (andI .i64 (addI .i64 (andI .i64 (xorI .i64 i3 i4) (255 : Int)) (convI .i64 i5)) (255 : Int), l0, addI .i64 i1 1, addI .i64 (mulI .i64 i2 6364136223846793005) (1442695040888963407 : Int)))))
 (some (Sum.inl (andI .i64 (xorI .i64 i3 i4) (255 : Int), l0, i1, addI .i64 (mulI .i64 i2 6364136223846793005) (1442695040888963407 : Int)))))
 (fun (i6, l7, i8, i9) =>
 some (i6, l7, i8, i9)))))

def F_spec_l01Byte : ((List Int) × (Int × Int)) → (Option (Int × ((List Int) × (Int × Int)))) := G_spec_l01Byte FUEL
theorem f_spec_l01Byte (x : ((List Int) × (Int × Int))) (z : (Int × ((List Int) × (Int × Int)))) (h : F_spec_l01Byte x = some z) : G_spec_l01Byte FUEL x = some z := h
def ag_spec_l01Below : Sig := [(.ptr, [.list [.int .u8], .int .i64, .int .i64]), (.one, [.int .i64])]
def rs_spec_l01Below : Sig := [(.one, [.int .i64]), (.ptr, [.list [.int .u8], .int .i64, .int .i64])]
def mu_spec_l01Below : MSig := [[some .bor]]
def G_spec_l01Below (NN : Nat) : (((List Int) × (Int × Int)) × Int) → (Option (Int × ((List Int) × (Int × Int)))) :=
 (fun (((l0, i1, i2), i3) : (((List Int) × (Int × Int)) × Int)) =>
 cnd (leI i3 (0 : Int))
 (some ((0 : Int), l0, i1, i2))
 ((F_spec_l01Byte (l0, i1, i2)).bnd (fun (i4, l5, i6, i7) =>
 (remI i4 i3).bnd (fun i8 =>
 some (i8, l5, i6, i7)))))

def F_spec_l01Below : (((List Int) × (Int × Int)) × Int) → (Option (Int × ((List Int) × (Int × Int)))) := G_spec_l01Below FUEL
theorem f_spec_l01Below (x : (((List Int) × (Int × Int)) × Int)) (z : (Int × ((List Int) × (Int × Int)))) (h : F_spec_l01Below x = some z) : G_spec_l01Below FUEL x = some z := h
def ag_spec_l01Once : Sig := [(.ptr, [.list [.int .u8], .int .i64, .int .i64]), (.one, [.int .i64])]
def rs_spec_l01Once : Sig := [(.one, [.bool]), (.ptr, [.list [.int .u8], .int .i64, .int .i64])]
def mu_spec_l01Once : MSig := [[some .bor]]
def G_spec_l01Once (NN : Nat) : (((List Int) × (Int × Int)) × Int) → (Option (Bool × ((List Int) × (Int × Int)))) :=
 (fun (((l0, i1, i2), i3) : (((List Int) × (Int × Int)) × Int)) =>
 (F_spec_l01Below ((l0, i1, i2), i3)).bnd (fun (i4, l5, i6, i7) =>
 some (eqI i4 (0 : Int), l5, i6, i7)))

def F_spec_l01Once : (((List Int) × (Int × Int)) × Int) → (Option (Bool × ((List Int) × (Int × Int)))) := G_spec_l01Once FUEL
theorem f_spec_l01Once (x : (((List Int) × (Int × Int)) × Int)) (z : (Bool × ((List Int) × (Int × Int)))) (h : F_spec_l01Once x = some z) : G_spec_l01Once FUEL x = some z := h
def ag_spec_l01Pick : Sig := [(.ptr, [.list [.int .u8], .int .i64, .int .i64]), (.one, [.list [.int .i64]])]
def rs_spec_l01Pick : Sig := [(.one, [.int .i64]), (.ptr, [.list [.int .u8], .int .i64, .int .i64])]
def mu_spec_l01Pick : MSig := [[some .bor]]
def G_spec_l01Pick (NN : Nat) : (((List Int) × (Int × Int)) × (List Int)) → (Option (Int × ((List Int) × (Int × Int)))) :=
 (fun (((l0, i1, i2), l3) : (((List Int) × (Int × Int)) × (List Int))) =>
 (F_spec_l01Below ((l0, i1, i2), natI (lenN l3))).bnd (fun (i4, l5, i6, i7) =>
 (getI l3 i4).bnd (fun i8 =>
 some (i8, l5, i6, i7))))

def F_spec_l01Pick : (((List Int) × (Int × Int)) × (List Int)) → (Option (Int × ((List Int) × (Int × Int)))) := G_spec_l01Pick FUEL
theorem f_spec_l01Pick (x : (((List Int) × (Int × Int)) × (List Int))) (z : (Int × ((List Int) × (Int × Int)))) (h : F_spec_l01Pick x = some z) : G_spec_l01Pick FUEL x = some z := h
def ag_spec_MakeNum : Sig := [(.one, [.list [.int .u8]]), (.one, [.int .i64])]
def rs_spec_MakeNum : Sig := [(.one, [.int .i64])]
def mu_spec_MakeNum : MSig := [[some .bor]]
def G_spec_MakeNum (NN : Nat) : ((List Int) × Int) → (Option Int) :=
 (fun ((l0, i1) : ((List Int) × Int)) =>
 (F_spec_l45At (l0, i1)).bnd (fun (l2, i3, i4) =>
 (F_spec_l01Byte (l2, i3, i4)).bnd (fun (i5, l6, i7, i8) =>
 (F_spec_l01Byte (l6, i7, i8)).bnd (fun (i9, l10, i11, i12) =>
 some (addI .i64 (mulI .i64 (256 : Int) i5) i9)))))

def F_spec_MakeNum : ((List Int) × Int) → (Option Int) := G_spec_MakeNum FUEL
theorem f_spec_MakeNum (x : ((List Int) × Int)) (z : Int) (h : F_spec_MakeNum x = some z) : G_spec_MakeNum FUEL x = some z := h
def ag_spec_MakeSize : Sig := [(.one, [.list [.int .u8]]), (.one, [.int .i64]), (.one, [.int .i64]), (.one, [.int .i64])]
def rs_spec_MakeSize : Sig := [(.one, [.int .i64])]
def mu_spec_MakeSize : MSig := [[some .bor]]
def G_spec_MakeSize (NN : Nat) : ((List Int) × (Int × (Int × Int))) → (Option Int) :=
 (fun ((l0, i1, i2, i3) : ((List Int) × (Int × (Int × Int)))) =>
 (F_spec_MakeNum (l0, i1)).bnd (fun i4 =>
 (remI i4 (addI .i64 (subI .i64 i3 i2) (1 : Int))).bnd (fun i5 =>
 some (addI .i64 i2 i5))))

def F_spec_MakeSize : ((List Int) × (Int × (Int × Int))) → (Option Int) := G_spec_MakeSize FUEL
theorem f_spec_MakeSize (x : ((List Int) × (Int × (Int × Int)))) (z : Int) (h : F_spec_MakeSize x = some z) : G_spec_MakeSize FUEL x = some z := h
def ag_spec_MakePrime : Sig := [(.one, [.list [.int .u8]]), (.one, [.int .i64])]
def rs_spec_MakePrime : Sig := [(.one, [.int .i64])]
def mu_spec_MakePrime : MSig := [[some .bor]]
def G_spec_MakePrime (NN : Nat) : ((List Int) × Int) → (Option Int) :=
 (fun ((l0, i1) : ((List Int) × Int)) =>
 (F_spec_l45At (l0, i1)).bnd (fun (l2, i3, i4) =>
 (takI (((2 : Int) :: ((3 : Int) :: ((7 : Int) :: ((101 : Int) :: ((1000003 : Int) :: ([] : List Int))))))) 5).bnd (fun l5 =>
 (F_spec_l01Pick ((l2, i3, i4), l5)).bnd (fun (i6, l7, i8, i9) =>
 some i6))))

def F_spec_MakePrime : ((List Int) × Int) → (Option Int) := G_spec_MakePrime FUEL
theorem f_spec_MakePrime (x : ((List Int) × Int)) (z : Int) (h : F_spec_MakePrime x = some z) : G_spec_MakePrime FUEL x = some z := h
theorem byte_ok (c : Cu) (h : CuOk c) : ∃ x c', F_spec_l01Byte c = some (x, c') ∧ (0 ≤ x ∧ x ≤ 255) ∧ CuOk c' := by
 obtain ⟨l, i, k⟩ := c
 obtain ⟨h0, h1⟩ := h
 dsimp only at h0 h1
 obtain ⟨i, rfl⟩ := natI_eq h0
 obtain ⟨s1, e1⟩ : ∃ s, shrI .i64 (addI .i64 (mulI .i64 k (6364136223846793005 : Int)) (1442695040888963407 : Int)) (33 : Int) = some s := ⟨_, if_neg (by decide)⟩
 obtain ⟨s2, e2⟩ : ∃ s, shrI .i64 (addI .i64 (mulI .i64 k (6364136223846793005 : Int)) (1442695040888963407 : Int)) (45 : Int) = some s := ⟨_, if_neg (by decide)⟩
 simp only [F_spec_l01Byte, G_spec_l01Byte]
 rw [e1, e2]
 simp only [Option.bnd, Option.bind]
 by_cases hc : i < l.length
 ·rw [cnd_t (ltI_t (by unfold natI lenN; omega))]
  rw [getI_nat, List.getElem?_eq_getElem hc]
  simp only [joinK, Option.bind]
  refine ⟨_, _, rfl, and_bits _, ?_, h1⟩
  dsimp only
  rw [addI_eq (by omega) (by omega)]
  omega
 ·rw [cnd_f (ltI_f (by unfold natI lenN; omega))]
  simp only [joinK, Option.bind]
  exact ⟨_, _, rfl, and_bits _, h0, h1⟩
theorem below_ok (c : Cu) (n : Int) (h : CuOk c) (hn : 1 ≤ n) : ∃ x c', F_spec_l01Below (c, n) = some (x, c') ∧ (0 ≤ x ∧ x < n) ∧ x ≤ 255 ∧ CuOk c' := by
 obtain ⟨l, i, k⟩ := c
 obtain ⟨x, ⟨l', i', k'⟩, e, hx, hc⟩ := byte_ok _ h
 simp only [F_spec_l01Below, G_spec_l01Below]
 rw [cnd_f (leI_f (by omega)), e]
 simp only [Option.bnd, Option.bind]
 rw [remI_pos hx.1 (by omega)]
 refine ⟨_, _, rfl, ⟨Int.emod_nonneg _ (by omega), Int.emod_lt_of_pos _ (by omega)⟩, ?_, hc⟩
 have := Int.emod_lt_of_pos x (show 0 < n by omega)
 by_cases hl : x < n
 ·rw [Int.emod_eq_of_lt hx.1 hl]; omega
 ·omega
theorem once_ok (c : Cu) (n : Int) (h : CuOk c) (hn : 1 ≤ n) : ∃ b c', F_spec_l01Once (c, n) = some (b, c') ∧ CuOk c' := by
 obtain ⟨l, i, k⟩ := c
 obtain ⟨x, ⟨l', i', k'⟩, e, _, _, hc⟩ := below_ok _ n h hn
 simp only [F_spec_l01Once, G_spec_l01Once]
 rw [e]
 exact ⟨_, _, rfl, hc⟩
theorem pick_ok (c : Cu) (l : List Int) (h : CuOk c) (h1 : l ≠ []) (h2 : l.length ≤ 100) : ∃ x c', F_spec_l01Pick (c, l) = some (x, c') ∧ x ∈ l ∧ CuOk c' := by
 obtain ⟨cl, i, k⟩ := c
 have hl : 1 ≤ l.length := by rcases l with _ | ⟨a, l⟩ <;> simp_all
 obtain ⟨x, ⟨l', i', k'⟩, e, hx, _, hc⟩ := below_ok (cl, i, k) (natI (lenN l)) h (by unfold natI lenN; omega)
 simp only [F_spec_l01Pick, G_spec_l01Pick]
 rw [e]
 simp only [Option.bnd, Option.bind]
 obtain ⟨j, rfl⟩ := natI_eq hx.1
 have hj : j < l.length := by unfold natI lenN at hx; omega
 rw [getI_nat, List.getElem?_eq_getElem hj]
 exact ⟨_, _, rfl, List.getElem_mem hj, hc⟩
theorem new_ok (l : List Int) (h : l.length ≤ 1048576) : ∃ c, F_spec_l01New l = some c ∧ CuOk c := by
 simp only [F_spec_l01New, G_spec_l01New]
 generalize hL : loopT FUEL _ _ = o
 obtain ⟨r, rfl, z, rfl⟩ : ∃ r, o = some r ∧ ∃ z, r = Sum.inl (l, z) := by
  rw [← hL]
  refine loopT_ex (min l.length 4000) (fun i (x : List Int × Int × Int) => x.1 = l ∧ x.2.2 = (i : Int)) _ ?_ ?_ ⟨rfl, rfl⟩ (FUEL_gt (by omega))
  ·intro i x hi hx
   obtain ⟨l1, i2, i3⟩ := x
   dsimp only at hx ⊢
   obtain ⟨rfl, rfl⟩ := hx
   rw [cnd_t (ltI_t (by unfold natI lenN; omega)), cnd_t (ltI_t (by omega)), getI_nat, List.getElem?_eq_getElem (by omega)]
   exact ⟨_, rfl, rfl, addI_eq (by omega) (by omega)⟩
  ·intro x hx
   obtain ⟨l1, i2, i3⟩ := x
   dsimp only at hx ⊢
   obtain ⟨rfl, rfl⟩ := hx
   by_cases hc : l1.length ≤ 4000
   ·rw [cnd_f (ltI_f (by unfold natI lenN; omega))]
    exact ⟨_, rfl, _, rfl⟩
   ·rw [cnd_t (ltI_t (by unfold natI lenN; omega)), cnd_f (ltI_f (by omega))]
    exact ⟨_, rfl, _, rfl⟩
 exact ⟨_, rfl, Int.le_refl _, h⟩
theorem at_ok (l : List Int) (n : Int) (h : l.length ≤ 1048576) (hn : 0 ≤ n) : ∃ c, F_spec_l45At (l, n) = some c ∧ CuOk c := by
 obtain ⟨⟨l', i', k'⟩, e, hc⟩ := new_ok l h
 simp only [F_spec_l45At, G_spec_l45At]
 rw [e]
 refine ⟨_, rfl, ?_, hc.2⟩
 dsimp only
 rw [minI_eq]
 unfold natI lenN
 omega
theorem num_ok (l : List Int) (n : Int) (h : l.length ≤ 1048576) (hn : 0 ≤ n) : ∃ x, F_spec_MakeNum (l, n) = some x ∧ (0 ≤ x ∧ x ≤ 65535) := by
 obtain ⟨⟨l', i', k'⟩, e, hc⟩ := at_ok l n h hn
 obtain ⟨x, ⟨l1, i1, k1⟩, e1, hx, hc⟩ := byte_ok _ hc
 obtain ⟨y, ⟨l2, i2, k2⟩, e2, hy, hc⟩ := byte_ok _ hc
 simp only [F_spec_MakeNum, G_spec_MakeNum]
 rw [e]
 simp only [Option.bnd, Option.bind]
 rw [e1]
 simp only [Option.bind]
 rw [e2]
 refine ⟨_, rfl, ?_⟩
 rw [mulI_eq (by omega) (by omega), addI_eq (by omega) (by omega)]
 omega
theorem size_ok (l : List Int) (n lo hi : Int) (h : l.length ≤ 1048576) (hn : 0 ≤ n) (h0 : 0 ≤ lo) (h1 : lo ≤ hi) (h2 : hi ≤ 1048576) : ∃ x, F_spec_MakeSize (l, n, lo, hi) = some x ∧ (lo ≤ x ∧ x ≤ hi) := by
 obtain ⟨x, e, hx⟩ := num_ok l n h hn
 simp only [F_spec_MakeSize, G_spec_MakeSize]
 rw [e]
 simp only [Option.bnd, Option.bind]
 rw [subI_eq (by omega) (by omega), addI_eq (by omega) (by omega), remI_pos hx.1 (by omega)]
 have a := Int.emod_nonneg x (show hi - lo + 1 ≠ 0 by omega)
 have b := Int.emod_lt_of_pos x (show 0 < hi - lo + 1 by omega)
 refine ⟨_, rfl, ?_⟩
 rw [addI_eq (by omega) (by omega)]
 omega
theorem prime_ok (l : List Int) (n : Int) (h : l.length ≤ 1048576) (hn : 0 ≤ n) : ∃ x, F_spec_MakePrime (l, n) = some x ∧ x ∈ [(2 : Int), 3, 7, 101, 1000003] := by
 obtain ⟨⟨l', i', k'⟩, e, hc⟩ := at_ok l n h hn
 obtain ⟨x, ⟨l1, i1, k1⟩, e1, hx, hc⟩ := pick_ok _ [(2 : Int), 3, 7, 101, 1000003] hc (by simp) (by simp)
 simp only [F_spec_MakePrime, G_spec_MakePrime]
 rw [e]
 simp only [Option.bnd, Option.bind, takI, List.length_cons, List.length_nil, Nat.le_refl, if_true, List.take]
 rw [e1]
 exact ⟨_, rfl, hx⟩
end Go.Am
end
section
namespace Go.Am
def ag_spec_l31Draw : Sig := [(.ptr, [.list [.int .u8], .int .i64, .int .i64]), (.one, [.int .i64]), (.one, [.int .i64]), (.one, [.int .i64])]
def rs_spec_l31Draw : Sig := [(.agg, [.int .i64, .int .i64, .list [.int .i64]]), (.ptr, [.list [.int .u8], .int .i64, .int .i64])]
def mu_spec_l31Draw : MSig := [[some .bor]]
def G_spec_l31Draw (NN : Nat) : (((List Int) × (Int × Int)) × (Int × (Int × Int))) → (Option ((Int × (Int × (List Int))) × ((List Int) × (Int × Int)))) :=
 (fun (((l0, i1, i2), i3, i4, i5) : (((List Int) × (Int × Int)) × (Int × (Int × Int)))) =>
 (F_spec_l31New (i4, i5)).bnd (fun (i6, i7, l8) =>
 joinK ((fulI 0 0 (lenN (([] : List Int)))).bnd (fun _ =>
 (fulI 0 (lenN l8) (lenN l8)).bnd (fun _ =>
 loopT NN (fun (((i9, i10, i11, i12, i13), (l14, i15, i16), (i17, i18), (i19, i20), l21, l22) : ((Int × (Int × (Int × (Int × Int)))) × (((List Int) × (Int × Int)) × ((Int × Int) × ((Int × Int) × ((List Int) × (List Int))))))) =>
 cnd (ltI i13 i12)
 ((F_spec_l01Once ((l14, i15, i16), (3 : Int))).bnd (fun (b23, l24, i25, i26) =>
 cnd (notB b23)
 ((F_spec_l01Below ((l24, i25, i26), minI i9 (256 : Int))).bnd (fun (i27, l28, i29, i30) =>
 (chkI i13 (lenN l22)).bnd (fun k31 =>
 (getN l22 (addN 0 k31)).bnd (fun i32 =>
 (fulI 0 (lenN l21) (lenN l21)).bnd (fun _ =>
 (fulI 0 (lenN l22) (lenN (setL l22 (addN 0 k31) i27))).bnd (fun _ =>
 some (Sum.inl ((i9, i10, i11, i12, addI .i64 i13 1), (l28, i29, i30), (i17, i18), (i19, i20), l21, setL l22 (addN 0 k31) i27))))))))
 ((fulI 0 (lenN l21) (lenN l21)).bnd (fun _ =>
 (fulI 0 (lenN l22) (lenN l22)).bnd (fun _ =>
 some (Sum.inl ((i9, i10, i11, i12, addI .i64 i13 1), (l24, i25, i26), (i17, i18), (i19, i20), l21, l22)))))))
 (((fulI 0 (lenN l21) (lenN l21)).bnd (fun _ =>
 (fulI 0 (lenN l22) (lenN l22)).bnd (fun _ =>
 some (Sum.inl ((i10, i11), (l14, i15, i16), (i17, i18), (i19, i20), l21, l22))))).bnd (fun l33 =>
 some (Sum.inr l33))))
 ((i3, i4, i5, natI (lenN l8), (0 : Int)), (l0, i1, i2), ((0 : Int), (0 : Int)), (i6, i7), ([] : List Int), l8))))
 (fun ((i34, i35), (l36, i37, i38), (i39, i40), (i41, i42), l43, l44) =>
 cnd (ltI (1 : Int) i34)
 ((F_spec_l01Once ((l36, i37, i38), (3 : Int))).bnd (fun (b45, l46, i47, i48) =>
 joinK (cnd (b45)
 ((fulI 0 (lenN l43) (lenN l43)).bnd (fun _ =>
 (fulI 0 (lenN l44) (lenN l44)).bnd (fun _ =>
 loopT NN (fun (((i49, i50), (l51, i52, i53), (i54, i55), (i56, i57), l58, l59) : ((Int × Int) × (((List Int) × (Int × Int)) × ((Int × Int) × ((Int × Int) × ((List Int) × (List Int))))))) =>
 cnd (ltI i50 i49)
 ((chkI i50 (lenN l59)).bnd (fun k60 =>
 (getN l59 (addN 0 k60)).bnd (fun i61 =>
 (chkI (addI .i64 i49 i50) (lenN l59)).bnd (fun k62 =>
 (getN l59 (addN 0 k62)).bnd (fun i63 =>
 (fulI 0 (lenN l58) (lenN l58)).bnd (fun _ =>
 (fulI 0 (lenN l59) (lenN (setL l59 (addN 0 k62) i61))).bnd (fun _ =>
 some (Sum.inl ((i49, addI .i64 i50 1), (l51, i52, i53), (i54, i55), (i56, i57), l58, setL l59 (addN 0 k62) i61)))))))))
 (((fulI 0 (lenN l58) (lenN l58)).bnd (fun _ =>
 (fulI 0 (lenN l59) (lenN l59)).bnd (fun _ =>
 some (Sum.inl ((l51, i52, i53), (i54, i55), (i56, i57), l58, l59))))).bnd (fun l64 =>
 some (Sum.inr l64))))
 ((i35, (0 : Int)), (l46, i47, i48), (i39, i40), (i41, i42), l43, l44))))
 ((fulI 0 (lenN l43) (lenN l43)).bnd (fun _ =>
 (fulI 0 (lenN l44) (lenN l44)).bnd (fun _ =>
 some (Sum.inl ((l46, i47, i48), (i39, i40), (i41, i42), l43, l44))))))
 (fun ((l65, i66, i67), (i68, i69), (i70, i71), l72, l73) =>
 (winI l73 0 (lenN l73)).bnd (fun l74 =>
 some ((i70, i71, l74), l65, i66, i67)))))
 (joinK ((fulI 0 (lenN l43) (lenN l43)).bnd (fun _ =>
 (fulI 0 (lenN l44) (lenN l44)).bnd (fun _ =>
 some (Sum.inl ((l36, i37, i38), (i39, i40), (i41, i42), l43, l44)))))
 (fun ((l75, i76, i77), (i78, i79), (i80, i81), l82, l83) =>
 (winI l83 0 (lenN l83)).bnd (fun l84 =>
 some ((i80, i81, l84), l75, i76, i77)))))))

def F_spec_l31Draw : (((List Int) × (Int × Int)) × (Int × (Int × Int))) → (Option ((Int × (Int × (List Int))) × ((List Int) × (Int × Int)))) := G_spec_l31Draw FUEL
theorem f_spec_l31Draw (x : (((List Int) × (Int × Int)) × (Int × (Int × Int)))) (z : ((Int × (Int × (List Int))) × ((List Int) × (Int × Int)))) (h : F_spec_l31Draw x = some z) : G_spec_l31Draw FUEL x = some z := h
def ag_spec_MakeMatrix : Sig := [(.one, [.list [.int .u8]]), (.one, [.int .i64]), (.one, [.int .i64]), (.one, [.int .i64]), (.one, [.int .i64])]
def rs_spec_MakeMatrix : Sig := [(.agg, [.int .i64, .int .i64, .list [.int .i64]])]
def mu_spec_MakeMatrix : MSig := [[some .bor]]
def G_spec_MakeMatrix (NN : Nat) : ((List Int) × (Int × (Int × (Int × Int)))) → (Option (Int × (Int × (List Int)))) :=
 (fun ((l0, i1, i2, i3, i4) : ((List Int) × (Int × (Int × (Int × Int))))) =>
 (F_spec_l45At (l0, i1)).bnd (fun (l5, i6, i7) =>
 (F_spec_l31Draw ((l5, i6, i7), i2, i3, i4)).bnd (fun ((i8, i9, l10), l11, i12, i13) =>
 some (i8, i9, l10))))

def F_spec_MakeMatrix : ((List Int) × (Int × (Int × (Int × Int)))) → (Option (Int × (Int × (List Int)))) := G_spec_MakeMatrix FUEL
theorem f_spec_MakeMatrix (x : ((List Int) × (Int × (Int × (Int × Int))))) (z : (Int × (Int × (List Int)))) (h : F_spec_MakeMatrix x = some z) : G_spec_MakeMatrix FUEL x = some z := h
theorem min_pos {p : Int} (h : 2 ≤ p) : 1 ≤ minI p 256 ∧ minI p 256 ≤ p := by rw [minI_eq]; omega
theorem lenN_e {α : Type} (l : List α) : lenN l = l.length := rfl
theorem draw_ok (c : Cu) (p : Int) (r k : Nat) (h : CuOk c) (hp : pOk p) (hr : r ≤ 100) (hk : k ≤ 100) :
  ∃ d c', F_spec_l31Draw (c, p, (r : Int), (k : Int)) = some (((r : Int), (k : Int), d), c') ∧ d.length = r * k ∧ allP p d ∧ CuOk c' := by
 obtain ⟨cl, ci, ch⟩ := c
 have hrk : r * k ≤ 10000 := by
  have := Nat.mul_le_mul hr hk
  omega
 simp only [F_spec_l31Draw, G_spec_l31Draw]
 rw [new_nat (by omega) (by omega) (by omega)]
 simp only [bnd_s, fulI_nil0, fulI_id]
 generalize hL : loopT FUEL _ _ = o
 obtain ⟨s, rfl, c', d, rfl, hc', hl, hd⟩ : ∃ s, o = some s ∧ ∃ (c' : Cu) (d : List Int), s = Sum.inl (((r : Int), (k : Int)), c', (0, 0), ((r : Int), (k : Int)), [], d) ∧ CuOk c' ∧ d.length = r * k ∧ allP p d := by
  rw [← hL]
  refine loopT_ex (r * k) (fun j (s : ((Int × (Int × (Int × (Int × Int)))) × (((List Int) × (Int × Int)) × ((Int × Int) × ((Int × Int) × ((List Int) × (List Int))))))) => ∃ (c' : Cu) (d : List Int), s = ((p, (r : Int), (k : Int), ((r * k : Nat) : Int), (j : Int)), c', (0, 0), ((r : Int), (k : Int)), [], d) ∧ CuOk c' ∧ d.length = r * k ∧ allP p d) _ ?_ ?_ ?_ (FUEL_gt (by omega))
  ·rintro j s hj ⟨⟨l1, i1, h1⟩, d, rfl, hc, hl, hd⟩
   dsimp only
   rw [cnd_t (ltI_t (by omega))]
   obtain ⟨b, ⟨l2, i2, h2⟩, e2, hc⟩ := once_ok _ 3 hc (by decide)
   rw [e2]
   simp only [bnd_s]
   cases b
   ·rw [cnd_t (show notB false = true from rfl)]
    obtain ⟨x, ⟨l3, i3, h3⟩, e3, hx, _, hc⟩ := below_ok _ (minI p 256) hc (min_pos hp.1).1
    have hm := (min_pos hp.1).2
    rw [e3]
    simp only [bnd_s]
    have hj' : j < d.length := by omega
    rw [chkI_nat (show j < lenN d by rw [lenN_e]; exact hj')]
    simp only [bnd_s, addN_0]
    rw [show getN d j = some d[j] from List.getElem?_eq_getElem hj']
    simp only [bnd_s]
    rw [show fulI 0 (lenN d) (lenN (setL d j x)) = some () from fulI_ok (by simp [lenN, setL])]
    simp only [bnd_s]
    rw [addI_eq (by omega) (by omega)]
    refine ⟨_, rfl, _, _, rfl, hc, by unfold setL; rw [List.length_set]; exact hl, ?_⟩
    intro e he
    unfold setL at he
    rcases List.mem_or_eq_of_mem_set he with h | h
    ·exact hd e h
    ·subst h; exact ⟨hx.1, by omega⟩
   ·rw [cnd_f (show notB true = false from rfl)]
    rw [addI_eq (by omega) (by omega)]
    exact ⟨_, rfl, _, _, rfl, hc, hl, hd⟩
  ·rintro s ⟨⟨l1, i1, h1⟩, d, rfl, hc, hl, hd⟩
   dsimp only
   rw [cnd_f (ltI_f (by omega))]
   exact ⟨_, rfl, _, _, rfl, hc, hl, hd⟩
  ·refine ⟨_, _, ?_, h, genD_len r k _, allP_gen.2 (fun i j _ _ => ⟨Int.le_refl _, by have := hp.1; omega⟩)⟩
   rw [show natI (lenN (genD r k fun _ _ => 0)) = ((r * k : Nat) : Int) by unfold natI lenN; rw [genD_len]]
   rfl
 obtain ⟨l1, i1, h1⟩ := c'
 simp only [joinK, Option.bind, Option.bnd]
 by_cases hc : 1 < r
 ·rw [cnd_t (ltI_t (by omega))]
  obtain ⟨b, ⟨l2, i2, h2⟩, e2, hc2⟩ := once_ok _ 3 hc' (by decide)
  rw [e2]
  dsimp only
  cases b
  ·simp only [cnd_false, fulI_id, winI_id]
   exact ⟨_, _, rfl, hl, hd, hc2⟩
  ·simp only [cnd_true, fulI_id, winI_id]
   generalize hL : loopT FUEL _ _ = o
   obtain ⟨s, rfl, d', rfl, hl', hd'⟩ : ∃ s, o = some s ∧ ∃ (d' : List Int), s = Sum.inl ((l2, i2, h2), (0, 0), ((r : Int), (k : Int)), [], d') ∧ d'.length = r * k ∧ allP p d' := by
    rw [← hL]
    refine loopT_ex k (fun j (s : ((Int × Int) × (((List Int) × (Int × Int)) × ((Int × Int) × ((Int × Int) × ((List Int) × (List Int))))))) => ∃ (d : List Int), s = (((k : Int), (j : Int)), (l2, i2, h2), (0, 0), ((r : Int), (k : Int)), [], d) ∧ d.length = r * k ∧ allP p d) _ ?_ ?_ ⟨_, rfl, hl, hd⟩ (FUEL_gt (by omega))
    ·rintro j s hj ⟨d, rfl, hl, hd⟩
     dsimp only
     have hrk2 : 2 * k ≤ r * k := Nat.mul_le_mul_right k hc
     rw [cnd_t (ltI_t (by omega))]
     have hj1 : j < d.length := by omega
     have hj2 : k + j < d.length := by omega
     rw [addI_eq (by omega) (by omega), show ((k : Int) + (j : Int)) = ((k + j : Nat) : Int) by push_cast; rfl]
     rw [chkI_nat (show j < lenN d by rw [lenN_e]; exact hj1), chkI_nat (show k + j < lenN d by rw [lenN_e]; exact hj2)]
     simp only [addN_0]
     rw [show getN d j = some d[j] from List.getElem?_eq_getElem hj1, show getN d (k + j) = some d[k + j] from List.getElem?_eq_getElem hj2]
     dsimp only
     rw [show fulI 0 (lenN d) (lenN (setL d (k + j) d[j])) = some () from fulI_ok (by simp [lenN, setL])]
     dsimp only
     rw [addI_eq (by omega) (by omega)]
     refine ⟨_, rfl, _, rfl, by unfold setL; rw [List.length_set]; exact hl, ?_⟩
     intro e he
     unfold setL at he
     rcases List.mem_or_eq_of_mem_set he with h | h
     ·exact hd e h
     ·subst h; exact hd _ (List.getElem_mem hj1)
    ·rintro s ⟨d, rfl, hl, hd⟩
     dsimp only
     rw [cnd_f (ltI_f (by omega))]
     exact ⟨_, rfl, _, rfl, hl, hd⟩
   simp only [winI_id]
   exact ⟨_, _, rfl, hl', hd', hc2⟩
 ·rw [cnd_f (ltI_f (by omega))]
  simp only [fulI_id, winI_id]
  exact ⟨_, _, rfl, hl, hd, hc'⟩
theorem MakeMatrix_ok (l : List Int) (n p : Int) (r k : Nat) (h : l.length ≤ 1048576) (hn : 0 ≤ n) (hp : pOk p) (hr : r ≤ 100) (hk : k ≤ 100) :
  ∃ d, F_spec_MakeMatrix (l, n, p, (r : Int), (k : Int)) = some ((r : Int), (k : Int), d) ∧ d.length = r * k ∧ allP p d := by
 obtain ⟨⟨l', i', k'⟩, e, hc⟩ := at_ok l n h hn
 obtain ⟨d, ⟨l1, i1, k1⟩, e1, hl, hd, _⟩ := draw_ok _ p r k hc hp hr hk
 simp only [F_spec_MakeMatrix, G_spec_MakeMatrix]
 rw [e]
 simp only [bnd_s]
 rw [e1]
 exact ⟨_, rfl, hl, hd⟩
theorem pr_2 : isPrimeI 2 = true := by decide +kernel
theorem pr_3 : isPrimeI 3 = true := by decide +kernel
theorem pr_7 : isPrimeI 7 = true := by decide +kernel
theorem pr_101 : isPrimeI 101 = true := by decide +kernel
theorem pr_1000003 : isPrimeI 1000003 = true := by decide +kernel
theorem pr_5 {x : Int} (h : x ∈ [(2 : Int), 3, 7, 101, 1000003]) : isPrimeI x = true := by
 simp only [List.mem_cons, List.not_mem_nil, or_false] at h
 rcases h with rfl | rfl | rfl | rfl | rfl
 ·exact pr_2
 ·exact pr_3
 ·exact pr_7
 ·exact pr_101
 ·exact pr_1000003
end Go.Am
end
section
namespace Go.Am
def kronOk (x : Int × Mx3 × Mx3) : Prop := pOk x.1 ∧ mOk x.2.1 ∧ mOk x.2.2 ∧ (x.2.1.1 * x.2.2.1 ≤ 4096 ∧ x.2.1.2.1 * x.2.2.2.1 ≤ 4096) ∧ (x.2.1.1 * x.2.2.1) * (x.2.1.2.1 * x.2.2.2.1) ≤ 1048576 ∧ allP x.1 x.2.1.2.2 ∧ allP x.1 x.2.2.2.2
instance (x : Int × Mx3 × Mx3) : Decidable (kronOk x) := by unfold kronOk; infer_instance
section
variable {p : Int} {r c s d : Nat} {A B : Mat}
end
section
variable {p : Int} {n m : Nat} {a b a2 b2 : List Int} {ms ms2 : List Mx3}
end
end Go.Am
end
section
namespace Go.Am
end Go.Am
end
section
namespace Go.Am
def cS (om : Bool) (w : Nat) (x y : Nat → Int) (t : Nat) : Int := sm w (fun i => sm w (fun j => kW om x y t i j))
def pc (x y : Nat → Int) (t : Nat) : Int := sm (t + 1) (fun i => x i * y (t - i))
theorem sm_zero : ∀ (n : Nat) {f : Nat → Int}, (∀ i, i < n → f i = 0) → sm n f = 0
 | 0, _, _ => rfl
 | n + 1, f, h => by simp only [sm]; rw [sm_zero n (fun i hi => h i (by omega)), h n (by omega)]; rfl
theorem sm_at {a : Nat} {f : Nat → Int} : ∀ (n : Nat), a < n → (∀ i, i < n → i ≠ a → f i = 0) → sm n f = f a
 | 0, h, _ => by omega
 | n + 1, h, hf => by
  simp only [sm]
  by_cases e : a = n
  ·subst e
   rw [sm_zero a (fun i hi => hf i (by omega) (by omega))]; omega
  ·rw [sm_at n (by omega) (fun i hi hne => hf i (by omega) hne), hf n (by omega) (by omega)]; omega
theorem sm_cut {m : Nat} {f : Nat → Int} : ∀ (n : Nat), m ≤ n → (∀ i, i < n → m ≤ i → f i = 0) → sm n f = sm m f
 | 0, h, _ => by rw [show m = 0 by omega]
 | n + 1, h, hf => by
  by_cases e : m = n + 1
  ·rw [e]
  ·simp only [sm]
   rw [sm_cut n (by omega) (fun i hi hm => hf i (by omega) hm), hf n (by omega) (by omega)]; omega
theorem sm_mod {p : Int} {f g : Nat → Int} : ∀ {n : Nat}, (∀ i, i < n → f i % p = g i % p) → sm n f % p = sm n g % p
 | 0, _ => rfl
 | n + 1, h => by simp only [sm]; rw [Int.add_emod, sm_mod (n := n) (fun i hi => h i (by omega)), h n (by omega), ← Int.add_emod]
theorem cS_pc {w t : Nat} (x y : Nat → Int) (h : t < w) : cS false w x y t = pc x y t := by
 have hin : ∀ i, i < w → sm w (fun j => kW false x y t i j) = if i ≤ t then x i * y (t - i) else 0 := by
  intro i hi
  split
  ·rename_i hit
   rw [sm_at (a := t - i) w (by omega) (fun j hj hne => by unfold kW; rw [if_neg (by omega), if_neg (by simp)])]
   unfold kW
   rw [if_pos (by omega)]
  ·exact sm_zero w fun j hj => by unfold kW; rw [if_neg (by omega), if_neg (by simp)]
 unfold cS pc
 rw [sm_congr hin, sm_cut (m := t + 1) w (by omega) (fun i hi hm => if_neg (by omega))]
 exact sm_congr fun i hi => if_pos (by omega)
theorem cS_congr {om : Bool} {w t : Nat} {x x' y y' : Nat → Int} (hx : ∀ i, i < w → x i = x' i) (hy : ∀ i, i < w → y i = y' i) : cS om w x y t = cS om w x' y' t :=
 sm_congr fun i hi => sm_congr fun j hj => by unfold kW; rw [hx i hi, hy j hj]
theorem co_0 (x y : Nat → Int) : cS true 4 x y 0 = x 0 * y 0 - x 1 * y 3 - x 2 * y 2 - x 3 * y 1 := by simp [cS, sm, kW]; grind
theorem co_1 (x y : Nat → Int) : cS true 4 x y 1 = x 0 * y 1 + x 1 * y 0 - x 2 * y 3 - x 3 * y 2 := by simp [cS, sm, kW]; grind
theorem co_2 (x y : Nat → Int) : cS true 4 x y 2 = x 0 * y 2 + x 1 * y 1 + x 2 * y 0 - x 3 * y 3 := by simp [cS, sm, kW]; grind
theorem co_3 (x y : Nat → Int) : cS true 4 x y 3 = x 0 * y 3 + x 1 * y 2 + x 2 * y 1 + x 3 * y 0 := by simp [cS, sm, kW]
theorem cvE_eq (p : Int) (om : Bool) (w : Nat) (x y : Nat → Int) : cvE p om w x y = tab w fun t => cS om w x y t % p := rfl
theorem cv_of {r : Int × Int × Int} (h : r.1 = 7 ∨ r.1 = 8) (x y : List Int) : mulE r x y = cvE r.2.1 (decide (r.1 = 8)) (widN r) (fnL x) (fnL y) := if_pos h
theorem wid1 {r : Int × Int × Int} (hk : ¬ (r.1 = 7 ∨ r.1 = 8)) : widN r = 1 := by
 obtain ⟨k, p, n⟩ := r
 simp only at hk
 simp only [widN, widI]
 rw [if_neg (by omega), if_neg (by omega)]
 rfl
theorem fnL_one {k p n : Int} (hk : k = 7 ∨ k = 8) {j : Nat} (hj : j < widN (k, p, n)) : fnL (oneE (k, p, n)) j = if j = 0 then 1 else 0 := by
 rw [oneE_tab, fnL_tab _ hj, if_neg (show ¬ k = 4 by omega), if_neg (show ¬ (k = 5 ∨ k = 6) by omega)]
theorem cS_0 {k p : Int} {w : Nat} (c : CfR k p w) (u : Nat → Int) (v : Int) {t : Nat} (h : t < w) : cS (decide (k = 8)) w u (fun j => if j = 0 then v else 0) t = u t * v := by
 by_cases h8 : k = 8
 ·obtain rfl := c.w8 h8
  rw [decide_eq_true h8]
  match t, h with
  | 0, _ => rw [co_0]; simp
  | 1, _ => rw [co_1]; simp
  | 2, _ => rw [co_2]; simp
  | 3, _ => rw [co_3]; simp
 ·rw [decide_eq_false h8, cS_pc _ _ h]
  unfold pc
  rw [sm_at (a := t) (t + 1) (by omega) (fun i hi hne => by simp only; rw [if_neg (by omega), Int.mul_zero])]
  simp only
  rw [if_pos (by omega)]
theorem opM_one {k p n : Int} (hr : ringOk (k, p, n) = true) (hk : ¬ (k = 7 ∨ k = 8)) {a : Int} (ha : 0 ≤ a ∧ a ≤ topI (k, p, n)) : opM (k, p, n) a (if k = 4 then 0 else if k = 5 ∨ k = 6 then topI (k, p, n) else 1) = a := by
 rcases ring_cases hr with ⟨rfl, rfl, rfl⟩ | ⟨rfl, hp, rfl⟩ | ⟨rfl, hp, rfl⟩ | ⟨rfl, hp, rfl⟩ | ⟨rfl, hp, rfl⟩ | ⟨rfl, rfl, hn⟩ | ⟨rfl, hp, hn⟩ | ⟨rfl, hp, hp2, rfl⟩
 ·have e : topI (1, 0, 0) = 1 := rfl
  have h1 : a = 0 ∨ a = 1 := by omega
  rcases h1 with rfl | rfl <;> decide
 ·have e : topI (2, p, 0) = p - 1 := rfl
  have := isPrimeI_t hp
  show a * 1 % p = a
  rw [Int.mul_one, Int.emod_eq_of_lt (by omega) (by omega)]
 ·have e : topI (3, p, 0) = p := rfl
  show min (a * 1) p = a
  omega
 ·have e : topI (4, p, 0) = p := rfl
  show min (a + 0) p = a
  omega
 ·have e : topI (5, p, 0) = p := rfl
  show min a p = a
  omega
 ·have e : topI (6, 0, n) = 2 ^ n.toNat - 1 := rfl
  have e2 : (((2 : Nat) ^ n.toNat : Nat) : Int) = (2 : Int) ^ n.toNat := by push_cast; rfl
  show ((a.toNat &&& (2 ^ n.toNat - 1 : Int).toNat : Nat) : Int) = a
  rw [show (2 ^ n.toNat - 1 : Int).toNat = 2 ^ n.toNat - 1 by omega, Nat.and_two_pow_sub_one_eq_mod, Nat.mod_eq_of_lt (by omega)]
  omega
 ·omega
 ·omega
theorem mul_one {r : Int × Int × Int} {x : List Int} (hr : ringOk r = true) (hx : elOk r x = true) : mulE r x (oneE r) = x := by
 obtain ⟨k, p, n⟩ := r
 by_cases hk : k = 7 ∨ k = 8
 ·have c := cf_of hr hk
  rw [cv_of hk, cvE_eq]
  simp only
  have hT : topI (k, p, n) = p - 1 := by
   simp only [topI]
   rw [if_neg (by omega), if_neg (by omega), if_neg (by omega)]
  refine (tab_congr fun t ht => ?_).trans (tab_fnL (el_len hx))
  rw [cS_congr (x' := fnL x) (y' := fun j => if j = 0 then 1 else 0) (fun _ _ => rfl) (fun i hi => fnL_one hk hi), cS_0 c _ _ ht, Int.mul_one]
  have := el_at hx ht
  rw [hT] at this
  exact Int.emod_eq_of_lt this.1 (by omega)
 ·have hw := wid1 (r := (k, p, n)) hk
  obtain ⟨e, ha⟩ := el_one hx hw
  have e1 : oneE (k, p, n) = [if k = 4 then 0 else if k = 5 ∨ k = 6 then topI (k, p, n) else 1] := by simp only [oneE]; exact rep_set hw
  rw [e, e1, mulE_1 hk, opM_one hr hk ha]
end Go.Am
end
section
namespace Go.Am
theorem dot_sm (p : Int) (f g : Nat → Int) : ∀ n, dotF p f g n = sm n (fun t => f t * g t) % p
 | 0 => by simp [dotF, sm]
 | n + 1 => by simp only [dotF, sm]; rw [dot_sm p f g n, Int.emod_add_emod]
theorem sm_mulL (c : Int) (f : Nat → Int) : ∀ n, sm n (fun t => c * f t) = c * sm n f
 | 0 => by simp [sm]
 | n + 1 => by simp only [sm]; rw [sm_mulL c f n, Int.mul_add]
theorem sm_mulR (c : Int) (f : Nat → Int) (n : Nat) : sm n (fun t => f t * c) = sm n f * c := by
 rw [Int.mul_comm, ← sm_mulL]
 exact sm_congr fun i _ => Int.mul_comm _ _
theorem sm_addF (f g : Nat → Int) : ∀ n, sm n (fun t => f t + g t) = sm n f + sm n g
 | 0 => by simp [sm]
 | n + 1 => by simp only [sm]; rw [sm_addF f g n]; omega
theorem sm_swap (f : Nat → Nat → Int) (m : Nat) : ∀ n, sm n (fun i => sm m (fun j => f i j)) = sm m (fun j => sm n (fun i => f i j))
 | 0 => by simp only [sm]; exact (sm_zero m fun _ _ => rfl).symm
 | n + 1 => by simp only [sm]; rw [sm_swap f m n, ← sm_addF]
end Go.Am
end
section
namespace Go.Am
structure Piv (p : Int) (r : Nat) (M N : Mat) (t k j : Nat) (inv : Int) : Prop where
 tk : t ≤ k
 kr : k < r
 ne : M k j ≠ 0
 one : M k j * inv % p = 1
 nt : ∀ b, N t b = M k b * inv % p
 na : ∀ a, a < r → a ≠ t → ∀ b, N a b = (swapF M t k a b + (p - swapF M t k a j) * N t b) % p
 first : ∀ i, t ≤ i → i < k → M i j = 0
theorem redS_cases {p : Int} {r c : Nat} {s : Mat × List Int × Int} {j : Nat} (hpr : isPrimeI p = true) (I : RI p r c s j) (hj : j < c) :
  (redS p r s j = s ∧ ∀ i, s.2.1.length ≤ i → i < r → s.1 i j = 0) ∨
   ∃ k N inv, redS p r s j = (N, s.2.1 ++ [(j : Int)], redD p s.1 s.2.1.length j k s.2.2) ∧ Piv p r s.1 N s.2.1.length k j inv ∧ s.2.1.length < r := by
 have hp : pOk p := isPrimeI_t hpr
 by_cases hl : s.2.1.length < r
 ·cases hk : pivF s.1 j (r - s.2.1.length) s.2.1.length with
  | none => exact .inl ⟨redS_n hl hk, fun i h1 h2 => pivF_none hk i h1 (by omega)⟩
  | some k =>
   have hq := pivF_lt hk
   have hkn : k < r := by omega
   have hx : inP p (s.1 k j) := I.m k hkn j hj
   have hi := inv_one hpr hx hq.2.2
   have hsw : swapF s.1 s.2.1.length k s.2.1.length j = s.1 k j := if_pos rfl
   refine .inr ⟨k, _, invG p 1 (s.1 k j) (p - 2).toNat, redS_s hl hk, ⟨hq.1, hkn, hq.2.2, hi, fun b => ?_, fun a ha hat b => ?_, pivF_before hk⟩, hl⟩
   ·unfold clrF
    rw [if_neg (by omega)]
    unfold pivS sclF
    rw [if_pos rfl, hsw]
    congr 2
    exact if_pos rfl
   ·have e1 : ∀ y, pivS p s.1 s.2.1.length j k a y = swapF s.1 s.2.1.length k a y := fun y => by unfold pivS sclF; rw [if_neg hat]
    show clrF p _ _ _ _ a b = _
    rw [show clrF p (pivS p s.1 s.2.1.length j k) s.2.1.length j r s.2.1.length b = pivS p s.1 s.2.1.length j k s.2.1.length b from if_neg (by omega)]
    unfold clrF
    rw [if_pos ⟨ha, hat⟩, e1, e1]
 ·refine .inl ⟨by unfold redS; rw [if_neg hl], fun i h1 h2 => by omega⟩
def pv (L : List Int) (i : Nat) : Nat := (L.getD i 0).toNat
theorem pv_old {L : List Int} {x : Int} {i : Nat} (h : i < L.length) : pv (L ++ [x]) i = pv L i := by
 unfold pv
 rw [List.getD_eq_getElem?_getD, List.getD_eq_getElem?_getD, List.getElem?_append_left h]
theorem pv_new {L : List Int} {j : Nat} : pv (L ++ [(j : Int)]) L.length = j := by
 unfold pv
 rw [List.getD_eq_getElem?_getD, List.getElem?_append_right (Nat.le_refl _), Nat.sub_self]
 rfl
structure RF (r : Nat) (s : Mat × List Int × Int) (j : Nat) : Prop where
 lt : ∀ i, i < s.2.1.length → pv s.2.1 i < j
 mono : ∀ i i', i < i' → i' < s.2.1.length → pv s.2.1 i < pv s.2.1 i'
 one : ∀ i, i < s.2.1.length → s.1 i (pv s.2.1 i) = 1
 col : ∀ i, i < s.2.1.length → ∀ a, a < r → a ≠ i → s.1 a (pv s.2.1 i) = 0
 low : ∀ i, i < s.2.1.length → ∀ b, b < pv s.2.1 i → s.1 i b = 0
 zero : ∀ i, s.2.1.length ≤ i → i < r → ∀ b, b < j → s.1 i b = 0
theorem RF.step {p : Int} {r c : Nat} {s : Mat × List Int × Int} {j : Nat} (hpr : isPrimeI p = true) (I : RI p r c s j) (hj : j < c) (h : RF r s j) : RF r (redS p r s j) (j + 1) := by
 have hp : pOk p := isPrimeI_t hpr
 rcases redS_cases hpr I hj with ⟨e, hz⟩ | ⟨k, N, inv, e, P, hl⟩
 ·rw [e]
  refine ⟨fun i hi => by have := h.lt i hi; omega, h.mono, h.one, h.col, h.low, fun i h1 h2 b hb => ?_⟩
  by_cases hbj : b = j
  ·rw [hbj]; exact hz i h1 h2
  ·exact h.zero i h1 h2 b (by omega)
 ·rw [e]
  obtain ⟨M, L, d⟩ := s
  obtain ⟨tk, kr, ne, one, nt, na, first⟩ := P
  dsimp only at tk kr ne one nt na first hl e ⊢
  have hlt : ∀ i, i < L.length → pv L i < j := h.lt
  have hpv : ∀ i, i < L.length → pv (L ++ [(j : Int)]) i = pv L i := fun i hi => pv_old hi
  have hp1 := hp.1
  -- the pivot row is zero before its column
  have nt0 : ∀ b, b < j → N L.length b = 0 := fun b hb => by
   rw [nt, show M k b = 0 from h.zero k tk kr b hb, Int.zero_mul, Int.zero_emod]
  have nt1 : N L.length j = 1 := by rw [nt]; exact one
  -- before j the other rows are the old ones, swapped
  have old : ∀ a, a < r → a ≠ L.length → ∀ b, b < j → N a b = swapF M L.length k a b := fun a ha hat b hb => by
   rw [na a ha hat, nt0 b hb, Int.mul_zero, Int.add_zero]
   have hs : inP p (swapF M L.length k a b) := swapF_in I.m hl kr a ha b (by omega)
   exact Int.emod_eq_of_lt hs.1 hs.2
  have upper : ∀ i, i < L.length → ∀ b, swapF M L.length k i b = M i b := fun i hi b => by
   unfold swapF; rw [if_neg (by omega), if_neg (by omega)]
  have lower : ∀ a, L.length ≤ a → a < r → ∀ b, b < j → swapF M L.length k a b = 0 := fun a h1 h2 b hb => by
   unfold swapF
   split
   ·exact h.zero k tk kr b hb
   ·split
    ·exact h.zero _ (Nat.le_refl _) hl b hb
    ·exact h.zero a h1 h2 b hb
  refine ⟨?_, ?_, ?_, ?_, ?_, ?_⟩ <;> dsimp only
  ·intro i hi
   simp only [List.length_append, List.length_cons, List.length_nil] at hi
   by_cases hil : i < L.length
   ·rw [hpv i hil]; have := hlt i hil; omega
   ·rw [show i = L.length by omega, pv_new]; omega
  ·intro i i' h1 h2
   simp only [List.length_append, List.length_cons, List.length_nil] at h2
   rw [hpv i (by omega)]
   by_cases hil : i' < L.length
   ·rw [hpv i' hil]; exact h.mono i i' h1 hil
   ·rw [show i' = L.length by omega, pv_new]; exact hlt i (by omega)
  ·intro i hi
   simp only [List.length_append, List.length_cons, List.length_nil] at hi
   by_cases hil : i < L.length
   ·rw [hpv i hil, old i (by omega) (by omega) _ (hlt i hil), upper i hil]; exact h.one i hil
   ·rw [show i = L.length by omega, pv_new]; exact nt1
  ·intro i hi a ha hai
   simp only [List.length_append, List.length_cons, List.length_nil] at hi
   by_cases hil : i < L.length
   ·rw [hpv i hil]
    by_cases hat : a = L.length
    ·rw [hat]; exact nt0 _ (hlt i hil)
    ·rw [old a ha hat _ (hlt i hil)]
     by_cases hal : a < L.length
     ·rw [upper a hal]; exact h.col i hil a ha hai
     ·exact lower a (by omega) ha _ (hlt i hil)
   ·have hie : i = L.length := by omega
    rw [hie, pv_new]
    rw [na a ha (by omega), nt1, Int.mul_one]
    rw [show swapF M L.length k a j + (p - swapF M L.length k a j) = p by omega]
    exact Int.emod_self
  ·intro i hi b hb
   simp only [List.length_append, List.length_cons, List.length_nil] at hi
   by_cases hil : i < L.length
   ·rw [hpv i hil] at hb
    have hlj := hlt i hil
    rw [old i (by omega) (by omega) _ (by omega), upper i hil]
    exact h.low i hil b hb
   ·have hie : i = L.length := by omega
    rw [hie, pv_new] at hb
    rw [hie]
    exact nt0 b hb
  ·intro i h1 h2 b hb
   simp only [List.length_append, List.length_cons, List.length_nil] at h1
   by_cases hbj : b = j
   ·rw [hbj, na i h2 (by omega), nt1, Int.mul_one]
    rw [show swapF M L.length k i j + (p - swapF M L.length k i j) = p by omega]
    exact Int.emod_self
   ·rw [old i h2 (by omega) b (by omega)]
    exact lower i (by omega) h2 b (by omega)
theorem redN_RF {p : Int} {r c : Nat} {M : Mat} (hpr : isPrimeI p = true) (hM : inM p r c M) : ∀ j, j ≤ c → RF r (redN p r M j) j
 | 0, _ => ⟨fun i hi => absurd hi (Nat.not_lt_zero i), fun i i' _ hi => absurd hi (Nat.not_lt_zero i'), fun i hi => absurd hi (Nat.not_lt_zero i), fun i hi => absurd hi (Nat.not_lt_zero i), fun i hi => absurd hi (Nat.not_lt_zero i), fun i _ _ b hb => absurd hb (Nat.not_lt_zero b)⟩
 | j + 1, hj => RF.step hpr (redN_I (isPrimeI_t hpr) hM j) (by omega) (redN_RF hpr hM j (by omega))
end Go.Am
end
section
namespace Go.Am
end Go.Am
end
section
namespace Go.Am
def altP (p : Int) (M : Mat) (i j : Nat) : Prop := (M i j + M j i) % p = 0 ∧ (i = j → M i j = 0)
instance (p : Int) (M : Mat) (i j : Nat) : Decidable (altP p M i j) := by unfold altP; infer_instance
def altR (p : Int) (M : Mat) (i : Nat) : Prop := ∀ j, j < i + 1 → altP p M i j
instance (p : Int) (M : Mat) (i : Nat) : Decidable (altR p M i) := by unfold altR; infer_instance
def altOk (p : Int) (n : Nat) (M : Mat) : Bool := decide (∀ i, i < n → altR p M i)
def F_impl_alternating : Int × Int × Int × List Int → Option Bool := fun (x : Int × Int × Int × List Int) =>
 if pOk x.1 ∧ mOk x.2 ∧ x.2.1 = x.2.2.1 ∧ allP x.1 x.2.2.2 then some (altOk x.1 x.2.1.toNat (ofD x.2.1.toNat x.2.2.2)) else none
def ag_impl_alternating : Sig := [(.one, [.int .i64]), (.agg, [.int .i64, .int .i64, .list [.int .i64]])]
def rs_impl_alternating : Sig := [(.one, [.bool])]
def mu_impl_alternating : MSig := []
def G_impl_alternating (NN : Nat) : (Int × (Int × (Int × (List Int)))) → (Option Bool) :=
 (fun ((i0, i1, i2, l3) : (Int × (Int × (Int × (List Int))))) =>
 joinK (loopT NN (fun (((i4, i5), i6, i7, l8) : ((Int × Int) × (Int × (Int × (List Int))))) =>
 cnd (ltI i5 i6)
 (joinK (loopT NN (fun (((i9, i10, i11), i12, i13, l14) : ((Int × (Int × Int)) × (Int × (Int × (List Int))))) =>
 cnd (leI i11 i10)
 ((F_impl_Matrix_at ((i12, i13, l14), i10, i11)).bnd (fun i15 =>
 (F_impl_Matrix_at ((i12, i13, l14), i11, i10)).bnd (fun i16 =>
 (remI (addI .i64 i15 i16) i9).bnd (fun i17 =>
 cnd (neI i17 (0 : Int))
 (some (Sum.inr (Sum.inr (Sum.inr (Sum.inr false)))))
 (cnd (eqI i10 i11)
 ((F_impl_Matrix_at ((i12, i13, l14), i10, i10)).bnd (fun i18 =>
 cnd (neI i18 (0 : Int))
 (some (Sum.inr (Sum.inr (Sum.inr (Sum.inr false)))))
 (some (Sum.inl ((i9, i10, addI .i64 i11 1), i12, i13, l14)))))
 (cnd (false)
 (some (Sum.inr (Sum.inr (Sum.inr (Sum.inr false)))))
 (some (Sum.inl ((i9, i10, addI .i64 i11 1), i12, i13, l14)))))))))
 (some (Sum.inr (Sum.inl ((i10, i9), i12, i13, l14)))))
 ((i4, i5, (0 : Int)), i6, i7, l8))
 (fun ((i19, i20), i21, i22, l23) =>
 some (Sum.inl ((i20, addI .i64 i19 1), i21, i22, l23))))
 (some (Sum.inr (Sum.inl ()))))
 ((i0, (0 : Int)), i1, i2, l3))
 (fun _ =>
 some true))


theorem leN_t {i n : Nat} (h : i ≤ n) : leI (i : Int) (n : Int) = true := leI_t (by omega)
theorem leN_f {i n : Nat} (h : n < i) : leI (i : Int) (n : Int) = false := leI_f (by omega)
theorem sumR {p a b : Int} (hp : pOk p) (ha : inP p a) (hb : inP p b) : remI (addI .i64 a b) p = some ((a + b) % p) := by
 have h1 := hp.1; have h2 := hp.2; have h3 := ha.1; have h4 := ha.2; have h5 := hb.1; have h6 := hb.2
 rw [addI_eq (by omega) (by omega), remN (by omega) (by omega)]
theorem g_alt {p : Int} {n : Nat} {M : Mat} (hp : pOk p) (hn : n ≤ 4096) (hnn : n * n ≤ 1048576) (hM : inM p n n M) :
  G_impl_alternating FUEL (p, (n : Int), (n : Int), genD n n M) = some (altOk p n M) := by
 simp only [G_impl_alternating]
 obtain ⟨q, hq, hlt, hend⟩ := stop_ex (altR p M) n
 rw [loopT_seq (fun i => ((p, (i : Int)), (n : Int), (n : Int), genD n n M)) (r := if q < n then Sum.inr false else Sum.inl ()) q ?_ ?_ ?_ (FUEL_gt (by omega))]
 ·unfold altOk
  by_cases h : q < n
  ·rw [if_pos h, decide_eq_false (fun e => (hend.resolve_left (by omega)) (e q h))]; rfl
  ·rw [if_neg h, decide_eq_true (fun i hi => hlt i (by omega))]; rfl
 ·intro i hi
  have hin : i < n := by omega
  simp only
  rw [cnd_t (ltN_t hin)]
  rw [loopT_seq (fun j => ((p, (i : Int), (j : Int)), (n : Int), (n : Int), genD n n M)) (r := Sum.inl (((i : Int), p), (n : Int), (n : Int), genD n n M)) (i + 1) ?_ ?_ ?_ (FUEL_gt (by omega))]
  ·rw [joinK_l]
   simp only [addN1 (show i ≤ 1048577 by omega)]
  ·intro j hj
   simp only
   have hjn : j < n := by omega
   obtain ⟨a1, a2⟩ := hlt i hi j hj
   rw [cnd_t (leN_t (by omega)), at_nat hn hn hnn hin hjn, bnd_s, at_nat hn hn hnn hjn hin, bnd_s, sumR hp (hM i hin j hjn) (hM j hjn i hin), bnd_s, cnd_f (neI_f a1)]
   by_cases e : i = j
   ·subst e
    rw [cnd_t (eqI_t rfl), at_nat hn hn hnn hin hin, bnd_s, cnd_f (neI_f (a2 rfl))]
    simp only [addN1 (show i ≤ 1048577 by omega)]
   ·rw [cnd_f (eqI_f (by omega)), cnd_false]
    simp only [addN1 (show j ≤ 1048577 by omega)]
  ·simp only
   rw [cnd_f (leN_f (by omega))]
  ·rfl
 ·simp only
  by_cases h : q < n
  ·have hno := hend.resolve_left (by omega)
   rw [if_pos h, cnd_t (ltN_t h)]
   obtain ⟨t, ht, hlt2, hend2⟩ := stop_ex (altP p M q) (q + 1)
   have htq : t < q + 1 := by
    rcases hend2 with e | e
    ·exact absurd (fun j hj => hlt2 j (by omega)) hno
    ·by_cases k : t < q + 1
     ·exact k
     ·exact absurd (fun j hj => hlt2 j (by omega)) hno
   have hbad : ¬ altP p M q t := hend2.resolve_left (by omega)
   rw [loopT_seq (fun j => ((p, (q : Int), (j : Int)), (n : Int), (n : Int), genD n n M)) (r := Sum.inr (Sum.inr (Sum.inr false))) t ?_ ?_ ?_ (FUEL_gt (by omega))]
   ·rfl
   ·intro j hj
    simp only
    have hjn : j < n := by omega
    obtain ⟨a1, a2⟩ := hlt2 j hj
    rw [cnd_t (leN_t (by omega)), at_nat hn hn hnn h hjn, bnd_s, at_nat hn hn hnn hjn h, bnd_s, sumR hp (hM q h j hjn) (hM j hjn q h), bnd_s, cnd_f (neI_f a1)]
    by_cases e : q = j
    ·subst e
     rw [cnd_t (eqI_t rfl), at_nat hn hn hnn h h, bnd_s, cnd_f (neI_f (a2 rfl))]
     simp only [addN1 (show q ≤ 1048577 by omega)]
    ·rw [cnd_f (eqI_f (by omega)), cnd_false]
     simp only [addN1 (show j ≤ 1048577 by omega)]
   ·simp only
    have htn : t < n := by omega
    rw [cnd_t (leN_t (by omega)), at_nat hn hn hnn h htn, bnd_s, at_nat hn hn hnn htn h, bnd_s, sumR hp (hM q h t htn) (hM t htn q h), bnd_s]
    by_cases a1 : (M q t + M t q) % p = 0
    ·rw [cnd_f (neI_f a1)]
     by_cases e : q = t
     ·subst e
      have a2 : M q q ≠ 0 := fun z => hbad ⟨a1, fun _ => z⟩
      rw [cnd_t (eqI_t rfl), at_nat hn hn hnn h h, bnd_s, cnd_t (neI_t a2)]
     ·exact absurd ⟨a1, fun z => absurd z e⟩ hbad
    ·rw [cnd_t (neI_t a1)]
   ·rfl
  ·rw [if_neg h, cnd_f (ltN_f (by omega))]
 ·rfl
theorem f_impl_alternating (x : Int × Int × Int × List Int) (y : Bool) (h : F_impl_alternating x = some y) : G_impl_alternating FUEL x = some y := by
 obtain ⟨p, x⟩ := x
 simp only [F_impl_alternating] at h
 split at h
 ·rename_i hc
  obtain ⟨hp, hm, hs, ha⟩ := hc
  obtain ⟨r, c, M, rfl, h1, h2, h3⟩ := mOk_gen hm
  simp only at hs ha
  have : c = r := by omega
  subst this
  have e : genD c c (ofD c (genD c c M)) = genD c c M := genD_of (genD_len c c M)
  have hM : inM p c c (ofD c (genD c c M)) := allP_gen.1 (by rw [e]; exact ha)
  rw [← h]
  have := g_alt hp h1 h3 hM
  rw [e] at this
  rw [this]
  simp only [Int.toNat_natCast]
 ·cases h
end Go.Am
end
section
namespace Go.Am
def swB (A : Mat) (s t : Nat) : Mat := turnF (swapF (turnF (swapF A s t)) s t)
def clB (p : Int) (A : Mat) (r k : Nat) (y : Int) : Mat := turnF (clearF p (turnF (clearF p A r k (p - y))) r k (p - y))
def elS (p : Int) (A : Mat) (k : Nat) (inv : Int) : Nat → Mat
 | 0 => A
 | d + 1 => clB p (elS p A k inv d) (k + 2 + d) (k + 1) (elS p A k inv d k (k + 2 + d) * inv % p)
def elI (p : Int) (A : Mat) (s : Nat) (inv : Int) : Mat := fun i j =>
 if s + 2 ≤ i ∧ s + 2 ≤ j then (A i j + (A (s + 1) i * A s j + (p - A s i) * A (s + 1) j) % p * inv) % p else A i j
def eqm (p a b : Int) : Prop := ∃ q, a = b + p * q
theorem eqm.refl (p a : Int) : eqm p a a := ⟨0, by simp⟩
theorem eqm_mod (p a : Int) : eqm p (a % p) a := ⟨-(a / p), by have := Int.emod_add_mul_ediv a p; have e := Int.mul_neg p (a / p); omega⟩
theorem eqm.trans {p a b c : Int} (h : eqm p a b) (h' : eqm p b c) : eqm p a c := by
 obtain ⟨q, rfl⟩ := h; obtain ⟨q', rfl⟩ := h'; exact ⟨q' + q, by rw [Int.mul_add]; omega⟩
theorem eqm.symm {p a b : Int} (h : eqm p a b) : eqm p b a := by
 obtain ⟨q, rfl⟩ := h; exact ⟨-q, by rw [Int.mul_neg]; omega⟩
theorem eqm.add {p a b c d : Int} (h : eqm p a b) (h' : eqm p c d) : eqm p (a + c) (b + d) := by
 obtain ⟨q, rfl⟩ := h; obtain ⟨q', rfl⟩ := h'; exact ⟨q + q', by grind⟩
theorem eqm.mul {p a b c d : Int} (h : eqm p a b) (h' : eqm p c d) : eqm p (a * c) (b * d) := by
 obtain ⟨q, rfl⟩ := h; obtain ⟨q', rfl⟩ := h'; exact ⟨q * d + b * q' + p * q * q', by grind⟩
theorem eqm_in {p a b : Int} (h : eqm p a b) (ha : inP p a) (hb : inP p b) : a = b := by
 obtain ⟨q, hq⟩ := h
 have h1 := ha.1; have h2 := ha.2; have h3 := hb.1; have h4 := hb.2
 have hp : 0 < p := by omega
 rcases Int.lt_trichotomy q 0 with h | h | h
 ·have : p * q ≤ p * (-1) := Int.mul_le_mul_of_nonneg_left (by omega) (by omega)
  omega
 ·subst h; omega
 ·have : p * 1 ≤ p * q := Int.mul_le_mul_of_nonneg_left (by omega) (by omega)
  omega
def AltB (p : Int) (n k : Nat) (A : Mat) : Prop := (∀ i, k ≤ i → i < n → A i i = 0) ∧ ∀ i j, k ≤ i → i < n → k ≤ j → j < n → eqm p (A i j + A j i) 0
def EqB (n k : Nat) (A C : Mat) : Prop := ∀ i j, k ≤ i → i < n → k ≤ j → j < n → A i j = C i j
theorem swB_val (A : Mat) (s t i j : Nat) : swB A s t i j = A (if i = s then t else if i = t then s else i) (if j = s then t else if j = t then s else j) := by
 unfold swB turnF swapF
 simp only
 repeat' split
 all_goals rfl
theorem clB_val (p : Int) (A : Mat) (r k : Nat) (y : Int) (i j : Nat) : eqm p (clB p A r k y i j) (A i j - (if i = r then y * A k j else 0) - (if j = r then y * ((if i = r then A r k - y * A k k else A i k)) else 0)) := by
 have m1 : ∀ a b, eqm p (clearF p A r k (p - y) a b) (A a b - if a = r then y * A k b else 0) := by
  intro a b
  unfold clearF
  by_cases h : a = r
  ·subst h
   rw [if_pos rfl, if_pos rfl]
   exact (eqm_mod _ _).trans ⟨A k b, by grind⟩
  ·rw [if_neg h, if_neg h]
   exact ⟨0, by simp⟩
 show eqm p (clearF p (turnF (clearF p A r k (p - y))) r k (p - y) j i) _
 unfold clearF turnF
 dsimp only
 by_cases h : j = r
 ·subst h
  rw [if_pos rfl, if_pos rfl]
  refine (eqm_mod _ _).trans ?_
  have e1 := m1 i j
  have e2 := m1 i k
  unfold clearF at e1 e2
  obtain ⟨q1, h1⟩ := e1
  obtain ⟨q2, h2⟩ := e2
  rw [h1, h2]
  by_cases hi : i = j
  ·subst hi
   simp only [if_true]
   exact ⟨q1 + (p - y) * q2 + (A i k - y * A k k), by grind⟩
  ·simp only [hi, if_false]
   exact ⟨q1 + (p - y) * q2 + A i k, by grind⟩
 ·rw [if_neg h, if_neg h]
  have e1 := m1 i j
  unfold clearF at e1
  obtain ⟨q1, h1⟩ := e1
  exact ⟨q1, by rw [h1]; omega⟩
section
variable {p inv : Int} {n k : Nat} {A : Mat}
theorem elS_val (hz : A (k + 1) (k + 1) = 0) : ∀ d i j, eqm p (elS p A k inv d i j)
  (A i j - (if k + 2 ≤ i ∧ i < k + 2 + d then A k i * inv % p * A (k + 1) j else 0) - (if k + 2 ≤ j ∧ j < k + 2 + d then A k j * inv % p * A i (k + 1) else 0))
 | 0, i, j => by
  rw [if_neg (by omega), if_neg (by omega)]
  exact ⟨0, by simp [elS]⟩
 | d + 1, i, j => by
  have ih := elS_val hz d
  show eqm p (clB p (elS p A k inv d) (k + 2 + d) (k + 1) (elS p A k inv d k (k + 2 + d) * inv % p) i j) _
  refine (clB_val p (elS p A k inv d) (k + 2 + d) (k + 1) (elS p A k inv d k (k + 2 + d) * inv % p) i j).trans ?_
  -- row k + 1 and column k + 1 stay
  have row : ∀ j, eqm p (elS p A k inv d (k + 1) j) (A (k + 1) j) := fun j => by
   refine (ih (k + 1) j).trans ?_
   rw [if_neg (by omega), hz]
   exact ⟨0, by split <;> simp⟩
  have col : ∀ i, eqm p (elS p A k inv d i (k + 1)) (A i (k + 1)) := fun i => by
   refine (ih i (k + 1)).trans ?_
   rw [if_neg (show ¬ (k + 2 ≤ k + 1 ∧ k + 1 < k + 2 + d) by omega), hz]
   exact ⟨0, by split <;> simp⟩
  have ky : eqm p (elS p A k inv d k (k + 2 + d) * inv % p) (A k (k + 2 + d) * inv % p) := by
   refine (eqm_mod _ _).trans (eqm.trans ?_ (eqm_mod _ _).symm)
   refine eqm.mul ?_ (eqm.refl _ _)
   refine (ih k (k + 2 + d)).trans ?_
   rw [if_neg (by omega), if_neg (by omega)]
   exact ⟨0, by simp⟩
  generalize elS p A k inv d k (k + 2 + d) * inv % p = y at ky ⊢
  have hij := ih i j
  have hrow := row j
  have hcol := col i
  have hcr := col (k + 2 + d)
  have hkk := row (k + 1)
  rw [hz] at hkk
  generalize elS p A k inv d = E at hij hrow hcol hcr hkk ⊢
  obtain ⟨q1, h1⟩ := hij
  obtain ⟨q2, h2⟩ := hrow
  obtain ⟨q3, h3⟩ := hcol
  obtain ⟨q4, h4⟩ := hcr
  obtain ⟨q5, h5⟩ := hkk
  obtain ⟨q6, h6⟩ := ky
  rw [h1, h2, h3, h4, h5, h6]
  by_cases hi : i = k + 2 + d
  ·subst hi
   rw [if_pos rfl, if_pos rfl]
   rw [if_neg (show ¬ (k + 2 ≤ k + 2 + d ∧ k + 2 + d < k + 2 + d) by omega), if_pos (show k + 2 ≤ k + 2 + d ∧ k + 2 + d < k + 2 + (d + 1) by omega)]
   by_cases hj : j = k + 2 + d
   ·subst hj
    rw [if_pos rfl, if_neg (show ¬ (k + 2 ≤ k + 2 + d ∧ k + 2 + d < k + 2 + d) by omega), if_pos (show k + 2 ≤ k + 2 + d ∧ k + 2 + d < k + 2 + (d + 1) by omega)]
    exact ⟨q1 - q6 * A (k + 1) (k + 2 + d) - (A k (k + 2 + d) * inv % p + p * q6) * q2 - q6 * A (k + 2 + d) (k + 1) - (A k (k + 2 + d) * inv % p + p * q6) * (q4 - (A k (k + 2 + d) * inv % p + p * q6) * q5), by grind⟩
   ·rw [if_neg hj]
    have ej : (k + 2 ≤ j ∧ j < k + 2 + (d + 1)) ↔ (k + 2 ≤ j ∧ j < k + 2 + d) := by omega
    simp only [ej]
    exact ⟨q1 - q6 * A (k + 1) j - (A k (k + 2 + d) * inv % p + p * q6) * q2, by grind⟩
  ·rw [if_neg hi, if_neg hi]
   have ei : (k + 2 ≤ i ∧ i < k + 2 + (d + 1)) ↔ (k + 2 ≤ i ∧ i < k + 2 + d) := by omega
   simp only [ei]
   by_cases hj : j = k + 2 + d
   ·subst hj
    rw [if_pos rfl, if_neg (show ¬ (k + 2 ≤ k + 2 + d ∧ k + 2 + d < k + 2 + d) by omega), if_pos (show k + 2 ≤ k + 2 + d ∧ k + 2 + d < k + 2 + (d + 1) by omega)]
    exact ⟨q1 - q6 * A i (k + 1) - (A k (k + 2 + d) * inv % p + p * q6) * q3, by grind⟩
   ·rw [if_neg hj]
    have ej : (k + 2 ≤ j ∧ j < k + 2 + (d + 1)) ↔ (k + 2 ≤ j ∧ j < k + 2 + d) := by omega
    simp only [ej]
    exact ⟨q1, by grind⟩
theorem turnF_in {p : Int} {n : Nat} {M : Mat} (h : inM p n n M) : inM p n n (turnF M) := fun i hi j hj => h j hj i hi
theorem clearF_inN {p : Int} {n : Nat} {M : Mat} (hp : pOk p) (h : inM p n n M) (i k : Nat) (f : Int) : inM p n n (clearF p M i k f) := by
 intro a ha b hb
 unfold clearF
 split
 ·exact emod_in hp _
 ·exact h a ha b hb
theorem elS_in (hp : pOk p) (h : inM p n n A) : ∀ d, inM p n n (elS p A k inv d)
 | 0 => h
 | d + 1 => turnF_in (clearF_inN hp (turnF_in (clearF_inN hp (elS_in hp h d) _ _ _)) _ _ _)
theorem elI_in (hp : pOk p) (h : inM p n n A) : inM p n n (elI p A k inv) := by
 intro a ha b hb
 unfold elI
 split
 ·exact emod_in hp _
 ·exact h a ha b hb
theorem el_agree (hp : pOk p) {C : Mat} (hA : inM p n n A) (hC : inM p n n C) (hk : k + 1 < n) (hAC : EqB n k A C) (hz : A (k + 1) (k + 1) = 0) (halt : AltB p n k A) :
  EqB n (k + 2) (elS p A k inv (n - (k + 2))) (elI p C k inv) ∧ AltB p n (k + 2) (elS p A k inv (n - (k + 2))) := by
 have val : ∀ i j, k + 2 ≤ i → i < n → k + 2 ≤ j → j < n → eqm p (elS p A k inv (n - (k + 2)) i j) (A i j - A k i * inv * A (k + 1) j + A k j * inv * A (k + 1) i) := by
  intro i j hi hi' hj hj'
  refine (elS_val hz (n - (k + 2)) i j).trans ?_
  rw [if_pos (by omega), if_pos (by omega)]
  obtain ⟨q1, h1⟩ := eqm_mod p (A k i * inv)
  obtain ⟨q2, h2⟩ := eqm_mod p (A k j * inv)
  obtain ⟨q3, h3⟩ := halt.2 i (k + 1) (by omega) hi' (by omega) hk
  rw [h1, h2]
  have e : A i (k + 1) = p * q3 - A (k + 1) i := by omega
  rw [e]
  exact ⟨- q1 * A (k + 1) j - q2 * (p * q3 - A (k + 1) i) - A k j * inv * q3, by grind⟩
 constructor
 ·intro i j hi hi' hj hj'
  refine eqm_in ?_ (elS_in hp hA _ i hi' j hj') (elI_in hp hC i hi' j hj')
  refine (val i j hi hi' hj hj').trans ?_
  unfold elI
  rw [if_pos ⟨hi, hj⟩]
  refine eqm.symm ((eqm_mod _ _).trans ?_)
  obtain ⟨q, hq⟩ := eqm_mod p (C (k + 1) i * C k j + (p - C k i) * C (k + 1) j)
  rw [hq, ← hAC i j (by omega) hi' (by omega) hj', ← hAC (k + 1) i (by omega) hk (by omega) hi', ← hAC k j (by omega) (by omega) (by omega) hj', ← hAC k i (by omega) (by omega) (by omega) hi', ← hAC (k + 1) j (by omega) hk (by omega) hj']
  exact ⟨(A (k + 1) j + q) * inv, by grind⟩
 ·constructor
  ·intro i hi hi'
   refine eqm_in ((val i i hi hi' hi hi').trans ?_) (elS_in hp hA _ i hi' i hi') ⟨Int.le_refl _, by have := hp.1; omega⟩
   rw [halt.1 i (by omega) hi']
   exact ⟨0, by grind⟩
  ·intro i j hi hi' hj hj'
   obtain ⟨q1, h1⟩ := val i j hi hi' hj hj'
   obtain ⟨q2, h2⟩ := val j i hj hj' hi hi'
   obtain ⟨q3, h3⟩ := halt.2 i j (by omega) hi' (by omega) hj'
   rw [h1, h2]
   exact ⟨q1 + q2 + q3, by grind⟩
theorem sw_lt {s t i : Nat} (hs : s < n) (ht : t < n) (hi : i < n) : (if i = s then t else if i = t then s else i) < n := by
 split
 ·exact ht
 ·split
  ·exact hs
  ·exact hi
theorem sw_ge {s t i : Nat} (hs : k ≤ s) (ht : k ≤ t) (hi : k ≤ i) : k ≤ (if i = s then t else if i = t then s else i) := by
 split
 ·exact ht
 ·split
  ·exact hs
  ·exact hi
theorem swB_in {s t : Nat} (hs : s < n) (ht : t < n) (h : inM p n n A) : inM p n n (swB A s t) := fun i hi j hj => by
 rw [swB_val]; exact h _ (sw_lt hs ht hi) _ (sw_lt hs ht hj)
theorem swB_eq {s t : Nat} {C : Mat} (hs : k ≤ s ∧ s < n) (ht : k ≤ t ∧ t < n) (h : EqB n k A C) : EqB n k (swB A s t) (swB C s t) := fun i j hi hi' hj hj' => by
 rw [swB_val, swB_val]; exact h _ _ (sw_ge hs.1 ht.1 hi) (sw_lt hs.2 ht.2 hi') (sw_ge hs.1 ht.1 hj) (sw_lt hs.2 ht.2 hj')
theorem swB_alt {s t : Nat} (hs : k ≤ s ∧ s < n) (ht : k ≤ t ∧ t < n) (h : AltB p n k A) : AltB p n k (swB A s t) :=
  ⟨fun i hi hi' => by rw [swB_val]; exact h.1 _ (sw_ge hs.1 ht.1 hi) (sw_lt hs.2 ht.2 hi'),
   fun i j hi hi' hj hj' => by rw [swB_val, swB_val]; exact h.2 _ _ (sw_ge hs.1 ht.1 hi) (sw_lt hs.2 ht.2 hi') (sw_ge hs.1 ht.1 hj) (sw_lt hs.2 ht.2 hj')⟩
end
end Go.Am
end
section
namespace Go.Am
def d2 (a b c d : Int) : Int := a * d - b * c
def d3 (a b c d e f g h i : Int) : Int := a * d2 e f h i - b * d2 d f g i + c * d2 d e g h
def dP (n : Nat) (M : Mat) : Int := match n with
 | 0 => 1
 | 1 => M 0 0
 | 2 => d2 (M 0 0) (M 0 1) (M 1 0) (M 1 1)
 | 3 => d3 (M 0 0) (M 0 1) (M 0 2) (M 1 0) (M 1 1) (M 1 2) (M 2 0) (M 2 1) (M 2 2)
 | 4 => M 0 0 * d3 (M 1 1) (M 1 2) (M 1 3) (M 2 1) (M 2 2) (M 2 3) (M 3 1) (M 3 2) (M 3 3) - M 0 1 * d3 (M 1 0) (M 1 2) (M 1 3) (M 2 0) (M 2 2) (M 2 3) (M 3 0) (M 3 2) (M 3 3) +
   M 0 2 * d3 (M 1 0) (M 1 1) (M 1 3) (M 2 0) (M 2 1) (M 2 3) (M 3 0) (M 3 1) (M 3 3) - M 0 3 * d3 (M 1 0) (M 1 1) (M 1 2) (M 2 0) (M 2 1) (M 2 2) (M 3 0) (M 3 1) (M 3 2)
 | _ => 0
theorem eqm.sub {p a b c d : Int} (h : eqm p a b) (h' : eqm p c d) : eqm p (a - c) (b - d) := by
 obtain ⟨q, rfl⟩ := h; obtain ⟨q', rfl⟩ := h'; exact ⟨q - q', by grind⟩
theorem d2_m {p a b c d a' b' c' d' : Int} (h1 : eqm p a a') (h2 : eqm p b b') (h3 : eqm p c c') (h4 : eqm p d d') : eqm p (d2 a b c d) (d2 a' b' c' d') := (h1.mul h4).sub (h2.mul h3)
theorem d3_m {p a b c d e f g h i a' b' c' d' e' f' g' h' i' : Int} (h1 : eqm p a a') (h2 : eqm p b b') (h3 : eqm p c c') (h4 : eqm p d d') (h5 : eqm p e e') (h6 : eqm p f f') (h7 : eqm p g g') (h8 : eqm p h h') (h9 : eqm p i i') :
  eqm p (d3 a b c d e f g h i) (d3 a' b' c' d' e' f' g' h' i') :=
 ((h1.mul (d2_m h5 h6 h8 h9)).sub (h2.mul (d2_m h4 h6 h7 h9))).add (h3.mul (d2_m h4 h5 h7 h8))
theorem dP_m {p : Int} {n : Nat} {M N : Mat} (h : ∀ a, a < n → ∀ b, b < n → eqm p (M a b) (N a b)) : eqm p (dP n M) (dP n N) := by
 match n, h with
 | 0, h => exact eqm.refl _ _
 | 1, h => exact h 0 (by decide) 0 (by decide)
 | 2, h => exact d2_m (h 0 (by decide) 0 (by decide)) (h 0 (by decide) 1 (by decide)) (h 1 (by decide) 0 (by decide)) (h 1 (by decide) 1 (by decide))
 | 3, h => exact d3_m (h 0 (by decide) 0 (by decide)) (h 0 (by decide) 1 (by decide)) (h 0 (by decide) 2 (by decide)) (h 1 (by decide) 0 (by decide)) (h 1 (by decide) 1 (by decide)) (h 1 (by decide) 2 (by decide)) (h 2 (by decide) 0 (by decide)) (h 2 (by decide) 1 (by decide)) (h 2 (by decide) 2 (by decide))
 | 4, h =>
  have g : ∀ a b : Fin 4, eqm p (M a.val b.val) (N a.val b.val) := fun a b => h a.val a.isLt b.val b.isLt
  exact (((g 0 0).mul (d3_m (g 1 1) (g 1 2) (g 1 3) (g 2 1) (g 2 2) (g 2 3) (g 3 1) (g 3 2) (g 3 3))).sub ((g 0 1).mul (d3_m (g 1 0) (g 1 2) (g 1 3) (g 2 0) (g 2 2) (g 2 3) (g 3 0) (g 3 2) (g 3 3)))).add
   ((g 0 2).mul (d3_m (g 1 0) (g 1 1) (g 1 3) (g 2 0) (g 2 1) (g 2 3) (g 3 0) (g 3 1) (g 3 3))) |>.sub ((g 0 3).mul (d3_m (g 1 0) (g 1 1) (g 1 2) (g 2 0) (g 2 1) (g 2 2) (g 3 0) (g 3 1) (g 3 2)))
 | n + 5, h => exact eqm.refl _ _
theorem lt4 {t n : Nat} (h : t < n) (hn : n ≤ 4) : (n = 1 ∧ t = 0) ∨ (n = 2 ∧ (t = 0 ∨ t = 1)) ∨ (n = 3 ∧ (t = 0 ∨ t = 1 ∨ t = 2)) ∨ (n = 4 ∧ (t = 0 ∨ t = 1 ∨ t = 2 ∨ t = 3)) := by omega
theorem dP_clear {n t : Nat} (hn : n ≤ 4) (ht : t < n) (S : Mat) (u f : Nat → Int) : dP n (fun a b => if a = t then u b else S a b + f a * u b) = dP n (fun a b => if a = t then u b else S a b) := by
 rcases lt4 ht hn with ⟨rfl, rfl⟩ | ⟨rfl, rfl | rfl⟩ | ⟨rfl, rfl | rfl | rfl⟩ | ⟨rfl, rfl | rfl | rfl | rfl⟩ <;> simp [dP, d2, d3] <;> grind
theorem dP_scale {n t : Nat} (hn : n ≤ 4) (ht : t < n) (S : Mat) (x : Int) : dP n (fun a b => if a = t then x * S a b else S a b) = x * dP n S := by
 rcases lt4 ht hn with ⟨rfl, rfl⟩ | ⟨rfl, rfl | rfl⟩ | ⟨rfl, rfl | rfl | rfl⟩ | ⟨rfl, rfl | rfl | rfl | rfl⟩ <;> simp [dP, d2, d3] <;> grind
theorem dP_swap {n t k : Nat} (hn : n ≤ 4) (ht : t < k) (hk : k < n) (S : Mat) : dP n (swapF S t k) = - dP n S := by
 have h : (n = 2 ∧ t = 0 ∧ k = 1) ∨ (n = 3 ∧ t = 0 ∧ k = 1) ∨ (n = 3 ∧ t = 0 ∧ k = 2) ∨ (n = 3 ∧ t = 1 ∧ k = 2) ∨ (n = 4 ∧ t = 0 ∧ k = 1) ∨ (n = 4 ∧ t = 0 ∧ k = 2) ∨ (n = 4 ∧ t = 0 ∧ k = 3) ∨ (n = 4 ∧ t = 1 ∧ k = 2) ∨ (n = 4 ∧ t = 1 ∧ k = 3) ∨ (n = 4 ∧ t = 2 ∧ k = 3) := by omega
 rcases h with ⟨rfl, rfl, rfl⟩ | ⟨rfl, rfl, rfl⟩ | ⟨rfl, rfl, rfl⟩ | ⟨rfl, rfl, rfl⟩ | ⟨rfl, rfl, rfl⟩ | ⟨rfl, rfl, rfl⟩ | ⟨rfl, rfl, rfl⟩ | ⟨rfl, rfl, rfl⟩ | ⟨rfl, rfl, rfl⟩ | ⟨rfl, rfl, rfl⟩ <;> simp [dP, d2, d3, swapF] <;> grind
theorem dP_one {n : Nat} (hn : n ≤ 4) {S : Mat} (h : ∀ a, a < n → ∀ b, b < n → S a b = if a = b then 1 else 0) : dP n S = 1 := by
 have : dP n S = dP n (fun a b => if a = b then 1 else 0) := by
  obtain rfl | rfl | rfl | rfl | rfl : n = 0 ∨ n = 1 ∨ n = 2 ∨ n = 3 ∨ n = 4 := by omega
  all_goals simp [dP, d2, d3, h]
 rw [this]
 obtain rfl | rfl | rfl | rfl | rfl : n = 0 ∨ n = 1 ∨ n = 2 ∨ n = 3 ∨ n = 4 := by omega
 all_goals simp [dP, d2, d3]
theorem dP_zero {n : Nat} (hn : n + 1 ≤ 4) {S : Mat} (h : ∀ b, b < n + 1 → S n b = 0) : dP (n + 1) S = 0 := by
 obtain rfl | rfl | rfl | rfl : n = 0 ∨ n = 1 ∨ n = 2 ∨ n = 3 := by omega
 all_goals simp [dP, d2, d3, h]
end Go.Am
end
section
namespace Go.Am
def detR (p : Int) (n : Nat) (M : Mat) : Int := if (redN p n M n).2.1.length < n then 0 else (redN p n M n).2.2
def F_spec_Determinant : Int × Int × Int × List Int → Option (Int × Bool) := fun (x : Int × Int × Int × List Int) =>
 if sz_Matrix x.2 ≤ 1048576 then some (if matOk x.1 x.2 = true ∧ x.2.1 = x.2.2.1 then (detR x.1 x.2.1.toNat (ofD x.2.1.toNat x.2.2.2), true) else (0, false)) else none
def F_impl_Determinant : Int × Int × Int × List Int → Option (Int × Bool) := F_spec_Determinant
def lowF (p inv : Int) (S : Mat) (k m : Nat) : Mat := fun a b => if k < a ∧ a < m then (S a b + (p - S a k * inv % p) % p * S k b) % p else S a b
def ag_impl_Determinant : Sig := [(.one, [.int .i64]), (.agg, [.int .i64, .int .i64, .list [.int .i64]])]
def rs_impl_Determinant : Sig := [(.one, [.int .i64]), (.one, [.bool])]
def mu_impl_Determinant : MSig := []
def G_impl_Determinant (NN : Nat) : (Int × (Int × (Int × (List Int)))) → (Option (Int × Bool)) :=
 (fun ((i0, i1, i2, l3) : (Int × (Int × (Int × (List Int))))) =>
 (F_impl_MatrixOk (i0, i1, i2, l3)).bnd (fun b4 =>
 cnd (notB b4)
 (some ((0 : Int), false))
 (cnd (neI i1 i2)
 (some ((0 : Int), false))
 ((F_impl_copyMatrix (i1, i2, l3)).bnd (fun (i5, i6, l7) =>
 joinK ((fulI 0 (lenN l7) (lenN l7)).bnd (fun _ =>
 loopT NN (fun (((i8, i9, i10), (i11, i12), l13) : ((Int × (Int × Int)) × ((Int × Int) × (List Int)))) =>
 cnd (ltI i10 i12)
 (joinK (joinK ((fulI 0 (lenN l13) (lenN l13)).bnd (fun _ =>
 loopT NN (fun (((i14, i15, i16, i17), (i18, i19), l20) : ((Int × (Int × (Int × Int))) × ((Int × Int) × (List Int)))) =>
 cnd (ltI i17 i18)
 ((winI l20 0 (lenN l20)).bnd (fun l21 =>
 (F_impl_Matrix_at ((i18, i19, l21), i17, i16)).bnd (fun i22 =>
 cnd (eqI i22 (0 : Int))
 ((fulI 0 (lenN l20) (lenN l20)).bnd (fun _ =>
 some (Sum.inl ((i14, i15, i16, addI .i64 i17 1), (i18, i19), l20))))
 (((fulI 0 (lenN l20) (lenN l20)).bnd (fun _ =>
 some (Sum.inl ((i17, i15, i14, i16), (i18, i19), l20)))).bnd (fun l23 =>
 some (Sum.inr l23))))))
 (((fulI 0 (lenN l20) (lenN l20)).bnd (fun _ =>
 some (Sum.inl ((i17, i15, i14, i16), (i18, i19), l20)))).bnd (fun l24 =>
 some (Sum.inr l24))))
 ((i8, i9, i10, i10), (i11, i12), l13)))
 (fun ((i25, i26, i27, i28), (i29, i30), l31) =>
 cnd (eqI i25 i29)
 (some (Sum.inr (Sum.inr (Sum.inr ((0 : Int), true)))))
 (joinK (cnd (neI i25 i28)
 ((fulI 0 (lenN l31) (lenN l31)).bnd (fun _ =>
 (F_impl_Matrix_swapRows ((i29, i30, l31), i25, i28)).bnd (fun l32 =>
 (remI (subI .i64 i27 i26) i27).bnd (fun i33 =>
 (fulI 0 (lenN l31) (lenN l32)).bnd (fun _ =>
 some (Sum.inl ((i33, i27, i28), (i29, i30), l32)))))))
 ((fulI 0 (lenN l31) (lenN l31)).bnd (fun _ =>
 some (Sum.inl ((i26, i27, i28), (i29, i30), l31)))))
 (fun ((i34, i35, i36), (i37, i38), l39) =>
 (winI l39 0 (lenN l39)).bnd (fun l40 =>
 (F_impl_Matrix_at ((i37, i38, l40), i36, i36)).bnd (fun i41 =>
 (remI (mulI .i64 i34 i41) i35).bnd (fun i42 =>
 (winI l39 0 (lenN l39)).bnd (fun l43 =>
 (F_impl_Matrix_at ((i37, i38, l43), i36, i36)).bnd (fun i44 =>
 (F_impl_rawInverse (i35, i44)).bnd (fun i45 =>
 (fulI 0 (lenN l39) (lenN l39)).bnd (fun _ =>
 loopT NN (fun (((i46, i47, i48, i49, i50), (i51, i52), l53) : ((Int × (Int × (Int × (Int × Int)))) × ((Int × Int) × (List Int)))) =>
 cnd (ltI i50 i51)
 ((winI l53 0 (lenN l53)).bnd (fun l54 =>
 (F_impl_Matrix_at ((i51, i52, l54), i50, i48)).bnd (fun i55 =>
 (remI (mulI .i64 i55 i49) i46).bnd (fun i56 =>
 (remI (subI .i64 i46 i56) i46).bnd (fun i57 =>
 (fulI 0 (lenN l53) (lenN l53)).bnd (fun _ =>
 (F_impl_Matrix_addRow ((i51, i52, l53), i46, i50, i48, i57)).bnd (fun l58 =>
 (fulI 0 (lenN l53) (lenN l58)).bnd (fun _ =>
 some (Sum.inl ((i46, i47, i48, i49, addI .i64 i50 1), (i51, i52), l58))))))))))
 (((fulI 0 (lenN l53) (lenN l53)).bnd (fun _ =>
 some (Sum.inl ((i48, i46, i47), (i51, i52), l53)))).bnd (fun l59 =>
 some (Sum.inr l59))))
 ((i35, i42, i36, i45, addI .i64 i36 1), (i37, i38), l39))))))))))))
 (fun ((i60, i61, i62), (i63, i64), l65) =>
 (fulI 0 (lenN l65) (lenN l65)).bnd (fun _ =>
 some (Sum.inl ((i61, i62, addI .i64 i60 1), (i63, i64), l65)))))
 (some (Sum.inr (Sum.inl i9))))
 ((i0, (1 : Int), (0 : Int)), (i5, i6), l7)))
 (fun i66 =>
 some (i66, true)))))))


theorem low_eq {p X Y I s : Int} : (s + (p - X) * (Y * I % p)) % p = (s + (p - X * I % p) % p * Y) % p := by
 rw [Int.emod_def (Y * I) p, Int.emod_def (p - X * I % p) p, Int.emod_def (X * I) p]
 generalize Y * I / p = q1
 generalize X * I / p = q2
 generalize (p - (X * I - p * q2)) / p = q3
 rw [show s + (p - X) * (Y * I - p * q1) = (s + ((p - (X * I - p * q2)) - p * q3) * Y) + p * (Y * I - p * q1 + X * q1 - Y * (1 + q2 - q3)) by grind, Int.add_mul_emod_self_left]
theorem lowF_0 (p inv : Int) (S : Mat) (k : Nat) : lowF p inv S k (k + 1) = S := by funext a b; exact if_neg (by omega)
theorem lowF_old (p inv : Int) (S : Mat) (k m b : Nat) : lowF p inv S k m m b = S m b := if_neg (by omega)
theorem lowF_k (p inv : Int) (S : Mat) (k m b : Nat) : lowF p inv S k m k b = S k b := if_neg (by omega)
theorem lowF_in {p inv : Int} {r c : Nat} {S : Mat} (hp : pOk p) (hS : inM p r c S) (k m : Nat) : inM p r c (lowF p inv S k m) := by
 intro i hi j hj
 unfold lowF
 split
 ·exact emod_in hp _
 ·exact hS i hi j hj
theorem low_step {r c : Nat} {p inv : Int} (S : Mat) (k m : Nat) (hm : k < m) : genD r c (clearF p (lowF p inv S k m) m k ((p - S m k * inv % p) % p)) = genD r c (lowF p inv S k (m + 1)) := by
 refine genD_congr fun a _ b _ => ?_
 unfold clearF
 by_cases h : a = m
 ·subst h
  rw [if_pos rfl, lowF_old, lowF_k]
  exact (if_pos ⟨hm, by omega⟩).symm
 ·rw [if_neg h]
  unfold lowF
  by_cases h1 : k < a ∧ a < m
  ·rw [if_pos h1, if_pos ⟨h1.1, by omega⟩]
  ·rw [if_neg h1, if_neg (by omega)]
theorem low_agree {p : Int} {n : Nat} {M D : Mat} {k q : Nat} (hk : k ≤ q) (hq : q < n) (h : ∀ a, k ≤ a → a < n → ∀ b, b < n → D a b = M a b) (a : Nat) (ha : k + 1 ≤ a) (han : a < n) (b : Nat) (hb : b < n) :
  lowF p (invG p 1 (swapF D k q k k) (p - 2).toNat) (swapF D k q) k n a b = clrF p (pivS p M k k q) k k n a b := by
 have hs : ∀ a, k ≤ a → a < n → ∀ b, b < n → swapF D k q a b = swapF M k q a b := by
  intro a h1 h2 b hb
  unfold swapF
  by_cases e1 : a = k
  ·rw [if_pos e1, if_pos e1]; exact h q hk hq b hb
  ·rw [if_neg e1, if_neg e1]
   by_cases e2 : a = q
   ·rw [if_pos e2, if_pos e2]; exact h k (Nat.le_refl k) (by omega) b hb
   ·rw [if_neg e2, if_neg e2]; exact h a h1 h2 b hb
 have hkk := hs k (Nat.le_refl k) (by omega) k (by omega)
 unfold lowF clrF
 rw [if_pos ⟨by omega, han⟩, if_pos ⟨han, by omega⟩]
 have p1 : ∀ b, pivS p M k k q a b = swapF M k q a b := fun b => if_neg (by omega)
 have p2 : pivS p M k k q k b = swapF M k q k b * invG p 1 (swapF M k q k k) (p - 2).toNat % p := if_pos rfl
 rw [p1, p1, p2, hs a (by omega) han b hb, hs a (by omega) han k (by omega), hs k (Nat.le_refl k) (by omega) b hb, hkk]
 exact low_eq.symm
theorem redN_len {p : Int} {r : Nat} {M : Mat} (j : Nat) : ∀ d, (redN p r M (j + d)).2.1.length ≤ (redN p r M j).2.1.length + d
 | 0 => Nat.le_refl _
 | d + 1 => by
  have ih := redN_len (p := p) (r := r) (M := M) j d
  show (redS p r (redN p r M (j + d)) (j + d)).2.1.length ≤ _
  unfold redS
  split
  ·split
   ·omega
   ·simp only [List.length_append, List.length_cons, List.length_nil]; omega
  ·omega
theorem redN_full {p : Int} {n q : Nat} {M0 : Mat} (hq : q ≤ n) (h : ∀ j, j < q → pivF (redN p n M0 j).1 j (n - j) j ≠ none) : ∀ j, j ≤ q → (redN p n M0 j).2.1.length = j
 | 0, _ => rfl
 | j + 1, hj => by
  have ih := redN_full hq h j (by omega)
  have hp := h j (by omega)
  show (redS p n (redN p n M0 j) j).2.1.length = _
  unfold redS
  rw [ih, if_pos (by omega)]
  cases hk : pivF (redN p n M0 j).1 j (n - j) j with
  | none => exact absurd hk hp
  | some k =>
   simp only [List.length_append, List.length_cons, List.length_nil, ih]
section
variable {p : Int} {n : Nat} {M0 : Mat}
def dInv (p : Int) (n : Nat) (M0 : Mat) (k : Nat) (x : (Int × Int × Int) × (Int × Int) × List Int) : Prop :=
 ∃ D : Mat, x = ((p, (redN p n M0 k).2.2, (k : Int)), ((n : Int), (n : Int)), genD n n D) ∧ inM p n n D ∧ ∀ a, k ≤ a → a < n → ∀ b, b < n → D a b = (redN p n M0 k).1 a b
theorem g_detI (hp : pOk p) (hn : n ≤ 64) (hM : inM p n n M0) (hok : F_impl_MatrixOk (p, (n : Int), (n : Int), genD n n M0) = some true) :
  G_impl_Determinant FUEL (p, (n : Int), (n : Int), genD n n M0) = some (detR p n M0, true) := by
 have hnn : n * n ≤ 64 * 64 := Nat.mul_le_mul hn hn
 have hr : n ≤ 4096 := by omega
 have hrc : n * n ≤ 1048576 := by omega
 have hlen : (genD n n M0).length ≤ 1099511627776 := by rw [genD_len]; omega
 simp only [G_impl_Determinant, hok, bnd_s, F_impl_copyMatrix, if_pos hlen, fulI_id]
 rw [cnd_f (by rfl), cnd_f (neI_f rfl)]
 obtain ⟨q, hq, hlt, hend⟩ := stop_ex (fun j => pivF (redN p n M0 j).1 j (n - j) j ≠ none) n
 have hfull := redN_full hq hlt
 rw [loopT_inv q (dInv p n M0) (r := if q = n then Sum.inl (redN p n M0 n).2.2 else Sum.inr ((0 : Int), true)) ?_ ?_ ?_ (FUEL_gt (by omega))]
 ·by_cases e : q = n
  ·rw [if_pos e, joinK_l, detR, if_neg (by have := hfull q (Nat.le_refl q); rw [e] at this; omega)]
  ·rw [if_neg e, joinK_r, detR, if_pos]
   have hnone : pivF (redN p n M0 q).1 q (n - q) q = none := by
    rcases hend with h | h
    ·exact absurd h e
    ·exact Classical.not_not.1 h
   have h1 : redN p n M0 (q + 1) = redN p n M0 q := by
    have hlq := hfull q (Nat.le_refl q)
    exact redS_n (s := redN p n M0 q) (by omega) (by rw [hlq]; exact hnone)
   have h2 := redN_len (p := p) (r := n) (M := M0) (q + 1) (n - (q + 1))
   rw [h1, hfull q (Nat.le_refl q), show q + 1 + (n - (q + 1)) = n by omega] at h2
   omega
 ·rintro j x hj ⟨D, rfl, hD, hag⟩
  have hI := redN_I hp hM (r := n) (c := n) j
  have hlj := hfull j (by omega)
  have hpj := hlt j hj
  have hjn : j < n := by omega
  have hS : redN p n M0 (j + 1) = redS p n (redN p n M0 j) j := rfl
  unfold dInv
  rw [hS]
  generalize redN p n M0 j = s at hI hlj hpj hag ⊢
  obtain ⟨M, L, d⟩ := s
  simp only at hlj hpj hag
  subst hlj
  have hM' : inM p n n M := hI.m
  have hId : inP p d := hI.d
  cases hk : pivF M L.length (n - L.length) L.length with
  | none => exact absurd hk hpj
  | some k =>
   obtain ⟨hq1, hq2, hq3⟩ := pivF_lt hk
   have hkn : k < n := by omega
   rw [redS_s (s := (M, L, d)) hjn hk]
   have hS1 := swapF_in hD hjn hkn
   have hx := hS1 L.length hjn L.length hjn
   have hsw : ∀ b, b < n → swapF D L.length k L.length b = swapF M L.length k L.length b := by
    intro b hb
    unfold swapF
    rw [if_pos rfl, if_pos rfl]
    exact hag k hq1 hkn b hb
   have hinv := invG_in hp (p - 2).toNat 1 (swapF D L.length k L.length L.length) (one_in hp)
   have hd' : inP p (if k = L.length then d else (p - d) % p) := by split; exact hId; exact emod_in hp _
   refine ⟨_, ?_, lowF p (invG p 1 (swapF D L.length k L.length L.length) (p - 2).toNat) (swapF D L.length k) L.length n, rfl, lowF_in hp hS1 _ _, fun a h1 h2 b hb => low_agree hq1 hkn hag a h1 h2 b hb⟩
   simp only
   rw [cnd_t (ltN_t hjn)]
   rw [loopT_seq (r := Sum.inl (((k : Int), d, p, ((L.length : Nat) : Int)), ((n : Int), (n : Int)), genD n n D)) (fun e => ((p, d, ((L.length : Nat) : Int), ((L.length + e : Nat) : Int)), ((n : Int), (n : Int)), genD n n D)) (k - L.length) ?_ ?_ ?_ (FUEL_gt (by omega))]
   ·rw [joinK_l]
    simp only
    rw [cnd_f (eqI_f (by omega))]
    rw [cnd_eq (b := neI (k : Int) ((L.length : Nat) : Int)) (x := some (Sum.inl (((if k = L.length then d else (p - d) % p), p, ((L.length : Nat) : Int)), ((n : Int), (n : Int)), genD n n (swapF D L.length k)))) ?_ ?_]
    ·rw [joinK_l]
     simp only
     rw [winI_id, bnd_s, at_nat hr hr hrc hjn hjn, bnd_s, mulR hp hd'.le hx.le]
     simp only [bnd_s]
     rw [at_nat hr hr hrc hjn hjn, bnd_s, invI_nat hp hx, bnd_s, addN1 (show L.length ≤ 1048577 by omega)]
     generalize hT : swapF D L.length k = T at hS1 hx hsw hinv ⊢
     generalize hv : invG p 1 (T L.length L.length) (p - 2).toNat = inv at hinv ⊢
     rw [loopT_seq (r := Sum.inl ((((L.length : Nat) : Int), p, redD p M L.length L.length k d), ((n : Int), (n : Int)), genD n n (lowF p inv T L.length n))) (fun e => ((p, redD p M L.length L.length k d, ((L.length : Nat) : Int), inv, ((L.length + 1 + e : Nat) : Int)), ((n : Int), (n : Int)), genD n n (lowF p inv T L.length (L.length + 1 + e)))) (n - (L.length + 1)) ?_ ?_ ?_ (FUEL_gt (by omega))]
     ·rw [joinK_l]
      simp only [addN1 (show L.length ≤ 1048577 by omega)]
     ·intro e he
      simp only
      have hln : L.length + 1 + e < n := by omega
      rw [cnd_t (ltN_t hln), winI_id, bnd_s, at_nat hr hr hrc hln hjn, bnd_s, lowF_old, mulR hp (hS1 _ hln _ hjn).le hinv.le, bnd_s, subR hp (emod_in hp _), bnd_s]
      rw [addRow_nat hp hr hr hrc hln hjn (emod_in hp _).le (lowF_in hp hS1 _ _)]
      simp only [bnd_s, fulI_gen, addN1 (show L.length + 1 + e ≤ 1048577 by omega)]
      rw [low_step T L.length (L.length + 1 + e) (by omega)]
      rfl
     ·simp only [show L.length + 1 + (n - (L.length + 1)) = n by omega]
      rw [cnd_f (ltN_f (Nat.le_refl n))]
     ·simp only [Nat.add_zero]
      rw [lowF_0, redD, ← hsw L.length hjn]
    ·intro hne
     have hne' : k ≠ L.length := by
      intro q; rw [q, show neI ((L.length : Nat) : Int) ((L.length : Nat) : Int) = false from neI_f rfl] at hne; cases hne
     rw [if_neg hne', show F_impl_Matrix_swapRows (((n : Int), (n : Int), genD n n D), (k : Int), ((L.length : Nat) : Int)) = some (genD n n (swapF D k L.length)) from swap_nat hr hr hrc hkn hjn, bnd_s, subR hp hId]
     simp only [bnd_s, fulI_gen]
     rw [show swapF D k L.length = swapF D L.length k by
      funext a b
      unfold swapF
      by_cases e1 : a = k
      ·rw [if_pos e1, if_neg (by omega), if_pos e1]
      ·rw [if_neg e1]
       by_cases e2 : a = L.length
       ·rw [if_pos e2, if_pos e2]
       ·rw [if_neg e2, if_neg e2, if_neg e1]]
    ·intro heq
     have heq' : k = L.length := by
      by_cases q : k = L.length
      ·exact q
      ·rw [show neI (k : Int) ((L.length : Nat) : Int) = true from neI_t (by omega)] at heq; cases heq
     rw [if_pos heq', heq', swapF_self]
   ·intro e he
    simp only
    rw [cnd_t (ltN_t (show L.length + e < n by omega)), winI_id, bnd_s, at_nat hr hr hrc (show L.length + e < n by omega) hjn, bnd_s, hag _ (by omega) (by omega) _ hjn, cnd_t (eqI_t (pivF_before hk _ (by omega) (by omega)))]
    simp only [addN1 (show L.length + e ≤ 1048577 by omega)]
    rfl
   ·have e1 : L.length + (k - L.length) = k := by omega
    simp only [e1]
    rw [cnd_t (ltN_t hkn), winI_id, bnd_s, at_nat hr hr hrc hkn hjn, bnd_s, hag _ hq1 hkn _ hjn, cnd_f (eqI_f hq3)]
   ·rfl
 ·rintro x ⟨D, rfl, hD, hag⟩
  simp only
  by_cases e : q = n
  ·subst e
   rw [cnd_f (ltN_f (Nat.le_refl q)), if_pos rfl]
  ·have hqn : q < n := by omega
   have hnone : pivF (redN p n M0 q).1 q (n - q) q = none := by
    rcases hend with h | h
    ·exact absurd h e
    ·exact Classical.not_not.1 h
   rw [cnd_t (ltN_t hqn), if_neg e]
   rw [loopT_seq (r := Sum.inl (((n : Int), (redN p n M0 q).2.2, p, ((q : Nat) : Int)), ((n : Int), (n : Int)), genD n n D)) (fun e => ((p, (redN p n M0 q).2.2, ((q : Nat) : Int), ((q + e : Nat) : Int)), ((n : Int), (n : Int)), genD n n D)) (n - q) ?_ ?_ ?_ (FUEL_gt (by omega))]
   ·rw [joinK_l]
    simp only
    rw [cnd_t (eqI_t rfl), joinK_r]
   ·intro e he
    simp only
    rw [cnd_t (ltN_t (show q + e < n by omega)), winI_id, bnd_s, at_nat hr hr hrc (show q + e < n by omega) hqn, bnd_s, hag _ (by omega) (by omega) _ hqn, cnd_t (eqI_t (pivF_none hnone _ (by omega) (by omega)))]
    simp only [addN1 (show q + e ≤ 1048577 by omega)]
    rfl
   ·have e1 : q + (n - q) = n := by omega
    simp only [e1]
    rw [cnd_f (ltN_f (Nat.le_refl n))]
   ·rfl
 ·exact ⟨M0, rfl, hM, fun a _ _ b _ => rfl⟩
end
theorem f_impl_Determinant (x : Int × Int × Int × List Int) (y : Int × Bool) (h : F_impl_Determinant x = some y) : G_impl_Determinant FUEL x = some y := by
 obtain ⟨m, x⟩ := x
 simp only [F_impl_Determinant, F_spec_Determinant] at h
 split at h
 ·rename_i hl
  rw [← h]
  cases hm : matOk m x with
  | false =>
   obtain ⟨r, c, l⟩ := x
   simp only [G_impl_Determinant]
   rw [show F_impl_MatrixOk (m, r, c, l) = some (matOk m (r, c, l)) from if_pos hl, bnd_s, hm]
   simp [cnd, notB]
  | true =>
   obtain ⟨r, c, M, rfl, hp, hr, hc, hrc, hM, eM, hR⟩ := matOk_red hm
   have hok : F_impl_MatrixOk (m, (r : Int), (c : Int), genD r c M) = some true := by
    rw [← hm]
    exact if_pos hl
   by_cases e : r = c
   ·subst e
    rw [g_detI hp hr hM hok]
    simp only [Int.toNat_natCast, ← eM, if_pos, and_self]
   ·simp only [G_impl_Determinant, hok, bnd_s]
    rw [cnd_f (by rfl), cnd_t (neI_t (by omega)), if_neg (by intro q; have := q.2; omega)]
 ·cases h
end Go.Am
end
section
namespace Go.Am
def mulZ (n : Nat) (X Y : Mat) : Mat := fun a b => sm n (fun i => X a i * Y i b)
theorem eqm_iff {p a b : Int} : eqm p a b ↔ a % p = b % p := by
 constructor
 ·rintro ⟨q, rfl⟩; exact Int.add_mul_emod_self_left b p q
 ·intro h; exact ((eqm_mod p a).symm).trans (by rw [h]; exact eqm_mod p b)
theorem eqm_sm {p : Int} {f g : Nat → Int} {n : Nat} (h : ∀ i, i < n → eqm p (f i) (g i)) : eqm p (sm n f) (sm n g) := eqm_iff.2 (sm_mod fun i hi => eqm_iff.1 (h i hi))
structure RowS (p : Int) (n : Nat) (A B : Mat) (t k : Nat) (inv : Int) (f : Nat → Int) : Prop where
 bt : ∀ b, b < n → eqm p (B t b) (inv * A k b)
 ba : ∀ a, a < n → a ≠ t → ∀ b, b < n → eqm p (B a b) (swapF A t k a b + f a * B t b)
theorem RowS.det {p : Int} {n : Nat} {A B : Mat} {t k : Nat} {inv : Int} {f : Nat → Int} (hn : n ≤ 4) (htk : t ≤ k) (hk : k < n) (h : RowS p n A B t k inv f) : eqm p (dP n B) (inv * (if k = t then dP n A else - dP n A)) := by
 have e1 : eqm p (dP n B) (dP n (fun a b => if a = t then B t b else swapF A t k a b + f a * B t b)) := dP_m fun a ha b hb => by
  by_cases hat : a = t
  ·rw [if_pos hat, hat]; exact eqm.refl _ _
  ·rw [if_neg hat]; exact h.ba a ha hat b hb
 rw [dP_clear hn (by omega)] at e1
 have e2 : eqm p (dP n (fun a b => if a = t then B t b else swapF A t k a b)) (dP n (fun a b => if a = t then inv * swapF A t k a b else swapF A t k a b)) := dP_m fun a ha b hb => by
  by_cases hat : a = t
  ·rw [if_pos hat, if_pos hat, hat]
   have : swapF A t k t b = A k b := if_pos rfl
   rw [this]; exact h.bt b hb
  ·rw [if_neg hat, if_neg hat]; exact eqm.refl _ _
 rw [dP_scale hn (by omega)] at e2
 have e3 : dP n (swapF A t k) = if k = t then dP n A else - dP n A := by
  by_cases hkt : k = t
  ·rw [if_pos hkt, hkt, swapF_self]
  ·rw [if_neg hkt]; exact dP_swap hn (by omega) hk A
 rw [e3] at e2
 exact e1.trans e2
theorem Piv.rowS {p : Int} {n : Nat} {M N : Mat} {t k j : Nat} {inv : Int} (P : Piv p n M N t k j inv) (Y : Mat) : RowS p n (mulZ n M Y) (mulZ n N Y) t k inv (fun a => p - swapF M t k a j) := by
 constructor
 ·intro b _
  unfold mulZ
  rw [← sm_mulL]
  refine eqm_sm fun i _ => ?_
  rw [P.nt i]
  refine (eqm.mul (eqm_mod p _) (eqm.refl p (Y i b))).trans ?_
  exact ⟨0, by grind⟩
 ·intro a ha hat b _
  have e : swapF (mulZ n M Y) t k a b = sm n (fun i => swapF M t k a i * Y i b) := by
   unfold swapF mulZ
   split
   ·rfl
   ·split <;> rfl
  rw [e]
  unfold mulZ
  rw [← sm_mulL, ← sm_addF]
  refine eqm_sm fun i _ => ?_
  rw [P.na a ha hat i]
  refine (eqm.mul (eqm_mod p _) (eqm.refl p (Y i b))).trans ?_
  exact ⟨0, by grind⟩
theorem redD_eq {p : Int} {M : Mat} {t j k : Nat} {d : Int} (ht : t ≤ k) : eqm p (redD p M t j k d) ((if k = t then d else -d) * M k j) := by
 unfold redD
 rw [show swapF M t k t j = M k j from if_pos rfl]
 refine (eqm_mod p _).trans (eqm.mul ?_ (eqm.refl p _))
 by_cases h : k = t
 ·rw [if_pos h, if_pos h]; exact eqm.refl _ _
 ·rw [if_neg h, if_neg h]; exact (eqm_mod p _).trans ⟨1, by omega⟩
theorem det_inv {p : Int} {n : Nat} {X : Mat} (hpr : isPrimeI p = true) (hX : inM p n n X) (hn : n ≤ 4) (Y : Mat) : ∀ j, j ≤ n → eqm p (dP n (mulZ n X Y)) ((redN p n X j).2.2 * dP n (mulZ n (redN p n X j).1 Y))
 | 0, _ => by
  show eqm p _ (1 * dP n (mulZ n X Y))
  rw [Int.one_mul]; exact eqm.refl _ _
 | j + 1, hj => by
  have ih := det_inv hpr hX hn Y j (by omega)
  show eqm p _ ((redS p n (redN p n X j) j).2.2 * dP n (mulZ n (redS p n (redN p n X j) j).1 Y))
  rcases redS_cases hpr (redN_I (isPrimeI_t hpr) hX j) (show j < n by omega) with ⟨e, _⟩ | ⟨k, N, inv, e, P, hl⟩
  ·rw [e]; exact ih
  ·rw [e]
   dsimp only
   refine ih.trans ?_
   have h1 := (P.rowS Y).det hn P.tk P.kr
   have h2 := redD_eq (p := p) (M := (redN p n X j).1) (j := j) (d := (redN p n X j).2.2) P.tk
   refine eqm.symm ((eqm.mul h2 h1).trans ?_)
   have h3 : eqm p ((redN p n X j).1 k j * inv) 1 := (eqm_mod p _).symm.trans (by rw [P.one]; exact eqm.refl _ _)
   obtain ⟨q, hq⟩ := h3
   generalize (redN p n X j).1 k j = u at hq
   generalize (redN p n X j).2.2 = d
   generalize dP n (mulZ n (redN p n X j).1 Y) = D
   by_cases hkt : k = (redN p n X j).2.1.length
   ·rw [if_pos hkt, if_pos hkt]
    exact ⟨d * D * q, by grind⟩
   ·rw [if_neg hkt, if_neg hkt]
    exact ⟨d * D * q, by grind⟩
theorem full_one {p : Int} {n c : Nat} {s : Mat × List Int × Int} {j : Nat} (R : RF n s j) (hl : s.2.1.length = n) (hjn : ∀ i, i < n → pv s.2.1 i = i) : ∀ a, a < n → ∀ b, b < n → s.1 a b = if a = b then 1 else 0 := by
 intro a ha b hb
 have h1 := hjn b hb
 by_cases hab : a = b
 ·rw [if_pos hab, hab]
  have := R.one b (by omega)
  rw [h1] at this
  exact this
 ·rw [if_neg hab]
  have := R.col b (by omega) a ha hab
  rw [h1] at this
  exact this
theorem pv_ge {n : Nat} {s : Mat × List Int × Int} {j : Nat} (R : RF n s j) : ∀ i, i < s.2.1.length → i ≤ pv s.2.1 i
 | 0, _ => Nat.zero_le _
 | i + 1, hi => by
  have := pv_ge R i (by omega)
  have := R.mono i (i + 1) (by omega) hi
  omega
theorem pv_full {n : Nat} {s : Mat × List Int × Int} (R : RF n s n) (hl : s.2.1.length = n) : ∀ i, i < n → pv s.2.1 i = i := by
 have key : ∀ d i, i + d + 1 = n → pv s.2.1 i ≤ i := by
  intro d
  induction d with
  | zero => intro i hi; have := R.lt i (by omega); omega
  | succ d ih =>
   intro i hi
   have := ih (i + 1) (by omega)
   have := R.mono i (i + 1) (by omega) (by omega)
   omega
 intro i hi
 have := key (n - i - 1) i (by omega)
 have := pv_ge R i (by omega)
 omega
theorem mulZ_one {n : Nat} {X Y : Mat} (h : ∀ a, a < n → ∀ b, b < n → X a b = if a = b then 1 else 0) {a b : Nat} (ha : a < n) : mulZ n X Y a b = Y a b := by
 unfold mulZ
 rw [sm_at (a := a) n ha fun i hi hne => by rw [h a ha i hi, if_neg (Ne.symm hne), Int.zero_mul]]
 rw [h a ha a ha, if_pos rfl, Int.one_mul]
theorem mulZ_oneR {n : Nat} {X Y : Mat} (h : ∀ a, a < n → ∀ b, b < n → Y a b = if a = b then 1 else 0) {a b : Nat} (hb : b < n) : mulZ n X Y a b = X a b := by
 unfold mulZ
 rw [sm_at (a := b) n hb fun i hi hne => by rw [h i hi b hb, if_neg hne, Int.mul_zero]]
 rw [h b hb b hb, if_pos rfl, Int.mul_one]
theorem det_mul {p : Int} {n : Nat} {X : Mat} (hpr : isPrimeI p = true) (hX : inM p n n X) (hn : n ≤ 4) (Y : Mat) : eqm p (dP n (mulZ n X Y)) (detR p n X * dP n Y) := by
 have hp : pOk p := isPrimeI_t hpr
 refine (det_inv hpr hX hn Y n (Nat.le_refl n)).trans ?_
 have R := redN_RF hpr hX n (Nat.le_refl n)
 have I := redN_I hp hX n
 unfold detR
 by_cases hl : (redN p n X n).2.1.length < n
 ·rw [if_pos hl, Int.zero_mul]
  obtain ⟨m, rfl⟩ : ∃ m, n = m + 1 := ⟨n - 1, by omega⟩
  have hz : ∀ b, b < m + 1 → (redN p (m + 1) X (m + 1)).1 m b = 0 := fun b hb => R.zero m (by omega) (by omega) b hb
  rw [dP_zero hn fun b hb => by unfold mulZ; exact sm_zero _ fun i hi => by rw [hz i hi, Int.zero_mul]]
  rw [Int.mul_zero]; exact eqm.refl _ _
 ·rw [if_neg hl]
  have hln : (redN p n X n).2.1.length = n := by have := I.l; omega
  have h1 := full_one (p := p) (c := n) R hln (pv_full R hln)
  refine eqm.mul (eqm.refl _ _) (dP_m fun a ha b _ => ?_)
  rw [mulZ_one h1 ha]; exact eqm.refl _ _
theorem det_dP {p : Int} {n : Nat} {X : Mat} (hpr : isPrimeI p = true) (hX : inM p n n X) (hn : n ≤ 4) : eqm p (dP n X) (detR p n X) := by
 have h := det_mul hpr hX hn (fun a b => if a = b then 1 else 0)
 rw [dP_one hn fun a _ b _ => rfl, Int.mul_one] at h
 refine eqm.trans (dP_m fun a _ b hb => ?_) h
 rw [mulZ_oneR (fun a _ b _ => rfl) hb]; exact eqm.refl _ _
theorem detR_in {p : Int} {n : Nat} {X : Mat} (hpr : isPrimeI p = true) (hX : inM p n n X) : inP p (detR p n X) := by
 have hp : pOk p := isPrimeI_t hpr
 unfold detR
 split
 ·exact ⟨Int.le_refl _, by have := hp.1; omega⟩
 ·exact (redN_I hp hX n).d
theorem mulF_z (p : Int) (k : Nat) (A B : Mat) (i j : Nat) : eqm p (mulF p k A B i j) (sm k (fun t => A i t * B t j)) := by
 unfold mulF
 rw [dot_sm]
 exact eqm_mod _ _
end Go.Am
end
section
namespace Go.Am
theorem matOk_g {p : Int} {r c : Nat} {M : Mat} (hpr : isPrimeI p = true) (hr : r ≤ 64) (hc : c ≤ 64) (hM : inM p r c M) : matOk p ((r : Int), (c : Int), genD r c M) = true := by
 simp only [matOk, Bool.and_eq_true, decide_eq_true_eq]
 exact ⟨hpr, ⟨by omega, by omega⟩, ⟨by omega, by omega⟩, by rw [genD_len]; push_cast; rfl, rowOk_P.2 (allP_gen.2 hM)⟩
theorem sz_g {r c : Nat} {M : Mat} (hr : r ≤ 64) (hc : c ≤ 64) : sz_Matrix ((r : Int), (c : Int), genD r c M) ≤ 1048576 := by
 show (genD r c M).length ≤ _
 rw [genD_len]
 have := Nat.mul_le_mul hr hc
 omega
theorem gen_ag {r c : Nat} (M : Mat) : ∀ a, a < r → ∀ b, b < c → ofD c (genD r c M) a b = M a b := fun a ha b hb => ofD_gen M ha hb
theorem gen_in {p : Int} {r c : Nat} {M : Mat} (hM : inM p r c M) : inM p r c (ofD c (genD r c M)) := fun a ha b hb => by rw [gen_ag M a ha b hb]; exact hM a ha b hb
theorem mul_g {p : Int} {r k c : Nat} {A B : Mat} (hpr : isPrimeI p = true) (hr : r ≤ 64) (hk : k ≤ 64) (hc : c ≤ 64) (hA : inM p r k A) (hB : inM p k c B) :
  F_impl_MulMatrix (p, ((r : Int), (k : Int), genD r k A), ((k : Int), (c : Int), genD k c B)) = some (((r : Int), (c : Int), genD r c (mulF p k A B)), true) := by
 simp only [F_impl_MulMatrix, F_spec_MulMatrix, Int.toNat_natCast]
 rw [if_pos ⟨sz_g hr hk, sz_g hk hc⟩, if_pos ⟨matOk_g hpr hr hk hA, matOk_g hpr hk hc hB, trivial⟩]
 rw [genD_congr fun i hi j hj => mulF_congr (fun t ht => gen_ag A i hi t ht) (fun t ht => gen_ag B t ht j hj)]
theorem turn_g {p : Int} {r c : Nat} {M : Mat} (hpr : isPrimeI p = true) (hr : r ≤ 64) (hc : c ≤ 64) (hM : inM p r c M) : F_impl_TransposeMatrix (p, (r : Int), (c : Int), genD r c M) = some ((c : Int), (r : Int), genD c r (turnF M)) := by
 simp only [F_impl_TransposeMatrix, F_spec_TransposeMatrix, Int.toNat_natCast]
 rw [if_pos (sz_g hr hc), if_pos (matOk_g hpr hr hc hM)]
 rw [show genD c r (turnF (ofD c (genD r c M))) = genD c r (turnF M) from genD_congr fun i hi j hj => gen_ag M j hj i hi]
theorem det_ag {p : Int} {n : Nat} {A B : Mat} (hpr : isPrimeI p = true) (hn : n ≤ 4) (hA : inM p n n A) (hB : inM p n n B) (h : ∀ a, a < n → ∀ b, b < n → A a b = B a b) : detR p n A = detR p n B :=
 eqm_in ((det_dP hpr hA hn).symm.trans ((dP_m fun a ha b hb => by rw [h a ha b hb]; exact eqm.refl _ _).trans (det_dP hpr hB hn))) (detR_in hpr hA) (detR_in hpr hB)
theorem det_g {p : Int} {n : Nat} {M : Mat} (hpr : isPrimeI p = true) (hn : n ≤ 4) (hM : inM p n n M) : F_impl_Determinant (p, (n : Int), (n : Int), genD n n M) = some (detR p n M, true) := by
 simp only [F_impl_Determinant, F_spec_Determinant, Int.toNat_natCast]
 rw [if_pos (sz_g (by omega) (by omega)), if_pos ⟨matOk_g hpr (by omega) (by omega) hM, trivial⟩]
 rw [det_ag hpr hn (gen_in hM) hM (gen_ag M)]
end Go.Am
end
