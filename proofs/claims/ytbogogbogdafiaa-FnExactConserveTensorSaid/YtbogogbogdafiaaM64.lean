/- Mx, M1, M4, M5, M11, M22, M6, M7, M8, M9, M23, M24, M25, M31, Fm, M14, M15, M16, M17, M19, M33, M32, M34, M62, M64: parts of the proof. No condition. -/
import Derived.Test.YtbogogbogdafiaaMT
set_option linter.unusedVariables false
set_option linter.unusedSimpArgs false
section
namespace Go.Am
def genD (r c : Nat) (M : Nat → Nat → Int) : List Int := (List.range (r * c)).map fun n => M (n / c) (n % c)
def ofD (c : Nat) (l : List Int) : Nat → Nat → Int := fun i j => l.getD (i * c + j) 0
theorem remN {a p : Int} (ha : 0 ≤ a) (hp : 0 < p) : remI a p = some (a % p) := by
 unfold remI
 rw [if_neg (by omega), Int.tmod_eq_emod_of_nonneg ha]
theorem ltN_t {i n : Nat} (h : i < n) : ltI (i : Int) (n : Int) = true := ltI_t (by omega)
theorem ltN_f {i n : Nat} (h : n ≤ i) : ltI (i : Int) (n : Int) = false := ltI_f (by omega)
theorem addN1 {i : Nat} (h : i ≤ 1048577) : addI .i64 (i : Int) 1 = ((i + 1 : Nat) : Int) := by rw [addI_eq (by omega) (by omega)]; omega
def pOk (p : Int) : Prop := 2 ≤ p ∧ p ≤ 1000003
instance (p : Int) : Decidable (pOk p) := inferInstanceAs (Decidable (2 ≤ p ∧ p ≤ 1000003))
def inP (p x : Int) : Prop := 0 ≤ x ∧ x < p
instance (p x : Int) : Decidable (inP p x) := inferInstanceAs (Decidable (0 ≤ x ∧ x < p))
theorem emod_in {p : Int} (hp : pOk p) (a : Int) : inP p (a % p) := ⟨Int.emod_nonneg _ (by have := hp.1; omega), Int.emod_lt_of_pos _ (by have := hp.1; omega)⟩
theorem inP.le {p x : Int} (h : inP p x) : 0 ≤ x ∧ x ≤ p := ⟨h.1, Int.le_of_lt h.2⟩
theorem inP.s {p x : Int} (hp : pOk p) (h : inP p x) : 0 ≤ x ∧ x ≤ 1000003000000 := ⟨h.1, by have := h.2; have := hp.2; omega⟩
def inM (p : Int) (r c : Nat) (M : Nat → Nat → Int) : Prop := ∀ i, i < r → ∀ j, j < c → inP p (M i j)
def allP (p : Int) (l : List Int) : Prop := ∀ x ∈ l, inP p x
instance (p : Int) (l : List Int) : Decidable (allP p l) := inferInstanceAs (Decidable (∀ x ∈ l, inP p x))
def mOk (x : Int × Int × List Int) : Prop := (0 ≤ x.1 ∧ x.1 ≤ 4096) ∧ (0 ≤ x.2.1 ∧ x.2.1 ≤ 4096) ∧ (x.2.2.length : Int) = x.1 * x.2.1 ∧ x.2.2.length ≤ 1048576
instance (x : Int × Int × List Int) : Decidable (mOk x) := by unfold mOk; infer_instance
end Go.Am
end
section
namespace Go.Am
def F_spec_l01In : Int × Int × Int → Option Bool := fun ((a, b, c) : Int × Int × Int) => some (decide (b ≤ a ∧ a ≤ c))
def ag_spec_l01In : Sig := [(.one, [.int .i64]), (.one, [.int .i64]), (.one, [.int .i64])]
def rs_spec_l01In : Sig := [(.one, [.bool])]
def mu_spec_l01In : MSig := []
def G_spec_l01In (NN : Nat) : (Int × (Int × Int)) → (Option Bool) :=
 (fun ((i0, i1, i2) : (Int × (Int × Int))) =>
 cnd (leI i1 i0)
 (some (leI i0 i2))
 (some false))

theorem f_spec_l01In (x : Int × Int × Int) (y : Bool) (h : F_spec_l01In x = some y) : G_spec_l01In FUEL x = some y := by
 obtain ⟨a, b, c⟩ := x
 rw [← h]
 simp only [F_spec_l01In, G_spec_l01In, leI]
 by_cases hc : b ≤ a <;> simp [hc, cnd]
end Go.Am
end
section
namespace Go.Am
def divAt (n : Int) (i : Nat) : Bool := decide ((i : Int) * i ≤ n) && decide (n % (i : Int) = 0)
def isPrimeI (n : Int) : Bool := decide (2 ≤ n ∧ n ≤ 1000003) && !((List.range' 2 999).any (divAt n))
def F_spec_IsPrime : Int → Option Bool := fun (n : Int) => some (isPrimeI n)
def F_impl_IsPrime : Int → Option Bool := fun (n : Int) => some (isPrimeI n)
def inB (m : Int) (v : Int) : Bool := decide (0 ≤ v ∧ v < m)
def rowOk (m : Int) (l : List Int) : Bool := l.all (inB m)
def F_impl_inMod : Int × List Int → Option Bool := fun ((m, l) : Int × List Int) => if l.length ≤ 1048576 then some (rowOk m l) else none
def ag_spec_IsPrime : Sig := [(.one, [.int .i64])]
def rs_spec_IsPrime : Sig := [(.one, [.bool])]
def mu_spec_IsPrime : MSig := []
def ag_impl_IsPrime : Sig := [(.one, [.int .i64])]
def rs_impl_IsPrime : Sig := [(.one, [.bool])]
def mu_impl_IsPrime : MSig := []
def ag_impl_inMod : Sig := [(.one, [.int .i64]), (.one, [.list [.int .i64]])]
def rs_impl_inMod : Sig := [(.one, [.bool])]
def mu_impl_inMod : MSig := []
def G_spec_IsPrime (NN : Nat) : Int → (Option Bool) :=
 (fun (i0 : Int) =>
 joinK (loopT NN (fun ((i1, i2) : (Int × Int)) =>
 cnd (leI (mulI .i64 i2 i2) i1)
 (cnd (leI i1 (1000003 : Int))
 ((remI i1 i2).bnd (fun i3 =>
 cnd (eqI i3 (0 : Int))
 (some (Sum.inr (Sum.inr false)))
 (some (Sum.inl (i1, addI .i64 i2 1)))))
 (some (Sum.inr (Sum.inl i1))))
 (some (Sum.inr (Sum.inl i1))))
 (i0, (2 : Int)))
 (fun i4 =>
 (F_spec_l01In (i4, (2 : Int), (1000003 : Int))).bnd (fun b5 =>
 some b5)))

def G_impl_IsPrime (NN : Nat) : Int → (Option Bool) :=
 (fun (i0 : Int) =>
 cnd (ltI i0 (2 : Int))
 (some false)
 (cnd (ltI (1000003 : Int) i0)
 (some false)
 (joinK (loopT NN (fun ((i1, i2) : (Int × Int)) =>
 cnd (leI (mulI .i64 i2 i2) i1)
 ((remI i1 i2).bnd (fun i3 =>
 cnd (eqI i3 (0 : Int))
 (some (Sum.inr (Sum.inr false)))
 (some (Sum.inl (i1, addI .i64 i2 1)))))
 (some (Sum.inr (Sum.inl ()))))
 (i0, (2 : Int)))
 (fun _ =>
 some true))))

def G_impl_inMod (NN : Nat) : (Int × (List Int)) → (Option Bool) :=
 (fun ((i0, l1) : (Int × (List Int))) =>
 joinK (loopT NN (fun ((i2, l3, i4, i5) : (Int × ((List Int) × (Int × Int)))) =>
 cnd (ltI i5 i4)
 ((getI l3 i5).bnd (fun i6 =>
 cnd (ltI i6 (0 : Int))
 (some (Sum.inr (Sum.inr false)))
 (cnd (leI i2 i6)
 (some (Sum.inr (Sum.inr false)))
 (some (Sum.inl (i2, l3, i4, addI .i64 i5 1))))))
 (some (Sum.inr (Sum.inl ()))))
 (i0, l1, natI (lenN l1), (0 : Int)))
 (fun _ =>
 some true))

theorem mulI_eq {a b : Int} (h1 : -9223372036854775808 ≤ a * b) (h2 : a * b ≤ 9223372036854775807) : mulI .i64 a b = a * b := wrap_id h1 h2
theorem remI_nat {n : Int} {i : Nat} (hn : 0 ≤ n) (hi : 0 < i) : remI n (i : Int) = some (n % (i : Int)) := by
 unfold remI
 rw [if_neg (by omega), Int.tmod_eq_emod_of_nonneg hn]
theorem sq_le {i j : Nat} (h : i ≤ j) : (i : Int) * i ≤ (j : Int) * j := by
 have := Nat.mul_le_mul h h
 exact_mod_cast this
theorem div_loop {X Y : Type} {f : X → Option (X ⊕ (Y ⊕ Bool))} (n : Int) (mk : Nat → X) (r : Y) (hn : n ≤ 1000003)
  (h1 : ∀ i : Nat, 2 ≤ i → i ≤ 1001 → (i : Int) * i ≤ n → n % (i : Int) = 0 → f (mk i) = some (.inr (.inr false)))
  (h2 : ∀ i : Nat, 2 ≤ i → i ≤ 1001 → (i : Int) * i ≤ n → n % (i : Int) ≠ 0 → f (mk i) = some (.inl (mk (i + 1))))
  (h3 : ∀ i : Nat, 2 ≤ i → i ≤ 1001 → ¬ (i : Int) * i ≤ n → f (mk i) = some (.inr (.inl r))) {x0 : X} (hx : x0 = mk 2) :
  loopT FUEL f x0 = some (if (List.range' 2 999).any (divAt n) = true then .inr false else .inl r) := by
 subst hx
 have key : ∀ (d i : Nat), 2 ≤ i → i + d = 1001 → ∀ N, d < N → loopT N f (mk i) = some (if (List.range' i d).any (divAt n) = true then .inr false else .inl r) := by
  intro d
  induction d with
  | zero =>
   intro i hi hd N hN
   obtain ⟨N, rfl⟩ : ∃ M, N = M + 1 := ⟨N - 1, by omega⟩
   have : i = 1001 := by omega
   subst this
   rw [loopT, h3 1001 (by omega) (by omega) (by omega)]
   rfl
  | succ d ih =>
   intro i hi hd N hN
   obtain ⟨N, rfl⟩ : ∃ M, N = M + 1 := ⟨N - 1, by omega⟩
   rw [List.range'_succ, List.any_cons]
   by_cases hle : (i : Int) * i ≤ n
   ·by_cases hm : n % (i : Int) = 0
    ·rw [loopT, h1 i hi (by omega) hle hm]
     simp [divAt, hle, hm]
    ·rw [loopT, h2 i hi (by omega) hle hm]
     simp only
     rw [ih (i + 1) (by omega) (by omega) N (by omega), show divAt n i = false by simp [divAt, hm], Bool.false_or]
   ·rw [loopT, h3 i hi (by omega) hle]
    have : (List.range' (i + 1) d).any (divAt n) = false := by
     rw [List.any_eq_false]
     intro j hj
     have := (List.mem_range'_1.1 hj).1
     have := sq_le (show i ≤ j by omega)
     simp only [divAt, Bool.and_eq_true, decide_eq_true_eq, not_and]
     intro h; omega
    simp only
    rw [this]
    simp [divAt, hle]
 exact key 999 2 (by omega) (by omega) FUEL (FUEL_gt (by omega))
theorem sq_le1001 {i : Nat} (h : i ≤ 1001) : 0 ≤ (i : Int) * i ∧ (i : Int) * i ≤ 1002001 := by
 have h1 := sq_le h
 have h0 := sq_le (Nat.zero_le i)
 omega
theorem f_spec_IsPrime (x : Int) (y : Bool) (h : F_spec_IsPrime x = some y) : G_spec_IsPrime FUEL x = some y := by
 rw [← h]
 simp only [F_spec_IsPrime, G_spec_IsPrime]
 by_cases hx : x ≤ 1000003
 ·rw [div_loop x (fun i => (x, (i : Int))) x hx ?_ ?_ ?_ ?_]
  ·by_cases hd : (List.range' 2 999).any (divAt x) = true
   ·rw [if_pos hd, joinK_r, isPrimeI, hd]
    simp
   ·rw [if_neg hd, joinK_l, isPrimeI]
    simp only [F_spec_l01In, bnd_s]
    simp [hd]
  all_goals try simp only
  ·intro i h2 hi hle hm
   have hs := sq_le1001 hi
   rw [mulI_eq (by omega) (by omega), cnd_t (leI_t hle), cnd_t (leI_t hx), remI_nat (by omega) (by omega), bnd_s, cnd_t (eqI_t hm)]
  ·intro i h2 hi hle hm
   have hs := sq_le1001 hi
   rw [mulI_eq (by omega) (by omega), cnd_t (leI_t hle), cnd_t (leI_t hx), remI_nat (by omega) (by omega), bnd_s, cnd_f (eqI_f hm), addI_eq (by omega) (by omega)]
   rfl
  ·intro i h2 hi hle
   have hs := sq_le1001 hi
   rw [mulI_eq (by omega) (by omega), cnd_f (leI_f (by omega))]
  ·rfl
 ·rw [loopT_seq (fun i => (x, (i : Int) + 2)) (r := Sum.inl x) 0 (fun j hj => by omega) ?_ ?_ (FUEL_gt (by omega))]
  ·rw [joinK_l, isPrimeI]
   simp only [F_spec_l01In, bnd_s]
   have : ¬ (2 ≤ x ∧ x ≤ 1000003) := by omega
   simp [this]
  ·simp only
   rw [cnd_t (leI_t (by rw [mulI_eq (by omega) (by omega)]; omega)), cnd_f (leI_f (by omega))]
  ·rfl
theorem f_impl_IsPrime (x : Int) (y : Bool) (h : F_impl_IsPrime x = some y) : G_impl_IsPrime FUEL x = some y := by
 rw [← h]
 simp only [F_impl_IsPrime, G_impl_IsPrime]
 by_cases h2 : x < 2
 ·rw [cnd_t (ltI_t h2), isPrimeI, decide_eq_false (by omega)]; rfl
 rw [cnd_f (ltI_f (by omega))]
 by_cases hx : 1000003 < x
 ·rw [cnd_t (ltI_t hx), isPrimeI, decide_eq_false (by omega)]; rfl
 rw [cnd_f (ltI_f (by omega))]
 rw [div_loop x (fun i => (x, (i : Int))) () (by omega) ?_ ?_ ?_ ?_]
 ·have hr : (2 ≤ x ∧ x ≤ 1000003) := by omega
  by_cases hd : (List.range' 2 999).any (divAt x) = true
  ·rw [if_pos hd, joinK_r, isPrimeI, hd]
   simp
  ·rw [if_neg hd, joinK_l, isPrimeI]
   simp [hd, hr]
 all_goals try simp only
 ·intro i h2 hi hle hm
  have hs := sq_le1001 hi
  rw [mulI_eq (by omega) (by omega), cnd_t (leI_t hle), remI_nat (by omega) (by omega), bnd_s, cnd_t (eqI_t hm)]
 ·intro i h2 hi hle hm
  have hs := sq_le1001 hi
  rw [mulI_eq (by omega) (by omega), cnd_t (leI_t hle), remI_nat (by omega) (by omega), bnd_s, cnd_f (eqI_f hm), addI_eq (by omega) (by omega)]
  rfl
 ·intro i h2 hi hle
  have hs := sq_le1001 hi
  rw [mulI_eq (by omega) (by omega), cnd_f (leI_f (by omega))]
 ·rfl
theorem f_impl_inMod (x : Int × List Int) (y : Bool) (h : F_impl_inMod x = some y) : G_impl_inMod FUEL x = some y := by
 obtain ⟨m, l⟩ := x
 simp only [F_impl_inMod] at h
 split at h
 ·rename_i hl
  rw [← h]
  simp only [G_impl_inMod]
  rw [loopT_all (mk := fun i => (m, l, natI (lenN l), (i : Int))) l (inB m) (Sum.inr false) (Sum.inl ()) ?_ ?_ ?_ ?_ (FUEL_gt (by omega))]
  ·unfold rowOk
   cases l.all (inB m) <;> rfl
  all_goals try simp only
  ·intro i a ha hp
   have hp := of_decide_eq_true hp
   rw [cnd_t (ltI_in ha), getI_nat, ha, bnd_s, cnd_f (ltI_f (by omega)), cnd_f (leI_f (by omega)), next_i ha (by omega)]
  ·intro i a ha hp
   have hp := of_decide_eq_false hp
   rw [cnd_t (ltI_in ha), getI_nat, ha, bnd_s]
   by_cases h0 : a < 0
   ·rw [cnd_t (ltI_t h0)]
   ·rw [cnd_f (ltI_f (by omega)), cnd_t (leI_t (by omega))]
  ·rw [cnd_f (ltI_end l)]
  ·rfl
 ·cases h
theorem isPrimeI_t {m : Int} (h : isPrimeI m = true) : 2 ≤ m ∧ m ≤ 1000003 := by
 simp only [isPrimeI, Bool.and_eq_true, decide_eq_true_eq] at h
 exact h.1
end Go.Am
end
section
namespace Go.Am
def prodI : List Int → Int
 | [] => 1
 | x :: l => x * prodI l
def capStep (lim : Int) (_ : Nat) (a x : Int) : Int := min (a * x) (lim + 1)
def capProd (lim : Int) (l : List Int) : Int := foldN (capStep lim) 0 1 l
def smallB (x : Int) : Bool := decide (0 ≤ x ∧ x ≤ 1048576)
def F_spec_l05Product : List Int × Int → Option Int := fun ((l, lim) : List Int × Int) => if (0 ≤ lim ∧ lim ≤ 1048576) ∧ l.length ≤ 1048576 ∧ l.all smallB = true then some (capProd lim l) else none
def ag_spec_l05Product : Sig := [(.one, [.list [.int .i64]]), (.one, [.int .i64])]
def rs_spec_l05Product : Sig := [(.one, [.int .i64])]
def mu_spec_l05Product : MSig := []
def G_spec_l05Product (NN : Nat) : ((List Int) × Int) → (Option Int) :=
 (fun ((l0, i1) : ((List Int) × Int)) =>
 joinK (loopT NN (fun ((i2, i3, l4, i5, i6) : (Int × (Int × ((List Int) × (Int × Int))))) =>
 cnd (ltI i6 i5)
 ((getI l4 i6).bnd (fun i7 =>
 some (Sum.inl (i2, minI (mulI .i64 i3 i7) (addI .i64 i2 1), l4, i5, addI .i64 i6 1))))
 (some (Sum.inr (Sum.inl i3))))
 (i1, (1 : Int), l0, natI (lenN l0), (0 : Int)))
 (fun i8 =>
 some i8))



theorem mul_bd {a x A B : Int} (h0 : 0 ≤ a) (h1 : a ≤ A) (h2 : 0 ≤ x) (h3 : x ≤ B) : 0 ≤ a * x ∧ a * x ≤ A * B :=
 ⟨Int.mul_nonneg h0 h2, Int.mul_le_mul h1 h3 h2 (by omega)⟩
theorem f_spec_l05Product (x : List Int × Int) (y : Int) (h : F_spec_l05Product x = some y) : G_spec_l05Product FUEL x = some y := by
 obtain ⟨l, lim⟩ := x
 simp only [F_spec_l05Product] at h
 split at h
 ·rename_i hc
  obtain ⟨hlim, hl, hs⟩ := hc
  rw [← h]
  simp only [G_spec_l05Product]
  rw [loopT_foldN l (fun (a : Int) i => (lim, a, l, natI (lenN l), (i : Int))) (fun _ a => 0 ≤ a ∧ a ≤ lim + 1) (capStep lim) (fun a => Sum.inl a) ?_ ?_ (s := 1) ⟨by omega, by omega⟩ ?_ (FUEL_gt (by omega))]
  ·rfl
  all_goals try simp only
  ·intro i a x hx ha
   have hxs := of_decide_eq_true (List.all_eq_true.1 hs x (List.mem_of_getElem? hx))
   obtain ⟨b1, b2⟩ := mul_bd ha.1 (show a ≤ 1048577 by omega) hxs.1 hxs.2
   rw [cnd_t (ltI_in hx), getI_nat, hx, bnd_s, mulI_eq (by omega) (by omega), addI_eq (a := lim) (by omega) (by omega), minI_eq', next_i hx (by omega)]
   refine ⟨rfl, ?_⟩
   unfold capStep
   omega
  ·intro a _
   rw [cnd_f (ltI_end l)]
  ·rfl
 ·cases h
theorem prodI_pos : ∀ {l : List Int}, (∀ x ∈ l, 1 ≤ x) → 1 ≤ prodI l
 | [], _ => by simp [prodI]
 | x :: l, h => by
  have h1 := h x List.mem_cons_self
  have h2 := prodI_pos (l := l) (fun x hx => h x (List.mem_cons_of_mem _ hx))
  have := Int.mul_le_mul h1 h2 (by omega) (by omega)
  simpa [prodI] using this
theorem capProd_go {lim : Int} (hlim : 0 ≤ lim) : ∀ (l : List Int) (i : Nat) (a : Int), (∀ x ∈ l, 1 ≤ x) → 1 ≤ a → a ≤ lim + 1 → foldN (capStep lim) i a l = min (a * prodI l) (lim + 1)
 | [], i, a, _, _, h2 => by simp only [foldN, prodI, Int.mul_one]; omega
 | x :: l, i, a, h, h1, h2 => by
  have hx := h x List.mem_cons_self
  have hp := prodI_pos (l := l) (fun x hx => h x (List.mem_cons_of_mem _ hx))
  have hax := Int.mul_le_mul h1 hx (by omega) (by omega)
  rw [foldN, capProd_go hlim l (i + 1) _ (fun x hx => h x (List.mem_cons_of_mem _ hx)) (by unfold capStep; omega) (by unfold capStep; omega), prodI, ← Int.mul_assoc]
  unfold capStep
  generalize a * x = c at *
  by_cases hc : c ≤ lim + 1
  ·rw [Int.min_eq_left hc]
  ·have e : min c (lim + 1) = lim + 1 := by omega
   rw [e]
   have k1 := Int.mul_le_mul_of_nonneg_left hp (show 0 ≤ lim + 1 by omega)
   have k2 := Int.mul_le_mul_of_nonneg_left hp (show 0 ≤ c by omega)
   omega
end Go.Am
end
section
namespace Go.Am
def posN (l : List Int) (v : Int) : Nat := l.findIdx fun a => decide (a = v)
def findI (l : List Int) (v : Int) : Int := if posN l v < l.length then (posN l v : Int) else -1
def F_spec_l05Find : List Int × Int → Option Int := fun (x : List Int × Int) => if x.1.length ≤ 1048576 then some (findI x.1 x.2) else none
def F_impl_hasInt : List Int × Int → Option Bool := fun (x : List Int × Int) => if x.1.length ≤ 1048576 then some (decide (x.2 ∈ x.1)) else none
def axP (L D : List Int) (j : Nat) : Prop := (0 ≤ L.getD j 0 ∧ L.getD j 0 ≤ 99) ∧ (1 ≤ D.getD j 0 ∧ D.getD j 0 ≤ 8) ∧ L.getD j 0 ∉ L.take j
instance (L D : List Int) (j : Nat) : Decidable (axP L D j) := by unfold axP; infer_instance
def axOk (L D : List Int) : Bool := decide (L.length ≤ 12) && (decide (L.length = D.length) && decide (∀ j, j < L.length → axP L D j))
def tsz (L D : List Int) : Int := if axOk L D = true ∧ prodI D ≤ 4096 then prodI D else -1
def F_spec_l05Axes : List Int × List Int → Option Bool := fun (x : List Int × List Int) => if x.1.length ≤ 1048576 ∧ x.2.length ≤ 1048576 then some (axOk x.1 x.2) else none
def F_spec_TensorSize : List Int × List Int × List Int → Option Int := fun (x : List Int × List Int × List Int) => if x.1.length ≤ 1048576 ∧ x.2.1.length ≤ 1048576 then some (tsz x.1 x.2.1) else none
def F_impl_TensorSize : List Int × List Int × List Int → Option Int := F_spec_TensorSize
def chP (m : Int) (D : List Int) (R : List (List Int)) (j : Nat) : Prop := ((R.getD j []).length : Int) = D.getD j 0 ∧ rowOk m (R.getD j []) = true
instance (m : Int) (D : List Int) (R : List (List Int)) (j : Nat) : Decidable (chP m D R j) := by unfold chP; infer_instance
def chOk (x : (List Int × List Int × List Int) × Int × List (List Int)) : Bool :=
 decide (0 ≤ tsz x.1.1 x.1.2.1) && (decide (1 ≤ x.2.1 ∧ x.2.1 ≤ 12) && (decide (x.2.2.length = x.1.2.1.length) && decide (∀ j, j < x.2.2.length → chP x.2.1 x.1.2.1 x.2.2 j)))
def chDom (x : (List Int × List Int × List Int) × Int × List (List Int)) : Prop := (x.1.1.length ≤ 1048576 ∧ x.1.2.1.length ≤ 1048576) ∧ x.2.2.length ≤ 1048576 ∧ ∀ l ∈ x.2.2, l.length ≤ 1048576
instance (x : (List Int × List Int × List Int) × Int × List (List Int)) : Decidable (chDom x) := by unfold chDom; infer_instance
def F_spec_ChargesOk : (List Int × List Int × List Int) × Int × List (List Int) → Option Bool := fun (x : (List Int × List Int × List Int) × Int × List (List Int)) => if chDom x then some (chOk x) else none
def F_impl_ChargesOk : (List Int × List Int × List Int) × Int × List (List Int) → Option Bool := F_spec_ChargesOk
def ag_spec_l05Find : Sig := [(.one, [.list [.int .i64]]), (.one, [.int .i64])]
def rs_spec_l05Find : Sig := [(.one, [.int .i64])]
def mu_spec_l05Find : MSig := []
def ag_spec_l05Axes : Sig := [(.one, [.list [.int .i64]]), (.one, [.list [.int .i64]])]
def rs_spec_l05Axes : Sig := [(.one, [.bool])]
def mu_spec_l05Axes : MSig := []
def ag_spec_TensorSize : Sig := [(.agg, [.list [.int .i64], .list [.int .i64], .list [.int .i64]])]
def rs_spec_TensorSize : Sig := [(.one, [.int .i64])]
def mu_spec_TensorSize : MSig := []
def ag_spec_ChargesOk : Sig := [(.agg, [.list [.int .i64], .list [.int .i64], .list [.int .i64]]), (.agg, [.int .i64, .list [.list [.int .i64]]])]
def rs_spec_ChargesOk : Sig := [(.one, [.bool])]
def mu_spec_ChargesOk : MSig := []
def ag_impl_hasInt : Sig := [(.one, [.list [.int .i64]]), (.one, [.int .i64])]
def rs_impl_hasInt : Sig := [(.one, [.bool])]
def mu_impl_hasInt : MSig := []
def ag_impl_TensorSize : Sig := [(.agg, [.list [.int .i64], .list [.int .i64], .list [.int .i64]])]
def rs_impl_TensorSize : Sig := [(.one, [.int .i64])]
def mu_impl_TensorSize : MSig := []
def ag_impl_ChargesOk : Sig := [(.agg, [.list [.int .i64], .list [.int .i64], .list [.int .i64]]), (.agg, [.int .i64, .list [.list [.int .i64]]])]
def rs_impl_ChargesOk : Sig := [(.one, [.bool])]
def mu_impl_ChargesOk : MSig := []
def G_spec_l05Find (NN : Nat) : ((List Int) × Int) → (Option Int) :=
 (fun ((l0, i1) : ((List Int) × Int)) =>
 joinK (loopT NN (fun ((i2, l3, i4, i5) : (Int × ((List Int) × (Int × Int)))) =>
 cnd (ltI i5 i4)
 ((getI l3 i5).bnd (fun i6 =>
 cnd (eqI i6 i2)
 (some (Sum.inr (Sum.inr i5)))
 (some (Sum.inl (i2, l3, i4, addI .i64 i5 1)))))
 (some (Sum.inr (Sum.inl ()))))
 (i1, l0, natI (lenN l0), (0 : Int)))
 (fun _ =>
 some ((-1 : Int))))

def G_spec_l05Axes (NN : Nat) : ((List Int) × (List Int)) → (Option Bool) :=
 (fun ((l0, l1) : ((List Int) × (List Int))) =>
 cnd (ltI (12 : Int) (natI (lenN l0)))
 (some false)
 (cnd (neI (natI (lenN l0)) (natI (lenN l1)))
 (some false)
 (joinK (loopT NN (fun ((l2, l3, l4, i5, i6) : ((List Int) × ((List Int) × ((List Int) × (Int × Int))))) =>
 cnd (ltI i6 i5)
 ((getI l4 i6).bnd (fun i7 =>
 (F_spec_l01In (i7, (0 : Int), (99 : Int))).bnd (fun b8 =>
 cnd (notB b8)
 (some (Sum.inr (Sum.inr false)))
 ((getI l3 i6).bnd (fun i9 =>
 (F_spec_l01In (i9, (1 : Int), (8 : Int))).bnd (fun b10 =>
 cnd (notB b10)
 (some (Sum.inr (Sum.inr false)))
 ((sliI (0 : Int) i6 (lenN l2)).bnd (fun (k11, k12) =>
 (F_spec_l05Find (sldL l2 k11 k12, i7)).bnd (fun i13 =>
 cnd (leI (0 : Int) i13)
 (some (Sum.inr (Sum.inr false)))
 (some (Sum.inl (l2, l3, l4, i5, addI .i64 i6 1))))))))))))
 (some (Sum.inr (Sum.inl ()))))
 (l0, l1, l0, natI (lenN l0), (0 : Int)))
 (fun _ =>
 some true))))

def G_spec_TensorSize (NN : Nat) : ((List Int) × ((List Int) × (List Int))) → (Option Int) :=
 (fun ((l0, l1, l2) : ((List Int) × ((List Int) × (List Int)))) =>
 (F_spec_l05Axes (l0, l1)).bnd (fun b3 =>
 cnd (notB b3)
 (some ((-1 : Int)))
 ((F_spec_l05Product (l1, (4096 : Int))).bnd (fun i4 =>
 cnd (ltI (4096 : Int) i4)
 (some ((-1 : Int)))
 (some i4)))))

def G_spec_ChargesOk (NN : Nat) : (((List Int) × ((List Int) × (List Int))) × (Int × (List (List Int)))) → (Option Bool) :=
 (fun (((l0, l1, l2), i3, l4) : (((List Int) × ((List Int) × (List Int))) × (Int × (List (List Int))))) =>
 (F_spec_TensorSize (l0, l1, l2)).bnd (fun i5 =>
 cnd (ltI i5 (0 : Int))
 (some false)
 ((F_spec_l01In (i3, (1 : Int), (12 : Int))).bnd (fun b6 =>
 cnd (notB b6)
 (some false)
 (cnd (neI (natI (lenN l4)) (natI (lenN l1)))
 (some false)
 (joinK (loopT NN (fun (((l7, i8, i9), i10, l11) : (((List Int) × (Int × Int)) × (Int × (List (List Int))))) =>
 cnd (ltI i9 i8)
 (joinK ((getI l7 i9).bnd (fun i12 =>
 (getI l11 i9).bnd (fun l13 =>
 cnd (neI (natI (lenN l13)) i12)
 (some (Sum.inr (Sum.inr (Sum.inr false))))
 ((getI l11 i9).bnd (fun l14 =>
 loopT NN (fun (((l15, i16, i17, l18, i19, i20), i21, l22) : (((List Int) × (Int × (Int × ((List Int) × (Int × Int))))) × (Int × (List (List Int))))) =>
 cnd (ltI i20 i19)
 ((getI l18 i20).bnd (fun i23 =>
 (F_spec_l01In (i23, (0 : Int), subI .i64 i21 1)).bnd (fun b24 =>
 cnd (notB b24)
 (some (Sum.inr (Sum.inr (Sum.inr (Sum.inr false)))))
 (some (Sum.inl ((l15, i16, i17, l18, i19, addI .i64 i20 1), i21, l22))))))
 (some (Sum.inr (Sum.inl ((i17, l15, i16), i21, l22)))))
 ((l7, i8, i9, l14, natI (lenN l14), (0 : Int)), i10, l11))))))
 (fun ((i25, l26, i27), i28, l29) =>
 some (Sum.inl ((l26, i27, addI .i64 i25 1), i28, l29))))
 (some (Sum.inr (Sum.inl ()))))
 ((l1, natI (lenN l1), (0 : Int)), i3, l4))
 (fun _ =>
 some true)))))))

def G_impl_hasInt (NN : Nat) : ((List Int) × Int) → (Option Bool) :=
 (fun ((l0, i1) : ((List Int) × Int)) =>
 joinK (loopT NN (fun ((i2, l3, i4, i5) : (Int × ((List Int) × (Int × Int)))) =>
 cnd (ltI i5 i4)
 ((getI l3 i5).bnd (fun i6 =>
 cnd (eqI i2 i6)
 (some (Sum.inr (Sum.inr true)))
 (some (Sum.inl (i2, l3, i4, addI .i64 i5 1)))))
 (some (Sum.inr (Sum.inl ()))))
 (i1, l0, natI (lenN l0), (0 : Int)))
 (fun _ =>
 some false))

def G_impl_TensorSize (NN : Nat) : ((List Int) × ((List Int) × (List Int))) → (Option Int) :=
 (fun ((l0, l1, l2) : ((List Int) × ((List Int) × (List Int)))) =>
 cnd (ltI (12 : Int) (natI (lenN l0)))
 (some ((-1 : Int)))
 (cnd (neI (natI (lenN l0)) (natI (lenN l1)))
 (some ((-1 : Int)))
 (joinK (loopT NN (fun (((i3, l4, i5, i6), l7, l8, l9) : ((Int × ((List Int) × (Int × Int))) × ((List Int) × ((List Int) × (List Int))))) =>
 cnd (ltI i6 i5)
 ((getI l4 i6).bnd (fun i10 =>
 cnd (ltI i10 (0 : Int))
 (some (Sum.inr (Sum.inr ((-1 : Int)))))
 (cnd (ltI (99 : Int) i10)
 (some (Sum.inr (Sum.inr ((-1 : Int)))))
 ((sliI (0 : Int) i6 (lenN l7)).bnd (fun (k11, k12) =>
 (F_impl_hasInt (sldL l7 k11 k12, i10)).bnd (fun b13 =>
 cnd (b13)
 (some (Sum.inr (Sum.inr ((-1 : Int)))))
 ((getI l8 i6).bnd (fun i14 =>
 cnd (ltI i14 (1 : Int))
 (some (Sum.inr (Sum.inr ((-1 : Int)))))
 (cnd (ltI (8 : Int) i14)
 (some (Sum.inr (Sum.inr ((-1 : Int)))))
 (cnd (ltI (4096 : Int) (mulI .i64 i3 i14))
 (some (Sum.inr (Sum.inr ((-1 : Int)))))
 (some (Sum.inl ((mulI .i64 i3 i14, l4, i5, addI .i64 i6 1), l7, l8, l9)))))))))))))
 (some (Sum.inr (Sum.inl i3))))
 (((1 : Int), l0, natI (lenN l0), (0 : Int)), l0, l1, l2))
 (fun i15 =>
 some i15))))

def G_impl_ChargesOk (NN : Nat) : (((List Int) × ((List Int) × (List Int))) × (Int × (List (List Int)))) → (Option Bool) :=
 (fun (((l0, l1, l2), i3, l4) : (((List Int) × ((List Int) × (List Int))) × (Int × (List (List Int))))) =>
 (F_impl_TensorSize (l0, l1, l2)).bnd (fun i5 =>
 cnd (eqI i5 ((-1 : Int)))
 (some false)
 (cnd (ltI i3 (1 : Int))
 (some false)
 (cnd (ltI (12 : Int) i3)
 (some false)
 (cnd (neI (natI (lenN l4)) (natI (lenN l1)))
 (some false)
 (joinK (loopT NN (fun (((l6, i7, i8), (l9, l10, l11), i12, l13) : (((List (List Int)) × (Int × Int)) × (((List Int) × ((List Int) × (List Int))) × (Int × (List (List Int)))))) =>
 cnd (ltI i8 i7)
 ((getI l6 i8).bnd (fun l14 =>
 (getI l10 i8).bnd (fun i15 =>
 cnd (neI (natI (lenN l14)) i15)
 (some (Sum.inr (Sum.inr false)))
 ((F_impl_inMod (i12, l14)).bnd (fun b16 =>
 cnd (notB b16)
 (some (Sum.inr (Sum.inr false)))
 (some (Sum.inl ((l6, i7, addI .i64 i8 1), (l9, l10, l11), i12, l13))))))))
 (some (Sum.inr (Sum.inl ()))))
 ((l4, natI (lenN l4), (0 : Int)), (l0, l1, l2), i3, l4))
 (fun _ =>
 some true)))))))


theorem stop_ex' (P : Nat → Prop) [DecidablePred P] : ∀ c : Nat, ∃ n, n ≤ c ∧ (∀ j, j < n → P j) ∧ (n = c ∨ ¬ P n)
 | 0 => ⟨0, Nat.le_refl 0, fun j hj => absurd hj (Nat.not_lt_zero j), .inl rfl⟩
 | c + 1 => by
  obtain ⟨n, h1, h2, h3⟩ := stop_ex' P c
  by_cases h : P n
  ·rcases h3 with h3 | h3
   ·subst h3
    refine ⟨n + 1, Nat.le_refl _, fun j hj => ?_, .inl rfl⟩
    by_cases hj' : j = n
    ·subst hj'; exact h
    ·exact h2 j (by omega)
   ·exact absurd h h3
  ·exact ⟨n, by omega, h2, .inr h⟩
theorem getD_some {α : Type} {l : List α} {j : Nat} (d : α) (h : j < l.length) : l[j]? = some (l.getD j d) := by
 simp [List.getD, h]
theorem ltL_t {α : Type} {l : List α} {j : Nat} (h : j < l.length) : ltI (j : Int) (natI (lenN l)) = true := ltN_t h
theorem posN_before {l : List Int} {v : Int} {j : Nat} (h : j < posN l v) : l[j]? ≠ some v := by
 intro e
 have hj : j < l.length := (List.getElem?_eq_some_iff.1 e).1
 have := List.not_of_lt_findIdx h
 rw [List.getElem?_eq_getElem hj] at e
 simp [Option.some.inj e] at this
theorem posN_at {l : List Int} {v : Int} (h : posN l v < l.length) : l[posN l v]? = some v := by
 have := List.findIdx_getElem (w := h)
 rw [List.getElem?_eq_getElem h]
 exact congrArg some (of_decide_eq_true this)
theorem posN_le (l : List Int) (v : Int) : posN l v ≤ l.length := List.findIdx_le_length
theorem findI_mem (l : List Int) (v : Int) : leI 0 (findI l v) = decide (v ∈ l) := by
 unfold findI leI
 by_cases h : posN l v < l.length
 ·rw [if_pos h, decide_eq_true (by omega), decide_eq_true]
  exact List.mem_of_getElem? (posN_at h)
 ·rw [if_neg h, decide_eq_false (by omega), decide_eq_false]
  intro hm
  obtain ⟨i, hi, e⟩ := List.mem_iff_getElem.1 hm
  have := posN_le l v
  exact posN_before (show i < posN l v by omega) (by rw [List.getElem?_eq_getElem hi, e])
theorem f_spec_l05Find (x : List Int × Int) (y : Int) (h : F_spec_l05Find x = some y) : G_spec_l05Find FUEL x = some y := by
 obtain ⟨l, v⟩ := x
 simp only [F_spec_l05Find] at h
 split at h
 ·rename_i hl
  rw [← h]
  simp only [G_spec_l05Find]
  have hp := posN_le l v
  rw [loopT_seq (fun i => (v, l, natI (lenN l), (i : Int))) (r := if posN l v < l.length then Sum.inr (posN l v : Int) else Sum.inl ()) (posN l v) ?_ ?_ ?_ (FUEL_gt (by omega))]
  ·unfold findI
   by_cases h : posN l v < l.length
   ·rw [if_pos h, if_pos h]; rfl
   ·rw [if_neg h, if_neg h]; rfl
  ·intro j hj
   simp only
   have hjl : j < l.length := by omega
   rw [cnd_t (ltL_t hjl), getI_nat, getD_some 0 hjl, bnd_s, cnd_f (eqI_f (fun e => posN_before hj (by rw [getD_some 0 hjl, e])))]
   simp only [addN1 (show j ≤ 1048577 by omega)]
  ·simp only
   by_cases h : posN l v < l.length
   ·rw [if_pos h, cnd_t (ltL_t h), getI_nat, posN_at h, bnd_s, cnd_t (eqI_t rfl)]
   ·rw [if_neg h, cnd_f (show ltI _ (natI (lenN l)) = false from ltN_f (by show l.length ≤ _; omega))]
  ·rfl
 ·cases h
theorem f_impl_hasInt (x : List Int × Int) (y : Bool) (h : F_impl_hasInt x = some y) : G_impl_hasInt FUEL x = some y := by
 obtain ⟨l, v⟩ := x
 simp only [F_impl_hasInt] at h
 split at h
 ·rename_i hl
  rw [← h]
  simp only [G_impl_hasInt]
  have hp := posN_le l v
  rw [loopT_seq (fun i => (v, l, natI (lenN l), (i : Int))) (r := if posN l v < l.length then Sum.inr true else Sum.inl ()) (posN l v) ?_ ?_ ?_ (FUEL_gt (by omega))]
  ·rw [← findI_mem l v]
   unfold findI leI
   by_cases h : posN l v < l.length
   ·rw [if_pos h, if_pos h, decide_eq_true (by omega)]; rfl
   ·rw [if_neg h, if_neg h]; rfl
  ·intro j hj
   simp only
   have hjl : j < l.length := by omega
   rw [cnd_t (ltL_t hjl), getI_nat, getD_some 0 hjl, bnd_s, cnd_f (eqI_f (fun e => posN_before hj (by rw [getD_some 0 hjl, e])))]
   simp only [addN1 (show j ≤ 1048577 by omega)]
  ·simp only
   by_cases h : posN l v < l.length
   ·rw [if_pos h, cnd_t (ltL_t h), getI_nat, posN_at h, bnd_s, cnd_t (eqI_t rfl)]
   ·rw [if_neg h, cnd_f (show ltI _ (natI (lenN l)) = false from ltN_f (by show l.length ≤ _; omega))]
  ·rfl
 ·cases h
theorem sliI_n {n m : Nat} (h : n ≤ m) : sliI 0 (n : Int) m = some (0, n) := by
 unfold sliI
 rw [if_pos ⟨by omega, by omega, by omega⟩]
 simp
theorem sldL_0 (l : List Int) (n : Nat) : sldL l 0 n = l.take n := rfl
theorem f_spec_l05Axes (x : List Int × List Int) (y : Bool) (h : F_spec_l05Axes x = some y) : G_spec_l05Axes FUEL x = some y := by
 obtain ⟨L, D⟩ := x
 simp only [F_spec_l05Axes] at h
 split at h
 ·rename_i hl
  rw [← h]
  simp only [G_spec_l05Axes, axOk]
  by_cases h1 : L.length ≤ 12
  rotate_left
  ·rw [cnd_t (ltI_t (by rw [nl]; omega)), decide_eq_false h1]; rfl
  rw [cnd_f (ltI_f (by rw [nl]; omega)), decide_eq_true h1, Bool.true_and]
  by_cases h2 : L.length = D.length
  rotate_left
  ·rw [cnd_t (neI_t (by rw [nl, nl]; omega)), decide_eq_false h2]; rfl
  rw [cnd_f (neI_f (by rw [nl, nl]; omega)), decide_eq_true h2, Bool.true_and]
  obtain ⟨n, hn, hlt, hend⟩ := stop_ex' (axP L D) L.length
  rw [loopT_seq (fun i => (L, D, L, natI (lenN L), (i : Int))) (r := if n < L.length then Sum.inr false else Sum.inl ()) n ?_ ?_ ?_ (FUEL_gt (by omega))]
  ·by_cases h : n < L.length
   ·rw [if_pos h, decide_eq_false (fun q => (hend.resolve_left (by omega)) (q n h))]; rfl
   ·rw [if_neg h, decide_eq_true (fun j hj => hlt j (by omega))]; rfl
  ·intro j hj
   simp only
   obtain ⟨a1, a2, a3⟩ := hlt j hj
   have hjl : j < L.length := by omega
   rw [cnd_t (ltL_t hjl), getI_nat, getD_some 0 hjl, bnd_s]
   simp only [F_spec_l01In, bnd_s]
   rw [cnd_f (notB_p a1), getI_nat, getD_some 0 (show j < D.length by omega), bnd_s]
   rw [cnd_f (notB_p a2), sliI_n (show j ≤ lenN L by show j ≤ L.length; omega), bnd_s]
   simp only [sldL_0]
   rw [show F_spec_l05Find (L.take j, L.getD j 0) = some (findI (L.take j) (L.getD j 0)) from if_pos (by rw [List.length_take]; omega), bnd_s, findI_mem, cnd_f (decide_eq_false a3)]
   simp only [addN1 (show j ≤ 1048577 by omega)]
  ·simp only
   by_cases h : n < L.length
   ·have hno := hend.resolve_left (by omega)
    rw [if_pos h, cnd_t (ltL_t h), getI_nat, getD_some 0 h, bnd_s]
    simp only [F_spec_l01In, bnd_s]
    by_cases a1 : 0 ≤ L.getD n 0 ∧ L.getD n 0 ≤ 99
    rotate_left
    ·rw [cnd_t (notB_d a1)]
    rw [cnd_f (notB_p a1), getI_nat, getD_some 0 (show n < D.length by omega), bnd_s]
    by_cases a2 : 1 ≤ D.getD n 0 ∧ D.getD n 0 ≤ 8
    rotate_left
    ·rw [cnd_t (notB_d a2)]
    rw [cnd_f (notB_p a2), sliI_n (show n ≤ lenN L by show n ≤ L.length; omega), bnd_s]
    simp only [sldL_0]
    rw [show F_spec_l05Find (L.take n, L.getD n 0) = some (findI (L.take n) (L.getD n 0)) from if_pos (by rw [List.length_take]; omega), bnd_s, findI_mem]
    by_cases a3 : L.getD n 0 ∈ L.take n
    ·rw [cnd_t (decide_eq_true a3)]
    ·exact absurd ⟨a1, a2, a3⟩ hno
   ·rw [if_neg h, cnd_f (show ltI _ (natI (lenN L)) = false from ltN_f (by show L.length ≤ _; omega))]
  ·rfl
 ·cases h
theorem axOk_t {L D : List Int} (h : axOk L D = true) : L.length ≤ 12 ∧ L.length = D.length ∧ ∀ j, j < L.length → axP L D j := by
 simp only [axOk, Bool.and_eq_true, decide_eq_true_eq] at h
 exact h
theorem axOk_dims {L D : List Int} (h : axOk L D = true) : ∀ x ∈ D, 1 ≤ x ∧ x ≤ 8 := by
 obtain ⟨_, h2, h3⟩ := axOk_t h
 intro x hx
 obtain ⟨i, hi, e⟩ := List.mem_iff_getElem.1 hx
 have := (h3 i (by omega)).2.1
 have e2 := getD_some 0 hi
 rw [List.getElem?_eq_getElem hi, e] at e2
 rw [← Option.some.inj e2] at this
 exact this
theorem f_spec_TensorSize (x : List Int × List Int × List Int) (y : Int) (h : F_spec_TensorSize x = some y) : G_spec_TensorSize FUEL x = some y := by
 obtain ⟨L, D, T⟩ := x
 simp only [F_spec_TensorSize] at h
 split at h
 ·rename_i hl
  rw [← h]
  simp only [G_spec_TensorSize, tsz]
  rw [show F_spec_l05Axes (L, D) = some (axOk L D) from if_pos hl, bnd_s]
  cases hx : axOk L D with
  | false => simp [cnd, notB]
  | true =>
   have hd := axOk_dims hx
   have h1 : ∀ x ∈ D, 1 ≤ x := fun x hx => (hd x hx).1
   rw [cnd_f (by rfl), show F_spec_l05Product (D, 4096) = some (capProd 4096 D) from if_pos ⟨by omega, hl.2, List.all_eq_true.2 fun x hx => decide_eq_true (by have := hd x hx; omega)⟩, bnd_s]
   unfold capProd
   rw [capProd_go (by omega) D 0 1 h1 (by omega) (by omega), Int.one_mul]
   by_cases hp : prodI D ≤ 4096
   ·rw [cnd_f (ltI_f (by omega)), if_pos ⟨rfl, hp⟩, show min (prodI D) (4096 + 1) = prodI D by omega]
   ·rw [cnd_t (ltI_t (by omega)), if_neg (fun q => hp q.2)]
 ·cases h
theorem prodI_snoc : ∀ (l : List Int) (x : Int), prodI (l ++ [x]) = prodI l * x
 | [], x => by simp [prodI]
 | a :: l, x => by simp [prodI, prodI_snoc l x, Int.mul_assoc]
theorem prodI_app : ∀ (l m : List Int), prodI (l ++ m) = prodI l * prodI m
 | [], m => by simp [prodI]
 | a :: l, m => by simp [prodI, prodI_app l m, Int.mul_assoc]
theorem take_succD {D : List Int} {j : Nat} (h : j < D.length) : D.take (j + 1) = D.take j ++ [D.getD j 0] := by
 rw [List.take_add_one, getD_some 0 h]
 rfl
theorem prodI_take {D : List Int} {j : Nat} (h : j < D.length) : prodI (D.take (j + 1)) = prodI (D.take j) * D.getD j 0 := by rw [take_succD h, prodI_snoc]
theorem prodI_take_le {D : List Int} (h : ∀ x ∈ D, 1 ≤ x) (j : Nat) : prodI (D.take j) ≤ prodI D := by
 have e : prodI D = prodI (D.take j) * prodI (D.drop j) := by rw [← prodI_app, List.take_append_drop]
 have h1 := prodI_pos (l := D.take j) fun x hx => h x (List.mem_of_mem_take hx)
 have h2 := prodI_pos (l := D.drop j) fun x hx => h x (List.mem_of_mem_drop hx)
 have := Int.mul_le_mul_of_nonneg_left h2 (show 0 ≤ prodI (D.take j) by omega)
 rw [e]
 omega
def axQ (L D : List Int) (j : Nat) : Prop := axP L D j ∧ prodI (D.take (j + 1)) ≤ 4096
instance (L D : List Int) (j : Nat) : Decidable (axQ L D j) := by unfold axQ; infer_instance
theorem f_impl_TensorSize (x : List Int × List Int × List Int) (y : Int) (h : F_impl_TensorSize x = some y) : G_impl_TensorSize FUEL x = some y := by
 obtain ⟨L, D, T⟩ := x
 simp only [F_impl_TensorSize, F_spec_TensorSize] at h
 split at h
 ·rename_i hl
  rw [← h]
  simp only [G_impl_TensorSize, tsz]
  by_cases h1 : L.length ≤ 12
  rotate_left
  ·rw [cnd_t (ltI_t (by rw [nl]; omega)), if_neg (fun q => h1 (axOk_t q.1).1)]
  rw [cnd_f (ltI_f (by rw [nl]; omega))]
  by_cases h2 : L.length = D.length
  rotate_left
  ·rw [cnd_t (neI_t (by rw [nl, nl]; omega)), if_neg (fun q => h2 (axOk_t q.1).2.1)]
  rw [cnd_f (neI_f (by rw [nl, nl]; omega))]
  obtain ⟨n, hn, hlt, hend⟩ := stop_ex' (axQ L D) L.length
  have hpre : ∀ j, j ≤ n → 1 ≤ prodI (D.take j) ∧ prodI (D.take j) ≤ 4096 := by
   intro j hj
   constructor
   ·apply prodI_pos
    intro x hx
    obtain ⟨i, hi, e⟩ := List.mem_iff_getElem.1 hx
    rw [List.length_take] at hi
    have hp := (hlt i (by omega)).1.2.1
    have e2 := getD_some 0 (show i < D.length by omega)
    rw [List.getElem_take] at e
    rw [List.getElem?_eq_getElem (by omega), e] at e2
    rw [← Option.some.inj e2] at hp
    exact hp.1
   ·cases j with
    | zero => simp [prodI]
    | succ j => exact (hlt j (by omega)).2
  rw [loopT_seq (fun i => ((prodI (D.take i), L, natI (lenN L), (i : Int)), L, D, T)) (r := if n < L.length then Sum.inr (-1) else Sum.inl (prodI D)) n ?_ ?_ ?_ (FUEL_gt (by omega))]
  ·by_cases h : n < L.length
   ·rw [if_pos h, if_neg]
    ·rfl
    ·intro q
     refine hend.resolve_left (by omega) ⟨(axOk_t q.1).2.2 n h, ?_⟩
     have := prodI_take_le (fun x hx => (axOk_dims q.1 x hx).1) (n + 1)
     have := q.2
     omega
   ·have e : n = L.length := by omega
    have hp := (hpre n (Nat.le_refl n)).2
    rw [e, h2, List.take_length] at hp
    rw [if_neg h, if_pos]
    ·rfl
    ·refine ⟨?_, hp⟩
     simp only [axOk, Bool.and_eq_true, decide_eq_true_eq]
     exact ⟨h1, h2, fun j hj => (hlt j (by omega)).1⟩
  ·intro j hj
   simp only
   obtain ⟨⟨a1, a2, a3⟩, a4⟩ := hlt j hj
   have hjl : j < L.length := by omega
   rw [cnd_t (ltL_t hjl), getI_nat, getD_some 0 hjl, bnd_s, cnd_f (ltI_f (by omega)), cnd_f (ltI_f (by omega)), sliI_n (show j ≤ lenN L by show j ≤ L.length; omega), bnd_s]
   simp only [sldL_0]
   rw [show F_impl_hasInt (L.take j, L.getD j 0) = some (decide (L.getD j 0 ∈ L.take j)) from if_pos (by rw [List.length_take]; omega), bnd_s, cnd_f (decide_eq_false a3), getI_nat, getD_some 0 (show j < D.length by omega), bnd_s, cnd_f (ltI_f (by omega)), cnd_f (ltI_f (by omega))]
   have hb := hpre j (by omega)
   obtain ⟨b1, b2⟩ := mul_bd (a := prodI (D.take j)) (x := D.getD j 0) (A := 4096) (B := 8) (by omega) hb.2 (by omega) a2.2
   rw [prodI_take (by omega)] at a4
   rw [mulI_eq (by omega) (by omega), cnd_f (ltI_f a4), ← prodI_take (by omega)]
   simp only [addN1 (show j ≤ 1048577 by omega)]
  ·simp only
   by_cases h : n < L.length
   ·have hno := hend.resolve_left (by omega)
    rw [if_pos h, cnd_t (ltL_t h), getI_nat, getD_some 0 h, bnd_s]
    by_cases c1 : L.getD n 0 < 0
    ·rw [cnd_t (ltI_t c1)]
    rw [cnd_f (ltI_f (by omega))]
    by_cases c2 : 99 < L.getD n 0
    ·rw [cnd_t (ltI_t c2)]
    rw [cnd_f (ltI_f (by omega)), sliI_n (show n ≤ lenN L by show n ≤ L.length; omega), bnd_s]
    simp only [sldL_0]
    rw [show F_impl_hasInt (L.take n, L.getD n 0) = some (decide (L.getD n 0 ∈ L.take n)) from if_pos (by rw [List.length_take]; omega), bnd_s]
    by_cases a3 : L.getD n 0 ∈ L.take n
    ·rw [cnd_t (decide_eq_true a3)]
    rw [cnd_f (decide_eq_false a3), getI_nat, getD_some 0 (show n < D.length by omega), bnd_s]
    by_cases c3 : D.getD n 0 < 1
    ·rw [cnd_t (ltI_t c3)]
    rw [cnd_f (ltI_f (by omega))]
    by_cases c4 : 8 < D.getD n 0
    ·rw [cnd_t (ltI_t c4)]
    rw [cnd_f (ltI_f (by omega))]
    have hb := hpre n (Nat.le_refl n)
    obtain ⟨b1, b2⟩ := mul_bd (a := prodI (D.take n)) (x := D.getD n 0) (A := 4096) (B := 8) (by omega) hb.2 (by omega) (by omega)
    rw [mulI_eq (by omega) (by omega)]
    by_cases c5 : 4096 < prodI (D.take n) * D.getD n 0
    ·rw [cnd_t (ltI_t c5)]
    ·exact absurd ⟨⟨⟨by omega, by omega⟩, ⟨by omega, by omega⟩, a3⟩, by rw [prodI_take (by omega)]; omega⟩ hno
   ·have e : n = L.length := by omega
    rw [if_neg h, cnd_f (show ltI _ (natI (lenN L)) = false from ltN_f (by show L.length ≤ _; omega)), e, h2, List.take_length]
  ·rfl
 ·cases h
theorem rows_len {R : List (List Int)} (h : ∀ l ∈ R, l.length ≤ 1048576) {j : Nat} (hj : j < R.length) : (R.getD j []).length ≤ 1048576 := by
 have e := getD_some [] hj
 exact h _ (List.mem_of_getElem? e)
theorem f_spec_ChargesOk (x : (List Int × List Int × List Int) × Int × List (List Int)) (y : Bool) (h : F_spec_ChargesOk x = some y) : G_spec_ChargesOk FUEL x = some y := by
 obtain ⟨⟨L, D, T⟩, m, R⟩ := x
 simp only [F_spec_ChargesOk] at h
 split at h
 ·rename_i hl
  obtain ⟨hl1, hl2, hl3⟩ := hl
  simp only at hl1 hl2 hl3
  rw [← h]
  simp only [G_spec_ChargesOk, chOk]
  rw [show F_spec_TensorSize (L, D, T) = some (tsz L D) from if_pos hl1, bnd_s]
  by_cases h1 : 0 ≤ tsz L D
  rotate_left
  ·rw [cnd_t (ltI_t (by omega)), decide_eq_false h1]; rfl
  rw [cnd_f (ltI_f (by omega)), decide_eq_true h1, Bool.true_and]
  simp only [F_spec_l01In, bnd_s]
  by_cases h2 : 1 ≤ m ∧ m ≤ 12
  rotate_left
  ·rw [cnd_t (notB_d h2), decide_eq_false h2]; rfl
  rw [cnd_f (notB_p h2), decide_eq_true h2, Bool.true_and]
  by_cases h3 : R.length = D.length
  rotate_left
  ·rw [cnd_t (neI_t (by rw [nl, nl]; omega)), decide_eq_false h3]; rfl
  rw [cnd_f (neI_f (by rw [nl, nl]; omega)), decide_eq_true h3, Bool.true_and]
  obtain ⟨n, hn, hlt, hend⟩ := stop_ex' (chP m D R) R.length
  rw [loopT_seq (fun i => ((D, natI (lenN D), (i : Int)), m, R)) (r := if n < R.length then Sum.inr false else Sum.inl ()) n ?_ ?_ ?_ (FUEL_gt (by omega))]
  ·by_cases h : n < R.length
   ·rw [if_pos h, decide_eq_false (fun q => (hend.resolve_left (by omega)) (q n h))]; rfl
   ·rw [if_neg h, decide_eq_true (fun j hj => hlt j (by omega))]; rfl
  ·intro j hj
   simp only
   obtain ⟨a1, a2⟩ := hlt j hj
   have hjR : j < R.length := by omega
   have hjD : j < D.length := by omega
   have hr := rows_len hl3 hjR
   rw [cnd_t (ltL_t hjD), getI_nat, getI_nat, getD_some 0 hjD, getD_some [] hjR, bnd_s, bnd_s, cnd_f (neI_f (by rw [nl]; exact a1)), bnd_s]
   rw [loopT_all (mk := fun i => ((D, natI (lenN D), (j : Int), R.getD j [], natI (lenN (R.getD j [])), (i : Int)), m, R)) (R.getD j []) (inB m) (Sum.inr (Sum.inr (Sum.inr false))) (Sum.inl (((j : Int), D, natI (lenN D)), m, R)) ?_ ?_ ?_ ?_ (FUEL_gt (by omega))]
   ·rw [if_pos (show (R.getD j []).all (inB m) = true from a2), joinK_l]
    simp only [addN1 (show j ≤ 1048577 by omega)]
   all_goals try simp only
   ·intro i a ha hp
    have hp := of_decide_eq_true hp
    rw [cnd_t (ltI_in ha), getI_nat, ha, bnd_s, subI_eq (by omega) (by omega), cnd_f (notB_p (by omega)), next_i ha (by omega)]
   ·intro i a ha hp
    have hp := of_decide_eq_false hp
    rw [cnd_t (ltI_in ha), getI_nat, ha, bnd_s, subI_eq (by omega) (by omega), cnd_t (notB_d (by omega))]
   ·rw [cnd_f (ltI_end _)]
   ·rfl
  ·simp only
   by_cases h : n < R.length
   ·have hno := hend.resolve_left (by omega)
    have hjD : n < D.length := by omega
    have hr := rows_len hl3 h
    rw [if_pos h, cnd_t (ltL_t hjD), getI_nat, getI_nat, getD_some 0 hjD, getD_some [] h, bnd_s, bnd_s]
    by_cases a1 : ((R.getD n []).length : Int) = D.getD n 0
    rotate_left
    ·rw [cnd_t (neI_t (by rw [nl]; exact a1))]; rfl
    rw [cnd_f (neI_f (by rw [nl]; exact a1)), bnd_s]
    have a2 : rowOk m (R.getD n []) ≠ true := fun q => hno ⟨a1, q⟩
    rw [loopT_all (mk := fun i => ((D, natI (lenN D), (n : Int), R.getD n [], natI (lenN (R.getD n [])), (i : Int)), m, R)) (R.getD n []) (inB m) (Sum.inr (Sum.inr (Sum.inr false))) (Sum.inl (((n : Int), D, natI (lenN D)), m, R)) ?_ ?_ ?_ ?_ (FUEL_gt (by omega))]
    ·rw [if_neg (show ¬ (R.getD n []).all (inB m) = true from a2)]
     rfl
    all_goals try simp only
    ·intro i a ha hp
     have hp := of_decide_eq_true hp
     rw [cnd_t (ltI_in ha), getI_nat, ha, bnd_s, subI_eq (by omega) (by omega), cnd_f (notB_p (by omega)), next_i ha (by omega)]
    ·intro i a ha hp
     have hp := of_decide_eq_false hp
     rw [cnd_t (ltI_in ha), getI_nat, ha, bnd_s, subI_eq (by omega) (by omega), cnd_t (notB_d (by omega))]
    ·rw [cnd_f (ltI_end _)]
    ·rfl
   ·rw [if_neg h, cnd_f (show ltI _ (natI (lenN D)) = false from ltN_f (by show D.length ≤ _; omega))]
  ·rfl
 ·cases h
theorem f_impl_ChargesOk (x : (List Int × List Int × List Int) × Int × List (List Int)) (y : Bool) (h : F_impl_ChargesOk x = some y) : G_impl_ChargesOk FUEL x = some y := by
 obtain ⟨⟨L, D, T⟩, m, R⟩ := x
 simp only [F_impl_ChargesOk, F_spec_ChargesOk] at h
 split at h
 ·rename_i hl
  obtain ⟨hl1, hl2, hl3⟩ := hl
  simp only at hl1 hl2 hl3
  rw [← h]
  simp only [G_impl_ChargesOk, chOk]
  rw [show F_impl_TensorSize (L, D, T) = some (tsz L D) from if_pos hl1, bnd_s]
  have hts : tsz L D = -1 ∨ 0 ≤ tsz L D := by
   unfold tsz
   by_cases q : axOk L D = true ∧ prodI D ≤ 4096
   ·rw [if_pos q]
    have := prodI_pos fun x hx => (axOk_dims q.1 x hx).1
    right; omega
   ·rw [if_neg q]; left; rfl
  by_cases h1 : 0 ≤ tsz L D
  rotate_left
  ·rw [cnd_t (eqI_t (by omega)), decide_eq_false h1]; rfl
  rw [cnd_f (eqI_f (by omega)), decide_eq_true h1, Bool.true_and]
  by_cases h2 : 1 ≤ m
  rotate_left
  ·rw [cnd_t (ltI_t (by omega)), decide_eq_false (p := 1 ≤ m ∧ m ≤ 12) (by omega)]; rfl
  rw [cnd_f (ltI_f (by omega))]
  by_cases h2' : m ≤ 12
  rotate_left
  ·rw [cnd_t (ltI_t (by omega)), decide_eq_false (p := 1 ≤ m ∧ m ≤ 12) (by omega)]; rfl
  rw [cnd_f (ltI_f (by omega)), decide_eq_true (p := 1 ≤ m ∧ m ≤ 12) ⟨h2, h2'⟩, Bool.true_and]
  by_cases h3 : R.length = D.length
  rotate_left
  ·rw [cnd_t (neI_t (by rw [nl, nl]; omega)), decide_eq_false h3]; rfl
  rw [cnd_f (neI_f (by rw [nl, nl]; omega)), decide_eq_true h3, Bool.true_and]
  obtain ⟨n, hn, hlt, hend⟩ := stop_ex' (chP m D R) R.length
  rw [loopT_seq (fun i => ((R, natI (lenN R), (i : Int)), (L, D, T), m, R)) (r := if n < R.length then Sum.inr false else Sum.inl ()) n ?_ ?_ ?_ (FUEL_gt (by omega))]
  ·by_cases h : n < R.length
   ·rw [if_pos h, decide_eq_false (fun q => (hend.resolve_left (by omega)) (q n h))]; rfl
   ·rw [if_neg h, decide_eq_true (fun j hj => hlt j (by omega))]; rfl
  ·intro j hj
   simp only
   obtain ⟨a1, a2⟩ := hlt j hj
   have hjR : j < R.length := by omega
   have hjD : j < D.length := by omega
   have hr := rows_len hl3 hjR
   rw [cnd_t (ltL_t hjR), getI_nat, getI_nat, getD_some 0 hjD, getD_some [] hjR, bnd_s, bnd_s, cnd_f (neI_f (by rw [nl]; exact a1)), show F_impl_inMod (m, R.getD j []) = some (rowOk m (R.getD j [])) from if_pos hr, bnd_s, a2, cnd_f (by rfl)]
   simp only [addN1 (show j ≤ 1048577 by omega)]
  ·simp only
   by_cases h : n < R.length
   ·have hno := hend.resolve_left (by omega)
    have hjD : n < D.length := by omega
    have hr := rows_len hl3 h
    rw [if_pos h, cnd_t (ltL_t h), getI_nat, getI_nat, getD_some 0 hjD, getD_some [] h, bnd_s, bnd_s]
    by_cases a1 : ((R.getD n []).length : Int) = D.getD n 0
    rotate_left
    ·rw [cnd_t (neI_t (by rw [nl]; exact a1))]
    rw [cnd_f (neI_f (by rw [nl]; exact a1))]
    have a2 : rowOk m (R.getD n []) = false := by
     cases q : rowOk m (R.getD n []) with
     | false => rfl
     | true => exact absurd ⟨a1, q⟩ hno
    rw [show F_impl_inMod (m, R.getD n []) = some (rowOk m (R.getD n [])) from if_pos hr, bnd_s, a2, cnd_t (by rfl)]
   ·rw [if_neg h, cnd_f (show ltI _ (natI (lenN R)) = false from ltN_f (by show R.length ≤ _; omega))]
  ·rfl
 ·cases h
end Go.Am
end
section
namespace Go.Am
end Go.Am
end
section
namespace Go.Am
def newOk (x : Int × Int) : Prop := (0 ≤ x.1 ∧ x.1 ≤ 4096) ∧ (0 ≤ x.2 ∧ x.2 ≤ 4096) ∧ x.1 * x.2 ≤ 1048576
instance (x : Int × Int) : Decidable (newOk x) := by unfold newOk; infer_instance
def swapF (M : Nat → Nat → Int) (a b : Nat) : Nat → Nat → Int := fun i j => if i = a then M b j else if i = b then M a j else M i j
def pivF (M : Nat → Nat → Int) (j : Nat) : Nat → Nat → Option Nat
 | 0, _ => none
 | d + 1, k => if M k j = 0 then pivF M j d (k + 1) else some k
def invG (p out x : Int) (n : Nat) : Int := if h : n = 0 then out else invG p (if n % 2 = 1 then out * x % p else out) (x * x % p) (n / 2)
termination_by n
decreasing_by omega
def F_spec_l05Ints : List Int → Option (List Int) := fun (l : List Int) => if l.length ≤ 1099511627776 then some l else none
def F_impl_copyInts : List Int → Option (List Int) := fun (l : List Int) => if l.length ≤ 1099511627776 then some l else none
def mulOk (x : Int × (Int × Int × List Int) × (Int × Int × List Int)) : Prop := pOk x.1 ∧ mOk x.2.1 ∧ mOk x.2.2 ∧ x.2.1.2.1 = x.2.2.1 ∧ x.2.1.1 * x.2.2.2.1 ≤ 1048576 ∧ allP x.1 x.2.1.2.2 ∧ allP x.1 x.2.2.2.2
instance (x : Int × (Int × Int × List Int) × (Int × Int × List Int)) : Decidable (mulOk x) := by unfold mulOk; infer_instance
def ag_spec_l05Ints : Sig := [(.one, [.list [.int .i64]])]
def rs_spec_l05Ints : Sig := [(.one, [.list [.int .i64]])]
def mu_spec_l05Ints : MSig := []
def ag_impl_copyInts : Sig := [(.one, [.list [.int .i64]])]
def rs_impl_copyInts : Sig := [(.one, [.list [.int .i64]])]
def mu_impl_copyInts : MSig := []
def G_spec_l05Ints (NN : Nat) : (List Int) → (Option (List Int)) :=
 (fun (l0 : (List Int)) =>
 (fulI 0 0 (lenN (([] : List Int)))).bnd (fun _ =>
 (fitI (addN (lenN (([] : List Int))) (lenN l0)) 8).bnd (fun _ =>
 (takI (appL (([] : List Int)) l0) (addN (lenN (([] : List Int))) (lenN l0))).bnd (fun l1 =>
 some l1))))

def G_impl_copyInts (NN : Nat) : (List Int) → (Option (List Int)) :=
 (fun (l0 : (List Int)) =>
 (fitI (addN (lenN (([] : List Int))) (lenN l0)) 8).bnd (fun _ =>
 (takI (appL (([] : List Int)) l0) (addN (lenN (([] : List Int))) (lenN l0))).bnd (fun l1 =>
 some l1)))

theorem f_spec_l05Ints (x y : List Int) (h : F_spec_l05Ints x = some y) : G_spec_l05Ints FUEL x = some y := by
 simp only [F_spec_l05Ints] at h
 split at h
 ·rename_i hl
  rw [← h]
  simp only [G_spec_l05Ints]
  rw [show fulI 0 0 (lenN ([] : List Int)) = some () from rfl, bnd_s, fitI_ok (by simp only [addN, lenN, List.length_nil, maxBytes]; omega), bnd_s]
  have : appL [] x = x := rfl
  rw [this, show addN (lenN ([] : List Int)) (lenN x) = lenN x by simp [addN, lenN], takI_id]
  rfl
 ·cases h
theorem f_impl_copyInts (x y : List Int) (h : F_impl_copyInts x = some y) : G_impl_copyInts FUEL x = some y := by
 simp only [F_impl_copyInts] at h
 split at h
 ·rename_i hl
  rw [← h]
  simp only [G_impl_copyInts]
  rw [fitI_ok (by simp only [addN, lenN, List.length_nil, maxBytes]; omega), bnd_s]
  have : appL [] x = x := rfl
  rw [this, show addN (lenN ([] : List Int)) (lenN x) = lenN x by simp [addN, lenN], takI_id]
  rfl
 ·cases h
theorem pivF_lt {M : Nat → Nat → Int} {j q : Nat} : ∀ {d k : Nat}, pivF M j d k = some q → k ≤ q ∧ q < k + d ∧ M q j ≠ 0
 | 0, k, h => by cases h
 | d + 1, k, h => by
  simp only [pivF] at h
  split at h
  ·have := pivF_lt h
   exact ⟨by omega, by omega, this.2.2⟩
  ·rename_i h0
   injection h with h
   subst h
   exact ⟨by omega, by omega, h0⟩
theorem invG_0 (p out x : Int) : invG p out x 0 = out := by rw [invG]; rfl
theorem invG_s {n : Nat} (h : n ≠ 0) (p out x : Int) : invG p out x n = invG p (if n % 2 = 1 then out * x % p else out) (x * x % p) (n / 2) := by
 rw [invG, dif_neg h]
end Go.Am
end
section
namespace Go.Am
def sopOk (x : Int × Int × Int) : Prop := isPrimeI x.1 = true ∧ (1 ≤ x.2.1 ∧ x.2.1 ≤ 8) ∧ (1 ≤ x.2.2 ∧ x.2.2 ≤ 8)
instance (x : Int × Int × Int) : Decidable (sopOk x) := by unfold sopOk; infer_instance
end Go.Am
end
section
namespace Go.Am
abbrev Mat := Nat → Nat → Int
def sclF (p inv : Int) (M : Mat) (t : Nat) : Mat := fun a b => if a = t then M t b * inv % p else M a b
def clrF (p : Int) (M : Mat) (t j n : Nat) : Mat := fun a b => if a < n ∧ a ≠ t then (M a b + (p - M a j) * M t b) % p else M a b
def pivS (p : Int) (M : Mat) (t j k : Nat) : Mat := sclF p (invG p 1 (swapF M t k t j) (p - 2).toNat) (swapF M t k) t
def redD (p : Int) (M : Mat) (t j k : Nat) (d : Int) : Int := (if k = t then d else (p - d) % p) * swapF M t k t j % p
def redS (p : Int) (r : Nat) (s : Mat × List Int × Int) (j : Nat) : Mat × List Int × Int :=
 if s.2.1.length < r then
  match pivF s.1 j (r - s.2.1.length) s.2.1.length with
  | none => s
  | some k => (clrF p (pivS p s.1 s.2.1.length j k) s.2.1.length j r, s.2.1 ++ [(j : Int)], redD p s.1 s.2.1.length j k s.2.2)
 else s
def redN (p : Int) (r : Nat) (M : Mat) : Nat → Mat × List Int × Int
 | 0 => (M, [], 1)
 | j + 1 => redS p r (redN p r M j) j
def redOk (x : Int × Int × Int × List Int) : Prop := pOk x.1 ∧ mOk x.2 ∧ allP x.1 x.2.2.2
instance (x : Int × Int × Int × List Int) : Decidable (redOk x) := by unfold redOk; infer_instance
theorem swapF_in {p : Int} {r c : Nat} {M : Mat} (hM : inM p r c M) {a b : Nat} (ha : a < r) (hb : b < r) : inM p r c (swapF M a b) := by
 intro i hi j hj
 unfold swapF
 split
 ·exact hM b hb j hj
 ·split
  ·exact hM a ha j hj
  ·exact hM i hi j hj
theorem sclF_in {p inv : Int} {r c : Nat} {M : Mat} (hp : pOk p) (hM : inM p r c M) (t : Nat) : inM p r c (sclF p inv M t) := by
 intro i hi j hj
 unfold sclF
 split
 ·exact emod_in hp _
 ·exact hM i hi j hj
theorem clrF_in {p : Int} {r c : Nat} {M : Mat} (hp : pOk p) (hM : inM p r c M) (t k n : Nat) : inM p r c (clrF p M t k n) := by
 intro i hi j hj
 unfold clrF
 split
 ·exact emod_in hp _
 ·exact hM i hi j hj
theorem pivS_in {p : Int} {r c : Nat} {M : Mat} (hp : pOk p) (hM : inM p r c M) {t k : Nat} (ht : t < r) (hk : k < r) (j : Nat) : inM p r c (pivS p M t j k) := sclF_in hp (swapF_in hM ht hk) t
structure RI (p : Int) (r c : Nat) (s : Mat × List Int × Int) (j : Nat) : Prop where
 m : inM p r c s.1
 l : s.2.1.length ≤ r
 lj : s.2.1.length ≤ j
 d : inP p s.2.2
 e : ∀ x ∈ s.2.1, 0 ≤ x ∧ x < (j : Int)
theorem RI.step {p : Int} {r c : Nat} {s : Mat × List Int × Int} {j : Nat} (hp : pOk p) (h : RI p r c s j) : RI p r c (redS p r s j) (j + 1) := by
 have keep : RI p r c s (j + 1) := ⟨h.m, h.l, by have := h.lj; omega, h.d, fun x hx => by have := h.e x hx; omega⟩
 unfold redS
 split
 ·rename_i hl
  split
  ·exact keep
  ·rename_i k hk
   have hq := pivF_lt hk
   refine ⟨clrF_in hp (pivS_in hp h.m hl (by omega) j) _ _ _, ?_, ?_, emod_in hp _, ?_⟩
   ·simp only [List.length_append, List.length_cons, List.length_nil]; omega
   ·have := h.lj
    simp only [List.length_append, List.length_cons, List.length_nil]; omega
   ·intro x hx
    simp only [List.mem_append, List.mem_singleton] at hx
    rcases hx with hx | rfl
    ·have := h.e x hx; omega
    ·omega
 ·exact keep
theorem clrF_0 {p : Int} (M : Mat) (t j : Nat) : clrF p M t j 0 = M := by funext a b; exact if_neg (by omega)
theorem clrF_old {p : Int} (M : Mat) (t j n b : Nat) : clrF p M t j n n b = M n b := if_neg (by omega)
theorem clrF_t {p : Int} (M : Mat) (t j n b : Nat) : clrF p M t j n t b = M t b := if_neg (by omega)
theorem clrF_skip {p : Int} (M : Mat) (t j : Nat) : clrF p M t j (t + 1) = clrF p M t j t := by
 funext a b
 unfold clrF
 by_cases h : a < t
 ·rw [if_pos (by omega), if_pos (by omega)]
 ·rw [if_neg (by omega), if_neg (by omega)]
theorem pivF_none {M : Mat} {j : Nat} : ∀ {d k : Nat}, pivF M j d k = none → ∀ i, k ≤ i → i < k + d → M i j = 0
 | 0, k, _, i, h1, h2 => by omega
 | d + 1, k, h, i, h1, h2 => by
  simp only [pivF] at h
  split at h
  ·rename_i h0
   by_cases hi : i = k
   ·rw [hi]; exact h0
   ·exact pivF_none h i (by omega) (by omega)
  ·cases h
theorem redS_n {p : Int} {r : Nat} {s : Mat × List Int × Int} {j : Nat} (hl : s.2.1.length < r) (h : pivF s.1 j (r - s.2.1.length) s.2.1.length = none) : redS p r s j = s := by
 unfold redS
 rw [if_pos hl, h]
theorem redS_s {p : Int} {r : Nat} {s : Mat × List Int × Int} {j k : Nat} (hl : s.2.1.length < r) (h : pivF s.1 j (r - s.2.1.length) s.2.1.length = some k) :
  redS p r s j = (clrF p (pivS p s.1 s.2.1.length j k) s.2.1.length j r, s.2.1 ++ [(j : Int)], redD p s.1 s.2.1.length j k s.2.2) := by
 unfold redS
 rw [if_pos hl, h]
section
variable {p : Int} {r c : Nat} {M0 : Mat}
end
section
variable {p : Int} {r c : Nat} {M0 : Mat}
end
end Go.Am
end
section
namespace Go.Am
section
variable {p : Int} {r c : Nat} {M R : Mat} {L : List Int}
end
end Go.Am
end
section
namespace Go.Am
abbrev Site := Int × Int × Int × List Int
def siteG (s : Site) : Prop := (0 ≤ s.1 ∧ s.1 ≤ 64) ∧ (0 ≤ s.2.1 ∧ s.2.1 ≤ 64) ∧ (0 ≤ s.2.2.1 ∧ s.2.2.1 ≤ 64) ∧ (s.2.2.2.length : Int) = s.1 * s.2.1 * s.2.2.1
instance (s : Site) : Decidable (siteG s) := by unfold siteG; infer_instance
def rowL (n : Nat) (f : Nat → Int) : List Int := (List.range n).map f
theorem rowL_len (n : Nat) (f : Nat → Int) : (rowL n f).length = n := by simp [rowL]
theorem rowL_get {n j : Nat} (f : Nat → Int) (h : j < n) : (rowL n f)[j]? = some (f j) := by simp [rowL, List.getElem?_range h]
theorem rowL_congr {n : Nat} {f g : Nat → Int} (h : ∀ j, j < n → f j = g j) : rowL n f = rowL n g := List.map_congr_left fun j hj => h j (List.mem_range.1 hj)
theorem rowL_set {n j : Nat} (f : Nat → Int) (x : Int) : setL (rowL n f) j x = rowL n (fun q => if q = j then x else f q) := by
 unfold setL
 apply List.ext_getElem?
 intro k
 rw [List.getElem?_set, rowL_len]
 by_cases hk : k < n
 ·rw [rowL_get _ hk, rowL_get _ hk]
  by_cases e : j = k
  ·subst e; simp [hk]
  ·rw [if_neg e]; simp [show ¬ k = j from fun h => e h.symm]
 ·rw [List.getElem?_eq_none (by rw [rowL_len]; omega), List.getElem?_eq_none (by rw [rowL_len]; omega)]
  by_cases e : j = k
  ·subst e; simp [hk]
  ·simp [e]
theorem lenN_row (n : Nat) (f : Nat → Int) : lenN (rowL n f) = n := rowL_len n f
theorem rowL_rep (n : Nat) (x : Int) : repL n x = rowL n (fun _ => x) := by
 unfold repL rowL
 rw [List.map_const', List.length_range]
theorem fulI_row (n : Nat) (f g : Nat → Int) : fulI 0 (lenN (rowL n f)) (lenN (rowL n g)) = some () := by rw [lenN_row, lenN_row]; exact fulI_id n
theorem chkI_row {n j : Nat} (f : Nat → Int) (h : j < n) : chkI (j : Int) (lenN (rowL n f)) = some j := chkI_nat (by rw [lenN_row]; exact h)
theorem getN_row {n j : Nat} (f : Nat → Int) (h : j < n) : getN (rowL n f) j = some (f j) := rowL_get f h
theorem map_take {α : Type} (g : α → Int) {L : List α} {j : Nat} {x : α} (h : L[j]? = some x) : appL ((L.take j).map g) [g x] = (L.take (j + 1)).map g := by
 simp [appL, List.take_add_one, h]
end Go.Am
end
section
namespace Go.Am
def prodN : List Int → Nat
 | [] => 1
 | x :: l => x.toNat * prodN l
def tailP (D : List Int) (i : Nat) : Nat := prodN (D.drop i)
def dig (D : List Int) (n i : Nat) : Int := ((n / tailP D (i + 1) % (D.getD i 0).toNat : Nat) : Int)
def idxN (D : List Int) (n : Nat) : List Int := rowL D.length (dig D n)
def dimsG (D : List Int) : Prop := D.length ≤ 1048576 ∧ ∀ x ∈ D, 1 ≤ x ∧ x ≤ 1048576
instance (D : List Int) : Decidable (dimsG D) := by unfold dimsG; infer_instance
def F_spec_l05Index : List Int × Int → Option (List Int) := fun x => if dimsG x.1 ∧ 0 ≤ x.2 ∧ x.2 ≤ 1048576 then some (idxN x.1 x.2.toNat) else none
def ag_spec_l05Index : Sig := [(.one, [.list [.int .i64]]), (.one, [.int .i64])]
def rs_spec_l05Index : Sig := [(.one, [.list [.int .i64]])]
def mu_spec_l05Index : MSig := []
def G_spec_l05Index (NN : Nat) : ((List Int) × Int) → (Option (List Int)) :=
 (fun ((l0, i1) : ((List Int) × Int)) =>
 (mkI (natI (lenN l0)) (natI (lenN l0)) 8).bnd (fun k2 =>
 joinK ((fulI 0 k2 (lenN (repL k2 (0 : Int)))).bnd (fun _ =>
 loopT NN (fun (((l3, i4, i5), l6) : (((List Int) × (Int × Int)) × (List Int))) =>
 cnd (leI (0 : Int) i5)
 ((getI l3 i5).bnd (fun i7 =>
 (remI i4 i7).bnd (fun i8 =>
 (chkI i5 (lenN l6)).bnd (fun k9 =>
 (getN l6 (addN 0 k9)).bnd (fun i10 =>
 (getI l3 i5).bnd (fun i11 =>
 (quoI .i64 i4 i11).bnd (fun i12 =>
 (fulI 0 (lenN l6) (lenN (setL l6 (addN 0 k9) i8))).bnd (fun _ =>
 some (Sum.inl ((l3, i12, subI .i64 i5 1), setL l6 (addN 0 k9) i8))))))))))
 (((fulI 0 (lenN l6) (lenN l6)).bnd (fun _ =>
 some (Sum.inl l6))).bnd (fun l13 =>
 some (Sum.inr l13))))
 ((l0, i1, subI .i64 (natI (lenN l0)) (1 : Int)), repL k2 (0 : Int))))
 (fun l14 =>
 (takI l14 (lenN l14)).bnd (fun l15 =>
 some l15))))


theorem dims_pos {D : List Int} (h : dimsG D) {i : Nat} (hi : i < D.length) : ∃ d : Nat, D[i]? = some (d : Int) ∧ D.getD i 0 = (d : Int) ∧ (D.getD i 0).toNat = d ∧ 1 ≤ d ∧ d ≤ 1048576 := by
 have e := getD_some 0 hi
 have hm := h.2 _ (List.mem_of_getElem? e)
 obtain ⟨d, hd⟩ := natI_eq (show 0 ≤ D.getD i 0 by omega)
 exact ⟨d, by rw [e, hd], hd, by rw [hd]; rfl, by omega, by omega⟩
theorem tailP_step {D : List Int} {i : Nat} (hi : i < D.length) : tailP D i = (D.getD i 0).toNat * tailP D (i + 1) := by
 unfold tailP
 rw [drop_cons (getD_some 0 hi), prodN]
theorem tailP_end (D : List Int) : tailP D D.length = 1 := by simp [tailP, prodN]
theorem prodN_pos : ∀ {D : List Int}, (∀ x ∈ D, 1 ≤ x) → 0 < prodN D
 | [], _ => Nat.one_pos
 | x :: l, h => by
  have h1 := h x List.mem_cons_self
  exact Nat.mul_pos (by omega) (prodN_pos fun y hy => h y (List.mem_cons_of_mem _ hy))
theorem prodN_I : ∀ {D : List Int}, (∀ x ∈ D, 1 ≤ x) → prodI D = (prodN D : Int)
 | [], _ => rfl
 | x :: l, h => by
  have h1 := h x List.mem_cons_self
  rw [prodI, prodN, prodN_I fun y hy => h y (List.mem_cons_of_mem _ hy)]
  obtain ⟨x, rfl⟩ := natI_eq (show 0 ≤ x by omega)
  simp
theorem chQuoN {a b : Nat} (hb : 0 < b) (ha : a ≤ 1048576) : quoI .i64 (a : Int) (b : Int) = some ((a / b : Nat) : Int) := by
 have e : ((a : Int) / (b : Int)) = ((a / b : Nat) : Int) := by norm_cast
 have : a / b ≤ a := Nat.div_le_self a b
 unfold quoI
 rw [if_neg (by omega), Int.tdiv_eq_ediv_of_nonneg (by omega), e]
 clear e
 generalize a / b = q at *
 rw [wrap_id (by omega) (by omega)]
theorem chRemNN {a b : Nat} (hb : 0 < b) : remI (a : Int) (b : Int) = some ((a % b : Nat) : Int) := by
 rw [remN (by omega) (by omega)]; norm_cast
theorem subN1 {n : Nat} (h : n ≤ 1048577) : subI .i64 (n : Int) 1 = (n : Int) - 1 := subI_eq (by omega) (by omega)
theorem f_spec_l05Index (x : List Int × Int) (y : List Int) (h : F_spec_l05Index x = some y) : G_spec_l05Index FUEL x = some y := by
 obtain ⟨D, n⟩ := x
 simp only [F_spec_l05Index] at h
 split at h
 ·rename_i hc
  obtain ⟨hD, h0, h1⟩ := hc
  rw [← h]
  obtain ⟨n, rfl⟩ := natI_eq h0
  have hl := hD.1
  simp only [G_spec_l05Index, Int.toNat_natCast]
  rw [mkI_nat (n := lenN D) (by simp only [lenN, maxBytes]; omega), bnd_s]
  rw [show fulI 0 (lenN D) (lenN (repL (lenN D) (0 : Int))) = some () from by rw [lenN_repL]; exact fulI_id _, bnd_s]
  rw [loopT_seq (fun j => ((D, ((n / tailP D (D.length - j) : Nat) : Int), (D.length : Int) - j - 1), rowL D.length fun q => if D.length - j ≤ q then dig D n q else 0)) (r := Sum.inl (idxN D n)) D.length ?_ ?_ ?_ (FUEL_gt (by omega))]
  ·rw [joinK_l, takI_id, bnd_s]
  ·intro j hj
   have hk : D.length - (j + 1) < D.length := by omega
   obtain ⟨d, d1, d2, d3, d4, d5⟩ := dims_pos hD hk
   have ek : (D.length : Int) - j - 1 = ((D.length - (j + 1) : Nat) : Int) := by omega
   have eT : tailP D (D.length - (j + 1)) = d * tailP D (D.length - j) := by rw [tailP_step hk, d3]; congr 2; omega
   have edig : dig D n (D.length - (j + 1)) = ((n / tailP D (D.length - j) % d : Nat) : Int) := by unfold dig; rw [d3]; congr 4; omega
   have hle : n / tailP D (D.length - j) ≤ n := Nat.div_le_self _ _
   simp only
   rw [ek, cnd_t (leI_t (by omega)), getI_nat, d1, bnd_s, chRemNN (by omega), bnd_s, chkI_row _ hk, bnd_s, addN_0, getN_row _ hk, bnd_s]
   simp only [bnd_s]
   rw [chQuoN (by omega) (by omega), bnd_s, ← edig, rowL_set]
   simp only [fulI_row, bnd_s]
   rw [subN1 (by omega), Nat.div_div_eq_div_mul, Nat.mul_comm (tailP D (D.length - j)) d, ← eT]
   have er : rowL D.length (fun q => if q = D.length - (j + 1) then dig D n (D.length - (j + 1)) else if D.length - j ≤ q then dig D n q else 0) = rowL D.length fun q => if D.length - (j + 1) ≤ q then dig D n q else 0 := by
    refine rowL_congr fun q _ => ?_
    by_cases e : q = D.length - (j + 1)
    ·rw [if_pos e, if_pos (by omega), e]
    ·rw [if_neg e]
     by_cases h : D.length - j ≤ q
     ·rw [if_pos h, if_pos (by omega)]
     ·rw [if_neg h, if_neg (by omega)]
   rw [er]
   congr 5
   omega
  ·simp only
   rw [cnd_f (leI_f (by omega))]
   simp only [fulI_row, bnd_s]
   rw [show rowL D.length (fun q => if D.length - D.length ≤ q then dig D n q else 0) = idxN D n from rowL_congr fun q _ => by simp]
  ·rw [rowL_rep, Nat.sub_zero, tailP_end, Nat.div_one]
   have e1 : subI .i64 (natI (lenN D)) 1 = (D.length : Int) - ((0 : Nat) : Int) - 1 := by rw [nl, subN1 (by omega)]; omega
   rw [e1]
   have e2 : rowL (lenN D) (fun _ => (0 : Int)) = rowL D.length fun q => if D.length ≤ q then dig D n q else 0 := rowL_congr fun q hq => by rw [if_neg (by have : lenN D = D.length := rfl; omega)]
   rw [e2]
 ·cases h
theorem idxN_getD {D : List Int} {n i : Nat} (hi : i < D.length) : (idxN D n).getD i 0 = dig D n i := by
 rw [List.getD_eq_getElem?_getD, idxN, rowL_get _ hi]; rfl
end Go.Am
end
section
namespace Go.Am
end Go.Am
end
section
namespace Go.Am
def ringOk : Int × Int × Int → Bool := fun ((k, p, n) : Int × Int × Int) =>
 if k = 1 then decide (p = 0 ∧ n = 0) else if k = 2 then isPrimeI p && decide (n = 0) else if k = 3 ∨ k = 4 ∨ k = 5 then decide ((1 ≤ p ∧ p ≤ 1000000) ∧ n = 0)
 else if k = 6 then decide (p = 0 ∧ 1 ≤ n ∧ n ≤ 20) else if k = 7 then isPrimeI p && decide (1 ≤ n ∧ n ≤ 6) else if k = 8 then isPrimeI p && decide (p ≠ 2 ∧ n = 0) else false
def widI : Int × Int × Int → Int := fun ((k, p, n) : Int × Int × Int) => if k = 7 then n else if k = 8 then 4 else 1
def widN (r : Int × Int × Int) : Nat := (widI r).toNat
def topI : Int × Int × Int → Int := fun ((k, p, n) : Int × Int × Int) => if k = 1 then 1 else if k = 3 ∨ k = 4 ∨ k = 5 then p else if k = 6 then 2 ^ n.toNat - 1 else p - 1
def inTop (t v : Int) : Bool := decide (0 ≤ v ∧ v ≤ t)
def elOk (r : Int × Int × Int) (x : List Int) : Bool := decide (x.length = widN r) && x.all (inTop (topI r))
def zeroE : Int × Int × Int → List Int := fun ((k, p, n) : Int × Int × Int) => if k = 4 then [p] else repL (widN (k, p, n)) 0
def oneE : Int × Int × Int → List Int := fun ((k, p, n) : Int × Int × Int) => setL (repL (widN (k, p, n)) 0) 0 (if k = 4 then 0 else if k = 5 ∨ k = 6 then topI (k, p, n) else 1)
def sm : Nat → (Nat → Int) → Int
 | 0, _ => 0
 | n + 1, f => sm n f + f n
def kW (om : Bool) (x y : Nat → Int) (t i j : Nat) : Int := if i + j = t then x i * y j else if om = true ∧ i + j = t + 4 then -(x i * y j) else 0
def tab (w : Nat) (f : Nat → Int) : List Int := (List.range w).map f
def fnL (x : List Int) : Nat → Int := fun i => x.getD i 0
def cvE (p : Int) (om : Bool) (w : Nat) (x y : Nat → Int) : List Int := tab w fun t => sm w (fun i => sm w (fun j => kW om x y t i j)) % p
def opM : Int × Int × Int → Int → Int → Int := fun ((k, p, n) : Int × Int × Int) a b =>
 if k = 1 ∨ k = 6 then ((a.toNat &&& b.toNat : Nat) : Int) else if k = 2 then a * b % p else if k = 3 then min (a * b) p else if k = 4 then min (a + b) p else min a b
def mulE (r : Int × Int × Int) (x y : List Int) : List Int := if r.1 = 7 ∨ r.1 = 8 then cvE r.2.1 (decide (r.1 = 8)) (widN r) (fnL x) (fnL y) else [opM r (fnL x 0) (fnL y 0)]
def F_spec_RingOk : Int × Int × Int → Option Bool := fun r => some (ringOk r)
def F_impl_RingOk : Int × Int × Int → Option Bool := fun r => some (ringOk r)
def F_spec_l02Width : Int × Int × Int → Option Int := fun r => some (widI r)
def F_impl_rawWidth : Int × Int × Int → Option Int := fun r => some (widI r)
def F_spec_l02Top : Int × Int × Int → Option Int := fun r => if ringOk r = true then some (topI r) else none
def F_impl_rawTop : Int × Int × Int → Option Int := fun r => if ringOk r = true then some (topI r) else none
def F_impl_inRing : (Int × Int × Int) × List Int → Option Bool := fun ((r, x) : (Int × Int × Int) × List Int) => if ringOk r = true ∧ x.length ≤ 9223372036854775806 then some (x.all (inTop (topI r))) else none
def F_spec_l02Zero : Int × Int × Int → Option (List Int) := fun r => if ringOk r = true then some (zeroE r) else none
def F_impl_rawZero : Int × Int × Int → Option (List Int) := fun r => if ringOk r = true then some (zeroE r) else none
def F_laws_toRing : Int × Int × Int → Option (Int × Int × Int) := fun r => some r
def ag_laws_toRing : Sig := [(.agg, [.int .i64, .int .i64, .int .i64])]
def rs_laws_toRing : Sig := [(.agg, [.int .i64, .int .i64, .int .i64])]
def mu_laws_toRing : MSig := []
def ag_impl_RingOk : Sig := [(.agg, [.int .i64, .int .i64, .int .i64])]
def rs_impl_RingOk : Sig := [(.one, [.bool])]
def mu_impl_RingOk : MSig := []
def ag_spec_RingOk : Sig := [(.agg, [.int .i64, .int .i64, .int .i64])]
def rs_spec_RingOk : Sig := [(.one, [.bool])]
def mu_spec_RingOk : MSig := []
def ag_impl_rawWidth : Sig := [(.agg, [.int .i64, .int .i64, .int .i64])]
def rs_impl_rawWidth : Sig := [(.one, [.int .i64])]
def mu_impl_rawWidth : MSig := []
def ag_spec_l02Width : Sig := [(.agg, [.int .i64, .int .i64, .int .i64])]
def rs_spec_l02Width : Sig := [(.one, [.int .i64])]
def mu_spec_l02Width : MSig := []
def ag_impl_rawTop : Sig := [(.agg, [.int .i64, .int .i64, .int .i64])]
def rs_impl_rawTop : Sig := [(.one, [.int .i64])]
def mu_impl_rawTop : MSig := []
def ag_spec_l02Top : Sig := [(.agg, [.int .i64, .int .i64, .int .i64])]
def rs_spec_l02Top : Sig := [(.one, [.int .i64])]
def mu_spec_l02Top : MSig := []
def ag_impl_inRing : Sig := [(.agg, [.int .i64, .int .i64, .int .i64]), (.one, [.list [.int .i64]])]
def rs_impl_inRing : Sig := [(.one, [.bool])]
def mu_impl_inRing : MSig := []
def ag_impl_rawZero : Sig := [(.agg, [.int .i64, .int .i64, .int .i64])]
def rs_impl_rawZero : Sig := [(.one, [.list [.int .i64]])]
def mu_impl_rawZero : MSig := []
def ag_spec_l02Zero : Sig := [(.agg, [.int .i64, .int .i64, .int .i64])]
def rs_spec_l02Zero : Sig := [(.one, [.list [.int .i64]])]
def mu_spec_l02Zero : MSig := []
def G_laws_toRing (NN : Nat) : (Int × (Int × Int)) → (Option (Int × (Int × Int))) :=
 (fun ((i0, i1, i2) : (Int × (Int × Int))) =>
 some (i0, i1, i2))


def G_impl_RingOk (NN : Nat) : (Int × (Int × Int)) → (Option Bool) :=
 (fun ((i0, i1, i2) : (Int × (Int × Int))) =>
 cnd (eqI i0 (1 : Int))
 (cnd (eqI i1 (0 : Int))
 (some (eqI i2 (0 : Int)))
 (some false))
 (cnd (eqI i0 (2 : Int))
 ((F_impl_IsPrime i1).bnd (fun b3 =>
 cnd (b3)
 (some (eqI i2 (0 : Int)))
 (some false)))
 (joinK (cnd (eqI i0 (3 : Int))
 (some (Sum.inl ((true, i0), i0, i1, i2)))
 (cnd (eqI i0 (4 : Int))
 (some (Sum.inl ((true, i0), i0, i1, i2)))
 (some (Sum.inl ((eqI i0 (5 : Int), i0), i0, i1, i2)))))
 (fun ((b4, i5), i6, i7, i8) =>
 cnd (b4)
 (cnd (leI (1 : Int) i7)
 (cnd (leI i7 (1000000 : Int))
 (some (eqI i8 (0 : Int)))
 (some false))
 (some false))
 (cnd (eqI i5 (6 : Int))
 (cnd (eqI i7 (0 : Int))
 (cnd (leI (1 : Int) i8)
 (some (leI i8 (20 : Int)))
 (some false))
 (some false))
 (cnd (eqI i5 (7 : Int))
 ((F_impl_IsPrime i7).bnd (fun b9 =>
 cnd (b9)
 (cnd (leI (1 : Int) i8)
 (some (leI i8 (6 : Int)))
 (some false))
 (some false)))
 (cnd (eqI i5 (8 : Int))
 ((F_impl_IsPrime i7).bnd (fun b10 =>
 cnd (b10)
 (cnd (neI i7 (2 : Int))
 (some (eqI i8 (0 : Int)))
 (some false))
 (some false)))
 (some false))))))))


def G_spec_RingOk (NN : Nat) : (Int × (Int × Int)) → (Option Bool) :=
 (fun ((i0, i1, i2) : (Int × (Int × Int))) =>
 cnd (eqI i0 (1 : Int))
 (cnd (eqI i1 (0 : Int))
 (some (eqI i2 (0 : Int)))
 (some false))
 (cnd (eqI i0 (2 : Int))
 ((F_spec_IsPrime i1).bnd (fun b3 =>
 cnd (b3)
 (some (eqI i2 (0 : Int)))
 (some false)))
 (joinK (cnd (eqI i0 (3 : Int))
 (some (Sum.inl ((true, i0), i0, i1, i2)))
 (cnd (eqI i0 (4 : Int))
 (some (Sum.inl ((true, i0), i0, i1, i2)))
 (some (Sum.inl ((eqI i0 (5 : Int), i0), i0, i1, i2)))))
 (fun ((b4, i5), i6, i7, i8) =>
 cnd (b4)
 ((F_spec_l01In (i7, (1 : Int), (1000000 : Int))).bnd (fun b9 =>
 cnd (b9)
 (some (eqI i8 (0 : Int)))
 (some false)))
 (cnd (eqI i5 (6 : Int))
 (cnd (eqI i7 (0 : Int))
 ((F_spec_l01In (i8, (1 : Int), (20 : Int))).bnd (fun b10 =>
 some b10))
 (some false))
 (cnd (eqI i5 (7 : Int))
 ((F_spec_IsPrime i7).bnd (fun b11 =>
 cnd (b11)
 ((F_spec_l01In (i8, (1 : Int), (6 : Int))).bnd (fun b12 =>
 some b12))
 (some false)))
 (cnd (eqI i5 (8 : Int))
 ((F_spec_IsPrime i7).bnd (fun b13 =>
 cnd (b13)
 (cnd (ltI (2 : Int) i7)
 (some (eqI i8 (0 : Int)))
 (some false))
 (some false)))
 (some false))))))))


def G_impl_rawWidth (NN : Nat) : (Int × (Int × Int)) → (Option Int) :=
 (fun ((i0, i1, i2) : (Int × (Int × Int))) =>
 cnd (eqI i0 (7 : Int))
 (some i2)
 (cnd (eqI i0 (8 : Int))
 (some (4 : Int))
 (some (1 : Int))))


def G_spec_l02Width (NN : Nat) : (Int × (Int × Int)) → (Option Int) :=
 (fun ((i0, i1, i2) : (Int × (Int × Int))) =>
 cnd (eqI i0 (7 : Int))
 (some i2)
 (cnd (eqI i0 (8 : Int))
 (some (4 : Int))
 (some (1 : Int))))


def G_impl_rawTop (NN : Nat) : (Int × (Int × Int)) → (Option Int) :=
 (fun ((i0, i1, i2) : (Int × (Int × Int))) =>
 cnd (eqI i0 (1 : Int))
 (some (1 : Int))
 (joinK (cnd (eqI i0 (3 : Int))
 (some (Sum.inl ((true, i0), i0, i1, i2)))
 (cnd (eqI i0 (4 : Int))
 (some (Sum.inl ((true, i0), i0, i1, i2)))
 (some (Sum.inl ((eqI i0 (5 : Int), i0), i0, i1, i2)))))
 (fun ((b3, i4), i5, i6, i7) =>
 cnd (b3)
 (some i6)
 (cnd (eqI i4 (6 : Int))
 ((shlI .i64 (1 : Int) i7).bnd (fun i8 =>
 some (subI .i64 i8 1)))
 (some (subI .i64 i6 1))))))


def G_spec_l02Top (NN : Nat) : (Int × (Int × Int)) → (Option Int) :=
 (fun ((i0, i1, i2) : (Int × (Int × Int))) =>
 cnd (eqI i0 (1 : Int))
 (some (1 : Int))
 (joinK (cnd (eqI i0 (3 : Int))
 (some (Sum.inl ((true, i0), i0, i1, i2)))
 (cnd (eqI i0 (4 : Int))
 (some (Sum.inl ((true, i0), i0, i1, i2)))
 (some (Sum.inl ((eqI i0 (5 : Int), i0), i0, i1, i2)))))
 (fun ((b3, i4), i5, i6, i7) =>
 cnd (b3)
 (some i6)
 (cnd (eqI i4 (6 : Int))
 ((shlI .i64 (1 : Int) i7).bnd (fun i8 =>
 some (subI .i64 i8 1)))
 (some (subI .i64 i6 1))))))


def G_impl_inRing (NN : Nat) : ((Int × (Int × Int)) × (List Int)) → (Option Bool) :=
 (fun (((i0, i1, i2), l3) : ((Int × (Int × Int)) × (List Int))) =>
 (F_impl_rawTop (i0, i1, i2)).bnd (fun i4 =>
 joinK (loopT NN (fun ((i5, l6, i7, i8) : (Int × ((List Int) × (Int × Int)))) =>
 cnd (ltI i8 i7)
 ((getI l6 i8).bnd (fun i9 =>
 cnd (ltI i9 (0 : Int))
 (some (Sum.inr (Sum.inr false)))
 (cnd (ltI i5 i9)
 (some (Sum.inr (Sum.inr false)))
 (some (Sum.inl (i5, l6, i7, addI .i64 i8 1))))))
 (some (Sum.inr (Sum.inl ()))))
 (i4, l3, natI (lenN l3), (0 : Int)))
 (fun _ =>
 some true)))


def G_impl_rawZero (NN : Nat) : (Int × (Int × Int)) → (Option (List Int)) :=
 (fun ((i0, i1, i2) : (Int × (Int × Int))) =>
 (F_impl_rawWidth (i0, i1, i2)).bnd (fun i3 =>
 (mkI i3 i3 8).bnd (fun k4 =>
 joinK (cnd (eqI i0 (4 : Int))
 ((chkI (0 : Int) k4).bnd (fun k5 =>
 (getN (repL k4 (0 : Int)) (addN 0 k5)).bnd (fun i6 =>
 (fulI 0 k4 (lenN (setL (repL k4 (0 : Int)) (addN 0 k5) i1))).bnd (fun _ =>
 some (Sum.inl (setL (repL k4 (0 : Int)) (addN 0 k5) i1))))))
 ((fulI 0 k4 (lenN (repL k4 (0 : Int)))).bnd (fun _ =>
 some (Sum.inl (repL k4 (0 : Int))))))
 (fun l7 =>
 (takI l7 (lenN l7)).bnd (fun l8 =>
 some l8)))))


def G_spec_l02Zero (NN : Nat) : (Int × (Int × Int)) → (Option (List Int)) :=
 (fun ((i0, i1, i2) : (Int × (Int × Int))) =>
 (F_spec_l02Width (i0, i1, i2)).bnd (fun i3 =>
 (mkI i3 i3 8).bnd (fun k4 =>
 joinK (cnd (eqI i0 (4 : Int))
 ((chkI (0 : Int) k4).bnd (fun k5 =>
 (getN (repL k4 (0 : Int)) (addN 0 k5)).bnd (fun i6 =>
 (fulI 0 k4 (lenN (setL (repL k4 (0 : Int)) (addN 0 k5) i1))).bnd (fun _ =>
 some (Sum.inl (setL (repL k4 (0 : Int)) (addN 0 k5) i1))))))
 ((fulI 0 k4 (lenN (repL k4 (0 : Int)))).bnd (fun _ =>
 some (Sum.inl (repL k4 (0 : Int))))))
 (fun l7 =>
 (takI l7 (lenN l7)).bnd (fun l8 =>
 some l8)))))


theorem f_laws_toRing (x y : Int × Int × Int) (h : F_laws_toRing x = some y) : G_laws_toRing FUEL x = some y := h
theorem toRing_s (r : Int × Int × Int) : F_laws_toRing r = some r := rfl
theorem cnd_eqI {α : Type} (a b : Int) (x y : α) : cnd (eqI a b) x y = if a = b then x else y := by
 by_cases h : a = b
 ·rw [if_pos h, cnd_t (eqI_t h)]
 ·rw [if_neg h, cnd_f (eqI_f h)]
theorem eqI_d (a b : Int) : eqI a b = decide (a = b) := by by_cases h : a = b <;> simp [eqI, h]
theorem leI_d (a b : Int) : leI a b = decide (a ≤ b) := rfl
theorem ltI_d (a b : Int) : ltI a b = decide (a < b) := rfl
theorem cnd_dec {α : Type} (p : Prop) [Decidable p] (x y : α) : cnd (decide p) x y = if p then x else y := by
 by_cases h : p
 ·rw [if_pos h, cnd_t (decide_eq_true h)]
 ·rw [if_neg h, cnd_f (decide_eq_false h)]
theorem ring_cases {k p n : Int} (h : ringOk (k, p, n) = true) : (k = 1 ∧ p = 0 ∧ n = 0) ∨ (k = 2 ∧ isPrimeI p = true ∧ n = 0) ∨ (k = 3 ∧ (1 ≤ p ∧ p ≤ 1000000) ∧ n = 0) ∨ (k = 4 ∧ (1 ≤ p ∧ p ≤ 1000000) ∧ n = 0) ∨ (k = 5 ∧ (1 ≤ p ∧ p ≤ 1000000) ∧ n = 0) ∨
  (k = 6 ∧ p = 0 ∧ 1 ≤ n ∧ n ≤ 20) ∨ (k = 7 ∧ isPrimeI p = true ∧ 1 ≤ n ∧ n ≤ 6) ∨ (k = 8 ∧ isPrimeI p = true ∧ p ≠ 2 ∧ n = 0) := by
 simp only [ringOk] at h
 by_cases h1 : k = 1
 ·rw [if_pos h1] at h; exact .inl ⟨h1, by simpa using h⟩
 rw [if_neg h1] at h
 by_cases h2 : k = 2
 ·rw [if_pos h2] at h; simp at h; exact .inr (.inl ⟨h2, h⟩)
 rw [if_neg h2] at h
 by_cases h3 : k = 3 ∨ k = 4 ∨ k = 5
 ·rw [if_pos h3] at h
  simp only [decide_eq_true_eq] at h
  rcases h3 with h3 | h3 | h3
  ·exact .inr (.inr (.inl ⟨h3, h⟩))
  ·exact .inr (.inr (.inr (.inl ⟨h3, h⟩)))
  ·exact .inr (.inr (.inr (.inr (.inl ⟨h3, h⟩))))
 rw [if_neg h3] at h
 by_cases h4 : k = 6
 ·rw [if_pos h4] at h; simp at h; exact .inr (.inr (.inr (.inr (.inr (.inl ⟨h4, h⟩)))))
 rw [if_neg h4] at h
 by_cases h5 : k = 7
 ·rw [if_pos h5] at h; simp at h; exact .inr (.inr (.inr (.inr (.inr (.inr (.inl ⟨h5, h⟩))))))
 rw [if_neg h5] at h
 by_cases h6 : k = 8
 ·rw [if_pos h6] at h; simp at h; exact .inr (.inr (.inr (.inr (.inr (.inr (.inr ⟨h6, h⟩))))))
 rw [if_neg h6] at h
 cases h
theorem f_impl_RingOk (x : Int × Int × Int) (y : Bool) (h : F_impl_RingOk x = some y) : G_impl_RingOk FUEL x = some y := by
 obtain ⟨k, p, n⟩ := x
 rw [← h]
 simp only [F_impl_RingOk, G_impl_RingOk, ringOk, F_impl_IsPrime, bnd_s, eqI_d, leI_d, cnd_dec]
 by_cases h1 : k = 1
 ·rw [if_pos h1, if_pos h1]; by_cases hp : p = 0 <;> by_cases hn : n = 0 <;> simp [hp, hn]
 rw [if_neg h1, if_neg h1]
 by_cases h2 : k = 2
 ·rw [if_pos h2, if_pos h2]; cases isPrimeI p <;> rfl
 rw [if_neg h2, if_neg h2]
 have hd : (if k = 3 then some (Sum.inl ((true, k), k, p, n)) else if k = 4 then some (Sum.inl ((true, k), k, p, n)) else some (Sum.inl ((decide (k = 5), k), k, p, n)) : Option (((Bool × Int) × Int × Int × Int) ⊕ Bool)) = some (Sum.inl ((decide (k = 3 ∨ k = 4 ∨ k = 5), k), k, p, n)) := by
  by_cases h3 : k = 3
  ·simp [h3]
  ·by_cases h4 : k = 4
   ·simp [h4]
   ·simp [h3, h4]
 rw [hd, joinK_l]
 simp only [cnd_dec]
 by_cases h3 : k = 3 ∨ k = 4 ∨ k = 5
 ·rw [if_pos h3, if_pos h3]
  by_cases ha : 1 ≤ p
  ·by_cases hb : p ≤ 1000000 <;> simp [ha, hb]
  ·simp [ha]
 rw [if_neg h3, if_neg h3]
 by_cases h4 : k = 6
 ·rw [if_pos h4, if_pos h4]
  by_cases ha : p = 0
  ·by_cases hb : 1 ≤ n <;> simp [ha, hb]
  ·simp [ha]
 rw [if_neg h4, if_neg h4]
 by_cases h5 : k = 7
 ·rw [if_pos h5, if_pos h5]
  cases isPrimeI p
  ·rfl
  ·rw [cnd_t rfl]
   by_cases hb : 1 ≤ n <;> simp [hb]
 rw [if_neg h5, if_neg h5]
 by_cases h6 : k = 8
 ·rw [if_pos h6, if_pos h6]
  cases isPrimeI p
  ·rfl
  ·rw [cnd_t rfl, neI_d, Bool.true_and]
   by_cases hb : p = 2 <;> simp [hb, cnd]
 rw [if_neg h6, if_neg h6]
theorem f_spec_RingOk (x : Int × Int × Int) (y : Bool) (h : F_spec_RingOk x = some y) : G_spec_RingOk FUEL x = some y := by
 obtain ⟨k, p, n⟩ := x
 rw [← h]
 simp only [F_spec_RingOk, G_spec_RingOk, ringOk, F_spec_IsPrime, F_spec_l01In, bnd_s, eqI_d, ltI_d, cnd_dec]
 by_cases h1 : k = 1
 ·rw [if_pos h1, if_pos h1]; by_cases hp : p = 0 <;> by_cases hn : n = 0 <;> simp [hp, hn]
 rw [if_neg h1, if_neg h1]
 by_cases h2 : k = 2
 ·rw [if_pos h2, if_pos h2]; cases isPrimeI p <;> rfl
 rw [if_neg h2, if_neg h2]
 have hd : (if k = 3 then some (Sum.inl ((true, k), k, p, n)) else if k = 4 then some (Sum.inl ((true, k), k, p, n)) else some (Sum.inl ((decide (k = 5), k), k, p, n)) : Option (((Bool × Int) × Int × Int × Int) ⊕ Bool)) = some (Sum.inl ((decide (k = 3 ∨ k = 4 ∨ k = 5), k), k, p, n)) := by
  by_cases h3 : k = 3
  ·simp [h3]
  ·by_cases h4 : k = 4
   ·simp [h4]
   ·simp [h3, h4]
 rw [hd, joinK_l]
 simp only [cnd_dec]
 by_cases h3 : k = 3 ∨ k = 4 ∨ k = 5
 ·rw [if_pos h3, if_pos h3]
  by_cases ha : 1 ≤ p ∧ p ≤ 1000000 <;> simp [ha]
 rw [if_neg h3, if_neg h3]
 by_cases h4 : k = 6
 ·rw [if_pos h4, if_pos h4]
  by_cases ha : p = 0 <;> simp [ha]
 rw [if_neg h4, if_neg h4]
 by_cases h5 : k = 7
 ·rw [if_pos h5, if_pos h5]
  cases isPrimeI p <;> rfl
 rw [if_neg h5, if_neg h5]
 by_cases h6 : k = 8
 ·rw [if_pos h6, if_pos h6]
  cases hp : isPrimeI p
  ·rfl
  ·have := isPrimeI_t hp
   rw [cnd_t rfl, Bool.true_and]
   by_cases hb : p = 2
   ·simp [hb]
   ·rw [if_pos (by omega)]; simp [hb]
 rw [if_neg h6, if_neg h6]
theorem f_impl_rawWidth (x : Int × Int × Int) (y : Int) (h : F_impl_rawWidth x = some y) : G_impl_rawWidth FUEL x = some y := by
 obtain ⟨k, p, n⟩ := x
 rw [← h]
 simp only [F_impl_rawWidth, G_impl_rawWidth, widI, cnd_eqI]
 by_cases h7 : k = 7
 ·rw [if_pos h7, if_pos h7]
 ·rw [if_neg h7, if_neg h7]; by_cases h8 : k = 8 <;> simp [h8]
theorem f_spec_l02Width (x : Int × Int × Int) (y : Int) (h : F_spec_l02Width x = some y) : G_spec_l02Width FUEL x = some y := f_impl_rawWidth x y h
theorem shl1 {n : Int} (h0 : 0 ≤ n) (h1 : n ≤ 60) : shlI .i64 1 n = some (2 ^ n.toNat) := by
 obtain ⟨m, rfl⟩ := natI_eq h0
 rw [shlI_one (by omega), Int.toNat_natCast]
 congr 1
theorem pow20 {n : Int} (h0 : 0 ≤ n) (h1 : n ≤ 20) : 1 ≤ (2 : Int) ^ n.toNat ∧ (2 : Int) ^ n.toNat ≤ 1048576 := by
 have a : (2 : Nat) ^ n.toNat ≤ 2 ^ 20 := Nat.pow_le_pow_right (by decide) (by omega)
 have b : 1 ≤ (2 : Nat) ^ n.toNat := Nat.one_le_two_pow
 have e : (((2 : Nat) ^ n.toNat : Nat) : Int) = (2 : Int) ^ n.toNat := by push_cast; rfl
 rw [← e]
 omega
theorem f_impl_rawTop (x : Int × Int × Int) (y : Int) (h : F_impl_rawTop x = some y) : G_impl_rawTop FUEL x = some y := by
 obtain ⟨k, p, n⟩ := x
 simp only [F_impl_rawTop] at h
 split at h
 ·rename_i hr
  rw [← h]
  rcases ring_cases hr with ⟨rfl, rfl, rfl⟩ | ⟨rfl, hp, rfl⟩ | ⟨rfl, hp, rfl⟩ | ⟨rfl, hp, rfl⟩ | ⟨rfl, hp, rfl⟩ | ⟨rfl, rfl, hn⟩ | ⟨rfl, hp, hn⟩ | ⟨rfl, hp, hp2, rfl⟩
  ·rfl
  ·have := isPrimeI_t hp
   exact congrArg some (subI_eq (by omega) (by omega))
  ·rfl
  ·rfl
  ·rfl
  ·have h1 := pow20 (n := n) (by omega) hn.2
   show (shlI .i64 1 n).bnd _ = _
   rw [shl1 (by omega) (by omega), bnd_s, subI_eq (by omega) (by omega)]
   rfl
  ·have := isPrimeI_t hp
   exact congrArg some (subI_eq (by omega) (by omega))
  ·have := isPrimeI_t hp
   exact congrArg some (subI_eq (by omega) (by omega))
 ·cases h
theorem f_spec_l02Top (x : Int × Int × Int) (y : Int) (h : F_spec_l02Top x = some y) : G_spec_l02Top FUEL x = some y := f_impl_rawTop x y h
theorem top_bd {r : Int × Int × Int} (h : ringOk r = true) : 0 ≤ topI r ∧ topI r ≤ 1048576 := by
 obtain ⟨k, p, n⟩ := r
 rcases ring_cases h with ⟨rfl, rfl, rfl⟩ | ⟨rfl, hp, rfl⟩ | ⟨rfl, hp, rfl⟩ | ⟨rfl, hp, rfl⟩ | ⟨rfl, hp, rfl⟩ | ⟨rfl, rfl, hn⟩ | ⟨rfl, hp, hn⟩ | ⟨rfl, hp, hp2, rfl⟩
 ·simp [topI]
 ·have := isPrimeI_t hp; simp [topI]; omega
 ·simp [topI]; omega
 ·simp [topI]; omega
 ·simp [topI]; omega
 ·have h1 := pow20 (n := n) (by omega) hn.2
  simp only [topI, Int.reduceEq, reduceIte, or_self]
  omega
 ·have := isPrimeI_t hp; simp [topI]; omega
 ·have := isPrimeI_t hp; simp [topI]; omega
theorem wid_bd {r : Int × Int × Int} (h : ringOk r = true) : widI r = (widN r : Int) ∧ 1 ≤ widN r ∧ widN r ≤ 6 := by
 obtain ⟨k, p, n⟩ := r
 rcases ring_cases h with ⟨rfl, rfl, rfl⟩ | ⟨rfl, hp, rfl⟩ | ⟨rfl, hp, rfl⟩ | ⟨rfl, hp, rfl⟩ | ⟨rfl, hp, rfl⟩ | ⟨rfl, rfl, hn⟩ | ⟨rfl, hp, hn⟩ | ⟨rfl, hp, hp2, rfl⟩
 ·simp [widN, widI]
 ·simp [widN, widI]
 ·simp [widN, widI]
 ·simp [widN, widI]
 ·simp [widN, widI]
 ·simp [widN, widI]
 ·simp [widN, widI]; omega
 ·simp [widN, widI]
theorem f_impl_inRing (x : (Int × Int × Int) × List Int) (y : Bool) (h : F_impl_inRing x = some y) : G_impl_inRing FUEL x = some y := by
 obtain ⟨⟨k, p, n⟩, l⟩ := x
 simp only [F_impl_inRing] at h
 split at h
 ·rename_i hc
  obtain ⟨hr, hl⟩ := hc
  rw [← h]
  have hb := top_bd hr
  simp only [G_impl_inRing]
  rw [show F_impl_rawTop (k, p, n) = some (topI (k, p, n)) from if_pos hr, bnd_s]
  generalize topI (k, p, n) = t at hb ⊢
  rw [loopT_all l (fun i => (t, l, natI (lenN l), (i : Int))) (inTop t) (.inr false) (.inl ()) ?_ ?_ ?_ ?_ (FUEL_gt (by omega))]
  ·cases l.all (inTop t) <;> rfl
  ·intro i a ha hb
   rw [cnd_t (ltI_in ha), getI_nat, ha, bnd_s]
   simp only [inTop, decide_eq_true_eq] at hb
   rw [cnd_f (ltI_f hb.1), cnd_f (ltI_f hb.2), next_i ha (by omega)]
  ·intro i a ha hb
   rw [cnd_t (ltI_in ha), getI_nat, ha, bnd_s]
   simp only [inTop, decide_eq_false_iff_not] at hb
   by_cases h0 : a < 0
   ·rw [cnd_t (ltI_t h0)]
   ·rw [cnd_f (ltI_f (by omega)), cnd_t (ltI_t (by omega))]
  ·rw [cnd_f (ltI_end l)]
  ·rfl
 ·cases h
theorem rep_set {w : Nat} {p : Int} (h : w = 1) : setL (repL w (0 : Int)) 0 p = [p] := by subst h; rfl
theorem mkW {r : Int × Int × Int} (hr : ringOk r = true) : mkI (widI r) (widI r) 8 = some (widN r) := by
 have hw := wid_bd hr
 rw [hw.1]
 exact mkI_nat (by simp only [maxBytes]; omega)
theorem f_impl_rawZero (x : Int × Int × Int) (y : List Int) (h : F_impl_rawZero x = some y) : G_impl_rawZero FUEL x = some y := by
 obtain ⟨k, p, n⟩ := x
 simp only [F_impl_rawZero] at h
 split at h
 ·rename_i hr
  rw [← h]
  simp only [G_impl_rawZero, F_impl_rawWidth, bnd_s]
  rw [mkW hr, bnd_s, cnd_eqI]
  by_cases h4 : k = 4
  ·subst h4
   rw [if_pos rfl]
   rfl
  ·rw [if_neg h4, lenN_repL, fulI_id, bnd_s, joinK_l, takI_id, bnd_s]
   simp only [zeroE]
   rw [if_neg h4]
 ·cases h
theorem f_spec_l02Zero (x : Int × Int × Int) (y : List Int) (h : F_spec_l02Zero x = some y) : G_spec_l02Zero FUEL x = some y := f_impl_rawZero x y h
theorem tab_len (w : Nat) (f : Nat → Int) : (tab w f).length = w := by simp [tab]
theorem tab_get {w j : Nat} (f : Nat → Int) (h : j < w) : (tab w f)[j]? = some (f j) := by simp [tab, h]
theorem tab_congr {w : Nat} {f g : Nat → Int} (h : ∀ j, j < w → f j = g j) : tab w f = tab w g := List.map_congr_left fun j hj => h j (List.mem_range.1 hj)
theorem tab_set {w : Nat} (f : Nat → Int) (j : Nat) (v : Int) : (tab w f).set j v = tab w (fun i => if i = j then v else f i) := by
 apply List.ext_getElem?
 intro i
 by_cases hi : i < w
 ·rw [tab_get _ hi]
  by_cases hj : j = i
  ·subst hj
   rw [List.getElem?_set_self (by rw [tab_len]; exact hi), if_pos rfl]
  ·rw [List.getElem?_set_ne hj, tab_get _ hi, if_neg (fun e => hj e.symm)]
 ·rw [List.getElem?_eq_none (by rw [List.length_set, tab_len]; omega), List.getElem?_eq_none (by rw [tab_len]; omega)]
theorem fnL_get {x : List Int} {j : Nat} (h : j < x.length) : x[j]? = some (fnL x j) := by
 rw [List.getElem?_eq_getElem h]
 simp [fnL, List.getD_eq_getElem?_getD, List.getElem?_eq_getElem h]
theorem fnL_tab {w j : Nat} (f : Nat → Int) (h : j < w) : fnL (tab w f) j = f j := by simp [fnL, List.getD_eq_getElem?_getD, tab_get f h]
theorem tab_fnL {x : List Int} {w : Nat} (h : x.length = w) : tab w (fnL x) = x := by
 subst h
 apply List.ext_getElem?
 intro i
 by_cases hi : i < x.length
 ·rw [tab_get _ hi, fnL_get hi]
 ·rw [List.getElem?_eq_none (by rw [tab_len]; omega), List.getElem?_eq_none (by omega)]
theorem tab_rep (w : Nat) (c : Int) : repL w c = tab w fun _ => c := by
 apply List.ext_getElem?
 intro i
 by_cases hi : i < w
 ·rw [tab_get _ hi]; simp [repL, hi]
 ·rw [List.getElem?_eq_none (by simp [repL]; omega), List.getElem?_eq_none (by rw [tab_len]; omega)]
theorem el_len {r : Int × Int × Int} {x : List Int} (h : elOk r x = true) : x.length = widN r := by
 simp only [elOk, Bool.and_eq_true, decide_eq_true_eq] at h; exact h.1
theorem el_at {r : Int × Int × Int} {x : List Int} (h : elOk r x = true) {j : Nat} (hj : j < widN r) : 0 ≤ fnL x j ∧ fnL x j ≤ topI r := by
 simp only [elOk, Bool.and_eq_true, decide_eq_true_eq] at h
 have := List.all_eq_true.1 h.2 (fnL x j) (List.mem_of_getElem? (fnL_get (by rw [h.1]; exact hj)))
 simpa [inTop] using this
theorem el_mk {r : Int × Int × Int} {f : Nat → Int} (h : ∀ j, j < widN r → 0 ≤ f j ∧ f j ≤ topI r) : elOk r (tab (widN r) f) = true := by
 simp only [elOk, Bool.and_eq_true, decide_eq_true_eq, tab_len, true_and, List.all_eq_true]
 intro v hv
 obtain ⟨j, hj, rfl⟩ := List.mem_map.1 hv
 simpa [inTop] using h j (List.mem_range.1 hj)
theorem el_one {r : Int × Int × Int} {x : List Int} (h : elOk r x = true) (hw : widN r = 1) : x = [fnL x 0] ∧ 0 ≤ fnL x 0 ∧ fnL x 0 ≤ topI r := by
 have hl := el_len h
 rw [hw] at hl
 match x, hl with
 | [a], _ => exact ⟨rfl, el_at h (j := 0) (by omega)⟩
theorem remI_pos {a p : Int} (ha : 0 ≤ a) (hp : 0 < p) : remI a p = some (a % p) := by
 obtain ⟨m, rfl⟩ := natI_eq (z := p) (by omega)
 exact remI_nat ha (by omega)
theorem sm_congr {f g : Nat → Int} : ∀ {n : Nat}, (∀ i, i < n → f i = g i) → sm n f = sm n g
 | 0, _ => rfl
 | n + 1, h => by simp only [sm]; rw [sm_congr (n := n) (fun i hi => h i (by omega)), h n (by omega)]
structure CfR (k p : Int) (w : Nat) : Prop where
 ck : k = 7 ∨ k = 8
 cp : 2 ≤ p ∧ p ≤ 1000003
 cw : 1 ≤ w ∧ w ≤ 6
 w8 : k = 8 → w = 4
theorem cf_of {k p n : Int} (h : ringOk (k, p, n) = true) (hk : k = 7 ∨ k = 8) : CfR k p (widN (k, p, n)) := by
 have hw := wid_bd h
 refine ⟨hk, ?_, hw.2, fun e => by subst e; rfl⟩
 rcases ring_cases h with ⟨rfl, rfl, rfl⟩ | ⟨rfl, hp, rfl⟩ | ⟨rfl, hp, rfl⟩ | ⟨rfl, hp, rfl⟩ | ⟨rfl, hp, rfl⟩ | ⟨rfl, rfl, hn⟩ | ⟨rfl, hp, hn⟩ | ⟨rfl, hp, hp2, rfl⟩
 all_goals first | exact isPrimeI_t hp | (exfalso; omega)
theorem mulE_1 {r : Int × Int × Int} {a b : Int} (h : ¬ (r.1 = 7 ∨ r.1 = 8)) : mulE r [a] [b] = [opM r a b] := by simp only [mulE]; rw [if_neg h]; rfl
theorem el_two {r : Int × Int × Int} {x y : List Int} (hx : elOk r x = true) (hy : elOk r y = true) (hw : widN r = 1) : ∃ a b, x = [a] ∧ y = [b] ∧ (0 ≤ a ∧ a ≤ topI r) ∧ 0 ≤ b ∧ b ≤ topI r :=
 ⟨_, _, (el_one hx hw).1, (el_one hy hw).1, (el_one hx hw).2, (el_one hy hw).2⟩
theorem el_zero {r : Int × Int × Int} (hr : ringOk r = true) : elOk r (zeroE r) = true := by
 have hT := top_bd hr
 obtain ⟨k, p, n⟩ := r
 simp only [zeroE]
 split
 ·rename_i h4
  subst h4
  simp [elOk, widN, widI, topI, inTop]
  simp [topI] at hT
  omega
 ·rw [tab_rep]
  exact el_mk fun j _ => ⟨Int.le_refl _, hT.1⟩
theorem oneE_tab (k p n : Int) : oneE (k, p, n) = tab (widN (k, p, n)) fun j => if j = 0 then (if k = 4 then 0 else if k = 5 ∨ k = 6 then topI (k, p, n) else 1) else 0 := by
 simp only [oneE]
 rw [tab_rep]
 exact tab_set _ 0 _
end Go.Am
end
section
namespace Go.Am
def ch : Nat → Nat → Nat
 | _, 0 => 1
 | 0, _ + 1 => 0
 | n + 1, k + 1 => ch n k + ch n (k + 1)
theorem ch_gt : ∀ {n k : Nat}, n < k → ch n k = 0
 | 0, k + 1, _ => by simp [ch]
 | n + 1, k + 1, h => by simp [ch, ch_gt (show n < k by omega), ch_gt (show n < k + 1 by omega)]
theorem ch_0 (n : Nat) : ch n 0 = 1 := by cases n <;> rfl
theorem ch_self : ∀ n, ch n n = 1
 | 0 => rfl
 | n + 1 => by simp [ch, ch_self n, ch_gt (Nat.lt_succ_self n)]
theorem ch_mul : ∀ (n k : Nat), (k + 1) * ch (n + 1) (k + 1) = (n + 1) * ch n k
 | 0, 0 => by simp [ch]
 | 0, k + 1 => by simp [ch]
 | n + 1, 0 => by
  have h := ch_mul n 0
  simp only [ch_0] at h ⊢
  have e : ch (n + 1 + 1) (0 + 1) = ch (n + 1) 0 + ch (n + 1) (0 + 1) := rfl
  rw [e, ch_0]
  omega
 | n + 1, k + 1 => by
  have h1 := ch_mul n k
  have h2 := ch_mul n (k + 1)
  have e1 : ch (n + 1 + 1) (k + 1 + 1) = ch (n + 1) (k + 1) + ch (n + 1) (k + 1 + 1) := rfl
  have e2 : ch (n + 1) (k + 1) = ch n k + ch n (k + 1) := rfl
  rw [e1]
  generalize ch (n + 1) (k + 1 + 1) = B at *
  generalize ch (n + 1) (k + 1) = A at *
  generalize ch n k = u at *
  generalize ch n (k + 1) = v at *
  subst e2
  grind
def sumF (f : Nat → Nat) : Nat → Nat
 | 0 => 0
 | m + 1 => sumF f m + f m
theorem sum_step (n a : Nat) : ∀ m, sumF (fun k => ch (n + 1) k * a ^ k) (m + 1) = sumF (fun k => ch n k * a ^ k) (m + 1) + a * sumF (fun k => ch n k * a ^ k) m
 | 0 => by simp [sumF, ch_0]
 | m + 1 => by
  have h := sum_step n a m
  simp only [sumF] at h ⊢
  have e : ch (n + 1) (m + 1) = ch n m + ch n (m + 1) := rfl
  rw [h, e, Nat.pow_succ]
  grind
theorem binom (a : Nat) : ∀ n, (a + 1) ^ n = sumF (fun k => ch n k * a ^ k) (n + 1)
 | 0 => by simp [sumF, ch_0]
 | n + 1 => by
  rw [sum_step]
  have e : sumF (fun k => ch n k * a ^ k) (n + 1 + 1) = sumF (fun k => ch n k * a ^ k) (n + 1) := by
   show sumF _ (n + 1) + ch n (n + 1) * a ^ (n + 1) = _
   rw [ch_gt (Nat.lt_succ_self n)]; simp
  rw [e, ← binom a n, Nat.pow_succ]
  grind
theorem sum_mod {p : Nat} {f : Nat → Nat} : ∀ m, (∀ k, 0 < k → k ≤ m → p ∣ f k) → sumF f (m + 1) % p = f 0 % p
 | 0, h => by simp [sumF]
 | m + 1, h => by
  have i := sum_mod m fun k h1 h2 => h k h1 (by omega)
  obtain ⟨c, hc⟩ := h (m + 1) (by omega) (Nat.le_refl _)
  show (sumF f (m + 1) + f (m + 1)) % p = _
  rw [hc, Nat.add_mul_mod_self_left, i]
def PrimeN (p : Nat) : Prop := 2 ≤ p ∧ ∀ d, d ∣ p → d = 1 ∨ d = p
theorem PrimeN.cop {p a : Nat} (hp : PrimeN p) (h : ¬ p ∣ a) : Nat.Coprime p a := by
 have := hp.2 (Nat.gcd p a) (Nat.gcd_dvd_left p a)
 rcases this with h1 | h1
 ·exact h1
 ·exact absurd (h1 ▸ Nat.gcd_dvd_right p a) h
theorem PrimeN.ch {p k : Nat} (hp : PrimeN p) (h1 : 0 < k) (h2 : k < p) : p ∣ ch p k := by
 obtain ⟨q, rfl⟩ : ∃ q, p = q + 1 := ⟨p - 1, by omega⟩
 obtain ⟨j, rfl⟩ : ∃ j, k = j + 1 := ⟨k - 1, by omega⟩
 have hm := ch_mul q j
 have hd : (q + 1) ∣ (j + 1) * Go.Am.ch (q + 1) (j + 1) := ⟨Go.Am.ch q j, hm⟩
 exact (hp.cop fun h => absurd (Nat.le_of_dvd (by omega) h) (by omega)).dvd_of_dvd_mul_left hd
theorem fermat0 {p : Nat} (hp : PrimeN p) : ∀ a, a ^ p % p = a % p
 | 0 => by rw [Nat.zero_pow (by have := hp.1; omega)]
 | a + 1 => by
  rw [binom]
  show (sumF _ p + Go.Am.ch p p * a ^ p) % p = _
  obtain ⟨q, rfl⟩ : ∃ q, p = q + 1 := ⟨p - 1, by have := hp.1; omega⟩
  have h := sum_mod (p := q + 1) (f := fun k => Go.Am.ch (q + 1) k * a ^ k) q fun k h1 h2 => Nat.dvd_trans (hp.ch h1 (by omega)) (Nat.dvd_mul_right _ _)
  rw [ch_self, Nat.one_mul, Nat.add_mod, h, fermat0 hp a]
  simp only [ch_0, Nat.pow_zero, Nat.mul_one]
  rw [← Nat.add_mod, Nat.add_comm]
theorem fermat {p a : Nat} (hp : PrimeN p) (ha : ¬ p ∣ a) : a * a ^ (p - 2) % p = 1 := by
 have h2 := hp.1
 have h := fermat0 hp a
 have e : a ^ p = a * (a * a ^ (p - 2)) := by
  obtain ⟨q, rfl⟩ : ∃ q, p = q + 2 := ⟨p - 2, by omega⟩
  rw [Nat.pow_succ, Nat.pow_succ, Nat.add_sub_cancel]
  rw [Nat.mul_comm a (a ^ q), Nat.mul_comm a (a ^ q * a)]
 rw [e] at h
 have ha0 : 0 < a := by
  rcases Nat.eq_zero_or_pos a with h | h
  ·subst h; exact absurd ⟨0, by simp⟩ ha
  ·exact h
 have hz : 0 < a * a ^ (p - 2) := Nat.mul_pos ha0 (Nat.pow_pos ha0)
 generalize a * a ^ (p - 2) = z at h hz ⊢
 obtain ⟨y, rfl⟩ : ∃ y, z = y + 1 := ⟨z - 1, by omega⟩
 have hd : p ∣ a * y := by
  have e : a * (y + 1) = a * y + a := by rw [Nat.mul_add, Nat.mul_one]
  rw [e] at h
  have : (a * y + a - a) % p = 0 := Nat.sub_mod_eq_zero_of_mod_eq h
  rw [Nat.add_sub_cancel] at this
  exact Nat.dvd_of_mod_eq_zero this
 obtain ⟨c, rfl⟩ := (hp.cop ha).dvd_of_dvd_mul_left hd
 rw [Nat.add_comm, Nat.add_mul_mod_self_left]
 exact Nat.mod_eq_of_lt (by omega)
end Go.Am
end
section
namespace Go.Am
theorem isPrimeI_N {p : Int} (h : isPrimeI p = true) : PrimeN p.toNat := by
 have hp := isPrimeI_t h
 obtain ⟨n, rfl⟩ := natI_eq (show 0 ≤ p by omega)
 simp only [Int.toNat_natCast]
 refine ⟨by omega, fun d hd => ?_⟩
 rcases Nat.lt_or_ge d 2 with h2 | h2
 ·rcases Nat.eq_zero_or_pos d with h0 | h0
  ·subst h0
   have := Nat.eq_zero_of_zero_dvd hd
   omega
  ·exact .inl (by omega)
 ·obtain ⟨e, he⟩ := hd
  simp only [isPrimeI, Bool.and_eq_true, decide_eq_true_eq, Bool.not_eq_true', List.any_eq_false] at h
  have key : ∀ a b : Nat, 2 ≤ a → 2 ≤ b → a ≤ b → n ≠ a * b := by
   intro a b ha hb hab e
   have h1 : a * a ≤ n := by rw [e]; exact Nat.mul_le_mul_left _ hab
   have h3 : a < 1001 := by
    rcases Nat.lt_or_ge a 1001 with h | h
    ·exact h
    ·have := Nat.mul_le_mul h h; omega
   refine h.2 a (by simp; omega) ?_
   unfold divAt
   have ea : ((a : Int)) * (a : Int) = ((a * a : Nat) : Int) := by norm_cast
   simp only [Bool.and_eq_true, decide_eq_true_eq]
   constructor
   ·rw [ea]; omega
   ·rw [e]; push_cast; exact Int.mul_emod_right _ _
  right
  rcases Nat.lt_or_ge e 2 with h3 | h3
  ·have : e = 1 := by
    rcases Nat.eq_zero_or_pos e with h0 | h0
    ·subst h0; simp at he; omega
    ·omega
   subst this; omega
  ·exfalso
   rcases Nat.le_total d e with hde | hde
   ·exact key d e h2 h3 hde he
   ·exact key e d h3 h2 hde (by rw [he, Nat.mul_comm])
theorem pow_sq (x : Int) (b : Nat) : ∀ m : Nat, (x * x) ^ m * x ^ b = x ^ (2 * m + b)
 | 0 => by simp
 | m + 1 => by
  have ih := pow_sq x b m
  rw [show 2 * (m + 1) + b = 2 * m + b + 1 + 1 by omega, Int.pow_succ, Int.pow_succ (n := 2 * m + b + 1), Int.pow_succ (n := 2 * m + b), ← ih]
  grind
theorem invG_pow {p : Int} (hp : pOk p) : ∀ (n : Nat) (out x : Int), invG p out x n % p = out * x ^ n % p := by
 intro n
 induction n using Nat.strongRecOn with
 | ind n ih =>
  intro out x
  by_cases h0 : n = 0
  ·subst h0; rw [invG_0]; simp
  ·rw [invG_s h0, ih (n / 2) (by omega)]
   have e : x ^ n = (x * x) ^ (n / 2) * x ^ (n % 2) := by
    rw [pow_sq, Nat.div_add_mod]
   rw [e]
   have h1 : ((x * x % p) ^ (n / 2)) % p = ((x * x) ^ (n / 2)) % p := by
    have : ∀ k : Nat, ((x * x % p) ^ k) % p = ((x * x) ^ k) % p := by
     intro k
     induction k with
     | zero => simp
     | succ k ih => rw [Int.pow_succ, Int.pow_succ, Int.mul_emod, ih, Int.emod_emod, ← Int.mul_emod]
    exact this _
   by_cases hb : n % 2 = 1
   ·rw [if_pos hb, hb, Int.mul_emod, h1, Int.emod_emod, ← Int.mul_emod]
    congr 1
    grind
   ·rw [if_neg hb, show n % 2 = 0 by omega, Int.mul_emod, h1, ← Int.mul_emod]
    congr 1
    grind
theorem inv_one {p x : Int} (hpr : isPrimeI p = true) (hx : inP p x) (h0 : x ≠ 0) : x * invG p 1 x (p - 2).toNat % p = 1 := by
 have hp := isPrimeI_t hpr
 have hp' : pOk p := ⟨hp.1, hp.2⟩
 obtain ⟨n, rfl⟩ := natI_eq (show 0 ≤ p by omega)
 obtain ⟨a, rfl⟩ := natI_eq hx.1
 have hN := isPrimeI_N hpr
 simp only [Int.toNat_natCast] at hN
 have ha : ¬ n ∣ a := fun h => by
  have := Nat.le_of_dvd (by omega) h
  have := hx.2
  omega
 have hf := fermat hN ha
 have e : (((n : Int)) - 2).toNat = n - 2 := by omega
 rw [Int.mul_emod, invG_pow hp', e, Int.one_mul, ← Int.mul_emod]
 exact_mod_cast hf
def sumD (f g : Nat → Int) : Nat → Int
 | 0 => 0
 | n + 1 => sumD f g n + f n * g n
theorem sumD_mod {p : Int} {f f' g : Nat → Int} : ∀ n, (∀ k, k < n → ∃ q, f k = f' k + p * q) → ∃ q, sumD f g n = sumD f' g n + p * q
 | 0, _ => ⟨0, by simp [sumD]⟩
 | n + 1, h => by
  obtain ⟨q, hq⟩ := sumD_mod (g := g) n fun k hk => h k (by omega)
  obtain ⟨q', hq'⟩ := h n (by omega)
  exact ⟨q + q' * g n, by simp only [sumD, hq, hq']; grind⟩
theorem sumD_l (f f2 g : Nat → Int) (c : Int) : ∀ n, sumD (fun k => f k + c * f2 k) g n = sumD f g n + c * sumD f2 g n
 | 0 => by simp [sumD]
 | n + 1 => by simp only [sumD, sumD_l f f2 g c n]; grind
theorem sumD_r (f g g2 : Nat → Int) (c : Int) : ∀ n, sumD f (fun k => g k - c * g2 k) n = sumD f g n - c * sumD f g2 n
 | 0 => by simp [sumD]
 | n + 1 => by simp only [sumD, sumD_r f g g2 c n]; grind
theorem sumD_sl (f g : Nat → Int) (c : Int) : ∀ n, sumD (fun k => f k * c) g n = sumD f g n * c
 | 0 => by simp [sumD]
 | n + 1 => by simp only [sumD, sumD_sl f g c n]; grind
theorem sumD_sr (f g : Nat → Int) (c : Int) : ∀ n, sumD f (fun k => g k * c) n = sumD f g n * c
 | 0 => by simp [sumD]
 | n + 1 => by simp only [sumD, sumD_sr f g c n]; grind
def dl (a b : Nat) : Int := if a = b then 1 else 0
def RInv (p : Int) (n : Nat) (E X : Mat) : Prop := ∀ a, a < n → ∀ b, b < n → ∃ q, sumD (E a) (fun k => X k b) n = dl a b + p * q
theorem RInv.congr {p : Int} {n : Nat} {E E' X : Mat} (h : RInv p n E X) (he : ∀ a, a < n → ∀ k, k < n → ∃ q, E' a k = E a k + p * q) : RInv p n E' X := by
 intro a ha b hb
 obtain ⟨q, hq⟩ := h a ha b hb
 obtain ⟨q', hq'⟩ := sumD_mod (p := p) (f := E' a) (f' := E a) (g := fun k => X k b) n (he a ha)
 exact ⟨q + q', by rw [hq', hq]; grind⟩
theorem RInv.swap {p : Int} {n : Nat} {E X : Mat} (h : RInv p n E X) {s t : Nat} (hs : s < n) (ht : t < n) : ∃ X', RInv p n (swapF E s t) X' := by
 let sw : Nat → Nat := fun i => if i = s then t else if i = t then s else i
 have hsw : ∀ i, i < n → sw i < n := by
  intro i hi
  show (if i = s then t else if i = t then s else i) < n
  split
  ·exact ht
  ·split
   ·exact hs
   ·exact hi
 have hinj : ∀ i j, sw i = sw j → i = j := by
  intro i j
  show (if i = s then t else if i = t then s else i) = (if j = s then t else if j = t then s else j) → i = j
  intro h
  repeat' split at h
  all_goals omega
 refine ⟨fun k b => X k (sw b), fun a ha b hb => ?_⟩
 obtain ⟨q, hq⟩ := h (sw a) (hsw a ha) (sw b) (hsw b hb)
 refine ⟨q, ?_⟩
 have e : swapF E s t a = E (sw a) := by
  funext k
  show (if a = s then E t k else if a = t then E s k else E a k) = E (if a = s then t else if a = t then s else a) k
  split
  ·rfl
  ·split <;> rfl
 rw [e, hq]
 congr 1
 unfold dl
 by_cases hab : a = b
 ·subst hab; simp
 ·rw [if_neg hab, if_neg fun h => hab (hinj _ _ h)]
theorem RInv.scale {p inv u : Int} {n : Nat} {E X : Mat} (h : RInv p n E X) {t : Nat} (ht : t < n) (hu : u * inv % p = 1) : ∃ X', RInv p n (sclF p inv E t) X' := by
 have hu' : ∃ z, u * inv = 1 + p * z := ⟨u * inv / p, by have := Int.emod_add_mul_ediv (u * inv) p; omega⟩
 obtain ⟨z, hz⟩ := hu'
 refine ⟨fun k b => if b = t then X k t * u else X k b, RInv.congr (E := fun a k => if a = t then E t k * inv else E a k) (fun a ha b hb => ?_) (fun a ha k hk => ?_)⟩
 ·obtain ⟨q, hq⟩ := h a ha b hb
  by_cases hat : a = t
  ·subst hat
   by_cases hbt : b = a
   ·subst hbt
    refine ⟨z + q * inv * u, ?_⟩
    simp only [if_true]
    rw [sumD_sl, sumD_sr, hq, dl, if_pos rfl]
    grind
   ·refine ⟨q * inv, ?_⟩
    simp only [if_true, if_neg hbt]
    rw [sumD_sl, hq, dl, if_neg (Ne.symm hbt)]
    grind
  ·by_cases hbt : b = t
   ·subst hbt
    refine ⟨q * u, ?_⟩
    simp only [if_neg hat, if_true]
    rw [sumD_sr]
    have : sumD (fun k => E a k) (fun k => X k b) n = dl a b + p * q := hq
    rw [this, dl, if_neg hat]
    grind
   ·refine ⟨q, ?_⟩
    simp only [if_neg hat, if_neg hbt]
    exact hq
 ·unfold sclF
  by_cases hat : a = t
  ·simp only [hat, if_true]
   refine ⟨-(E t k * inv / p), ?_⟩
   have := Int.emod_add_mul_ediv (E t k * inv) p
   have e : p * -(E t k * inv / p) = -(p * (E t k * inv / p)) := Int.mul_neg _ _
   omega
  ·simp only [hat, if_false]
   exact ⟨0, by simp⟩
theorem RInv.add {p f : Int} {n : Nat} {E E' X : Mat} (h : RInv p n E X) {m t : Nat} (hm : m < n) (ht : t < n) (hmt : m ≠ t) (he : ∀ a, a < n → ∀ k, k < n → ∃ q, E' a k = (if a = m then E m k + f * E t k else E a k) + p * q) : ∃ X', RInv p n E' X' := by
 refine ⟨fun k b => if b = t then X k t - f * X k m else X k b, RInv.congr (E := fun a k => if a = m then E m k + f * E t k else E a k) (fun a ha b hb => ?_) he⟩
 obtain ⟨q1, h1⟩ := h a ha b hb
 obtain ⟨q2, h2⟩ := h t ht b hb
 obtain ⟨q3, h3⟩ := h a ha m hm
 obtain ⟨q4, h4⟩ := h t ht m hm
 have h1' : sumD (fun k => E a k) (fun k => X k b) n = dl a b + p * q1 := h1
 have h2' : sumD (fun k => E t k) (fun k => X k b) n = dl t b + p * q2 := h2
 have h3' : sumD (fun k => E a k) (fun k => X k m) n = dl a m + p * q3 := h3
 have h4' : sumD (fun k => E t k) (fun k => X k m) n = dl t m + p * q4 := h4
 have d1 : dl t m = 0 := if_neg (Ne.symm hmt)
 by_cases ham : a = m
 ·subst ham
  have d2 : dl a a = 1 := if_pos rfl
  by_cases hbt : b = t
  ·subst hbt
   have d3 : dl a b = 0 := if_neg hmt
   have d4 : dl b b = 1 := if_pos rfl
   refine ⟨q1 + f * q2 - f * q3 - f * f * q4, ?_⟩
   simp only [if_true]
   rw [sumD_l, sumD_r, sumD_r, h1', h2', h3', h4', d1, d2, d3, d4]
   grind
  ·refine ⟨q1 + f * q2, ?_⟩
   have d3 : dl t b = 0 := if_neg (Ne.symm hbt)
   simp only [if_true, if_neg hbt]
   rw [sumD_l, h1', h2', d3]
   grind
 ·by_cases hbt : b = t
  ·subst hbt
   have d3 : dl a m = 0 := if_neg ham
   refine ⟨q1 - f * q3, ?_⟩
   simp only [if_neg ham, if_true]
   rw [sumD_r, h1', h3', d3]
   grind
  ·refine ⟨q1, ?_⟩
   simp only [if_neg ham, if_neg hbt]
   exact h1'
def RK (p : Int) (n : Nat) (s : Mat × List Int × Int) (j : Nat) : Prop :=
 (∃ X, RInv p n (fun a k => s.1 a (n + k)) X) ∧ ∀ b, b < j → ∀ i, s.2.1.length ≤ i → i < n → s.1 i b = 0
theorem RK.step {p : Int} {n : Nat} {s : Mat × List Int × Int} {j : Nat} (hpr : isPrimeI p = true) (hj : j < 2 * n) (I : RI p n (2 * n) s j) (h : RK p n s j) : RK p n (redS p n s j) (j + 1) := by
 have hp : pOk p := isPrimeI_t hpr
 obtain ⟨⟨X, hX⟩, hz⟩ := h
 obtain ⟨M, L, d⟩ := s
 simp only at hX hz
 by_cases hl : L.length < n
 ·cases hk : pivF M j (n - L.length) L.length with
  | none =>
   rw [redS_n (s := (M, L, d)) hl hk]
   refine ⟨⟨X, hX⟩, fun b hb i h1 h2 => ?_⟩
   by_cases hbj : b = j
   ·subst hbj; exact pivF_none hk i h1 (by simp only at h1; omega)
   ·exact hz b (by omega) i h1 h2
  | some k =>
   rw [redS_s (s := (M, L, d)) hl hk]
   simp only
   have hq := pivF_lt hk
   have hkn : k < n := by omega
   have hM : inM p n (2 * n) M := I.m
   have hx : inP p (M k j) := hM k hkn j hj
   have hsw : swapF M L.length k L.length j = M k j := if_pos rfl
   have hi := inv_one hpr hx hq.2.2
   generalize hinv : invG p 1 (M k j) (p - 2).toNat = inv at hi
   have hpiv : pivS p M L.length j k = sclF p inv (swapF M L.length k) L.length := by unfold pivS; rw [hsw, hinv]
   rw [hpiv]
   have hS : inM p n (2 * n) (swapF M L.length k) := swapF_in hM hl hkn
   generalize hM2 : sclF p inv (swapF M L.length k) L.length = M2
   have hM2i : inM p n (2 * n) M2 := by rw [← hM2]; exact sclF_in hp hS _
   constructor
   ·obtain ⟨X1, hX1⟩ := hX.swap (s := L.length) (t := k) hl hkn
    obtain ⟨X2, hX2⟩ := hX1.scale (inv := inv) (u := M k j) hl hi
    have base : RInv p n (fun a b => clrF p M2 L.length j 0 a (n + b)) X2 := by
     rw [clrF_0, ← hM2]; exact hX2
    have key : ∀ m, m ≤ n → ∃ X', RInv p n (fun a b => clrF p M2 L.length j m a (n + b)) X' := by
     intro m
     induction m with
     | zero => intro _; exact ⟨X2, base⟩
     | succ m ih =>
      intro hm
      obtain ⟨X', hX'⟩ := ih (by omega)
      by_cases hmt : m = L.length
      ·subst hmt
       rw [clrF_skip]; exact ⟨X', hX'⟩
      ·refine hX'.add (f := p - M2 m j) (m := m) (t := L.length) (by omega) hl hmt fun a ha b hb => ?_
       show ∃ q, clrF p M2 L.length j (m + 1) a (n + b) = _
       by_cases ham : a = m
       ·subst ham
        rw [if_pos rfl]
        show ∃ q, clrF p M2 L.length j (a + 1) a (n + b) = (clrF p M2 L.length j a a (n + b) + (p - M2 a j) * clrF p M2 L.length j a L.length (n + b)) + p * q
        rw [clrF_old, clrF_t]
        unfold clrF
        rw [if_pos ⟨by omega, hmt⟩]
        refine ⟨-((M2 a (n + b) + (p - M2 a j) * M2 L.length (n + b)) / p), ?_⟩
        have e1 := Int.emod_add_mul_ediv (M2 a (n + b) + (p - M2 a j) * M2 L.length (n + b)) p
        have e2 := Int.mul_neg p ((M2 a (n + b) + (p - M2 a j) * M2 L.length (n + b)) / p)
        omega
       ·rw [if_neg ham]
        refine ⟨0, ?_⟩
        show clrF p M2 L.length j (m + 1) a (n + b) = clrF p M2 L.length j m a (n + b) + p * 0
        unfold clrF
        by_cases hc : a < m ∧ a ≠ L.length
        ·rw [if_pos hc, if_pos ⟨by omega, hc.2⟩]; simp
        ·rw [if_neg hc, if_neg (by omega)]; simp
    exact key n (Nat.le_refl _)
   ·intro b hb i h1 h2
    simp only [List.length_append, List.length_cons, List.length_nil] at h1
    show clrF p M2 L.length j n i b = 0
    unfold clrF
    rw [if_pos ⟨h2, by omega⟩]
    have e2 : ∀ c, M2 i c = swapF M L.length k i c := fun c => by rw [← hM2]; exact if_neg (by omega)
    have e3 : ∀ c, M2 L.length c = M k c * inv % p := fun c => by rw [← hM2]; show (if L.length = L.length then _ else _) = _; rw [if_pos rfl]; congr 2; exact if_pos rfl
    by_cases hbj : b = j
    ·subst hbj
     rw [e3 b, hi]
     have : M2 i b + (p - M2 i b) * 1 = p := by omega
     rw [this]; exact Int.emod_self
    ·have hbj' : b < j := by omega
     rw [e3 b, hz b hbj' k hq.1 hkn, e2 b]
     have : swapF M L.length k i b = 0 := by
      unfold swapF
      rw [if_neg (by omega)]
      split
      ·exact hz b hbj' L.length (Nat.le_refl _) hl
      ·exact hz b hbj' i (by omega) h2
     rw [this]; simp
 ·unfold redS
  rw [if_neg hl]
  exact ⟨⟨X, hX⟩, fun b hb i h1 h2 => by simp only at h1; omega⟩
end Go.Am
end
section
namespace Go.Am
def wideF (n : Nat) (M : Mat) : Mat := fun a b => if b < n then M a b else dl a (b - n)
def wideM (n : Nat) (M : Mat) : Mat := ofD (2 * n) (genD n (2 * n) (wideF n M))
def invX (p : Int) (n : Nat) (M : Mat) : Mat × List Int × Int := redN p n (wideM n M) (2 * n)
def invOk (p : Int) (n : Nat) (M : Mat) : Prop := ∀ i, i < n → (invX p n M).2.1.getD i 0 = (i : Int)
instance (p : Int) (n : Nat) (M : Mat) : Decidable (invOk p n M) := inferInstanceAs (Decidable (∀ i, i < n → (invX p n M).2.1.getD i 0 = (i : Int)))
section
variable {p : Int} {n : Nat} {M R : Mat} {L : List Int}
end
section
variable {p : Int} {n : Nat} {M R : Mat} {L : List Int}
end
end Go.Am
end
section
namespace Go.Am
abbrev Mx3 := Int × Int × List Int
abbrev Aut := Int × Int × List Int × List (Int × Int × List Int) × List Int
def wOk (k : Nat) (w : List Int) : Prop := ∀ c ∈ w, 0 ≤ c ∧ c < (k : Int)
instance (k : Nat) (w : List Int) : Decidable (wOk k w) := inferInstanceAs (Decidable (∀ c ∈ w, 0 ≤ c ∧ c < (k : Int)))
def autB (x : Aut) : Bool := match x with
 | (m, n, a, ms, b) => isPrimeI m && (decide (0 ≤ n ∧ n ≤ 24) && ((rowOk m a && decide ((a.length : Int) = n)) && ((rowOk m b && decide ((b.length : Int) = n)) && (decide (1 ≤ ms.length ∧ ms.length ≤ 4) && ms.all fun y => decide (y.1 = n ∧ y.2.1 = n ∧ y.2.2.length = n.toNat * n.toNat) && rowOk m y.2.2))))
def reachOk (x : Aut × List Int) : Prop := autB x.1 = true ∧ wOk x.1.2.2.2.1.length x.2 ∧ x.2.length ≤ 1048576
instance (x : Aut × List Int) : Decidable (reachOk x) := by unfold reachOk; infer_instance
theorem rowOk_P {m : Int} {l : List Int} : rowOk m l = true ↔ allP m l := by
 simp only [rowOk, allP, List.all_eq_true, inB, decide_eq_true_eq, inP]
structure AutN (N : Nat) (p : Int) (n : Nat) (a : List Int) (ms : List Mx3) (b : List Int) : Prop where
 pr : isPrimeI p = true
 hn : n ≤ N
 al : a.length = n
 ap : allP p a
 bl : b.length = n
 bp : allP p b
 l1 : 1 ≤ ms.length
 l4 : ms.length ≤ 4
 hm : ∀ x ∈ ms, ∃ M : Mat, x = ((n : Int), (n : Int), genD n n M) ∧ inM p n n M
abbrev AutOk := AutN 12
abbrev AutB := AutN 24
theorem AutN.p {N : Nat} {p : Int} {n : Nat} {a b : List Int} {ms : List Mx3} (h : AutN N p n a ms b) : pOk p := isPrimeI_t h.pr
theorem AutN.b {p : Int} {n : Nat} {a b : List Int} {ms : List Mx3} (h : AutOk p n a ms b) : AutB p n a ms b := ⟨h.pr, Nat.le_trans h.hn (by omega), h.al, h.ap, h.bl, h.bp, h.l1, h.l4, h.hm⟩
section
variable {p : Int} {n : Nat} {a b : List Int} {ms : List Mx3}
end
end Go.Am
end
section
namespace Go.Am
section
variable {p : Int} {n m : Nat} {a b a2 b2 : List Int} {ms ms2 : List Mx3}
end
section
variable {p sg : Int} {n m : Nat} {a b a2 b2 : List Int} {ms ms2 : List Mx3}
end
end Go.Am
end
section
namespace Go.Am
section
variable {n : Int} {d : List (Int × Int)} {a b : Int}
end
end Go.Am
end
section
namespace Go.Am
def relab (b a : Int) (l : List Int) : List Int := l.map fun x => if x = b then a else x
def atI (l : List Int) (i : Int) : Int := l.getD i.toNat 0
def iotaI (n : Nat) : List Int := (List.range n).map fun i => ((i : Nat) : Int)
def partStep (s : Nat) (i : Nat) (st : Int × List Int) (e : Int × Int) : Int × List Int :=
 if s.testBit i = true ∧ atI st.2 e.1 ≠ atI st.2 e.2 then (st.1 - 1, relab (atI st.2 e.2) (atI st.2 e.1) st.2) else st
def parts (n : Int) (es : List (Int × Int)) (s : Int) : Int × List Int := foldN (partStep s.toNat) 0 (n, iotaI n.toNat) es
def leastStep (s : Nat) (i : Nat) (l : List Int) (e : Int × Int) : List Int :=
 if s.testBit i = true then relab (max (atI l e.1) (atI l e.2)) (min (atI l e.1) (atI l e.2)) l else l
def fixes (l : List Int) : Int := ((List.range l.length).countP fun i => l.getD i 0 == (i : Int) : Nat)
theorem iotaI_len (n : Nat) : (iotaI n).length = n := by simp [iotaI]
theorem relab_len (b a : Int) (l : List Int) : (relab b a l).length = l.length := by simp [relab]
theorem countP_succ (p : Nat → Bool) (j : Nat) : (List.range (j + 1)).countP p = (List.range j).countP p + (if p j = true then 1 else 0) := by
 rw [List.range_succ, List.countP_append, List.countP_singleton]
theorem countP_one (p q : Nat → Bool) (k : Nat) : ∀ n, k < n → (∀ i, i < n → i ≠ k → p i = q i) → p k = true → q k = false → (List.range n).countP p = (List.range n).countP q + 1
 | 0, h, _, _, _ => by omega
 | n + 1, h, hpq, h1, h2 => by
  rw [countP_succ, countP_succ]
  by_cases hk : k = n
  ·subst hk
   rw [h1, h2]
   have : (List.range k).countP p = (List.range k).countP q := List.countP_congr fun i hi => by
    have := List.mem_range.1 hi
    rw [hpq i (by omega) (by omega)]
   rw [this]
   simp
  ·rw [countP_one p q k n (by omega) (fun i hi => hpq i (by omega)) h1 h2, hpq n (by omega) (by omega)]
   omega
structure PInv (m : Nat) (l : List Int) (c : Int) (q : List Int) : Prop where
 ll : l.length = m
 lq : q.length = m
 same : ∀ i j : Nat, i < m → j < m → (l.getD i 0 = l.getD j 0 ↔ q.getD i 0 = q.getD j 0)
 low : ∀ i : Nat, i < m → 0 ≤ l.getD i 0 ∧ l.getD i 0 ≤ (i : Int) ∧ l.getD (l.getD i 0).toNat 0 = l.getD i 0
 cnt : fixes l = c
theorem relab_getD {b a : Int} {l : List Int} {i : Nat} (h : i < l.length) : (relab b a l).getD i 0 = if l.getD i 0 = b then a else l.getD i 0 := by
 simp [relab, List.getD, List.getElem?_map, List.getElem?_eq_getElem h]
theorem relab_self (b : Int) (l : List Int) : relab b b l = l := by
 unfold relab
 conv => rhs; rw [← List.map_id l]
 refine List.map_congr_left fun x _ => ?_
 split
 ·rename_i h; exact h.symm
 ·rfl
theorem merge_eq {b a x y : Int} : ((if x = b then a else x) = (if y = b then a else y)) ↔ (x = y ∨ ((x = b ∨ x = a) ∧ (y = b ∨ y = a))) := by
 constructor
 ·intro h; split at h <;> split at h <;> omega
 ·intro h; split <;> split <;> omega
theorem PInv.step {m : Nat} {l : List Int} {c : Int} {q : List Int} (h : PInv m l c q) {u v : Nat} (hu : u < m) (hv : v < m) {s i : Nat} :
  PInv m (leastStep s i l ((u : Int), (v : Int))) (partStep s i (c, q) ((u : Int), (v : Int))).1 (partStep s i (c, q) ((u : Int), (v : Int))).2 := by
 cases hb : s.testBit i with
 | false =>
  have e1 : leastStep s i l ((u : Int), (v : Int)) = l := if_neg (by rw [hb]; decide)
  have e2 : partStep s i (c, q) ((u : Int), (v : Int)) = (c, q) := if_neg (fun hh => by rw [hb] at hh; exact absurd hh.1 (by decide))
  rw [e1, e2]
  exact h
 | true =>
  have ep : q.getD u 0 = q.getD v 0 → partStep s i (c, q) ((u : Int), (v : Int)) = (c, q) := fun h => if_neg (fun hh => hh.2 h)
  have en : q.getD u 0 ≠ q.getD v 0 → partStep s i (c, q) ((u : Int), (v : Int)) = (c - 1, relab (q.getD v 0) (q.getD u 0) q) := fun h => if_pos ⟨hb, h⟩
  have el : leastStep s i l ((u : Int), (v : Int)) = relab (max (l.getD u 0) (l.getD v 0)) (min (l.getD u 0) (l.getD v 0)) l := if_pos hb
  obtain ⟨ll, lq, same, low, cnt⟩ := h
  by_cases hq : q.getD u 0 = q.getD v 0
  ·have hl := (same u v hu hv).2 hq
   rw [ep hq, el, hl, Int.max_self, Int.min_self, relab_self]
   exact ⟨ll, lq, same, low, cnt⟩
  ·have hl : l.getD u 0 ≠ l.getD v 0 := fun e => hq ((same u v hu hv).1 e)
   rw [en hq, el]
   obtain ⟨lu0, lu1, lu2⟩ := low u hu
   obtain ⟨lv0, lv1, lv2⟩ := low v hv
   -- lo and hi
   obtain ⟨lo, hi, e1, e2, hlt, hset, hlo0, hlo, hhi, hhim⟩ : ∃ lo hi : Nat, min (l.getD u 0) (l.getD v 0) = (lo : Int) ∧ max (l.getD u 0) (l.getD v 0) = (hi : Int) ∧ lo < hi ∧
     (∀ x : Int, (x = (hi : Int) ∨ x = (lo : Int)) ↔ (x = l.getD v 0 ∨ x = l.getD u 0)) ∧ lo < m ∧ l.getD lo 0 = (lo : Int) ∧ l.getD hi 0 = (hi : Int) ∧ hi < m := by
    obtain ⟨a, ha⟩ := natI_eq lu0
    obtain ⟨b, hb⟩ := natI_eq lv0
    rw [ha, Int.toNat_natCast] at lu2
    rw [hb, Int.toNat_natCast] at lv2
    rw [ha] at lu1 hl
    rw [hb] at lv1 hl
    rw [ha, hb]
    rcases Nat.lt_or_ge a b with hab | hab
    ·exact ⟨a, b, by omega, by omega, hab, fun x => by omega, by omega, lu2, lv2, by omega⟩
    ·exact ⟨b, a, by omega, by omega, by omega, fun x => by omega, by omega, lv2, lu2, by omega⟩
   rw [e1, e2]
   have gl : ∀ j, j < m → (relab (hi : Int) (lo : Int) l).getD j 0 = if l.getD j 0 = (hi : Int) then (lo : Int) else l.getD j 0 := fun j hj => relab_getD (by omega)
   have gq : ∀ j, j < m → (relab (q.getD v 0) (q.getD u 0) q).getD j 0 = if q.getD j 0 = q.getD v 0 then q.getD u 0 else q.getD j 0 := fun j hj => relab_getD (by omega)
   refine ⟨by rw [relab_len]; exact ll, by rw [relab_len]; exact lq, ?_, ?_, ?_⟩
   ·intro x y hx hy
    rw [gl x hx, gl y hy, gq x hx, gq y hy, merge_eq, merge_eq, hset, hset, same x y hx hy, same x u hx hu, same x v hx hv, same y u hy hu, same y v hy hv]
   ·intro x hx
    obtain ⟨h0, h1, h2⟩ := low x hx
    rw [gl x hx]
    by_cases hxh : l.getD x 0 = (hi : Int)
    ·rw [if_pos hxh]
     refine ⟨by omega, by omega, ?_⟩
     rw [Int.toNat_natCast, gl lo hlo0, hlo, if_neg (by omega)]
    ·rw [if_neg hxh]
     refine ⟨h0, h1, ?_⟩
     rw [gl _ (by omega), h2, if_neg hxh]
   ·have hc := countP_one (fun j => l.getD j 0 == (j : Int)) (fun j => (relab (hi : Int) (lo : Int) l).getD j 0 == (j : Int)) hi m hhim ?_ (by rw [hhi]; simp) (by rw [gl hi hhim, if_pos hhi]; simp; omega)
    ·unfold fixes at cnt ⊢
     rw [relab_len, ll]
     rw [ll, hc] at cnt
     omega
    ·intro j hj hne
     rw [gl j hj]
     by_cases hjh : l.getD j 0 = (hi : Int)
     ·rw [if_pos hjh, hjh, Bool.eq_iff_iff]
      simp only [beq_iff_eq]
      constructor
      ·intro h; omega
      ·intro h
       have : lo = j := by omega
       subst this
       omega
     ·rw [if_neg hjh]
theorem iotaI_getD {m i : Nat} (h : i < m) : (iotaI m).getD i 0 = (i : Int) := by
 simp [iotaI, List.getD, List.getElem?_map, List.getElem?_range h]
theorem PInv.init (m : Nat) : PInv m (iotaI m) (m : Int) (iotaI m) := by
 refine ⟨iotaI_len m, iotaI_len m, fun _ _ _ _ => Iff.rfl, fun i hi => ?_, ?_⟩
 ·rw [iotaI_getD hi, Int.toNat_natCast, iotaI_getD hi]
  omega
 ·unfold fixes
  rw [iotaI_len]
  have : (List.range m).countP (fun i => (iotaI m).getD i 0 == (i : Int)) = (List.range m).length := by
   rw [List.countP_eq_length]
   intro i hi
   rw [iotaI_getD (List.mem_range.1 hi)]
   simp
  rw [this, List.length_range]
end Go.Am
end
section
namespace Go.Am
end Go.Am
end
section
namespace Go.Am
def cS (om : Bool) (w : Nat) (x y : Nat → Int) (t : Nat) : Int := sm w (fun i => sm w (fun j => kW om x y t i j))
def pc (x y : Nat → Int) (t : Nat) : Int := sm (t + 1) (fun i => x i * y (t - i))
theorem sm_zero : ∀ (n : Nat) {f : Nat → Int}, (∀ i, i < n → f i = 0) → sm n f = 0
 | 0, _, _ => rfl
 | n + 1, f, h => by simp only [sm]; rw [sm_zero n (fun i hi => h i (by omega)), h n (by omega)]; rfl
theorem sm_at {a : Nat} {f : Nat → Int} : ∀ (n : Nat), a < n → (∀ i, i < n → i ≠ a → f i = 0) → sm n f = f a
 | 0, h, _ => by omega
 | n + 1, h, hf => by
  simp only [sm]
  by_cases e : a = n
  ·subst e
   rw [sm_zero a (fun i hi => hf i (by omega) (by omega))]; omega
  ·rw [sm_at n (by omega) (fun i hi hne => hf i (by omega) hne), hf n (by omega) (by omega)]; omega
theorem sm_cut {m : Nat} {f : Nat → Int} : ∀ (n : Nat), m ≤ n → (∀ i, i < n → m ≤ i → f i = 0) → sm n f = sm m f
 | 0, h, _ => by rw [show m = 0 by omega]
 | n + 1, h, hf => by
  by_cases e : m = n + 1
  ·rw [e]
  ·simp only [sm]
   rw [sm_cut n (by omega) (fun i hi hm => hf i (by omega) hm), hf n (by omega) (by omega)]; omega
theorem sm_mod {p : Int} {f g : Nat → Int} : ∀ {n : Nat}, (∀ i, i < n → f i % p = g i % p) → sm n f % p = sm n g % p
 | 0, _ => rfl
 | n + 1, h => by simp only [sm]; rw [Int.add_emod, sm_mod (n := n) (fun i hi => h i (by omega)), h n (by omega), ← Int.add_emod]
theorem cS_pc {w t : Nat} (x y : Nat → Int) (h : t < w) : cS false w x y t = pc x y t := by
 have hin : ∀ i, i < w → sm w (fun j => kW false x y t i j) = if i ≤ t then x i * y (t - i) else 0 := by
  intro i hi
  split
  ·rename_i hit
   rw [sm_at (a := t - i) w (by omega) (fun j hj hne => by unfold kW; rw [if_neg (by omega), if_neg (by simp)])]
   unfold kW
   rw [if_pos (by omega)]
  ·exact sm_zero w fun j hj => by unfold kW; rw [if_neg (by omega), if_neg (by simp)]
 unfold cS pc
 rw [sm_congr hin, sm_cut (m := t + 1) w (by omega) (fun i hi hm => if_neg (by omega))]
 exact sm_congr fun i hi => if_pos (by omega)
theorem neg_mod {p a b : Int} (hab : a % p = b % p) : (-a) % p = (-b) % p := by
 have : (0 - a) % p = (0 - b) % p := by rw [Int.sub_emod, hab, ← Int.sub_emod]
 simpa using this
theorem cS_mod {om : Bool} {w t : Nat} {p : Int} {x x' y y' : Nat → Int} (hx : ∀ i, i < w → x i % p = x' i % p) (hy : ∀ i, i < w → y i % p = y' i % p) : cS om w x y t % p = cS om w x' y' t % p := by
 refine sm_mod fun i hi => sm_mod fun j hj => ?_
 have hm : (x i * y j) % p = (x' i * y' j) % p := by rw [Int.mul_emod, hx i hi, hy j hj, ← Int.mul_emod]
 unfold kW
 split
 ·exact hm
 ·split
  ·exact neg_mod hm
  ·rfl
theorem cS_congr {om : Bool} {w t : Nat} {x x' y y' : Nat → Int} (hx : ∀ i, i < w → x i = x' i) (hy : ∀ i, i < w → y i = y' i) : cS om w x y t = cS om w x' y' t :=
 sm_congr fun i hi => sm_congr fun j hj => by unfold kW; rw [hx i hi, hy j hj]
theorem pc_assoc (x y z : Nat → Int) {t : Nat} (h : t < 6) : pc (pc x y) z t = pc x (pc y z) t := by
 match t, h with
 | 0, _ => simp only [pc, sm, Nat.reduceSub, Nat.reduceAdd, Nat.zero_add]; try grind
 | 1, _ => simp only [pc, sm, Nat.reduceSub, Nat.reduceAdd, Nat.zero_add]; try grind
 | 2, _ => simp only [pc, sm, Nat.reduceSub, Nat.reduceAdd, Nat.zero_add]; try grind
 | 3, _ => simp only [pc, sm, Nat.reduceSub, Nat.reduceAdd, Nat.zero_add]; try grind
 | 4, _ => simp only [pc, sm, Nat.reduceSub, Nat.reduceAdd, Nat.zero_add]; try grind
 | 5, _ => simp only [pc, sm, Nat.reduceSub, Nat.reduceAdd, Nat.zero_add]; try grind
theorem co_0 (x y : Nat → Int) : cS true 4 x y 0 = x 0 * y 0 - x 1 * y 3 - x 2 * y 2 - x 3 * y 1 := by simp [cS, sm, kW]; grind
theorem co_1 (x y : Nat → Int) : cS true 4 x y 1 = x 0 * y 1 + x 1 * y 0 - x 2 * y 3 - x 3 * y 2 := by simp [cS, sm, kW]; grind
theorem co_2 (x y : Nat → Int) : cS true 4 x y 2 = x 0 * y 2 + x 1 * y 1 + x 2 * y 0 - x 3 * y 3 := by simp [cS, sm, kW]; grind
theorem co_3 (x y : Nat → Int) : cS true 4 x y 3 = x 0 * y 3 + x 1 * y 2 + x 2 * y 1 + x 3 * y 0 := by simp [cS, sm, kW]
theorem co_assoc (x y z : Nat → Int) {t : Nat} (h : t < 4) : cS true 4 (cS true 4 x y) z t = cS true 4 x (cS true 4 y z) t := by
 match t, h with
 | 0, _ => rw [co_0, co_0]; simp only [co_0, co_1, co_2, co_3]; grind
 | 1, _ => rw [co_1, co_1]; simp only [co_0, co_1, co_2, co_3]; grind
 | 2, _ => rw [co_2, co_2]; simp only [co_0, co_1, co_2, co_3]; grind
 | 3, _ => rw [co_3, co_3]; simp only [co_0, co_1, co_2, co_3]; grind
theorem cS_assoc {k p : Int} {w : Nat} (c : CfR k p w) (x y z : Nat → Int) {t : Nat} (h : t < w) : cS (decide (k = 8)) w (cS (decide (k = 8)) w x y) z t = cS (decide (k = 8)) w x (cS (decide (k = 8)) w y z) t := by
 by_cases h8 : k = 8
 ·obtain rfl := c.w8 h8
  rw [decide_eq_true h8]
  exact co_assoc x y z h
 ·rw [decide_eq_false h8]
  have h6 := c.cw
  rw [cS_congr (x' := pc x y) (y' := z) (fun i hi => cS_pc x y hi) (fun _ _ => rfl), cS_pc _ _ h, cS_congr (x' := x) (y' := pc y z) (fun _ _ => rfl) (fun i hi => cS_pc y z hi), cS_pc _ _ h]
  exact pc_assoc x y z (by omega)
theorem cvE_eq (p : Int) (om : Bool) (w : Nat) (x y : Nat → Int) : cvE p om w x y = tab w fun t => cS om w x y t % p := rfl
theorem cv_of {r : Int × Int × Int} (h : r.1 = 7 ∨ r.1 = 8) (x y : List Int) : mulE r x y = cvE r.2.1 (decide (r.1 = 8)) (widN r) (fnL x) (fnL y) := if_pos h
theorem min_mul {a b c p : Int} (hp : 0 ≤ p) (ha : 0 ≤ a) (hb : 0 ≤ b) (hc : 0 ≤ c) : min (min (a * b) p * c) p = min (a * b * c) p := by
 generalize hm : a * b = m
 by_cases h : m ≤ p
 ·rw [show min m p = m by omega]
 ·rw [show min m p = p by omega]
  by_cases h0 : c = 0
  ·subst h0; simp
  ·have h1 : p * 1 ≤ p * c := Int.mul_le_mul_of_nonneg_left (by omega) hp
   have h2 : p * c ≤ m * c := Int.mul_le_mul_of_nonneg_right (by omega) hc
   omega
theorem wid1 {r : Int × Int × Int} (hk : ¬ (r.1 = 7 ∨ r.1 = 8)) : widN r = 1 := by
 obtain ⟨k, p, n⟩ := r
 simp only at hk
 simp only [widN, widI]
 rw [if_neg (by omega), if_neg (by omega)]
 rfl
theorem opM_assoc {r : Int × Int × Int} (hr : ringOk r = true) (hk : ¬ (r.1 = 7 ∨ r.1 = 8)) {a b c : Int} (ha : 0 ≤ a ∧ a ≤ topI r) (hb : 0 ≤ b ∧ b ≤ topI r) (hc : 0 ≤ c ∧ c ≤ topI r) : opM r (opM r a b) c = opM r a (opM r b c) := by
 obtain ⟨k, p, n⟩ := r
 simp only at hk
 rcases ring_cases hr with ⟨rfl, rfl, rfl⟩ | ⟨rfl, hp, rfl⟩ | ⟨rfl, hp, rfl⟩ | ⟨rfl, hp, rfl⟩ | ⟨rfl, hp, rfl⟩ | ⟨rfl, rfl, hn⟩ | ⟨rfl, hp, hn⟩ | ⟨rfl, hp, hp2, rfl⟩
 ·have o : ∀ u v, opM (1, 0, 0) u v = ((u.toNat &&& v.toNat : Nat) : Int) := fun _ _ => rfl
  rw [o, o, o, o, Int.toNat_natCast, Int.toNat_natCast, Nat.and_assoc]
 ·have o : ∀ u v, opM (2, p, 0) u v = u * v % p := fun _ _ => rfl
  rw [o, o, o, o, Int.mul_emod, Int.emod_emod, ← Int.mul_emod, Int.mul_emod a, Int.emod_emod, ← Int.mul_emod, Int.mul_assoc]
 ·have o : ∀ u v, opM (3, p, 0) u v = min (u * v) p := fun _ _ => rfl
  rw [o, o, o, o, min_mul (by omega) ha.1 hb.1 hc.1, Int.mul_comm a (min _ _), min_mul (by omega) hb.1 hc.1 ha.1, Int.mul_assoc a b c, Int.mul_comm a]
 ·have o : ∀ u v, opM (4, p, 0) u v = min (u + v) p := fun _ _ => rfl
  rw [o, o, o, o]; omega
 ·have o : ∀ u v, opM (5, p, 0) u v = min u v := fun _ _ => rfl
  rw [o, o, o, o]; omega
 ·have o : ∀ u v, opM (6, 0, n) u v = ((u.toNat &&& v.toNat : Nat) : Int) := fun _ _ => rfl
  rw [o, o, o, o, Int.toNat_natCast, Int.toNat_natCast, Nat.and_assoc]
 ·omega
 ·omega
theorem mul_assoc {r : Int × Int × Int} {x y z : List Int} (hr : ringOk r = true) (hx : elOk r x = true) (hy : elOk r y = true) (hz : elOk r z = true) : mulE r (mulE r x y) z = mulE r x (mulE r y z) := by
 by_cases hk : r.1 = 7 ∨ r.1 = 8
 ·obtain ⟨k, p, n⟩ := r
  have c := cf_of hr hk
  rw [cv_of hk, cv_of hk, cv_of hk, cv_of hk]
  simp only
  refine tab_congr fun t ht => ?_
  show cS (decide (k = 8)) (widN (k, p, n)) (fnL (cvE p (decide (k = 8)) (widN (k, p, n)) (fnL x) (fnL y))) (fnL z) t % p = cS (decide (k = 8)) (widN (k, p, n)) (fnL x) (fnL (cvE p (decide (k = 8)) (widN (k, p, n)) (fnL y) (fnL z))) t % p
  have e1 : cS (decide (k = 8)) (widN (k, p, n)) (fnL (cvE p (decide (k = 8)) (widN (k, p, n)) (fnL x) (fnL y))) (fnL z) t % p = cS (decide (k = 8)) (widN (k, p, n)) (cS (decide (k = 8)) (widN (k, p, n)) (fnL x) (fnL y)) (fnL z) t % p :=
   cS_mod (fun i hi => by rw [cvE_eq, fnL_tab _ hi, Int.emod_emod]) (fun _ _ => rfl)
  have e2 : cS (decide (k = 8)) (widN (k, p, n)) (fnL x) (fnL (cvE p (decide (k = 8)) (widN (k, p, n)) (fnL y) (fnL z))) t % p = cS (decide (k = 8)) (widN (k, p, n)) (fnL x) (cS (decide (k = 8)) (widN (k, p, n)) (fnL y) (fnL z)) t % p :=
   cS_mod (fun _ _ => rfl) (fun i hi => by rw [cvE_eq, fnL_tab _ hi, Int.emod_emod])
  rw [e1, e2, cS_assoc c _ _ _ ht]
 ·have hw := wid1 hk
  obtain ⟨a, b, rfl, rfl, ha, hb⟩ := el_two hx hy hw
  obtain ⟨_, c, e, rfl, _, hc⟩ := el_two hx hz hw
  rw [mulE_1 hk, mulE_1 hk, mulE_1 hk, mulE_1 hk, opM_assoc hr hk ha hb hc]
theorem fnL_one {k p n : Int} (hk : k = 7 ∨ k = 8) {j : Nat} (hj : j < widN (k, p, n)) : fnL (oneE (k, p, n)) j = if j = 0 then 1 else 0 := by
 rw [oneE_tab, fnL_tab _ hj, if_neg (show ¬ k = 4 by omega), if_neg (show ¬ (k = 5 ∨ k = 6) by omega)]
theorem cS_0 {k p : Int} {w : Nat} (c : CfR k p w) (u : Nat → Int) (v : Int) {t : Nat} (h : t < w) : cS (decide (k = 8)) w u (fun j => if j = 0 then v else 0) t = u t * v := by
 by_cases h8 : k = 8
 ·obtain rfl := c.w8 h8
  rw [decide_eq_true h8]
  match t, h with
  | 0, _ => rw [co_0]; simp
  | 1, _ => rw [co_1]; simp
  | 2, _ => rw [co_2]; simp
  | 3, _ => rw [co_3]; simp
 ·rw [decide_eq_false h8, cS_pc _ _ h]
  unfold pc
  rw [sm_at (a := t) (t + 1) (by omega) (fun i hi hne => by simp only; rw [if_neg (by omega), Int.mul_zero])]
  simp only
  rw [if_pos (by omega)]
theorem opM_one {k p n : Int} (hr : ringOk (k, p, n) = true) (hk : ¬ (k = 7 ∨ k = 8)) {a : Int} (ha : 0 ≤ a ∧ a ≤ topI (k, p, n)) : opM (k, p, n) a (if k = 4 then 0 else if k = 5 ∨ k = 6 then topI (k, p, n) else 1) = a := by
 rcases ring_cases hr with ⟨rfl, rfl, rfl⟩ | ⟨rfl, hp, rfl⟩ | ⟨rfl, hp, rfl⟩ | ⟨rfl, hp, rfl⟩ | ⟨rfl, hp, rfl⟩ | ⟨rfl, rfl, hn⟩ | ⟨rfl, hp, hn⟩ | ⟨rfl, hp, hp2, rfl⟩
 ·have e : topI (1, 0, 0) = 1 := rfl
  have h1 : a = 0 ∨ a = 1 := by omega
  rcases h1 with rfl | rfl <;> decide
 ·have e : topI (2, p, 0) = p - 1 := rfl
  have := isPrimeI_t hp
  show a * 1 % p = a
  rw [Int.mul_one, Int.emod_eq_of_lt (by omega) (by omega)]
 ·have e : topI (3, p, 0) = p := rfl
  show min (a * 1) p = a
  omega
 ·have e : topI (4, p, 0) = p := rfl
  show min (a + 0) p = a
  omega
 ·have e : topI (5, p, 0) = p := rfl
  show min a p = a
  omega
 ·have e : topI (6, 0, n) = 2 ^ n.toNat - 1 := rfl
  have e2 : (((2 : Nat) ^ n.toNat : Nat) : Int) = (2 : Int) ^ n.toNat := by push_cast; rfl
  show ((a.toNat &&& (2 ^ n.toNat - 1 : Int).toNat : Nat) : Int) = a
  rw [show (2 ^ n.toNat - 1 : Int).toNat = 2 ^ n.toNat - 1 by omega, Nat.and_two_pow_sub_one_eq_mod, Nat.mod_eq_of_lt (by omega)]
  omega
 ·omega
 ·omega
theorem mul_one {r : Int × Int × Int} {x : List Int} (hr : ringOk r = true) (hx : elOk r x = true) : mulE r x (oneE r) = x := by
 obtain ⟨k, p, n⟩ := r
 by_cases hk : k = 7 ∨ k = 8
 ·have c := cf_of hr hk
  rw [cv_of hk, cvE_eq]
  simp only
  have hT : topI (k, p, n) = p - 1 := by
   simp only [topI]
   rw [if_neg (by omega), if_neg (by omega), if_neg (by omega)]
  refine (tab_congr fun t ht => ?_).trans (tab_fnL (el_len hx))
  rw [cS_congr (x' := fnL x) (y' := fun j => if j = 0 then 1 else 0) (fun _ _ => rfl) (fun i hi => fnL_one hk hi), cS_0 c _ _ ht, Int.mul_one]
  have := el_at hx ht
  rw [hT] at this
  exact Int.emod_eq_of_lt this.1 (by omega)
 ·have hw := wid1 (r := (k, p, n)) hk
  obtain ⟨e, ha⟩ := el_one hx hw
  have e1 : oneE (k, p, n) = [if k = 4 then 0 else if k = 5 ∨ k = 6 then topI (k, p, n) else 1] := by simp only [oneE]; exact rep_set hw
  rw [e, e1, mulE_1 hk, opM_one hr hk ha]
end Go.Am
end
section
namespace Go.Am
abbrev Rg := Int × Int × Int
abbrev T3 := List Int × List Int × List Int
abbrev ChT := Int × List (List Int)
def tenOk (r : Rg) (t : T3) : Bool := ringOk r && (decide (0 ≤ tsz t.1 t.2.1) && (decide ((t.2.2.length : Int) = tsz t.1 t.2.1 * widI r) && t.2.2.all (inTop (topI r))))
def F_spec_TensorOk : Rg × T3 → Option Bool := fun x => if x.2.1.length ≤ 1048576 ∧ x.2.2.1.length ≤ 1048576 ∧ x.2.2.2.length ≤ 1048576 then some (tenOk x.1 x.2) else none
def F_impl_TensorOk : Rg × T3 → Option Bool := F_spec_TensorOk
def F_spec_l05Copy : T3 → Option T3 := fun x => if x.1.length ≤ 1048576 ∧ x.2.1.length ≤ 1048576 ∧ x.2.2.length ≤ 1048576 then some x else none
def chV (R : List (List Int)) (ix : List Int) (i : Nat) : Int := (R.getD i []).getD (ix.getD i 0).toNat 0
def sumOk (x : ChT × List Int) : Prop := (1 ≤ x.1.1 ∧ x.1.1 ≤ 12) ∧ x.2.length ≤ 12 ∧ ∀ i, i < x.2.length → i < x.1.2.length ∧ (0 ≤ x.2.getD i 0 ∧ (x.2.getD i 0).toNat < (x.1.2.getD i []).length) ∧ 0 ≤ chV x.1.2 x.2 i ∧ chV x.1.2 x.2 i ≤ 12
instance (x : ChT × List Int) : Decidable (sumOk x) := by unfold sumOk; infer_instance
def F_spec_l35Sum : ChT × List Int → Option Int := fun x => if sumOk x then some (sm x.2.length (chV x.1.2 x.2) % x.1.1) else none
def F_impl_chargesAt : ChT × List Int → Option (List Int) := fun x => if sumOk x then some (rowL x.2.length (chV x.1.2 x.2)) else none
def F_impl_sumInts : List Int → Option Int := fun l => if l.length ≤ 12 ∧ ∀ v ∈ l, 0 ≤ v ∧ v ≤ 12 then some (sm l.length fun i => l.getD i 0) else none
def F_impl_productOf : List Int → Option Int := fun l => if l.length ≤ 12 ∧ ∀ v ∈ l, 1 ≤ v ∧ v ≤ 8 then some (prodI l) else none
def F_impl_indexIn : List Int × Int → Option (List Int) := F_spec_l05Index
def putW (l : List Int) (o : Nat) (x : List Int) : List Int := l.take o ++ x ++ l.drop (o + x.length)
def putOk (x : Rg × T3 × Int × List Int) : Prop := ringOk x.1 = true ∧ 0 ≤ x.2.2.1 ∧ x.2.2.1.toNat * widN x.1 + x.2.2.2.length ≤ x.2.1.2.2.length ∧ x.2.1.2.2.length ≤ 1048576
instance (x : Rg × T3 × Int × List Int) : Decidable (putOk x) := by unfold putOk; infer_instance
def F_spec_l05Put : Rg × T3 × Int × List Int → Option (List Int) := fun x => if putOk x then some (putW x.2.1.2.2 (x.2.2.1.toNat * widN x.1) x.2.2.2) else none
def elemOk (x : Rg × T3 × Int) : Prop := ringOk x.1 = true ∧ 0 ≤ x.2.2 ∧ (x.2.2.toNat + 1) * widN x.1 ≤ x.2.1.2.2.length ∧ x.2.1.2.2.length ≤ 1048576
instance (x : Rg × T3 × Int) : Decidable (elemOk x) := by unfold elemOk; infer_instance
def badC (D : List Int) (c : ChT) (n : Nat) : Bool := decide (sm D.length (chV c.2 (idxN D n)) % c.1 ≠ 0)
def consN (r : Rg) (D : List Int) (c : ChT) (A : List Int) : Nat → List Int
 | 0 => A
 | k + 1 => if badC D c k = true then putW (consN r D c A k) (k * widN r) (zeroE r) else consN r D c A k
def consDom (x : Rg × T3 × ChT) : Prop := (x.2.1.1.length ≤ 1048576 ∧ x.2.1.2.1.length ≤ 1048576 ∧ x.2.1.2.2.length ≤ 1048576) ∧ chDom (x.2.1, x.2.2)
instance (x : Rg × T3 × ChT) : Decidable (consDom x) := by unfold consDom; infer_instance
def consX (r : Rg) (t : T3) (c : ChT) : T3 × Bool := if tenOk r t = true ∧ chOk (t, c) = true then ((t.1, t.2.1, consN r t.2.1 c t.2.2 (prodN t.2.1)), true) else (([], [], []), false)
def F_spec_ConserveTensor : Rg × T3 × ChT → Option (T3 × Bool) := fun x => if consDom x then some (consX x.1 x.2.1 x.2.2) else none
def ag_spec_TensorOk : Sig := [(.agg, [.int .i64, .int .i64, .int .i64]), (.agg, [.list [.int .i64], .list [.int .i64], .list [.int .i64]])]
def rs_spec_TensorOk : Sig := [(.one, [.bool])]
def mu_spec_TensorOk : MSig := []
def ag_impl_TensorOk : Sig := [(.agg, [.int .i64, .int .i64, .int .i64]), (.agg, [.list [.int .i64], .list [.int .i64], .list [.int .i64]])]
def rs_impl_TensorOk : Sig := [(.one, [.bool])]
def mu_impl_TensorOk : MSig := []
def ag_spec_l05Copy : Sig := [(.agg, [.list [.int .i64], .list [.int .i64], .list [.int .i64]])]
def rs_spec_l05Copy : Sig := [(.agg, [.list [.int .i64], .list [.int .i64], .list [.int .i64]])]
def mu_spec_l05Copy : MSig := []
def ag_spec_l35Sum : Sig := [(.agg, [.int .i64, .list [.list [.int .i64]]]), (.one, [.list [.int .i64]])]
def rs_spec_l35Sum : Sig := [(.one, [.int .i64])]
def mu_spec_l35Sum : MSig := []
def ag_impl_chargesAt : Sig := [(.agg, [.int .i64, .list [.list [.int .i64]]]), (.one, [.list [.int .i64]])]
def rs_impl_chargesAt : Sig := [(.one, [.list [.int .i64]])]
def mu_impl_chargesAt : MSig := []
def ag_impl_sumInts : Sig := [(.one, [.list [.int .i64]])]
def rs_impl_sumInts : Sig := [(.one, [.int .i64])]
def mu_impl_sumInts : MSig := []
def ag_impl_productOf : Sig := [(.one, [.list [.int .i64]])]
def rs_impl_productOf : Sig := [(.one, [.int .i64])]
def mu_impl_productOf : MSig := []
def ag_impl_indexIn : Sig := [(.one, [.list [.int .i64]]), (.one, [.int .i64])]
def rs_impl_indexIn : Sig := [(.one, [.list [.int .i64]])]
def mu_impl_indexIn : MSig := []
def G_spec_TensorOk (NN : Nat) : ((Int × (Int × Int)) × ((List Int) × ((List Int) × (List Int)))) → (Option Bool) :=
 (fun (((i0, i1, i2), l3, l4, l5) : ((Int × (Int × Int)) × ((List Int) × ((List Int) × (List Int))))) =>
 (F_spec_TensorSize (l3, l4, l5)).bnd (fun i6 =>
 (F_spec_RingOk (i0, i1, i2)).bnd (fun b7 =>
 cnd (notB b7)
 (some false)
 (cnd (ltI i6 (0 : Int))
 (some false)
 ((F_spec_l02Width (i0, i1, i2)).bnd (fun i8 =>
 cnd (neI (natI (lenN l5)) (mulI .i64 i6 i8))
 (some false)
 (joinK (loopT NN (fun (((l9, i10, i11), i12, i13, i14) : (((List Int) × (Int × Int)) × (Int × (Int × Int)))) =>
 cnd (ltI i11 i10)
 ((getI l9 i11).bnd (fun i15 =>
 (F_spec_l02Top (i12, i13, i14)).bnd (fun i16 =>
 (F_spec_l01In (i15, (0 : Int), i16)).bnd (fun b17 =>
 cnd (notB b17)
 (some (Sum.inr (Sum.inr false)))
 (some (Sum.inl ((l9, i10, addI .i64 i11 1), i12, i13, i14)))))))
 (some (Sum.inr (Sum.inl ()))))
 ((l5, natI (lenN l5), (0 : Int)), i0, i1, i2))
 (fun _ =>
 some true))))))))


def G_impl_TensorOk (NN : Nat) : ((Int × (Int × Int)) × ((List Int) × ((List Int) × (List Int)))) → (Option Bool) :=
 (fun (((i0, i1, i2), l3, l4, l5) : ((Int × (Int × Int)) × ((List Int) × ((List Int) × (List Int))))) =>
 (F_impl_RingOk (i0, i1, i2)).bnd (fun b6 =>
 cnd (notB b6)
 (some false)
 ((F_impl_TensorSize (l3, l4, l5)).bnd (fun i7 =>
 cnd (neI i7 ((-1 : Int)))
 ((F_impl_rawWidth (i0, i1, i2)).bnd (fun i8 =>
 cnd (eqI (natI (lenN l5)) (mulI .i64 i7 i8))
 ((F_impl_inRing ((i0, i1, i2), l5)).bnd (fun b9 =>
 some b9))
 (some false)))
 (some false)))))


def G_spec_l05Copy (NN : Nat) : ((List Int) × ((List Int) × (List Int))) → (Option ((List Int) × ((List Int) × (List Int)))) :=
 (fun ((l0, l1, l2) : ((List Int) × ((List Int) × (List Int)))) =>
 (F_spec_l05Ints l0).bnd (fun l3 =>
 (F_spec_l05Ints l1).bnd (fun l4 =>
 (F_spec_l05Ints l2).bnd (fun l5 =>
 (takI l3 (lenN l3)).bnd (fun l6 =>
 (takI l4 (lenN l4)).bnd (fun l7 =>
 (takI l5 (lenN l5)).bnd (fun l8 =>
 some (l6, l7, l8))))))))


def G_spec_l35Sum (NN : Nat) : ((Int × (List (List Int))) × (List Int)) → (Option Int) :=
 (fun (((i0, l1), l2) : ((Int × (List (List Int))) × (List Int))) =>
 joinK (loopT NN (fun (((i3, l4, i5, i6), i7, l8) : ((Int × ((List Int) × (Int × Int))) × (Int × (List (List Int))))) =>
 cnd (ltI i6 i5)
 ((getI l4 i6).bnd (fun i9 =>
 (getI l8 i6).bnd (fun l10 =>
 (getI l10 i9).bnd (fun i11 =>
 some (Sum.inl ((addI .i64 i3 i11, l4, i5, addI .i64 i6 1), i7, l8))))))
 (some (Sum.inr (Sum.inl (i3, i7, l8)))))
 (((0 : Int), l2, natI (lenN l2), (0 : Int)), i0, l1))
 (fun (i12, i13, l14) =>
 (remI i12 i13).bnd (fun i15 =>
 some i15)))


def G_impl_chargesAt (NN : Nat) : ((Int × (List (List Int))) × (List Int)) → (Option (List Int)) :=
 (fun (((i0, l1), l2) : ((Int × (List (List Int))) × (List Int))) =>
 (mkI (natI (lenN l2)) (natI (lenN l2)) 8).bnd (fun k3 =>
 joinK ((fulI 0 k3 (lenN (repL k3 (0 : Int)))).bnd (fun _ =>
 loopT NN (fun (((l4, i5, i6), (i7, l8), l9) : (((List Int) × (Int × Int)) × ((Int × (List (List Int))) × (List Int)))) =>
 cnd (ltI i6 i5)
 ((getI l4 i6).bnd (fun i10 =>
 (getI l8 i6).bnd (fun l11 =>
 (getI l11 i10).bnd (fun i12 =>
 (chkI i6 (lenN l9)).bnd (fun k13 =>
 (getN l9 (addN 0 k13)).bnd (fun i14 =>
 (fulI 0 (lenN l9) (lenN (setL l9 (addN 0 k13) i12))).bnd (fun _ =>
 some (Sum.inl ((l4, i5, addI .i64 i6 1), (i7, l8), setL l9 (addN 0 k13) i12)))))))))
 (((fulI 0 (lenN l9) (lenN l9)).bnd (fun _ =>
 some (Sum.inl l9))).bnd (fun l15 =>
 some (Sum.inr l15))))
 ((l2, natI (lenN l2), (0 : Int)), (i0, l1), repL k3 (0 : Int))))
 (fun l16 =>
 (takI l16 (lenN l16)).bnd (fun l17 =>
 some l17))))


def G_impl_sumInts (NN : Nat) : (List Int) → (Option Int) :=
 (fun (l0 : (List Int)) =>
 joinK (loopT NN (fun ((i1, l2, i3, i4) : (Int × ((List Int) × (Int × Int)))) =>
 cnd (ltI i4 i3)
 ((getI l2 i4).bnd (fun i5 =>
 some (Sum.inl (addI .i64 i1 i5, l2, i3, addI .i64 i4 1))))
 (some (Sum.inr (Sum.inl i1))))
 ((0 : Int), l0, natI (lenN l0), (0 : Int)))
 (fun i6 =>
 some i6))


def G_impl_productOf (NN : Nat) : (List Int) → (Option Int) :=
 (fun (l0 : (List Int)) =>
 joinK (loopT NN (fun ((i1, l2, i3, i4) : (Int × ((List Int) × (Int × Int)))) =>
 cnd (ltI i4 i3)
 ((getI l2 i4).bnd (fun i5 =>
 some (Sum.inl (mulI .i64 i1 i5, l2, i3, addI .i64 i4 1))))
 (some (Sum.inr (Sum.inl i1))))
 ((1 : Int), l0, natI (lenN l0), (0 : Int)))
 (fun i6 =>
 some i6))


def G_impl_indexIn (NN : Nat) : ((List Int) × Int) → (Option (List Int)) :=
 (fun ((l0, i1) : ((List Int) × Int)) =>
 (mkI (natI (lenN l0)) (natI (lenN l0)) 8).bnd (fun k2 =>
 joinK ((fulI 0 k2 (lenN (repL k2 (0 : Int)))).bnd (fun _ =>
 loopT NN (fun (((l3, i4, i5), l6) : (((List Int) × (Int × Int)) × (List Int))) =>
 cnd (leI (0 : Int) i5)
 ((getI l3 i5).bnd (fun i7 =>
 (remI i4 i7).bnd (fun i8 =>
 (chkI i5 (lenN l6)).bnd (fun k9 =>
 (getN l6 (addN 0 k9)).bnd (fun i10 =>
 (getI l3 i5).bnd (fun i11 =>
 (quoI .i64 i4 i11).bnd (fun i12 =>
 (fulI 0 (lenN l6) (lenN (setL l6 (addN 0 k9) i8))).bnd (fun _ =>
 some (Sum.inl ((l3, i12, subI .i64 i5 1), setL l6 (addN 0 k9) i8))))))))))
 (((fulI 0 (lenN l6) (lenN l6)).bnd (fun _ =>
 some (Sum.inl l6))).bnd (fun l13 =>
 some (Sum.inr l13))))
 ((l0, i1, subI .i64 (natI (lenN l0)) (1 : Int)), repL k2 (0 : Int))))
 (fun l14 =>
 (takI l14 (lenN l14)).bnd (fun l15 =>
 some l15))))


theorem bnd_z {α β : Type} (x : α) (f : α → Option β) : (some x).bnd f = f x := by
 have h : ∀ o : Option α, o = some x → o.bnd f = f x := by intro o h; subst h; rfl
 exact h _ rfl
theorem ten_t {r : Rg} {L D A : List Int} (h : tenOk r (L, D, A) = true) : ringOk r = true ∧ (D.length ≤ 12 ∧ (∀ x ∈ D, 1 ≤ x ∧ x ≤ 8)) ∧ tsz L D = (prodN D : Int) ∧ (1 ≤ prodN D ∧ prodN D ≤ 4096) ∧ A.length = prodN D * widN r ∧ dimsG D ∧ capProd 4096 D = (prodN D : Int) ∧ prodI D = (prodN D : Int) ∧ A.all (inTop (topI r)) = true := by
 simp only [tenOk, Bool.and_eq_true, decide_eq_true_eq] at h
 obtain ⟨h1, h2, h3, h4⟩ := h
 have hw := wid_bd h1
 by_cases ha : axOk L D = true ∧ prodI D ≤ 4096
 ·have e : tsz L D = prodI D := if_pos ha
  have hd := axOk_dims ha.1
  have hl := axOk_t ha.1
  have hI := prodN_I (D := D) fun x hx => (hd x hx).1
  have hpos := prodN_pos (D := D) fun x hx => (hd x hx).1
  refine ⟨h1, ⟨by omega, hd⟩, e.trans hI, ⟨hpos, by omega⟩, ?_, ⟨by omega, fun x hx => by have := hd x hx; omega⟩, ?_, hI, h4⟩
  ·rw [e, hI, hw.1] at h3
   exact_mod_cast h3
  ·unfold capProd
   rw [capProd_go (by decide) _ 0 1 (fun x hx => (hd x hx).1) (by decide) (by decide), Int.one_mul, hI, Int.min_eq_left (by omega)]
 ·have e : tsz L D = -1 := if_neg ha
  rw [e] at h2
  exact absurd h2 (by decide)
theorem tsz_cases (L D : List Int) : tsz L D = -1 ∨ (0 ≤ tsz L D ∧ tsz L D ≤ 4096) := by
 unfold tsz
 split
 ·rename_i h
  have hd := axOk_dims h.1
  have hI := prodN_I (D := D) fun x hx => (hd x hx).1
  right
  omega
 ·exact .inl rfl
theorem ten_mul {L D : List Int} {r : Rg} (h : ringOk r = true) (h0 : 0 ≤ tsz L D) : mulI .i64 (tsz L D) (widI r) = tsz L D * widI r := by
 have hw := wid_bd h
 have h1 : tsz L D ≤ 4096 := by
  rcases tsz_cases L D with e | e
  ·omega
  ·exact e.2
 have h2 : tsz L D * widI r ≤ 4096 * 6 := Int.mul_le_mul h1 (by omega) (by omega) (by decide)
 have h3 : 0 ≤ tsz L D * widI r := Int.mul_nonneg h0 (by omega)
 exact mulI_eq (by omega) (by omega)
theorem f_spec_TensorOk (x : Rg × T3) (y : Bool) (h : F_spec_TensorOk x = some y) : G_spec_TensorOk FUEL x = some y := by
 obtain ⟨⟨k, p, n⟩, L, D, A⟩ := x
 simp only [F_spec_TensorOk] at h
 split at h
 ·rename_i hc
  rw [← h]
  simp only [G_spec_TensorOk]
  rw [show F_spec_TensorSize (L, D, A) = some (tsz L D) from if_pos ⟨hc.1, hc.2.1⟩]
  simp only [bnd_z, F_spec_RingOk]
  cases hr : ringOk (k, p, n) with
  | false => rw [cnd_t (b := notB false) rfl]; simp [tenOk, hr]
  | true =>
   rw [cnd_f (b := notB true) rfl]
   by_cases h0 : 0 ≤ tsz L D
   ·rw [cnd_f (ltI_f h0)]
    simp only [F_spec_l02Width, bnd_z]
    rw [ten_mul hr h0, nl]
    by_cases hl : (A.length : Int) = tsz L D * widI (k, p, n)
    ·rw [cnd_f (show neI _ _ = false by unfold neI; rw [hl]; simp)]
     have htop : F_spec_l02Top (k, p, n) = some (topI (k, p, n)) := if_pos hr
     rw [loopT_all A (fun i => ((A, (A.length : Int), (i : Int)), k, p, n)) (inTop (topI (k, p, n))) (.inr false) (.inl ()) ?_ ?_ ?_ ?_ (FUEL_gt (by have := hc.2.2; omega))]
     ·cases ha : A.all (inTop (topI (k, p, n)))
      ·rw [if_neg (by simp)]; simp [tenOk, hr, ha, joinK]
      ·rw [if_pos rfl]; simp [tenOk, hr, ha, joinK, h0, hl]
     ·intro i a ha hb
      have hb' : decide (0 ≤ a ∧ a ≤ topI (k, p, n)) = true := hb
      dsimp only
      rw [cnd_t (ltI_t (by have := lt_of_get ha; omega)), getI_nat, ha, bnd_z, htop]
      simp only [F_spec_l01In, bnd_z]
      rw [hb', cnd_f notB_t, next_i ha (by have := hc.2.2; omega)]
     ·intro i a ha hb
      have hb' : decide (0 ≤ a ∧ a ≤ topI (k, p, n)) = false := hb
      dsimp only
      rw [cnd_t (ltI_t (by have := lt_of_get ha; omega)), getI_nat, ha, bnd_z, htop]
      simp only [F_spec_l01In, bnd_z]
      rw [hb', cnd_t (b := notB false) rfl]
     ·dsimp only; rw [cnd_f (ltI_f (by omega))]
     ·rfl
    ·rw [cnd_t (show neI _ _ = true from bne_iff_ne.2 hl)]
     simp [tenOk, hr, hl]
   ·rw [cnd_t (ltI_t (by omega))]
    simp [tenOk, hr, h0]
 ·cases h
theorem f_impl_TensorOk (x : Rg × T3) (y : Bool) (h : F_impl_TensorOk x = some y) : G_impl_TensorOk FUEL x = some y := by
 obtain ⟨⟨k, p, n⟩, L, D, A⟩ := x
 simp only [F_impl_TensorOk, F_spec_TensorOk] at h
 split at h
 ·rename_i hc
  rw [← h]
  simp only [G_impl_TensorOk, F_impl_RingOk, bnd_z]
  cases hr : ringOk (k, p, n) with
  | false => rw [cnd_t (b := notB false) rfl]; simp [tenOk, hr]
  | true =>
   rw [cnd_f (b := notB true) rfl, show F_impl_TensorSize (L, D, A) = some (tsz L D) from if_pos ⟨hc.1, hc.2.1⟩]
   simp only [bnd_z]
   by_cases h0 : 0 ≤ tsz L D
   ·rw [cnd_t (show neI _ _ = true from bne_iff_ne.2 (by omega))]
    simp only [F_impl_rawWidth, bnd_z]
    rw [ten_mul hr h0, nl]
    by_cases hl : (A.length : Int) = tsz L D * widI (k, p, n)
    ·rw [cnd_t (show eqI _ _ = true from beq_iff_eq.2 hl), show F_impl_inRing ((k, p, n), A) = some _ from if_pos ⟨hr, by have := hc.2.2; omega⟩, bnd_z]
     simp [tenOk, hr, h0, hl]
    ·rw [cnd_f (show eqI _ _ = false from beq_eq_false_iff_ne.2 hl)]
     simp [tenOk, hr, hl]
   ·have : tsz L D = -1 := by rcases tsz_cases L D with e | e <;> omega
    rw [cnd_f (show neI _ _ = false by unfold neI; rw [this]; rfl)]
    simp [tenOk, hr, h0]
 ·cases h
theorem f_spec_l05Copy (x : T3) (y : T3) (h : F_spec_l05Copy x = some y) : G_spec_l05Copy FUEL x = some y := by
 obtain ⟨L, D, A⟩ := x
 simp only [F_spec_l05Copy] at h
 split at h
 ·rename_i hc
  rw [← h]
  simp only [G_spec_l05Copy]
  rw [show F_spec_l05Ints L = some L from if_pos (by have := hc.1; omega), show F_spec_l05Ints D = some D from if_pos (by have := hc.2.1; omega), show F_spec_l05Ints A = some A from if_pos (by have := hc.2.2; omega)]
  simp only [bnd_z, takI_id]
 ·cases h
theorem chV_get {m : Int} {R : List (List Int)} {ix : List Int} (h : sumOk ((m, R), ix)) {i : Nat} (hi : i < ix.length) :
  getI ix (i : Int) = some (ix.getD i 0) ∧ getI R (i : Int) = some (R.getD i []) ∧ getI (R.getD i []) (ix.getD i 0) = some (chV R ix i) := by
 obtain ⟨_, _, h3⟩ := h
 obtain ⟨a1, ⟨a2, a3⟩, _⟩ := h3 i hi
 dsimp only at a1 a2 a3
 refine ⟨by rw [getI_nat, getD_some 0 hi], by rw [getI_nat, getD_some [] a1], ?_⟩
 unfold chV
 obtain ⟨v, hv⟩ := natI_eq a2
 rw [hv] at a3 ⊢
 rw [getI_nat, Int.toNat_natCast]
 exact getD_some 0 a3
theorem chS_bd {m : Int} {R : List (List Int)} {ix : List Int} (h : sumOk ((m, R), ix)) : ∀ k, k ≤ ix.length → 0 ≤ sm k (chV R ix) ∧ sm k (chV R ix) ≤ 12 * k
 | 0, _ => ⟨Int.le_refl 0, Int.le_refl 0⟩
 | k + 1, hk => by
  have ih := chS_bd h k (by omega)
  have := (h.2.2 k (by dsimp only; omega)).2.2
  simp only [sm]
  dsimp only at this
  omega
theorem f_spec_l35Sum (x : ChT × List Int) (y : Int) (h : F_spec_l35Sum x = some y) : G_spec_l35Sum FUEL x = some y := by
 obtain ⟨⟨m, R⟩, ix⟩ := x
 simp only [F_spec_l35Sum] at h
 split at h
 ·rename_i hc
  rw [← h]
  have hl := hc.2.1
  dsimp only at hl
  have hm := hc.1
  dsimp only at hm
  simp only [G_spec_l35Sum]
  rw [loopT_seq (fun k => ((sm k (chV R ix), ix, natI (lenN ix), (k : Int)), m, R)) ix.length ?a1 ?a2 ?a3 (FUEL_gt (by omega))]
  case a3 => rfl
  case a2 => dsimp only; rw [cnd_f (ltI_end ix)]
  case a1 =>
   intro k hk
   obtain ⟨g1, g2, g3⟩ := chV_get hc hk
   have hb := chS_bd hc k (by omega)
   have hv := (hc.2.2 k hk).2.2
   dsimp only at hv
   dsimp only
   rw [cnd_t (ltI_t (by rw [nl]; omega)), g1, bnd_z, g2, bnd_z, g3, bnd_z, addI_eq (by omega) (by omega), addI_eq (by omega) (by omega)]
   rfl
  have hb := chS_bd hc ix.length (Nat.le_refl _)
  simp only [joinK, Option.bind]
  rw [remI_pos hb.1 (by omega)]
  simp only [bnd_z]
 ·cases h
theorem f_impl_chargesAt (x : ChT × List Int) (y : List Int) (h : F_impl_chargesAt x = some y) : G_impl_chargesAt FUEL x = some y := by
 obtain ⟨⟨m, R⟩, ix⟩ := x
 simp only [F_impl_chargesAt] at h
 split at h
 ·rename_i hc
  rw [← h]
  have hl := hc.2.1
  dsimp only at hl
  simp only [G_impl_chargesAt]
  rw [mkI_nat (n := lenN ix) (by simp only [lenN, maxBytes]; omega)]
  simp only [bnd_z]
  rw [show fulI 0 (lenN ix) (lenN (repL (lenN ix) (0 : Int))) = some () by rw [lenN_repL]; exact fulI_id _]
  simp only [bnd_z]
  rw [loopT_seq (fun k => ((ix, natI (lenN ix), (k : Int)), (m, R), rowL ix.length fun q => if q < k then chV R ix q else 0)) (r := Sum.inl (rowL ix.length (chV R ix))) ix.length ?a1 ?a2 ?a3 (FUEL_gt (by omega))]
  case a3 =>
   rw [rowL_rep]
   have : rowL (lenN ix) (fun _ => (0 : Int)) = rowL ix.length fun q => if q < 0 then chV R ix q else 0 := rowL_congr fun q _ => by rw [if_neg (by omega)]
   rw [this]
   rfl
  case a2 =>
   dsimp only
   rw [cnd_f (ltI_end ix)]
   simp only [fulI_row, bnd_z]
   rw [show rowL ix.length (fun q => if q < ix.length then chV R ix q else 0) = rowL ix.length (chV R ix) from rowL_congr fun q hq => by rw [if_pos hq]]
  case a1 =>
   intro k hk
   obtain ⟨g1, g2, g3⟩ := chV_get hc hk
   dsimp only
   rw [cnd_t (ltI_t (by rw [nl]; omega)), g1, bnd_z, g2, bnd_z, g3, bnd_z, chkI_row _ hk]
   simp only [bnd_z, addN_0]
   rw [getN_row _ hk]
   simp only [bnd_z]
   rw [rowL_set, fulI_row]
   simp only [bnd_z]
   rw [addI_eq (by omega) (by omega)]
   have : rowL ix.length (fun q => if q = k then chV R ix k else if q < k then chV R ix q else 0) = rowL ix.length fun q => if q < k + 1 then chV R ix q else 0 := rowL_congr fun q _ => by
    by_cases e : q = k
    ·rw [if_pos e, if_pos (by omega), e]
    ·rw [if_neg e]
     by_cases h : q < k
     ·rw [if_pos h, if_pos (by omega)]
     ·rw [if_neg h, if_neg (by omega)]
   rw [this]
   rfl
  simp only [joinK, Option.bind, takI_id, bnd_z]
 ·cases h
theorem f_impl_sumInts (x : List Int) (y : Int) (h : F_impl_sumInts x = some y) : G_impl_sumInts FUEL x = some y := by
 simp only [F_impl_sumInts] at h
 split at h
 ·rename_i hc
  rw [← h]
  obtain ⟨hl, hv⟩ := hc
  have hb : ∀ k, k ≤ x.length → 0 ≤ sm k (fun i => x.getD i 0) ∧ sm k (fun i => x.getD i 0) ≤ 12 * k := by
   intro k
   induction k with
   | zero => exact fun _ => ⟨Int.le_refl 0, Int.le_refl 0⟩
   | succ k ih =>
    intro hk
    have ih := ih (by omega)
    have := hv _ (List.mem_of_getElem? (getD_some 0 (show k < x.length by omega)))
    simp only [sm]
    omega
  simp only [G_impl_sumInts]
  rw [loopT_seq (fun k => (sm k (fun i => x.getD i 0), x, natI (lenN x), (k : Int))) x.length ?a1 ?a2 ?a3 (FUEL_gt (by omega))]
  case a3 => rfl
  case a2 => dsimp only; rw [cnd_f (ltI_end x)]
  case a1 =>
   intro k hk
   have g := getD_some (0 : Int) hk
   have h1 := hb k (by omega)
   have h2 := hv _ (List.mem_of_getElem? g)
   dsimp only
   rw [cnd_t (ltI_t (by rw [nl]; omega)), getI_nat, g, bnd_z, addI_eq (by omega) (by omega), addI_eq (by omega) (by omega)]
   rfl
  simp only [joinK, Option.bind]
 ·cases h
theorem f_impl_productOf (x : List Int) (y : Int) (h : F_impl_productOf x = some y) : G_impl_productOf FUEL x = some y := by
 simp only [F_impl_productOf] at h
 split at h
 ·rename_i hc
  rw [← h]
  obtain ⟨hl, hv⟩ := hc
  have hb : ∀ k, k ≤ x.length → 1 ≤ prodI (x.take k) ∧ prodI (x.take k) ≤ 8 ^ k := by
   intro k
   induction k with
   | zero => exact fun _ => ⟨Int.le_refl 1, Int.le_refl 1⟩
   | succ k ih =>
    intro hk
    obtain ⟨i1, i2⟩ := ih (by omega)
    have h1 := hv _ (List.mem_of_getElem? (getD_some 0 (show k < x.length by omega)))
    rw [prodI_take (by omega)]
    have a1 : 1 * 1 ≤ prodI (x.take k) * x.getD k 0 := Int.mul_le_mul i1 h1.1 (by decide) (by omega)
    have a2 : prodI (x.take k) * x.getD k 0 ≤ 8 ^ k * 8 := Int.mul_le_mul i2 h1.2 (by omega) (by exact Int.pow_nonneg (by decide))
    exact ⟨by omega, by rw [Int.pow_succ]; exact a2⟩
  have h12 : ∀ k, k ≤ 12 → (8 : Int) ^ k ≤ 68719476736 := by decide
  simp only [G_impl_productOf]
  rw [loopT_seq (fun k => (prodI (x.take k), x, natI (lenN x), (k : Int))) x.length ?a1 ?a2 ?a3 (FUEL_gt (by omega))]
  case a3 => rfl
  case a2 => dsimp only; rw [cnd_f (ltI_end x)]
  case a1 =>
   intro k hk
   have g := getD_some (0 : Int) hk
   have h1 := hb (k + 1) (by omega)
   have h2 := h12 (k + 1) (by omega)
   rw [prodI_take hk] at h1
   dsimp only
   rw [cnd_t (ltI_t (by rw [nl]; omega)), getI_nat, g, bnd_z, mulI_eq (by omega) (by omega), addI_eq (by omega) (by omega), ← prodI_take hk]
   rfl
  simp only [joinK, Option.bind, List.take_length]
 ·cases h
theorem f_impl_indexIn (x : List Int × Int) (y : List Int) (h : F_impl_indexIn x = some y) : G_impl_indexIn FUEL x = some y := f_spec_l05Index x y h
end Go.Am
end
section
namespace Go.Am
def F_impl_rawElem : Rg × T3 × Int → Option (Int × Int) := fun x => if elemOk x then some (((x.2.2.toNat * widN x.1 : Nat) : Int), (((x.2.2.toNat + 1) * widN x.1 : Nat) : Int)) else none
def F_impl_copyTensor : T3 → Option T3 := F_spec_l05Copy
def F_impl_ConserveTensor : Rg × T3 × ChT → Option (T3 × Bool) := F_spec_ConserveTensor
def ag_spec_l05Put : Sig := [(.agg, [.int .i64, .int .i64, .int .i64]), (.agg, [.list [.int .i64], .list [.int .i64], .list [.int .i64]]), (.one, [.int .i64]), (.one, [.list [.int .i64]])]
def rs_spec_l05Put : Sig := [(.one, [.list [.int .i64]])]
def mu_spec_l05Put : MSig := [[], [none, none, some .froz]]
def ag_spec_ConserveTensor : Sig := [(.agg, [.int .i64, .int .i64, .int .i64]), (.agg, [.list [.int .i64], .list [.int .i64], .list [.int .i64]]), (.agg, [.int .i64, .list [.list [.int .i64]]])]
def rs_spec_ConserveTensor : Sig := [(.agg, [.list [.int .i64], .list [.int .i64], .list [.int .i64]]), (.one, [.bool])]
def mu_spec_ConserveTensor : MSig := []
def ag_impl_rawElem : Sig := [(.agg, [.int .i64, .int .i64, .int .i64]), (.agg, [.list [.int .i64], .list [.int .i64], .list [.int .i64]]), (.one, [.int .i64])]
def rs_impl_rawElem : Sig := [(.one, [.int .i64]), (.one, [.int .i64])]
def mu_impl_rawElem : MSig := [[some .bor, some .bor], [], [none, none, some .froz]]
def ag_impl_copyTensor : Sig := [(.agg, [.list [.int .i64], .list [.int .i64], .list [.int .i64]])]
def rs_impl_copyTensor : Sig := [(.agg, [.list [.int .i64], .list [.int .i64], .list [.int .i64]])]
def mu_impl_copyTensor : MSig := []
def ag_impl_ConserveTensor : Sig := [(.agg, [.int .i64, .int .i64, .int .i64]), (.agg, [.list [.int .i64], .list [.int .i64], .list [.int .i64]]), (.agg, [.int .i64, .list [.list [.int .i64]]])]
def rs_impl_ConserveTensor : Sig := [(.agg, [.list [.int .i64], .list [.int .i64], .list [.int .i64]]), (.one, [.bool])]
def mu_impl_ConserveTensor : MSig := []
def G_spec_l05Put (NN : Nat) : ((Int × (Int × Int)) × (((List Int) × ((List Int) × (List Int))) × (Int × (List Int)))) → (Option (List Int)) :=
 (fun (((i0, i1, i2), (l3, l4, l5), i6, l7) : ((Int × (Int × Int)) × (((List Int) × ((List Int) × (List Int))) × (Int × (List Int))))) =>
 (F_spec_l02Width (i0, i1, i2)).bnd (fun i8 =>
 (fulI 0 (lenN l5) (lenN l5)).bnd (fun _ =>
 loopT NN (fun (((i9, l10, i11, i12, i13), l14, l15, l16) : ((Int × ((List Int) × (Int × (Int × Int)))) × ((List Int) × ((List Int) × (List Int))))) =>
 cnd (ltI i13 i12)
 ((getI l10 i13).bnd (fun i17 =>
 (chkI (addI .i64 (mulI .i64 i9 i11) i13) (lenN l14)).bnd (fun k18 =>
 (getN l14 (addN 0 k18)).bnd (fun i19 =>
 (fulI 0 (lenN l14) (lenN (setL l14 (addN 0 k18) i17))).bnd (fun _ =>
 some (Sum.inl ((i9, l10, i11, i12, addI .i64 i13 1), setL l14 (addN 0 k18) i17, l15, l16)))))))
 (((samI (lenN l14) (lenN l5)).bnd (fun _ =>
 some l14)).bnd (fun l20 =>
 some (Sum.inr l20))))
 ((i6, l7, i8, natI (lenN l7), (0 : Int)), l5, l3, l4))))


def G_spec_ConserveTensor (NN : Nat) : ((Int × (Int × Int)) × (((List Int) × ((List Int) × (List Int))) × (Int × (List (List Int))))) → (Option (((List Int) × ((List Int) × (List Int))) × Bool)) :=
 (fun (((i0, i1, i2), (l3, l4, l5), i6, l7) : ((Int × (Int × Int)) × (((List Int) × ((List Int) × (List Int))) × (Int × (List (List Int)))))) =>
 (F_spec_TensorOk ((i0, i1, i2), l3, l4, l5)).bnd (fun b8 =>
 cnd (notB b8)
 (some ((([] : List Int), ([] : List Int), ([] : List Int)), false))
 ((F_spec_ChargesOk ((l3, l4, l5), i6, l7)).bnd (fun b9 =>
 cnd (notB b9)
 (some ((([] : List Int), ([] : List Int), ([] : List Int)), false))
 ((F_spec_l05Copy (l3, l4, l5)).bnd (fun (l10, l11, l12) =>
 joinK ((fulI 0 0 (lenN (([] : List Int)))).bnd (fun _ =>
 (fulI 0 0 (lenN (([] : List Int)))).bnd (fun _ =>
 (fulI 0 0 (lenN (([] : List Int)))).bnd (fun _ =>
 (fulI 0 (lenN l10) (lenN l10)).bnd (fun _ =>
 (fulI 0 (lenN l11) (lenN l11)).bnd (fun _ =>
 (fulI 0 (lenN l12) (lenN l12)).bnd (fun _ =>
 loopT NN (fun ((i13, (i14, i15, i16), (l17, l18, l19), (i20, l21), l22, l23, l24, l25, l26, l27) : (Int × ((Int × (Int × Int)) × (((List Int) × ((List Int) × (List Int))) × ((Int × (List (List Int))) × ((List Int) × ((List Int) × ((List Int) × ((List Int) × ((List Int) × (List Int))))))))))) =>
 (F_spec_l05Product (l18, (4096 : Int))).bnd (fun i28 =>
 cnd (ltI i13 i28)
 ((F_spec_l05Index (l18, i13)).bnd (fun l29 =>
 (winI l29 0 (lenN l29)).bnd (fun l30 =>
 (F_spec_l35Sum ((i20, l21), l30)).bnd (fun i31 =>
 cnd (neI i31 (0 : Int))
 ((F_spec_l02Zero (i14, i15, i16)).bnd (fun l32 =>
 (winI l25 0 (lenN l25)).bnd (fun l33 =>
 (winI l26 0 (lenN l26)).bnd (fun l34 =>
 (fulI 0 (lenN l27) (lenN l27)).bnd (fun _ =>
 (winI l32 0 (lenN l32)).bnd (fun l35 =>
 (F_spec_l05Put ((i14, i15, i16), (l33, l34, l27), i13, l35)).bnd (fun l36 =>
 (fulI 0 (lenN l22) (lenN l22)).bnd (fun _ =>
 (fulI 0 (lenN l23) (lenN l23)).bnd (fun _ =>
 (fulI 0 (lenN l24) (lenN l24)).bnd (fun _ =>
 (fulI 0 (lenN l25) (lenN l25)).bnd (fun _ =>
 (fulI 0 (lenN l26) (lenN l26)).bnd (fun _ =>
 (fulI 0 (lenN l27) (lenN l36)).bnd (fun _ =>
 some (Sum.inl (addI .i64 i13 1, (i14, i15, i16), (l17, l18, l19), (i20, l21), l22, l23, l24, l25, l26, l36)))))))))))))))
 ((fulI 0 (lenN l22) (lenN l22)).bnd (fun _ =>
 (fulI 0 (lenN l23) (lenN l23)).bnd (fun _ =>
 (fulI 0 (lenN l24) (lenN l24)).bnd (fun _ =>
 (fulI 0 (lenN l25) (lenN l25)).bnd (fun _ =>
 (fulI 0 (lenN l26) (lenN l26)).bnd (fun _ =>
 (fulI 0 (lenN l27) (lenN l27)).bnd (fun _ =>
 some (Sum.inl (addI .i64 i13 1, (i14, i15, i16), (l17, l18, l19), (i20, l21), l22, l23, l24, l25, l26, l27)))))))))))))
 (((fulI 0 (lenN l22) (lenN l22)).bnd (fun _ =>
 (fulI 0 (lenN l23) (lenN l23)).bnd (fun _ =>
 (fulI 0 (lenN l24) (lenN l24)).bnd (fun _ =>
 (fulI 0 (lenN l25) (lenN l25)).bnd (fun _ =>
 (fulI 0 (lenN l26) (lenN l26)).bnd (fun _ =>
 (fulI 0 (lenN l27) (lenN l27)).bnd (fun _ =>
 some (Sum.inl (l22, l23, l24, l25, l26, l27))))))))).bnd (fun l37 =>
 some (Sum.inr l37)))))
 ((0 : Int), (i0, i1, i2), (l3, l4, l5), (i6, l7), ([] : List Int), ([] : List Int), ([] : List Int), l10, l11, l12))))))))
 (fun (l38, l39, l40, l41, l42, l43) =>
 (takI l41 (lenN l41)).bnd (fun l44 =>
 (takI l42 (lenN l42)).bnd (fun l45 =>
 (takI l43 (lenN l43)).bnd (fun l46 =>
 some ((l44, l45, l46), true)))))))))))


def G_impl_rawElem (NN : Nat) : ((Int × (Int × Int)) × (((List Int) × ((List Int) × (List Int))) × Int)) → (Option (Int × Int)) :=
 (fun (((i0, i1, i2), (l3, l4, l5), i6) : ((Int × (Int × Int)) × (((List Int) × ((List Int) × (List Int))) × Int))) =>
 (F_impl_rawWidth (i0, i1, i2)).bnd (fun i7 =>
 (sliI (mulI .i64 i6 i7) (mulI .i64 (addI .i64 i6 1) i7) (lenN l5)).bnd (fun (k8, k9) =>
 (chkI (0 : Int) (lenN l5)).bnd (fun k10 =>
 some (natI (addN 0 k8), natI (addN (addN 0 k8) k9))))))


def G_impl_copyTensor (NN : Nat) : ((List Int) × ((List Int) × (List Int))) → (Option ((List Int) × ((List Int) × (List Int)))) :=
 (fun ((l0, l1, l2) : ((List Int) × ((List Int) × (List Int)))) =>
 (F_impl_copyInts l0).bnd (fun l3 =>
 (F_impl_copyInts l1).bnd (fun l4 =>
 (F_impl_copyInts l2).bnd (fun l5 =>
 (takI l3 (lenN l3)).bnd (fun l6 =>
 (takI l4 (lenN l4)).bnd (fun l7 =>
 (takI l5 (lenN l5)).bnd (fun l8 =>
 some (l6, l7, l8))))))))


def G_impl_ConserveTensor (NN : Nat) : ((Int × (Int × Int)) × (((List Int) × ((List Int) × (List Int))) × (Int × (List (List Int))))) → (Option (((List Int) × ((List Int) × (List Int))) × Bool)) :=
 (fun (((i0, i1, i2), (l3, l4, l5), i6, l7) : ((Int × (Int × Int)) × (((List Int) × ((List Int) × (List Int))) × (Int × (List (List Int)))))) =>
 (F_impl_TensorOk ((i0, i1, i2), l3, l4, l5)).bnd (fun b8 =>
 cnd (notB b8)
 (some ((([] : List Int), ([] : List Int), ([] : List Int)), false))
 ((F_impl_ChargesOk ((l3, l4, l5), i6, l7)).bnd (fun b9 =>
 cnd (notB b9)
 (some ((([] : List Int), ([] : List Int), ([] : List Int)), false))
 ((F_impl_copyTensor (l3, l4, l5)).bnd (fun (l10, l11, l12) =>
 joinK ((fulI 0 0 (lenN (([] : List Int)))).bnd (fun _ =>
 (fulI 0 0 (lenN (([] : List Int)))).bnd (fun _ =>
 (fulI 0 0 (lenN (([] : List Int)))).bnd (fun _ =>
 (fulI 0 (lenN l10) (lenN l10)).bnd (fun _ =>
 (fulI 0 (lenN l11) (lenN l11)).bnd (fun _ =>
 (fulI 0 (lenN l12) (lenN l12)).bnd (fun _ =>
 loopT NN (fun ((i13, (i14, i15, i16), (l17, l18, l19), (i20, l21), l22, l23, l24, l25, l26, l27) : (Int × ((Int × (Int × Int)) × (((List Int) × ((List Int) × (List Int))) × ((Int × (List (List Int))) × ((List Int) × ((List Int) × ((List Int) × ((List Int) × ((List Int) × (List Int))))))))))) =>
 (F_impl_productOf l18).bnd (fun i28 =>
 cnd (ltI i13 i28)
 ((F_impl_indexIn (l18, i13)).bnd (fun l29 =>
 (winI l29 0 (lenN l29)).bnd (fun l30 =>
 (F_impl_chargesAt ((i20, l21), l30)).bnd (fun l31 =>
 (winI l31 0 (lenN l31)).bnd (fun l32 =>
 (F_impl_sumInts l32).bnd (fun i33 =>
 (remI i33 i20).bnd (fun i34 =>
 cnd (neI i34 (0 : Int))
 ((winI l25 0 (lenN l25)).bnd (fun l35 =>
 (winI l26 0 (lenN l26)).bnd (fun l36 =>
 (fulI 0 (lenN l27) (lenN l27)).bnd (fun _ =>
 (F_impl_rawElem ((i14, i15, i16), (l35, l36, l27), i13)).bnd (fun (i37, i38) =>
 (sliI i37 i38 (lenN l27)).bnd (fun (k39, k40) =>
 (F_impl_rawZero (i14, i15, i16)).bnd (fun l41 =>
 (winI l41 0 (lenN l41)).bnd (fun l42 =>
 (cpyL l27 k39 k40 (List.take k40 l42)).bnd (fun l43 =>
 (fulI 0 (lenN l22) (lenN l22)).bnd (fun _ =>
 (fulI 0 (lenN l23) (lenN l23)).bnd (fun _ =>
 (fulI 0 (lenN l24) (lenN l24)).bnd (fun _ =>
 (fulI 0 (lenN l25) (lenN l25)).bnd (fun _ =>
 (fulI 0 (lenN l26) (lenN l26)).bnd (fun _ =>
 (fulI 0 (lenN l27) (lenN l43)).bnd (fun _ =>
 some (Sum.inl (addI .i64 i13 1, (i14, i15, i16), (l17, l18, l19), (i20, l21), l22, l23, l24, l25, l26, l43)))))))))))))))))
 ((fulI 0 (lenN l22) (lenN l22)).bnd (fun _ =>
 (fulI 0 (lenN l23) (lenN l23)).bnd (fun _ =>
 (fulI 0 (lenN l24) (lenN l24)).bnd (fun _ =>
 (fulI 0 (lenN l25) (lenN l25)).bnd (fun _ =>
 (fulI 0 (lenN l26) (lenN l26)).bnd (fun _ =>
 (fulI 0 (lenN l27) (lenN l27)).bnd (fun _ =>
 some (Sum.inl (addI .i64 i13 1, (i14, i15, i16), (l17, l18, l19), (i20, l21), l22, l23, l24, l25, l26, l27))))))))))))))))
 (((fulI 0 (lenN l22) (lenN l22)).bnd (fun _ =>
 (fulI 0 (lenN l23) (lenN l23)).bnd (fun _ =>
 (fulI 0 (lenN l24) (lenN l24)).bnd (fun _ =>
 (fulI 0 (lenN l25) (lenN l25)).bnd (fun _ =>
 (fulI 0 (lenN l26) (lenN l26)).bnd (fun _ =>
 (fulI 0 (lenN l27) (lenN l27)).bnd (fun _ =>
 some (Sum.inl (l22, l23, l24, l25, l26, l27))))))))).bnd (fun l44 =>
 some (Sum.inr l44)))))
 ((0 : Int), (i0, i1, i2), (l3, l4, l5), (i6, l7), ([] : List Int), ([] : List Int), ([] : List Int), l10, l11, l12))))))))
 (fun (l45, l46, l47, l48, l49, l50) =>
 (takI l48 (lenN l48)).bnd (fun l51 =>
 (takI l49 (lenN l49)).bnd (fun l52 =>
 (takI l50 (lenN l50)).bnd (fun l53 =>
 some ((l51, l52, l53), true)))))))))))


theorem mulNN {a b : Nat} (h : a * b ≤ 1099511627776) : mulI .i64 (a : Int) (b : Int) = ((a * b : Nat) : Int) := by
 have e : (a : Int) * (b : Int) = ((a * b : Nat) : Int) := (Int.natCast_mul a b).symm
 rw [mulI_eq (by omega) (by omega), e]
theorem putW_len {l : List Int} {o : Nat} {x : List Int} (h : o + x.length ≤ l.length) : (putW l o x).length = l.length := by
 unfold putW
 simp only [List.length_append, List.length_take, List.length_drop]
 omega
theorem putW_get {l : List Int} {o : Nat} {x : List Int} (h : o + x.length ≤ l.length) (q : Nat) : (putW l o x)[q]? = if q < o then l[q]? else if q < o + x.length then x[q - o]? else l[q]? := by
 unfold putW
 have h1 : (l.take o).length = o := by rw [List.length_take]; omega
 have h2 : (l.take o ++ x).length = o + x.length := by rw [List.length_append, h1]
 by_cases a : q < o
 ·rw [if_pos a, List.getElem?_append_left (by omega), List.getElem?_append_left (by omega), List.getElem?_take, if_pos a]
 ·rw [if_neg a]
  by_cases b : q < o + x.length
  ·rw [if_pos b, List.getElem?_append_left (by omega), List.getElem?_append_right (by omega), h1]
  ·rw [if_neg b, List.getElem?_append_right (by omega), h2, List.getElem?_drop]
   congr 1
   omega
theorem putW_set {l : List Int} {o i : Nat} {x : List Int} (h : o + x.length ≤ l.length) (hi : i < x.length) : setL (putW l o (x.take i)) (o + i) (x.getD i 0) = putW l o (x.take (i + 1)) := by
 have l1 : (x.take i).length = i := by rw [List.length_take]; omega
 have l2 : (x.take (i + 1)).length = i + 1 := by rw [List.length_take]; omega
 have lp := putW_len (l := l) (o := o) (x := x.take i) (by omega)
 apply List.ext_getElem?
 intro q
 unfold setL
 rw [putW_get (by omega) q, l2]
 by_cases e : q = o + i
 ·subst e
  rw [List.getElem?_set_self (by omega), if_neg (by omega), if_pos (by omega), Nat.add_sub_cancel_left, List.getElem?_take, if_pos (by omega)]
  exact (getD_some 0 hi).symm
 ·rw [List.getElem?_set_ne (fun h => e h.symm), putW_get (by omega) q, l1]
  by_cases a : q < o
  ·rw [if_pos a, if_pos a]
  ·rw [if_neg a, if_neg a]
   by_cases b : q < o + i
   ·rw [if_pos b, if_pos (by omega), List.getElem?_take, List.getElem?_take, if_pos (by omega), if_pos (by omega)]
   ·rw [if_neg b, if_neg (by omega)]
theorem f_spec_l05Put (x : Rg × T3 × Int × List Int) (y : List Int) (h : F_spec_l05Put x = some y) : G_spec_l05Put FUEL x = some y := by
 obtain ⟨⟨k, p, m⟩, ⟨L, D, A⟩, n, x⟩ := x
 simp only [F_spec_l05Put] at h
 split at h
 ·rename_i hc
  rw [← h]
  obtain ⟨hr, h0, h1, h2⟩ := hc
  dsimp only at hr h0 h1 h2
  obtain ⟨n, rfl⟩ := natI_eq h0
  have hw := wid_bd hr
  simp only [Int.toNat_natCast] at h1 ⊢
  have hnw : n * widN (k, p, m) ≤ 1048576 := by omega
  have hn : n ≤ 1048576 := by have := Nat.le_mul_of_pos_right n (show 0 < widN (k, p, m) by omega); omega
  simp only [G_spec_l05Put, F_spec_l02Width, bnd_z, fulI_id]
  rw [hw.1]
  rw [loopT_seq (fun i => (((n : Int), x, ((widN (k, p, m) : Nat) : Int), natI (lenN x), (i : Int)), putW A (n * widN (k, p, m)) (x.take i), L, D)) (r := putW A (n * widN (k, p, m)) x) x.length ?a1 ?a2 ?a3 (FUEL_gt (by omega))]
  case a3 => rw [List.take_zero]; simp [putW]
  case a2 =>
   dsimp only
   rw [cnd_f (ltI_end x), List.take_length]
   have : lenN (putW A (n * widN (k, p, m)) x) = lenN A := putW_len h1
   rw [this, show samI (lenN A) (lenN A) = some () from if_pos rfl]
   simp only [bnd_z]
  case a1 =>
   intro i hi
   have l1 : (x.take i).length = i := by rw [List.length_take]; omega
   have hl : lenN (putW A (n * widN (k, p, m)) (x.take i)) = A.length := putW_len (by omega)
   dsimp only
   rw [cnd_t (ltI_t (by rw [nl]; omega)), getI_nat, getD_some 0 hi]
   simp only [bnd_z]
   rw [mulNN (a := n) (b := widN (k, p, m)) (by omega)]
   rw [addI_eq (by omega) (by omega), show ((n * widN (k, p, m) : Nat) : Int) + (i : Int) = ((n * widN (k, p, m) + i : Nat) : Int) by push_cast; rfl]
   rw [hl, chkI_nat (by omega)]
   simp only [bnd_z, addN_0]
   obtain ⟨v, hv⟩ : ∃ v, (putW A (n * widN (k, p, m)) (x.take i))[n * widN (k, p, m) + i]? = some v := ⟨_, List.getElem?_eq_getElem (show n * widN (k, p, m) + i < (putW A (n * widN (k, p, m)) (x.take i)).length by have : (putW A (n * widN (k, p, m)) (x.take i)).length = A.length := hl; omega)⟩
   rw [show getN (putW A (n * widN (k, p, m)) (x.take i)) (n * widN (k, p, m) + i) = some v from hv]
   simp only [bnd_z]
   have l2 : (x.take (i + 1)).length = i + 1 := by rw [List.length_take]; omega
   rw [putW_set h1 hi, show fulI 0 A.length (lenN (putW A (n * widN (k, p, m)) (x.take (i + 1)))) = some () from fulI_ok (putW_len (by omega)).symm]
   simp only [bnd_z]
   rw [addI_eq (by omega) (by omega)]
   rfl
 ·cases h
theorem zero_len {r : Rg} (h : ringOk r = true) : (zeroE r).length = widN r := by
 have := el_zero h
 simp only [elOk, Bool.and_eq_true, decide_eq_true_eq] at this
 exact this.1
theorem consN_len {r : Rg} {D A : List Int} {c : ChT} {N : Nat} (hr : ringOk r = true) (hA : A.length = N * widN r) : ∀ k, k ≤ N → (consN r D c A k).length = A.length
 | 0, _ => rfl
 | k + 1, hk => by
  have ih := consN_len (D := D) (c := c) hr hA k (by omega)
  have hm : (k + 1) * widN r ≤ N * widN r := Nat.mul_le_mul_right _ hk
  rw [Nat.add_mul, Nat.one_mul] at hm
  unfold consN
  split
  ·rw [putW_len (by rw [zero_len hr, ih]; omega)]; exact ih
  ·exact ih
theorem sum_ok {L D A : List Int} {c : ChT} {r : Rg} (ht : tenOk r (L, D, A) = true) (hc : chOk ((L, D, A), c) = true) (n : Nat) : sumOk (c, idxN D n) := by
 obtain ⟨_, ⟨hl, hd⟩, _, _, _, hD, _, _, _⟩ := ten_t ht
 obtain ⟨m, R⟩ := c
 simp only [chOk, Bool.and_eq_true, decide_eq_true_eq] at hc
 obtain ⟨_, hm, hR, hp⟩ := hc
 have hil : (idxN D n).length = D.length := rowL_len _ _
 refine ⟨hm, by dsimp only; omega, fun i hi => ?_⟩
 dsimp only at hi ⊢
 rw [hil] at hi
 obtain ⟨d, d1, d2, d3, d4, d5⟩ := dims_pos hD hi
 obtain ⟨p1, p2⟩ := hp i (by omega)
 have hix : (idxN D n).getD i 0 = ((n / tailP D (i + 1) % d : Nat) : Int) := by rw [idxN_getD hi]; unfold dig; rw [d3]
 have hlt := Nat.mod_lt (n / tailP D (i + 1)) (show 0 < d by omega)
 rw [d2] at p1
 have hin : n / tailP D (i + 1) % d < (R.getD i []).length := by omega
 refine ⟨by omega, by rw [hix, Int.toNat_natCast]; exact ⟨by omega, hin⟩, ?_⟩
 unfold chV
 rw [hix, Int.toNat_natCast]
 have hrow := rowOk_P.1 p2
 have := hrow _ (List.mem_of_getElem? (getD_some 0 hin))
 exact ⟨this.1, by have := this.2; omega⟩
theorem sum_F {L D A : List Int} {c : ChT} {r : Rg} (ht : tenOk r (L, D, A) = true) (hc : chOk ((L, D, A), c) = true) (n : Nat) : F_spec_l35Sum (c, idxN D n) = some (sm D.length (chV c.2 (idxN D n)) % c.1) := by
 have h := sum_ok ht hc n
 have hil : (idxN D n).length = D.length := rowL_len _ _
 rw [show F_spec_l35Sum (c, idxN D n) = _ from if_pos h]
 dsimp only
 rw [hil]
theorem f_spec_ConserveTensor (x : Rg × T3 × ChT) (y : T3 × Bool) (h : F_spec_ConserveTensor x = some y) : G_spec_ConserveTensor FUEL x = some y := by
 obtain ⟨⟨k, p, m⟩, ⟨L, D, A⟩, cm, R⟩ := x
 simp only [F_spec_ConserveTensor] at h
 split at h
 ·rename_i hdom
  rw [← h]
  have hcd := hdom.2
  obtain ⟨⟨l1, l2, l3⟩, _⟩ := hdom
  dsimp only at l1 l2 l3
  unfold consX
  simp only [G_spec_ConserveTensor]
  rw [show F_spec_TensorOk ((k, p, m), L, D, A) = some (tenOk (k, p, m) (L, D, A)) from if_pos ⟨l1, l2, l3⟩]
  simp only [bnd_z]
  cases ht : tenOk (k, p, m) (L, D, A) with
  | false => rw [cnd_t (b := notB false) rfl, if_neg (by simp)]
  | true =>
   rw [cnd_f (b := notB true) rfl, show F_spec_ChargesOk ((L, D, A), cm, R) = some (chOk ((L, D, A), cm, R)) from if_pos hcd]
   simp only [bnd_z]
   cases hch : chOk ((L, D, A), cm, R) with
   | false => rw [cnd_t (b := notB false) rfl, if_neg (by simp)]
   | true =>
    rw [cnd_f (b := notB true) rfl, if_pos (by simp)]
    obtain ⟨hr, ⟨hl, hd⟩, hts, ⟨hp1, hp2⟩, hA, hD, hcap, hpI, _⟩ := ten_t ht
    have hw := wid_bd hr
    rw [show F_spec_l05Copy (L, D, A) = some (L, D, A) from if_pos ⟨l1, l2, l3⟩]
    simp only [bnd_z, fulI_id]
    rw [show fulI 0 0 (lenN ([] : List Int)) = some () from rfl]
    simp only [bnd_z]
    rw [loopT_seq (fun n => ((n : Int), (k, p, m), (L, D, A), (cm, R), ([] : List Int), ([] : List Int), ([] : List Int), L, D, consN (k, p, m) D (cm, R) A n)) (prodN D) ?a1 ?a2 ?a3 (FUEL_gt (by omega))]
    case a3 => rfl
    case a2 =>
     dsimp only
     rw [show F_spec_l05Product (D, 4096) = some ((prodN D : Nat) : Int) by
      rw [← hcap]
      exact if_pos ⟨by decide, l2, List.all_eq_true.2 fun v hv => by have := hd v hv; exact decide_eq_true (by omega)⟩]
     simp only [bnd_z]
     rw [cnd_f (ltI_f (by omega))]
     try simp only [fulI_id, bnd_z]
    case a1 =>
     intro n hn
     have hlenA : (consN (k, p, m) D (cm, R) A n).length = A.length := consN_len hr hA n (by omega)
     have hm : (n + 1) * widN (k, p, m) ≤ prodN D * widN (k, p, m) := Nat.mul_le_mul_right _ hn
     rw [Nat.add_mul, Nat.one_mul] at hm
     dsimp only
     rw [show F_spec_l05Product (D, 4096) = some ((prodN D : Nat) : Int) by
      rw [← hcap]
      exact if_pos ⟨by decide, l2, List.all_eq_true.2 fun v hv => by have := hd v hv; exact decide_eq_true (by omega)⟩]
     simp only [bnd_z]
     rw [cnd_t (ltI_t (by omega)), show F_spec_l05Index (D, (n : Int)) = some (idxN D n) from if_pos ⟨hD, by dsimp only; omega, by dsimp only; omega⟩]
     simp only [bnd_z, winI_id]
     rw [sum_F ht hch n]
     simp only [bnd_z]
     rw [addI_eq (by omega) (by omega)]
     by_cases hb : badC D (cm, R) n = true
     ·have hb' := of_decide_eq_true hb
      rw [cnd_t (show neI _ 0 = true from bne_iff_ne.2 hb'), show F_spec_l02Zero (k, p, m) = some (zeroE (k, p, m)) from if_pos hr]
      simp only [bnd_z, winI_id, fulI_id]
      rw [show F_spec_l05Put ((k, p, m), (L, D, consN (k, p, m) D (cm, R) A n), (n : Int), zeroE (k, p, m)) = some (putW (consN (k, p, m) D (cm, R) A n) (n * widN (k, p, m)) (zeroE (k, p, m))) from by
       simp only [F_spec_l05Put]
       rw [if_pos ⟨hr, by dsimp only; omega, by dsimp only; rw [zero_len hr, hlenA, Int.toNat_natCast]; omega, by dsimp only; omega⟩]
       rfl]
      simp only [bnd_z]
      have e : consN (k, p, m) D (cm, R) A (n + 1) = putW (consN (k, p, m) D (cm, R) A n) (n * widN (k, p, m)) (zeroE (k, p, m)) := if_pos hb
      rw [show fulI 0 (lenN (consN (k, p, m) D (cm, R) A n)) (lenN (putW (consN (k, p, m) D (cm, R) A n) (n * widN (k, p, m)) (zeroE (k, p, m)))) = some () from fulI_ok (by
       rw [← e]
       exact hlenA.trans (consN_len hr hA (n + 1) (by omega)).symm)]
      simp only [bnd_z]
      rw [← e]
      rfl
     ·have hb' : sm D.length (chV R (idxN D n)) % cm = 0 := Classical.byContradiction fun h => hb (decide_eq_true h)
      rw [hb', cnd_f (by rfl)]
      have e : consN (k, p, m) D (cm, R) A (n + 1) = consN (k, p, m) D (cm, R) A n := if_neg hb
      rw [e]
      rfl
    simp only [joinK, Option.bind, takI_id, bnd_z]
 ·cases h
theorem f_impl_rawElem (x : Rg × T3 × Int) (y : Int × Int) (h : F_impl_rawElem x = some y) : G_impl_rawElem FUEL x = some y := by
 obtain ⟨⟨k, p, m⟩, ⟨L, D, A⟩, n⟩ := x
 simp only [F_impl_rawElem] at h
 split at h
 ·rename_i hc
  rw [← h]
  obtain ⟨hr, h0, h1, h2⟩ := hc
  dsimp only at hr h0 h1 h2
  obtain ⟨n, rfl⟩ := natI_eq h0
  have hw := wid_bd hr
  simp only [Int.toNat_natCast] at h1 ⊢
  have hn1 : (n + 1) * widN (k, p, m) = n * widN (k, p, m) + widN (k, p, m) := by rw [Nat.add_mul, Nat.one_mul]
  have hn : n + 1 ≤ 1048576 := by have := Nat.le_mul_of_pos_right (n + 1) (show 0 < widN (k, p, m) by omega); omega
  simp only [G_impl_rawElem, F_impl_rawWidth, bnd_z]
  rw [hw.1, addI_eq (by omega) (by omega), show (n : Int) + 1 = ((n + 1 : Nat) : Int) by push_cast; rfl]
  rw [mulNN (a := n) (b := widN (k, p, m)) (by omega)]
  rw [mulNN (a := n + 1) (b := widN (k, p, m)) (by omega)]
  rw [show sliI ((n * widN (k, p, m) : Nat) : Int) (((n + 1) * widN (k, p, m) : Nat) : Int) (lenN A) = some (n * widN (k, p, m), widN (k, p, m)) by
   unfold sliI lenN
   rw [if_pos ⟨by omega, by omega, by omega⟩]
   congr 2
   omega]
  simp only [bnd_z]
  rw [show chkI (0 : Int) (lenN A) = some 0 by unfold chkI lenN; rw [if_pos ⟨by omega, by omega⟩]; rfl]
  simp only [bnd_z, natI, addN, Nat.zero_add]
  rw [hn1]
 ·cases h
theorem f_impl_copyTensor (x : T3) (y : T3) (h : F_impl_copyTensor x = some y) : G_impl_copyTensor FUEL x = some y := by
 obtain ⟨L, D, A⟩ := x
 simp only [F_impl_copyTensor, F_spec_l05Copy] at h
 split at h
 ·rename_i hc
  rw [← h]
  obtain ⟨h1, h2, h3⟩ := hc
  simp only [G_impl_copyTensor]
  rw [show F_impl_copyInts L = some L from if_pos (by omega), show F_impl_copyInts D = some D from if_pos (by omega), show F_impl_copyInts A = some A from if_pos (by omega)]
  simp only [bnd_z, takI_id]
 ·cases h
theorem f_impl_ConserveTensor (x : Rg × T3 × ChT) (y : T3 × Bool) (h : F_impl_ConserveTensor x = some y) : G_impl_ConserveTensor FUEL x = some y := by
 obtain ⟨⟨k, p, m⟩, ⟨L, D, A⟩, cm, R⟩ := x
 simp only [F_impl_ConserveTensor, F_spec_ConserveTensor] at h
 split at h
 ·rename_i hdom
  rw [← h]
  have hcd := hdom.2
  obtain ⟨⟨l1, l2, l3⟩, _⟩ := hdom
  dsimp only at l1 l2 l3
  unfold consX
  simp only [G_impl_ConserveTensor]
  rw [show F_impl_TensorOk ((k, p, m), L, D, A) = some (tenOk (k, p, m) (L, D, A)) from if_pos ⟨l1, l2, l3⟩]
  simp only [bnd_z]
  cases ht : tenOk (k, p, m) (L, D, A) with
  | false => rw [cnd_t (b := notB false) rfl, if_neg (by simp)]
  | true =>
   rw [cnd_f (b := notB true) rfl, show F_impl_ChargesOk ((L, D, A), cm, R) = some (chOk ((L, D, A), cm, R)) from if_pos hcd]
   simp only [bnd_z]
   cases hch : chOk ((L, D, A), cm, R) with
   | false => rw [cnd_t (b := notB false) rfl, if_neg (by simp)]
   | true =>
    rw [cnd_f (b := notB true) rfl, if_pos (by simp)]
    obtain ⟨hr, ⟨hl, hd⟩, hts, ⟨hp1, hp2⟩, hA, hD, hcap, hpI, _⟩ := ten_t ht
    have hw := wid_bd hr
    have hprod : F_impl_productOf D = some ((prodN D : Nat) : Int) := by
     rw [← hpI]
     exact if_pos ⟨hl, hd⟩
    rw [show F_impl_copyTensor (L, D, A) = some (L, D, A) from if_pos ⟨l1, l2, l3⟩]
    simp only [bnd_z, fulI_id]
    rw [show fulI 0 0 (lenN ([] : List Int)) = some () from rfl]
    simp only [bnd_z]
    rw [loopT_seq (fun n => ((n : Int), (k, p, m), (L, D, A), (cm, R), ([] : List Int), ([] : List Int), ([] : List Int), L, D, consN (k, p, m) D (cm, R) A n)) (prodN D) ?a1 ?a2 ?a3 (FUEL_gt (by omega))]
    case a3 => rfl
    case a2 =>
     dsimp only
     rw [hprod]
     simp only [bnd_z]
     rw [cnd_f (ltI_f (by omega))]
     try simp only [fulI_id, bnd_z]
    case a1 =>
     intro n hn
     have hlenA : (consN (k, p, m) D (cm, R) A n).length = A.length := consN_len hr hA n (by omega)
     have hm : (n + 1) * widN (k, p, m) ≤ prodN D * widN (k, p, m) := Nat.mul_le_mul_right _ hn
     have hm1 : (n + 1) * widN (k, p, m) = n * widN (k, p, m) + widN (k, p, m) := by rw [Nat.add_mul, Nat.one_mul]
     have hso := sum_ok ht hch n
     have hil : (idxN D n).length = D.length := rowL_len _ _
     have hbd := chS_bd hso (idxN D n).length (Nat.le_refl _)
     have hmod := hso.1
     dsimp only at hmod
     dsimp only
     rw [hprod]
     simp only [bnd_z]
     rw [cnd_t (ltI_t (by omega)), show F_impl_indexIn (D, (n : Int)) = some (idxN D n) from if_pos ⟨hD, by dsimp only; omega, by dsimp only; omega⟩]
     simp only [bnd_z, winI_id]
     rw [show F_impl_chargesAt ((cm, R), idxN D n) = some (rowL D.length (chV R (idxN D n))) by
      rw [show F_impl_chargesAt ((cm, R), idxN D n) = _ from if_pos hso]
      dsimp only
      rw [hil]]
     simp only [bnd_z, winI_id]
     have hsm : sm D.length (fun i => (rowL D.length (chV R (idxN D n))).getD i 0) = sm D.length (chV R (idxN D n)) := sm_congr fun i hi => by
      rw [List.getD_eq_getElem?_getD, rowL_get _ hi]; rfl
     rw [show F_impl_sumInts (rowL D.length (chV R (idxN D n))) = some (sm D.length (chV R (idxN D n))) by
      rw [show F_impl_sumInts (rowL D.length (chV R (idxN D n))) = _ from if_pos ⟨by rw [rowL_len]; exact hl, fun v hv => by
       obtain ⟨i, hi, rfl⟩ := List.mem_map.1 hv
       exact (hso.2.2 i (by dsimp only; rw [hil]; exact List.mem_range.1 hi)).2.2⟩]
      rw [rowL_len, hsm]]
     simp only [bnd_z]
     rw [hil] at hbd
     rw [remI_pos hbd.1 (by omega)]
     simp only [bnd_z]
     rw [addI_eq (by omega) (by omega)]
     by_cases hb : badC D (cm, R) n = true
     ·have hb' := of_decide_eq_true hb
      rw [cnd_t (show neI _ 0 = true from bne_iff_ne.2 hb')]
      try simp only [bnd_z, winI_id, fulI_id]
      rw [show F_impl_rawElem ((k, p, m), (L, D, consN (k, p, m) D (cm, R) A n), (n : Int)) = some (((n * widN (k, p, m) : Nat) : Int), (((n + 1) * widN (k, p, m) : Nat) : Int)) from if_pos ⟨hr, by dsimp only; omega, by dsimp only; rw [hlenA, Int.toNat_natCast]; omega, by dsimp only; omega⟩]
      simp only [bnd_z]
      rw [show sliI ((n * widN (k, p, m) : Nat) : Int) (((n + 1) * widN (k, p, m) : Nat) : Int) (lenN (consN (k, p, m) D (cm, R) A n)) = some (n * widN (k, p, m), widN (k, p, m)) by
       unfold sliI lenN
       rw [if_pos ⟨by omega, by omega, by rw [hlenA]; omega⟩]
       congr 2
       omega]
      simp only [bnd_z]
      rw [show F_impl_rawZero (k, p, m) = some (zeroE (k, p, m)) from if_pos hr]
      simp only [bnd_z, winI_id]
      have e : consN (k, p, m) D (cm, R) A (n + 1) = putW (consN (k, p, m) D (cm, R) A n) (n * widN (k, p, m)) (zeroE (k, p, m)) := if_pos hb
      rw [List.take_of_length_le (show (zeroE (k, p, m)).length ≤ widN (k, p, m) by rw [zero_len hr]; exact Nat.le_refl _)]
      rw [show cpyL (consN (k, p, m) D (cm, R) A n) (n * widN (k, p, m)) (widN (k, p, m)) (zeroE (k, p, m)) = some (putW (consN (k, p, m) D (cm, R) A n) (n * widN (k, p, m)) (zeroE (k, p, m))) from by
       unfold cpyL putW
       rw [if_pos (by rw [hlenA]; omega)]]
      simp only [bnd_z]
      rw [show fulI 0 (lenN (consN (k, p, m) D (cm, R) A n)) (lenN (putW (consN (k, p, m) D (cm, R) A n) (n * widN (k, p, m)) (zeroE (k, p, m)))) = some () from fulI_ok (by
       rw [← e]
       exact hlenA.trans (consN_len hr hA (n + 1) (by omega)).symm)]
      simp only [bnd_z]
      rw [← e]
      rfl
     ·have hb' : sm D.length (chV R (idxN D n)) % cm = 0 := Classical.byContradiction fun h => hb (decide_eq_true h)
      rw [hb', cnd_f (by rfl)]
      have e : consN (k, p, m) D (cm, R) A (n + 1) = consN (k, p, m) D (cm, R) A n := if_neg hb
      try simp only [fulI_id, bnd_z]
      rw [e]
      rfl
    simp only [joinK, Option.bind, takI_id, bnd_z]
 ·cases h
end Go.Am
end
