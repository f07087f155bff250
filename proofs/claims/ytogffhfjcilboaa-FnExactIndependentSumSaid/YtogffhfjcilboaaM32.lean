/- M1, Mx, M4, M31, M33, M32: parts of the proof. No condition. -/
import Derived.Test.YtogffhfjcilboaaMT
set_option linter.unusedVariables false
set_option linter.unusedSimpArgs false
section
namespace Go.Am
def F_spec_l01In : Int × Int × Int → Option Bool := fun ((a, b, c) : Int × Int × Int) => some (decide (b ≤ a ∧ a ≤ c))
def edgeOk (n : Int) (e : Int × Int) : Bool := decide ((0 ≤ e.1 ∧ e.1 ≤ n - 1) ∧ (0 ≤ e.2 ∧ e.2 ≤ n - 1))
def graphOk (n : Int) (es : List (Int × Int)) : Bool := decide (0 ≤ n ∧ n ≤ 10) && decide (es.length ≤ 10) && es.all (edgeOk n)
def F_spec_GraphOk : Int × List (Int × Int) → Option Bool := fun ((n, es) : Int × List (Int × Int)) => some (graphOk n es)
def F_impl_GraphOk : Int × List (Int × Int) → Option Bool := fun ((n, es) : Int × List (Int × Int)) => some (graphOk n es)
def ag_spec_l01In : Sig := [(.one, [.int .i64]), (.one, [.int .i64]), (.one, [.int .i64])]
def rs_spec_l01In : Sig := [(.one, [.bool])]
def mu_spec_l01In : MSig := []
def ag_spec_GraphOk : Sig := [(.agg, [.int .i64, .list [.int .i64, .int .i64]])]
def rs_spec_GraphOk : Sig := [(.one, [.bool])]
def mu_spec_GraphOk : MSig := []
def ag_impl_GraphOk : Sig := [(.agg, [.int .i64, .list [.int .i64, .int .i64]])]
def rs_impl_GraphOk : Sig := [(.one, [.bool])]
def mu_impl_GraphOk : MSig := []
def G_spec_l01In (NN : Nat) : (Int × (Int × Int)) → (Option Bool) :=
 (fun ((i0, i1, i2) : (Int × (Int × Int))) =>
 cnd (leI i1 i0)
 (some (leI i0 i2))
 (some false))

def G_spec_GraphOk (NN : Nat) : (Int × (List (Int × Int))) → (Option Bool) :=
 (fun ((i0, l1) : (Int × (List (Int × Int)))) =>
 (F_spec_l01In (i0, (0 : Int), (10 : Int))).bnd (fun b2 =>
 cnd (notB b2)
 (some false)
 (cnd (ltI (10 : Int) (natI (lenN l1)))
 (some false)
 (joinK (loopT NN (fun (((l3, i4, i5), i6, l7) : (((List (Int × Int)) × (Int × Int)) × (Int × (List (Int × Int))))) =>
 cnd (ltI i5 i4)
 ((getI l3 i5).bnd (fun (i8, i9) =>
 (F_spec_l01In (i8, (0 : Int), subI .i64 i6 1)).bnd (fun b10 =>
 cnd (notB b10)
 (some (Sum.inr (Sum.inr false)))
 ((F_spec_l01In (i9, (0 : Int), subI .i64 i6 1)).bnd (fun b11 =>
 cnd (notB b11)
 (some (Sum.inr (Sum.inr false)))
 (some (Sum.inl ((l3, i4, addI .i64 i5 1), i6, l7))))))))
 (some (Sum.inr (Sum.inl ()))))
 ((l1, natI (lenN l1), (0 : Int)), i0, l1))
 (fun _ =>
 some true)))))

def G_impl_GraphOk (NN : Nat) : (Int × (List (Int × Int))) → (Option Bool) :=
 (fun ((i0, l1) : (Int × (List (Int × Int)))) =>
 cnd (ltI i0 (0 : Int))
 (some false)
 (cnd (ltI (10 : Int) i0)
 (some false)
 (cnd (ltI (10 : Int) (natI (lenN l1)))
 (some false)
 (joinK (loopT NN (fun (((l2, i3, i4), i5, l6) : (((List (Int × Int)) × (Int × Int)) × (Int × (List (Int × Int))))) =>
 cnd (ltI i4 i3)
 ((getI l2 i4).bnd (fun (i7, i8) =>
 cnd (ltI i7 (0 : Int))
 (some (Sum.inr (Sum.inr false)))
 (cnd (ltI i8 (0 : Int))
 (some (Sum.inr (Sum.inr false)))
 (cnd (leI i5 i7)
 (some (Sum.inr (Sum.inr false)))
 (cnd (leI i5 i8)
 (some (Sum.inr (Sum.inr false)))
 (some (Sum.inl ((l2, i3, addI .i64 i4 1), i5, l6))))))))
 (some (Sum.inr (Sum.inl ()))))
 ((l1, natI (lenN l1), (0 : Int)), i0, l1))
 (fun _ =>
 some true)))))

theorem f_spec_l01In (x : Int × Int × Int) (y : Bool) (h : F_spec_l01In x = some y) : G_spec_l01In FUEL x = some y := by
  obtain ⟨a, b, c⟩ := x
  rw [← h]
  simp only [F_spec_l01In, G_spec_l01In, leI]
  by_cases hc : b ≤ a <;> simp [hc, cnd]

def resOk (n : Int) : List (Int × Int) → Unit ⊕ Bool
  | [] => .inl ()
  | e :: es => if edgeOk n e = true then resOk n es else .inr false

theorem resOk_eq (n : Int) (es : List (Int × Int)) : resOk n es = if es.all (edgeOk n) = true then .inl () else .inr false := by
  induction es with
  | nil => rfl
  | cons e es ih =>
    simp only [resOk]
    by_cases h : edgeOk n e = true
    · have e1 : (e :: es).all (edgeOk n) = es.all (edgeOk n) := by simp [h]
      rw [if_pos h, ih, e1]
    · have e1 : (e :: es).all (edgeOk n) = false := by simp [h]
      rw [if_neg h, e1]
      rfl

theorem f_spec_GraphOk (x : Int × List (Int × Int)) (y : Bool) (h : F_spec_GraphOk x = some y) : G_spec_GraphOk FUEL x = some y := by
  obtain ⟨n, es⟩ := x
  rw [← h]
  simp only [F_spec_GraphOk, G_spec_GraphOk, F_spec_l01In, bnd_s, graphOk]
  by_cases h1 : 0 ≤ n ∧ n ≤ 10
  · rw [cnd_f (notB_p h1)]
    by_cases h2 : es.length ≤ 10
    · rw [cnd_f (ltI_f (by have := nl es; omega))]
      rw [loopT_run (r := resOk n es) (fun k s => ∃ (i : Nat) (j : Int), j = (i : Int) ∧ i ≤ es.length ∧ k = es.length - i ∧ resOk n es = resOk n (es.drop i) ∧ s = ((es, natI (lenN es), j), n, es)) ?_ es.length _ ⟨0, 0, rfl, by omega, by omega, by simp, rfl⟩ FUEL (FUEL_gt (by omega))]
      · rw [resOk_eq]
        by_cases h3 : es.all (edgeOk n) = true
        · rw [if_pos h3, joinK_l]; simp [h1, h2]; simpa using h3
        · rw [if_neg h3, joinK_r]; simp [h1, h2]; simpa using h3
      · rintro k s ⟨i, _, rfl, hi, rfl, hr, rfl⟩
        simp only
        by_cases hlt : i < es.length
        · obtain ⟨e, he⟩ : ∃ e, es[i]? = some e := ⟨_, List.getElem?_eq_getElem hlt⟩
          obtain ⟨u, v⟩ := e
          have hd := drop_cons he
          rw [cnd_t (ltI_t (by have := nl es; omega)), getI_nat, he, bnd_s]
          simp only [F_spec_l01In, bnd_s, subI_eq (a := n) (b := 1) (by omega) (by omega)]
          rw [hr, hd, resOk]
          by_cases hu : 0 ≤ u ∧ u ≤ n - 1
          · rw [cnd_f (notB_p hu)]
            by_cases hv : 0 ≤ v ∧ v ≤ n - 1
            · right
              refine ⟨es.length - (i + 1), ((es, natI (lenN es), ((i + 1 : Nat) : Int)), n, es), by omega, ?_, i + 1, _, rfl, by omega, rfl, ?_, rfl⟩
              · rw [cnd_f (notB_p hv), addI_eq (by omega) (by omega)]; rfl
              · rw [if_pos (by simp [edgeOk, hu, hv])]
            · left
              rw [cnd_t (notB_d hv), if_neg (by simp [edgeOk]; omega)]
          · left
            rw [cnd_t (notB_d hu), if_neg (by simp [edgeOk]; omega)]
        · left
          have hi' : i = es.length := by omega
          subst hi'
          rw [cnd_f (ltI_f (by have := nl es; omega)), hr]
          simp [resOk]
    · rw [cnd_t (ltI_t (by have := nl es; omega))]
      simp [h2]
  · rw [cnd_t (notB_d h1)]
    simp [h1]

theorem f_impl_GraphOk (x : Int × List (Int × Int)) (y : Bool) (h : F_impl_GraphOk x = some y) : G_impl_GraphOk FUEL x = some y := by
  obtain ⟨n, es⟩ := x
  rw [← h]
  simp only [F_impl_GraphOk, G_impl_GraphOk, graphOk]
  by_cases h0 : n < 0
  · rw [cnd_t (by simp [ltI, h0])]; simp; omega
  rw [cnd_f (by simp [ltI]; omega)]
  by_cases h1 : 10 < n
  · rw [cnd_t (by simp [ltI, h1])]; simp; omega
  rw [cnd_f (by simp [ltI]; omega)]
  by_cases h2 : es.length ≤ 10
  · rw [cnd_f (ltI_f (by have := nl es; omega))]
    rw [loopT_run (r := resOk n es) (fun k s => ∃ (i : Nat) (j : Int), j = (i : Int) ∧ i ≤ es.length ∧ k = es.length - i ∧ resOk n es = resOk n (es.drop i) ∧ s = ((es, natI (lenN es), j), n, es)) ?_ es.length _ ⟨0, 0, rfl, by omega, by omega, by simp, rfl⟩ FUEL (FUEL_gt (by omega))]
    · rw [resOk_eq]
      by_cases h3 : es.all (edgeOk n) = true
      · rw [if_pos h3, joinK_l]; simp [h2]; exact ⟨by omega, by simpa using h3⟩
      · rw [if_neg h3, joinK_r]; simp [h2]; intro _ _; simpa using h3
    · rintro k s ⟨i, _, rfl, hi, rfl, hr, rfl⟩
      simp only
      by_cases hlt : i < es.length
      · obtain ⟨e, he⟩ : ∃ e, es[i]? = some e := ⟨_, List.getElem?_eq_getElem hlt⟩
        obtain ⟨u, v⟩ := e
        have hd := drop_cons he
        rw [cnd_t (ltI_t (by have := nl es; omega)), getI_nat, he, bnd_s]
        rw [hr, hd, resOk]
        simp only
        by_cases c1 : u < 0
        · left; rw [cnd_t (by simp [ltI, c1]), if_neg (by simp [edgeOk]; omega)]
        rw [cnd_f (by simp [ltI]; omega)]
        by_cases c2 : v < 0
        · left; rw [cnd_t (by simp [ltI, c2]), if_neg (by simp [edgeOk]; omega)]
        rw [cnd_f (by simp [ltI]; omega)]
        by_cases c3 : n ≤ u
        · left; rw [cnd_t (by simp [leI, c3]), if_neg (by simp [edgeOk]; omega)]
        rw [cnd_f (by simp [leI]; omega)]
        by_cases c4 : n ≤ v
        · left; rw [cnd_t (by simp [leI, c4]), if_neg (by simp [edgeOk]; omega)]
        rw [cnd_f (by simp [leI]; omega)]
        right
        refine ⟨es.length - (i + 1), ((es, natI (lenN es), ((i + 1 : Nat) : Int)), n, es), by omega, ?_, i + 1, _, rfl, by omega, rfl, ?_, rfl⟩
        · rw [addI_eq (by omega) (by omega)]; rfl
        · rw [if_pos (by simp [edgeOk]; omega)]
      · left
        have hi' : i = es.length := by omega
        subst hi'
        rw [cnd_f (ltI_f (by have := nl es; omega)), hr]
        simp [resOk]
  · rw [cnd_t (ltI_t (by have := nl es; omega))]
    simp [h2]

end Go.Am
end
section
namespace Go.Am

/-! ### loops -/

/-! ### matrices -/

/-! ### indices as the program computes them -/

/-- Products modulo p. -/
def pOk (p : Int) : Prop := 2 ≤ p ∧ p ≤ 1000003
instance (p : Int) : Decidable (pOk p) := inferInstanceAs (Decidable (2 ≤ p ∧ p ≤ 1000003))
def inP (p x : Int) : Prop := 0 ≤ x ∧ x < p
instance (p x : Int) : Decidable (inP p x) := inferInstanceAs (Decidable (0 ≤ x ∧ x < p))

theorem inP.le {p x : Int} (h : inP p x) : 0 ≤ x ∧ x ≤ p := ⟨h.1, Int.le_of_lt h.2⟩
theorem inP.s {p x : Int} (hp : pOk p) (h : inP p x) : 0 ≤ x ∧ x ≤ 1000003000000 := ⟨h.1, by have := h.2; have := hp.2; omega⟩
def allP (p : Int) (l : List Int) : Prop := ∀ x ∈ l, inP p x
instance (p : Int) (l : List Int) : Decidable (allP p l) := inferInstanceAs (Decidable (∀ x ∈ l, inP p x))

/-- A matrix as the program has it. -/
def mOk (x : Int × Int × List Int) : Prop := (0 ≤ x.1 ∧ x.1 ≤ 4096) ∧ (0 ≤ x.2.1 ∧ x.2.1 ≤ 4096) ∧ (x.2.2.length : Int) = x.1 * x.2.1 ∧ x.2.2.length ≤ 1048576
instance (x : Int × Int × List Int) : Decidable (mOk x) := by unfold mOk; infer_instance

end Go.Am
end
section
namespace Go.Am

/-! ### primes, rows, matrices, automata -/

def divAt (n : Int) (i : Nat) : Bool := decide ((i : Int) * i ≤ n) && decide (n % (i : Int) = 0)
def isPrimeI (n : Int) : Bool := decide (2 ≤ n ∧ n ≤ 1000003) && !((List.range' 2 999).any (divAt n))
def F_spec_IsPrime : Int → Option Bool := fun (n : Int) => some (isPrimeI n)
def F_impl_IsPrime : Int → Option Bool := fun (n : Int) => some (isPrimeI n)
def ag_spec_IsPrime : Sig := [(.one, [.int .i64])]
def rs_spec_IsPrime : Sig := [(.one, [.bool])]
def mu_spec_IsPrime : MSig := []
def ag_impl_IsPrime : Sig := [(.one, [.int .i64])]
def rs_impl_IsPrime : Sig := [(.one, [.bool])]
def mu_impl_IsPrime : MSig := []
def G_spec_IsPrime (NN : Nat) : Int → (Option Bool) :=
 (fun (i0 : Int) =>
 joinK (loopT NN (fun ((i1, i2) : (Int × Int)) =>
 cnd (leI (mulI .i64 i2 i2) i1)
 (cnd (leI i1 (1000003 : Int))
 ((remI i1 i2).bnd (fun i3 =>
 cnd (eqI i3 (0 : Int))
 (some (Sum.inr (Sum.inr false)))
 (some (Sum.inl (i1, addI .i64 i2 1)))))
 (some (Sum.inr (Sum.inl i1))))
 (some (Sum.inr (Sum.inl i1))))
 (i0, (2 : Int)))
 (fun i4 =>
 (F_spec_l01In (i4, (2 : Int), (1000003 : Int))).bnd (fun b5 =>
 some b5)))

def G_impl_IsPrime (NN : Nat) : Int → (Option Bool) :=
 (fun (i0 : Int) =>
 cnd (ltI i0 (2 : Int))
 (some false)
 (cnd (ltI (1000003 : Int) i0)
 (some false)
 (joinK (loopT NN (fun ((i1, i2) : (Int × Int)) =>
 cnd (leI (mulI .i64 i2 i2) i1)
 ((remI i1 i2).bnd (fun i3 =>
 cnd (eqI i3 (0 : Int))
 (some (Sum.inr (Sum.inr false)))
 (some (Sum.inl (i1, addI .i64 i2 1)))))
 (some (Sum.inr (Sum.inl ()))))
 (i0, (2 : Int)))
 (fun _ =>
 some true))))

theorem mulI_eq {a b : Int} (h1 : -9223372036854775808 ≤ a * b) (h2 : a * b ≤ 9223372036854775807) : mulI .i64 a b = a * b := wrap_id h1 h2
theorem remI_nat {n : Int} {i : Nat} (hn : 0 ≤ n) (hi : 0 < i) : remI n (i : Int) = some (n % (i : Int)) := by
  unfold remI
  rw [if_neg (by omega), Int.tmod_eq_emod_of_nonneg hn]

theorem sq_le {i j : Nat} (h : i ≤ j) : (i : Int) * i ≤ (j : Int) * j := by
  have := Nat.mul_le_mul h h
  exact_mod_cast this

/-- The search for a divisor. -/
theorem div_loop {X Y : Type} {f : X → Option (X ⊕ (Y ⊕ Bool))} (n : Int) (mk : Nat → X) (r : Y) (hn : n ≤ 1000003)
    (h1 : ∀ i : Nat, 2 ≤ i → i ≤ 1001 → (i : Int) * i ≤ n → n % (i : Int) = 0 → f (mk i) = some (.inr (.inr false)))
    (h2 : ∀ i : Nat, 2 ≤ i → i ≤ 1001 → (i : Int) * i ≤ n → n % (i : Int) ≠ 0 → f (mk i) = some (.inl (mk (i + 1))))
    (h3 : ∀ i : Nat, 2 ≤ i → i ≤ 1001 → ¬ (i : Int) * i ≤ n → f (mk i) = some (.inr (.inl r))) {x0 : X} (hx : x0 = mk 2) :
    loopT FUEL f x0 = some (if (List.range' 2 999).any (divAt n) = true then .inr false else .inl r) := by
  subst hx
  have key : ∀ (d i : Nat), 2 ≤ i → i + d = 1001 → ∀ N, d < N → loopT N f (mk i) = some (if (List.range' i d).any (divAt n) = true then .inr false else .inl r) := by
    intro d
    induction d with
    | zero =>
      intro i hi hd N hN
      obtain ⟨N, rfl⟩ : ∃ M, N = M + 1 := ⟨N - 1, by omega⟩
      have : i = 1001 := by omega
      subst this
      rw [loopT, h3 1001 (by omega) (by omega) (by omega)]
      rfl
    | succ d ih =>
      intro i hi hd N hN
      obtain ⟨N, rfl⟩ : ∃ M, N = M + 1 := ⟨N - 1, by omega⟩
      rw [List.range'_succ, List.any_cons]
      by_cases hle : (i : Int) * i ≤ n
      · by_cases hm : n % (i : Int) = 0
        · rw [loopT, h1 i hi (by omega) hle hm]
          simp [divAt, hle, hm]
        · rw [loopT, h2 i hi (by omega) hle hm]
          simp only
          rw [ih (i + 1) (by omega) (by omega) N (by omega), show divAt n i = false by simp [divAt, hm], Bool.false_or]
      · rw [loopT, h3 i hi (by omega) hle]
        have : (List.range' (i + 1) d).any (divAt n) = false := by
          rw [List.any_eq_false]
          intro j hj
          have := (List.mem_range'_1.1 hj).1
          have := sq_le (show i ≤ j by omega)
          simp only [divAt, Bool.and_eq_true, decide_eq_true_eq, not_and]
          intro h; omega
        simp only
        rw [this]
        simp [divAt, hle]
  exact key 999 2 (by omega) (by omega) FUEL (FUEL_gt (by omega))

theorem sq_le1001 {i : Nat} (h : i ≤ 1001) : 0 ≤ (i : Int) * i ∧ (i : Int) * i ≤ 1002001 := by
  have h1 := sq_le h
  have h0 := sq_le (Nat.zero_le i)
  omega

theorem f_spec_IsPrime (x : Int) (y : Bool) (h : F_spec_IsPrime x = some y) : G_spec_IsPrime FUEL x = some y := by
  rw [← h]
  simp only [F_spec_IsPrime, G_spec_IsPrime]
  by_cases hx : x ≤ 1000003
  · rw [div_loop x (fun i => (x, (i : Int))) x hx ?_ ?_ ?_ ?_]
    · by_cases hd : (List.range' 2 999).any (divAt x) = true
      · rw [if_pos hd, joinK_r, isPrimeI, hd]
        simp
      · rw [if_neg hd, joinK_l, isPrimeI]
        simp only [F_spec_l01In, bnd_s]
        simp [hd]
    all_goals try simp only
    · intro i h2 hi hle hm
      have hs := sq_le1001 hi
      rw [mulI_eq (by omega) (by omega), cnd_t (leI_t hle), cnd_t (leI_t hx), remI_nat (by omega) (by omega), bnd_s, cnd_t (eqI_t hm)]
    · intro i h2 hi hle hm
      have hs := sq_le1001 hi
      rw [mulI_eq (by omega) (by omega), cnd_t (leI_t hle), cnd_t (leI_t hx), remI_nat (by omega) (by omega), bnd_s, cnd_f (eqI_f hm), addI_eq (by omega) (by omega)]
      rfl
    · intro i h2 hi hle
      have hs := sq_le1001 hi
      rw [mulI_eq (by omega) (by omega), cnd_f (leI_f (by omega))]
    · rfl
  · rw [loopT_seq (fun i => (x, (i : Int) + 2)) (r := Sum.inl x) 0 (fun j hj => by omega) ?_ ?_ (FUEL_gt (by omega))]
    · rw [joinK_l, isPrimeI]
      simp only [F_spec_l01In, bnd_s]
      have : ¬ (2 ≤ x ∧ x ≤ 1000003) := by omega
      simp [this]
    · simp only
      rw [cnd_t (leI_t (by rw [mulI_eq (by omega) (by omega)]; omega)), cnd_f (leI_f (by omega))]
    · rfl

theorem f_impl_IsPrime (x : Int) (y : Bool) (h : F_impl_IsPrime x = some y) : G_impl_IsPrime FUEL x = some y := by
  rw [← h]
  simp only [F_impl_IsPrime, G_impl_IsPrime]
  by_cases h2 : x < 2
  · rw [cnd_t (ltI_t h2), isPrimeI, decide_eq_false (by omega)]; rfl
  rw [cnd_f (ltI_f (by omega))]
  by_cases hx : 1000003 < x
  · rw [cnd_t (ltI_t hx), isPrimeI, decide_eq_false (by omega)]; rfl
  rw [cnd_f (ltI_f (by omega))]
  rw [div_loop x (fun i => (x, (i : Int))) () (by omega) ?_ ?_ ?_ ?_]
  · have hr : (2 ≤ x ∧ x ≤ 1000003) := by omega
    by_cases hd : (List.range' 2 999).any (divAt x) = true
    · rw [if_pos hd, joinK_r, isPrimeI, hd]
      simp
    · rw [if_neg hd, joinK_l, isPrimeI]
      simp [hd, hr]
  all_goals try simp only
  · intro i h2 hi hle hm
    have hs := sq_le1001 hi
    rw [mulI_eq (by omega) (by omega), cnd_t (leI_t hle), remI_nat (by omega) (by omega), bnd_s, cnd_t (eqI_t hm)]
  · intro i h2 hi hle hm
    have hs := sq_le1001 hi
    rw [mulI_eq (by omega) (by omega), cnd_t (leI_t hle), remI_nat (by omega) (by omega), bnd_s, cnd_f (eqI_f hm), addI_eq (by omega) (by omega)]
    rfl
  · intro i h2 hi hle
    have hs := sq_le1001 hi
    rw [mulI_eq (by omega) (by omega), cnd_f (leI_f (by omega))]
  · rfl

theorem isPrimeI_t {m : Int} (h : isPrimeI m = true) : 2 ≤ m ∧ m ≤ 1000003 := by
  simp only [isPrimeI, Bool.and_eq_true, decide_eq_true_eq] at h
  exact h.1

end Go.Am
end
section
namespace Go.Am

/-! ### rings -/

def ringOk : Int × Int × Int → Bool := fun ((k, p, n) : Int × Int × Int) =>
  if k = 1 then decide (p = 0 ∧ n = 0) else if k = 2 then isPrimeI p && decide (n = 0) else if k = 3 ∨ k = 4 ∨ k = 5 then decide ((1 ≤ p ∧ p ≤ 1000000) ∧ n = 0)
  else if k = 6 then decide (p = 0 ∧ 1 ≤ n ∧ n ≤ 20) else if k = 7 then isPrimeI p && decide (1 ≤ n ∧ n ≤ 6) else if k = 8 then isPrimeI p && decide (p ≠ 2 ∧ n = 0) else false
def widI : Int × Int × Int → Int := fun ((k, p, n) : Int × Int × Int) => if k = 7 then n else if k = 8 then 4 else 1
def widN (r : Int × Int × Int) : Nat := (widI r).toNat
def topI : Int × Int × Int → Int := fun ((k, p, n) : Int × Int × Int) => if k = 1 then 1 else if k = 3 ∨ k = 4 ∨ k = 5 then p else if k = 6 then 2 ^ n.toNat - 1 else p - 1
def inTop (t v : Int) : Bool := decide (0 ≤ v ∧ v ≤ t)
def elOk (r : Int × Int × Int) (x : List Int) : Bool := decide (x.length = widN r) && x.all (inTop (topI r))
def zeroE : Int × Int × Int → List Int := fun ((k, p, n) : Int × Int × Int) => if k = 4 then [p] else repL (widN (k, p, n)) 0
def oneE : Int × Int × Int → List Int := fun ((k, p, n) : Int × Int × Int) => setL (repL (widN (k, p, n)) 0) 0 (if k = 4 then 0 else if k = 5 ∨ k = 6 then topI (k, p, n) else 1)
def opA : Int × Int × Int → Int → Int → Int := fun ((k, p, n) : Int × Int × Int) a b =>
  if k = 1 ∨ k = 6 then ((a.toNat ||| b.toNat : Nat) : Int) else if k = 3 then min (a + b) p else if k = 4 then min a b else if k = 5 then max a b else (a + b) % p
def sm : Nat → (Nat → Int) → Int
  | 0, _ => 0
  | n + 1, f => sm n f + f n
def kW (om : Bool) (x y : Nat → Int) (t i j : Nat) : Int := if i + j = t then x i * y j else if om = true ∧ i + j = t + 4 then -(x i * y j) else 0
def tab (w : Nat) (f : Nat → Int) : List Int := (List.range w).map f
def fnL (x : List Int) : Nat → Int := fun i => x.getD i 0
def addE (r : Int × Int × Int) (x y : List Int) : List Int := tab (widN r) fun j => opA r (fnL x j) (fnL y j)
def cvE (p : Int) (om : Bool) (w : Nat) (x y : Nat → Int) : List Int := tab w fun t => sm w (fun i => sm w (fun j => kW om x y t i j)) % p
def opM : Int × Int × Int → Int → Int → Int := fun ((k, p, n) : Int × Int × Int) a b =>
  if k = 1 ∨ k = 6 then ((a.toNat &&& b.toNat : Nat) : Int) else if k = 2 then a * b % p else if k = 3 then min (a * b) p else if k = 4 then min (a + b) p else min a b
def mulE (r : Int × Int × Int) (x y : List Int) : List Int := if r.1 = 7 ∨ r.1 = 8 then cvE r.2.1 (decide (r.1 = 8)) (widN r) (fnL x) (fnL y) else [opM r (fnL x 0) (fnL y 0)]
def powE (r : Int × Int × Int) (x : List Int) : Nat → List Int
  | 0 => oneE r
  | n + 1 => mulE r (powE r x n) x
def F_spec_RingOk : Int × Int × Int → Option Bool := fun r => some (ringOk r)
def F_impl_RingOk : Int × Int × Int → Option Bool := fun r => some (ringOk r)
def F_spec_l02Width : Int × Int × Int → Option Int := fun r => some (widI r)
def F_impl_rawWidth : Int × Int × Int → Option Int := fun r => some (widI r)
def F_spec_l02Top : Int × Int × Int → Option Int := fun r => if ringOk r = true then some (topI r) else none
def F_impl_rawTop : Int × Int × Int → Option Int := fun r => if ringOk r = true then some (topI r) else none
def F_impl_inRing : (Int × Int × Int) × List Int → Option Bool := fun ((r, x) : (Int × Int × Int) × List Int) => if ringOk r = true ∧ x.length ≤ 9223372036854775806 then some (x.all (inTop (topI r))) else none
def F_spec_l02Elem : (Int × Int × Int) × List Int → Option Bool := fun ((r, x) : (Int × Int × Int) × List Int) => if ringOk r = true ∧ x.length ≤ 9223372036854775806 then some (elOk r x) else none
def F_spec_ElemOk : (Int × Int × Int) × List Int → Option Bool := fun ((r, x) : (Int × Int × Int) × List Int) => if x.length ≤ 9223372036854775806 then some (ringOk r && elOk r x) else none
def F_impl_ElemOk : (Int × Int × Int) × List Int → Option Bool := fun ((r, x) : (Int × Int × Int) × List Int) => if x.length ≤ 9223372036854775806 then some (ringOk r && elOk r x) else none
def F_spec_l02Zero : Int × Int × Int → Option (List Int) := fun r => if ringOk r = true then some (zeroE r) else none
def F_impl_rawZero : Int × Int × Int → Option (List Int) := fun r => if ringOk r = true then some (zeroE r) else none
def F_spec_l02One : Int × Int × Int → Option (List Int) := fun r => if ringOk r = true then some (oneE r) else none
def F_impl_rawOne : Int × Int × Int → Option (List Int) := fun r => if ringOk r = true then some (oneE r) else none
def F_spec_l02Add : (Int × Int × Int) × List Int × List Int → Option (List Int) := fun ((r, x, y) : (Int × Int × Int) × List Int × List Int) => if ringOk r = true ∧ elOk r x = true ∧ elOk r y = true then some (addE r x y) else none
def F_impl_addInto : (Int × Int × Int) × List Int × List Int → Option (List Int) := fun ((r, x, y) : (Int × Int × Int) × List Int × List Int) => if ringOk r = true ∧ elOk r x = true ∧ elOk r y = true then some (addE r x y) else none
def F_impl_mulCoefficients : (Int × Int × Int) × List Int × List Int × List Int → Option (List Int) := fun ((r, l, x, y) : (Int × Int × Int) × List Int × List Int × List Int) =>
  if (ringOk r = true ∧ (r.1 = 7 ∨ r.1 = 8)) ∧ l.length = widN r ∧ elOk r x = true ∧ elOk r y = true then some (mulE r x y) else none
def F_impl_mulInto : (Int × Int × Int) × List Int × List Int × List Int → Option (List Int) := fun ((r, l, x, y) : (Int × Int × Int) × List Int × List Int × List Int) =>
  if ringOk r = true ∧ l.length = widN r ∧ elOk r x = true ∧ elOk r y = true then some (mulE r x y) else none
def F_spec_l02Mul : (Int × Int × Int) × List Int × List Int → Option (List Int) := fun ((r, x, y) : (Int × Int × Int) × List Int × List Int) => if ringOk r = true ∧ elOk r x = true ∧ elOk r y = true then some (mulE r x y) else none
def F_impl_rawMul : (Int × Int × Int) × List Int × List Int → Option (List Int) := fun ((r, x, y) : (Int × Int × Int) × List Int × List Int) => if ringOk r = true ∧ elOk r x = true ∧ elOk r y = true then some (mulE r x y) else none
def F_impl_rawPow : (Int × Int × Int) × List Int × Int → Option (List Int) := fun ((r, x, n) : (Int × Int × Int) × List Int × Int) => if (ringOk r = true ∧ elOk r x = true) ∧ 0 ≤ n ∧ n ≤ 1048576 then some (powE r x n.toNat) else none
def F_laws_toRing : Int × Int × Int → Option (Int × Int × Int) := fun r => some r

def ag_laws_toRing : Sig := [(.agg, [.int .i64, .int .i64, .int .i64])]
def rs_laws_toRing : Sig := [(.agg, [.int .i64, .int .i64, .int .i64])]
def mu_laws_toRing : MSig := []
def ag_impl_RingOk : Sig := [(.agg, [.int .i64, .int .i64, .int .i64])]
def rs_impl_RingOk : Sig := [(.one, [.bool])]
def mu_impl_RingOk : MSig := []
def ag_spec_RingOk : Sig := [(.agg, [.int .i64, .int .i64, .int .i64])]
def rs_spec_RingOk : Sig := [(.one, [.bool])]
def mu_spec_RingOk : MSig := []
def ag_impl_rawWidth : Sig := [(.agg, [.int .i64, .int .i64, .int .i64])]
def rs_impl_rawWidth : Sig := [(.one, [.int .i64])]
def mu_impl_rawWidth : MSig := []
def ag_spec_l02Width : Sig := [(.agg, [.int .i64, .int .i64, .int .i64])]
def rs_spec_l02Width : Sig := [(.one, [.int .i64])]
def mu_spec_l02Width : MSig := []
def ag_impl_rawTop : Sig := [(.agg, [.int .i64, .int .i64, .int .i64])]
def rs_impl_rawTop : Sig := [(.one, [.int .i64])]
def mu_impl_rawTop : MSig := []
def ag_spec_l02Top : Sig := [(.agg, [.int .i64, .int .i64, .int .i64])]
def rs_spec_l02Top : Sig := [(.one, [.int .i64])]
def mu_spec_l02Top : MSig := []
def ag_impl_inRing : Sig := [(.agg, [.int .i64, .int .i64, .int .i64]), (.one, [.list [.int .i64]])]
def rs_impl_inRing : Sig := [(.one, [.bool])]
def mu_impl_inRing : MSig := []
def ag_spec_l02Elem : Sig := [(.agg, [.int .i64, .int .i64, .int .i64]), (.one, [.list [.int .i64]])]
def rs_spec_l02Elem : Sig := [(.one, [.bool])]
def mu_spec_l02Elem : MSig := []
def ag_impl_ElemOk : Sig := [(.agg, [.int .i64, .int .i64, .int .i64]), (.one, [.list [.int .i64]])]
def rs_impl_ElemOk : Sig := [(.one, [.bool])]
def mu_impl_ElemOk : MSig := []
def ag_spec_ElemOk : Sig := [(.agg, [.int .i64, .int .i64, .int .i64]), (.one, [.list [.int .i64]])]
def rs_spec_ElemOk : Sig := [(.one, [.bool])]
def mu_spec_ElemOk : MSig := []
def ag_impl_rawZero : Sig := [(.agg, [.int .i64, .int .i64, .int .i64])]
def rs_impl_rawZero : Sig := [(.one, [.list [.int .i64]])]
def mu_impl_rawZero : MSig := []
def ag_spec_l02Zero : Sig := [(.agg, [.int .i64, .int .i64, .int .i64])]
def rs_spec_l02Zero : Sig := [(.one, [.list [.int .i64]])]
def mu_spec_l02Zero : MSig := []
def ag_impl_rawOne : Sig := [(.agg, [.int .i64, .int .i64, .int .i64])]
def rs_impl_rawOne : Sig := [(.one, [.list [.int .i64]])]
def mu_impl_rawOne : MSig := []
def ag_spec_l02One : Sig := [(.agg, [.int .i64, .int .i64, .int .i64])]
def rs_spec_l02One : Sig := [(.one, [.list [.int .i64]])]
def mu_spec_l02One : MSig := []
def ag_impl_addInto : Sig := [(.agg, [.int .i64, .int .i64, .int .i64]), (.one, [.list [.int .i64]]), (.one, [.list [.int .i64]])]
def rs_impl_addInto : Sig := [(.one, [.list [.int .i64]])]
def mu_impl_addInto : MSig := [[], [some .froz]]
def ag_spec_l02Add : Sig := [(.agg, [.int .i64, .int .i64, .int .i64]), (.one, [.list [.int .i64]]), (.one, [.list [.int .i64]])]
def rs_spec_l02Add : Sig := [(.one, [.list [.int .i64]])]
def mu_spec_l02Add : MSig := []
def ag_impl_mulCoefficients : Sig := [(.agg, [.int .i64, .int .i64, .int .i64]), (.one, [.list [.int .i64]]), (.one, [.list [.int .i64]]), (.one, [.list [.int .i64]])]
def rs_impl_mulCoefficients : Sig := [(.one, [.list [.int .i64]])]
def mu_impl_mulCoefficients : MSig := [[], [some .froz]]
def ag_impl_mulInto : Sig := [(.agg, [.int .i64, .int .i64, .int .i64]), (.one, [.list [.int .i64]]), (.one, [.list [.int .i64]]), (.one, [.list [.int .i64]])]
def rs_impl_mulInto : Sig := [(.one, [.list [.int .i64]])]
def mu_impl_mulInto : MSig := [[], [some .froz]]
def ag_spec_l02Mul : Sig := [(.agg, [.int .i64, .int .i64, .int .i64]), (.one, [.list [.int .i64]]), (.one, [.list [.int .i64]])]
def rs_spec_l02Mul : Sig := [(.one, [.list [.int .i64]])]
def mu_spec_l02Mul : MSig := []
def ag_impl_rawMul : Sig := [(.agg, [.int .i64, .int .i64, .int .i64]), (.one, [.list [.int .i64]]), (.one, [.list [.int .i64]])]
def rs_impl_rawMul : Sig := [(.one, [.list [.int .i64]])]
def mu_impl_rawMul : MSig := []
def ag_impl_rawPow : Sig := [(.agg, [.int .i64, .int .i64, .int .i64]), (.one, [.list [.int .i64]]), (.one, [.int .i64])]
def rs_impl_rawPow : Sig := [(.one, [.list [.int .i64]])]
def mu_impl_rawPow : MSig := []
def G_laws_toRing (NN : Nat) : (Int × (Int × Int)) → (Option (Int × (Int × Int))) :=
 (fun ((i0, i1, i2) : (Int × (Int × Int))) =>
 some (i0, i1, i2))


def G_impl_RingOk (NN : Nat) : (Int × (Int × Int)) → (Option Bool) :=
 (fun ((i0, i1, i2) : (Int × (Int × Int))) =>
 cnd (eqI i0 (1 : Int))
 (cnd (eqI i1 (0 : Int))
 (some (eqI i2 (0 : Int)))
 (some false))
 (cnd (eqI i0 (2 : Int))
 ((F_impl_IsPrime i1).bnd (fun b3 =>
 cnd (b3)
 (some (eqI i2 (0 : Int)))
 (some false)))
 (joinK (cnd (eqI i0 (3 : Int))
 (some (Sum.inl ((true, i0), i0, i1, i2)))
 (cnd (eqI i0 (4 : Int))
 (some (Sum.inl ((true, i0), i0, i1, i2)))
 (some (Sum.inl ((eqI i0 (5 : Int), i0), i0, i1, i2)))))
 (fun ((b4, i5), i6, i7, i8) =>
 cnd (b4)
 (cnd (leI (1 : Int) i7)
 (cnd (leI i7 (1000000 : Int))
 (some (eqI i8 (0 : Int)))
 (some false))
 (some false))
 (cnd (eqI i5 (6 : Int))
 (cnd (eqI i7 (0 : Int))
 (cnd (leI (1 : Int) i8)
 (some (leI i8 (20 : Int)))
 (some false))
 (some false))
 (cnd (eqI i5 (7 : Int))
 ((F_impl_IsPrime i7).bnd (fun b9 =>
 cnd (b9)
 (cnd (leI (1 : Int) i8)
 (some (leI i8 (6 : Int)))
 (some false))
 (some false)))
 (cnd (eqI i5 (8 : Int))
 ((F_impl_IsPrime i7).bnd (fun b10 =>
 cnd (b10)
 (cnd (neI i7 (2 : Int))
 (some (eqI i8 (0 : Int)))
 (some false))
 (some false)))
 (some false))))))))


def G_spec_RingOk (NN : Nat) : (Int × (Int × Int)) → (Option Bool) :=
 (fun ((i0, i1, i2) : (Int × (Int × Int))) =>
 cnd (eqI i0 (1 : Int))
 (cnd (eqI i1 (0 : Int))
 (some (eqI i2 (0 : Int)))
 (some false))
 (cnd (eqI i0 (2 : Int))
 ((F_spec_IsPrime i1).bnd (fun b3 =>
 cnd (b3)
 (some (eqI i2 (0 : Int)))
 (some false)))
 (joinK (cnd (eqI i0 (3 : Int))
 (some (Sum.inl ((true, i0), i0, i1, i2)))
 (cnd (eqI i0 (4 : Int))
 (some (Sum.inl ((true, i0), i0, i1, i2)))
 (some (Sum.inl ((eqI i0 (5 : Int), i0), i0, i1, i2)))))
 (fun ((b4, i5), i6, i7, i8) =>
 cnd (b4)
 ((F_spec_l01In (i7, (1 : Int), (1000000 : Int))).bnd (fun b9 =>
 cnd (b9)
 (some (eqI i8 (0 : Int)))
 (some false)))
 (cnd (eqI i5 (6 : Int))
 (cnd (eqI i7 (0 : Int))
 ((F_spec_l01In (i8, (1 : Int), (20 : Int))).bnd (fun b10 =>
 some b10))
 (some false))
 (cnd (eqI i5 (7 : Int))
 ((F_spec_IsPrime i7).bnd (fun b11 =>
 cnd (b11)
 ((F_spec_l01In (i8, (1 : Int), (6 : Int))).bnd (fun b12 =>
 some b12))
 (some false)))
 (cnd (eqI i5 (8 : Int))
 ((F_spec_IsPrime i7).bnd (fun b13 =>
 cnd (b13)
 (cnd (ltI (2 : Int) i7)
 (some (eqI i8 (0 : Int)))
 (some false))
 (some false)))
 (some false))))))))


def G_impl_rawWidth (NN : Nat) : (Int × (Int × Int)) → (Option Int) :=
 (fun ((i0, i1, i2) : (Int × (Int × Int))) =>
 cnd (eqI i0 (7 : Int))
 (some i2)
 (cnd (eqI i0 (8 : Int))
 (some (4 : Int))
 (some (1 : Int))))


def G_spec_l02Width (NN : Nat) : (Int × (Int × Int)) → (Option Int) :=
 (fun ((i0, i1, i2) : (Int × (Int × Int))) =>
 cnd (eqI i0 (7 : Int))
 (some i2)
 (cnd (eqI i0 (8 : Int))
 (some (4 : Int))
 (some (1 : Int))))


def G_impl_rawTop (NN : Nat) : (Int × (Int × Int)) → (Option Int) :=
 (fun ((i0, i1, i2) : (Int × (Int × Int))) =>
 cnd (eqI i0 (1 : Int))
 (some (1 : Int))
 (joinK (cnd (eqI i0 (3 : Int))
 (some (Sum.inl ((true, i0), i0, i1, i2)))
 (cnd (eqI i0 (4 : Int))
 (some (Sum.inl ((true, i0), i0, i1, i2)))
 (some (Sum.inl ((eqI i0 (5 : Int), i0), i0, i1, i2)))))
 (fun ((b3, i4), i5, i6, i7) =>
 cnd (b3)
 (some i6)
 (cnd (eqI i4 (6 : Int))
 ((shlI .i64 (1 : Int) i7).bnd (fun i8 =>
 some (subI .i64 i8 1)))
 (some (subI .i64 i6 1))))))


def G_spec_l02Top (NN : Nat) : (Int × (Int × Int)) → (Option Int) :=
 (fun ((i0, i1, i2) : (Int × (Int × Int))) =>
 cnd (eqI i0 (1 : Int))
 (some (1 : Int))
 (joinK (cnd (eqI i0 (3 : Int))
 (some (Sum.inl ((true, i0), i0, i1, i2)))
 (cnd (eqI i0 (4 : Int))
 (some (Sum.inl ((true, i0), i0, i1, i2)))
 (some (Sum.inl ((eqI i0 (5 : Int), i0), i0, i1, i2)))))
 (fun ((b3, i4), i5, i6, i7) =>
 cnd (b3)
 (some i6)
 (cnd (eqI i4 (6 : Int))
 ((shlI .i64 (1 : Int) i7).bnd (fun i8 =>
 some (subI .i64 i8 1)))
 (some (subI .i64 i6 1))))))


def G_impl_inRing (NN : Nat) : ((Int × (Int × Int)) × (List Int)) → (Option Bool) :=
 (fun (((i0, i1, i2), l3) : ((Int × (Int × Int)) × (List Int))) =>
 (F_impl_rawTop (i0, i1, i2)).bnd (fun i4 =>
 joinK (loopT NN (fun ((i5, l6, i7, i8) : (Int × ((List Int) × (Int × Int)))) =>
 cnd (ltI i8 i7)
 ((getI l6 i8).bnd (fun i9 =>
 cnd (ltI i9 (0 : Int))
 (some (Sum.inr (Sum.inr false)))
 (cnd (ltI i5 i9)
 (some (Sum.inr (Sum.inr false)))
 (some (Sum.inl (i5, l6, i7, addI .i64 i8 1))))))
 (some (Sum.inr (Sum.inl ()))))
 (i4, l3, natI (lenN l3), (0 : Int)))
 (fun _ =>
 some true)))


def G_spec_l02Elem (NN : Nat) : ((Int × (Int × Int)) × (List Int)) → (Option Bool) :=
 (fun (((i0, i1, i2), l3) : ((Int × (Int × Int)) × (List Int))) =>
 joinK (loopT NN (fun (((l4, l5, i6, i7), i8, i9, i10) : (((List Int) × ((List Int) × (Int × Int))) × (Int × (Int × Int)))) =>
 cnd (ltI i7 i6)
 ((getI l5 i7).bnd (fun i11 =>
 (F_spec_l02Top (i8, i9, i10)).bnd (fun i12 =>
 (F_spec_l01In (i11, (0 : Int), i12)).bnd (fun b13 =>
 cnd (notB b13)
 (some (Sum.inr (Sum.inr false)))
 (some (Sum.inl ((l4, l5, i6, addI .i64 i7 1), i8, i9, i10)))))))
 (some (Sum.inr (Sum.inl (l4, i8, i9, i10)))))
 ((l3, l3, natI (lenN l3), (0 : Int)), i0, i1, i2))
 (fun (l14, i15, i16, i17) =>
 (F_spec_l02Width (i15, i16, i17)).bnd (fun i18 =>
 some (eqI (natI (lenN l14)) i18))))


def G_impl_ElemOk (NN : Nat) : ((Int × (Int × Int)) × (List Int)) → (Option Bool) :=
 (fun (((i0, i1, i2), l3) : ((Int × (Int × Int)) × (List Int))) =>
 (F_impl_RingOk (i0, i1, i2)).bnd (fun b4 =>
 cnd (b4)
 ((F_impl_rawWidth (i0, i1, i2)).bnd (fun i5 =>
 cnd (eqI (natI (lenN l3)) i5)
 ((F_impl_inRing ((i0, i1, i2), l3)).bnd (fun b6 =>
 some b6))
 (some false)))
 (some false)))


def G_spec_ElemOk (NN : Nat) : ((Int × (Int × Int)) × (List Int)) → (Option Bool) :=
 (fun (((i0, i1, i2), l3) : ((Int × (Int × Int)) × (List Int))) =>
 (F_spec_RingOk (i0, i1, i2)).bnd (fun b4 =>
 cnd (b4)
 ((F_spec_l02Elem ((i0, i1, i2), l3)).bnd (fun b5 =>
 some b5))
 (some false)))


def G_impl_rawZero (NN : Nat) : (Int × (Int × Int)) → (Option (List Int)) :=
 (fun ((i0, i1, i2) : (Int × (Int × Int))) =>
 (F_impl_rawWidth (i0, i1, i2)).bnd (fun i3 =>
 (mkI i3 i3 8).bnd (fun k4 =>
 joinK (cnd (eqI i0 (4 : Int))
 ((chkI (0 : Int) k4).bnd (fun k5 =>
 (getN (repL k4 (0 : Int)) (addN 0 k5)).bnd (fun i6 =>
 (fulI 0 k4 (lenN (setL (repL k4 (0 : Int)) (addN 0 k5) i1))).bnd (fun _ =>
 some (Sum.inl (setL (repL k4 (0 : Int)) (addN 0 k5) i1))))))
 ((fulI 0 k4 (lenN (repL k4 (0 : Int)))).bnd (fun _ =>
 some (Sum.inl (repL k4 (0 : Int))))))
 (fun l7 =>
 (takI l7 (lenN l7)).bnd (fun l8 =>
 some l8)))))


def G_spec_l02Zero (NN : Nat) : (Int × (Int × Int)) → (Option (List Int)) :=
 (fun ((i0, i1, i2) : (Int × (Int × Int))) =>
 (F_spec_l02Width (i0, i1, i2)).bnd (fun i3 =>
 (mkI i3 i3 8).bnd (fun k4 =>
 joinK (cnd (eqI i0 (4 : Int))
 ((chkI (0 : Int) k4).bnd (fun k5 =>
 (getN (repL k4 (0 : Int)) (addN 0 k5)).bnd (fun i6 =>
 (fulI 0 k4 (lenN (setL (repL k4 (0 : Int)) (addN 0 k5) i1))).bnd (fun _ =>
 some (Sum.inl (setL (repL k4 (0 : Int)) (addN 0 k5) i1))))))
 ((fulI 0 k4 (lenN (repL k4 (0 : Int)))).bnd (fun _ =>
 some (Sum.inl (repL k4 (0 : Int))))))
 (fun l7 =>
 (takI l7 (lenN l7)).bnd (fun l8 =>
 some l8)))))


def G_impl_rawOne (NN : Nat) : (Int × (Int × Int)) → (Option (List Int)) :=
 (fun ((i0, i1, i2) : (Int × (Int × Int))) =>
 (F_impl_rawWidth (i0, i1, i2)).bnd (fun i3 =>
 (mkI i3 i3 8).bnd (fun k4 =>
 cnd (eqI i0 (4 : Int))
 ((chkI (0 : Int) k4).bnd (fun k5 =>
 (getN (repL k4 (0 : Int)) (addN 0 k5)).bnd (fun i6 =>
 (takI (setL (repL k4 (0 : Int)) (addN 0 k5) (0 : Int)) k4).bnd (fun l7 =>
 some l7))))
 (cnd (eqI i0 (5 : Int))
 ((chkI (0 : Int) k4).bnd (fun k8 =>
 (getN (repL k4 (0 : Int)) (addN 0 k8)).bnd (fun i9 =>
 (takI (setL (repL k4 (0 : Int)) (addN 0 k8) i1) k4).bnd (fun l10 =>
 some l10))))
 (cnd (eqI i0 (6 : Int))
 ((F_impl_rawTop (i0, i1, i2)).bnd (fun i11 =>
 (chkI (0 : Int) k4).bnd (fun k12 =>
 (getN (repL k4 (0 : Int)) (addN 0 k12)).bnd (fun i13 =>
 (takI (setL (repL k4 (0 : Int)) (addN 0 k12) i11) k4).bnd (fun l14 =>
 some l14)))))
 ((chkI (0 : Int) k4).bnd (fun k15 =>
 (getN (repL k4 (0 : Int)) (addN 0 k15)).bnd (fun i16 =>
 (takI (setL (repL k4 (0 : Int)) (addN 0 k15) (1 : Int)) k4).bnd (fun l17 =>
 some l17)))))))))


def G_spec_l02One (NN : Nat) : (Int × (Int × Int)) → (Option (List Int)) :=
 (fun ((i0, i1, i2) : (Int × (Int × Int))) =>
 (F_spec_l02Width (i0, i1, i2)).bnd (fun i3 =>
 (mkI i3 i3 8).bnd (fun k4 =>
 joinK (cnd (eqI i0 (5 : Int))
 ((fulI 0 k4 (lenN (repL k4 (0 : Int)))).bnd (fun _ =>
 some (Sum.inl ((true, i0), (i0, i1, i2), repL k4 (0 : Int)))))
 ((fulI 0 k4 (lenN (repL k4 (0 : Int)))).bnd (fun _ =>
 some (Sum.inl ((eqI i0 (6 : Int), i0), (i0, i1, i2), repL k4 (0 : Int))))))
 (fun ((b5, i6), (i7, i8, i9), l10) =>
 cnd (b5)
 ((F_spec_l02Top (i7, i8, i9)).bnd (fun i11 =>
 (chkI (0 : Int) (lenN l10)).bnd (fun k12 =>
 (getN l10 (addN 0 k12)).bnd (fun i13 =>
 (takI (setL l10 (addN 0 k12) i11) (lenN l10)).bnd (fun l14 =>
 some l14)))))
 (cnd (eqI i6 (4 : Int))
 ((chkI (0 : Int) (lenN l10)).bnd (fun k15 =>
 (getN l10 (addN 0 k15)).bnd (fun i16 =>
 (takI (setL l10 (addN 0 k15) (0 : Int)) (lenN l10)).bnd (fun l17 =>
 some l17))))
 ((chkI (0 : Int) (lenN l10)).bnd (fun k18 =>
 (getN l10 (addN 0 k18)).bnd (fun i19 =>
 (takI (setL l10 (addN 0 k18) (1 : Int)) (lenN l10)).bnd (fun l20 =>
 some l20)))))))))


def G_impl_addInto (NN : Nat) : ((Int × (Int × Int)) × ((List Int) × (List Int))) → (Option (List Int)) :=
 (fun (((i0, i1, i2), l3, l4) : ((Int × (Int × Int)) × ((List Int) × (List Int)))) =>
 joinK (cnd (eqI i0 (1 : Int))
 ((fulI 0 (lenN l3) (lenN l3)).bnd (fun _ =>
 some (Sum.inl ((true, i0, l4), l3, i0, i1, i2))))
 ((fulI 0 (lenN l3) (lenN l3)).bnd (fun _ =>
 some (Sum.inl ((eqI i0 (5 : Int), i0, l4), l3, i0, i1, i2)))))
 (fun ((b5, i6, l7), l8, i9, i10, i11) =>
 cnd (b5)
 ((chkI (0 : Int) (lenN l8)).bnd (fun k12 =>
 (getN l8 (addN 0 k12)).bnd (fun i13 =>
 (getI l7 (0 : Int)).bnd (fun i14 =>
 (chkI (0 : Int) (lenN l8)).bnd (fun k15 =>
 (getN l8 (addN 0 k15)).bnd (fun i16 =>
 (samI (lenN (setL l8 (addN 0 k15) (maxI i13 i14))) (lenN l3)).bnd (fun _ =>
 some (setL l8 (addN 0 k15) (maxI i13 i14)))))))))
 (cnd (eqI i6 (3 : Int))
 ((chkI (0 : Int) (lenN l8)).bnd (fun k17 =>
 (getN l8 (addN 0 k17)).bnd (fun i18 =>
 (getI l7 (0 : Int)).bnd (fun i19 =>
 (chkI (0 : Int) (lenN l8)).bnd (fun k20 =>
 (getN l8 (addN 0 k20)).bnd (fun i21 =>
 (samI (lenN (setL l8 (addN 0 k20) (minI (addI .i64 i18 i19) i10))) (lenN l3)).bnd (fun _ =>
 some (setL l8 (addN 0 k20) (minI (addI .i64 i18 i19) i10)))))))))
 (cnd (eqI i6 (4 : Int))
 ((chkI (0 : Int) (lenN l8)).bnd (fun k22 =>
 (getN l8 (addN 0 k22)).bnd (fun i23 =>
 (getI l7 (0 : Int)).bnd (fun i24 =>
 (chkI (0 : Int) (lenN l8)).bnd (fun k25 =>
 (getN l8 (addN 0 k25)).bnd (fun i26 =>
 (samI (lenN (setL l8 (addN 0 k25) (minI i23 i24))) (lenN l3)).bnd (fun _ =>
 some (setL l8 (addN 0 k25) (minI i23 i24)))))))))
 (cnd (eqI i6 (6 : Int))
 ((chkI (0 : Int) (lenN l8)).bnd (fun k27 =>
 (getN l8 (addN 0 k27)).bnd (fun i28 =>
 (getI l7 (0 : Int)).bnd (fun i29 =>
 (chkI (0 : Int) (lenN l8)).bnd (fun k30 =>
 (getN l8 (addN 0 k30)).bnd (fun i31 =>
 (samI (lenN (setL l8 (addN 0 k30) (orI .i64 i28 i29))) (lenN l3)).bnd (fun _ =>
 some (setL l8 (addN 0 k30) (orI .i64 i28 i29)))))))))
 ((fulI 0 (lenN l8) (lenN l8)).bnd (fun _ =>
 loopT NN (fun (((l32, i33, i34), l35, i36, i37, i38) : (((List Int) × (Int × Int)) × ((List Int) × (Int × (Int × Int))))) =>
 cnd (ltI i34 i33)
 ((chkI i34 (lenN l35)).bnd (fun k39 =>
 (getN l35 (addN 0 k39)).bnd (fun i40 =>
 (getI l32 i34).bnd (fun i41 =>
 (remI (addI .i64 i40 i41) i37).bnd (fun i42 =>
 (chkI i34 (lenN l35)).bnd (fun k43 =>
 (getN l35 (addN 0 k43)).bnd (fun i44 =>
 (fulI 0 (lenN l35) (lenN (setL l35 (addN 0 k43) i42))).bnd (fun _ =>
 some (Sum.inl ((l32, i33, addI .i64 i34 1), setL l35 (addN 0 k43) i42, i36, i37, i38))))))))))
 (((samI (lenN l35) (lenN l3)).bnd (fun _ =>
 some l35)).bnd (fun l45 =>
 some (Sum.inr l45))))
 ((l7, natI (lenN l8), (0 : Int)), l8, i9, i10, i11))))))))


def G_spec_l02Add (NN : Nat) : ((Int × (Int × Int)) × ((List Int) × (List Int))) → (Option (List Int)) :=
 (fun (((i0, i1, i2), l3, l4) : ((Int × (Int × Int)) × ((List Int) × (List Int)))) =>
 (mkI (natI (lenN l3)) (natI (lenN l3)) 8).bnd (fun k5 =>
 joinK ((fulI 0 k5 (lenN (repL k5 (0 : Int)))).bnd (fun _ =>
 loopT NN (fun (((l6, l7, i8, i9), (i10, i11, i12), l13) : (((List Int) × ((List Int) × (Int × Int))) × ((Int × (Int × Int)) × (List Int)))) =>
 cnd (ltI i9 i8)
 (joinK (cnd (eqI i10 (1 : Int))
 ((fulI 0 (lenN l13) (lenN l13)).bnd (fun _ =>
 some (Sum.inl ((true, i10, i9, i9, l6, l7, i8), (i10, i11, i12), l13))))
 ((fulI 0 (lenN l13) (lenN l13)).bnd (fun _ =>
 some (Sum.inl ((eqI i10 (6 : Int), i10, i9, i9, l6, l7, i8), (i10, i11, i12), l13)))))
 (fun ((b14, i15, i16, i17, l18, l19, i20), (i21, i22, i23), l24) =>
 cnd (b14)
 ((getI l18 i16).bnd (fun i25 =>
 (getI l19 i16).bnd (fun i26 =>
 (chkI i16 (lenN l24)).bnd (fun k27 =>
 (getN l24 (addN 0 k27)).bnd (fun i28 =>
 (fulI 0 (lenN l24) (lenN (setL l24 (addN 0 k27) (orI .i64 i25 i26)))).bnd (fun _ =>
 some (Sum.inl ((l18, l19, i20, addI .i64 i17 1), (i21, i22, i23), setL l24 (addN 0 k27) (orI .i64 i25 i26)))))))))
 (cnd (eqI i15 (3 : Int))
 ((getI l18 i16).bnd (fun i29 =>
 (getI l19 i16).bnd (fun i30 =>
 (chkI i16 (lenN l24)).bnd (fun k31 =>
 (getN l24 (addN 0 k31)).bnd (fun i32 =>
 (fulI 0 (lenN l24) (lenN (setL l24 (addN 0 k31) (minI (addI .i64 i29 i30) i22)))).bnd (fun _ =>
 some (Sum.inl ((l18, l19, i20, addI .i64 i17 1), (i21, i22, i23), setL l24 (addN 0 k31) (minI (addI .i64 i29 i30) i22)))))))))
 (cnd (eqI i15 (4 : Int))
 ((getI l18 i16).bnd (fun i33 =>
 (getI l19 i16).bnd (fun i34 =>
 (chkI i16 (lenN l24)).bnd (fun k35 =>
 (getN l24 (addN 0 k35)).bnd (fun i36 =>
 (fulI 0 (lenN l24) (lenN (setL l24 (addN 0 k35) (minI i33 i34)))).bnd (fun _ =>
 some (Sum.inl ((l18, l19, i20, addI .i64 i17 1), (i21, i22, i23), setL l24 (addN 0 k35) (minI i33 i34)))))))))
 (cnd (eqI i15 (5 : Int))
 ((getI l18 i16).bnd (fun i37 =>
 (getI l19 i16).bnd (fun i38 =>
 (chkI i16 (lenN l24)).bnd (fun k39 =>
 (getN l24 (addN 0 k39)).bnd (fun i40 =>
 (fulI 0 (lenN l24) (lenN (setL l24 (addN 0 k39) (maxI i37 i38)))).bnd (fun _ =>
 some (Sum.inl ((l18, l19, i20, addI .i64 i17 1), (i21, i22, i23), setL l24 (addN 0 k39) (maxI i37 i38)))))))))
 ((getI l18 i16).bnd (fun i41 =>
 (getI l19 i16).bnd (fun i42 =>
 (remI (addI .i64 i41 i42) i22).bnd (fun i43 =>
 (chkI i16 (lenN l24)).bnd (fun k44 =>
 (getN l24 (addN 0 k44)).bnd (fun i45 =>
 (fulI 0 (lenN l24) (lenN (setL l24 (addN 0 k44) i43))).bnd (fun _ =>
 some (Sum.inl ((l18, l19, i20, addI .i64 i17 1), (i21, i22, i23), setL l24 (addN 0 k44) i43))))))))))))))
 (((fulI 0 (lenN l13) (lenN l13)).bnd (fun _ =>
 some (Sum.inl l13))).bnd (fun l46 =>
 some (Sum.inr l46))))
 ((l3, l4, natI (lenN l3), (0 : Int)), (i0, i1, i2), repL k5 (0 : Int))))
 (fun l47 =>
 (takI l47 (lenN l47)).bnd (fun l48 =>
 some l48))))


def G_impl_mulCoefficients (NN : Nat) : ((Int × (Int × Int)) × ((List Int) × ((List Int) × (List Int)))) → (Option (List Int)) :=
 (fun (((i0, i1, i2), l3, l4, l5) : ((Int × (Int × Int)) × ((List Int) × ((List Int) × (List Int))))) =>
 (cpyL l3 0 (lenN l3) (repL (lenN l3) (0 : Int))).bnd (fun l6 =>
 (fulI 0 (lenN l3) (lenN l6)).bnd (fun _ =>
 loopT NN (fun (((l7, l8, i9, i10), l11, i12, i13, i14) : (((List Int) × ((List Int) × (Int × Int))) × ((List Int) × (Int × (Int × Int))))) =>
 cnd (ltI i10 i9)
 (joinK ((fulI 0 (lenN l11) (lenN l11)).bnd (fun _ =>
 loopT NN (fun (((l15, l16, i17, i18, i19, i20, i21), l22, i23, i24, i25) : (((List Int) × ((List Int) × (Int × (Int × (Int × (Int × Int)))))) × ((List Int) × (Int × (Int × Int))))) =>
 cnd (ltI i21 i20)
 ((getI l15 i17).bnd (fun i26 =>
 (getI l16 i21).bnd (fun i27 =>
 (remI (mulI .i64 i26 i27) i24).bnd (fun i28 =>
 cnd (ltI (addI .i64 i17 i21) (natI (lenN l22)))
 ((chkI (addI .i64 i17 i21) (lenN l22)).bnd (fun k29 =>
 (getN l22 (addN 0 k29)).bnd (fun i30 =>
 (remI (addI .i64 i30 i28) i24).bnd (fun i31 =>
 (chkI (addI .i64 i17 i21) (lenN l22)).bnd (fun k32 =>
 (getN l22 (addN 0 k32)).bnd (fun i33 =>
 (fulI 0 (lenN l22) (lenN (setL l22 (addN 0 k32) i31))).bnd (fun _ =>
 some (Sum.inl ((l15, l16, i17, i18, i19, i20, addI .i64 i21 1), setL l22 (addN 0 k32) i31, i23, i24, i25)))))))))
 (cnd (eqI i23 (8 : Int))
 ((chkI (subI .i64 (addI .i64 i17 i21) (4 : Int)) (lenN l22)).bnd (fun k34 =>
 (getN l22 (addN 0 k34)).bnd (fun i35 =>
 (remI (subI .i64 (addI .i64 i35 i24) i28) i24).bnd (fun i36 =>
 (chkI (subI .i64 (addI .i64 i17 i21) (4 : Int)) (lenN l22)).bnd (fun k37 =>
 (getN l22 (addN 0 k37)).bnd (fun i38 =>
 (fulI 0 (lenN l22) (lenN (setL l22 (addN 0 k37) i36))).bnd (fun _ =>
 some (Sum.inl ((l15, l16, i17, i18, i19, i20, addI .i64 i21 1), setL l22 (addN 0 k37) i36, i23, i24, i25)))))))))
 ((fulI 0 (lenN l22) (lenN l22)).bnd (fun _ =>
 some (Sum.inl ((l15, l16, i17, i18, i19, i20, addI .i64 i21 1), l22, i23, i24, i25)))))))))
 (((fulI 0 (lenN l22) (lenN l22)).bnd (fun _ =>
 some (Sum.inl ((i19, l15, l16, i18), l22, i23, i24, i25)))).bnd (fun l39 =>
 some (Sum.inr l39))))
 ((l7, l8, i10, i9, i10, natI (lenN l8), (0 : Int)), l11, i12, i13, i14)))
 (fun ((i40, l41, l42, i43), l44, i45, i46, i47) =>
 (fulI 0 (lenN l44) (lenN l44)).bnd (fun _ =>
 some (Sum.inl ((l41, l42, i43, addI .i64 i40 1), l44, i45, i46, i47)))))
 (((samI (lenN l11) (lenN l3)).bnd (fun _ =>
 some l11)).bnd (fun l48 =>
 some (Sum.inr l48))))
 ((l4, l5, natI (lenN l4), (0 : Int)), l6, i0, i1, i2))))


def G_impl_mulInto (NN : Nat) : ((Int × (Int × Int)) × ((List Int) × ((List Int) × (List Int)))) → (Option (List Int)) :=
 (fun (((i0, i1, i2), l3, l4, l5) : ((Int × (Int × Int)) × ((List Int) × ((List Int) × (List Int))))) =>
 joinK (cnd (eqI i0 (1 : Int))
 ((fulI 0 (lenN l3) (lenN l3)).bnd (fun _ =>
 some (Sum.inl ((true, i0, l4, l5), l3, i0, i1, i2))))
 ((fulI 0 (lenN l3) (lenN l3)).bnd (fun _ =>
 some (Sum.inl ((eqI i0 (5 : Int), i0, l4, l5), l3, i0, i1, i2)))))
 (fun ((b6, i7, l8, l9), l10, i11, i12, i13) =>
 cnd (b6)
 ((getI l8 (0 : Int)).bnd (fun i14 =>
 (getI l9 (0 : Int)).bnd (fun i15 =>
 (chkI (0 : Int) (lenN l10)).bnd (fun k16 =>
 (getN l10 (addN 0 k16)).bnd (fun i17 =>
 (samI (lenN (setL l10 (addN 0 k16) (minI i14 i15))) (lenN l3)).bnd (fun _ =>
 some (setL l10 (addN 0 k16) (minI i14 i15))))))))
 (cnd (eqI i7 (2 : Int))
 ((getI l8 (0 : Int)).bnd (fun i18 =>
 (getI l9 (0 : Int)).bnd (fun i19 =>
 (remI (mulI .i64 i18 i19) i12).bnd (fun i20 =>
 (chkI (0 : Int) (lenN l10)).bnd (fun k21 =>
 (getN l10 (addN 0 k21)).bnd (fun i22 =>
 (samI (lenN (setL l10 (addN 0 k21) i20)) (lenN l3)).bnd (fun _ =>
 some (setL l10 (addN 0 k21) i20))))))))
 (cnd (eqI i7 (3 : Int))
 ((getI l8 (0 : Int)).bnd (fun i23 =>
 (getI l9 (0 : Int)).bnd (fun i24 =>
 (chkI (0 : Int) (lenN l10)).bnd (fun k25 =>
 (getN l10 (addN 0 k25)).bnd (fun i26 =>
 (samI (lenN (setL l10 (addN 0 k25) (minI (mulI .i64 i23 i24) i12))) (lenN l3)).bnd (fun _ =>
 some (setL l10 (addN 0 k25) (minI (mulI .i64 i23 i24) i12))))))))
 (cnd (eqI i7 (4 : Int))
 ((getI l8 (0 : Int)).bnd (fun i27 =>
 (getI l9 (0 : Int)).bnd (fun i28 =>
 (chkI (0 : Int) (lenN l10)).bnd (fun k29 =>
 (getN l10 (addN 0 k29)).bnd (fun i30 =>
 (samI (lenN (setL l10 (addN 0 k29) (minI (addI .i64 i27 i28) i12))) (lenN l3)).bnd (fun _ =>
 some (setL l10 (addN 0 k29) (minI (addI .i64 i27 i28) i12))))))))
 (cnd (eqI i7 (6 : Int))
 ((getI l8 (0 : Int)).bnd (fun i31 =>
 (getI l9 (0 : Int)).bnd (fun i32 =>
 (chkI (0 : Int) (lenN l10)).bnd (fun k33 =>
 (getN l10 (addN 0 k33)).bnd (fun i34 =>
 (samI (lenN (setL l10 (addN 0 k33) (andI .i64 i31 i32))) (lenN l3)).bnd (fun _ =>
 some (setL l10 (addN 0 k33) (andI .i64 i31 i32))))))))
 ((fulI 0 (lenN l10) (lenN l10)).bnd (fun _ =>
 (F_impl_mulCoefficients ((i11, i12, i13), l10, l8, l9)).bnd (fun l35 =>
 (samI (lenN l35) (lenN l3)).bnd (fun _ =>
 some l35))))))))))


def G_spec_l02Mul (NN : Nat) : ((Int × (Int × Int)) × ((List Int) × (List Int))) → (Option (List Int)) :=
 (fun (((i0, i1, i2), l3, l4) : ((Int × (Int × Int)) × ((List Int) × (List Int)))) =>
 (mkI (natI (lenN l3)) (natI (lenN l3)) 8).bnd (fun k5 =>
 joinK (joinK (cnd (eqI i0 (1 : Int))
 ((fulI 0 k5 (lenN (repL k5 (0 : Int)))).bnd (fun _ =>
 some (Sum.inl ((true, i0, l3, l4), (i0, i1, i2), repL k5 (0 : Int)))))
 ((fulI 0 k5 (lenN (repL k5 (0 : Int)))).bnd (fun _ =>
 some (Sum.inl ((eqI i0 (6 : Int), i0, l3, l4), (i0, i1, i2), repL k5 (0 : Int))))))
 (fun ((b6, i7, l8, l9), (i10, i11, i12), l13) =>
 cnd (b6)
 ((getI l8 (0 : Int)).bnd (fun i14 =>
 (getI l9 (0 : Int)).bnd (fun i15 =>
 (chkI (0 : Int) (lenN l13)).bnd (fun k16 =>
 (getN l13 (addN 0 k16)).bnd (fun i17 =>
 (fulI 0 (lenN l13) (lenN (setL l13 (addN 0 k16) (andI .i64 i14 i15)))).bnd (fun _ =>
 some (Sum.inl (setL l13 (addN 0 k16) (andI .i64 i14 i15)))))))))
 (cnd (eqI i7 (2 : Int))
 ((getI l8 (0 : Int)).bnd (fun i18 =>
 (getI l9 (0 : Int)).bnd (fun i19 =>
 (remI (mulI .i64 i18 i19) i11).bnd (fun i20 =>
 (chkI (0 : Int) (lenN l13)).bnd (fun k21 =>
 (getN l13 (addN 0 k21)).bnd (fun i22 =>
 (fulI 0 (lenN l13) (lenN (setL l13 (addN 0 k21) i20))).bnd (fun _ =>
 some (Sum.inl (setL l13 (addN 0 k21) i20)))))))))
 (cnd (eqI i7 (3 : Int))
 ((getI l8 (0 : Int)).bnd (fun i23 =>
 (getI l9 (0 : Int)).bnd (fun i24 =>
 (chkI (0 : Int) (lenN l13)).bnd (fun k25 =>
 (getN l13 (addN 0 k25)).bnd (fun i26 =>
 (fulI 0 (lenN l13) (lenN (setL l13 (addN 0 k25) (minI (mulI .i64 i23 i24) i11)))).bnd (fun _ =>
 some (Sum.inl (setL l13 (addN 0 k25) (minI (mulI .i64 i23 i24) i11)))))))))
 (cnd (eqI i7 (4 : Int))
 ((getI l8 (0 : Int)).bnd (fun i27 =>
 (getI l9 (0 : Int)).bnd (fun i28 =>
 (chkI (0 : Int) (lenN l13)).bnd (fun k29 =>
 (getN l13 (addN 0 k29)).bnd (fun i30 =>
 (fulI 0 (lenN l13) (lenN (setL l13 (addN 0 k29) (minI (addI .i64 i27 i28) i11)))).bnd (fun _ =>
 some (Sum.inl (setL l13 (addN 0 k29) (minI (addI .i64 i27 i28) i11)))))))))
 (cnd (eqI i7 (5 : Int))
 ((getI l8 (0 : Int)).bnd (fun i31 =>
 (getI l9 (0 : Int)).bnd (fun i32 =>
 (chkI (0 : Int) (lenN l13)).bnd (fun k33 =>
 (getN l13 (addN 0 k33)).bnd (fun i34 =>
 (fulI 0 (lenN l13) (lenN (setL l13 (addN 0 k33) (minI i31 i32)))).bnd (fun _ =>
 some (Sum.inl (setL l13 (addN 0 k33) (minI i31 i32)))))))))
 ((fulI 0 (lenN l13) (lenN l13)).bnd (fun _ =>
 loopT NN (fun (((l35, l36, i37, i38), (i39, i40, i41), l42) : (((List Int) × ((List Int) × (Int × Int))) × ((Int × (Int × Int)) × (List Int)))) =>
 cnd (ltI i38 i37)
 (joinK ((getI l36 i38).bnd (fun i43 =>
 (fulI 0 (lenN l42) (lenN l42)).bnd (fun _ =>
 loopT NN (fun (((l44, i45, i46, l47, i48, i49, l50, i51, i52), (i53, i54, i55), l56) : (((List Int) × (Int × (Int × ((List Int) × (Int × (Int × ((List Int) × (Int × Int)))))))) × ((Int × (Int × Int)) × (List Int)))) =>
 cnd (ltI i52 i51)
 ((getI l50 i52).bnd (fun i57 =>
 cnd (ltI (addI .i64 i45 i52) (natI (lenN l56)))
 ((chkI (addI .i64 i45 i52) (lenN l56)).bnd (fun k58 =>
 (getN l56 (addN 0 k58)).bnd (fun i59 =>
 (remI (addI .i64 i59 (mulI .i64 i46 i57)) i54).bnd (fun i60 =>
 (chkI (addI .i64 i45 i52) (lenN l56)).bnd (fun k61 =>
 (getN l56 (addN 0 k61)).bnd (fun i62 =>
 (fulI 0 (lenN l56) (lenN (setL l56 (addN 0 k61) i60))).bnd (fun _ =>
 some (Sum.inl ((l44, i45, i46, l47, i48, i49, l50, i51, addI .i64 i52 1), (i53, i54, i55), setL l56 (addN 0 k61) i60)))))))))
 (cnd (eqI i53 (8 : Int))
 ((chkI (subI .i64 (addI .i64 i45 i52) (4 : Int)) (lenN l56)).bnd (fun k63 =>
 (getN l56 (addN 0 k63)).bnd (fun i64 =>
 (remI (addI .i64 i64 (mulI .i64 (subI .i64 i54 i46) i57)) i54).bnd (fun i65 =>
 (chkI (subI .i64 (addI .i64 i45 i52) (4 : Int)) (lenN l56)).bnd (fun k66 =>
 (getN l56 (addN 0 k66)).bnd (fun i67 =>
 (fulI 0 (lenN l56) (lenN (setL l56 (addN 0 k66) i65))).bnd (fun _ =>
 some (Sum.inl ((l44, i45, i46, l47, i48, i49, l50, i51, addI .i64 i52 1), (i53, i54, i55), setL l56 (addN 0 k66) i65)))))))))
 ((fulI 0 (lenN l56) (lenN l56)).bnd (fun _ =>
 some (Sum.inl ((l44, i45, i46, l47, i48, i49, l50, i51, addI .i64 i52 1), (i53, i54, i55), l56)))))))
 (((fulI 0 (lenN l56) (lenN l56)).bnd (fun _ =>
 some (Sum.inl ((i49, l44, l47, i48), (i53, i54, i55), l56)))).bnd (fun l68 =>
 some (Sum.inr l68))))
 ((l35, i38, i43, l36, i37, i38, l35, natI (lenN l35), (0 : Int)), (i39, i40, i41), l42))))
 (fun ((i69, l70, l71, i72), (i73, i74, i75), l76) =>
 (fulI 0 (lenN l76) (lenN l76)).bnd (fun _ =>
 some (Sum.inl ((l70, l71, i72, addI .i64 i69 1), (i73, i74, i75), l76)))))
 (((fulI 0 (lenN l42) (lenN l42)).bnd (fun _ =>
 some (Sum.inl l42))).bnd (fun l77 =>
 some (Sum.inr l77))))
 ((l9, l8, natI (lenN l8), (0 : Int)), (i10, i11, i12), l13)))))))))
 (fun l78 =>
 (takI l78 (lenN l78)).bnd (fun l79 =>
 some l79))))


def G_impl_rawMul (NN : Nat) : ((Int × (Int × Int)) × ((List Int) × (List Int))) → (Option (List Int)) :=
 (fun (((i0, i1, i2), l3, l4) : ((Int × (Int × Int)) × ((List Int) × (List Int)))) =>
 (F_impl_rawWidth (i0, i1, i2)).bnd (fun i5 =>
 (mkI i5 i5 8).bnd (fun k6 =>
 (fulI 0 k6 (lenN (repL k6 (0 : Int)))).bnd (fun _ =>
 (F_impl_mulInto ((i0, i1, i2), repL k6 (0 : Int), l3, l4)).bnd (fun l7 =>
 (takI l7 k6).bnd (fun l8 =>
 some l8))))))


def G_impl_rawPow (NN : Nat) : ((Int × (Int × Int)) × ((List Int) × Int)) → (Option (List Int)) :=
 (fun (((i0, i1, i2), l3, i4) : ((Int × (Int × Int)) × ((List Int) × Int))) =>
 (F_impl_rawOne (i0, i1, i2)).bnd (fun l5 =>
 joinK ((fulI 0 (lenN l5) (lenN l5)).bnd (fun _ =>
 loopT NN (fun (((l6, i7, i8), (i9, i10, i11), l12) : (((List Int) × (Int × Int)) × ((Int × (Int × Int)) × (List Int)))) =>
 cnd (ltI i8 i7)
 ((winI l12 0 (lenN l12)).bnd (fun l13 =>
 (F_impl_rawMul ((i9, i10, i11), l13, l6)).bnd (fun l14 =>
 (fulI 0 (lenN l14) (lenN l14)).bnd (fun _ =>
 some (Sum.inl ((l6, i7, addI .i64 i8 1), (i9, i10, i11), l14))))))
 (((fulI 0 (lenN l12) (lenN l12)).bnd (fun _ =>
 some (Sum.inl l12))).bnd (fun l15 =>
 some (Sum.inr l15))))
 ((l3, i4, (0 : Int)), (i0, i1, i2), l5)))
 (fun l16 =>
 (takI l16 (lenN l16)).bnd (fun l17 =>
 some l17))))


theorem f_laws_toRing (x y : Int × Int × Int) (h : F_laws_toRing x = some y) : G_laws_toRing FUEL x = some y := h
theorem toRing_s (r : Int × Int × Int) : F_laws_toRing r = some r := rfl

theorem cnd_eqI {α : Type} (a b : Int) (x y : α) : cnd (eqI a b) x y = if a = b then x else y := by
  by_cases h : a = b
  · rw [if_pos h, cnd_t (eqI_t h)]
  · rw [if_neg h, cnd_f (eqI_f h)]
theorem eqI_d (a b : Int) : eqI a b = decide (a = b) := by by_cases h : a = b <;> simp [eqI, h]
theorem leI_d (a b : Int) : leI a b = decide (a ≤ b) := rfl
theorem ltI_d (a b : Int) : ltI a b = decide (a < b) := rfl
theorem cnd_dec {α : Type} (p : Prop) [Decidable p] (x y : α) : cnd (decide p) x y = if p then x else y := by
  by_cases h : p
  · rw [if_pos h, cnd_t (decide_eq_true h)]
  · rw [if_neg h, cnd_f (decide_eq_false h)]

theorem ring_cases {k p n : Int} (h : ringOk (k, p, n) = true) : (k = 1 ∧ p = 0 ∧ n = 0) ∨ (k = 2 ∧ isPrimeI p = true ∧ n = 0) ∨ (k = 3 ∧ (1 ≤ p ∧ p ≤ 1000000) ∧ n = 0) ∨ (k = 4 ∧ (1 ≤ p ∧ p ≤ 1000000) ∧ n = 0) ∨ (k = 5 ∧ (1 ≤ p ∧ p ≤ 1000000) ∧ n = 0) ∨
    (k = 6 ∧ p = 0 ∧ 1 ≤ n ∧ n ≤ 20) ∨ (k = 7 ∧ isPrimeI p = true ∧ 1 ≤ n ∧ n ≤ 6) ∨ (k = 8 ∧ isPrimeI p = true ∧ p ≠ 2 ∧ n = 0) := by
  simp only [ringOk] at h
  by_cases h1 : k = 1
  · rw [if_pos h1] at h; exact .inl ⟨h1, by simpa using h⟩
  rw [if_neg h1] at h
  by_cases h2 : k = 2
  · rw [if_pos h2] at h; simp at h; exact .inr (.inl ⟨h2, h⟩)
  rw [if_neg h2] at h
  by_cases h3 : k = 3 ∨ k = 4 ∨ k = 5
  · rw [if_pos h3] at h
    simp only [decide_eq_true_eq] at h
    rcases h3 with h3 | h3 | h3
    · exact .inr (.inr (.inl ⟨h3, h⟩))
    · exact .inr (.inr (.inr (.inl ⟨h3, h⟩)))
    · exact .inr (.inr (.inr (.inr (.inl ⟨h3, h⟩))))
  rw [if_neg h3] at h
  by_cases h4 : k = 6
  · rw [if_pos h4] at h; simp at h; exact .inr (.inr (.inr (.inr (.inr (.inl ⟨h4, h⟩)))))
  rw [if_neg h4] at h
  by_cases h5 : k = 7
  · rw [if_pos h5] at h; simp at h; exact .inr (.inr (.inr (.inr (.inr (.inr (.inl ⟨h5, h⟩))))))
  rw [if_neg h5] at h
  by_cases h6 : k = 8
  · rw [if_pos h6] at h; simp at h; exact .inr (.inr (.inr (.inr (.inr (.inr (.inr ⟨h6, h⟩))))))
  rw [if_neg h6] at h
  cases h

theorem f_impl_RingOk (x : Int × Int × Int) (y : Bool) (h : F_impl_RingOk x = some y) : G_impl_RingOk FUEL x = some y := by
  obtain ⟨k, p, n⟩ := x
  rw [← h]
  simp only [F_impl_RingOk, G_impl_RingOk, ringOk, F_impl_IsPrime, bnd_s, eqI_d, leI_d, cnd_dec]
  by_cases h1 : k = 1
  · rw [if_pos h1, if_pos h1]; by_cases hp : p = 0 <;> by_cases hn : n = 0 <;> simp [hp, hn]
  rw [if_neg h1, if_neg h1]
  by_cases h2 : k = 2
  · rw [if_pos h2, if_pos h2]; cases isPrimeI p <;> rfl
  rw [if_neg h2, if_neg h2]
  have hd : (if k = 3 then some (Sum.inl ((true, k), k, p, n)) else if k = 4 then some (Sum.inl ((true, k), k, p, n)) else some (Sum.inl ((decide (k = 5), k), k, p, n)) : Option (((Bool × Int) × Int × Int × Int) ⊕ Bool)) = some (Sum.inl ((decide (k = 3 ∨ k = 4 ∨ k = 5), k), k, p, n)) := by
    by_cases h3 : k = 3
    · simp [h3]
    · by_cases h4 : k = 4
      · simp [h4]
      · simp [h3, h4]
  rw [hd, joinK_l]
  simp only [cnd_dec]
  by_cases h3 : k = 3 ∨ k = 4 ∨ k = 5
  · rw [if_pos h3, if_pos h3]
    by_cases ha : 1 ≤ p
    · by_cases hb : p ≤ 1000000 <;> simp [ha, hb]
    · simp [ha]
  rw [if_neg h3, if_neg h3]
  by_cases h4 : k = 6
  · rw [if_pos h4, if_pos h4]
    by_cases ha : p = 0
    · by_cases hb : 1 ≤ n <;> simp [ha, hb]
    · simp [ha]
  rw [if_neg h4, if_neg h4]
  by_cases h5 : k = 7
  · rw [if_pos h5, if_pos h5]
    cases isPrimeI p
    · rfl
    · rw [cnd_t rfl]
      by_cases hb : 1 ≤ n <;> simp [hb]
  rw [if_neg h5, if_neg h5]
  by_cases h6 : k = 8
  · rw [if_pos h6, if_pos h6]
    cases isPrimeI p
    · rfl
    · rw [cnd_t rfl, neI_d, Bool.true_and]
      by_cases hb : p = 2 <;> simp [hb, cnd]
  rw [if_neg h6, if_neg h6]

theorem f_spec_RingOk (x : Int × Int × Int) (y : Bool) (h : F_spec_RingOk x = some y) : G_spec_RingOk FUEL x = some y := by
  obtain ⟨k, p, n⟩ := x
  rw [← h]
  simp only [F_spec_RingOk, G_spec_RingOk, ringOk, F_spec_IsPrime, F_spec_l01In, bnd_s, eqI_d, ltI_d, cnd_dec]
  by_cases h1 : k = 1
  · rw [if_pos h1, if_pos h1]; by_cases hp : p = 0 <;> by_cases hn : n = 0 <;> simp [hp, hn]
  rw [if_neg h1, if_neg h1]
  by_cases h2 : k = 2
  · rw [if_pos h2, if_pos h2]; cases isPrimeI p <;> rfl
  rw [if_neg h2, if_neg h2]
  have hd : (if k = 3 then some (Sum.inl ((true, k), k, p, n)) else if k = 4 then some (Sum.inl ((true, k), k, p, n)) else some (Sum.inl ((decide (k = 5), k), k, p, n)) : Option (((Bool × Int) × Int × Int × Int) ⊕ Bool)) = some (Sum.inl ((decide (k = 3 ∨ k = 4 ∨ k = 5), k), k, p, n)) := by
    by_cases h3 : k = 3
    · simp [h3]
    · by_cases h4 : k = 4
      · simp [h4]
      · simp [h3, h4]
  rw [hd, joinK_l]
  simp only [cnd_dec]
  by_cases h3 : k = 3 ∨ k = 4 ∨ k = 5
  · rw [if_pos h3, if_pos h3]
    by_cases ha : 1 ≤ p ∧ p ≤ 1000000 <;> simp [ha]
  rw [if_neg h3, if_neg h3]
  by_cases h4 : k = 6
  · rw [if_pos h4, if_pos h4]
    by_cases ha : p = 0 <;> simp [ha]
  rw [if_neg h4, if_neg h4]
  by_cases h5 : k = 7
  · rw [if_pos h5, if_pos h5]
    cases isPrimeI p <;> rfl
  rw [if_neg h5, if_neg h5]
  by_cases h6 : k = 8
  · rw [if_pos h6, if_pos h6]
    cases hp : isPrimeI p
    · rfl
    · have := isPrimeI_t hp
      rw [cnd_t rfl, Bool.true_and]
      by_cases hb : p = 2
      · simp [hb]
      · rw [if_pos (by omega)]; simp [hb]
  rw [if_neg h6, if_neg h6]

theorem f_impl_rawWidth (x : Int × Int × Int) (y : Int) (h : F_impl_rawWidth x = some y) : G_impl_rawWidth FUEL x = some y := by
  obtain ⟨k, p, n⟩ := x
  rw [← h]
  simp only [F_impl_rawWidth, G_impl_rawWidth, widI, cnd_eqI]
  by_cases h7 : k = 7
  · rw [if_pos h7, if_pos h7]
  · rw [if_neg h7, if_neg h7]; by_cases h8 : k = 8 <;> simp [h8]
theorem f_spec_l02Width (x : Int × Int × Int) (y : Int) (h : F_spec_l02Width x = some y) : G_spec_l02Width FUEL x = some y := f_impl_rawWidth x y h

theorem shl1 {n : Int} (h0 : 0 ≤ n) (h1 : n ≤ 60) : shlI .i64 1 n = some (2 ^ n.toNat) := by
  obtain ⟨m, rfl⟩ := natI_eq h0
  rw [shlI_one (by omega), Int.toNat_natCast]
  congr 1
theorem pow20 {n : Int} (h0 : 0 ≤ n) (h1 : n ≤ 20) : 1 ≤ (2 : Int) ^ n.toNat ∧ (2 : Int) ^ n.toNat ≤ 1048576 := by
  have a : (2 : Nat) ^ n.toNat ≤ 2 ^ 20 := Nat.pow_le_pow_right (by decide) (by omega)
  have b : 1 ≤ (2 : Nat) ^ n.toNat := Nat.one_le_two_pow
  have e : (((2 : Nat) ^ n.toNat : Nat) : Int) = (2 : Int) ^ n.toNat := by push_cast; rfl
  rw [← e]
  omega

theorem f_impl_rawTop (x : Int × Int × Int) (y : Int) (h : F_impl_rawTop x = some y) : G_impl_rawTop FUEL x = some y := by
  obtain ⟨k, p, n⟩ := x
  simp only [F_impl_rawTop] at h
  split at h
  · rename_i hr
    rw [← h]
    rcases ring_cases hr with ⟨rfl, rfl, rfl⟩ | ⟨rfl, hp, rfl⟩ | ⟨rfl, hp, rfl⟩ | ⟨rfl, hp, rfl⟩ | ⟨rfl, hp, rfl⟩ | ⟨rfl, rfl, hn⟩ | ⟨rfl, hp, hn⟩ | ⟨rfl, hp, hp2, rfl⟩
    · rfl
    · have := isPrimeI_t hp
      exact congrArg some (subI_eq (by omega) (by omega))
    · rfl
    · rfl
    · rfl
    · have h1 := pow20 (n := n) (by omega) hn.2
      show (shlI .i64 1 n).bnd _ = _
      rw [shl1 (by omega) (by omega), bnd_s, subI_eq (by omega) (by omega)]
      rfl
    · have := isPrimeI_t hp
      exact congrArg some (subI_eq (by omega) (by omega))
    · have := isPrimeI_t hp
      exact congrArg some (subI_eq (by omega) (by omega))
  · cases h
theorem f_spec_l02Top (x : Int × Int × Int) (y : Int) (h : F_spec_l02Top x = some y) : G_spec_l02Top FUEL x = some y := f_impl_rawTop x y h

theorem top_bd {r : Int × Int × Int} (h : ringOk r = true) : 0 ≤ topI r ∧ topI r ≤ 1048576 := by
  obtain ⟨k, p, n⟩ := r
  rcases ring_cases h with ⟨rfl, rfl, rfl⟩ | ⟨rfl, hp, rfl⟩ | ⟨rfl, hp, rfl⟩ | ⟨rfl, hp, rfl⟩ | ⟨rfl, hp, rfl⟩ | ⟨rfl, rfl, hn⟩ | ⟨rfl, hp, hn⟩ | ⟨rfl, hp, hp2, rfl⟩
  · simp [topI]
  · have := isPrimeI_t hp; simp [topI]; omega
  · simp [topI]; omega
  · simp [topI]; omega
  · simp [topI]; omega
  · have h1 := pow20 (n := n) (by omega) hn.2
    simp only [topI, Int.reduceEq, reduceIte, or_self]
    omega
  · have := isPrimeI_t hp; simp [topI]; omega
  · have := isPrimeI_t hp; simp [topI]; omega
theorem wid_bd {r : Int × Int × Int} (h : ringOk r = true) : widI r = (widN r : Int) ∧ 1 ≤ widN r ∧ widN r ≤ 6 := by
  obtain ⟨k, p, n⟩ := r
  rcases ring_cases h with ⟨rfl, rfl, rfl⟩ | ⟨rfl, hp, rfl⟩ | ⟨rfl, hp, rfl⟩ | ⟨rfl, hp, rfl⟩ | ⟨rfl, hp, rfl⟩ | ⟨rfl, rfl, hn⟩ | ⟨rfl, hp, hn⟩ | ⟨rfl, hp, hp2, rfl⟩
  · simp [widN, widI]
  · simp [widN, widI]
  · simp [widN, widI]
  · simp [widN, widI]
  · simp [widN, widI]
  · simp [widN, widI]
  · simp [widN, widI]; omega
  · simp [widN, widI]

theorem f_impl_inRing (x : (Int × Int × Int) × List Int) (y : Bool) (h : F_impl_inRing x = some y) : G_impl_inRing FUEL x = some y := by
  obtain ⟨⟨k, p, n⟩, l⟩ := x
  simp only [F_impl_inRing] at h
  split at h
  · rename_i hc
    obtain ⟨hr, hl⟩ := hc
    rw [← h]
    have hb := top_bd hr
    simp only [G_impl_inRing]
    rw [show F_impl_rawTop (k, p, n) = some (topI (k, p, n)) from if_pos hr, bnd_s]
    generalize topI (k, p, n) = t at hb ⊢
    rw [loopT_all l (fun i => (t, l, natI (lenN l), (i : Int))) (inTop t) (.inr false) (.inl ()) ?_ ?_ ?_ ?_ (FUEL_gt (by omega))]
    · cases l.all (inTop t) <;> rfl
    · intro i a ha hb
      rw [cnd_t (ltI_in ha), getI_nat, ha, bnd_s]
      simp only [inTop, decide_eq_true_eq] at hb
      rw [cnd_f (ltI_f hb.1), cnd_f (ltI_f hb.2), next_i ha (by omega)]
    · intro i a ha hb
      rw [cnd_t (ltI_in ha), getI_nat, ha, bnd_s]
      simp only [inTop, decide_eq_false_iff_not] at hb
      by_cases h0 : a < 0
      · rw [cnd_t (ltI_t h0)]
      · rw [cnd_f (ltI_f (by omega)), cnd_t (ltI_t (by omega))]
    · rw [cnd_f (ltI_end l)]
    · rfl
  · cases h

theorem f_impl_ElemOk (x : (Int × Int × Int) × List Int) (y : Bool) (h : F_impl_ElemOk x = some y) : G_impl_ElemOk FUEL x = some y := by
  obtain ⟨⟨k, p, n⟩, l⟩ := x
  simp only [F_impl_ElemOk] at h
  split at h
  · rename_i hl
    rw [← h]
    simp only [G_impl_ElemOk, F_impl_RingOk, F_impl_rawWidth, bnd_s]
    cases hr : ringOk (k, p, n) with
    | false => rfl
    | true =>
      have hw := wid_bd hr
      rw [cnd_t rfl, show F_impl_inRing ((k, p, n), l) = some (l.all (inTop (topI (k, p, n)))) from if_pos ⟨hr, hl⟩, bnd_s, cnd_eqI, nl, hw.1]
      by_cases hx : l.length = widN (k, p, n)
      · rw [if_pos (by rw [hx])]; simp [elOk, hx]
      · rw [if_neg (by omega)]; simp [elOk, hx]
  · cases h

theorem f_spec_l02Elem (x : (Int × Int × Int) × List Int) (y : Bool) (h : F_spec_l02Elem x = some y) : G_spec_l02Elem FUEL x = some y := by
  obtain ⟨⟨k, p, n⟩, l⟩ := x
  simp only [F_spec_l02Elem] at h
  split at h
  · rename_i hc
    obtain ⟨hr, hl⟩ := hc
    rw [← h]
    have hb := top_bd hr
    have hw := wid_bd hr
    simp only [G_spec_l02Elem, F_spec_l02Width, F_spec_l01In]
    have htop : F_spec_l02Top (k, p, n) = some (topI (k, p, n)) := if_pos hr
    rw [loopT_all l (fun i => ((l, l, natI (lenN l), (i : Int)), k, p, n)) (inTop (topI (k, p, n))) (.inr false) (.inl (l, k, p, n)) ?_ ?_ ?_ ?_ (FUEL_gt (by omega))]
    · cases ha : l.all (inTop (topI (k, p, n)))
      · rw [if_neg (by simp), joinK_r]; simp [elOk, ha]
      · rw [if_pos rfl, joinK_l, bnd_s, eqI_d, nl, hw.1]
        simp only [elOk, ha, Bool.and_true]
        congr 1
        exact decide_eq_decide.2 (by omega)
    · intro i a ha hb
      have hb' : decide (0 ≤ a ∧ a ≤ topI (k, p, n)) = true := hb
      rw [cnd_t (ltI_in ha), getI_nat, ha, bnd_s, htop, bnd_s, bnd_s, hb', cnd_f notB_t, next_i ha (by omega)]
    · intro i a ha hb
      have hb' : decide (0 ≤ a ∧ a ≤ topI (k, p, n)) = false := hb
      rw [cnd_t (ltI_in ha), getI_nat, ha, bnd_s, htop, bnd_s, bnd_s, hb', cnd_t (b := notB false) rfl]
    · rw [cnd_f (ltI_end l)]
    · rfl
  · cases h

theorem f_spec_ElemOk (x : (Int × Int × Int) × List Int) (y : Bool) (h : F_spec_ElemOk x = some y) : G_spec_ElemOk FUEL x = some y := by
  obtain ⟨⟨k, p, n⟩, l⟩ := x
  simp only [F_spec_ElemOk] at h
  split at h
  · rename_i hl
    rw [← h]
    simp only [G_spec_ElemOk, F_spec_RingOk, bnd_s]
    cases hr : ringOk (k, p, n) with
    | false => rfl
    | true =>
      rw [cnd_t rfl, show F_spec_l02Elem ((k, p, n), l) = some (elOk (k, p, n) l) from if_pos ⟨hr, hl⟩, bnd_s]
      simp
  · cases h

theorem mkW {r : Int × Int × Int} (hr : ringOk r = true) : mkI (widI r) (widI r) 8 = some (widN r) := by
  have hw := wid_bd hr
  rw [hw.1]
  exact mkI_nat (by simp only [maxBytes]; omega)

theorem f_impl_rawZero (x : Int × Int × Int) (y : List Int) (h : F_impl_rawZero x = some y) : G_impl_rawZero FUEL x = some y := by
  obtain ⟨k, p, n⟩ := x
  simp only [F_impl_rawZero] at h
  split at h
  · rename_i hr
    rw [← h]
    simp only [G_impl_rawZero, F_impl_rawWidth, bnd_s]
    rw [mkW hr, bnd_s, cnd_eqI]
    by_cases h4 : k = 4
    · subst h4
      rw [if_pos rfl]
      rfl
    · rw [if_neg h4, lenN_repL, fulI_id, bnd_s, joinK_l, takI_id, bnd_s]
      simp only [zeroE]
      rw [if_neg h4]
  · cases h
theorem f_spec_l02Zero (x : Int × Int × Int) (y : List Int) (h : F_spec_l02Zero x = some y) : G_spec_l02Zero FUEL x = some y := f_impl_rawZero x y h

theorem repGet {w : Nat} (h : 1 ≤ w) : (chkI (0 : Int) w = some 0) ∧ getN (repL w (0 : Int)) (addN 0 0) = some 0 := by
  obtain ⟨w, rfl⟩ : ∃ v, w = v + 1 := ⟨w - 1, by omega⟩
  exact ⟨chkI_nat (i := 0) (by omega), rfl⟩
theorem takI_len {α : Type} {xs : List α} {n : Nat} (h : xs.length = n) : takI xs n = some xs := by subst h; exact takI_id xs

theorem f_impl_rawOne (x : Int × Int × Int) (y : List Int) (h : F_impl_rawOne x = some y) : G_impl_rawOne FUEL x = some y := by
  obtain ⟨k, p, n⟩ := x
  simp only [F_impl_rawOne] at h
  split at h
  · rename_i hr
    rw [← h]
    have hw := wid_bd hr
    obtain ⟨c1, c2⟩ := repGet hw.2.1
    have hlen : ∀ v : Int, (setL (repL (widN (k, p, n)) (0 : Int)) (addN 0 0) v).length = widN (k, p, n) := by intro v; simp [setL, repL]
    simp only [G_impl_rawOne, F_impl_rawWidth, bnd_s]
    rw [mkW hr, bnd_s, show F_impl_rawTop (k, p, n) = some (topI (k, p, n)) from if_pos hr]
    simp only [bnd_s, c1, c2, cnd_eqI, takI_len (hlen _), oneE]
    by_cases h4 : k = 4
    · rw [if_pos h4, if_pos h4]; rfl
    rw [if_neg h4, if_neg h4]
    by_cases h5 : k = 5
    · subst h5; rw [if_pos rfl, if_pos (.inl rfl)]; rfl
    rw [if_neg h5]
    by_cases h6 : k = 6
    · rw [if_pos h6, if_pos (.inr h6)]; rfl
    rw [if_neg h6, if_neg (by omega)]
    rfl
  · cases h
theorem f_spec_l02One (x : Int × Int × Int) (y : List Int) (h : F_spec_l02One x = some y) : G_spec_l02One FUEL x = some y := by
  obtain ⟨k, p, n⟩ := x
  simp only [F_spec_l02One] at h
  split at h
  · rename_i hr
    rw [← h]
    have hw := wid_bd hr
    obtain ⟨c1, c2⟩ := repGet hw.2.1
    have hlen : ∀ v : Int, (setL (repL (widN (k, p, n)) (0 : Int)) (addN 0 0) v).length = widN (k, p, n) := by intro v; simp [setL, repL]
    simp only [G_spec_l02One, F_spec_l02Width, bnd_s]
    rw [mkW hr, bnd_s, lenN_repL, fulI_id, bnd_s, bnd_s, cnd_eqI]
    have hd : (if k = 5 then some (Sum.inl ((true, k), (k, p, n), repL (widN (k, p, n)) (0 : Int))) else some (Sum.inl ((eqI k 6, k), (k, p, n), repL (widN (k, p, n)) 0)) : Option (((Bool × Int) × (Int × Int × Int) × List Int) ⊕ List Int)) =
        some (Sum.inl ((decide (k = 5 ∨ k = 6), k), (k, p, n), repL (widN (k, p, n)) 0)) := by
      by_cases h5 : k = 5
      · simp [h5]
      · simp [h5, eqI_d]
    rw [hd, joinK_l]
    simp only [lenN_repL, cnd_dec, cnd_eqI]
    rw [show F_spec_l02Top (k, p, n) = some (topI (k, p, n)) from if_pos hr]
    simp only [bnd_s, c1, c2, takI_len (hlen _), oneE]
    by_cases h4 : k = 4
    · subst h4; rfl
    rw [if_neg h4]
    by_cases h5 : k = 5 ∨ k = 6
    · rw [if_pos h5, if_pos h5, if_neg h4]; rfl
    rw [if_neg h5, if_neg h5, if_neg h4]
    rfl
  · cases h

/-! ### lists by their places -/

theorem tab_len (w : Nat) (f : Nat → Int) : (tab w f).length = w := by simp [tab]
theorem tab_get {w j : Nat} (f : Nat → Int) (h : j < w) : (tab w f)[j]? = some (f j) := by simp [tab, h]
theorem tab_congr {w : Nat} {f g : Nat → Int} (h : ∀ j, j < w → f j = g j) : tab w f = tab w g := List.map_congr_left fun j hj => h j (List.mem_range.1 hj)
theorem tab_set {w : Nat} (f : Nat → Int) (j : Nat) (v : Int) : (tab w f).set j v = tab w (fun i => if i = j then v else f i) := by
  apply List.ext_getElem?
  intro i
  by_cases hi : i < w
  · rw [tab_get _ hi]
    by_cases hj : j = i
    · subst hj
      rw [List.getElem?_set_self (by rw [tab_len]; exact hi), if_pos rfl]
    · rw [List.getElem?_set_ne hj, tab_get _ hi, if_neg (fun e => hj e.symm)]
  · rw [List.getElem?_eq_none (by rw [List.length_set, tab_len]; omega), List.getElem?_eq_none (by rw [tab_len]; omega)]
theorem fnL_get {x : List Int} {j : Nat} (h : j < x.length) : x[j]? = some (fnL x j) := by
  rw [List.getElem?_eq_getElem h]
  simp [fnL, List.getD_eq_getElem?_getD, List.getElem?_eq_getElem h]
theorem tab_fnL {x : List Int} {w : Nat} (h : x.length = w) : tab w (fnL x) = x := by
  subst h
  apply List.ext_getElem?
  intro i
  by_cases hi : i < x.length
  · rw [tab_get _ hi, fnL_get hi]
  · rw [List.getElem?_eq_none (by rw [tab_len]; omega), List.getElem?_eq_none (by omega)]
theorem tab_rep (w : Nat) (c : Int) : repL w c = tab w fun _ => c := by
  apply List.ext_getElem?
  intro i
  by_cases hi : i < w
  · rw [tab_get _ hi]; simp [repL, hi]
  · rw [List.getElem?_eq_none (by simp [repL]; omega), List.getElem?_eq_none (by rw [tab_len]; omega)]
theorem lenN_tab (w : Nat) (f : Nat → Int) : lenN (tab w f) = w := tab_len w f
theorem chk_tab {w j : Nat} (f : Nat → Int) (h : j < w) : chkI (j : Int) (lenN (tab w f)) = some j := by rw [lenN_tab]; exact chkI_nat h
theorem getN_tab {w j : Nat} (f : Nat → Int) (h : j < w) : getN (tab w f) (addN 0 j) = some (f j) := by rw [addN_0]; exact tab_get f h
theorem setL_tab {w : Nat} (f : Nat → Int) (j : Nat) (v : Int) : setL (tab w f) (addN 0 j) v = tab w (fun i => if i = j then v else f i) := by rw [addN_0]; exact tab_set f j v
theorem getI_fn {x : List Int} {j : Nat} (h : j < x.length) : getI x (j : Int) = some (fnL x j) := by rw [getI_nat]; exact fnL_get h
/-- A list that is written from its begin. -/
def upTo (f g : Nat → Int) (i : Nat) : Nat → Int := fun j => if j < i then f j else g j
theorem upTo_0 (w : Nat) (f g : Nat → Int) : tab w (upTo f g 0) = tab w g := tab_congr fun j _ => if_neg (by omega)
theorem upTo_end (w : Nat) (f g : Nat → Int) : tab w (upTo f g w) = tab w f := tab_congr fun j h => if_pos h
theorem upTo_next (w : Nat) (f g : Nat → Int) (i : Nat) : setL (tab w (upTo f g i)) (addN 0 i) (f i) = tab w (upTo f g (i + 1)) := by
  rw [setL_tab]
  refine tab_congr fun j _ => ?_
  simp only [upTo]
  by_cases h : j = i
  · subst h; rw [if_pos rfl, if_pos (by omega)]
  · rw [if_neg h]
    by_cases h2 : j < i
    · rw [if_pos h2, if_pos (by omega)]
    · rw [if_neg h2, if_neg (by omega)]
theorem upTo_at (f g : Nat → Int) (i : Nat) : upTo f g i i = g i := if_neg (by omega)

/-! ### elements -/

theorem el_len {r : Int × Int × Int} {x : List Int} (h : elOk r x = true) : x.length = widN r := by
  simp only [elOk, Bool.and_eq_true, decide_eq_true_eq] at h; exact h.1
theorem el_at {r : Int × Int × Int} {x : List Int} (h : elOk r x = true) {j : Nat} (hj : j < widN r) : 0 ≤ fnL x j ∧ fnL x j ≤ topI r := by
  simp only [elOk, Bool.and_eq_true, decide_eq_true_eq] at h
  have := List.all_eq_true.1 h.2 (fnL x j) (List.mem_of_getElem? (fnL_get (by rw [h.1]; exact hj)))
  simpa [inTop] using this
theorem el_mk {r : Int × Int × Int} {f : Nat → Int} (h : ∀ j, j < widN r → 0 ≤ f j ∧ f j ≤ topI r) : elOk r (tab (widN r) f) = true := by
  simp only [elOk, Bool.and_eq_true, decide_eq_true_eq, tab_len, true_and, List.all_eq_true]
  intro v hv
  obtain ⟨j, hj, rfl⟩ := List.mem_map.1 hv
  simpa [inTop] using h j (List.mem_range.1 hj)
theorem el_one {r : Int × Int × Int} {x : List Int} (h : elOk r x = true) (hw : widN r = 1) : x = [fnL x 0] ∧ 0 ≤ fnL x 0 ∧ fnL x 0 ≤ topI r := by
  have hl := el_len h
  rw [hw] at hl
  match x, hl with
  | [a], _ => exact ⟨rfl, el_at h (j := 0) (by omega)⟩
theorem remI_pos {a p : Int} (ha : 0 ≤ a) (hp : 0 < p) : remI a p = some (a % p) := by
  obtain ⟨m, rfl⟩ := natI_eq (z := p) (by omega)
  exact remI_nat ha (by omega)

theorem max_or {a b : Int} (ha : 0 ≤ a ∧ a ≤ 1) (hb : 0 ≤ b ∧ b ≤ 1) : maxI a b = ((a.toNat ||| b.toNat : Nat) : Int) := by
  have h1 : a = 0 ∨ a = 1 := by omega
  have h2 : b = 0 ∨ b = 1 := by omega
  rcases h1 with rfl | rfl <;> rcases h2 with rfl | rfl <;> rfl
theorem min_and {a b : Int} (ha : 0 ≤ a ∧ a ≤ 1) (hb : 0 ≤ b ∧ b ≤ 1) : minI a b = ((a.toNat &&& b.toNat : Nat) : Int) := by
  have h1 : a = 0 ∨ a = 1 := by omega
  have h2 : b = 0 ∨ b = 1 := by omega
  rcases h1 with rfl | rfl <;> rcases h2 with rfl | rfl <;> rfl
theorem orI_tn {a b : Int} (ha : 0 ≤ a ∧ a ≤ 1048576) (hb : 0 ≤ b ∧ b ≤ 1048576) : orI .i64 a b = ((a.toNat ||| b.toNat : Nat) : Int) := by
  obtain ⟨m, rfl⟩ := natI_eq ha.1
  obtain ⟨n, rfl⟩ := natI_eq hb.1
  exact orI_nat (by omega) (by omega)
theorem andI_tn {a b : Int} (ha : 0 ≤ a ∧ a ≤ 1048576) (hb : 0 ≤ b ∧ b ≤ 1048576) : andI .i64 a b = ((a.toNat &&& b.toNat : Nat) : Int) := by
  obtain ⟨m, rfl⟩ := natI_eq ha.1
  obtain ⟨n, rfl⟩ := natI_eq hb.1
  exact andI_nat (by omega) (by omega)

theorem addE_1 {r : Int × Int × Int} {a b : Int} (hw : widN r = 1) : addE r [a] [b] = [opA r a b] := by simp only [addE, hw]; rfl


theorem f_impl_addInto (x : (Int × Int × Int) × List Int × List Int) (z : List Int) (h : F_impl_addInto x = some z) : G_impl_addInto FUEL x = some z := by
  obtain ⟨⟨k, p, n⟩, x, y⟩ := x
  simp only [F_impl_addInto] at h
  split at h
  · rename_i hc
    obtain ⟨hr, hx, hy⟩ := hc
    rw [← h]
    have hT := top_bd hr
    have loop : ∀ k, (k = 2 ∨ k = 7 ∨ k = 8) → isPrimeI p = true → ringOk (k, p, n) = true → elOk (k, p, n) x = true → elOk (k, p, n) y = true →
        G_impl_addInto FUEL ((k, p, n), x, y) = some (addE (k, p, n) x y) := by
      intro k hk hp hr hx hy
      have hm := isPrimeI_t hp
      have hlx := el_len hx
      have hly := el_len hy
      have hw := wid_bd hr
      have hop : ∀ a b, opA (k, p, n) a b = (a + b) % p := by
        intro a b
        simp only [opA]
        rw [if_neg (by omega), if_neg (by omega), if_neg (by omega), if_neg (by omega)]
      have htop : topI (k, p, n) = p - 1 := by
        simp only [topI]
        rw [if_neg (by omega), if_neg (by omega), if_neg (by omega)]
      simp only [G_impl_addInto, cnd_eqI]
      rw [if_neg (by omega), fulI_id, bnd_s, eqI_f (a := k) (b := 5) (by omega), joinK_l]
      simp only
      rw [cnd_f rfl, if_neg (by omega), if_neg (by omega), if_neg (by omega), fulI_id, bnd_s]
      rw [loopT_seq (fun i => ((y, natI (lenN x), (i : Int)), tab (widN (k, p, n)) (upTo (fun j => opA (k, p, n) (fnL x j) (fnL y j)) (fnL x) i), k, p, n)) (widN (k, p, n)) ?a1 ?a2 ?a3 (FUEL_gt (by omega))]
      case a3 => rw [upTo_0, tab_fnL hlx]; rfl
      case a2 =>
        simp only
        rw [cnd_f (ltI_f (by rw [nl, hlx]; omega)), upTo_end]
        rw [samI_ok (by rw [lenN_tab]; exact hlx.symm), bnd_s, bnd_s]
        rfl
      case a1 =>
        intro i hi
        have b1 := el_at hx hi
        have b2 := el_at hy hi
        simp only
        rw [cnd_t (ltI_t (by rw [nl, hlx]; omega)), chk_tab _ hi, bnd_s, getN_tab _ hi, bnd_s, getI_fn (by omega), bnd_s, upTo_at, addI_eq (by omega) (by omega), remI_pos (by omega) (by omega), bnd_s, bnd_s, getN_tab _ hi, bnd_s]
        rw [← hop, upTo_next, lenN_tab, lenN_tab, fulI_id, bnd_s, addI_eq (by omega) (by omega)]
        rfl
    rcases ring_cases hr with ⟨rfl, rfl, rfl⟩ | ⟨rfl, hp, rfl⟩ | ⟨rfl, hp, rfl⟩ | ⟨rfl, hp, rfl⟩ | ⟨rfl, hp, rfl⟩ | ⟨rfl, rfl, hn⟩ | ⟨rfl, hp, hn⟩ | ⟨rfl, hp, hp2, rfl⟩
    · obtain ⟨e1, b1⟩ := el_one hx rfl
      obtain ⟨e2, b2⟩ := el_one hy rfl
      generalize fnL x 0 = a at e1 b1
      generalize fnL y 0 = b at e2 b2
      subst e1 e2
      rw [addE_1 rfl]
      show some [maxI a b] = some [_]
      rw [max_or b1 b2]
      rfl
    · exact loop 2 (.inl rfl) hp hr hx hy
    · obtain ⟨e1, b1⟩ := el_one hx rfl
      obtain ⟨e2, b2⟩ := el_one hy rfl
      generalize fnL x 0 = a at e1 b1
      generalize fnL y 0 = b at e2 b2
      subst e1 e2
      rw [addE_1 rfl]
      show some [minI (addI .i64 a b) p] = some [min (a + b) p]
      rw [addI_eq (by omega) (by omega), minI_eq']
    · obtain ⟨e1, b1⟩ := el_one hx rfl
      obtain ⟨e2, b2⟩ := el_one hy rfl
      generalize fnL x 0 = a at e1 b1
      generalize fnL y 0 = b at e2 b2
      subst e1 e2
      rw [addE_1 rfl]
      show some [minI a b] = some [min a b]
      rw [minI_eq']
    · obtain ⟨e1, b1⟩ := el_one hx rfl
      obtain ⟨e2, b2⟩ := el_one hy rfl
      generalize fnL x 0 = a at e1 b1
      generalize fnL y 0 = b at e2 b2
      subst e1 e2
      rw [addE_1 rfl]
      show some [maxI a b] = some [max a b]
      rw [maxI_eq']
    · obtain ⟨e1, b1⟩ := el_one hx rfl
      obtain ⟨e2, b2⟩ := el_one hy rfl
      generalize fnL x 0 = a at e1 b1
      generalize fnL y 0 = b at e2 b2
      subst e1 e2
      rw [addE_1 rfl]
      show some [orI .i64 a b] = some [_]
      rw [orI_tn (by omega) (by omega)]
      rfl
    · exact loop 7 (.inr (.inl rfl)) hp hr hx hy
    · exact loop 8 (.inr (.inr rfl)) hp hr hx hy
  · cases h

theorem f_spec_l02Add (x : (Int × Int × Int) × List Int × List Int) (z : List Int) (h : F_spec_l02Add x = some z) : G_spec_l02Add FUEL x = some z := by
  obtain ⟨⟨k, p, n⟩, x, y⟩ := x
  simp only [F_spec_l02Add] at h
  split at h
  · rename_i hc
    obtain ⟨hr, hx, hy⟩ := hc
    rw [← h]
    have hT := top_bd hr
    have hw := wid_bd hr
    have hlx := el_len hx
    have hly := el_len hy
    simp only [G_spec_l02Add]
    rw [mkI_nat (n := lenN x) (by unfold lenN; rw [hlx]; simp only [maxBytes]; omega), bnd_s, lenN_repL, fulI_id, bnd_s]
    rw [show lenN x = widN (k, p, n) from hlx]
    rw [loopT_seq (fun i => ((x, y, natI (widN (k, p, n)), (i : Int)), (k, p, n), tab (widN (k, p, n)) (upTo (fun j => opA (k, p, n) (fnL x j) (fnL y j)) (fun _ => 0) i))) (r := Sum.inl (addE (k, p, n) x y)) (widN (k, p, n)) ?a1 ?a2 ?a3 (FUEL_gt (by omega))]
    · rw [joinK_l, takI_id, bnd_s]
    case a3 => rw [upTo_0, tab_rep]; rfl
    case a2 =>
      simp only
      rw [cnd_f (ltI_f (show natI (widN (k, p, n)) ≤ ((widN (k, p, n) : Nat) : Int) from Int.le_refl _)), upTo_end, fulI_id, bnd_s, bnd_s]
      rfl
    case a1 =>
      intro i hi
      have b1 := el_at hx hi
      have b2 := el_at hy hi
      have fin : ∀ v, v = opA (k, p, n) (fnL x i) (fnL y i) → (some (Sum.inl ((x, y, natI (widN (k, p, n)), addI .i64 (i : Int) 1), (k, p, n), setL (tab (widN (k, p, n)) (upTo (fun j => opA (k, p, n) (fnL x j) (fnL y j)) (fun _ => 0) i)) (addN 0 i) v)) :
          Option (((List Int × List Int × Int × Int) × (Int × Int × Int) × List Int) ⊕ (List Int ⊕ List Int))) = some (Sum.inl ((x, y, natI (widN (k, p, n)), ((i + 1 : Nat) : Int)), (k, p, n), tab (widN (k, p, n)) (upTo (fun j => opA (k, p, n) (fnL x j) (fnL y j)) (fun _ => 0) (i + 1)))) := by
        rintro v rfl
        rw [upTo_next (f := fun j => opA (k, p, n) (fnL x j) (fnL y j)), addI_eq (by omega) (by omega)]
        rfl
      have gx : getI x (i : Int) = some (fnL x i) := getI_fn (by omega)
      have gy : getI y (i : Int) = some (fnL y i) := getI_fn (by omega)
      generalize hf : upTo (fun j => opA (k, p, n) (fnL x j) (fnL y j)) (fun _ => 0) i = f at fin
      have hck : chkI (i : Int) (lenN (tab (widN (k, p, n)) f)) = some i := chk_tab _ hi
      have hgn : getN (tab (widN (k, p, n)) f) (addN 0 i) = some (f i) := getN_tab _ hi
      simp only [hf]
      rw [cnd_t (ltI_t (show (i : Int) < natI (widN (k, p, n)) by simp only [natI]; omega))]
      rcases ring_cases hr with ⟨rfl, rfl, rfl⟩ | ⟨rfl, hp, rfl⟩ | ⟨rfl, hp, rfl⟩ | ⟨rfl, hp, rfl⟩ | ⟨rfl, hp, rfl⟩ | ⟨rfl, rfl, hn⟩ | ⟨rfl, hp, hn⟩ | ⟨rfl, hp, hp2, rfl⟩ <;>
        simp only [eqI_d, Int.reduceEq, decide_true, decide_false, cnd_true, cnd_false, fulI_id, bnd_s, joinK_l, gx, gy, hck, hgn, lenN_setL]
      · exact fin _ (by rw [orI_tn (by omega) (by omega)]; rfl)
      · have := isPrimeI_t hp
        have ht : topI (2, p, 0) = p - 1 := rfl
        rw [addI_eq (by omega) (by omega), remI_pos (by omega) (by omega)]
        simp only [bnd_s, hck, hgn, lenN_setL, fulI_id]
        exact fin _ rfl
      · exact fin _ (by rw [addI_eq (by omega) (by omega), minI_eq']; rfl)
      · exact fin _ (by rw [minI_eq']; rfl)
      · exact fin _ (by rw [maxI_eq']; rfl)
      · exact fin _ (by rw [orI_tn (by omega) (by omega)]; rfl)
      · have := isPrimeI_t hp
        have ht : topI (7, p, n) = p - 1 := rfl
        rw [addI_eq (by omega) (by omega), remI_pos (by omega) (by omega)]
        simp only [bnd_s, hck, hgn, lenN_setL, fulI_id]
        exact fin _ rfl
      · have := isPrimeI_t hp
        have ht : topI (8, p, 0) = p - 1 := rfl
        rw [addI_eq (by omega) (by omega), remI_pos (by omega) (by omega)]
        simp only [bnd_s, hck, hgn, lenN_setL, fulI_id]
        exact fin _ rfl
  · cases h

/-! ### products of coefficients -/

/-- The sum over the pairs that came before. -/
def smT (om : Bool) (w : Nat) (x y : Nat → Int) (i j t : Nat) : Int := sm i (fun a => sm w (fun b => kW om x y t a b)) + sm j (fun b => kW om x y t i b)
def cvT (p : Int) (om : Bool) (w : Nat) (x y : Nat → Int) (i j : Nat) : List Int := tab w fun t => smT om w x y i j t % p

theorem cvT_row (p : Int) (om : Bool) (w : Nat) (x y : Nat → Int) (i : Nat) : cvT p om w x y i w = cvT p om w x y (i + 1) 0 := by
  unfold cvT
  refine tab_congr fun t _ => ?_
  simp only [smT, sm, Int.add_zero]
theorem cvT_0 (p : Int) (om : Bool) (w : Nat) (x y : Nat → Int) : cvT p om w x y 0 0 = repL w 0 := by
  rw [tab_rep]
  unfold cvT
  exact tab_congr fun t _ => by simp [smT, sm]
theorem cvT_end (p : Int) (om : Bool) (w : Nat) (x y : Nat → Int) : cvT p om w x y w 0 = cvE p om w x y := by
  unfold cvT cvE
  refine tab_congr fun t _ => ?_
  simp only [smT, sm, Int.add_zero]

theorem emod_addR (a b p : Int) : (a % p + b) % p = (a + b) % p := by rw [Int.emod_add_emod]

/-- One step: the place of a pair gets its product. -/
theorem cvT_step {p : Int} {om : Bool} {w : Nat} {x y : Nat → Int} {i j t0 : Nat} (v : Int) (hp : 0 < p) (ht : i + j = t0 ∨ om = true ∧ i + j = t0 + 4) (hw : om = true → w = 4) (hi : i < w) (hj : j < w) (h0 : t0 < w) (hv : v = (smT om w x y i j t0 + kW om x y t0 i j) % p) :
    setL (cvT p om w x y i j) (addN 0 t0) v = cvT p om w x y i (j + 1) := by
  unfold cvT
  rw [setL_tab]
  refine tab_congr fun t hlt => ?_
  by_cases e : t = t0
  · rw [if_pos e, hv, e]
    congr 1
    simp only [smT, sm]
    omega
  · rw [if_neg e]
    have hk : kW om x y t i j = 0 := by
      unfold kW
      have h3 : i + j ≠ t := by
        rcases ht with h | ⟨h1, h⟩
        · omega
        · have := hw h1; omega
      rw [if_neg h3, if_neg (fun hc => by have := hw hc.1; omega)]
    have e2 : smT om w x y i (j + 1) t = smT om w x y i j t := by
      simp only [smT, sm, hk]; omega
    rw [e2]
theorem cvT_skip {p : Int} {om : Bool} {w : Nat} {x y : Nat → Int} {i j : Nat} (h1 : w ≤ i + j) (h2 : om = false) : cvT p om w x y i j = cvT p om w x y i (j + 1) := by
  unfold cvT
  refine tab_congr fun t hlt => ?_
  have hk : kW om x y t i j = 0 := by
    unfold kW
    rw [if_neg (by omega), if_neg (by simp [h2])]
  have e2 : smT om w x y i (j + 1) t = smT om w x y i j t := by
    simp only [smT, sm, hk]; omega
  rw [e2]

theorem mulI_sm {a b : Int} (ha : 0 ≤ a ∧ a ≤ 1048576) (hb : 0 ≤ b ∧ b ≤ 1048576) : mulI .i64 a b = a * b ∧ 0 ≤ a * b ∧ a * b ≤ 1099511627776 := by
  have h0 : 0 ≤ a * b := Int.mul_nonneg ha.1 hb.1
  have h1 : a * b ≤ 1048576 * 1048576 := Int.mul_le_mul ha.2 hb.2 hb.1 (by decide)
  exact ⟨mulI_eq (by omega) (by omega), h0, by omega⟩

theorem cvT_get {p : Int} {om : Bool} {w : Nat} {x y : Nat → Int} {i j t : Nat} (h : t < w) : chkI (t : Int) (lenN (cvT p om w x y i j)) = some t ∧ getN (cvT p om w x y i j) (addN 0 t) = some (smT om w x y i j t % p) := ⟨chk_tab _ h, getN_tab _ h⟩

/-- What is asked of a ring of coefficients. -/
structure CfR (k p : Int) (w : Nat) : Prop where
  ck : k = 7 ∨ k = 8
  cp : 2 ≤ p ∧ p ≤ 1000003
  cw : 1 ≤ w ∧ w ≤ 6
  w8 : k = 8 → w = 4

theorem cf_of {k p n : Int} (h : ringOk (k, p, n) = true) (hk : k = 7 ∨ k = 8) : CfR k p (widN (k, p, n)) := by
  have hw := wid_bd h
  refine ⟨hk, ?_, hw.2, fun e => by subst e; rfl⟩
  rcases ring_cases h with ⟨rfl, rfl, rfl⟩ | ⟨rfl, hp, rfl⟩ | ⟨rfl, hp, rfl⟩ | ⟨rfl, hp, rfl⟩ | ⟨rfl, hp, rfl⟩ | ⟨rfl, rfl, hn⟩ | ⟨rfl, hp, hn⟩ | ⟨rfl, hp, hp2, rfl⟩
  all_goals first | exact isPrimeI_t hp | (exfalso; omega)

/-- A product's step where the sum stays in its place. -/
theorem cv_lo {k p a b : Int} {w i j : Nat} {x y : Nat → Int} (c : CfR k p w) (ha : 0 ≤ a ∧ a ≤ p) (hb : 0 ≤ b ∧ b ≤ p) (hxa : x i = a) (hyb : y j = b) (hi : i < w) (hj : j < w) (hlt : i + j < w) :
    ∃ v, remI (addI .i64 (smT (decide (k = 8)) w x y i j (i + j) % p) (mulI .i64 a b)) p = some v ∧ (∀ q, remI (mulI .i64 a b) p = some q → remI (addI .i64 (smT (decide (k = 8)) w x y i j (i + j) % p) q) p = some v) ∧
      setL (cvT p (decide (k = 8)) w x y i j) (addN 0 (i + j)) v = cvT p (decide (k = 8)) w x y i (j + 1) := by
  obtain ⟨hp0, hp1⟩ := c.cp
  obtain ⟨m1, m2, m3⟩ := mulI_sm (a := a) (b := b) (by omega) (by omega)
  have s0 := Int.emod_nonneg (smT (decide (k = 8)) w x y i j (i + j)) (b := p) (by omega)
  have s1 := Int.emod_lt_of_pos (smT (decide (k = 8)) w x y i j (i + j)) (b := p) (by omega)
  have hk : kW (decide (k = 8)) x y (i + j) i j = a * b := by unfold kW; rw [if_pos rfl, hxa, hyb]
  refine ⟨(smT (decide (k = 8)) w x y i j (i + j) % p + a * b) % p, ?_, fun q hq => ?_, cvT_step _ (by omega) (.inl rfl) (fun hc => c.w8 (of_decide_eq_true hc)) hi hj hlt (by rw [hk, emod_addR])⟩
  · rw [m1, addI_eq (by omega) (by omega), remI_pos (by omega) (by omega)]
  · rw [m1, remI_pos (by omega) (by omega)] at hq
    injection hq with hq
    have q0 := Int.emod_nonneg (a * b) (b := p) (by omega)
    have q1 := Int.emod_lt_of_pos (a * b) (b := p) (by omega)
    rw [← hq, addI_eq (by omega) (by omega), remI_pos (by omega) (by omega), Int.add_emod_emod]

/-- A product's step where the sum wraps around. -/
theorem cv_hi {p a b : Int} {i j : Nat} {x y : Nat → Int} (hp : 2 ≤ p ∧ p ≤ 1000003) (ha : 0 ≤ a ∧ a ≤ p) (hb : 0 ≤ b ∧ b ≤ p) (hxa : x i = a) (hyb : y j = b) (hi : i < 4) (hj : j < 4) (hlt : 4 ≤ i + j) :
    ∃ v, remI (addI .i64 (smT true 4 x y i j (i + j - 4) % p) (mulI .i64 (subI .i64 p a) b)) p = some v ∧ (∀ q, remI (mulI .i64 a b) p = some q → remI (subI .i64 (addI .i64 (smT true 4 x y i j (i + j - 4) % p) p) q) p = some v) ∧
      setL (cvT p true 4 x y i j) (addN 0 (i + j - 4)) v = cvT p true 4 x y i (j + 1) := by
  obtain ⟨hp0, hp1⟩ := hp
  have hs : subI .i64 p a = p - a := subI_eq (by omega) (by omega)
  obtain ⟨m1, m2, m3⟩ := mulI_sm (a := a) (b := b) (by omega) (by omega)
  obtain ⟨n1, n2, n3⟩ := mulI_sm (a := p - a) (b := b) (by omega) (by omega)
  have s0 := Int.emod_nonneg (smT true 4 x y i j (i + j - 4)) (b := p) (by omega)
  have s1 := Int.emod_lt_of_pos (smT true 4 x y i j (i + j - 4)) (b := p) (by omega)
  have hk : kW true x y (i + j - 4) i j = -(a * b) := by unfold kW; rw [if_neg (by omega), if_pos ⟨rfl, by omega⟩, hxa, hyb]
  have key : (smT true 4 x y i j (i + j - 4) % p + (p - a) * b) % p = (smT true 4 x y i j (i + j - 4) + -(a * b)) % p := by
    rw [emod_addR]
    rw [show smT true 4 x y i j (i + j - 4) + (p - a) * b = smT true 4 x y i j (i + j - 4) + -(a * b) + p * b by rw [Int.sub_mul]; omega, Int.add_mul_emod_self_left]
  refine ⟨(smT true 4 x y i j (i + j - 4) % p + (p - a) * b) % p, ?_, fun q hq => ?_, cvT_step _ (by omega) (.inr ⟨rfl, by omega⟩) (fun _ => rfl) hi hj (by omega) (by rw [hk, key])⟩
  · rw [hs, n1, addI_eq (by omega) (by omega), remI_pos (by omega) (by omega)]
  · rw [m1, remI_pos (by omega) (by omega)] at hq
    injection hq with hq
    have q0 := Int.emod_nonneg (a * b) (b := p) (by omega)
    have q1 := Int.emod_lt_of_pos (a * b) (b := p) (by omega)
    rw [← hq, addI_eq (by omega) (by omega), subI_eq (by omega) (by omega), remI_pos (by omega) (by omega), key]
    congr 1
    rw [show smT true 4 x y i j (i + j - 4) % p + p - a * b % p = smT true 4 x y i j (i + j - 4) % p - a * b % p + p by omega, Int.add_emod_right, ← Int.sub_eq_add_neg, Int.sub_emod_emod, Int.emod_sub_emod]

theorem f_impl_mulCoefficients (x : (Int × Int × Int) × List Int × List Int × List Int) (z : List Int) (h : F_impl_mulCoefficients x = some z) : G_impl_mulCoefficients FUEL x = some z := by
  obtain ⟨⟨k, p, n⟩, l, x, y⟩ := x
  simp only [F_impl_mulCoefficients] at h
  split at h
  · rename_i hc
    obtain ⟨⟨hr, hk⟩, hl, hx, hy⟩ := hc
    rw [← h]
    have c := cf_of hr hk
    have hlx := el_len hx
    have hly := el_len hy
    have htop : topI (k, p, n) = p - 1 := by
      simp only [topI]
      rw [if_neg (by omega), if_neg (by omega), if_neg (by omega)]
    have bx := fun j (hj : j < widN (k, p, n)) => el_at hx hj
    have by_ := fun j (hj : j < widN (k, p, n)) => el_at hy hj
    rw [htop] at bx by_
    obtain ⟨hp0, hp1⟩ := c.cp
    obtain ⟨hw0, hw1⟩ := c.cw
    have hmul : mulE (k, p, n) x y = cvE p (decide (k = 8)) (widN (k, p, n)) (fnL x) (fnL y) := by
      simp only [mulE]; rw [if_pos hk]
    rw [hmul]
    simp only [G_impl_mulCoefficients]
    have h0 : cpyL l 0 (lenN l) (repL (lenN l) (0 : Int)) = some (repL (widN (k, p, n)) 0) := by
      unfold cpyL
      rw [if_pos (by simp [lenN])]
      simp [repL, lenN, hl]
    rw [h0, bnd_s, show lenN l = widN (k, p, n) from hl, lenN_repL, fulI_id, bnd_s]
    generalize widN (k, p, n) = w at *
    rw [loopT_seq (fun i => ((x, y, natI (lenN x), (i : Int)), cvT p (decide (k = 8)) w (fnL x) (fnL y) i 0, k, p, n)) w ?a1 ?a2 ?a3 (FUEL_gt (by omega))]
    case a3 => rw [cvT_0]; rfl
    case a2 =>
      simp only
      rw [cnd_f (ltI_f (by rw [nl, hlx]; omega)), cvT_end, samI_ok (by unfold cvE; rw [lenN_tab]), bnd_s, bnd_s]
    case a1 =>
      intro i hi
      simp only
      rw [cnd_t (ltI_t (by rw [nl, hlx]; omega)), fulI_id, bnd_s]
      rw [loopT_seq (fun j => ((x, y, (i : Int), natI (lenN x), (i : Int), natI (lenN y), (j : Int)), cvT p (decide (k = 8)) w (fnL x) (fnL y) i j, k, p, n)) (r := Sum.inl (((i : Int), x, y, natI (lenN x)), cvT p (decide (k = 8)) w (fnL x) (fnL y) i w, k, p, n)) w ?b1 ?b2 ?b3 (FUEL_gt (by omega))]
      · rw [joinK_l]
        simp only
        rw [fulI_id, bnd_s, cvT_row, addI_eq (by omega) (by omega)]
        rfl
      case b3 => rfl
      case b2 =>
        simp only
        rw [cnd_f (ltI_f (by rw [nl, hly]; omega)), fulI_id, bnd_s, bnd_s]
      case b1 =>
        intro j hj
        have b1 := bx i hi
        have b2 := by_ j hj
        simp only
        rw [cnd_t (ltI_t (by rw [nl, hly]; omega)), getI_fn (by omega), bnd_s, getI_fn (by omega), bnd_s]
        obtain ⟨m1, m2, m3⟩ := mulI_sm (a := fnL x i) (b := fnL y j) (by omega) (by omega)
        obtain ⟨q, hq⟩ : ∃ q, remI (mulI .i64 (fnL x i) (fnL y j)) p = some q := ⟨_, by rw [m1, remI_pos (by omega) (by omega)]⟩
        rw [hq, bnd_s, addI_eq (a := (i : Int)) (by omega) (by omega), addI_eq (a := (j : Int)) (by omega) (by omega)]
        rw [show (i : Int) + (j : Int) = ((i + j : Nat) : Int) by omega, show (j : Int) + 1 = ((j + 1 : Nat) : Int) by omega]
        rw [show lenN (cvT p (decide (k = 8)) w (fnL x) (fnL y) i j) = w from lenN_tab _ _]
        by_cases hlt : i + j < w
        · obtain ⟨v, v1, v2, v3⟩ := cv_lo c (a := fnL x i) (b := fnL y j) (by omega) (by omega) rfl rfl hi hj hlt
          obtain ⟨g1, g2⟩ := cvT_get (p := p) (om := decide (k = 8)) (x := fnL x) (y := fnL y) (i := i) (j := j) hlt
          rw [show lenN (cvT p (decide (k = 8)) w (fnL x) (fnL y) i j) = w from lenN_tab _ _] at g1
          rw [cnd_t (ltI_t (by simp only [natI]; omega)), g1, bnd_s, g2, bnd_s, v2 q hq, bnd_s, bnd_s, g2, bnd_s, v3, show lenN (cvT p (decide (k = 8)) w (fnL x) (fnL y) i (j + 1)) = w from lenN_tab _ _, fulI_id, bnd_s]
        · rw [cnd_f (ltI_f (by simp only [natI]; omega)), cnd_eqI]
          by_cases h8 : k = 8
          · obtain rfl := c.w8 h8
            subst h8
            obtain ⟨v, v1, v2, v3⟩ := cv_hi (p := p) (a := fnL x i) (b := fnL y j) ⟨hp0, hp1⟩ (by omega) (by omega) rfl rfl hi hj (by omega)
            obtain ⟨g1, g2⟩ := cvT_get (p := p) (om := true) (w := 4) (x := fnL x) (y := fnL y) (i := i) (j := j) (t := i + j - 4) (by omega)
            rw [show lenN (cvT p true 4 (fnL x) (fnL y) i j) = 4 from lenN_tab _ _] at g1
            rw [if_pos rfl, subI_eq (a := ((i + j : Nat) : Int)) (by omega) (by omega), show ((i + j : Nat) : Int) - 4 = ((i + j - 4 : Nat) : Int) by omega]
            simp only [decide_true]
            rw [g1, bnd_s, g2, bnd_s, v2 q hq, bnd_s, bnd_s, g2, bnd_s, v3, show lenN (cvT p true 4 (fnL x) (fnL y) i (j + 1)) = 4 from lenN_tab _ _, fulI_id, bnd_s]
          · rw [if_neg h8, fulI_id, bnd_s, cvT_skip (by omega) (decide_eq_false h8)]
  · cases h

theorem mulE_1 {r : Int × Int × Int} {a b : Int} (h : ¬ (r.1 = 7 ∨ r.1 = 8)) : mulE r [a] [b] = [opM r a b] := by simp only [mulE]; rw [if_neg h]; rfl

theorem len1 {l : List Int} (h : l.length = 1) : ∃ t, l = [t] := by
  match l, h with
  | [t], _ => exact ⟨t, rfl⟩

theorem el_two {r : Int × Int × Int} {x y : List Int} (hx : elOk r x = true) (hy : elOk r y = true) (hw : widN r = 1) : ∃ a b, x = [a] ∧ y = [b] ∧ (0 ≤ a ∧ a ≤ topI r) ∧ 0 ≤ b ∧ b ≤ topI r :=
  ⟨_, _, (el_one hx hw).1, (el_one hy hw).1, (el_one hx hw).2, (el_one hy hw).2⟩

theorem f_impl_mulInto (x : (Int × Int × Int) × List Int × List Int × List Int) (z : List Int) (h : F_impl_mulInto x = some z) : G_impl_mulInto FUEL x = some z := by
  obtain ⟨⟨k, p, n⟩, l, x, y⟩ := x
  simp only [F_impl_mulInto] at h
  split at h
  · rename_i hc
    obtain ⟨hr, hl, hx, hy⟩ := hc
    rw [← h]
    have hT := top_bd hr
    rcases ring_cases hr with ⟨rfl, rfl, rfl⟩ | ⟨rfl, hp, rfl⟩ | ⟨rfl, hp, rfl⟩ | ⟨rfl, hp, rfl⟩ | ⟨rfl, hp, rfl⟩ | ⟨rfl, rfl, hn⟩ | ⟨rfl, hp, hn⟩ | ⟨rfl, hp, hp2, rfl⟩
    · obtain ⟨a, b, rfl, rfl, b1, b2⟩ := el_two hx hy rfl
      obtain ⟨t, rfl⟩ := len1 (l := l) hl
      rw [mulE_1 (by simp)]
      show some [minI a b] = some [_]
      rw [min_and b1 b2]; rfl
    · obtain ⟨a, b, rfl, rfl, b1, b2⟩ := el_two hx hy rfl
      obtain ⟨t, rfl⟩ := len1 (l := l) hl
      rw [mulE_1 (by simp)]
      have := isPrimeI_t hp
      have ht : topI (2, p, 0) = p - 1 := rfl
      obtain ⟨m1, m2, m3⟩ := mulI_sm (a := a) (b := b) (by omega) (by omega)
      show (remI (mulI .i64 a b) p).bnd (fun q => some [q]) = some [_]
      rw [m1, remI_pos (by omega) (by omega)]; rfl
    · obtain ⟨a, b, rfl, rfl, b1, b2⟩ := el_two hx hy rfl
      obtain ⟨t, rfl⟩ := len1 (l := l) hl
      rw [mulE_1 (by simp)]
      obtain ⟨m1, m2, m3⟩ := mulI_sm (a := a) (b := b) (by omega) (by omega)
      show some [minI (mulI .i64 a b) p] = some [_]
      rw [m1, minI_eq']; rfl
    · obtain ⟨a, b, rfl, rfl, b1, b2⟩ := el_two hx hy rfl
      obtain ⟨t, rfl⟩ := len1 (l := l) hl
      rw [mulE_1 (by simp)]
      show some [minI (addI .i64 a b) p] = some [_]
      rw [addI_eq (by omega) (by omega), minI_eq']; rfl
    · obtain ⟨a, b, rfl, rfl, b1, b2⟩ := el_two hx hy rfl
      obtain ⟨t, rfl⟩ := len1 (l := l) hl
      rw [mulE_1 (by simp)]
      show some [minI a b] = some [_]
      rw [minI_eq']; rfl
    · obtain ⟨a, b, rfl, rfl, b1, b2⟩ := el_two hx hy rfl
      obtain ⟨t, rfl⟩ := len1 (l := l) hl
      rw [mulE_1 (by simp)]
      show some [andI .i64 a b] = some [_]
      rw [andI_tn (by omega) (by omega)]; rfl
    · simp only [G_impl_mulInto, eqI_d, Int.reduceEq, decide_true, decide_false, cnd_true, cnd_false, fulI_id, bnd_s, joinK_l]
      rw [show F_impl_mulCoefficients ((7, p, n), l, x, y) = some (mulE (7, p, n) x y) from if_pos ⟨⟨hr, .inl rfl⟩, hl, hx, hy⟩, bnd_s, samI_ok (by rw [show lenN l = _ from hl]; exact lenN_tab _ _), bnd_s]
    · simp only [G_impl_mulInto, eqI_d, Int.reduceEq, decide_true, decide_false, cnd_true, cnd_false, fulI_id, bnd_s, joinK_l]
      rw [show F_impl_mulCoefficients ((8, p, 0), l, x, y) = some (mulE (8, p, 0) x y) from if_pos ⟨⟨hr, .inr rfl⟩, hl, hx, hy⟩, bnd_s, samI_ok (by rw [show lenN l = _ from hl]; exact lenN_tab _ _), bnd_s]
  · cases h

theorem cf_cases {k p n : Int} (h : ringOk (k, p, n) = true) (hk : k = 7 ∨ k = 8) (om : Bool) (he : om = decide (k = 8)) : eqI k 1 = false ∧ eqI k 6 = false ∧ eqI k 2 = false ∧ eqI k 3 = false ∧ eqI k 4 = false ∧ eqI k 5 = false :=
  ⟨eqI_f (by omega), eqI_f (by omega), eqI_f (by omega), eqI_f (by omega), eqI_f (by omega), eqI_f (by omega)⟩

theorem f_spec_l02Mul (x : (Int × Int × Int) × List Int × List Int) (z : List Int) (h : F_spec_l02Mul x = some z) : G_spec_l02Mul FUEL x = some z := by
  obtain ⟨⟨k, p, n⟩, x, y⟩ := x
  simp only [F_spec_l02Mul] at h
  split at h
  · rename_i hc
    obtain ⟨hr, hx, hy⟩ := hc
    rw [← h]
    have hT := top_bd hr
    by_cases hk : k = 7 ∨ k = 8
    · have c := cf_of hr hk
      have hlx := el_len hx
      have hly := el_len hy
      have htop : topI (k, p, n) = p - 1 := by
        simp only [topI]
        rw [if_neg (by omega), if_neg (by omega), if_neg (by omega)]
      have bx := fun j (hj : j < widN (k, p, n)) => el_at hx hj
      have by_ := fun j (hj : j < widN (k, p, n)) => el_at hy hj
      rw [htop] at bx by_
      obtain ⟨hp0, hp1⟩ := c.cp
      obtain ⟨hw0, hw1⟩ := c.cw
      have hmul : mulE (k, p, n) x y = cvE p (decide (k = 8)) (widN (k, p, n)) (fnL x) (fnL y) := by
        simp only [mulE]; rw [if_pos hk]
      rw [hmul]
      obtain ⟨k1, k6, k2, k3, k4, k5⟩ := cf_cases hr hk _ rfl
      simp only [G_spec_l02Mul]
      rw [mkI_nat (n := lenN x) (by unfold lenN; rw [hlx]; simp only [maxBytes]; omega), bnd_s, lenN_repL, fulI_id, bnd_s, bnd_s, k1, cnd_f rfl, joinK_l]
      simp only
      rw [k6, cnd_f rfl, k2, cnd_f rfl, k3, cnd_f rfl, k4, cnd_f rfl, k5, cnd_f rfl, lenN_repL, fulI_id, bnd_s, show lenN x = widN (k, p, n) from hlx]
      generalize widN (k, p, n) = w at *
      rw [loopT_seq (fun i => ((y, x, natI w, (i : Int)), (k, p, n), cvT p (decide (k = 8)) w (fnL x) (fnL y) i 0)) (r := Sum.inl (cvE p (decide (k = 8)) w (fnL x) (fnL y))) w ?a1 ?a2 ?a3 (FUEL_gt (by omega))]
      · rw [joinK_l, takI_id, bnd_s]
      case a3 => rw [cvT_0]; rfl
      case a2 =>
        simp only
        rw [cnd_f (ltI_f (show natI w ≤ ((w : Nat) : Int) from Int.le_refl _)), cvT_end, fulI_id, bnd_s, bnd_s]
      case a1 =>
        intro i hi
        simp only
        rw [cnd_t (ltI_t (show (i : Int) < natI w by simp only [natI]; omega)), getI_fn (by omega), bnd_s, fulI_id, bnd_s]
        rw [loopT_seq (fun j => ((y, (i : Int), fnL x i, x, natI w, (i : Int), y, natI (lenN y), (j : Int)), (k, p, n), cvT p (decide (k = 8)) w (fnL x) (fnL y) i j)) (r := Sum.inl (((i : Int), y, x, natI w), (k, p, n), cvT p (decide (k = 8)) w (fnL x) (fnL y) i w)) w ?b1 ?b2 ?b3 (FUEL_gt (by omega))]
        · rw [joinK_l]
          simp only
          rw [fulI_id, bnd_s, cvT_row, addI_eq (by omega) (by omega)]
          rfl
        case b3 => rfl
        case b2 =>
          simp only
          rw [cnd_f (ltI_f (by rw [nl, hly]; omega)), fulI_id, bnd_s, bnd_s]
        case b1 =>
          intro j hj
          have b1 := bx i hi
          have b2 := by_ j hj
          simp only
          rw [cnd_t (ltI_t (by rw [nl, hly]; omega)), getI_fn (by omega), bnd_s]
          rw [addI_eq (a := (i : Int)) (by omega) (by omega), addI_eq (a := (j : Int)) (by omega) (by omega)]
          rw [show (i : Int) + (j : Int) = ((i + j : Nat) : Int) by omega, show (j : Int) + 1 = ((j + 1 : Nat) : Int) by omega]
          rw [show lenN (cvT p (decide (k = 8)) w (fnL x) (fnL y) i j) = w from lenN_tab _ _]
          by_cases hlt : i + j < w
          · obtain ⟨v, v1, v2, v3⟩ := cv_lo c (a := fnL x i) (b := fnL y j) (by omega) (by omega) rfl rfl hi hj hlt
            obtain ⟨g1, g2⟩ := cvT_get (p := p) (om := decide (k = 8)) (x := fnL x) (y := fnL y) (i := i) (j := j) hlt
            rw [show lenN (cvT p (decide (k = 8)) w (fnL x) (fnL y) i j) = w from lenN_tab _ _] at g1
            rw [cnd_t (ltI_t (by simp only [natI]; omega)), g1, bnd_s, g2, bnd_s, v1, bnd_s, bnd_s, g2, bnd_s, v3, show lenN (cvT p (decide (k = 8)) w (fnL x) (fnL y) i (j + 1)) = w from lenN_tab _ _, fulI_id, bnd_s]
          · rw [cnd_f (ltI_f (by simp only [natI]; omega)), cnd_eqI]
            by_cases h8 : k = 8
            · obtain rfl := c.w8 h8
              subst h8
              obtain ⟨v, v1, v2, v3⟩ := cv_hi (p := p) (a := fnL x i) (b := fnL y j) ⟨hp0, hp1⟩ (by omega) (by omega) rfl rfl hi hj (by omega)
              obtain ⟨g1, g2⟩ := cvT_get (p := p) (om := true) (w := 4) (x := fnL x) (y := fnL y) (i := i) (j := j) (t := i + j - 4) (by omega)
              rw [show lenN (cvT p true 4 (fnL x) (fnL y) i j) = 4 from lenN_tab _ _] at g1
              rw [if_pos rfl, subI_eq (a := ((i + j : Nat) : Int)) (by omega) (by omega), show ((i + j : Nat) : Int) - 4 = ((i + j - 4 : Nat) : Int) by omega]
              simp only [decide_true]
              rw [g1, bnd_s, g2, bnd_s, v1, bnd_s, bnd_s, g2, bnd_s, v3, show lenN (cvT p true 4 (fnL x) (fnL y) i (j + 1)) = 4 from lenN_tab _ _, fulI_id, bnd_s]
            · rw [if_neg h8, fulI_id, bnd_s, cvT_skip (by omega) (decide_eq_false h8)]
    · rcases ring_cases hr with ⟨rfl, rfl, rfl⟩ | ⟨rfl, hp, rfl⟩ | ⟨rfl, hp, rfl⟩ | ⟨rfl, hp, rfl⟩ | ⟨rfl, hp, rfl⟩ | ⟨rfl, rfl, hn⟩ | ⟨rfl, hp, hn⟩ | ⟨rfl, hp, hp2, rfl⟩
      · obtain ⟨a, b, rfl, rfl, b1, b2⟩ := el_two hx hy rfl
        rw [mulE_1 (by simp)]
        show some [andI .i64 a b] = some [_]
        rw [andI_tn (by omega) (by omega)]; rfl
      · obtain ⟨a, b, rfl, rfl, b1, b2⟩ := el_two hx hy rfl
        rw [mulE_1 (by simp)]
        have := isPrimeI_t hp
        have ht : topI (2, p, 0) = p - 1 := rfl
        obtain ⟨m1, m2, m3⟩ := mulI_sm (a := a) (b := b) (by omega) (by omega)
        have e : remI (mulI .i64 a b) p = some (a * b % p) := by rw [m1, remI_pos (by omega) (by omega)]
        show joinK ((remI (mulI .i64 a b) p).bnd fun q => some (Sum.inl [q])) _ = some [_]
        rw [e]; rfl
      · obtain ⟨a, b, rfl, rfl, b1, b2⟩ := el_two hx hy rfl
        rw [mulE_1 (by simp)]
        obtain ⟨m1, m2, m3⟩ := mulI_sm (a := a) (b := b) (by omega) (by omega)
        show some [minI (mulI .i64 a b) p] = some [_]
        rw [m1, minI_eq']; rfl
      · obtain ⟨a, b, rfl, rfl, b1, b2⟩ := el_two hx hy rfl
        rw [mulE_1 (by simp)]
        show some [minI (addI .i64 a b) p] = some [_]
        rw [addI_eq (by omega) (by omega), minI_eq']; rfl
      · obtain ⟨a, b, rfl, rfl, b1, b2⟩ := el_two hx hy rfl
        rw [mulE_1 (by simp)]
        show some [minI a b] = some [_]
        rw [minI_eq']; rfl
      · obtain ⟨a, b, rfl, rfl, b1, b2⟩ := el_two hx hy rfl
        rw [mulE_1 (by simp)]
        show some [andI .i64 a b] = some [_]
        rw [andI_tn (by omega) (by omega)]; rfl
      · omega
      · omega
  · cases h

theorem mulE_len {r : Int × Int × Int} {x y : List Int} (hr : ringOk r = true) : (mulE r x y).length = widN r := by
  obtain ⟨k, p, n⟩ := r
  simp only [mulE]
  split
  · exact tab_len _ _
  · rename_i hk
    simp only [widN, widI]
    rw [if_neg (by omega), if_neg (by omega)]
    rfl

theorem f_impl_rawMul (x : (Int × Int × Int) × List Int × List Int) (z : List Int) (h : F_impl_rawMul x = some z) : G_impl_rawMul FUEL x = some z := by
  obtain ⟨⟨k, p, n⟩, x, y⟩ := x
  simp only [F_impl_rawMul] at h
  split at h
  · rename_i hc
    obtain ⟨hr, hx, hy⟩ := hc
    rw [← h]
    simp only [G_impl_rawMul, F_impl_rawWidth, bnd_s]
    rw [mkW hr, bnd_s, lenN_repL, fulI_id, bnd_s, show F_impl_mulInto ((k, p, n), repL (widN (k, p, n)) 0, x, y) = some (mulE (k, p, n) x y) from if_pos ⟨hr, lenN_repL _ _, hx, hy⟩, bnd_s, takI_len (mulE_len hr), bnd_s]
  · cases h

/-! ### elements stay elements -/

theorem el_zero {r : Int × Int × Int} (hr : ringOk r = true) : elOk r (zeroE r) = true := by
  have hT := top_bd hr
  obtain ⟨k, p, n⟩ := r
  simp only [zeroE]
  split
  · rename_i h4
    subst h4
    simp [elOk, widN, widI, topI, inTop]
    simp [topI] at hT
    omega
  · rw [tab_rep]
    exact el_mk fun j _ => ⟨Int.le_refl _, hT.1⟩
theorem oneE_tab (k p n : Int) : oneE (k, p, n) = tab (widN (k, p, n)) fun j => if j = 0 then (if k = 4 then 0 else if k = 5 ∨ k = 6 then topI (k, p, n) else 1) else 0 := by
  simp only [oneE]
  rw [tab_rep]
  exact tab_set _ 0 _
theorem top_1 {k p n : Int} (hr : ringOk (k, p, n) = true) : 1 ≤ topI (k, p, n) := by
  rcases ring_cases hr with ⟨rfl, rfl, rfl⟩ | ⟨rfl, hp, rfl⟩ | ⟨rfl, hp, rfl⟩ | ⟨rfl, hp, rfl⟩ | ⟨rfl, hp, rfl⟩ | ⟨rfl, rfl, hn⟩ | ⟨rfl, hp, hn⟩ | ⟨rfl, hp, hp2, rfl⟩
  · simp [topI]
  · have := isPrimeI_t hp; simp [topI]; omega
  · simp [topI]; omega
  · simp [topI]; omega
  · simp [topI]; omega
  · have a : (2 : Nat) ^ 1 ≤ 2 ^ n.toNat := Nat.pow_le_pow_right (by decide) (by omega)
    have e : (((2 : Nat) ^ n.toNat : Nat) : Int) = (2 : Int) ^ n.toNat := by push_cast; rfl
    simp only [topI, Int.reduceEq, reduceIte, or_self]
    omega
  · have := isPrimeI_t hp; simp [topI]; omega
  · have := isPrimeI_t hp; simp [topI]; omega
theorem el_oneE {r : Int × Int × Int} (hr : ringOk r = true) : elOk r (oneE r) = true := by
  obtain ⟨k, p, n⟩ := r
  have h1 := top_1 hr
  rw [oneE_tab]
  refine el_mk fun j _ => ?_
  split
  · split
    · omega
    · split <;> omega
  · omega
theorem opA_in {r : Int × Int × Int} (hr : ringOk r = true) {a b : Int} (ha : 0 ≤ a ∧ a ≤ topI r) (hb : 0 ≤ b ∧ b ≤ topI r) : 0 ≤ opA r a b ∧ opA r a b ≤ topI r := by
  have hT := top_bd hr
  obtain ⟨k, p, n⟩ := r
  have md : ∀ c : Int, 2 ≤ p → 0 ≤ c % p ∧ c % p ≤ p - 1 := fun c h => by
    have q0 := Int.emod_nonneg c (b := p) (by omega)
    have q1 := Int.emod_lt_of_pos c (b := p) (by omega)
    omega
  rcases ring_cases hr with ⟨rfl, rfl, rfl⟩ | ⟨rfl, hp, rfl⟩ | ⟨rfl, hp, rfl⟩ | ⟨rfl, hp, rfl⟩ | ⟨rfl, hp, rfl⟩ | ⟨rfl, rfl, hn⟩ | ⟨rfl, hp, hn⟩ | ⟨rfl, hp, hp2, rfl⟩
  · have e : topI (1, 0, 0) = 1 := rfl
    rw [e] at ha hb ⊢
    have h1 : a = 0 ∨ a = 1 := by omega
    have h2 : b = 0 ∨ b = 1 := by omega
    rcases h1 with rfl | rfl <;> rcases h2 with rfl | rfl <;> decide
  · exact md _ (isPrimeI_t hp).1
  · have e : topI (3, p, 0) = p := rfl
    have o : opA (3, p, 0) a b = min (a + b) p := rfl
    omega
  · have o : opA (4, p, 0) a b = min a b := rfl
    omega
  · have o : opA (5, p, 0) a b = max a b := rfl
    omega
  · have e : topI (6, 0, n) = 2 ^ n.toNat - 1 := rfl
    have o : opA (6, 0, n) a b = ((a.toNat ||| b.toNat : Nat) : Int) := rfl
    have e2 : (((2 : Nat) ^ n.toNat : Nat) : Int) = (2 : Int) ^ n.toNat := by push_cast; rfl
    have := Nat.or_lt_two_pow (n := n.toNat) (x := a.toNat) (y := b.toNat) (by omega) (by omega)
    omega
  · exact md _ (isPrimeI_t hp).1
  · exact md _ (isPrimeI_t hp).1
theorem el_add {r : Int × Int × Int} {x y : List Int} (hr : ringOk r = true) (hx : elOk r x = true) (hy : elOk r y = true) : elOk r (addE r x y) = true :=
  el_mk fun _ hj => opA_in hr (el_at hx hj) (el_at hy hj)
theorem opM_in {r : Int × Int × Int} (hr : ringOk r = true) (hk : ¬ (r.1 = 7 ∨ r.1 = 8)) {a b : Int} (ha : 0 ≤ a ∧ a ≤ topI r) (hb : 0 ≤ b ∧ b ≤ topI r) : 0 ≤ opM r a b ∧ opM r a b ≤ topI r := by
  have hT := top_bd hr
  obtain ⟨k, p, n⟩ := r
  simp only at hk
  rcases ring_cases hr with ⟨rfl, rfl, rfl⟩ | ⟨rfl, hp, rfl⟩ | ⟨rfl, hp, rfl⟩ | ⟨rfl, hp, rfl⟩ | ⟨rfl, hp, rfl⟩ | ⟨rfl, rfl, hn⟩ | ⟨rfl, hp, hn⟩ | ⟨rfl, hp, hp2, rfl⟩
  · have e : topI (1, 0, 0) = 1 := rfl
    rw [e] at ha hb ⊢
    have h1 : a = 0 ∨ a = 1 := by omega
    have h2 : b = 0 ∨ b = 1 := by omega
    rcases h1 with rfl | rfl <;> rcases h2 with rfl | rfl <;> decide
  · have := isPrimeI_t hp
    have o : opM (2, p, 0) a b = a * b % p := rfl
    have e : topI (2, p, 0) = p - 1 := rfl
    have q0 := Int.emod_nonneg (a * b) (b := p) (by omega)
    have q1 := Int.emod_lt_of_pos (a * b) (b := p) (by omega)
    omega
  · have e : topI (3, p, 0) = p := rfl
    have o : opM (3, p, 0) a b = min (a * b) p := rfl
    have := Int.mul_nonneg ha.1 hb.1
    omega
  · have o : opM (4, p, 0) a b = min (a + b) p := rfl
    have e : topI (4, p, 0) = p := rfl
    omega
  · have o : opM (5, p, 0) a b = min a b := rfl
    omega
  · have o : opM (6, 0, n) a b = ((a.toNat &&& b.toNat : Nat) : Int) := rfl
    have := Nat.and_le_left (n := a.toNat) (m := b.toNat)
    omega
  · omega
  · omega
theorem el_mul {r : Int × Int × Int} {x y : List Int} (hr : ringOk r = true) (hx : elOk r x = true) (hy : elOk r y = true) : elOk r (mulE r x y) = true := by
  by_cases hk : r.1 = 7 ∨ r.1 = 8
  · simp only [mulE]
    rw [if_pos hk]
    obtain ⟨k, p, n⟩ := r
    have c := cf_of hr hk
    have htop : topI (k, p, n) = p - 1 := by
      simp only at hk
      simp only [topI]
      rw [if_neg (by omega), if_neg (by omega), if_neg (by omega)]
    refine el_mk fun j _ => ?_
    rw [htop]
    have := c.cp
    have q0 := Int.emod_nonneg (sm (widN (k, p, n)) fun i => sm (widN (k, p, n)) fun j' => kW (decide (k = 8)) (fnL x) (fnL y) j i j') (b := p) (by omega)
    have q1 := Int.emod_lt_of_pos (sm (widN (k, p, n)) fun i => sm (widN (k, p, n)) fun j' => kW (decide (k = 8)) (fnL x) (fnL y) j i j') (b := p) (by omega)
    exact ⟨q0, Int.le_sub_one_of_lt q1⟩
  · have hw : widN r = 1 := by
      obtain ⟨k, p, n⟩ := r
      simp only at hk
      simp only [widN, widI]
      rw [if_neg (by omega), if_neg (by omega)]
      rfl
    obtain ⟨a, b, rfl, rfl, b1, b2⟩ := el_two hx hy hw
    rw [mulE_1 hk]
    have := opM_in hr hk b1 b2
    simp [elOk, hw, inTop, this]
theorem el_pow {r : Int × Int × Int} {x : List Int} (hr : ringOk r = true) (hx : elOk r x = true) : ∀ n, elOk r (powE r x n) = true
  | 0 => el_oneE hr
  | n + 1 => el_mul hr (el_pow hr hx n) hx

theorem f_impl_rawPow (x : (Int × Int × Int) × List Int × Int) (z : List Int) (h : F_impl_rawPow x = some z) : G_impl_rawPow FUEL x = some z := by
  obtain ⟨⟨k, p, n⟩, x, m⟩ := x
  simp only [F_impl_rawPow] at h
  split at h
  · rename_i hc
    obtain ⟨⟨hr, hx⟩, hm0, hm1⟩ := hc
    obtain ⟨m, rfl⟩ := natI_eq hm0
    rw [← h]
    simp only [G_impl_rawPow]
    rw [show F_impl_rawOne (k, p, n) = some (oneE (k, p, n)) from if_pos hr, bnd_s, fulI_id, bnd_s]
    rw [loopT_seq (fun i => ((x, (m : Int), (i : Int)), (k, p, n), powE (k, p, n) x i)) (r := Sum.inl (powE (k, p, n) x m)) m ?a1 ?a2 ?a3 (FUEL_gt (by omega))]
    · rw [joinK_l, takI_id, bnd_s, Int.toNat_natCast]
    case a3 => rfl
    case a2 =>
      simp only
      rw [cnd_f (ltI_f (Int.le_refl _)), fulI_id, bnd_s, bnd_s]
    case a1 =>
      intro i hi
      simp only
      rw [cnd_t (ltI_t (by omega)), winI_id, bnd_s, show F_impl_rawMul ((k, p, n), powE (k, p, n) x i, x) = some (mulE (k, p, n) (powE (k, p, n) x i) x) from if_pos ⟨hr, el_pow hr hx i, hx⟩, bnd_s, fulI_id, bnd_s, addI_eq (by omega) (by omega)]
      rfl
  · cases h

end Go.Am
end
section
namespace Go.Am
def mu_spec_IsIndependent : MSig := []
def mu_impl_IsIndependent : MSig := []
def ag_spec_IsIndependent : Sig := [(.agg, [.int .i64, .list [.int .i64, .int .i64]]), (.one, [.int .i64])]
def rs_spec_IsIndependent : Sig := [(.one, [.bool])]

def ag_impl_IsIndependent : Sig := [(.agg, [.int .i64, .list [.int .i64, .int .i64]]), (.one, [.int .i64])]
def rs_impl_IsIndependent : Sig := [(.one, [.bool])]

/-! ### the functions -/

def isInd (n : Int) (es : List (Int × Int)) (s : Int) : Bool := graphOk n es && (decide (0 ≤ s ∧ s < 2 ^ n.toNat) && es.all fun e => !(s.toNat.testBit e.1.toNat && s.toNat.testBit e.2.toNat))
def F_spec_IsIndependent : (Int × List (Int × Int)) × Int → Option Bool := fun (((n, es), s) : (Int × List (Int × Int)) × Int) => some (isInd n es s)
def F_impl_IsIndependent : (Int × List (Int × Int)) × Int → Option Bool := fun (((n, es), s) : (Int × List (Int × Int)) × Int) => some (isInd n es s)
def relab (b a : Int) (l : List Int) : List Int := l.map fun x => if x = b then a else x
def atI (l : List Int) (i : Int) : Int := l.getD i.toNat 0
def iotaI (n : Nat) : List Int := (List.range n).map fun i => ((i : Nat) : Int)
/-- The reference: the number of parts that are left, and each node's part. -/
def partStep (s : Nat) (i : Nat) (st : Int × List Int) (e : Int × Int) : Int × List Int :=
  if s.testBit i = true ∧ atI st.2 e.1 ≠ atI st.2 e.2 then (st.1 - 1, relab (atI st.2 e.2) (atI st.2 e.1) st.2) else st
def parts (n : Int) (es : List (Int × Int)) (s : Int) : Int × List Int := foldN (partStep s.toNat) 0 (n, iotaI n.toNat) es
def leastStep (s : Nat) (i : Nat) (l : List Int) (e : Int × Int) : List Int :=
  if s.testBit i = true then relab (max (atI l e.1) (atI l e.2)) (min (atI l e.1) (atI l e.2)) l else l
def fixes (l : List Int) : Int := ((List.range l.length).countP fun i => l.getD i 0 == (i : Int) : Nat)
def G_spec_IsIndependent (NN : Nat) : ((Int × (List (Int × Int))) × Int) → (Option Bool) :=
 (fun (((i0, l1), i2) : ((Int × (List (Int × Int))) × Int)) =>
 (F_spec_GraphOk (i0, l1)).bnd (fun b3 =>
 cnd (notB b3)
 (some false)
 ((shlI .i64 (1 : Int) i0).bnd (fun i4 =>
 (F_spec_l01In (i2, (0 : Int), subI .i64 i4 1)).bnd (fun b5 =>
 cnd (notB b5)
 (some false)
 (joinK (loopT NN (fun ((i6, l7, i8, i9) : (Int × ((List (Int × Int)) × (Int × Int)))) =>
 cnd (ltI i9 i8)
 ((getI l7 i9).bnd (fun (i10, i11) =>
 (shrI .i64 i6 i10).bnd (fun i12 =>
 cnd (eqI (andI .i64 i12 (1 : Int)) (1 : Int))
 ((shrI .i64 i6 i11).bnd (fun i13 =>
 cnd (eqI (andI .i64 i13 (1 : Int)) (1 : Int))
 (some (Sum.inr (Sum.inr false)))
 (some (Sum.inl (i6, l7, i8, addI .i64 i9 1)))))
 (some (Sum.inl (i6, l7, i8, addI .i64 i9 1))))))
 (some (Sum.inr (Sum.inl ()))))
 (i2, l1, natI (lenN l1), (0 : Int)))
 (fun _ =>
 some true)))))))

def G_impl_IsIndependent (NN : Nat) : ((Int × (List (Int × Int))) × Int) → (Option Bool) :=
 (fun (((i0, l1), i2) : ((Int × (List (Int × Int))) × Int)) =>
 (F_impl_GraphOk (i0, l1)).bnd (fun b3 =>
 cnd (notB b3)
 (some false)
 (cnd (ltI i2 (0 : Int))
 (some false)
 ((shlI .i64 (1 : Int) i0).bnd (fun i4 =>
 cnd (leI i4 i2)
 (some false)
 (joinK (loopT NN (fun ((i5, l6, i7, i8) : (Int × ((List (Int × Int)) × (Int × Int)))) =>
 cnd (ltI i8 i7)
 ((getI l6 i8).bnd (fun (i9, i10) =>
 (shrI .i64 i5 i9).bnd (fun i11 =>
 cnd (eqI (andI .i64 i11 (1 : Int)) (1 : Int))
 ((shrI .i64 i5 i10).bnd (fun i12 =>
 cnd (eqI (andI .i64 i12 (1 : Int)) (1 : Int))
 (some (Sum.inr (Sum.inr false)))
 (some (Sum.inl (i5, l6, i7, addI .i64 i8 1)))))
 (some (Sum.inl (i5, l6, i7, addI .i64 i8 1))))))
 (some (Sum.inr (Sum.inl ()))))
 (i2, l1, natI (lenN l1), (0 : Int)))
 (fun _ =>
 some true)))))))

/-! ### the functions do so -/

theorem graphOk_t {n : Int} {es : List (Int × Int)} (h : graphOk n es = true) : (0 ≤ n ∧ n ≤ 10) ∧ es.length ≤ 10 ∧ ∀ e ∈ es, (0 ≤ e.1 ∧ e.1 ≤ n - 1) ∧ (0 ≤ e.2 ∧ e.2 ≤ n - 1) := by
  simp only [graphOk, Bool.and_eq_true, decide_eq_true_eq, List.all_eq_true, edgeOk] at h
  exact ⟨h.1.1, h.1.2, h.2⟩

theorem shl_sub {k : Nat} (hk : k < 62) : subI .i64 ((2 ^ k : Nat) : Int) 1 = ((2 ^ k : Nat) : Int) - 1 := by
  have h1 : 2 ^ k < 2 ^ 62 := Nat.pow_lt_pow_right (by decide) hk
  have h0 := Nat.two_pow_pos k
  have h2 : ((2 ^ k : Nat) : Int) < ((4611686018427387904 : Nat) : Int) := Int.ofNat_lt.2 h1
  have h3 : (1 : Int) ≤ ((2 ^ k : Nat) : Int) := by exact_mod_cast h0
  exact subI_eq (by omega) (by omega)

theorem pow_cast (k : Nat) : ((2 ^ k : Nat) : Int) = 2 ^ k := by norm_cast

theorem pow_lt63 {s k : Nat} (h : s < 2 ^ k) (hk : k < 63) : s < 2 ^ 63 := Nat.lt_trans h (Nat.pow_lt_pow_right (by decide) hk)

theorem f_spec_IsIndependent (x : (Int × List (Int × Int)) × Int) (y : Bool) (h : F_spec_IsIndependent x = some y) : G_spec_IsIndependent FUEL x = some y := by
  obtain ⟨⟨n, es⟩, s⟩ := x
  rw [← h]
  simp only [F_spec_IsIndependent, G_spec_IsIndependent, F_spec_GraphOk, F_spec_l01In, bnd_s, isInd]
  cases hg : graphOk n es with
  | false => rfl
  | true =>
    obtain ⟨⟨hn0, hn⟩, hl, he⟩ := graphOk_t hg
    obtain ⟨m, rfl⟩ := natI_eq hn0
    rw [cnd_f (by rfl), shlI_one (by omega), bnd_s, shl_sub (by omega), Bool.true_and]
    by_cases hs : 0 ≤ s ∧ s < 2 ^ m
    · have hs' : 0 ≤ s ∧ s ≤ ((2 ^ m : Nat) : Int) - 1 := by rw [pow_cast]; omega
      obtain ⟨k, rfl⟩ := natI_eq hs.1
      have hk : k < 2 ^ 63 := pow_lt63 (k := m) (by exact_mod_cast hs.2) (by omega)
      rw [cnd_f (notB_p hs'), loopT_all (mk := fun i => ((k : Int), es, natI (lenN es), (i : Int))) es (fun e => !((k : Int).toNat.testBit e.1.toNat && (k : Int).toNat.testBit e.2.toNat)) (Sum.inr false) (Sum.inl ()) ?_ ?_ ?_ ?_ (lt_FUEL hl (by decide))]
      · simp only [Int.toNat_natCast]
        rw [decide_eq_true hs, Bool.true_and]
        split
        · rename_i h; rw [h]; rfl
        · rename_i h; rw [Bool.not_eq_true] at h; rw [h]; rfl
      all_goals try simp only
      · rintro i ⟨u, v⟩ ha hp
        obtain ⟨⟨hu, _⟩, hv, _⟩ := he _ (List.mem_of_getElem? ha)
        obtain ⟨u, rfl⟩ := natI_eq hu
        obtain ⟨v, rfl⟩ := natI_eq hv
        rw [cnd_t (ltI_in ha), getI_nat, ha, bnd_s]
        simp only [shrI_nat hk, bnd_s, bit_t hk, next_i ha (by omega), Int.toNat_natCast] at hp ⊢
        cases h1 : k.testBit u <;> cases h2 : k.testBit v <;> simp [h1, h2, cnd] at hp ⊢
      · rintro i ⟨u, v⟩ ha hp
        obtain ⟨⟨hu, _⟩, hv, _⟩ := he _ (List.mem_of_getElem? ha)
        obtain ⟨u, rfl⟩ := natI_eq hu
        obtain ⟨v, rfl⟩ := natI_eq hv
        rw [cnd_t (ltI_in ha), getI_nat, ha, bnd_s]
        simp only [shrI_nat hk, bnd_s, bit_t hk, next_i ha (by omega), Int.toNat_natCast] at hp ⊢
        cases h1 : k.testBit u <;> cases h2 : k.testBit v <;> simp [h1, h2, cnd] at hp ⊢
      · rw [cnd_f (ltI_end es)]
      · rfl
    · have hs' : ¬ (0 ≤ s ∧ s ≤ ((2 ^ m : Nat) : Int) - 1) := by rw [pow_cast]; omega
      rw [cnd_t (notB_d hs'), Int.toNat_natCast, decide_eq_false hs]
      rfl

theorem f_impl_IsIndependent (x : (Int × List (Int × Int)) × Int) (y : Bool) (h : F_impl_IsIndependent x = some y) : G_impl_IsIndependent FUEL x = some y := by
  obtain ⟨⟨n, es⟩, s⟩ := x
  rw [← h]
  simp only [F_impl_IsIndependent, G_impl_IsIndependent, F_impl_GraphOk, bnd_s, isInd]
  cases hg : graphOk n es with
  | false => rfl
  | true =>
    obtain ⟨⟨hn0, hn⟩, hl, he⟩ := graphOk_t hg
    obtain ⟨m, rfl⟩ := natI_eq hn0
    rw [cnd_f (by rfl), Bool.true_and, Int.toNat_natCast]
    by_cases hs0 : s < 0
    · rw [cnd_t (ltI_t hs0), decide_eq_false (by omega)]
      rfl
    rw [cnd_f (ltI_f (by omega)), shlI_one (by omega), bnd_s]
    by_cases hs : s < 2 ^ m
    · obtain ⟨k, rfl⟩ := natI_eq (z := s) (by omega)
      have hk : k < 2 ^ 63 := pow_lt63 (k := m) (by exact_mod_cast hs) (by omega)
      rw [cnd_f (leI_f (by rw [pow_cast]; exact hs)), loopT_all (mk := fun i => ((k : Int), es, natI (lenN es), (i : Int))) es (fun e => !((k : Int).toNat.testBit e.1.toNat && (k : Int).toNat.testBit e.2.toNat)) (Sum.inr false) (Sum.inl ()) ?_ ?_ ?_ ?_ (lt_FUEL hl (by decide))]
      · rw [decide_eq_true ⟨by omega, hs⟩, Bool.true_and]
        split
        · rename_i h; rw [h]; rfl
        · rename_i h; rw [Bool.not_eq_true] at h; rw [h]; rfl
      all_goals try simp only
      · rintro i ⟨u, v⟩ ha hp
        obtain ⟨⟨hu, _⟩, hv, _⟩ := he _ (List.mem_of_getElem? ha)
        obtain ⟨u, rfl⟩ := natI_eq hu
        obtain ⟨v, rfl⟩ := natI_eq hv
        rw [cnd_t (ltI_in ha), getI_nat, ha, bnd_s]
        simp only [shrI_nat hk, bnd_s, bit_t hk, next_i ha (by omega), Int.toNat_natCast] at hp ⊢
        cases h1 : k.testBit u <;> cases h2 : k.testBit v <;> simp [h1, h2, cnd] at hp ⊢
      · rintro i ⟨u, v⟩ ha hp
        obtain ⟨⟨hu, _⟩, hv, _⟩ := he _ (List.mem_of_getElem? ha)
        obtain ⟨u, rfl⟩ := natI_eq hu
        obtain ⟨v, rfl⟩ := natI_eq hv
        rw [cnd_t (ltI_in ha), getI_nat, ha, bnd_s]
        simp only [shrI_nat hk, bnd_s, bit_t hk, next_i ha (by omega), Int.toNat_natCast] at hp ⊢
        cases h1 : k.testBit u <;> cases h2 : k.testBit v <;> simp [h1, h2, cnd] at hp ⊢
      · rw [cnd_f (ltI_end es)]
      · rfl
    · rw [cnd_t (leI_t (by rw [pow_cast]; omega)), decide_eq_false (by omega)]
      rfl

/-! ### parts -/

theorem iotaI_len (n : Nat) : (iotaI n).length = n := by simp [iotaI]
theorem relab_len (b a : Int) (l : List Int) : (relab b a l).length = l.length := by simp [relab]
theorem countP_succ (p : Nat → Bool) (j : Nat) : (List.range (j + 1)).countP p = (List.range j).countP p + (if p j = true then 1 else 0) := by
  rw [List.range_succ, List.countP_append, List.countP_singleton]

/-! ### the parts have as many as the fixed points -/

theorem countP_one (p q : Nat → Bool) (k : Nat) : ∀ n, k < n → (∀ i, i < n → i ≠ k → p i = q i) → p k = true → q k = false → (List.range n).countP p = (List.range n).countP q + 1
  | 0, h, _, _, _ => by omega
  | n + 1, h, hpq, h1, h2 => by
    rw [countP_succ, countP_succ]
    by_cases hk : k = n
    · subst hk
      rw [h1, h2]
      have : (List.range k).countP p = (List.range k).countP q := List.countP_congr fun i hi => by
        have := List.mem_range.1 hi
        rw [hpq i (by omega) (by omega)]
      rw [this]
      simp
    · rw [countP_one p q k n (by omega) (fun i hi => hpq i (by omega)) h1 h2, hpq n (by omega) (by omega)]
      omega

structure PInv (m : Nat) (l : List Int) (c : Int) (q : List Int) : Prop where
  ll : l.length = m
  lq : q.length = m
  same : ∀ i j : Nat, i < m → j < m → (l.getD i 0 = l.getD j 0 ↔ q.getD i 0 = q.getD j 0)
  low : ∀ i : Nat, i < m → 0 ≤ l.getD i 0 ∧ l.getD i 0 ≤ (i : Int) ∧ l.getD (l.getD i 0).toNat 0 = l.getD i 0
  cnt : fixes l = c

theorem relab_getD {b a : Int} {l : List Int} {i : Nat} (h : i < l.length) : (relab b a l).getD i 0 = if l.getD i 0 = b then a else l.getD i 0 := by
  simp [relab, List.getD, List.getElem?_map, List.getElem?_eq_getElem h]

theorem relab_self (b : Int) (l : List Int) : relab b b l = l := by
  unfold relab
  conv => rhs; rw [← List.map_id l]
  refine List.map_congr_left fun x _ => ?_
  split
  · rename_i h; exact h.symm
  · rfl

theorem merge_eq {b a x y : Int} : ((if x = b then a else x) = (if y = b then a else y)) ↔ (x = y ∨ ((x = b ∨ x = a) ∧ (y = b ∨ y = a))) := by
  constructor
  · intro h; split at h <;> split at h <;> omega
  · intro h; split <;> split <;> omega

theorem PInv.step {m : Nat} {l : List Int} {c : Int} {q : List Int} (h : PInv m l c q) {u v : Nat} (hu : u < m) (hv : v < m) {s i : Nat} :
    PInv m (leastStep s i l ((u : Int), (v : Int))) (partStep s i (c, q) ((u : Int), (v : Int))).1 (partStep s i (c, q) ((u : Int), (v : Int))).2 := by
  cases hb : s.testBit i with
  | false =>
    have e1 : leastStep s i l ((u : Int), (v : Int)) = l := if_neg (by rw [hb]; decide)
    have e2 : partStep s i (c, q) ((u : Int), (v : Int)) = (c, q) := if_neg (fun hh => by rw [hb] at hh; exact absurd hh.1 (by decide))
    rw [e1, e2]
    exact h
  | true =>
    have ep : q.getD u 0 = q.getD v 0 → partStep s i (c, q) ((u : Int), (v : Int)) = (c, q) := fun h => if_neg (fun hh => hh.2 h)
    have en : q.getD u 0 ≠ q.getD v 0 → partStep s i (c, q) ((u : Int), (v : Int)) = (c - 1, relab (q.getD v 0) (q.getD u 0) q) := fun h => if_pos ⟨hb, h⟩
    have el : leastStep s i l ((u : Int), (v : Int)) = relab (max (l.getD u 0) (l.getD v 0)) (min (l.getD u 0) (l.getD v 0)) l := if_pos hb
    obtain ⟨ll, lq, same, low, cnt⟩ := h
    by_cases hq : q.getD u 0 = q.getD v 0
    · have hl := (same u v hu hv).2 hq
      rw [ep hq, el, hl, Int.max_self, Int.min_self, relab_self]
      exact ⟨ll, lq, same, low, cnt⟩
    · have hl : l.getD u 0 ≠ l.getD v 0 := fun e => hq ((same u v hu hv).1 e)
      rw [en hq, el]
      obtain ⟨lu0, lu1, lu2⟩ := low u hu
      obtain ⟨lv0, lv1, lv2⟩ := low v hv
      -- lo and hi
      obtain ⟨lo, hi, e1, e2, hlt, hset, hlo0, hlo, hhi, hhim⟩ : ∃ lo hi : Nat, min (l.getD u 0) (l.getD v 0) = (lo : Int) ∧ max (l.getD u 0) (l.getD v 0) = (hi : Int) ∧ lo < hi ∧
          (∀ x : Int, (x = (hi : Int) ∨ x = (lo : Int)) ↔ (x = l.getD v 0 ∨ x = l.getD u 0)) ∧ lo < m ∧ l.getD lo 0 = (lo : Int) ∧ l.getD hi 0 = (hi : Int) ∧ hi < m := by
        obtain ⟨a, ha⟩ := natI_eq lu0
        obtain ⟨b, hb⟩ := natI_eq lv0
        rw [ha, Int.toNat_natCast] at lu2
        rw [hb, Int.toNat_natCast] at lv2
        rw [ha] at lu1 hl
        rw [hb] at lv1 hl
        rw [ha, hb]
        rcases Nat.lt_or_ge a b with hab | hab
        · exact ⟨a, b, by omega, by omega, hab, fun x => by omega, by omega, lu2, lv2, by omega⟩
        · exact ⟨b, a, by omega, by omega, by omega, fun x => by omega, by omega, lv2, lu2, by omega⟩
      rw [e1, e2]
      have gl : ∀ j, j < m → (relab (hi : Int) (lo : Int) l).getD j 0 = if l.getD j 0 = (hi : Int) then (lo : Int) else l.getD j 0 := fun j hj => relab_getD (by omega)
      have gq : ∀ j, j < m → (relab (q.getD v 0) (q.getD u 0) q).getD j 0 = if q.getD j 0 = q.getD v 0 then q.getD u 0 else q.getD j 0 := fun j hj => relab_getD (by omega)
      refine ⟨by rw [relab_len]; exact ll, by rw [relab_len]; exact lq, ?_, ?_, ?_⟩
      · intro x y hx hy
        rw [gl x hx, gl y hy, gq x hx, gq y hy, merge_eq, merge_eq, hset, hset, same x y hx hy, same x u hx hu, same x v hx hv, same y u hy hu, same y v hy hv]
      · intro x hx
        obtain ⟨h0, h1, h2⟩ := low x hx
        rw [gl x hx]
        by_cases hxh : l.getD x 0 = (hi : Int)
        · rw [if_pos hxh]
          refine ⟨by omega, by omega, ?_⟩
          rw [Int.toNat_natCast, gl lo hlo0, hlo, if_neg (by omega)]
        · rw [if_neg hxh]
          refine ⟨h0, h1, ?_⟩
          rw [gl _ (by omega), h2, if_neg hxh]
      · have hc := countP_one (fun j => l.getD j 0 == (j : Int)) (fun j => (relab (hi : Int) (lo : Int) l).getD j 0 == (j : Int)) hi m hhim ?_ (by rw [hhi]; simp) (by rw [gl hi hhim, if_pos hhi]; simp; omega)
        · unfold fixes at cnt ⊢
          rw [relab_len, ll]
          rw [ll, hc] at cnt
          omega
        · intro j hj hne
          rw [gl j hj]
          by_cases hjh : l.getD j 0 = (hi : Int)
          · rw [if_pos hjh, hjh, Bool.eq_iff_iff]
            simp only [beq_iff_eq]
            constructor
            · intro h; omega
            · intro h
              have : lo = j := by omega
              subst this
              omega
          · rw [if_neg hjh]

theorem iotaI_getD {m i : Nat} (h : i < m) : (iotaI m).getD i 0 = (i : Int) := by
  simp [iotaI, List.getD, List.getElem?_map, List.getElem?_range h]

theorem PInv.init (m : Nat) : PInv m (iotaI m) (m : Int) (iotaI m) := by
  refine ⟨iotaI_len m, iotaI_len m, fun _ _ _ _ => Iff.rfl, fun i hi => ?_, ?_⟩
  · rw [iotaI_getD hi, Int.toNat_natCast, iotaI_getD hi]
    omega
  · unfold fixes
    rw [iotaI_len]
    have : (List.range m).countP (fun i => (iotaI m).getD i 0 == (i : Int)) = (List.range m).length := by
      rw [List.countP_eq_length]
      intro i hi
      rw [iotaI_getD (List.mem_range.1 hi)]
      simp
    rw [this, List.length_range]

end Go.Am
end
section
namespace Go.Am

/-! ### sums over sets -/

def popN (n : Nat) : Nat := if n = 0 then 0 else n % 2 + popN (n / 2)
def coverOk (r : Int × Int × Int) (g : Int × List (Int × Int)) (x : List Int) : Bool := ringOk r && (graphOk g.1 g.2 && elOk r x)
def indTo (r : Int × Int × Int) (g : Int × List (Int × Int)) (x : List Int) : Nat → List Int
  | 0 => zeroE r
  | s + 1 => if isInd g.1 g.2 (s : Int) = true then addE r (indTo r g x s) (powE r x (popN s)) else indTo r g x s
def indSum (r : Int × Int × Int) (g : Int × List (Int × Int)) (x : List Int) : List Int := if coverOk r g x = true then indTo r g x (2 ^ g.1.toNat) else []
def F_impl_bitCount : Int → Option Int := fun (s : Int) => if 0 ≤ s ∧ s ≤ 1048576 then some (popN s.toNat : Int) else none
def F_spec_l37Bits : (Int × Int × Int) × List Int × Int → Option (List Int) := fun ((r, x, s) : (Int × Int × Int) × List Int × Int) => if (ringOk r = true ∧ elOk r x = true) ∧ 0 ≤ s ∧ s ≤ 1048576 then some (powE r x (popN s.toNat)) else none
def F_impl_coverArgumentsOk : (Int × Int × Int) × (Int × List (Int × Int)) × List Int → Option Bool := fun ((r, g, x) : (Int × Int × Int) × (Int × List (Int × Int)) × List Int) => if x.length ≤ 9223372036854775806 then some (coverOk r g x) else none
def F_impl_IndependentSum : (Int × Int × Int) × (Int × List (Int × Int)) × List Int → Option (List Int) := fun ((r, g, x) : (Int × Int × Int) × (Int × List (Int × Int)) × List Int) => if x.length ≤ 9223372036854775806 then some (indSum r g x) else none
def F_spec_IndependentSum : (Int × Int × Int) × (Int × List (Int × Int)) × List Int → Option (List Int) := fun ((r, g, x) : (Int × Int × Int) × (Int × List (Int × Int)) × List Int) => if x.length ≤ 9223372036854775806 then some (indSum r g x) else none
def ag_impl_bitCount : Sig := [(.one, [.int .i64])]
def rs_impl_bitCount : Sig := [(.one, [.int .i64])]
def mu_impl_bitCount : MSig := []
def ag_spec_l37Bits : Sig := [(.agg, [.int .i64, .int .i64, .int .i64]), (.one, [.list [.int .i64]]), (.one, [.int .i64])]
def rs_spec_l37Bits : Sig := [(.one, [.list [.int .i64]])]
def mu_spec_l37Bits : MSig := []
def ag_impl_coverArgumentsOk : Sig := [(.agg, [.int .i64, .int .i64, .int .i64]), (.agg, [.int .i64, .list [.int .i64, .int .i64]]), (.one, [.list [.int .i64]])]
def rs_impl_coverArgumentsOk : Sig := [(.one, [.bool])]
def mu_impl_coverArgumentsOk : MSig := []
def ag_impl_IndependentSum : Sig := [(.agg, [.int .i64, .int .i64, .int .i64]), (.agg, [.int .i64, .list [.int .i64, .int .i64]]), (.one, [.list [.int .i64]])]
def rs_impl_IndependentSum : Sig := [(.one, [.list [.int .i64]])]
def mu_impl_IndependentSum : MSig := []
def ag_spec_IndependentSum : Sig := [(.agg, [.int .i64, .int .i64, .int .i64]), (.agg, [.int .i64, .list [.int .i64, .int .i64]]), (.one, [.list [.int .i64]])]
def rs_spec_IndependentSum : Sig := [(.one, [.list [.int .i64]])]
def mu_spec_IndependentSum : MSig := []

def G_impl_bitCount (NN : Nat) : Int → (Option Int) :=
 (fun (i0 : Int) =>
 joinK (loopT NN (fun ((i1, i2) : (Int × Int)) =>
 cnd (neI i1 (0 : Int))
 (some (Sum.inl (andI .i64 i1 (subI .i64 i1 1), addI .i64 i2 1)))
 (some (Sum.inr (Sum.inl i2))))
 (i0, (0 : Int)))
 (fun i3 =>
 some i3))


def G_spec_l37Bits (NN : Nat) : ((Int × (Int × Int)) × ((List Int) × Int)) → (Option (List Int)) :=
 (fun (((i0, i1, i2), l3, i4) : ((Int × (Int × Int)) × ((List Int) × Int))) =>
 (F_spec_l02One (i0, i1, i2)).bnd (fun l5 =>
 joinK ((fulI 0 (lenN l5) (lenN l5)).bnd (fun _ =>
 loopT NN (fun (((l6, i7), (i8, i9, i10), l11) : (((List Int) × Int) × ((Int × (Int × Int)) × (List Int)))) =>
 cnd (ltI (0 : Int) i7)
 ((remI i7 (2 : Int)).bnd (fun i12 =>
 cnd (eqI i12 (1 : Int))
 ((winI l11 0 (lenN l11)).bnd (fun l13 =>
 (F_spec_l02Mul ((i8, i9, i10), l13, l6)).bnd (fun l14 =>
 (quoI .i64 i7 (2 : Int)).bnd (fun i15 =>
 (fulI 0 (lenN l14) (lenN l14)).bnd (fun _ =>
 some (Sum.inl ((l6, i15), (i8, i9, i10), l14)))))))
 ((quoI .i64 i7 (2 : Int)).bnd (fun i16 =>
 (fulI 0 (lenN l11) (lenN l11)).bnd (fun _ =>
 some (Sum.inl ((l6, i16), (i8, i9, i10), l11)))))))
 (((fulI 0 (lenN l11) (lenN l11)).bnd (fun _ =>
 some (Sum.inl l11))).bnd (fun l17 =>
 some (Sum.inr l17))))
 ((l3, i4), (i0, i1, i2), l5)))
 (fun l18 =>
 (takI l18 (lenN l18)).bnd (fun l19 =>
 some l19))))


def G_impl_coverArgumentsOk (NN : Nat) : ((Int × (Int × Int)) × ((Int × (List (Int × Int))) × (List Int))) → (Option Bool) :=
 (fun (((i0, i1, i2), (i3, l4), l5) : ((Int × (Int × Int)) × ((Int × (List (Int × Int))) × (List Int)))) =>
 (F_impl_RingOk (i0, i1, i2)).bnd (fun b6 =>
 cnd (b6)
 ((F_impl_GraphOk (i3, l4)).bnd (fun b7 =>
 cnd (b7)
 ((F_impl_ElemOk ((i0, i1, i2), l5)).bnd (fun b8 =>
 some b8))
 (some false)))
 (some false)))


def G_impl_IndependentSum (NN : Nat) : ((Int × (Int × Int)) × ((Int × (List (Int × Int))) × (List Int))) → (Option (List Int)) :=
 (fun (((i0, i1, i2), (i3, l4), l5) : ((Int × (Int × Int)) × ((Int × (List (Int × Int))) × (List Int)))) =>
 (F_impl_coverArgumentsOk ((i0, i1, i2), (i3, l4), l5)).bnd (fun b6 =>
 cnd (notB b6)
 (some (([] : List Int)))
 ((F_impl_rawZero (i0, i1, i2)).bnd (fun l7 =>
 joinK ((fulI 0 (lenN l7) (lenN l7)).bnd (fun _ =>
 loopT NN (fun (((l8, i9), (i10, i11, i12), (i13, l14), l15) : (((List Int) × Int) × ((Int × (Int × Int)) × ((Int × (List (Int × Int))) × (List Int))))) =>
 (shlI .i64 (1 : Int) i13).bnd (fun i16 =>
 cnd (ltI i9 i16)
 ((F_impl_IsIndependent ((i13, l14), i9)).bnd (fun b17 =>
 cnd (b17)
 ((F_impl_bitCount i9).bnd (fun i18 =>
 (F_impl_rawPow ((i10, i11, i12), l8, i18)).bnd (fun l19 =>
 (fulI 0 (lenN l15) (lenN l15)).bnd (fun _ =>
 (winI l19 0 (lenN l19)).bnd (fun l20 =>
 (F_impl_addInto ((i10, i11, i12), l15, l20)).bnd (fun l21 =>
 (fulI 0 (lenN l15) (lenN l21)).bnd (fun _ =>
 some (Sum.inl ((l8, addI .i64 i9 1), (i10, i11, i12), (i13, l14), l21)))))))))
 ((fulI 0 (lenN l15) (lenN l15)).bnd (fun _ =>
 some (Sum.inl ((l8, addI .i64 i9 1), (i10, i11, i12), (i13, l14), l15))))))
 (((fulI 0 (lenN l15) (lenN l15)).bnd (fun _ =>
 some (Sum.inl l15))).bnd (fun l22 =>
 some (Sum.inr l22)))))
 ((l5, (0 : Int)), (i0, i1, i2), (i3, l4), l7)))
 (fun l23 =>
 (takI l23 (lenN l23)).bnd (fun l24 =>
 some l24))))))


def G_spec_IndependentSum (NN : Nat) : ((Int × (Int × Int)) × ((Int × (List (Int × Int))) × (List Int))) → (Option (List Int)) :=
 (fun (((i0, i1, i2), (i3, l4), l5) : ((Int × (Int × Int)) × ((Int × (List (Int × Int))) × (List Int)))) =>
 (F_spec_ElemOk ((i0, i1, i2), l5)).bnd (fun b6 =>
 cnd (notB b6)
 (some (([] : List Int)))
 ((F_spec_GraphOk (i3, l4)).bnd (fun b7 =>
 cnd (notB b7)
 (some (([] : List Int)))
 ((F_spec_l02Zero (i0, i1, i2)).bnd (fun l8 =>
 joinK ((fulI 0 (lenN l8) (lenN l8)).bnd (fun _ =>
 loopT NN (fun (((l9, i10), (i11, i12, i13), (i14, l15), l16) : (((List Int) × Int) × ((Int × (Int × Int)) × ((Int × (List (Int × Int))) × (List Int))))) =>
 (shlI .i64 (1 : Int) i14).bnd (fun i17 =>
 cnd (ltI i10 i17)
 ((F_spec_IsIndependent ((i14, l15), i10)).bnd (fun b18 =>
 cnd (b18)
 ((F_spec_l37Bits ((i11, i12, i13), l9, i10)).bnd (fun l19 =>
 (winI l16 0 (lenN l16)).bnd (fun l20 =>
 (winI l19 0 (lenN l19)).bnd (fun l21 =>
 (F_spec_l02Add ((i11, i12, i13), l20, l21)).bnd (fun l22 =>
 (fulI 0 (lenN l22) (lenN l22)).bnd (fun _ =>
 some (Sum.inl ((l9, addI .i64 i10 1), (i11, i12, i13), (i14, l15), l22))))))))
 ((fulI 0 (lenN l16) (lenN l16)).bnd (fun _ =>
 some (Sum.inl ((l9, addI .i64 i10 1), (i11, i12, i13), (i14, l15), l16))))))
 (((fulI 0 (lenN l16) (lenN l16)).bnd (fun _ =>
 some (Sum.inl l16))).bnd (fun l23 =>
 some (Sum.inr l23)))))
 ((l5, (0 : Int)), (i0, i1, i2), (i3, l4), l8)))
 (fun l24 =>
 (takI l24 (lenN l24)).bnd (fun l25 =>
 some l25))))))))


/-! ### numbers of members -/

theorem popN_0 : popN 0 = 0 := by rw [popN]; rfl
theorem popN_2 {n : Nat} (h : n ≠ 0) : popN n = n % 2 + popN (n / 2) := by rw [popN, if_neg h]
theorem popN_even (m : Nat) : popN (2 * m) = popN m := by
  by_cases h : m = 0
  · subst h; rfl
  · rw [popN_2 (by omega), show 2 * m % 2 = 0 by omega, show 2 * m / 2 = m by omega, Nat.zero_add]
theorem popN_odd (m : Nat) : popN (2 * m + 1) = popN m + 1 := by
  rw [popN_2 (by omega), show (2 * m + 1) % 2 = 1 by omega, show (2 * m + 1) / 2 = m by omega, Nat.add_comm]
theorem popN_le : ∀ n : Nat, popN n ≤ n := by
  intro n
  induction n using Nat.strongRecOn with
  | ind n ih =>
    by_cases h : n = 0
    · subst h; rw [popN_0]; exact Nat.le_refl _
    · rw [popN_2 h]
      have := ih (n / 2) (by omega)
      omega

theorem and_oe (a b : Nat) : (2 * a + 1) &&& 2 * b = 2 * (a &&& b) := by
  apply Nat.eq_of_testBit_eq
  intro i
  cases i with
  | zero => simp [Nat.testBit_and, Nat.testBit_zero]
  | succ i =>
    have h : (2 * a + 1) / 2 = a := by omega
    rw [Nat.testBit_and, Nat.testBit_succ, Nat.testBit_succ, Nat.testBit_succ, h, Nat.mul_div_cancel_left _ (by decide), Nat.mul_div_cancel_left _ (by decide), Nat.testBit_and]
theorem and_eo (a b : Nat) : 2 * a &&& (2 * b + 1) = 2 * (a &&& b) := by rw [Nat.and_comm, and_oe, Nat.and_comm]

/-- The lowest member goes. -/
theorem popN_low : ∀ n : Nat, n ≠ 0 → popN (n &&& (n - 1)) + 1 = popN n := by
  intro n
  induction n using Nat.strongRecOn with
  | ind n ih =>
    intro hn
    obtain ⟨m, rfl | rfl⟩ : ∃ m, n = 2 * m ∨ n = 2 * m + 1 := ⟨n / 2, by omega⟩
    · have hm : m ≠ 0 := by omega
      rw [show 2 * m - 1 = 2 * (m - 1) + 1 by omega, and_eo, popN_even, popN_even]
      exact ih m (by omega) hm
    · rw [show 2 * m + 1 - 1 = 2 * m by omega, and_oe, Nat.and_self, popN_even, popN_odd]

theorem and_pred_lt {n : Nat} (h : n ≠ 0) : n &&& (n - 1) < n := by
  have := Nat.and_le_right (n := n) (m := n - 1)
  omega

theorem bits_loop : ∀ (N n : Nat) (c : Int), n < N → n ≤ 1048576 → 0 ≤ c → c + n ≤ 4194304 →
    loopT N (fun ((i1, i2) : Int × Int) => cnd (neI i1 0) (some (Sum.inl (andI .i64 i1 (subI .i64 i1 1), addI .i64 i2 1))) (some (Sum.inr (Sum.inl i2 : Int ⊕ Int)))) ((n : Int), c) = some (Sum.inl (c + popN n))
  | 0, n, c, h, _, _, _ => by omega
  | N + 1, n, c, h, h2, h3, h4 => by
    by_cases h0 : n = 0
    · subst h0
      rw [loopT]
      simp only
      rw [cnd_f (neI_f (show ((0 : Nat) : Int) = 0 from rfl)), popN_0]
      simp
    · rw [loopT]
      simp only
      rw [cnd_t (neI_t (by omega)), subI_eq (by omega) (by omega), show (n : Int) - 1 = ((n - 1 : Nat) : Int) by omega, andI_nat (by omega) (by omega), addI_eq (by omega) (by omega)]
      simp only
      have hl := and_pred_lt h0
      rw [bits_loop N (n &&& (n - 1)) (c + 1) (by omega) (by omega) (by omega) (by omega)]
      have := popN_low n h0
      congr 2
      omega

theorem f_impl_bitCount (x : Int) (z : Int) (h : F_impl_bitCount x = some z) : G_impl_bitCount FUEL x = some z := by
  simp only [F_impl_bitCount] at h
  split at h
  · rename_i hc
    obtain ⟨n, rfl⟩ := natI_eq hc.1
    rw [← h]
    simp only [G_impl_bitCount]
    have := bits_loop FUEL n 0 (FUEL_gt (by omega)) (by omega) (by omega) (by omega)
    rw [this, joinK_l]
    simp
  · cases h

theorem quo2 {n : Nat} (h : n ≤ 1048576) : quoI .i64 (n : Int) 2 = some ((n / 2 : Nat) : Int) := by
  unfold quoI
  rw [if_neg (by decide)]
  congr 1
  rw [show ((n : Int).tdiv 2) = ((n / 2 : Nat) : Int) from rfl]
  exact wrap_id (by omega) (by omega)

theorem half_loop {r : Int × Int × Int} {x : List Int} (hr : ringOk r = true) (hx : elOk r x = true) {k p n : Int} (hk : r = (k, p, n)) : ∀ (N m c : Nat), m < N → m ≤ 1048576 →
    loopT N (fun (((l6, i7), (i8, i9, i10), l11) : (List Int × Int) × (Int × Int × Int) × List Int) =>
            cnd (ltI (0 : Int) i7)
              ((remI i7 (2 : Int)).bnd (fun (i12 : Int) =>
                cnd (eqI i12 (1 : Int))
                  ((winI l11 0 (lenN l11)).bnd (fun (l13 : (List Int)) =>
                    (F_spec_l02Mul ((i8, i9, i10), l13, l6)).bnd (fun (l14 : (List Int)) =>
                      (quoI .i64 i7 (2 : Int)).bnd (fun (i15 : Int) =>
                        (fulI 0 (lenN l14) (lenN l14)).bnd (fun (_ : Unit) =>
                          some (Sum.inl ((l6, i15), (i8, i9, i10), l14)))))))
                  ((quoI .i64 i7 (2 : Int)).bnd (fun (i16 : Int) =>
                    (fulI 0 (lenN l11) (lenN l11)).bnd (fun (_ : Unit) =>
                      some (Sum.inl ((l6, i16), (i8, i9, i10), l11)))))))
              (((fulI 0 (lenN l11) (lenN l11)).bnd (fun (_ : Unit) =>
                some (Sum.inl l11))).bnd (fun (l17 : ((List Int) ⊕ (List Int))) =>
                some (Sum.inr l17)))) ((x, (m : Int)), (k, p, n), powE r x c) = some (Sum.inl (powE r x (c + popN m)))
  | 0, m, c, h, _ => by omega
  | N + 1, m, c, h, h2 => by
    rw [loopT]
    simp only
    by_cases h0 : m = 0
    · subst h0
      rw [cnd_f (ltI_f (by omega)), fulI_id, bnd_s, bnd_s, popN_0]
      rfl
    · rw [cnd_t (ltI_t (by omega)), show (2 : Int) = ((2 : Nat) : Int) from rfl, remI_nat (by omega) (by omega), bnd_s, show (((2 : Nat) : Int)) = 2 from rfl, cnd_eqI]
      by_cases ho : m % 2 = 1
      · rw [if_pos (by omega), winI_id, bnd_s, ← hk, show F_spec_l02Mul (r, powE r x c, x) = some (mulE r (powE r x c) x) from if_pos ⟨hr, el_pow hr hx c, hx⟩, bnd_s, quo2 h2, bnd_s, fulI_id, bnd_s]
        simp only
        have := half_loop hr hx hk N (m / 2) (c + 1) (by omega) (by omega)
        rw [hk] at this ⊢
        rw [show mulE (k, p, n) (powE (k, p, n) x c) x = powE (k, p, n) x (c + 1) from rfl, this, popN_2 h0, show c + 1 + popN (m / 2) = c + (m % 2 + popN (m / 2)) by omega]
      · rw [if_neg (by omega), quo2 h2, bnd_s, fulI_id, bnd_s]
        simp only
        rw [half_loop hr hx hk N (m / 2) c (by omega) (by omega), popN_2 h0, show c + popN (m / 2) = c + (m % 2 + popN (m / 2)) by omega]

theorem f_spec_l37Bits (x : (Int × Int × Int) × List Int × Int) (z : List Int) (h : F_spec_l37Bits x = some z) : G_spec_l37Bits FUEL x = some z := by
  obtain ⟨⟨k, p, n⟩, x, m⟩ := x
  simp only [F_spec_l37Bits] at h
  split at h
  · rename_i hc
    obtain ⟨⟨hr, hx⟩, hm0, hm1⟩ := hc
    obtain ⟨m, rfl⟩ := natI_eq hm0
    rw [← h]
    simp only [G_spec_l37Bits]
    rw [show F_spec_l02One (k, p, n) = some (oneE (k, p, n)) from if_pos hr, bnd_s, fulI_id, bnd_s]
    have := half_loop hr hx rfl FUEL m 0 (FUEL_gt (by omega)) (by omega)
    rw [show oneE (k, p, n) = powE (k, p, n) x 0 from rfl, this, joinK_l, takI_id, bnd_s, Nat.zero_add, Int.toNat_natCast]
  · cases h

theorem f_impl_coverArgumentsOk (x : (Int × Int × Int) × (Int × List (Int × Int)) × List Int) (z : Bool) (h : F_impl_coverArgumentsOk x = some z) : G_impl_coverArgumentsOk FUEL x = some z := by
  obtain ⟨⟨k, p, n⟩, ⟨gn, es⟩, x⟩ := x
  simp only [F_impl_coverArgumentsOk] at h
  split at h
  · rename_i hl
    rw [← h]
    simp only [G_impl_coverArgumentsOk, F_impl_RingOk, F_impl_GraphOk, bnd_s, coverOk]
    rw [show F_impl_ElemOk ((k, p, n), x) = some (ringOk (k, p, n) && elOk (k, p, n) x) from if_pos hl, bnd_s]
    cases ringOk (k, p, n) <;> cases graphOk gn es <;> rfl
  · cases h
theorem cover_t {r : Int × Int × Int} {g : Int × List (Int × Int)} {x : List Int} (h : coverOk r g x = true) : ringOk r = true ∧ graphOk g.1 g.2 = true ∧ elOk r x = true := by
  simpa [coverOk] using h
theorem el_ind {r : Int × Int × Int} {g : Int × List (Int × Int)} {x : List Int} (hr : ringOk r = true) (hx : elOk r x = true) : ∀ s, elOk r (indTo r g x s) = true
  | 0 => el_zero hr
  | s + 1 => by
    rw [indTo]
    split
    · exact el_add hr (el_ind hr hx s) (el_pow hr hx _)
    · exact el_ind hr hx s
theorem lenN_el {r : Int × Int × Int} {x y : List Int} (hx : elOk r x = true) (hy : elOk r y = true) : fulI 0 (lenN x) (lenN y) = some () := fulI_ok ((el_len hx).trans (el_len hy).symm)

theorem pow_bd {k m : Nat} (h : k ≤ m) : 2 ^ k ≤ 2 ^ m := Nat.pow_le_pow_right (by decide) h

theorem f_impl_IndependentSum (x : (Int × Int × Int) × (Int × List (Int × Int)) × List Int) (z : List Int) (h : F_impl_IndependentSum x = some z) : G_impl_IndependentSum FUEL x = some z := by
  obtain ⟨⟨k, p, n⟩, ⟨gn, es⟩, x⟩ := x
  simp only [F_impl_IndependentSum] at h
  split at h
  · rename_i hl
    rw [← h]
    simp only [G_impl_IndependentSum, indSum]
    rw [show F_impl_coverArgumentsOk ((k, p, n), (gn, es), x) = some (coverOk (k, p, n) (gn, es) x) from if_pos hl, bnd_s]
    cases hc : coverOk (k, p, n) (gn, es) x with
    | false => rfl
    | true =>
      obtain ⟨hr, hg, hx⟩ := cover_t hc
      obtain ⟨hn, _⟩ := graphOk_t hg
      simp only at hn
      obtain ⟨gn, rfl⟩ := natI_eq hn.1
      rw [cnd_f notB_t, if_pos rfl, show F_impl_rawZero (k, p, n) = some (zeroE (k, p, n)) from if_pos hr, bnd_s, fulI_id, bnd_s]
      have hp : 2 ^ gn ≤ 2 ^ 10 := pow_bd (by omega)
      simp only [Int.toNat_natCast]
      rw [loopT_seq (fun s => ((x, (s : Int)), (k, p, n), ((gn : Int), es), indTo (k, p, n) ((gn : Int), es) x s)) (r := Sum.inl (indTo (k, p, n) ((gn : Int), es) x (2 ^ gn))) (2 ^ gn) ?a1 ?a2 ?a3 (FUEL_gt (by omega))]
      · rw [joinK_l, takI_id, bnd_s]
      case a3 => rfl
      case a2 =>
        simp only
        rw [shlI_one (by omega), bnd_s, cnd_f (ltI_f (Int.le_refl _)), fulI_id, bnd_s, bnd_s]
      case a1 =>
        intro s hs
        simp only
        have e1 := el_ind (g := ((gn : Int), es)) hr hx s
        rw [shlI_one (by omega), bnd_s, cnd_t (ltI_t (by omega)), show F_impl_IsIndependent (((gn : Int), es), (s : Int)) = some (isInd gn es s) from rfl, bnd_s, addI_eq (a := (s : Int)) (by omega) (by omega), indTo]
        cases hi : isInd gn es s with
        | true =>
          have hpl := popN_le s
          rw [cnd_t rfl, if_pos rfl, show F_impl_bitCount (s : Int) = some (popN s : Int) from if_pos ⟨by omega, by omega⟩, bnd_s]
          rw [show F_impl_rawPow ((k, p, n), x, (popN s : Int)) = some (powE (k, p, n) x (popN s)) from if_pos ⟨⟨hr, hx⟩, by omega, by omega⟩, bnd_s, fulI_id, bnd_s, winI_id, bnd_s]
          rw [show F_impl_addInto ((k, p, n), indTo (k, p, n) ((gn : Int), es) x s, powE (k, p, n) x (popN s)) = some (addE (k, p, n) (indTo (k, p, n) ((gn : Int), es) x s) (powE (k, p, n) x (popN s))) from if_pos ⟨hr, e1, el_pow hr hx _⟩, bnd_s, lenN_el e1 (el_add hr e1 (el_pow hr hx _)), bnd_s]
          rfl
        | false =>
          rw [cnd_f rfl, if_neg (by simp), fulI_id, bnd_s]
          rfl
  · cases h

theorem f_spec_IndependentSum (x : (Int × Int × Int) × (Int × List (Int × Int)) × List Int) (z : List Int) (h : F_spec_IndependentSum x = some z) : G_spec_IndependentSum FUEL x = some z := by
  obtain ⟨⟨k, p, n⟩, ⟨gn, es⟩, x⟩ := x
  simp only [F_spec_IndependentSum] at h
  split at h
  · rename_i hl
    rw [← h]
    simp only [G_spec_IndependentSum, indSum]
    rw [show F_spec_ElemOk ((k, p, n), x) = some (ringOk (k, p, n) && elOk (k, p, n) x) from if_pos hl, bnd_s, show F_spec_GraphOk (gn, es) = some (graphOk gn es) from rfl, bnd_s]
    cases hc : coverOk (k, p, n) (gn, es) x with
    | false =>
      simp only [coverOk] at hc
      cases ha : ringOk (k, p, n) <;> cases hb : graphOk gn es <;> cases hd : elOk (k, p, n) x <;> rw [ha, hb, hd] at hc <;> first | rfl | cases hc
    | true =>
      obtain ⟨hr, hg, hx⟩ := cover_t hc
      obtain ⟨hn, _⟩ := graphOk_t hg
      simp only at hn hg
      rw [hr, hx, hg]
      obtain ⟨gn, rfl⟩ := natI_eq hn.1
      rw [cnd_f (b := notB (true && true)) rfl, cnd_f notB_t, if_pos rfl, show F_spec_l02Zero (k, p, n) = some (zeroE (k, p, n)) from if_pos hr, bnd_s, fulI_id, bnd_s]
      have hp : 2 ^ gn ≤ 2 ^ 10 := pow_bd (by omega)
      simp only [Int.toNat_natCast]
      rw [loopT_seq (fun s => ((x, (s : Int)), (k, p, n), ((gn : Int), es), indTo (k, p, n) ((gn : Int), es) x s)) (r := Sum.inl (indTo (k, p, n) ((gn : Int), es) x (2 ^ gn))) (2 ^ gn) ?a1 ?a2 ?a3 (FUEL_gt (by omega))]
      · rw [joinK_l, takI_id, bnd_s]
      case a3 => rfl
      case a2 =>
        simp only
        rw [shlI_one (by omega), bnd_s, cnd_f (ltI_f (Int.le_refl _)), fulI_id, bnd_s, bnd_s]
      case a1 =>
        intro s hs
        simp only
        have e1 := el_ind (g := ((gn : Int), es)) hr hx s
        rw [shlI_one (by omega), bnd_s, cnd_t (ltI_t (by omega)), show F_spec_IsIndependent (((gn : Int), es), (s : Int)) = some (isInd gn es s) from rfl, bnd_s, addI_eq (a := (s : Int)) (by omega) (by omega), indTo]
        cases hi : isInd gn es s with
        | true =>
          rw [cnd_t rfl, if_pos rfl, show F_spec_l37Bits ((k, p, n), x, (s : Int)) = some (powE (k, p, n) x (popN s)) from if_pos ⟨⟨hr, hx⟩, by omega, by omega⟩, bnd_s, winI_id, bnd_s, winI_id, bnd_s]
          rw [show F_spec_l02Add ((k, p, n), indTo (k, p, n) ((gn : Int), es) x s, powE (k, p, n) x (popN s)) = some (addE (k, p, n) (indTo (k, p, n) ((gn : Int), es) x s) (powE (k, p, n) x (popN s))) from if_pos ⟨hr, e1, el_pow hr hx _⟩, bnd_s, fulI_id, bnd_s]
          rfl
        | false =>
          rw [cnd_f rfl, if_neg (by simp), fulI_id, bnd_s]
          rfl
  · cases h
end Go.Am
end
