/- M4: the models of AutomatonOk's functions. No condition. -/
import Derived.Test.YtckmnjojabgnoaaMT
set_option linter.unusedVariables false
set_option linter.unusedSimpArgs false
namespace Go.Am
def ag_spec_IsPrime : Sig := [(.one, [.int .i64])]
def rs_spec_IsPrime : Sig := [(.one, [.bool])]
def ag_spec_l34Row : Sig := [(.one, [.int .i64]), (.one, [.list [.int .i64]]), (.one, [.int .i64])]
def rs_spec_l34Row : Sig := [(.one, [.bool])]
def ag_spec_MatrixOk : Sig := [(.one, [.int .i64]), (.agg, [.int .i64, .int .i64, .list [.int .i64]])]
def rs_spec_MatrixOk : Sig := [(.one, [.bool])]
def ag_spec_AutomatonOk : Sig := [(.agg, [.int .i64, .int .i64, .list [.int .i64], .list [.int .i64, .int .i64, .list [.int .i64]], .list [.int .i64]])]
def rs_spec_AutomatonOk : Sig := [(.one, [.bool])]
def ag_impl_IsPrime : Sig := [(.one, [.int .i64])]
def rs_impl_IsPrime : Sig := [(.one, [.bool])]
def ag_impl_inMod : Sig := [(.one, [.int .i64]), (.one, [.list [.int .i64]])]
def rs_impl_inMod : Sig := [(.one, [.bool])]
def ag_impl_MatrixOk : Sig := [(.one, [.int .i64]), (.agg, [.int .i64, .int .i64, .list [.int .i64]])]
def rs_impl_MatrixOk : Sig := [(.one, [.bool])]
def ag_impl_AutomatonOk : Sig := [(.agg, [.int .i64, .int .i64, .list [.int .i64], .list [.int .i64, .int .i64, .list [.int .i64]], .list [.int .i64]])]
def rs_impl_AutomatonOk : Sig := [(.one, [.bool])]
def ag_laws_FnExactAutomatonOk : Sig := [(.agg, [.int .i64, .int .i64, .list [.int .i64], .list [.int .i64, .int .i64, .list [.int .i64]], .list [.int .i64]])]
def rs_laws_FnExactAutomatonOk : Sig := [(.one, [.bool])]

/-! ### primes, rows, matrices, automata -/

def divAt (n : Int) (i : Nat) : Bool := decide ((i : Int) * i ≤ n) && decide (n % (i : Int) = 0)
def isPrimeI (n : Int) : Bool := decide (2 ≤ n ∧ n ≤ 1000003) && !((List.range' 2 999).any (divAt n))
def F_spec_IsPrime : Int → Option Bool := fun (n : Int) => some (isPrimeI n)
def F_impl_IsPrime : Int → Option Bool := fun (n : Int) => some (isPrimeI n)
def inB (m : Int) (v : Int) : Bool := decide (0 ≤ v ∧ v < m)
def rowOk (m : Int) (l : List Int) : Bool := l.all (inB m)
def F_impl_inMod : Int × List Int → Option Bool := fun ((m, l) : Int × List Int) => if l.length ≤ 1048576 then some (rowOk m l) else none
def F_spec_l34Row : Int × List Int × Int → Option Bool := fun ((m, l, n) : Int × List Int × Int) => if (1 ≤ m ∧ m ≤ 1000003) ∧ l.length ≤ 1048576 then some (rowOk m l && decide ((l.length : Int) = n)) else none
def matOk (m : Int) (x : Int × Int × List Int) : Bool := isPrimeI m && (decide (0 ≤ x.1 ∧ x.1 ≤ 64) && (decide (0 ≤ x.2.1 ∧ x.2.1 ≤ 64) && (decide ((x.2.2.length : Int) = x.1 * x.2.1) && rowOk m x.2.2)))
def F_spec_MatrixOk : Int × Int × Int × List Int → Option Bool := fun ((m, x) : Int × Int × Int × List Int) => if sz_Matrix x ≤ 1048576 then some (matOk m x) else none
def F_impl_MatrixOk : Int × Int × Int × List Int → Option Bool := fun ((m, x) : Int × Int × Int × List Int) => if sz_Matrix x ≤ 1048576 then some (matOk m x) else none
def matsOk (m n : Int) (x : Int × Int × List Int) : Bool := matOk m x && (decide (x.1 = n) && decide (x.2.1 = n))
def autOk (x : Int × Int × List Int × List (Int × Int × List Int) × List Int) : Bool := match x with
  | (m, n, a, ms, b) => isPrimeI m && (decide (0 ≤ n ∧ n ≤ 12) && ((rowOk m a && decide ((a.length : Int) = n)) && ((rowOk m b && decide ((b.length : Int) = n)) && (decide (1 ≤ ms.length ∧ ms.length ≤ 4) && ms.all (matsOk m n)))))
def F_spec_AutomatonOk : Int × Int × List Int × List (Int × Int × List Int) × List Int → Option Bool := fun x => if sz_Automaton x ≤ 1048576 then some (autOk x) else none
def F_impl_AutomatonOk : Int × Int × List Int × List (Int × Int × List Int) × List Int → Option Bool := fun x => if sz_Automaton x ≤ 1048576 then some (autOk x) else none
def F_laws_FnExactAutomatonOk : Int × Int × List Int × List (Int × Int × List Int) × List Int → Option Bool := fun x => if wf_Automaton x = true then some true else none

def G_spec_IsPrime (NN : Nat) : Int → (Option Bool) :=
  (fun (i0 : Int) =>
  joinK (loopT NN (fun ((i1, i2) : (Int × Int)) =>
        cnd (leI (mulI .i64 i2 i2) i1)
          (cnd (leI i1 (1000003 : Int))
            ((remI i1 i2).bnd (fun (i3 : Int) =>
              cnd (eqI i3 (0 : Int))
                (some (Sum.inr (Sum.inr false)))
                (some (Sum.inl (i1, addI .i64 i2 (1 : Int))))))
            (some (Sum.inr (Sum.inl i1))))
          (some (Sum.inr (Sum.inl i1))))
      (i0, (2 : Int)))
    (fun (i4 : Int) =>
      (F_spec_l01In (i4, (2 : Int), (1000003 : Int))).bnd (fun (b5 : Bool) =>
        some b5)))

def G_spec_l34Row (NN : Nat) : (Int × ((List Int) × Int)) → (Option Bool) :=
  (fun ((i0, l1, i2) : (Int × ((List Int) × Int))) =>
  joinK (loopT NN (fun ((i3, l4, i5, l6, i7, i8) : (Int × ((List Int) × (Int × ((List Int) × (Int × Int)))))) =>
        cnd (ltI i8 i7)
          ((getI l6 i8).bnd (fun (i9 : Int) =>
            (F_spec_l01In (i9, (0 : Int), subI .i64 i3 (1 : Int))).bnd (fun (b10 : Bool) =>
              cnd (notB b10)
                (some (Sum.inr (Sum.inr false)))
                (some (Sum.inl (i3, l4, i5, l6, i7, addI .i64 i8 (1 : Int)))))))
          (some (Sum.inr (Sum.inl (l4, i5)))))
      (i0, l1, i2, l1, natI (lenN l1), (0 : Int)))
    (fun ((l11, i12) : ((List Int) × Int)) =>
      some (eqI (natI (lenN l11)) i12)))

def G_spec_MatrixOk (NN : Nat) : (Int × (Int × (Int × (List Int)))) → (Option Bool) :=
  (fun ((i0, i1, i2, l3) : (Int × (Int × (Int × (List Int))))) =>
  (F_spec_IsPrime i0).bnd (fun (b4 : Bool) =>
    cnd (notB b4)
      (some false)
      ((F_spec_l01In (i1, (0 : Int), (64 : Int))).bnd (fun (b5 : Bool) =>
        cnd (notB b5)
          (some false)
          ((F_spec_l01In (i2, (0 : Int), (64 : Int))).bnd (fun (b6 : Bool) =>
            cnd (notB b6)
              (some false)
              (cnd (neI (natI (lenN l3)) (mulI .i64 i1 i2))
                (some false)
                (joinK (loopT NN (fun ((i7, l8, i9, i10) : (Int × ((List Int) × (Int × Int)))) =>
                      cnd (ltI i10 i9)
                        ((getI l8 i10).bnd (fun (i11 : Int) =>
                          (F_spec_l01In (i11, (0 : Int), subI .i64 i7 (1 : Int))).bnd (fun (b12 : Bool) =>
                            cnd (notB b12)
                              (some (Sum.inr (Sum.inr false)))
                              (some (Sum.inl (i7, l8, i9, addI .i64 i10 (1 : Int)))))))
                        (some (Sum.inr (Sum.inl ()))))
                    (i0, l3, natI (lenN l3), (0 : Int)))
                  (fun (_ : Unit) =>
                    some true)))))))))

def G_spec_AutomatonOk (NN : Nat) : (Int × (Int × ((List Int) × ((List (Int × (Int × (List Int)))) × (List Int))))) → (Option Bool) :=
  (fun ((i0, i1, l2, l3, l4) : (Int × (Int × ((List Int) × ((List (Int × (Int × (List Int)))) × (List Int)))))) =>
  (F_spec_IsPrime i0).bnd (fun (b5 : Bool) =>
    cnd (notB b5)
      (some false)
      ((F_spec_l01In (i1, (0 : Int), (12 : Int))).bnd (fun (b6 : Bool) =>
        cnd (notB b6)
          (some false)
          ((F_spec_l34Row (i0, l2, i1)).bnd (fun (b7 : Bool) =>
            cnd (notB b7)
              (some false)
              ((F_spec_l34Row (i0, l4, i1)).bnd (fun (b8 : Bool) =>
                cnd (notB b8)
                  (some false)
                  ((F_spec_l01In (natI (lenN l3), (1 : Int), (4 : Int))).bnd (fun (b9 : Bool) =>
                    cnd (notB b9)
                      (some false)
                      (joinK (loopT NN (fun (((l10, i11, i12), i13, i14, l15, l16, l17) : (((List (Int × (Int × (List Int)))) × (Int × Int)) × (Int × (Int × ((List Int) × ((List (Int × (Int × (List Int)))) × (List Int))))))) =>
                            cnd (ltI i12 i11)
                              ((getI l10 i12).bnd (fun ((i18, i19, l20) : (Int × (Int × (List Int)))) =>
                                (F_spec_MatrixOk (i13, i18, i19, l20)).bnd (fun (b21 : Bool) =>
                                  cnd (notB b21)
                                    (some (Sum.inr (Sum.inr false)))
                                    (cnd (neI i18 i14)
                                      (some (Sum.inr (Sum.inr false)))
                                      (cnd (neI i19 i14)
                                        (some (Sum.inr (Sum.inr false)))
                                        (some (Sum.inl ((l10, i11, addI .i64 i12 (1 : Int)), i13, i14, l15, l16, l17))))))))
                              (some (Sum.inr (Sum.inl ()))))
                          ((l3, natI (lenN l3), (0 : Int)), i0, i1, l2, l3, l4))
                        (fun (_ : Unit) =>
                          some true))))))))))))

def G_impl_IsPrime (NN : Nat) : Int → (Option Bool) :=
  (fun (i0 : Int) =>
  cnd (ltI i0 (2 : Int))
    (some false)
    (cnd (ltI (1000003 : Int) i0)
      (some false)
      (joinK (loopT NN (fun ((i1, i2) : (Int × Int)) =>
            cnd (leI (mulI .i64 i2 i2) i1)
              ((remI i1 i2).bnd (fun (i3 : Int) =>
                cnd (eqI i3 (0 : Int))
                  (some (Sum.inr (Sum.inr false)))
                  (some (Sum.inl (i1, addI .i64 i2 (1 : Int))))))
              (some (Sum.inr (Sum.inl ()))))
          (i0, (2 : Int)))
        (fun (_ : Unit) =>
          some true))))

def G_impl_inMod (NN : Nat) : (Int × (List Int)) → (Option Bool) :=
  (fun ((i0, l1) : (Int × (List Int))) =>
  joinK (loopT NN (fun ((i2, l3, i4, i5) : (Int × ((List Int) × (Int × Int)))) =>
        cnd (ltI i5 i4)
          ((getI l3 i5).bnd (fun (i6 : Int) =>
            cnd (ltI i6 (0 : Int))
              (some (Sum.inr (Sum.inr false)))
              (cnd (leI i2 i6)
                (some (Sum.inr (Sum.inr false)))
                (some (Sum.inl (i2, l3, i4, addI .i64 i5 (1 : Int)))))))
          (some (Sum.inr (Sum.inl ()))))
      (i0, l1, natI (lenN l1), (0 : Int)))
    (fun (_ : Unit) =>
      some true))

def G_impl_MatrixOk (NN : Nat) : (Int × (Int × (Int × (List Int)))) → (Option Bool) :=
  (fun ((i0, i1, i2, l3) : (Int × (Int × (Int × (List Int))))) =>
  (F_impl_IsPrime i0).bnd (fun (b4 : Bool) =>
    cnd (notB b4)
      (some false)
      (cnd (ltI i1 (0 : Int))
        (some false)
        (cnd (ltI i2 (0 : Int))
          (some false)
          (cnd (ltI (64 : Int) i1)
            (some false)
            (cnd (ltI (64 : Int) i2)
              (some false)
              (cnd (eqI (natI (lenN l3)) (mulI .i64 i1 i2))
                ((F_impl_inMod (i0, l3)).bnd (fun (b5 : Bool) =>
                  some b5))
                (some false))))))))

def G_impl_AutomatonOk (NN : Nat) : (Int × (Int × ((List Int) × ((List (Int × (Int × (List Int)))) × (List Int))))) → (Option Bool) :=
  (fun ((i0, i1, l2, l3, l4) : (Int × (Int × ((List Int) × ((List (Int × (Int × (List Int)))) × (List Int)))))) =>
  (F_impl_IsPrime i0).bnd (fun (b5 : Bool) =>
    cnd (notB b5)
      (some false)
      (cnd (ltI i1 (0 : Int))
        (some false)
        (cnd (ltI (12 : Int) i1)
          (some false)
          (cnd (neI (natI (lenN l2)) i1)
            (some false)
            (cnd (neI (natI (lenN l4)) i1)
              (some false)
              ((F_impl_inMod (i0, l2)).bnd (fun (b6 : Bool) =>
                cnd (notB b6)
                  (some false)
                  ((F_impl_inMod (i0, l4)).bnd (fun (b7 : Bool) =>
                    cnd (notB b7)
                      (some false)
                      (cnd (ltI (natI (lenN l3)) (1 : Int))
                        (some false)
                        (cnd (ltI (4 : Int) (natI (lenN l3)))
                          (some false)
                          (joinK (loopT NN (fun (((l8, i9, i10), i11, i12, l13, l14, l15) : (((List (Int × (Int × (List Int)))) × (Int × Int)) × (Int × (Int × ((List Int) × ((List (Int × (Int × (List Int)))) × (List Int))))))) =>
                                cnd (ltI i10 i9)
                                  ((getI l8 i10).bnd (fun ((i16, i17, l18) : (Int × (Int × (List Int)))) =>
                                    (F_impl_MatrixOk (i11, i16, i17, l18)).bnd (fun (b19 : Bool) =>
                                      cnd (notB b19)
                                        (some (Sum.inr (Sum.inr false)))
                                        (cnd (neI i16 i12)
                                          (some (Sum.inr (Sum.inr false)))
                                          (cnd (neI i17 i12)
                                            (some (Sum.inr (Sum.inr false)))
                                            (some (Sum.inl ((l8, i9, addI .i64 i10 (1 : Int)), i11, i12, l13, l14, l15))))))))
                                  (some (Sum.inr (Sum.inl ()))))
                              ((l3, natI (lenN l3), (0 : Int)), i0, i1, l2, l3, l4))
                            (fun (_ : Unit) =>
                              some true))))))))))))))

def G_laws_FnExactAutomatonOk (NN : Nat) : (Int × (Int × ((List Int) × ((List (Int × (Int × (List Int)))) × (List Int))))) → (Option Bool) :=
  (fun ((i0, i1, l2, l3, l4) : (Int × (Int × ((List Int) × ((List (Int × (Int × (List Int)))) × (List Int)))))) =>
  (F_laws_szAutomaton ((i0, i1, l2, l3, l4), (1048576 : Int))).bnd (fun (i5 : Int) =>
    cnd (ltI i5 (0 : Int))
      (some true)
      ((F_laws_toAutomaton (i0, i1, l2, l3, l4)).bnd (fun ((i6, i7, l8, l9, l10) : (Int × (Int × ((List Int) × ((List (Int × (Int × (List Int)))) × (List Int)))))) =>
        (winI l8 0 (lenN l8)).bnd (fun (l11 : (List Int)) =>
          (winI l9 0 (lenN l9)).bnd (fun (l12 : (List (Int × (Int × (List Int))))) =>
            (winI l10 0 (lenN l10)).bnd (fun (l13 : (List Int)) =>
              (F_spec_AutomatonOk (i6, i7, l11, l12, l13)).bnd (fun (b14 : Bool) =>
                (F_laws_toAutomaton (i0, i1, l2, l3, l4)).bnd (fun ((i15, i16, l17, l18, l19) : (Int × (Int × ((List Int) × ((List (Int × (Int × (List Int)))) × (List Int)))))) =>
                  (winI l17 0 (lenN l17)).bnd (fun (l20 : (List Int)) =>
                    (winI l18 0 (lenN l18)).bnd (fun (l21 : (List (Int × (Int × (List Int))))) =>
                      (winI l19 0 (lenN l19)).bnd (fun (l22 : (List Int)) =>
                        (F_impl_AutomatonOk (i15, i16, l20, l21, l22)).bnd (fun (b23 : Bool) =>
                          cnd (neB b23 b14)
                            (some false)
                            ((F_laws_toAutomaton (i0, i1, l2, l3, l4)).bnd (fun ((i24, i25, l26, l27, l28) : (Int × (Int × ((List Int) × ((List (Int × (Int × (List Int)))) × (List Int)))))) =>
                              (winI l17 0 (lenN l17)).bnd (fun (l29 : (List Int)) =>
                                (winI l18 0 (lenN l18)).bnd (fun (l30 : (List (Int × (Int × (List Int))))) =>
                                  (winI l19 0 (lenN l19)).bnd (fun (l31 : (List Int)) =>
                                    (winI l26 0 (lenN l26)).bnd (fun (l32 : (List Int)) =>
                                      (winI l27 0 (lenN l27)).bnd (fun (l33 : (List (Int × (Int × (List Int))))) =>
                                        (winI l28 0 (lenN l28)).bnd (fun (l34 : (List Int)) =>
                                          (F_laws_eqAutomaton ((i15, i16, l29, l30, l31), i24, i25, l32, l33, l34)).bnd (fun (b35 : Bool) =>
                                            cnd (notB b35)
                                              (some false)
                                              (some true)))))))))))))))))))))))


theorem mulI_eq {a b : Int} (h1 : -9223372036854775808 ≤ a * b) (h2 : a * b ≤ 9223372036854775807) : mulI .i64 a b = a * b := wrap_id h1 h2
theorem remI_nat {n : Int} {i : Nat} (hn : 0 ≤ n) (hi : 0 < i) : remI n (i : Int) = some (n % (i : Int)) := by
  unfold remI
  rw [if_neg (by omega), Int.tmod_eq_emod_of_nonneg hn]

theorem sq_le {i j : Nat} (h : i ≤ j) : (i : Int) * i ≤ (j : Int) * j := by
  have := Nat.mul_le_mul h h
  exact_mod_cast this

/-- The search for a divisor. -/
theorem div_loop {X Y : Type} {f : X → Option (X ⊕ (Y ⊕ Bool))} (n : Int) (mk : Nat → X) (r : Y) (hn : n ≤ 1000003)
    (h1 : ∀ i : Nat, 2 ≤ i → i ≤ 1001 → (i : Int) * i ≤ n → n % (i : Int) = 0 → f (mk i) = some (.inr (.inr false)))
    (h2 : ∀ i : Nat, 2 ≤ i → i ≤ 1001 → (i : Int) * i ≤ n → n % (i : Int) ≠ 0 → f (mk i) = some (.inl (mk (i + 1))))
    (h3 : ∀ i : Nat, 2 ≤ i → i ≤ 1001 → ¬ (i : Int) * i ≤ n → f (mk i) = some (.inr (.inl r))) {x0 : X} (hx : x0 = mk 2) :
    loopT FUEL f x0 = some (if (List.range' 2 999).any (divAt n) = true then .inr false else .inl r) := by
  subst hx
  have key : ∀ (d i : Nat), 2 ≤ i → i + d = 1001 → ∀ N, d < N → loopT N f (mk i) = some (if (List.range' i d).any (divAt n) = true then .inr false else .inl r) := by
    intro d
    induction d with
    | zero =>
      intro i hi hd N hN
      obtain ⟨N, rfl⟩ : ∃ M, N = M + 1 := ⟨N - 1, by omega⟩
      have : i = 1001 := by omega
      subst this
      rw [loopT, h3 1001 (by omega) (by omega) (by omega)]
      rfl
    | succ d ih =>
      intro i hi hd N hN
      obtain ⟨N, rfl⟩ : ∃ M, N = M + 1 := ⟨N - 1, by omega⟩
      rw [List.range'_succ, List.any_cons]
      by_cases hle : (i : Int) * i ≤ n
      · by_cases hm : n % (i : Int) = 0
        · rw [loopT, h1 i hi (by omega) hle hm]
          simp [divAt, hle, hm]
        · rw [loopT, h2 i hi (by omega) hle hm]
          simp only
          rw [ih (i + 1) (by omega) (by omega) N (by omega), show divAt n i = false by simp [divAt, hm], Bool.false_or]
      · rw [loopT, h3 i hi (by omega) hle]
        have : (List.range' (i + 1) d).any (divAt n) = false := by
          rw [List.any_eq_false]
          intro j hj
          have := (List.mem_range'_1.1 hj).1
          have := sq_le (show i ≤ j by omega)
          simp only [divAt, Bool.and_eq_true, decide_eq_true_eq, not_and]
          intro h; omega
        simp only
        rw [this]
        simp [divAt, hle]
  exact key 999 2 (by omega) (by omega) FUEL (FUEL_gt (by omega))

theorem sq_le1001 {i : Nat} (h : i ≤ 1001) : 0 ≤ (i : Int) * i ∧ (i : Int) * i ≤ 1002001 := by
  have h1 := sq_le h
  have h0 := sq_le (Nat.zero_le i)
  omega

theorem f_spec_IsPrime (x : Int) (y : Bool) (h : F_spec_IsPrime x = some y) : G_spec_IsPrime FUEL x = some y := by
  rw [← h]
  simp only [F_spec_IsPrime, G_spec_IsPrime]
  by_cases hx : x ≤ 1000003
  · rw [div_loop x (fun i => (x, (i : Int))) x hx ?_ ?_ ?_ ?_]
    · by_cases hd : (List.range' 2 999).any (divAt x) = true
      · rw [if_pos hd, joinK_r, isPrimeI, hd]
        simp
      · rw [if_neg hd, joinK_l, isPrimeI]
        simp only [F_spec_l01In, bnd_s]
        simp [hd]
    all_goals try simp only
    · intro i h2 hi hle hm
      have hs := sq_le1001 hi
      rw [mulI_eq (by omega) (by omega), cnd_t (leI_t hle), cnd_t (leI_t hx), remI_nat (by omega) (by omega), bnd_s, cnd_t (eqI_t hm)]
    · intro i h2 hi hle hm
      have hs := sq_le1001 hi
      rw [mulI_eq (by omega) (by omega), cnd_t (leI_t hle), cnd_t (leI_t hx), remI_nat (by omega) (by omega), bnd_s, cnd_f (eqI_f hm), addI_eq (by omega) (by omega)]
      rfl
    · intro i h2 hi hle
      have hs := sq_le1001 hi
      rw [mulI_eq (by omega) (by omega), cnd_f (leI_f (by omega))]
    · rfl
  · rw [loopT_seq (fun i => (x, (i : Int) + 2)) (r := Sum.inl x) 0 (fun j hj => by omega) ?_ ?_ (FUEL_gt (by omega))]
    · rw [joinK_l, isPrimeI]
      simp only [F_spec_l01In, bnd_s]
      have : ¬ (2 ≤ x ∧ x ≤ 1000003) := by omega
      simp [this]
    · simp only
      rw [cnd_t (leI_t (by rw [mulI_eq (by omega) (by omega)]; omega)), cnd_f (leI_f (by omega))]
    · rfl

theorem f_impl_IsPrime (x : Int) (y : Bool) (h : F_impl_IsPrime x = some y) : G_impl_IsPrime FUEL x = some y := by
  rw [← h]
  simp only [F_impl_IsPrime, G_impl_IsPrime]
  by_cases h2 : x < 2
  · rw [cnd_t (ltI_t h2), isPrimeI, decide_eq_false (by omega)]; rfl
  rw [cnd_f (ltI_f (by omega))]
  by_cases hx : 1000003 < x
  · rw [cnd_t (ltI_t hx), isPrimeI, decide_eq_false (by omega)]; rfl
  rw [cnd_f (ltI_f (by omega))]
  rw [div_loop x (fun i => (x, (i : Int))) () (by omega) ?_ ?_ ?_ ?_]
  · have hr : (2 ≤ x ∧ x ≤ 1000003) := by omega
    by_cases hd : (List.range' 2 999).any (divAt x) = true
    · rw [if_pos hd, joinK_r, isPrimeI, hd]
      simp
    · rw [if_neg hd, joinK_l, isPrimeI]
      simp [hd, hr]
  all_goals try simp only
  · intro i h2 hi hle hm
    have hs := sq_le1001 hi
    rw [mulI_eq (by omega) (by omega), cnd_t (leI_t hle), remI_nat (by omega) (by omega), bnd_s, cnd_t (eqI_t hm)]
  · intro i h2 hi hle hm
    have hs := sq_le1001 hi
    rw [mulI_eq (by omega) (by omega), cnd_t (leI_t hle), remI_nat (by omega) (by omega), bnd_s, cnd_f (eqI_f hm), addI_eq (by omega) (by omega)]
    rfl
  · intro i h2 hi hle
    have hs := sq_le1001 hi
    rw [mulI_eq (by omega) (by omega), cnd_f (leI_f (by omega))]
  · rfl

theorem f_impl_inMod (x : Int × List Int) (y : Bool) (h : F_impl_inMod x = some y) : G_impl_inMod FUEL x = some y := by
  obtain ⟨m, l⟩ := x
  simp only [F_impl_inMod] at h
  split at h
  · rename_i hl
    rw [← h]
    simp only [G_impl_inMod]
    rw [loopT_all (mk := fun i => (m, l, natI (lenN l), (i : Int))) l (inB m) (Sum.inr false) (Sum.inl ()) ?_ ?_ ?_ ?_ (FUEL_gt (by omega))]
    · unfold rowOk
      cases l.all (inB m) <;> rfl
    all_goals try simp only
    · intro i a ha hp
      have hp := of_decide_eq_true hp
      rw [cnd_t (ltI_in ha), getI_nat, ha, bnd_s, cnd_f (ltI_f (by omega)), cnd_f (leI_f (by omega)), next_i ha (by omega)]
    · intro i a ha hp
      have hp := of_decide_eq_false hp
      rw [cnd_t (ltI_in ha), getI_nat, ha, bnd_s]
      by_cases h0 : a < 0
      · rw [cnd_t (ltI_t h0)]
      · rw [cnd_f (ltI_f (by omega)), cnd_t (leI_t (by omega))]
    · rw [cnd_f (ltI_end l)]
    · rfl
  · cases h

theorem f_spec_l34Row (x : Int × List Int × Int) (y : Bool) (h : F_spec_l34Row x = some y) : G_spec_l34Row FUEL x = some y := by
  obtain ⟨m, l, n⟩ := x
  simp only [F_spec_l34Row] at h
  split at h
  · rename_i hl
    obtain ⟨hm, hl⟩ := hl
    rw [← h]
    simp only [G_spec_l34Row]
    rw [loopT_all (mk := fun i => (m, l, n, l, natI (lenN l), (i : Int))) l (inB m) (Sum.inr false) (Sum.inl (l, n)) ?_ ?_ ?_ ?_ (FUEL_gt (by omega))]
    · unfold rowOk
      cases l.all (inB m)
      · rfl
      · rw [if_pos rfl, joinK_l]
        simp only [Bool.true_and]
        rfl
    all_goals try simp only
    · intro i a ha hp
      have hp := of_decide_eq_true hp
      rw [cnd_t (ltI_in ha), getI_nat, ha, bnd_s, subI_eq (by omega) (by omega)]
      simp only [F_spec_l01In, bnd_s]
      rw [cnd_f (notB_p (by omega)), next_i ha (by omega)]
    · intro i a ha hp
      have hp := of_decide_eq_false hp
      rw [cnd_t (ltI_in ha), getI_nat, ha, bnd_s, subI_eq (by omega) (by omega)]
      simp only [F_spec_l01In, bnd_s]
      rw [cnd_t (notB_d (by omega))]
    · rw [cnd_f (ltI_end l)]
    · rfl
  · cases h

theorem isPrimeI_t {m : Int} (h : isPrimeI m = true) : 2 ≤ m ∧ m ≤ 1000003 := by
  simp only [isPrimeI, Bool.and_eq_true, decide_eq_true_eq] at h
  exact h.1

theorem f_impl_MatrixOk (x : Int × Int × Int × List Int) (y : Bool) (h : F_impl_MatrixOk x = some y) : G_impl_MatrixOk FUEL x = some y := by
  obtain ⟨m, r, c, l⟩ := x
  simp only [F_impl_MatrixOk] at h
  split at h
  · rename_i hl
    rw [← h]
    have hl : l.length ≤ 1048576 := hl
    simp only [G_impl_MatrixOk, F_impl_IsPrime, bnd_s, matOk]
    cases hp : isPrimeI m with
    | false => rfl
    | true =>
      rw [cnd_f (by rfl), Bool.true_and]
      by_cases h1 : r < 0
      · rw [cnd_t (ltI_t h1), decide_eq_false (by omega)]; rfl
      rw [cnd_f (ltI_f (by omega))]
      by_cases h2 : c < 0
      · rw [cnd_t (ltI_t h2), decide_eq_false (p := 0 ≤ c ∧ c ≤ 64) (by omega)]; simp
      rw [cnd_f (ltI_f (by omega))]
      by_cases h3 : 64 < r
      · rw [cnd_t (ltI_t h3), decide_eq_false (by omega)]; rfl
      rw [cnd_f (ltI_f (by omega))]
      by_cases h4 : 64 < c
      · rw [cnd_t (ltI_t h4), decide_eq_false (p := 0 ≤ c ∧ c ≤ 64) (by omega)]; simp
      rw [cnd_f (ltI_f (by omega)), decide_eq_true (p := 0 ≤ r ∧ r ≤ 64) (by omega), decide_eq_true (p := 0 ≤ c ∧ c ≤ 64) (by omega), Bool.true_and, Bool.true_and]
      obtain ⟨r, rfl⟩ := natI_eq (z := r) (by omega)
      obtain ⟨c, rfl⟩ := natI_eq (z := c) (by omega)
      have hrc : r * c ≤ 64 * 64 := Nat.mul_le_mul (by omega) (by omega)
      have hrc' : (r : Int) * (c : Int) = ((r * c : Nat) : Int) := by norm_cast
      rw [mulI_eq (by omega) (by omega), show F_impl_inMod (m, l) = some (rowOk m l) from if_pos hl]
      by_cases h5 : (l.length : Int) = (r : Int) * c
      · rw [cnd_t (show eqI (natI (lenN l)) _ = true from eqI_t h5), decide_eq_true h5]; rfl
      · rw [cnd_f (show eqI (natI (lenN l)) _ = false from eqI_f h5), decide_eq_false h5]; rfl
  · cases h

theorem f_spec_MatrixOk (x : Int × Int × Int × List Int) (y : Bool) (h : F_spec_MatrixOk x = some y) : G_spec_MatrixOk FUEL x = some y := by
  obtain ⟨m, r, c, l⟩ := x
  simp only [F_spec_MatrixOk] at h
  split at h
  · rename_i hl
    rw [← h]
    have hl : l.length ≤ 1048576 := hl
    simp only [G_spec_MatrixOk, F_spec_IsPrime, F_spec_l01In, bnd_s, matOk]
    cases hp : isPrimeI m with
    | false => rfl
    | true =>
      obtain ⟨hm1, hm2⟩ := isPrimeI_t hp
      rw [cnd_f (by rfl), Bool.true_and]
      by_cases h1 : 0 ≤ r ∧ r ≤ 64
      rotate_left
      · rw [cnd_t (notB_d h1), decide_eq_false h1]; rfl
      rw [cnd_f (notB_p h1), decide_eq_true h1, Bool.true_and]
      by_cases h2 : 0 ≤ c ∧ c ≤ 64
      rotate_left
      · rw [cnd_t (notB_d h2), decide_eq_false h2]; rfl
      rw [cnd_f (notB_p h2), decide_eq_true h2, Bool.true_and]
      obtain ⟨r, rfl⟩ := natI_eq (z := r) (by omega)
      obtain ⟨c, rfl⟩ := natI_eq (z := c) (by omega)
      have hrc : r * c ≤ 64 * 64 := Nat.mul_le_mul (by omega) (by omega)
      have hrc' : (r : Int) * (c : Int) = ((r * c : Nat) : Int) := by norm_cast
      rw [mulI_eq (by omega) (by omega)]
      by_cases h5 : (l.length : Int) = (r : Int) * c
      rotate_left
      · rw [cnd_t (show neI (natI (lenN l)) _ = true from neI_t h5), decide_eq_false h5]; rfl
      rw [cnd_f (show neI (natI (lenN l)) _ = false from neI_f h5), decide_eq_true h5, Bool.true_and]
      rw [loopT_all (mk := fun i => (m, l, natI (lenN l), (i : Int))) l (inB m) (Sum.inr false) (Sum.inl ()) ?_ ?_ ?_ ?_ (FUEL_gt (by omega))]
      · unfold rowOk
        cases l.all (inB m) <;> rfl
      all_goals try simp only
      · intro i a ha hp
        have hp := of_decide_eq_true hp
        rw [cnd_t (ltI_in ha), getI_nat, ha, bnd_s, subI_eq (by omega) (by omega), cnd_f (notB_p (by omega)), next_i ha (by omega)]
      · intro i a ha hp
        have hp := of_decide_eq_false hp
        rw [cnd_t (ltI_in ha), getI_nat, ha, bnd_s, subI_eq (by omega) (by omega), cnd_t (notB_d (by omega))]
      · rw [cnd_f (ltI_end l)]
      · rfl
  · cases h

theorem sz_Automaton_le {m n : Int} {a : List Int} {ms : List (Int × Int × List Int)} {b : List Int} (h : sz_Automaton (m, n, a, ms, b) ≤ 1048576) : a.length ≤ 1048576 ∧ b.length ≤ 1048576 ∧ ms.length ≤ 1048576 ∧ ∀ e ∈ ms, sz_Matrix e ≤ 1048576 := by
  have h1 : a.length + sz_MatrixS ms + b.length ≤ 1048576 := h
  have h2 := sz_MatrixS_mem (l := ms) (by omega)
  exact ⟨by omega, by omega, h2.1, h2.2⟩

theorem f_spec_AutomatonOk (x : Int × Int × List Int × List (Int × Int × List Int) × List Int) (y : Bool) (h : F_spec_AutomatonOk x = some y) : G_spec_AutomatonOk FUEL x = some y := by
  obtain ⟨m, n, a, ms, b⟩ := x
  simp only [F_spec_AutomatonOk] at h
  split at h
  · rename_i hl
    rw [← h]
    obtain ⟨ha, hb, hms, hmm⟩ := sz_Automaton_le hl
    simp only [G_spec_AutomatonOk, F_spec_IsPrime, F_spec_l01In, bnd_s, autOk]
    cases hp : isPrimeI m with
    | false => rfl
    | true =>
      have hm := isPrimeI_t hp
      rw [cnd_f (by rfl), Bool.true_and]
      by_cases h1 : 0 ≤ n ∧ n ≤ 12
      rotate_left
      · rw [cnd_t (notB_d h1), decide_eq_false h1]; rfl
      rw [cnd_f (notB_p h1), decide_eq_true h1, Bool.true_and]
      rw [show F_spec_l34Row (m, a, n) = some (rowOk m a && decide ((a.length : Int) = n)) from if_pos ⟨by omega, ha⟩, bnd_s]
      rw [show F_spec_l34Row (m, b, n) = some (rowOk m b && decide ((b.length : Int) = n)) from if_pos ⟨by omega, hb⟩, bnd_s]
      cases (rowOk m a && decide ((a.length : Int) = n)) with
      | false => rfl
      | true =>
      rw [cnd_f (by rfl), Bool.true_and]
      cases (rowOk m b && decide ((b.length : Int) = n)) with
      | false => rfl
      | true =>
      rw [cnd_f (by rfl), Bool.true_and]
      by_cases h2 : 1 ≤ ms.length ∧ ms.length ≤ 4
      rotate_left
      · rw [cnd_t (notB_d (by have := nl ms; omega)), decide_eq_false h2]; rfl
      rw [cnd_f (notB_p (by have := nl ms; omega)), decide_eq_true h2, Bool.true_and]
      rw [loopT_all (mk := fun i => ((ms, natI (lenN ms), (i : Int)), m, n, a, ms, b)) ms (matsOk m n) (Sum.inr false) (Sum.inl ()) ?_ ?_ ?_ ?_ (FUEL_gt (by omega))]
      · cases ms.all (matsOk m n) <;> rfl
      all_goals try simp only
      · rintro i ⟨r, c, l⟩ hi hp
        simp only [matsOk, Bool.and_eq_true, decide_eq_true_eq] at hp
        obtain ⟨p1, p2, p3⟩ := hp
        rw [cnd_t (ltI_in hi), getI_nat, hi, bnd_s]
        simp only
        rw [show F_spec_MatrixOk (m, r, c, l) = some (matOk m (r, c, l)) from if_pos (hmm _ (List.mem_of_getElem? hi)), bnd_s, p1, cnd_f (by rfl), cnd_f (neI_f p2), cnd_f (neI_f p3), next_i hi (by omega)]
      · rintro i ⟨r, c, l⟩ hi hp
        rw [cnd_t (ltI_in hi), getI_nat, hi, bnd_s]
        simp only
        rw [show F_spec_MatrixOk (m, r, c, l) = some (matOk m (r, c, l)) from if_pos (hmm _ (List.mem_of_getElem? hi)), bnd_s]
        cases p1 : matOk m (r, c, l) with
        | false => rw [cnd_t (by rfl)]
        | true =>
          rw [cnd_f (by rfl)]
          by_cases p2 : r = n
          · rw [cnd_f (neI_f p2)]
            by_cases p3 : c = n
            · simp [matsOk, p1, p2, p3] at hp
              rw [p2, p3] at p1
              rw [p1] at hp
              cases hp
            · rw [cnd_t (neI_t p3)]
          · rw [cnd_t (neI_t p2)]
      · rw [cnd_f (ltI_end ms)]
      · rfl
  · cases h

theorem f_impl_AutomatonOk (x : Int × Int × List Int × List (Int × Int × List Int) × List Int) (y : Bool) (h : F_impl_AutomatonOk x = some y) : G_impl_AutomatonOk FUEL x = some y := by
  obtain ⟨m, n, a, ms, b⟩ := x
  simp only [F_impl_AutomatonOk] at h
  split at h
  · rename_i hl
    rw [← h]
    obtain ⟨ha, hb, hms, hmm⟩ := sz_Automaton_le hl
    simp only [G_impl_AutomatonOk, F_impl_IsPrime, bnd_s, autOk]
    cases hp : isPrimeI m with
    | false => rfl
    | true =>
      have hm := isPrimeI_t hp
      rw [cnd_f (by rfl), Bool.true_and]
      by_cases h0 : n < 0
      · rw [cnd_t (ltI_t h0), decide_eq_false (by omega)]; rfl
      rw [cnd_f (ltI_f (by omega))]
      by_cases h1 : 12 < n
      · rw [cnd_t (ltI_t h1), decide_eq_false (by omega)]; rfl
      rw [cnd_f (ltI_f (by omega)), decide_eq_true (p := 0 ≤ n ∧ n ≤ 12) (by omega), Bool.true_and]
      by_cases e1 : (a.length : Int) = n
      rotate_left
      · rw [cnd_t (show neI (natI (lenN a)) _ = true from neI_t e1), decide_eq_false e1, Bool.and_false, Bool.false_and]
      rw [cnd_f (show neI (natI (lenN a)) _ = false from neI_f e1), decide_eq_true e1, Bool.and_true]
      by_cases e2 : (b.length : Int) = n
      rotate_left
      · rw [cnd_t (show neI (natI (lenN b)) _ = true from neI_t e2), decide_eq_false e2, Bool.and_false, Bool.false_and, Bool.and_false]
      rw [cnd_f (show neI (natI (lenN b)) _ = false from neI_f e2), decide_eq_true e2, Bool.and_true]
      rw [show F_impl_inMod (m, a) = some (rowOk m a) from if_pos ha, bnd_s]
      rw [show F_impl_inMod (m, b) = some (rowOk m b) from if_pos hb, bnd_s]
      cases rowOk m a with
      | false => rfl
      | true =>
      rw [cnd_f (by rfl), Bool.true_and]
      cases rowOk m b with
      | false => rfl
      | true =>
      rw [cnd_f (by rfl), Bool.true_and]
      by_cases h2 : ms.length < 1
      · rw [cnd_t (ltI_t (by have := nl ms; omega)), decide_eq_false (by omega)]; rfl
      rw [cnd_f (ltI_f (by have := nl ms; omega))]
      by_cases h3 : 4 < ms.length
      · rw [cnd_t (ltI_t (by have := nl ms; omega)), decide_eq_false (by omega)]; rfl
      rw [cnd_f (ltI_f (by have := nl ms; omega)), decide_eq_true (by omega), Bool.true_and]
      rw [loopT_all (mk := fun i => ((ms, natI (lenN ms), (i : Int)), m, n, a, ms, b)) ms (matsOk m n) (Sum.inr false) (Sum.inl ()) ?_ ?_ ?_ ?_ (FUEL_gt (by omega))]
      · cases ms.all (matsOk m n) <;> rfl
      all_goals try simp only
      · rintro i ⟨r, c, l⟩ hi hp
        simp only [matsOk, Bool.and_eq_true, decide_eq_true_eq] at hp
        obtain ⟨p1, p2, p3⟩ := hp
        rw [cnd_t (ltI_in hi), getI_nat, hi, bnd_s]
        simp only
        rw [show F_impl_MatrixOk (m, r, c, l) = some (matOk m (r, c, l)) from if_pos (hmm _ (List.mem_of_getElem? hi)), bnd_s, p1, cnd_f (by rfl), cnd_f (neI_f p2), cnd_f (neI_f p3), next_i hi (by omega)]
      · rintro i ⟨r, c, l⟩ hi hp
        rw [cnd_t (ltI_in hi), getI_nat, hi, bnd_s]
        simp only
        rw [show F_impl_MatrixOk (m, r, c, l) = some (matOk m (r, c, l)) from if_pos (hmm _ (List.mem_of_getElem? hi)), bnd_s]
        cases p1 : matOk m (r, c, l) with
        | false => rw [cnd_t (by rfl)]
        | true =>
          rw [cnd_f (by rfl)]
          by_cases p2 : r = n
          · rw [cnd_f (neI_f p2)]
            by_cases p3 : c = n
            · simp [matsOk, p1, p2, p3] at hp
              rw [p2, p3] at p1
              rw [p1] at hp
              cases hp
            · rw [cnd_t (neI_t p3)]
          · rw [cnd_t (neI_t p2)]
      · rw [cnd_f (ltI_end ms)]
      · rfl
  · cases h

theorem f_laws_FnExactAutomatonOk (x : Int × Int × List Int × List (Int × Int × List Int) × List Int) (y : Bool) (h : F_laws_FnExactAutomatonOk x = some y) : G_laws_FnExactAutomatonOk FUEL x = some y := by
  obtain ⟨m, n, a, ms, b⟩ := x
  simp only [F_laws_FnExactAutomatonOk] at h
  split at h
  · rename_i hw
    rw [← h]
    simp only [G_laws_FnExactAutomatonOk]
    rw [show F_laws_szAutomaton ((m, n, a, ms, b), 1048576) = some (szR (sz_Automaton (m, n, a, ms, b)) 1048576) from if_pos ⟨by decide, hw⟩, bnd_s]
    by_cases hs : ((sz_Automaton (m, n, a, ms, b) : Nat) : Int) ≤ 1048576
    · have hs' : sz_Automaton (m, n, a, ms, b) ≤ 1048576 := by omega
      rw [szR_t hs, cnd_f (ltI_f (by omega))]
      simp only [F_laws_toAutomaton, F_spec_AutomatonOk, F_impl_AutomatonOk, F_laws_eqAutomaton, if_pos hs', bnd_s, winI_id]
      simp [neB, cnd, notB]
    · rw [szR_f hs, cnd_t (ltI_t (by omega))]
  · cases h
end Go.Am
