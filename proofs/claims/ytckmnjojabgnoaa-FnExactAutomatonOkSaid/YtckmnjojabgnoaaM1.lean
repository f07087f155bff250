/- M1: the models of GraphOk's functions. No condition. -/
import Derived.Test.YtckmnjojabgnoaaS7
import Derived.Laws.BitsLemmas
set_option linter.unusedVariables false
set_option linter.unusedSimpArgs false
namespace Go.Am
/-! ### laws of the primitives -/

theorem loopT_run {X Y : Type} {f : X → Option (X ⊕ Y)} {r : Y} (P : Nat → X → Prop) (step : ∀ n x, P n x → f x = some (.inr r) ∨ ∃ m x', m < n ∧ f x = some (.inl x') ∧ P m x') :
    ∀ n x, P n x → ∀ N, n < N → loopT N f x = some r := by
  intro n
  induction n using Nat.strongRecOn with
  | ind n ih =>
    intro x hP N hN
    cases N with
    | zero => omega
    | succ N =>
      rcases step n x hP with h | ⟨m, x', hm, h, hP'⟩
      · simp only [loopT, h]
      · simp only [loopT, h]
        exact ih m hm x' hP' N (by omega)

theorem getI_nat {α : Type} (xs : List α) (i : Nat) : getI xs (i : Int) = xs[i]? := by simp [getI]
theorem wrap_id {n : Int} (h1 : -9223372036854775808 ≤ n) (h2 : n ≤ 9223372036854775807) : IntKind.wrap .i64 n = n := by rw [IntKind.wrap_i64]; omega
theorem addI_eq {a b : Int} (h1 : -9223372036854775808 ≤ a + b) (h2 : a + b ≤ 9223372036854775807) : addI .i64 a b = a + b := wrap_id h1 h2
theorem subI_eq {a b : Int} (h1 : -9223372036854775808 ≤ a - b) (h2 : a - b ≤ 9223372036854775807) : subI .i64 a b = a - b := wrap_id h1 h2
theorem bnd_s {α β : Type} (x : α) (f : α → Option β) : (some x).bnd f = f x := rfl
theorem bnd_n {α β : Type} (f : α → Option β) : (none : Option α).bnd f = none := rfl
theorem joinK_l {X ρ : Type} (x : X) (k : X → Option ρ) : joinK (some (.inl x)) k = k x := rfl
theorem joinK_r {X ρ : Type} (x : ρ) (k : X → Option ρ) : joinK (some (.inr x) : Option (X ⊕ ρ)) k = some x := rfl
theorem cnd_t {α : Type} {b : Bool} (h : b = true) (x y : α) : cnd b x y = x := by rw [h]; rfl
theorem cnd_f {α : Type} {b : Bool} (h : b = false) (x y : α) : cnd b x y = y := by rw [h]; rfl
theorem nl {α : Type} (l : List α) : natI (lenN l) = (l.length : Int) := rfl
theorem ltI_t {a b : Int} (h : a < b) : ltI a b = true := decide_eq_true h
theorem ltI_f {a b : Int} (h : b ≤ a) : ltI a b = false := decide_eq_false (Int.not_lt.2 h)
theorem leI_t {a b : Int} (h : a ≤ b) : leI a b = true := decide_eq_true h
theorem leI_f {a b : Int} (h : b < a) : leI a b = false := decide_eq_false (Int.not_le.2 h)
theorem eqI_t {a b : Int} (h : a = b) : eqI a b = true := by simp [eqI, h]
theorem eqI_f {a b : Int} (h : a ≠ b) : eqI a b = false := by simp [eqI, h]
theorem neI_t {a b : Int} (h : a ≠ b) : neI a b = true := by simp [neI, h]
theorem neI_f {a b : Int} (h : a = b) : neI a b = false := by simp [neI, h]
theorem notB_d {p : Prop} [Decidable p] (h : ¬ p) : notB (decide p) = true := by simp [notB, h]
theorem notB_p {p : Prop} [Decidable p] (h : p) : notB (decide p) = false := by simp [notB, h]
theorem fulI_id (n : Nat) : fulI 0 n n = some () := by simp [fulI]
theorem takI_id {α : Type} (xs : List α) : takI xs (lenN xs) = some xs := by simp [takI, lenN]
theorem winI_id {α : Type} (xs : List α) : winI xs 0 (lenN xs) = some xs := by simp [winI, lenN]
theorem mkI_nat {n by_ : Nat} (h : n * by_ ≤ maxBytes) : mkI (natI n) (natI n) by_ = some n := by simp [mkI, natI, h]
theorem chkI_nat {i n : Nat} (h : i < n) : chkI (i : Int) n = some i := by simp [chkI]; omega
theorem FUEL_gt {n : Nat} (h : n < 18446744073709551616) : n < FUEL := h
theorem drop_cons {α : Type} {xs : List α} {i : Nat} {x : α} (h : xs[i]? = some x) : xs.drop i = x :: xs.drop (i + 1) := by
  obtain ⟨h1, h2⟩ := List.getElem?_eq_some_iff.1 h
  rw [List.drop_eq_getElem_cons h1, h2]
def ag_laws_szEdgeS : Sig := [(.one, [.list [.int .i64, .int .i64]]), (.one, [.int .i64])]
def rs_laws_szEdgeS : Sig := [(.one, [.int .i64])]

def ag_laws_szGraph : Sig := [(.agg, [.int .i64, .list [.int .i64, .int .i64]]), (.one, [.int .i64])]
def rs_laws_szGraph : Sig := [(.one, [.int .i64])]

def ag_laws_toEdge : Sig := [(.agg, [.int .i64, .int .i64])]
def rs_laws_toEdge : Sig := [(.agg, [.int .i64, .int .i64])]

def ag_laws_toEdgeS : Sig := [(.one, [.list [.int .i64, .int .i64]])]
def rs_laws_toEdgeS : Sig := [(.one, [.list [.int .i64, .int .i64]])]

def ag_laws_toGraph : Sig := [(.agg, [.int .i64, .list [.int .i64, .int .i64]])]
def rs_laws_toGraph : Sig := [(.agg, [.int .i64, .list [.int .i64, .int .i64]])]

def ag_spec_l01In : Sig := [(.one, [.int .i64]), (.one, [.int .i64]), (.one, [.int .i64])]
def rs_spec_l01In : Sig := [(.one, [.bool])]

def ag_spec_GraphOk : Sig := [(.agg, [.int .i64, .list [.int .i64, .int .i64]])]
def rs_spec_GraphOk : Sig := [(.one, [.bool])]

def ag_impl_GraphOk : Sig := [(.agg, [.int .i64, .list [.int .i64, .int .i64]])]
def rs_impl_GraphOk : Sig := [(.one, [.bool])]

def ag_laws_eqEdge : Sig := [(.agg, [.int .i64, .int .i64]), (.agg, [.int .i64, .int .i64])]
def rs_laws_eqEdge : Sig := [(.one, [.bool])]

def ag_laws_eqEdgeS : Sig := [(.one, [.list [.int .i64, .int .i64]]), (.one, [.list [.int .i64, .int .i64]])]
def rs_laws_eqEdgeS : Sig := [(.one, [.bool])]

def ag_laws_eqGraph : Sig := [(.agg, [.int .i64, .list [.int .i64, .int .i64]]), (.agg, [.int .i64, .list [.int .i64, .int .i64]])]
def rs_laws_eqGraph : Sig := [(.one, [.bool])]

def ag_laws_FnExactGraphOk : Sig := [(.agg, [.int .i64, .list [.int .i64, .int .i64]])]
def rs_laws_FnExactGraphOk : Sig := [(.one, [.bool])]
/-! ### the functions -/

def F_laws_szEdgeS : List (Int × Int) × Int → Option Int :=
  fun ((l, k) : List (Int × Int) × Int) => if subI .i64 k (natI (lenN l)) < 0 then some (-1 : Int) else some (subI .i64 k (natI (lenN l)))
def F_laws_szGraph : (Int × List (Int × Int)) × Int → Option Int :=
  fun (((n, l), k) : (Int × List (Int × Int)) × Int) => F_laws_szEdgeS (l, k)
def F_laws_toEdge : Int × Int → Option (Int × Int) := fun (x : Int × Int) => some x
def F_laws_toEdgeS : List (Int × Int) → Option (List (Int × Int)) := fun (l : List (Int × Int)) => if l.length ≤ 8796093022208 then some l else none
def F_laws_toGraph : Int × List (Int × Int) → Option (Int × List (Int × Int)) := fun ((n, l) : Int × List (Int × Int)) => if l.length ≤ 8796093022208 then some (n, l) else none
def F_spec_l01In : Int × Int × Int → Option Bool := fun ((a, b, c) : Int × Int × Int) => some (decide (b ≤ a ∧ a ≤ c))

def edgeOk (n : Int) (e : Int × Int) : Bool := decide ((0 ≤ e.1 ∧ e.1 ≤ n - 1) ∧ (0 ≤ e.2 ∧ e.2 ≤ n - 1))
def graphOk (n : Int) (es : List (Int × Int)) : Bool := decide (0 ≤ n ∧ n ≤ 10) && decide (es.length ≤ 10) && es.all (edgeOk n)
def F_spec_GraphOk : Int × List (Int × Int) → Option Bool := fun ((n, es) : Int × List (Int × Int)) => some (graphOk n es)
def F_impl_GraphOk : Int × List (Int × Int) → Option Bool := fun ((n, es) : Int × List (Int × Int)) => some (graphOk n es)
def F_laws_eqEdge : (Int × Int) × (Int × Int) → Option Bool := fun ((a, b) : (Int × Int) × (Int × Int)) => some (decide (a = b))
def F_laws_eqEdgeS : List (Int × Int) × List (Int × Int) → Option Bool := fun ((a, b) : List (Int × Int) × List (Int × Int)) => if a.length ≤ 8796093022208 then some (decide (a = b)) else none
def F_laws_eqGraph : (Int × List (Int × Int)) × (Int × List (Int × Int)) → Option Bool :=
  fun ((a, b) : (Int × List (Int × Int)) × (Int × List (Int × Int))) => if a.2.length ≤ 8796093022208 then some (decide (a = b)) else none
def F_laws_FnExactGraphOk : Int × List (Int × Int) → Option Bool :=
  fun ((n, l) : Int × List (Int × Int)) => if l.length ≤ 9223372036854775807 then some true else none
def G_laws_szEdgeS (NN : Nat) : ((List (Int × Int)) × Int) → (Option Int) :=
  (fun ((l0, i1) : ((List (Int × Int)) × Int)) =>
  cnd (ltI (subI .i64 i1 (natI (lenN l0))) (0 : Int))
    (some ((-1 : Int)))
    (some (subI .i64 i1 (natI (lenN l0)))))

def G_laws_szGraph (NN : Nat) : ((Int × (List (Int × Int))) × Int) → (Option Int) :=
  (fun (((i0, l1), i2) : ((Int × (List (Int × Int))) × Int)) =>
  (F_laws_szEdgeS (l1, i2)).bnd (fun (i3 : Int) =>
    cnd (ltI i3 (0 : Int))
      (some ((-1 : Int)))
      (some i3)))

def G_laws_toEdge (NN : Nat) : (Int × Int) → (Option (Int × Int)) :=
  (fun ((i0, i1) : (Int × Int)) =>
  some (i0, i1))

def G_laws_toEdgeS (NN : Nat) : (List (Int × Int)) → (Option (List (Int × Int))) :=
  (fun (l0 : (List (Int × Int))) =>
  (mkI (natI (lenN l0)) (natI (lenN l0)) 16).bnd (fun (k1 : Nat) =>
    joinK ((fulI 0 k1 (lenN (repL k1 ((0 : Int), (0 : Int))))).bnd (fun (_ : Unit) =>
        loopT NN (fun (((l2, i3), l4) : (((List (Int × Int)) × Int) × (List (Int × Int)))) =>
            cnd (ltI i3 (natI (lenN l2)))
              ((getI l2 i3).bnd (fun ((i5, i6) : (Int × Int)) =>
                (F_laws_toEdge (i5, i6)).bnd (fun ((i7, i8) : (Int × Int)) =>
                  (chkI i3 (lenN l4)).bnd (fun (k9 : Nat) =>
                    (getN l4 (addN 0 k9)).bnd (fun ((i10, i11) : (Int × Int)) =>
                      (fulI 0 (lenN l4) (lenN (setL l4 (addN 0 k9) (i7, i8)))).bnd (fun (_ : Unit) =>
                        some (Sum.inl ((l2, addI .i64 i3 (1 : Int)), setL l4 (addN 0 k9) (i7, i8)))))))))
              (((fulI 0 (lenN l4) (lenN l4)).bnd (fun (_ : Unit) =>
                some (Sum.inl l4))).bnd (fun (l12 : ((List (Int × Int)) ⊕ (List (Int × Int)))) =>
                some (Sum.inr l12))))
          ((l0, (0 : Int)), repL k1 ((0 : Int), (0 : Int)))))
      (fun (l13 : (List (Int × Int))) =>
        (takI l13 (lenN l13)).bnd (fun (l14 : (List (Int × Int))) =>
          some l14))))

def G_laws_toGraph (NN : Nat) : (Int × (List (Int × Int))) → (Option (Int × (List (Int × Int)))) :=
  (fun ((i0, l1) : (Int × (List (Int × Int)))) =>
  (F_laws_toEdgeS l1).bnd (fun (l2 : (List (Int × Int))) =>
    (takI l2 (lenN l2)).bnd (fun (l3 : (List (Int × Int))) =>
      some (i0, l3))))

def G_spec_l01In (NN : Nat) : (Int × (Int × Int)) → (Option Bool) :=
  (fun ((i0, i1, i2) : (Int × (Int × Int))) =>
  cnd (leI i1 i0)
    (some (leI i0 i2))
    (some false))

def G_spec_GraphOk (NN : Nat) : (Int × (List (Int × Int))) → (Option Bool) :=
  (fun ((i0, l1) : (Int × (List (Int × Int)))) =>
  (F_spec_l01In (i0, (0 : Int), (10 : Int))).bnd (fun (b2 : Bool) =>
    cnd (notB b2)
      (some false)
      (cnd (ltI (10 : Int) (natI (lenN l1)))
        (some false)
        (joinK (loopT NN (fun (((l3, i4, i5), i6, l7) : (((List (Int × Int)) × (Int × Int)) × (Int × (List (Int × Int))))) =>
              cnd (ltI i5 i4)
                ((getI l3 i5).bnd (fun ((i8, i9) : (Int × Int)) =>
                  (F_spec_l01In (i8, (0 : Int), subI .i64 i6 (1 : Int))).bnd (fun (b10 : Bool) =>
                    cnd (notB b10)
                      (some (Sum.inr (Sum.inr false)))
                      ((F_spec_l01In (i9, (0 : Int), subI .i64 i6 (1 : Int))).bnd (fun (b11 : Bool) =>
                        cnd (notB b11)
                          (some (Sum.inr (Sum.inr false)))
                          (some (Sum.inl ((l3, i4, addI .i64 i5 (1 : Int)), i6, l7))))))))
                (some (Sum.inr (Sum.inl ()))))
            ((l1, natI (lenN l1), (0 : Int)), i0, l1))
          (fun (_ : Unit) =>
            some true)))))

def G_impl_GraphOk (NN : Nat) : (Int × (List (Int × Int))) → (Option Bool) :=
  (fun ((i0, l1) : (Int × (List (Int × Int)))) =>
  cnd (ltI i0 (0 : Int))
    (some false)
    (cnd (ltI (10 : Int) i0)
      (some false)
      (cnd (ltI (10 : Int) (natI (lenN l1)))
        (some false)
        (joinK (loopT NN (fun (((l2, i3, i4), i5, l6) : (((List (Int × Int)) × (Int × Int)) × (Int × (List (Int × Int))))) =>
              cnd (ltI i4 i3)
                ((getI l2 i4).bnd (fun ((i7, i8) : (Int × Int)) =>
                  cnd (ltI i7 (0 : Int))
                    (some (Sum.inr (Sum.inr false)))
                    (cnd (ltI i8 (0 : Int))
                      (some (Sum.inr (Sum.inr false)))
                      (cnd (leI i5 i7)
                        (some (Sum.inr (Sum.inr false)))
                        (cnd (leI i5 i8)
                          (some (Sum.inr (Sum.inr false)))
                          (some (Sum.inl ((l2, i3, addI .i64 i4 (1 : Int)), i5, l6))))))))
                (some (Sum.inr (Sum.inl ()))))
            ((l1, natI (lenN l1), (0 : Int)), i0, l1))
          (fun (_ : Unit) =>
            some true)))))

def G_laws_eqEdge (NN : Nat) : ((Int × Int) × (Int × Int)) → (Option Bool) :=
  (fun (((i0, i1), i2, i3) : ((Int × Int) × (Int × Int))) =>
  cnd (neI i0 i2)
    (some false)
    (cnd (neI i1 i3)
      (some false)
      (some true)))

def G_laws_eqEdgeS (NN : Nat) : ((List (Int × Int)) × (List (Int × Int))) → (Option Bool) :=
  (fun ((l0, l1) : ((List (Int × Int)) × (List (Int × Int)))) =>
  cnd (neI (natI (lenN l0)) (natI (lenN l1)))
    (some false)
    (joinK (loopT NN (fun ((l2, l3, i4) : ((List (Int × Int)) × ((List (Int × Int)) × Int))) =>
          cnd (ltI i4 (natI (lenN l2)))
            ((getI l2 i4).bnd (fun ((i5, i6) : (Int × Int)) =>
              (getI l3 i4).bnd (fun ((i7, i8) : (Int × Int)) =>
                (F_laws_eqEdge ((i5, i6), i7, i8)).bnd (fun (b9 : Bool) =>
                  cnd (notB b9)
                    (some (Sum.inr (Sum.inr false)))
                    (some (Sum.inl (l2, l3, addI .i64 i4 (1 : Int))))))))
            (some (Sum.inr (Sum.inl ()))))
        (l0, l1, (0 : Int)))
      (fun (_ : Unit) =>
        some true)))

def G_laws_eqGraph (NN : Nat) : ((Int × (List (Int × Int))) × (Int × (List (Int × Int)))) → (Option Bool) :=
  (fun (((i0, l1), i2, l3) : ((Int × (List (Int × Int))) × (Int × (List (Int × Int))))) =>
  cnd (neI i0 i2)
    (some false)
    ((F_laws_eqEdgeS (l1, l3)).bnd (fun (b4 : Bool) =>
      cnd (notB b4)
        (some false)
        (some true))))

def G_laws_FnExactGraphOk (NN : Nat) : (Int × (List (Int × Int))) → (Option Bool) :=
  (fun ((i0, l1) : (Int × (List (Int × Int)))) =>
  (F_laws_szGraph ((i0, l1), (1048576 : Int))).bnd (fun (i2 : Int) =>
    cnd (ltI i2 (0 : Int))
      (some true)
      ((F_laws_toGraph (i0, l1)).bnd (fun ((i3, l4) : (Int × (List (Int × Int)))) =>
        (winI l4 0 (lenN l4)).bnd (fun (l5 : (List (Int × Int))) =>
          (F_spec_GraphOk (i3, l5)).bnd (fun (b6 : Bool) =>
            (F_laws_toGraph (i0, l1)).bnd (fun ((i7, l8) : (Int × (List (Int × Int)))) =>
              (winI l8 0 (lenN l8)).bnd (fun (l9 : (List (Int × Int))) =>
                (F_impl_GraphOk (i7, l9)).bnd (fun (b10 : Bool) =>
                  cnd (neB b10 b6)
                    (some false)
                    ((F_laws_toGraph (i0, l1)).bnd (fun ((i11, l12) : (Int × (List (Int × Int)))) =>
                      (winI l8 0 (lenN l8)).bnd (fun (l13 : (List (Int × Int))) =>
                        (winI l12 0 (lenN l12)).bnd (fun (l14 : (List (Int × Int))) =>
                          (F_laws_eqGraph ((i7, l13), i11, l14)).bnd (fun (b15 : Bool) =>
                            cnd (notB b15)
                              (some false)
                              (some true)))))))))))))))

/-! ### the functions do so -/

theorem f_laws_szEdgeS (x : List (Int × Int) × Int) (y : Int) (h : F_laws_szEdgeS x = some y) : G_laws_szEdgeS FUEL x = some y := by
  obtain ⟨l, k⟩ := x
  rw [← h]
  simp only [F_laws_szEdgeS, G_laws_szEdgeS, ltI]
  by_cases hc : subI .i64 k (natI (lenN l)) < 0 <;> simp [hc, cnd]

theorem f_laws_szGraph (x : (Int × List (Int × Int)) × Int) (y : Int) (h : F_laws_szGraph x = some y) : G_laws_szGraph FUEL x = some y := by
  obtain ⟨⟨n, l⟩, k⟩ := x
  rw [← h]
  simp only [F_laws_szGraph, G_laws_szGraph, F_laws_szEdgeS]
  by_cases hc : subI .i64 k (natI (lenN l)) < 0 <;> simp [hc, cnd, ltI, bnd_s]

theorem f_laws_toEdge (x y : Int × Int) (h : F_laws_toEdge x = some y) : G_laws_toEdge FUEL x = some y := h

theorem f_spec_l01In (x : Int × Int × Int) (y : Bool) (h : F_spec_l01In x = some y) : G_spec_l01In FUEL x = some y := by
  obtain ⟨a, b, c⟩ := x
  rw [← h]
  simp only [F_spec_l01In, G_spec_l01In, leI]
  by_cases hc : b ≤ a <;> simp [hc, cnd]

theorem f_laws_toEdgeS (x y : List (Int × Int)) (h : F_laws_toEdgeS x = some y) : G_laws_toEdgeS FUEL x = some y := by
  simp only [F_laws_toEdgeS] at h
  split at h
  · rename_i hl
    injection h with h
    subst h
    simp only [G_laws_toEdgeS, mkI_nat (n := lenN x) (by_ := 16) (by simp only [lenN, maxBytes]; omega), bnd_s]
    have hrep : lenN (repL (lenN x) ((0, 0) : Int × Int)) = lenN x := by simp [lenN, repL]
    rw [hrep, fulI_id, bnd_s]
    rw [loopT_run (r := Sum.inl x) (fun n s => ∃ (i : Nat) (j : Int), j = (i : Int) ∧ i ≤ x.length ∧ n = x.length - i ∧ ∃ ys : List (Int × Int), ys.length = x.length ∧ ys.take i = x.take i ∧ s = ((x, j), ys)) ?_ x.length _ ⟨0, 0, rfl, by omega, by omega, repL (lenN x) (0, 0), by simp [repL, lenN], by simp, rfl⟩ FUEL (FUEL_gt (by omega))]
    · rw [joinK_l, takI_id]
      rfl
    · rintro n s ⟨i, _, rfl, hi, rfl, ys, hys, htk, rfl⟩
      simp only
      by_cases hlt : i < x.length
      · right
        obtain ⟨e, he⟩ : ∃ e, x[i]? = some e := ⟨_, List.getElem?_eq_getElem hlt⟩
        refine ⟨x.length - (i + 1), ((x, ((i + 1 : Nat) : Int)), ys.set i e), by omega, ?_, i + 1, _, rfl, by omega, rfl, ys.set i e, by simp [hys], ?_, rfl⟩
        · have h1 : ltI (i : Int) (natI (lenN x)) = true := ltI_t (by have := nl x; omega)
          have h2 : ys[i]? = some (ys[i]'(by omega)) := List.getElem?_eq_getElem _
          have h3 : addI .i64 (i : Int) 1 = ((i + 1 : Nat) : Int) := by rw [addI_eq (by omega) (by omega)]; omega
          have h4 : addN 0 i = i := by simp [addN]
          have h5 : lenN (setL ys i e) = lenN ys := by simp [lenN, setL]
          rw [cnd_t h1, getI_nat, he, bnd_s]
          obtain ⟨e1, e2⟩ := e
          simp only [F_laws_toEdge, bnd_s, chkI_nat (i := i) (n := lenN ys) (by simp only [lenN]; omega), h4, getN, h2, h5, fulI_id, h3]
          rfl
        · obtain ⟨hl1, rfl⟩ := List.getElem?_eq_some_iff.1 he
          rw [List.take_add_one, List.take_add_one, List.getElem?_set_self (by omega), he, List.take_set_of_le (by omega), htk]
      · left
        have h1 : ltI (i : Int) (natI (lenN x)) = false := ltI_f (by have := nl x; omega)
        have : ys = x := by
          have hi' : i = x.length := by omega
          subst hi'
          rw [List.take_length, ← hys, List.take_length] at htk
          exact htk
        subst this
        rw [cnd_f h1, fulI_id]
        rfl
  · cases h

theorem f_laws_toGraph (x y : Int × List (Int × Int)) (h : F_laws_toGraph x = some y) : G_laws_toGraph FUEL x = some y := by
  obtain ⟨n, l⟩ := x
  rw [← h]
  simp only [F_laws_toGraph] at h ⊢
  split at h
  · rename_i hl
    simp only [G_laws_toGraph, F_laws_toEdgeS, hl, if_true, bnd_s, takI_id]
  · cases h

def resOk (n : Int) : List (Int × Int) → Unit ⊕ Bool
  | [] => .inl ()
  | e :: es => if edgeOk n e = true then resOk n es else .inr false

theorem resOk_eq (n : Int) (es : List (Int × Int)) : resOk n es = if es.all (edgeOk n) = true then .inl () else .inr false := by
  induction es with
  | nil => rfl
  | cons e es ih =>
    simp only [resOk]
    by_cases h : edgeOk n e = true
    · have e1 : (e :: es).all (edgeOk n) = es.all (edgeOk n) := by simp [h]
      rw [if_pos h, ih, e1]
    · have e1 : (e :: es).all (edgeOk n) = false := by simp [h]
      rw [if_neg h, e1]
      rfl

theorem f_spec_GraphOk (x : Int × List (Int × Int)) (y : Bool) (h : F_spec_GraphOk x = some y) : G_spec_GraphOk FUEL x = some y := by
  obtain ⟨n, es⟩ := x
  rw [← h]
  simp only [F_spec_GraphOk, G_spec_GraphOk, F_spec_l01In, bnd_s, graphOk]
  by_cases h1 : 0 ≤ n ∧ n ≤ 10
  · rw [cnd_f (notB_p h1)]
    by_cases h2 : es.length ≤ 10
    · rw [cnd_f (ltI_f (by have := nl es; omega))]
      rw [loopT_run (r := resOk n es) (fun k s => ∃ (i : Nat) (j : Int), j = (i : Int) ∧ i ≤ es.length ∧ k = es.length - i ∧ resOk n es = resOk n (es.drop i) ∧ s = ((es, natI (lenN es), j), n, es)) ?_ es.length _ ⟨0, 0, rfl, by omega, by omega, by simp, rfl⟩ FUEL (FUEL_gt (by omega))]
      · rw [resOk_eq]
        by_cases h3 : es.all (edgeOk n) = true
        · rw [if_pos h3, joinK_l]; simp [h1, h2]; simpa using h3
        · rw [if_neg h3, joinK_r]; simp [h1, h2]; simpa using h3
      · rintro k s ⟨i, _, rfl, hi, rfl, hr, rfl⟩
        simp only
        by_cases hlt : i < es.length
        · obtain ⟨e, he⟩ : ∃ e, es[i]? = some e := ⟨_, List.getElem?_eq_getElem hlt⟩
          obtain ⟨u, v⟩ := e
          have hd := drop_cons he
          rw [cnd_t (ltI_t (by have := nl es; omega)), getI_nat, he, bnd_s]
          simp only [F_spec_l01In, bnd_s, subI_eq (a := n) (b := 1) (by omega) (by omega)]
          rw [hr, hd, resOk]
          by_cases hu : 0 ≤ u ∧ u ≤ n - 1
          · rw [cnd_f (notB_p hu)]
            by_cases hv : 0 ≤ v ∧ v ≤ n - 1
            · right
              refine ⟨es.length - (i + 1), ((es, natI (lenN es), ((i + 1 : Nat) : Int)), n, es), by omega, ?_, i + 1, _, rfl, by omega, rfl, ?_, rfl⟩
              · rw [cnd_f (notB_p hv), addI_eq (by omega) (by omega)]; rfl
              · rw [if_pos (by simp [edgeOk, hu, hv])]
            · left
              rw [cnd_t (notB_d hv), if_neg (by simp [edgeOk]; omega)]
          · left
            rw [cnd_t (notB_d hu), if_neg (by simp [edgeOk]; omega)]
        · left
          have hi' : i = es.length := by omega
          subst hi'
          rw [cnd_f (ltI_f (by have := nl es; omega)), hr]
          simp [resOk]
    · rw [cnd_t (ltI_t (by have := nl es; omega))]
      simp [h2]
  · rw [cnd_t (notB_d h1)]
    simp [h1]

theorem f_impl_GraphOk (x : Int × List (Int × Int)) (y : Bool) (h : F_impl_GraphOk x = some y) : G_impl_GraphOk FUEL x = some y := by
  obtain ⟨n, es⟩ := x
  rw [← h]
  simp only [F_impl_GraphOk, G_impl_GraphOk, graphOk]
  by_cases h0 : n < 0
  · rw [cnd_t (by simp [ltI, h0])]; simp; omega
  rw [cnd_f (by simp [ltI]; omega)]
  by_cases h1 : 10 < n
  · rw [cnd_t (by simp [ltI, h1])]; simp; omega
  rw [cnd_f (by simp [ltI]; omega)]
  by_cases h2 : es.length ≤ 10
  · rw [cnd_f (ltI_f (by have := nl es; omega))]
    rw [loopT_run (r := resOk n es) (fun k s => ∃ (i : Nat) (j : Int), j = (i : Int) ∧ i ≤ es.length ∧ k = es.length - i ∧ resOk n es = resOk n (es.drop i) ∧ s = ((es, natI (lenN es), j), n, es)) ?_ es.length _ ⟨0, 0, rfl, by omega, by omega, by simp, rfl⟩ FUEL (FUEL_gt (by omega))]
    · rw [resOk_eq]
      by_cases h3 : es.all (edgeOk n) = true
      · rw [if_pos h3, joinK_l]; simp [h2]; exact ⟨by omega, by simpa using h3⟩
      · rw [if_neg h3, joinK_r]; simp [h2]; intro _ _; simpa using h3
    · rintro k s ⟨i, _, rfl, hi, rfl, hr, rfl⟩
      simp only
      by_cases hlt : i < es.length
      · obtain ⟨e, he⟩ : ∃ e, es[i]? = some e := ⟨_, List.getElem?_eq_getElem hlt⟩
        obtain ⟨u, v⟩ := e
        have hd := drop_cons he
        rw [cnd_t (ltI_t (by have := nl es; omega)), getI_nat, he, bnd_s]
        rw [hr, hd, resOk]
        simp only
        by_cases c1 : u < 0
        · left; rw [cnd_t (by simp [ltI, c1]), if_neg (by simp [edgeOk]; omega)]
        rw [cnd_f (by simp [ltI]; omega)]
        by_cases c2 : v < 0
        · left; rw [cnd_t (by simp [ltI, c2]), if_neg (by simp [edgeOk]; omega)]
        rw [cnd_f (by simp [ltI]; omega)]
        by_cases c3 : n ≤ u
        · left; rw [cnd_t (by simp [leI, c3]), if_neg (by simp [edgeOk]; omega)]
        rw [cnd_f (by simp [leI]; omega)]
        by_cases c4 : n ≤ v
        · left; rw [cnd_t (by simp [leI, c4]), if_neg (by simp [edgeOk]; omega)]
        rw [cnd_f (by simp [leI]; omega)]
        right
        refine ⟨es.length - (i + 1), ((es, natI (lenN es), ((i + 1 : Nat) : Int)), n, es), by omega, ?_, i + 1, _, rfl, by omega, rfl, ?_, rfl⟩
        · rw [addI_eq (by omega) (by omega)]; rfl
        · rw [if_pos (by simp [edgeOk]; omega)]
      · left
        have hi' : i = es.length := by omega
        subst hi'
        rw [cnd_f (ltI_f (by have := nl es; omega)), hr]
        simp [resOk]
  · rw [cnd_t (ltI_t (by have := nl es; omega))]
    simp [h2]

theorem f_laws_eqEdge (x : (Int × Int) × (Int × Int)) (y : Bool) (h : F_laws_eqEdge x = some y) : G_laws_eqEdge FUEL x = some y := by
  obtain ⟨⟨a, b⟩, c, d⟩ := x
  rw [← h]
  simp only [F_laws_eqEdge, G_laws_eqEdge]
  by_cases h1 : a = c
  · rw [cnd_f (neI_f h1)]
    by_cases h2 : b = d
    · rw [cnd_f (neI_f h2)]; simp [h1, h2]
    · rw [cnd_t (neI_t h2)]; simp [h2]
  · rw [cnd_t (neI_t h1)]; simp [h1]

theorem f_laws_eqEdgeS (x : List (Int × Int) × List (Int × Int)) (y : Bool) (h : F_laws_eqEdgeS x = some y) : G_laws_eqEdgeS FUEL x = some y := by
  obtain ⟨a, b⟩ := x
  simp only [F_laws_eqEdgeS] at h
  split at h
  · rename_i hl
    rw [← h]
    simp only [G_laws_eqEdgeS]
    by_cases hn : a.length = b.length
    · rw [cnd_f (neI_f (by have := nl a; have := nl b; omega))]
      rw [loopT_run (r := if a = b then (Sum.inl () : Unit ⊕ Bool) else .inr false) (fun k s => ∃ (i : Nat) (j : Int), j = (i : Int) ∧ i ≤ a.length ∧ k = a.length - i ∧ a.take i = b.take i ∧ s = (a, b, j)) ?_ a.length _ ⟨0, 0, rfl, by omega, by omega, by simp, rfl⟩ FUEL (FUEL_gt (by omega))]
      · by_cases h3 : a = b
        · rw [if_pos h3, joinK_l]; simp [h3]
        · rw [if_neg h3, joinK_r]; simp [h3]
      · rintro k s ⟨i, _, rfl, hi, rfl, htk, rfl⟩
        simp only
        by_cases hlt : i < a.length
        · obtain ⟨e, he⟩ : ∃ e, a[i]? = some e := ⟨_, List.getElem?_eq_getElem hlt⟩
          obtain ⟨e', he'⟩ : ∃ e, b[i]? = some e := ⟨_, List.getElem?_eq_getElem (by omega)⟩
          obtain ⟨u, v⟩ := e
          obtain ⟨u', v'⟩ := e'
          rw [cnd_t (ltI_t (by have := nl a; omega)), getI_nat, he, bnd_s, getI_nat, he', bnd_s]
          simp only [F_laws_eqEdge, bnd_s]
          by_cases hee : (u, v) = (u', v')
          · right
            refine ⟨a.length - (i + 1), (a, b, ((i + 1 : Nat) : Int)), by omega, ?_, i + 1, _, rfl, by omega, rfl, ?_, rfl⟩
            · rw [cnd_f (notB_p hee), addI_eq (by omega) (by omega)]; rfl
            · rw [List.take_add_one, List.take_add_one, htk, he, he', hee]
          · left
            rw [cnd_t (notB_d hee), if_neg (fun hab => hee (by subst hab; rw [he] at he'; injection he'))]
        · left
          have hi' : i = a.length := by omega
          subst hi'
          rw [cnd_f (ltI_f (by have := nl a; omega)), if_pos]
          rw [List.take_length, hn, List.take_length] at htk
          exact htk
    · rw [cnd_t (neI_t (by have := nl a; have := nl b; omega))]
      have : a ≠ b := fun e => hn (by rw [e])
      simp [this]
  · cases h

theorem f_laws_eqGraph (x : (Int × List (Int × Int)) × (Int × List (Int × Int))) (y : Bool) (h : F_laws_eqGraph x = some y) : G_laws_eqGraph FUEL x = some y := by
  obtain ⟨⟨n, a⟩, m, b⟩ := x
  simp only [F_laws_eqGraph] at h
  split at h
  · rename_i hl
    rw [← h]
    simp only [G_laws_eqGraph, F_laws_eqEdgeS]
    rw [if_pos hl, bnd_s]
    by_cases h1 : n = m
    · rw [cnd_f (neI_f h1)]
      by_cases h2 : a = b
      · rw [cnd_f (notB_p h2)]; simp [h1, h2]
      · rw [cnd_t (notB_d h2)]; simp [h2]
    · rw [cnd_t (neI_t h1)]; simp [h1]
  · cases h

theorem f_laws_FnExactGraphOk (x : Int × List (Int × Int)) (y : Bool) (h : F_laws_FnExactGraphOk x = some y) : G_laws_FnExactGraphOk FUEL x = some y := by
  obtain ⟨n, l⟩ := x
  simp only [F_laws_FnExactGraphOk] at h
  split at h
  · rename_i hl
    rw [← h]
    simp only [G_laws_FnExactGraphOk, F_laws_szGraph, F_laws_szEdgeS]
    rw [subI_eq (by have := nl l; omega) (by have := nl l; omega)]
    by_cases hs : 1048576 - natI (lenN l) < 0
    · rw [if_pos hs, bnd_s, cnd_t (ltI_t (by omega))]
    · rw [if_neg hs, bnd_s, cnd_f (ltI_f (by omega))]
      have hle : l.length ≤ 8796093022208 := by have := nl l; omega
      simp only [F_laws_toGraph, if_pos hle, bnd_s, winI_id, F_spec_GraphOk, F_impl_GraphOk, F_laws_eqGraph]
      simp [neB, cnd, notB]
  · cases h
end Go.Am
