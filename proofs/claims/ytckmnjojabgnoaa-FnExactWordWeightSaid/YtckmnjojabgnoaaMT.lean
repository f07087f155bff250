/- MT: sizes, copies, comparisons and marks of the laws' types. No condition. -/
import Derived.Test.YtckmnjojabgnoaaB2
set_option linter.unusedVariables false
set_option linter.unusedSimpArgs false
set_option synthInstance.maxSize 1000
set_option synthInstance.maxHeartbeats 400000
namespace Go.Am
def sz_IntS (l : List Int) : Nat := l.length
def wf_IntS (l : List Int) : Bool := decide (l.length ≤ 9223372036854775807)
def F_laws_szIntS : (List Int) × Int → Option Int := fun ((x, k) : (List Int) × Int) => if kOk k ∧ wf_IntS x = true then some (szR (sz_IntS x) k) else none
def F_laws_toIntS : (List Int) → Option (List Int) := fun (x : List Int) => if sz_IntS x ≤ 1048576 then some x else none
def F_laws_eqIntS : (List Int) × (List Int) → Option Bool := fun ((x, y) : (List Int) × (List Int)) => if sz_IntS x ≤ 1048576 then some (decide (x = y)) else none

def sz_Matrix (x : Int × Int × (List Int)) : Nat := match x with | (a0, a1, a2) => sz_IntS a2
def wf_Matrix (x : Int × Int × (List Int)) : Bool := match x with | (a0, a1, a2) => wf_IntS a2
def F_laws_szMatrix : (Int × Int × (List Int)) × Int → Option Int := fun ((x, k) : (Int × Int × (List Int)) × Int) => if kOk k ∧ wf_Matrix x = true then some (szR (sz_Matrix x) k) else none
def F_laws_toMatrix : (Int × Int × (List Int)) → Option (Int × Int × (List Int)) := fun (x : Int × Int × (List Int)) => if sz_Matrix x ≤ 1048576 then some x else none
def F_laws_eqMatrix : (Int × Int × (List Int)) × (Int × Int × (List Int)) → Option Bool := fun ((x, y) : (Int × Int × (List Int)) × (Int × Int × (List Int))) => if sz_Matrix x ≤ 1048576 then some (decide (x = y)) else none

def sz_MatrixS (l : List (Int × Int × (List Int))) : Nat := l.length + (l.map sz_Matrix).sum
def wf_MatrixS (l : List (Int × Int × (List Int))) : Bool := decide (l.length ≤ 9223372036854775807) && l.all wf_Matrix
def F_laws_szMatrixS : (List (Int × Int × (List Int))) × Int → Option Int := fun ((x, k) : (List (Int × Int × (List Int))) × Int) => if kOk k ∧ wf_MatrixS x = true then some (szR (sz_MatrixS x) k) else none
def F_laws_toMatrixS : (List (Int × Int × (List Int))) → Option (List (Int × Int × (List Int))) := fun (x : List (Int × Int × (List Int))) => if sz_MatrixS x ≤ 1048576 then some x else none
def F_laws_eqMatrixS : (List (Int × Int × (List Int))) × (List (Int × Int × (List Int))) → Option Bool := fun ((x, y) : (List (Int × Int × (List Int))) × (List (Int × Int × (List Int)))) => if sz_MatrixS x ≤ 1048576 then some (decide (x = y)) else none

def sz_Automaton (x : Int × Int × (List Int) × (List (Int × Int × (List Int))) × (List Int)) : Nat := match x with | (a0, a1, a2, a3, a4) => sz_IntS a2 + sz_MatrixS a3 + sz_IntS a4
def wf_Automaton (x : Int × Int × (List Int) × (List (Int × Int × (List Int))) × (List Int)) : Bool := match x with | (a0, a1, a2, a3, a4) => wf_IntS a2 && wf_MatrixS a3 && wf_IntS a4
def F_laws_szAutomaton : (Int × Int × (List Int) × (List (Int × Int × (List Int))) × (List Int)) × Int → Option Int := fun ((x, k) : (Int × Int × (List Int) × (List (Int × Int × (List Int))) × (List Int)) × Int) => if kOk k ∧ wf_Automaton x = true then some (szR (sz_Automaton x) k) else none
def F_laws_toAutomaton : (Int × Int × (List Int) × (List (Int × Int × (List Int))) × (List Int)) → Option (Int × Int × (List Int) × (List (Int × Int × (List Int))) × (List Int)) := fun (x : Int × Int × (List Int) × (List (Int × Int × (List Int))) × (List Int)) => if sz_Automaton x ≤ 1048576 then some x else none
def F_laws_eqAutomaton : (Int × Int × (List Int) × (List (Int × Int × (List Int))) × (List Int)) × (Int × Int × (List Int) × (List (Int × Int × (List Int))) × (List Int)) → Option Bool := fun ((x, y) : (Int × Int × (List Int) × (List (Int × Int × (List Int))) × (List Int)) × (Int × Int × (List Int) × (List (Int × Int × (List Int))) × (List Int))) => if sz_Automaton x ≤ 1048576 then some (decide (x = y)) else none

def ag_laws_szIntS : Sig := [(.one, [.list [.int .i64]]), (.one, [.int .i64])]
def rs_laws_szIntS : Sig := [(.one, [.int .i64])]
def mu_laws_szIntS : MSig := []
def ag_laws_toIntS : Sig := [(.one, [.list [.int .i64]])]
def rs_laws_toIntS : Sig := [(.one, [.list [.int .i64]])]
def mu_laws_toIntS : MSig := []
def ag_laws_eqIntS : Sig := [(.one, [.list [.int .i64]]), (.one, [.list [.int .i64]])]
def rs_laws_eqIntS : Sig := [(.one, [.bool])]
def mu_laws_eqIntS : MSig := []
def ag_laws_szMatrix : Sig := [(.agg, [.int .i64, .int .i64, .list [.int .i64]]), (.one, [.int .i64])]
def rs_laws_szMatrix : Sig := [(.one, [.int .i64])]
def mu_laws_szMatrix : MSig := []
def ag_laws_toMatrix : Sig := [(.agg, [.int .i64, .int .i64, .list [.int .i64]])]
def rs_laws_toMatrix : Sig := [(.agg, [.int .i64, .int .i64, .list [.int .i64]])]
def mu_laws_toMatrix : MSig := []
def ag_laws_eqMatrix : Sig := [(.agg, [.int .i64, .int .i64, .list [.int .i64]]), (.agg, [.int .i64, .int .i64, .list [.int .i64]])]
def rs_laws_eqMatrix : Sig := [(.one, [.bool])]
def mu_laws_eqMatrix : MSig := []
def ag_laws_szMatrixS : Sig := [(.one, [.list [.int .i64, .int .i64, .list [.int .i64]]]), (.one, [.int .i64])]
def rs_laws_szMatrixS : Sig := [(.one, [.int .i64])]
def mu_laws_szMatrixS : MSig := []
def ag_laws_toMatrixS : Sig := [(.one, [.list [.int .i64, .int .i64, .list [.int .i64]]])]
def rs_laws_toMatrixS : Sig := [(.one, [.list [.int .i64, .int .i64, .list [.int .i64]]])]
def mu_laws_toMatrixS : MSig := []
def ag_laws_eqMatrixS : Sig := [(.one, [.list [.int .i64, .int .i64, .list [.int .i64]]]), (.one, [.list [.int .i64, .int .i64, .list [.int .i64]]])]
def rs_laws_eqMatrixS : Sig := [(.one, [.bool])]
def mu_laws_eqMatrixS : MSig := []
def ag_laws_szAutomaton : Sig := [(.agg, [.int .i64, .int .i64, .list [.int .i64], .list [.int .i64, .int .i64, .list [.int .i64]], .list [.int .i64]]), (.one, [.int .i64])]
def rs_laws_szAutomaton : Sig := [(.one, [.int .i64])]
def mu_laws_szAutomaton : MSig := []
def ag_laws_toAutomaton : Sig := [(.agg, [.int .i64, .int .i64, .list [.int .i64], .list [.int .i64, .int .i64, .list [.int .i64]], .list [.int .i64]])]
def rs_laws_toAutomaton : Sig := [(.agg, [.int .i64, .int .i64, .list [.int .i64], .list [.int .i64, .int .i64, .list [.int .i64]], .list [.int .i64]])]
def mu_laws_toAutomaton : MSig := []
def ag_laws_eqAutomaton : Sig := [(.agg, [.int .i64, .int .i64, .list [.int .i64], .list [.int .i64, .int .i64, .list [.int .i64]], .list [.int .i64]]), (.agg, [.int .i64, .int .i64, .list [.int .i64], .list [.int .i64, .int .i64, .list [.int .i64]], .list [.int .i64]])]
def rs_laws_eqAutomaton : Sig := [(.one, [.bool])]
def mu_laws_eqAutomaton : MSig := []
def G_laws_szIntS (NN : Nat) : ((List Int) × Int) → (Option Int) :=
 (fun ((l0, i1) : ((List Int) × Int)) =>
 cnd (ltI (subI .i64 i1 (natI (lenN l0))) (0 : Int))
 (some ((-1 : Int)))
 (some (subI .i64 i1 (natI (lenN l0)))))

def G_laws_toIntS (NN : Nat) : (List Int) → (Option (List Int)) :=
 (fun (l0 : (List Int)) =>
 (mkI (natI (lenN l0)) (natI (lenN l0)) 8).bnd (fun (k1 : Nat) =>
 joinK ((fulI 0 k1 (lenN (repL k1 (0 : Int)))).bnd (fun (_ : Unit) =>
 loopT NN (fun (((l2, i3), l4) : (((List Int) × Int) × (List Int))) =>
 cnd (ltI i3 (natI (lenN l2)))
 ((getI l2 i3).bnd (fun (i5 : Int) =>
 (chkI i3 (lenN l4)).bnd (fun (k6 : Nat) =>
 (getN l4 (addN 0 k6)).bnd (fun (i7 : Int) =>
 (fulI 0 (lenN l4) (lenN (setL l4 (addN 0 k6) i5))).bnd (fun (_ : Unit) =>
 some (Sum.inl ((l2, addI .i64 i3 (1 : Int)), setL l4 (addN 0 k6) i5)))))))
 (((fulI 0 (lenN l4) (lenN l4)).bnd (fun (_ : Unit) =>
 some (Sum.inl l4))).bnd (fun (l8 : ((List Int) ⊕ (List Int))) =>
 some (Sum.inr l8))))
 ((l0, (0 : Int)), repL k1 (0 : Int))))
 (fun (l9 : (List Int)) =>
 (takI l9 (lenN l9)).bnd (fun (l10 : (List Int)) =>
 some l10))))

def G_laws_eqIntS (NN : Nat) : ((List Int) × (List Int)) → (Option Bool) :=
 (fun ((l0, l1) : ((List Int) × (List Int))) =>
 cnd (neI (natI (lenN l0)) (natI (lenN l1)))
 (some false)
 (joinK (loopT NN (fun ((l2, l3, i4) : ((List Int) × ((List Int) × Int))) =>
 cnd (ltI i4 (natI (lenN l2)))
 ((getI l2 i4).bnd (fun (i5 : Int) =>
 (getI l3 i4).bnd (fun (i6 : Int) =>
 cnd (neI i5 i6)
 (some (Sum.inr (Sum.inr false)))
 (some (Sum.inl (l2, l3, addI .i64 i4 (1 : Int)))))))
 (some (Sum.inr (Sum.inl ()))))
 (l0, l1, (0 : Int)))
 (fun (_ : Unit) =>
 some true)))

def G_laws_szMatrix (NN : Nat) : ((Int × (Int × (List Int))) × Int) → (Option Int) :=
 (fun (((i0, i1, l2), i3) : ((Int × (Int × (List Int))) × Int)) =>
 (F_laws_szIntS (l2, i3)).bnd (fun (i4 : Int) =>
 cnd (ltI i4 (0 : Int))
 (some ((-1 : Int)))
 (some i4)))

def G_laws_toMatrix (NN : Nat) : (Int × (Int × (List Int))) → (Option (Int × (Int × (List Int)))) :=
 (fun ((i0, i1, l2) : (Int × (Int × (List Int)))) =>
 (F_laws_toIntS l2).bnd (fun (l3 : (List Int)) =>
 (takI l3 (lenN l3)).bnd (fun (l4 : (List Int)) =>
 some (i0, i1, l4))))

def G_laws_eqMatrix (NN : Nat) : ((Int × (Int × (List Int))) × (Int × (Int × (List Int)))) → (Option Bool) :=
 (fun (((i0, i1, l2), i3, i4, l5) : ((Int × (Int × (List Int))) × (Int × (Int × (List Int))))) =>
 cnd (neI i0 i3)
 (some false)
 (cnd (neI i1 i4)
 (some false)
 ((F_laws_eqIntS (l2, l5)).bnd (fun (b6 : Bool) =>
 cnd (notB b6)
 (some false)
 (some true)))))

def G_laws_szMatrixS (NN : Nat) : ((List (Int × (Int × (List Int)))) × Int) → (Option Int) :=
 (fun ((l0, i1) : ((List (Int × (Int × (List Int)))) × Int)) =>
 cnd (ltI (subI .i64 i1 (natI (lenN l0))) (0 : Int))
 (some ((-1 : Int)))
 (joinK (loopT NN (fun ((l2, i3, i4) : ((List (Int × (Int × (List Int)))) × (Int × Int))) =>
 cnd (ltI i4 (natI (lenN l2)))
 ((getI l2 i4).bnd (fun ((i5, i6, l7) : (Int × (Int × (List Int)))) =>
 (F_laws_szMatrix ((i5, i6, l7), i3)).bnd (fun (i8 : Int) =>
 cnd (ltI i8 (0 : Int))
 (some (Sum.inr (Sum.inr ((-1 : Int)))))
 (some (Sum.inl (l2, i8, addI .i64 i4 (1 : Int)))))))
 (some (Sum.inr (Sum.inl i3))))
 (l0, subI .i64 i1 (natI (lenN l0)), (0 : Int)))
 (fun (i9 : Int) =>
 some i9)))

def G_laws_toMatrixS (NN : Nat) : (List (Int × (Int × (List Int)))) → (Option (List (Int × (Int × (List Int))))) :=
 (fun (l0 : (List (Int × (Int × (List Int))))) =>
 (mkI (natI (lenN l0)) (natI (lenN l0)) 40).bnd (fun (k1 : Nat) =>
 joinK ((fulI 0 k1 (lenN (repL k1 ((0 : Int), (0 : Int), ([] : List Int))))).bnd (fun (_ : Unit) =>
 loopT NN (fun (((l2, i3), l4) : (((List (Int × (Int × (List Int)))) × Int) × (List (Int × (Int × (List Int)))))) =>
 cnd (ltI i3 (natI (lenN l2)))
 ((getI l2 i3).bnd (fun ((i5, i6, l7) : (Int × (Int × (List Int)))) =>
 (F_laws_toMatrix (i5, i6, l7)).bnd (fun ((i8, i9, l10) : (Int × (Int × (List Int)))) =>
 (chkI i3 (lenN l4)).bnd (fun (k11 : Nat) =>
 (getN l4 (addN 0 k11)).bnd (fun ((i12, i13, l14) : (Int × (Int × (List Int)))) =>
 (takI l10 (lenN l10)).bnd (fun (l15 : (List Int)) =>
 (fulI 0 (lenN l4) (lenN (setL l4 (addN 0 k11) (i8, i9, l15)))).bnd (fun (_ : Unit) =>
 some (Sum.inl ((l2, addI .i64 i3 (1 : Int)), setL l4 (addN 0 k11) (i8, i9, l15))))))))))
 (((fulI 0 (lenN l4) (lenN l4)).bnd (fun (_ : Unit) =>
 some (Sum.inl l4))).bnd (fun (l16 : ((List (Int × (Int × (List Int)))) ⊕ (List (Int × (Int × (List Int)))))) =>
 some (Sum.inr l16))))
 ((l0, (0 : Int)), repL k1 ((0 : Int), (0 : Int), ([] : List Int)))))
 (fun (l17 : (List (Int × (Int × (List Int))))) =>
 (takI l17 (lenN l17)).bnd (fun (l18 : (List (Int × (Int × (List Int))))) =>
 some l18))))

def G_laws_eqMatrixS (NN : Nat) : ((List (Int × (Int × (List Int)))) × (List (Int × (Int × (List Int))))) → (Option Bool) :=
 (fun ((l0, l1) : ((List (Int × (Int × (List Int)))) × (List (Int × (Int × (List Int)))))) =>
 cnd (neI (natI (lenN l0)) (natI (lenN l1)))
 (some false)
 (joinK (loopT NN (fun ((l2, l3, i4) : ((List (Int × (Int × (List Int)))) × ((List (Int × (Int × (List Int)))) × Int))) =>
 cnd (ltI i4 (natI (lenN l2)))
 ((getI l2 i4).bnd (fun ((i5, i6, l7) : (Int × (Int × (List Int)))) =>
 (getI l3 i4).bnd (fun ((i8, i9, l10) : (Int × (Int × (List Int)))) =>
 (F_laws_eqMatrix ((i5, i6, l7), i8, i9, l10)).bnd (fun (b11 : Bool) =>
 cnd (notB b11)
 (some (Sum.inr (Sum.inr false)))
 (some (Sum.inl (l2, l3, addI .i64 i4 (1 : Int))))))))
 (some (Sum.inr (Sum.inl ()))))
 (l0, l1, (0 : Int)))
 (fun (_ : Unit) =>
 some true)))

def G_laws_szAutomaton (NN : Nat) : ((Int × (Int × ((List Int) × ((List (Int × (Int × (List Int)))) × (List Int))))) × Int) → (Option Int) :=
 (fun (((i0, i1, l2, l3, l4), i5) : ((Int × (Int × ((List Int) × ((List (Int × (Int × (List Int)))) × (List Int))))) × Int)) =>
 (F_laws_szIntS (l2, i5)).bnd (fun (i6 : Int) =>
 cnd (ltI i6 (0 : Int))
 (some ((-1 : Int)))
 ((F_laws_szMatrixS (l3, i6)).bnd (fun (i7 : Int) =>
 cnd (ltI i7 (0 : Int))
 (some ((-1 : Int)))
 ((F_laws_szIntS (l4, i7)).bnd (fun (i8 : Int) =>
 cnd (ltI i8 (0 : Int))
 (some ((-1 : Int)))
 (some i8)))))))

def G_laws_toAutomaton (NN : Nat) : (Int × (Int × ((List Int) × ((List (Int × (Int × (List Int)))) × (List Int))))) → (Option (Int × (Int × ((List Int) × ((List (Int × (Int × (List Int)))) × (List Int)))))) :=
 (fun ((i0, i1, l2, l3, l4) : (Int × (Int × ((List Int) × ((List (Int × (Int × (List Int)))) × (List Int)))))) =>
 (F_laws_toIntS l2).bnd (fun (l5 : (List Int)) =>
 (F_laws_toMatrixS l3).bnd (fun (l6 : (List (Int × (Int × (List Int))))) =>
 (F_laws_toIntS l4).bnd (fun (l7 : (List Int)) =>
 (takI l5 (lenN l5)).bnd (fun (l8 : (List Int)) =>
 (takI l6 (lenN l6)).bnd (fun (l9 : (List (Int × (Int × (List Int))))) =>
 (takI l7 (lenN l7)).bnd (fun (l10 : (List Int)) =>
 some (i0, i1, l8, l9, l10))))))))

def G_laws_eqAutomaton (NN : Nat) : ((Int × (Int × ((List Int) × ((List (Int × (Int × (List Int)))) × (List Int))))) × (Int × (Int × ((List Int) × ((List (Int × (Int × (List Int)))) × (List Int)))))) → (Option Bool) :=
 (fun (((i0, i1, l2, l3, l4), i5, i6, l7, l8, l9) : ((Int × (Int × ((List Int) × ((List (Int × (Int × (List Int)))) × (List Int))))) × (Int × (Int × ((List Int) × ((List (Int × (Int × (List Int)))) × (List Int))))))) =>
 cnd (neI i0 i5)
 (some false)
 (cnd (neI i1 i6)
 (some false)
 ((F_laws_eqIntS (l2, l7)).bnd (fun (b10 : Bool) =>
 cnd (notB b10)
 (some false)
 ((F_laws_eqMatrixS (l3, l8)).bnd (fun (b11 : Bool) =>
 cnd (notB b11)
 (some false)
 ((F_laws_eqIntS (l4, l9)).bnd (fun (b12 : Bool) =>
 cnd (notB b12)
 (some false)
 (some true)))))))))

theorem f_laws_szIntS (x : (List Int) × Int) (y : Int) (h : F_laws_szIntS x = some y) : G_laws_szIntS FUEL x = some y := by
  obtain ⟨l, k⟩ := x
  simp only [F_laws_szIntS] at h
  split at h
  · rename_i hc
    obtain ⟨⟨k0, k1⟩, hw⟩ := hc
    have hw := of_decide_eq_true hw
    rw [← h]
    have hn := nl l
    simp only [G_laws_szIntS]
    rw [subI_eq (by omega) (by omega)]
    show _ = some (szR l.length k)
    by_cases hs : (l.length : Int) ≤ k
    · rw [szR_t hs, cnd_f (ltI_f (by omega))]; rfl
    · rw [szR_f hs, cnd_t (ltI_t (by omega))]
  · cases h

theorem f_laws_toIntS (x y : List Int) (h : F_laws_toIntS x = some y) : G_laws_toIntS FUEL x = some y := by
  simp only [F_laws_toIntS] at h
  split at h
  · rename_i hl
    injection h with h
    subst h
    have hl : x.length ≤ 1048576 := hl
    simp only [G_laws_toIntS, mkI_nat (n := lenN x) (by_ := 8) (by simp only [lenN, maxBytes]; omega), bnd_s, lenN_repL, fulI_id]
    rw [fill_loop x 0 (r := Sum.inl x) ?_ ?_ (by omega)]
    · simp only [joinK_l, takI_id, bnd_s]
    · intro i e ys he hy hi
      simp only
      rw [cnd_t (ltI_in he), getI_nat, he, bnd_s]
      simp only [chkI_len hi, bnd_s, addN_0, getN, hi, lenN_setL, fulI_id, next_i he (by omega)]
      rfl
    · simp only
      rw [cnd_f (ltI_end x)]
  · cases h

theorem f_laws_eqIntS (x : (List Int) × (List Int)) (y : Bool) (h : F_laws_eqIntS x = some y) : G_laws_eqIntS FUEL x = some y := by
  obtain ⟨a, b⟩ := x
  simp only [F_laws_eqIntS] at h
  split at h
  · rename_i hl
    rw [← h]
    have hl : a.length ≤ 1048576 := hl
    exact eq_loopI a b (by omega)
  · cases h

theorem f_laws_szMatrix (x : (Int × Int × (List Int)) × Int) (y : Int) (h : F_laws_szMatrix x = some y) : G_laws_szMatrix FUEL x = some y := by
  obtain ⟨⟨a0, a1, a2⟩, k⟩ := x
  simp only [F_laws_szMatrix] at h
  split at h
  · rename_i hc
    obtain ⟨⟨k0, k1⟩, hw⟩ := hc
    simp only [wf_Matrix] at hw
    rw [← h]
    simp only [G_laws_szMatrix]
    rw [szK (o := F_laws_szIntS (a2, k)) (s := sz_IntS a2) (if_pos ⟨by constructor <;> omega, hw⟩)]
    by_cases c0 : ((sz_IntS a2 : Nat) : Int) ≤ k
    · rw [if_pos c0]
      show _ = some (szR (sz_IntS a2) k)
      rw [szR_t (by omega)]
    · rw [if_neg c0]
      show _ = some (szR (sz_IntS a2) k)
      rw [szR_f (by omega)]
  · cases h

theorem f_laws_toMatrix (x y : Int × Int × (List Int)) (h : F_laws_toMatrix x = some y) : G_laws_toMatrix FUEL x = some y := by
  obtain ⟨a0, a1, a2⟩ := x
  simp only [F_laws_toMatrix] at h
  split at h
  · rename_i hl
    rw [← h]
    simp only [sz_Matrix] at hl
    simp only [G_laws_toMatrix, F_laws_toIntS, if_pos (show sz_IntS a2 ≤ 1048576 by omega), bnd_s, takI_id]
  · cases h

theorem f_laws_eqMatrix (x : (Int × Int × (List Int)) × (Int × Int × (List Int))) (y : Bool) (h : F_laws_eqMatrix x = some y) : G_laws_eqMatrix FUEL x = some y := by
  obtain ⟨⟨a0, a1, a2⟩, b0, b1, b2⟩ := x
  simp only [F_laws_eqMatrix] at h
  split at h
  · rename_i hl
    rw [← h]
    simp only [sz_Matrix] at hl
    simp only [G_laws_eqMatrix, F_laws_eqIntS, if_pos (show sz_IntS a2 ≤ 1048576 by omega), bnd_s]
    by_cases e0 : a0 = b0 <;> by_cases e1 : a1 = b1 <;> by_cases e2 : a2 = b2 <;> simp [neI_d, notB, cnd, *]
  · cases h

theorem f_laws_szMatrixS (x : (List (Int × Int × (List Int))) × Int) (y : Int) (h : F_laws_szMatrixS x = some y) : G_laws_szMatrixS FUEL x = some y := by
  obtain ⟨l, k⟩ := x
  simp only [F_laws_szMatrixS] at h
  split at h
  · rename_i hc
    obtain ⟨hk, hw⟩ := hc
    unfold wf_MatrixS at hw
    rw [Bool.and_eq_true, decide_eq_true_eq, List.all_eq_true] at hw
    rw [← h]
    exact sz_loop F_laws_szMatrix sz_Matrix l hw.1 (fun e he k hk => if_pos ⟨hk, hw.2 e he⟩) k hk
  · cases h

theorem sz_MatrixS_mem {l : List (Int × Int × (List Int))} (h : sz_MatrixS l ≤ 1048576) : l.length ≤ 1048576 ∧ ∀ e ∈ l, sz_Matrix e ≤ 1048576 := by
  unfold sz_MatrixS at h
  refine ⟨by omega, fun e he => ?_⟩
  have := le_sum_mem (List.mem_map_of_mem (f := sz_Matrix) he)
  omega

theorem f_laws_toMatrixS (x y : List (Int × Int × (List Int))) (h : F_laws_toMatrixS x = some y) : G_laws_toMatrixS FUEL x = some y := by
  simp only [F_laws_toMatrixS] at h
  split at h
  · rename_i hl
    injection h with h
    subst h
    obtain ⟨hl, hm⟩ := sz_MatrixS_mem hl
    simp only [G_laws_toMatrixS, mkI_nat (n := lenN x) (by_ := 40) (by simp only [lenN, maxBytes]; omega), bnd_s, lenN_repL, fulI_id]
    rw [fill_loop x (0, 0, []) (r := Sum.inl x) ?_ ?_ (by omega)]
    · simp only [joinK_l, takI_id, bnd_s]
    · rintro i ⟨a0, a1, a2⟩ ys he hy hi
      simp only
      rw [cnd_t (ltI_in he), getI_nat, he, bnd_s]
      simp only [F_laws_toMatrix, if_pos (hm _ (List.mem_of_getElem? he)), chkI_len hi, bnd_s, addN_0, getN, hi, takI_id, lenN_setL, fulI_id, next_i he (by omega)]
      rfl
    · simp only
      rw [cnd_f (ltI_end x)]
  · cases h

theorem f_laws_eqMatrixS (x : (List (Int × Int × (List Int))) × (List (Int × Int × (List Int)))) (y : Bool) (h : F_laws_eqMatrixS x = some y) : G_laws_eqMatrixS FUEL x = some y := by
  obtain ⟨a, b⟩ := x
  simp only [F_laws_eqMatrixS] at h
  split at h
  · rename_i hl
    rw [← h]
    obtain ⟨hl, hm⟩ := sz_MatrixS_mem hl
    exact eq_loop F_laws_eqMatrix a b (fun e he b => show (if sz_Matrix e ≤ 1048576 then some (decide (e = b)) else none) = _ from if_pos (hm e he)) (by omega)
  · cases h

theorem f_laws_szAutomaton (x : (Int × Int × (List Int) × (List (Int × Int × (List Int))) × (List Int)) × Int) (y : Int) (h : F_laws_szAutomaton x = some y) : G_laws_szAutomaton FUEL x = some y := by
  obtain ⟨⟨a0, a1, a2, a3, a4⟩, k⟩ := x
  simp only [F_laws_szAutomaton] at h
  split at h
  · rename_i hc
    obtain ⟨⟨k0, k1⟩, hw⟩ := hc
    simp only [wf_Automaton, Bool.and_eq_true] at hw
    rw [← h]
    simp only [G_laws_szAutomaton]
    rw [szK (o := F_laws_szIntS (a2, k)) (s := sz_IntS a2) (if_pos ⟨by constructor <;> omega, hw.1.1⟩)]
    by_cases c0 : ((sz_IntS a2 : Nat) : Int) ≤ k
    · rw [if_pos c0]
      rw [szK (o := F_laws_szMatrixS (a3, k - sz_IntS a2)) (s := sz_MatrixS a3) (if_pos ⟨by constructor <;> omega, hw.1.2⟩)]
      by_cases c1 : ((sz_MatrixS a3 : Nat) : Int) ≤ k - sz_IntS a2
      · rw [if_pos c1]
        rw [szK (o := F_laws_szIntS (a4, k - sz_IntS a2 - sz_MatrixS a3)) (s := sz_IntS a4) (if_pos ⟨by constructor <;> omega, hw.2⟩)]
        by_cases c2 : ((sz_IntS a4 : Nat) : Int) ≤ k - sz_IntS a2 - sz_MatrixS a3
        · rw [if_pos c2]
          show _ = some (szR (sz_IntS a2 + sz_MatrixS a3 + sz_IntS a4) k)
          rw [szR_t (by omega)]
          exact congrArg some (by omega)
        · rw [if_neg c2]
          show _ = some (szR (sz_IntS a2 + sz_MatrixS a3 + sz_IntS a4) k)
          rw [szR_f (by omega)]
      · rw [if_neg c1]
        show _ = some (szR (sz_IntS a2 + sz_MatrixS a3 + sz_IntS a4) k)
        rw [szR_f (by omega)]
    · rw [if_neg c0]
      show _ = some (szR (sz_IntS a2 + sz_MatrixS a3 + sz_IntS a4) k)
      rw [szR_f (by omega)]
  · cases h

theorem f_laws_toAutomaton (x y : Int × Int × (List Int) × (List (Int × Int × (List Int))) × (List Int)) (h : F_laws_toAutomaton x = some y) : G_laws_toAutomaton FUEL x = some y := by
  obtain ⟨a0, a1, a2, a3, a4⟩ := x
  simp only [F_laws_toAutomaton] at h
  split at h
  · rename_i hl
    rw [← h]
    simp only [sz_Automaton] at hl
    simp only [G_laws_toAutomaton, F_laws_toIntS, F_laws_toMatrixS, if_pos (show sz_IntS a2 ≤ 1048576 by omega), if_pos (show sz_MatrixS a3 ≤ 1048576 by omega), if_pos (show sz_IntS a4 ≤ 1048576 by omega), bnd_s, takI_id]
  · cases h

theorem f_laws_eqAutomaton (x : (Int × Int × (List Int) × (List (Int × Int × (List Int))) × (List Int)) × (Int × Int × (List Int) × (List (Int × Int × (List Int))) × (List Int))) (y : Bool) (h : F_laws_eqAutomaton x = some y) : G_laws_eqAutomaton FUEL x = some y := by
  obtain ⟨⟨a0, a1, a2, a3, a4⟩, b0, b1, b2, b3, b4⟩ := x
  simp only [F_laws_eqAutomaton] at h
  split at h
  · rename_i hl
    rw [← h]
    simp only [sz_Automaton] at hl
    simp only [G_laws_eqAutomaton, F_laws_eqIntS, F_laws_eqMatrixS, if_pos (show sz_IntS a2 ≤ 1048576 by omega), if_pos (show sz_MatrixS a3 ≤ 1048576 by omega), if_pos (show sz_IntS a4 ≤ 1048576 by omega), bnd_s]
    by_cases e0 : a0 = b0 <;> by_cases e1 : a1 = b1 <;> by_cases e2 : a2 = b2 <;> by_cases e3 : a3 = b3 <;> by_cases e4 : a4 = b4 <;> simp [neI_d, notB, cnd, *]
  · cases h

theorem eqs_IntS (x : List Int) (h : sz_IntS x ≤ 1048576) : F_laws_eqIntS (x, x) = some true := by
  have := show F_laws_eqIntS (x, x) = if sz_IntS x ≤ 1048576 then some (decide (x = x)) else none from rfl
  rw [this, if_pos h, decide_eq_true rfl]
theorem tos_IntS (x : List Int) (h : sz_IntS x ≤ 1048576) : F_laws_toIntS x = some x := if_pos h
theorem eqs_Automaton (x : Int × Int × (List Int) × (List (Int × Int × (List Int))) × (List Int)) (h : sz_Automaton x ≤ 1048576) : F_laws_eqAutomaton (x, x) = some true := by
  have := show F_laws_eqAutomaton (x, x) = if sz_Automaton x ≤ 1048576 then some (decide (x = x)) else none from rfl
  rw [this, if_pos h, decide_eq_true rfl]
theorem tos_Automaton (x : Int × Int × (List Int) × (List (Int × Int × (List Int))) × (List Int)) (h : sz_Automaton x ≤ 1048576) : F_laws_toAutomaton x = some x := if_pos h
end Go.Am
