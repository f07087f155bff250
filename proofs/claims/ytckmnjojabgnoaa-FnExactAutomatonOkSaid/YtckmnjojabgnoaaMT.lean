/- MT: sizes, copies and comparisons of the laws' types. No condition. -/
import Derived.Test.YtckmnjojabgnoaaB1
set_option linter.unusedVariables false
set_option linter.unusedSimpArgs false
set_option synthInstance.maxSize 1000
set_option synthInstance.maxHeartbeats 400000
namespace Go.Am
def ag_laws_szIntS : Sig := [(.one, [.list [.int .i64]]), (.one, [.int .i64])]
def rs_laws_szIntS : Sig := [(.one, [.int .i64])]
def ag_laws_szMatrix : Sig := [(.agg, [.int .i64, .int .i64, .list [.int .i64]]), (.one, [.int .i64])]
def rs_laws_szMatrix : Sig := [(.one, [.int .i64])]
def ag_laws_szMatrixS : Sig := [(.one, [.list [.int .i64, .int .i64, .list [.int .i64]]]), (.one, [.int .i64])]
def rs_laws_szMatrixS : Sig := [(.one, [.int .i64])]
def ag_laws_szAutomaton : Sig := [(.agg, [.int .i64, .int .i64, .list [.int .i64], .list [.int .i64, .int .i64, .list [.int .i64]], .list [.int .i64]]), (.one, [.int .i64])]
def rs_laws_szAutomaton : Sig := [(.one, [.int .i64])]
def ag_laws_toIntS : Sig := [(.one, [.list [.int .i64]])]
def rs_laws_toIntS : Sig := [(.one, [.list [.int .i64]])]
def ag_laws_toMatrix : Sig := [(.agg, [.int .i64, .int .i64, .list [.int .i64]])]
def rs_laws_toMatrix : Sig := [(.agg, [.int .i64, .int .i64, .list [.int .i64]])]
def ag_laws_toMatrixS : Sig := [(.one, [.list [.int .i64, .int .i64, .list [.int .i64]]])]
def rs_laws_toMatrixS : Sig := [(.one, [.list [.int .i64, .int .i64, .list [.int .i64]]])]
def ag_laws_toAutomaton : Sig := [(.agg, [.int .i64, .int .i64, .list [.int .i64], .list [.int .i64, .int .i64, .list [.int .i64]], .list [.int .i64]])]
def rs_laws_toAutomaton : Sig := [(.agg, [.int .i64, .int .i64, .list [.int .i64], .list [.int .i64, .int .i64, .list [.int .i64]], .list [.int .i64]])]
def ag_laws_eqIntS : Sig := [(.one, [.list [.int .i64]]), (.one, [.list [.int .i64]])]
def rs_laws_eqIntS : Sig := [(.one, [.bool])]
def ag_laws_eqMatrix : Sig := [(.agg, [.int .i64, .int .i64, .list [.int .i64]]), (.agg, [.int .i64, .int .i64, .list [.int .i64]])]
def rs_laws_eqMatrix : Sig := [(.one, [.bool])]
def ag_laws_eqMatrixS : Sig := [(.one, [.list [.int .i64, .int .i64, .list [.int .i64]]]), (.one, [.list [.int .i64, .int .i64, .list [.int .i64]]])]
def rs_laws_eqMatrixS : Sig := [(.one, [.bool])]
def ag_laws_eqAutomaton : Sig := [(.agg, [.int .i64, .int .i64, .list [.int .i64], .list [.int .i64, .int .i64, .list [.int .i64]], .list [.int .i64]]), (.agg, [.int .i64, .int .i64, .list [.int .i64], .list [.int .i64, .int .i64, .list [.int .i64]], .list [.int .i64]])]
def rs_laws_eqAutomaton : Sig := [(.one, [.bool])]
def ag_laws_szSite : Sig := [(.agg, [.int .i64, .int .i64, .int .i64, .list [.int .i64]]), (.one, [.int .i64])]
def rs_laws_szSite : Sig := [(.one, [.int .i64])]
def ag_laws_szSiteS : Sig := [(.one, [.list [.int .i64, .int .i64, .int .i64, .list [.int .i64]]]), (.one, [.int .i64])]
def rs_laws_szSiteS : Sig := [(.one, [.int .i64])]
def ag_laws_szChain : Sig := [(.agg, [.int .i64, .list [.int .i64, .int .i64, .int .i64, .list [.int .i64]]]), (.one, [.int .i64])]
def rs_laws_szChain : Sig := [(.one, [.int .i64])]
def ag_laws_toSite : Sig := [(.agg, [.int .i64, .int .i64, .int .i64, .list [.int .i64]])]
def rs_laws_toSite : Sig := [(.agg, [.int .i64, .int .i64, .int .i64, .list [.int .i64]])]
def ag_laws_toSiteS : Sig := [(.one, [.list [.int .i64, .int .i64, .int .i64, .list [.int .i64]]])]
def rs_laws_toSiteS : Sig := [(.one, [.list [.int .i64, .int .i64, .int .i64, .list [.int .i64]]])]
def ag_laws_toChain : Sig := [(.agg, [.int .i64, .list [.int .i64, .int .i64, .int .i64, .list [.int .i64]]])]
def rs_laws_toChain : Sig := [(.agg, [.int .i64, .list [.int .i64, .int .i64, .int .i64, .list [.int .i64]]])]
def ag_laws_eqSite : Sig := [(.agg, [.int .i64, .int .i64, .int .i64, .list [.int .i64]]), (.agg, [.int .i64, .int .i64, .int .i64, .list [.int .i64]])]
def rs_laws_eqSite : Sig := [(.one, [.bool])]
def ag_laws_eqSiteS : Sig := [(.one, [.list [.int .i64, .int .i64, .int .i64, .list [.int .i64]]]), (.one, [.list [.int .i64, .int .i64, .int .i64, .list [.int .i64]]])]
def rs_laws_eqSiteS : Sig := [(.one, [.bool])]
def ag_laws_eqChain : Sig := [(.agg, [.int .i64, .list [.int .i64, .int .i64, .int .i64, .list [.int .i64]]]), (.agg, [.int .i64, .list [.int .i64, .int .i64, .int .i64, .list [.int .i64]]])]
def rs_laws_eqChain : Sig := [(.one, [.bool])]
def ag_laws_szTensor : Sig := [(.agg, [.list [.int .i64], .list [.int .i64], .list [.int .i64]]), (.one, [.int .i64])]
def rs_laws_szTensor : Sig := [(.one, [.int .i64])]
def ag_laws_szIntSS : Sig := [(.one, [.list [.list [.int .i64]]]), (.one, [.int .i64])]
def rs_laws_szIntSS : Sig := [(.one, [.int .i64])]
def ag_laws_szCharges : Sig := [(.agg, [.int .i64, .list [.list [.int .i64]]]), (.one, [.int .i64])]
def rs_laws_szCharges : Sig := [(.one, [.int .i64])]
def ag_laws_toTensor : Sig := [(.agg, [.list [.int .i64], .list [.int .i64], .list [.int .i64]])]
def rs_laws_toTensor : Sig := [(.agg, [.list [.int .i64], .list [.int .i64], .list [.int .i64]])]
def ag_laws_toIntSS : Sig := [(.one, [.list [.list [.int .i64]]])]
def rs_laws_toIntSS : Sig := [(.one, [.list [.list [.int .i64]]])]
def ag_laws_toCharges : Sig := [(.agg, [.int .i64, .list [.list [.int .i64]]])]
def rs_laws_toCharges : Sig := [(.agg, [.int .i64, .list [.list [.int .i64]]])]
def ag_laws_eqTensor : Sig := [(.agg, [.list [.int .i64], .list [.int .i64], .list [.int .i64]]), (.agg, [.list [.int .i64], .list [.int .i64], .list [.int .i64]])]
def rs_laws_eqTensor : Sig := [(.one, [.bool])]
def ag_laws_eqIntSS : Sig := [(.one, [.list [.list [.int .i64]]]), (.one, [.list [.list [.int .i64]]])]
def rs_laws_eqIntSS : Sig := [(.one, [.bool])]
def ag_laws_eqCharges : Sig := [(.agg, [.int .i64, .list [.list [.int .i64]]]), (.agg, [.int .i64, .list [.list [.int .i64]]])]
def rs_laws_eqCharges : Sig := [(.one, [.bool])]
def sz_IntS (l : List Int) : Nat := l.length
def wf_IntS (l : List Int) : Bool := decide (l.length ≤ 9223372036854775807)
def F_laws_szIntS : (List Int) × Int → Option Int := fun ((x, k) : (List Int) × Int) => if kOk k ∧ wf_IntS x = true then some (szR (sz_IntS x) k) else none
def F_laws_toIntS : (List Int) → Option (List Int) := fun (x : List Int) => if sz_IntS x ≤ 1048576 then some x else none
def F_laws_eqIntS : (List Int) × (List Int) → Option Bool := fun ((x, y) : (List Int) × (List Int)) => if sz_IntS x ≤ 1048576 then some (decide (x = y)) else none

def sz_IntSS (l : List (List Int)) : Nat := l.length + (l.map sz_IntS).sum
def wf_IntSS (l : List (List Int)) : Bool := decide (l.length ≤ 9223372036854775807) && l.all wf_IntS
def F_laws_szIntSS : (List (List Int)) × Int → Option Int := fun ((x, k) : (List (List Int)) × Int) => if kOk k ∧ wf_IntSS x = true then some (szR (sz_IntSS x) k) else none
def F_laws_toIntSS : (List (List Int)) → Option (List (List Int)) := fun (x : List (List Int)) => if sz_IntSS x ≤ 1048576 then some x else none
def F_laws_eqIntSS : (List (List Int)) × (List (List Int)) → Option Bool := fun ((x, y) : (List (List Int)) × (List (List Int))) => if sz_IntSS x ≤ 1048576 then some (decide (x = y)) else none

def sz_Matrix (x : Int × Int × (List Int)) : Nat := match x with | (a0, a1, a2) => sz_IntS a2
def wf_Matrix (x : Int × Int × (List Int)) : Bool := match x with | (a0, a1, a2) => wf_IntS a2
def F_laws_szMatrix : (Int × Int × (List Int)) × Int → Option Int := fun ((x, k) : (Int × Int × (List Int)) × Int) => if kOk k ∧ wf_Matrix x = true then some (szR (sz_Matrix x) k) else none
def F_laws_toMatrix : (Int × Int × (List Int)) → Option (Int × Int × (List Int)) := fun (x : Int × Int × (List Int)) => if sz_Matrix x ≤ 1048576 then some x else none
def F_laws_eqMatrix : (Int × Int × (List Int)) × (Int × Int × (List Int)) → Option Bool := fun ((x, y) : (Int × Int × (List Int)) × (Int × Int × (List Int))) => if sz_Matrix x ≤ 1048576 then some (decide (x = y)) else none

def sz_MatrixS (l : List (Int × Int × (List Int))) : Nat := l.length + (l.map sz_Matrix).sum
def wf_MatrixS (l : List (Int × Int × (List Int))) : Bool := decide (l.length ≤ 9223372036854775807) && l.all wf_Matrix
def F_laws_szMatrixS : (List (Int × Int × (List Int))) × Int → Option Int := fun ((x, k) : (List (Int × Int × (List Int))) × Int) => if kOk k ∧ wf_MatrixS x = true then some (szR (sz_MatrixS x) k) else none
def F_laws_toMatrixS : (List (Int × Int × (List Int))) → Option (List (Int × Int × (List Int))) := fun (x : List (Int × Int × (List Int))) => if sz_MatrixS x ≤ 1048576 then some x else none
def F_laws_eqMatrixS : (List (Int × Int × (List Int))) × (List (Int × Int × (List Int))) → Option Bool := fun ((x, y) : (List (Int × Int × (List Int))) × (List (Int × Int × (List Int)))) => if sz_MatrixS x ≤ 1048576 then some (decide (x = y)) else none

def sz_Automaton (x : Int × Int × (List Int) × (List (Int × Int × (List Int))) × (List Int)) : Nat := match x with | (a0, a1, a2, a3, a4) => sz_IntS a2 + sz_MatrixS a3 + sz_IntS a4
def wf_Automaton (x : Int × Int × (List Int) × (List (Int × Int × (List Int))) × (List Int)) : Bool := match x with | (a0, a1, a2, a3, a4) => wf_IntS a2 && wf_MatrixS a3 && wf_IntS a4
def F_laws_szAutomaton : (Int × Int × (List Int) × (List (Int × Int × (List Int))) × (List Int)) × Int → Option Int := fun ((x, k) : (Int × Int × (List Int) × (List (Int × Int × (List Int))) × (List Int)) × Int) => if kOk k ∧ wf_Automaton x = true then some (szR (sz_Automaton x) k) else none
def F_laws_toAutomaton : (Int × Int × (List Int) × (List (Int × Int × (List Int))) × (List Int)) → Option (Int × Int × (List Int) × (List (Int × Int × (List Int))) × (List Int)) := fun (x : Int × Int × (List Int) × (List (Int × Int × (List Int))) × (List Int)) => if sz_Automaton x ≤ 1048576 then some x else none
def F_laws_eqAutomaton : (Int × Int × (List Int) × (List (Int × Int × (List Int))) × (List Int)) × (Int × Int × (List Int) × (List (Int × Int × (List Int))) × (List Int)) → Option Bool := fun ((x, y) : (Int × Int × (List Int) × (List (Int × Int × (List Int))) × (List Int)) × (Int × Int × (List Int) × (List (Int × Int × (List Int))) × (List Int))) => if sz_Automaton x ≤ 1048576 then some (decide (x = y)) else none

def sz_Site (x : Int × Int × Int × (List Int)) : Nat := match x with | (a0, a1, a2, a3) => sz_IntS a3
def wf_Site (x : Int × Int × Int × (List Int)) : Bool := match x with | (a0, a1, a2, a3) => wf_IntS a3
def F_laws_szSite : (Int × Int × Int × (List Int)) × Int → Option Int := fun ((x, k) : (Int × Int × Int × (List Int)) × Int) => if kOk k ∧ wf_Site x = true then some (szR (sz_Site x) k) else none
def F_laws_toSite : (Int × Int × Int × (List Int)) → Option (Int × Int × Int × (List Int)) := fun (x : Int × Int × Int × (List Int)) => if sz_Site x ≤ 1048576 then some x else none
def F_laws_eqSite : (Int × Int × Int × (List Int)) × (Int × Int × Int × (List Int)) → Option Bool := fun ((x, y) : (Int × Int × Int × (List Int)) × (Int × Int × Int × (List Int))) => if sz_Site x ≤ 1048576 then some (decide (x = y)) else none

def sz_SiteS (l : List (Int × Int × Int × (List Int))) : Nat := l.length + (l.map sz_Site).sum
def wf_SiteS (l : List (Int × Int × Int × (List Int))) : Bool := decide (l.length ≤ 9223372036854775807) && l.all wf_Site
def F_laws_szSiteS : (List (Int × Int × Int × (List Int))) × Int → Option Int := fun ((x, k) : (List (Int × Int × Int × (List Int))) × Int) => if kOk k ∧ wf_SiteS x = true then some (szR (sz_SiteS x) k) else none
def F_laws_toSiteS : (List (Int × Int × Int × (List Int))) → Option (List (Int × Int × Int × (List Int))) := fun (x : List (Int × Int × Int × (List Int))) => if sz_SiteS x ≤ 1048576 then some x else none
def F_laws_eqSiteS : (List (Int × Int × Int × (List Int))) × (List (Int × Int × Int × (List Int))) → Option Bool := fun ((x, y) : (List (Int × Int × Int × (List Int))) × (List (Int × Int × Int × (List Int)))) => if sz_SiteS x ≤ 1048576 then some (decide (x = y)) else none

def sz_Chain (x : Int × (List (Int × Int × Int × (List Int)))) : Nat := match x with | (a0, a1) => sz_SiteS a1
def wf_Chain (x : Int × (List (Int × Int × Int × (List Int)))) : Bool := match x with | (a0, a1) => wf_SiteS a1
def F_laws_szChain : (Int × (List (Int × Int × Int × (List Int)))) × Int → Option Int := fun ((x, k) : (Int × (List (Int × Int × Int × (List Int)))) × Int) => if kOk k ∧ wf_Chain x = true then some (szR (sz_Chain x) k) else none
def F_laws_toChain : (Int × (List (Int × Int × Int × (List Int)))) → Option (Int × (List (Int × Int × Int × (List Int)))) := fun (x : Int × (List (Int × Int × Int × (List Int)))) => if sz_Chain x ≤ 1048576 then some x else none
def F_laws_eqChain : (Int × (List (Int × Int × Int × (List Int)))) × (Int × (List (Int × Int × Int × (List Int)))) → Option Bool := fun ((x, y) : (Int × (List (Int × Int × Int × (List Int)))) × (Int × (List (Int × Int × Int × (List Int))))) => if sz_Chain x ≤ 1048576 then some (decide (x = y)) else none

def sz_Tensor (x : (List Int) × (List Int) × (List Int)) : Nat := match x with | (a0, a1, a2) => sz_IntS a0 + sz_IntS a1 + sz_IntS a2
def wf_Tensor (x : (List Int) × (List Int) × (List Int)) : Bool := match x with | (a0, a1, a2) => wf_IntS a0 && wf_IntS a1 && wf_IntS a2
def F_laws_szTensor : ((List Int) × (List Int) × (List Int)) × Int → Option Int := fun ((x, k) : ((List Int) × (List Int) × (List Int)) × Int) => if kOk k ∧ wf_Tensor x = true then some (szR (sz_Tensor x) k) else none
def F_laws_toTensor : ((List Int) × (List Int) × (List Int)) → Option ((List Int) × (List Int) × (List Int)) := fun (x : (List Int) × (List Int) × (List Int)) => if sz_Tensor x ≤ 1048576 then some x else none
def F_laws_eqTensor : ((List Int) × (List Int) × (List Int)) × ((List Int) × (List Int) × (List Int)) → Option Bool := fun ((x, y) : ((List Int) × (List Int) × (List Int)) × ((List Int) × (List Int) × (List Int))) => if sz_Tensor x ≤ 1048576 then some (decide (x = y)) else none

def sz_Charges (x : Int × (List (List Int))) : Nat := match x with | (a0, a1) => sz_IntSS a1
def wf_Charges (x : Int × (List (List Int))) : Bool := match x with | (a0, a1) => wf_IntSS a1
def F_laws_szCharges : (Int × (List (List Int))) × Int → Option Int := fun ((x, k) : (Int × (List (List Int))) × Int) => if kOk k ∧ wf_Charges x = true then some (szR (sz_Charges x) k) else none
def F_laws_toCharges : (Int × (List (List Int))) → Option (Int × (List (List Int))) := fun (x : Int × (List (List Int))) => if sz_Charges x ≤ 1048576 then some x else none
def F_laws_eqCharges : (Int × (List (List Int))) × (Int × (List (List Int))) → Option Bool := fun ((x, y) : (Int × (List (List Int))) × (Int × (List (List Int)))) => if sz_Charges x ≤ 1048576 then some (decide (x = y)) else none

def G_laws_szIntS (NN : Nat) : ((List Int) × Int) → (Option Int) :=
  (fun ((l0, i1) : ((List Int) × Int)) =>
  cnd (ltI (subI .i64 i1 (natI (lenN l0))) (0 : Int))
    (some ((-1 : Int)))
    (some (subI .i64 i1 (natI (lenN l0)))))

def G_laws_szMatrix (NN : Nat) : ((Int × (Int × (List Int))) × Int) → (Option Int) :=
  (fun (((i0, i1, l2), i3) : ((Int × (Int × (List Int))) × Int)) =>
  (F_laws_szIntS (l2, i3)).bnd (fun (i4 : Int) =>
    cnd (ltI i4 (0 : Int))
      (some ((-1 : Int)))
      (some i4)))

def G_laws_szMatrixS (NN : Nat) : ((List (Int × (Int × (List Int)))) × Int) → (Option Int) :=
  (fun ((l0, i1) : ((List (Int × (Int × (List Int)))) × Int)) =>
  cnd (ltI (subI .i64 i1 (natI (lenN l0))) (0 : Int))
    (some ((-1 : Int)))
    (joinK (loopT NN (fun ((l2, i3, i4) : ((List (Int × (Int × (List Int)))) × (Int × Int))) =>
          cnd (ltI i4 (natI (lenN l2)))
            ((getI l2 i4).bnd (fun ((i5, i6, l7) : (Int × (Int × (List Int)))) =>
              (F_laws_szMatrix ((i5, i6, l7), i3)).bnd (fun (i8 : Int) =>
                cnd (ltI i8 (0 : Int))
                  (some (Sum.inr (Sum.inr ((-1 : Int)))))
                  (some (Sum.inl (l2, i8, addI .i64 i4 (1 : Int)))))))
            (some (Sum.inr (Sum.inl i3))))
        (l0, subI .i64 i1 (natI (lenN l0)), (0 : Int)))
      (fun (i9 : Int) =>
        some i9)))

def G_laws_szAutomaton (NN : Nat) : ((Int × (Int × ((List Int) × ((List (Int × (Int × (List Int)))) × (List Int))))) × Int) → (Option Int) :=
  (fun (((i0, i1, l2, l3, l4), i5) : ((Int × (Int × ((List Int) × ((List (Int × (Int × (List Int)))) × (List Int))))) × Int)) =>
  (F_laws_szIntS (l2, i5)).bnd (fun (i6 : Int) =>
    cnd (ltI i6 (0 : Int))
      (some ((-1 : Int)))
      ((F_laws_szMatrixS (l3, i6)).bnd (fun (i7 : Int) =>
        cnd (ltI i7 (0 : Int))
          (some ((-1 : Int)))
          ((F_laws_szIntS (l4, i7)).bnd (fun (i8 : Int) =>
            cnd (ltI i8 (0 : Int))
              (some ((-1 : Int)))
              (some i8)))))))

def G_laws_toIntS (NN : Nat) : (List Int) → (Option (List Int)) :=
  (fun (l0 : (List Int)) =>
  (mkI (natI (lenN l0)) (natI (lenN l0)) 8).bnd (fun (k1 : Nat) =>
    joinK ((fulI 0 k1 (lenN (repL k1 (0 : Int)))).bnd (fun (_ : Unit) =>
        loopT NN (fun (((l2, i3), l4) : (((List Int) × Int) × (List Int))) =>
            cnd (ltI i3 (natI (lenN l2)))
              ((getI l2 i3).bnd (fun (i5 : Int) =>
                (chkI i3 (lenN l4)).bnd (fun (k6 : Nat) =>
                  (getN l4 (addN 0 k6)).bnd (fun (i7 : Int) =>
                    (fulI 0 (lenN l4) (lenN (setL l4 (addN 0 k6) i5))).bnd (fun (_ : Unit) =>
                      some (Sum.inl ((l2, addI .i64 i3 (1 : Int)), setL l4 (addN 0 k6) i5)))))))
              (((fulI 0 (lenN l4) (lenN l4)).bnd (fun (_ : Unit) =>
                some (Sum.inl l4))).bnd (fun (l8 : ((List Int) ⊕ (List Int))) =>
                some (Sum.inr l8))))
          ((l0, (0 : Int)), repL k1 (0 : Int))))
      (fun (l9 : (List Int)) =>
        (takI l9 (lenN l9)).bnd (fun (l10 : (List Int)) =>
          some l10))))

def G_laws_toMatrix (NN : Nat) : (Int × (Int × (List Int))) → (Option (Int × (Int × (List Int)))) :=
  (fun ((i0, i1, l2) : (Int × (Int × (List Int)))) =>
  (F_laws_toIntS l2).bnd (fun (l3 : (List Int)) =>
    (takI l3 (lenN l3)).bnd (fun (l4 : (List Int)) =>
      some (i0, i1, l4))))

def G_laws_toMatrixS (NN : Nat) : (List (Int × (Int × (List Int)))) → (Option (List (Int × (Int × (List Int))))) :=
  (fun (l0 : (List (Int × (Int × (List Int))))) =>
  (mkI (natI (lenN l0)) (natI (lenN l0)) 40).bnd (fun (k1 : Nat) =>
    joinK ((fulI 0 k1 (lenN (repL k1 ((0 : Int), (0 : Int), ([] : List Int))))).bnd (fun (_ : Unit) =>
        loopT NN (fun (((l2, i3), l4) : (((List (Int × (Int × (List Int)))) × Int) × (List (Int × (Int × (List Int)))))) =>
            cnd (ltI i3 (natI (lenN l2)))
              ((getI l2 i3).bnd (fun ((i5, i6, l7) : (Int × (Int × (List Int)))) =>
                (F_laws_toMatrix (i5, i6, l7)).bnd (fun ((i8, i9, l10) : (Int × (Int × (List Int)))) =>
                  (chkI i3 (lenN l4)).bnd (fun (k11 : Nat) =>
                    (getN l4 (addN 0 k11)).bnd (fun ((i12, i13, l14) : (Int × (Int × (List Int)))) =>
                      (takI l10 (lenN l10)).bnd (fun (l15 : (List Int)) =>
                        (fulI 0 (lenN l4) (lenN (setL l4 (addN 0 k11) (i8, i9, l15)))).bnd (fun (_ : Unit) =>
                          some (Sum.inl ((l2, addI .i64 i3 (1 : Int)), setL l4 (addN 0 k11) (i8, i9, l15))))))))))
              (((fulI 0 (lenN l4) (lenN l4)).bnd (fun (_ : Unit) =>
                some (Sum.inl l4))).bnd (fun (l16 : ((List (Int × (Int × (List Int)))) ⊕ (List (Int × (Int × (List Int)))))) =>
                some (Sum.inr l16))))
          ((l0, (0 : Int)), repL k1 ((0 : Int), (0 : Int), ([] : List Int)))))
      (fun (l17 : (List (Int × (Int × (List Int))))) =>
        (takI l17 (lenN l17)).bnd (fun (l18 : (List (Int × (Int × (List Int))))) =>
          some l18))))

def G_laws_toAutomaton (NN : Nat) : (Int × (Int × ((List Int) × ((List (Int × (Int × (List Int)))) × (List Int))))) → (Option (Int × (Int × ((List Int) × ((List (Int × (Int × (List Int)))) × (List Int)))))) :=
  (fun ((i0, i1, l2, l3, l4) : (Int × (Int × ((List Int) × ((List (Int × (Int × (List Int)))) × (List Int)))))) =>
  (F_laws_toIntS l2).bnd (fun (l5 : (List Int)) =>
    (F_laws_toMatrixS l3).bnd (fun (l6 : (List (Int × (Int × (List Int))))) =>
      (F_laws_toIntS l4).bnd (fun (l7 : (List Int)) =>
        (takI l5 (lenN l5)).bnd (fun (l8 : (List Int)) =>
          (takI l6 (lenN l6)).bnd (fun (l9 : (List (Int × (Int × (List Int))))) =>
            (takI l7 (lenN l7)).bnd (fun (l10 : (List Int)) =>
              some (i0, i1, l8, l9, l10))))))))

def G_laws_eqIntS (NN : Nat) : ((List Int) × (List Int)) → (Option Bool) :=
  (fun ((l0, l1) : ((List Int) × (List Int))) =>
  cnd (neI (natI (lenN l0)) (natI (lenN l1)))
    (some false)
    (joinK (loopT NN (fun ((l2, l3, i4) : ((List Int) × ((List Int) × Int))) =>
          cnd (ltI i4 (natI (lenN l2)))
            ((getI l2 i4).bnd (fun (i5 : Int) =>
              (getI l3 i4).bnd (fun (i6 : Int) =>
                cnd (neI i5 i6)
                  (some (Sum.inr (Sum.inr false)))
                  (some (Sum.inl (l2, l3, addI .i64 i4 (1 : Int)))))))
            (some (Sum.inr (Sum.inl ()))))
        (l0, l1, (0 : Int)))
      (fun (_ : Unit) =>
        some true)))

def G_laws_eqMatrix (NN : Nat) : ((Int × (Int × (List Int))) × (Int × (Int × (List Int)))) → (Option Bool) :=
  (fun (((i0, i1, l2), i3, i4, l5) : ((Int × (Int × (List Int))) × (Int × (Int × (List Int))))) =>
  cnd (neI i0 i3)
    (some false)
    (cnd (neI i1 i4)
      (some false)
      ((F_laws_eqIntS (l2, l5)).bnd (fun (b6 : Bool) =>
        cnd (notB b6)
          (some false)
          (some true)))))

def G_laws_eqMatrixS (NN : Nat) : ((List (Int × (Int × (List Int)))) × (List (Int × (Int × (List Int))))) → (Option Bool) :=
  (fun ((l0, l1) : ((List (Int × (Int × (List Int)))) × (List (Int × (Int × (List Int)))))) =>
  cnd (neI (natI (lenN l0)) (natI (lenN l1)))
    (some false)
    (joinK (loopT NN (fun ((l2, l3, i4) : ((List (Int × (Int × (List Int)))) × ((List (Int × (Int × (List Int)))) × Int))) =>
          cnd (ltI i4 (natI (lenN l2)))
            ((getI l2 i4).bnd (fun ((i5, i6, l7) : (Int × (Int × (List Int)))) =>
              (getI l3 i4).bnd (fun ((i8, i9, l10) : (Int × (Int × (List Int)))) =>
                (F_laws_eqMatrix ((i5, i6, l7), i8, i9, l10)).bnd (fun (b11 : Bool) =>
                  cnd (notB b11)
                    (some (Sum.inr (Sum.inr false)))
                    (some (Sum.inl (l2, l3, addI .i64 i4 (1 : Int))))))))
            (some (Sum.inr (Sum.inl ()))))
        (l0, l1, (0 : Int)))
      (fun (_ : Unit) =>
        some true)))

def G_laws_eqAutomaton (NN : Nat) : ((Int × (Int × ((List Int) × ((List (Int × (Int × (List Int)))) × (List Int))))) × (Int × (Int × ((List Int) × ((List (Int × (Int × (List Int)))) × (List Int)))))) → (Option Bool) :=
  (fun (((i0, i1, l2, l3, l4), i5, i6, l7, l8, l9) : ((Int × (Int × ((List Int) × ((List (Int × (Int × (List Int)))) × (List Int))))) × (Int × (Int × ((List Int) × ((List (Int × (Int × (List Int)))) × (List Int))))))) =>
  cnd (neI i0 i5)
    (some false)
    (cnd (neI i1 i6)
      (some false)
      ((F_laws_eqIntS (l2, l7)).bnd (fun (b10 : Bool) =>
        cnd (notB b10)
          (some false)
          ((F_laws_eqMatrixS (l3, l8)).bnd (fun (b11 : Bool) =>
            cnd (notB b11)
              (some false)
              ((F_laws_eqIntS (l4, l9)).bnd (fun (b12 : Bool) =>
                cnd (notB b12)
                  (some false)
                  (some true)))))))))

def G_laws_szSite (NN : Nat) : ((Int × (Int × (Int × (List Int)))) × Int) → (Option Int) :=
  (fun (((i0, i1, i2, l3), i4) : ((Int × (Int × (Int × (List Int)))) × Int)) =>
  (F_laws_szIntS (l3, i4)).bnd (fun (i5 : Int) =>
    cnd (ltI i5 (0 : Int))
      (some ((-1 : Int)))
      (some i5)))

def G_laws_szSiteS (NN : Nat) : ((List (Int × (Int × (Int × (List Int))))) × Int) → (Option Int) :=
  (fun ((l0, i1) : ((List (Int × (Int × (Int × (List Int))))) × Int)) =>
  cnd (ltI (subI .i64 i1 (natI (lenN l0))) (0 : Int))
    (some ((-1 : Int)))
    (joinK (loopT NN (fun ((l2, i3, i4) : ((List (Int × (Int × (Int × (List Int))))) × (Int × Int))) =>
          cnd (ltI i4 (natI (lenN l2)))
            ((getI l2 i4).bnd (fun ((i5, i6, i7, l8) : (Int × (Int × (Int × (List Int))))) =>
              (F_laws_szSite ((i5, i6, i7, l8), i3)).bnd (fun (i9 : Int) =>
                cnd (ltI i9 (0 : Int))
                  (some (Sum.inr (Sum.inr ((-1 : Int)))))
                  (some (Sum.inl (l2, i9, addI .i64 i4 (1 : Int)))))))
            (some (Sum.inr (Sum.inl i3))))
        (l0, subI .i64 i1 (natI (lenN l0)), (0 : Int)))
      (fun (i10 : Int) =>
        some i10)))

def G_laws_szChain (NN : Nat) : ((Int × (List (Int × (Int × (Int × (List Int)))))) × Int) → (Option Int) :=
  (fun (((i0, l1), i2) : ((Int × (List (Int × (Int × (Int × (List Int)))))) × Int)) =>
  (F_laws_szSiteS (l1, i2)).bnd (fun (i3 : Int) =>
    cnd (ltI i3 (0 : Int))
      (some ((-1 : Int)))
      (some i3)))

def G_laws_toSite (NN : Nat) : (Int × (Int × (Int × (List Int)))) → (Option (Int × (Int × (Int × (List Int))))) :=
  (fun ((i0, i1, i2, l3) : (Int × (Int × (Int × (List Int))))) =>
  (F_laws_toIntS l3).bnd (fun (l4 : (List Int)) =>
    (takI l4 (lenN l4)).bnd (fun (l5 : (List Int)) =>
      some (i0, i1, i2, l5))))

def G_laws_toSiteS (NN : Nat) : (List (Int × (Int × (Int × (List Int))))) → (Option (List (Int × (Int × (Int × (List Int)))))) :=
  (fun (l0 : (List (Int × (Int × (Int × (List Int)))))) =>
  (mkI (natI (lenN l0)) (natI (lenN l0)) 48).bnd (fun (k1 : Nat) =>
    joinK ((fulI 0 k1 (lenN (repL k1 ((0 : Int), (0 : Int), (0 : Int), ([] : List Int))))).bnd (fun (_ : Unit) =>
        loopT NN (fun (((l2, i3), l4) : (((List (Int × (Int × (Int × (List Int))))) × Int) × (List (Int × (Int × (Int × (List Int))))))) =>
            cnd (ltI i3 (natI (lenN l2)))
              ((getI l2 i3).bnd (fun ((i5, i6, i7, l8) : (Int × (Int × (Int × (List Int))))) =>
                (F_laws_toSite (i5, i6, i7, l8)).bnd (fun ((i9, i10, i11, l12) : (Int × (Int × (Int × (List Int))))) =>
                  (chkI i3 (lenN l4)).bnd (fun (k13 : Nat) =>
                    (getN l4 (addN 0 k13)).bnd (fun ((i14, i15, i16, l17) : (Int × (Int × (Int × (List Int))))) =>
                      (takI l12 (lenN l12)).bnd (fun (l18 : (List Int)) =>
                        (fulI 0 (lenN l4) (lenN (setL l4 (addN 0 k13) (i9, i10, i11, l18)))).bnd (fun (_ : Unit) =>
                          some (Sum.inl ((l2, addI .i64 i3 (1 : Int)), setL l4 (addN 0 k13) (i9, i10, i11, l18))))))))))
              (((fulI 0 (lenN l4) (lenN l4)).bnd (fun (_ : Unit) =>
                some (Sum.inl l4))).bnd (fun (l19 : ((List (Int × (Int × (Int × (List Int))))) ⊕ (List (Int × (Int × (Int × (List Int))))))) =>
                some (Sum.inr l19))))
          ((l0, (0 : Int)), repL k1 ((0 : Int), (0 : Int), (0 : Int), ([] : List Int)))))
      (fun (l20 : (List (Int × (Int × (Int × (List Int)))))) =>
        (takI l20 (lenN l20)).bnd (fun (l21 : (List (Int × (Int × (Int × (List Int)))))) =>
          some l21))))

def G_laws_toChain (NN : Nat) : (Int × (List (Int × (Int × (Int × (List Int)))))) → (Option (Int × (List (Int × (Int × (Int × (List Int))))))) :=
  (fun ((i0, l1) : (Int × (List (Int × (Int × (Int × (List Int))))))) =>
  (F_laws_toSiteS l1).bnd (fun (l2 : (List (Int × (Int × (Int × (List Int)))))) =>
    (takI l2 (lenN l2)).bnd (fun (l3 : (List (Int × (Int × (Int × (List Int)))))) =>
      some (i0, l3))))

def G_laws_eqSite (NN : Nat) : ((Int × (Int × (Int × (List Int)))) × (Int × (Int × (Int × (List Int))))) → (Option Bool) :=
  (fun (((i0, i1, i2, l3), i4, i5, i6, l7) : ((Int × (Int × (Int × (List Int)))) × (Int × (Int × (Int × (List Int)))))) =>
  cnd (neI i0 i4)
    (some false)
    (cnd (neI i1 i5)
      (some false)
      (cnd (neI i2 i6)
        (some false)
        ((F_laws_eqIntS (l3, l7)).bnd (fun (b8 : Bool) =>
          cnd (notB b8)
            (some false)
            (some true))))))

def G_laws_eqSiteS (NN : Nat) : ((List (Int × (Int × (Int × (List Int))))) × (List (Int × (Int × (Int × (List Int)))))) → (Option Bool) :=
  (fun ((l0, l1) : ((List (Int × (Int × (Int × (List Int))))) × (List (Int × (Int × (Int × (List Int))))))) =>
  cnd (neI (natI (lenN l0)) (natI (lenN l1)))
    (some false)
    (joinK (loopT NN (fun ((l2, l3, i4) : ((List (Int × (Int × (Int × (List Int))))) × ((List (Int × (Int × (Int × (List Int))))) × Int))) =>
          cnd (ltI i4 (natI (lenN l2)))
            ((getI l2 i4).bnd (fun ((i5, i6, i7, l8) : (Int × (Int × (Int × (List Int))))) =>
              (getI l3 i4).bnd (fun ((i9, i10, i11, l12) : (Int × (Int × (Int × (List Int))))) =>
                (F_laws_eqSite ((i5, i6, i7, l8), i9, i10, i11, l12)).bnd (fun (b13 : Bool) =>
                  cnd (notB b13)
                    (some (Sum.inr (Sum.inr false)))
                    (some (Sum.inl (l2, l3, addI .i64 i4 (1 : Int))))))))
            (some (Sum.inr (Sum.inl ()))))
        (l0, l1, (0 : Int)))
      (fun (_ : Unit) =>
        some true)))

def G_laws_eqChain (NN : Nat) : ((Int × (List (Int × (Int × (Int × (List Int)))))) × (Int × (List (Int × (Int × (Int × (List Int))))))) → (Option Bool) :=
  (fun (((i0, l1), i2, l3) : ((Int × (List (Int × (Int × (Int × (List Int)))))) × (Int × (List (Int × (Int × (Int × (List Int)))))))) =>
  cnd (neI i0 i2)
    (some false)
    ((F_laws_eqSiteS (l1, l3)).bnd (fun (b4 : Bool) =>
      cnd (notB b4)
        (some false)
        (some true))))

def G_laws_szTensor (NN : Nat) : (((List Int) × ((List Int) × (List Int))) × Int) → (Option Int) :=
  (fun (((l0, l1, l2), i3) : (((List Int) × ((List Int) × (List Int))) × Int)) =>
  (F_laws_szIntS (l0, i3)).bnd (fun (i4 : Int) =>
    cnd (ltI i4 (0 : Int))
      (some ((-1 : Int)))
      ((F_laws_szIntS (l1, i4)).bnd (fun (i5 : Int) =>
        cnd (ltI i5 (0 : Int))
          (some ((-1 : Int)))
          ((F_laws_szIntS (l2, i5)).bnd (fun (i6 : Int) =>
            cnd (ltI i6 (0 : Int))
              (some ((-1 : Int)))
              (some i6)))))))

def G_laws_szIntSS (NN : Nat) : ((List (List Int)) × Int) → (Option Int) :=
  (fun ((l0, i1) : ((List (List Int)) × Int)) =>
  cnd (ltI (subI .i64 i1 (natI (lenN l0))) (0 : Int))
    (some ((-1 : Int)))
    (joinK (loopT NN (fun ((l2, i3, i4) : ((List (List Int)) × (Int × Int))) =>
          cnd (ltI i4 (natI (lenN l2)))
            ((getI l2 i4).bnd (fun (l5 : (List Int)) =>
              (F_laws_szIntS (l5, i3)).bnd (fun (i6 : Int) =>
                cnd (ltI i6 (0 : Int))
                  (some (Sum.inr (Sum.inr ((-1 : Int)))))
                  (some (Sum.inl (l2, i6, addI .i64 i4 (1 : Int)))))))
            (some (Sum.inr (Sum.inl i3))))
        (l0, subI .i64 i1 (natI (lenN l0)), (0 : Int)))
      (fun (i7 : Int) =>
        some i7)))

def G_laws_szCharges (NN : Nat) : ((Int × (List (List Int))) × Int) → (Option Int) :=
  (fun (((i0, l1), i2) : ((Int × (List (List Int))) × Int)) =>
  (F_laws_szIntSS (l1, i2)).bnd (fun (i3 : Int) =>
    cnd (ltI i3 (0 : Int))
      (some ((-1 : Int)))
      (some i3)))

def G_laws_toTensor (NN : Nat) : ((List Int) × ((List Int) × (List Int))) → (Option ((List Int) × ((List Int) × (List Int)))) :=
  (fun ((l0, l1, l2) : ((List Int) × ((List Int) × (List Int)))) =>
  (F_laws_toIntS l0).bnd (fun (l3 : (List Int)) =>
    (F_laws_toIntS l1).bnd (fun (l4 : (List Int)) =>
      (F_laws_toIntS l2).bnd (fun (l5 : (List Int)) =>
        (takI l3 (lenN l3)).bnd (fun (l6 : (List Int)) =>
          (takI l4 (lenN l4)).bnd (fun (l7 : (List Int)) =>
            (takI l5 (lenN l5)).bnd (fun (l8 : (List Int)) =>
              some (l6, l7, l8))))))))

def G_laws_toIntSS (NN : Nat) : (List (List Int)) → (Option (List (List Int))) :=
  (fun (l0 : (List (List Int))) =>
  (mkI (natI (lenN l0)) (natI (lenN l0)) 24).bnd (fun (k1 : Nat) =>
    joinK ((fulI 0 k1 (lenN (repL k1 (([] : List Int))))).bnd (fun (_ : Unit) =>
        loopT NN (fun (((l2, i3), l4) : (((List (List Int)) × Int) × (List (List Int)))) =>
            cnd (ltI i3 (natI (lenN l2)))
              ((getI l2 i3).bnd (fun (l5 : (List Int)) =>
                (F_laws_toIntS l5).bnd (fun (l6 : (List Int)) =>
                  (chkI i3 (lenN l4)).bnd (fun (k7 : Nat) =>
                    (getN l4 (addN 0 k7)).bnd (fun (l8 : (List Int)) =>
                      (takI l6 (lenN l6)).bnd (fun (l9 : (List Int)) =>
                        (fulI 0 (lenN l4) (lenN (setL l4 (addN 0 k7) l9))).bnd (fun (_ : Unit) =>
                          some (Sum.inl ((l2, addI .i64 i3 (1 : Int)), setL l4 (addN 0 k7) l9)))))))))
              (((fulI 0 (lenN l4) (lenN l4)).bnd (fun (_ : Unit) =>
                some (Sum.inl l4))).bnd (fun (l10 : ((List (List Int)) ⊕ (List (List Int)))) =>
                some (Sum.inr l10))))
          ((l0, (0 : Int)), repL k1 (([] : List Int)))))
      (fun (l11 : (List (List Int))) =>
        (takI l11 (lenN l11)).bnd (fun (l12 : (List (List Int))) =>
          some l12))))

def G_laws_toCharges (NN : Nat) : (Int × (List (List Int))) → (Option (Int × (List (List Int)))) :=
  (fun ((i0, l1) : (Int × (List (List Int)))) =>
  (F_laws_toIntSS l1).bnd (fun (l2 : (List (List Int))) =>
    (takI l2 (lenN l2)).bnd (fun (l3 : (List (List Int))) =>
      some (i0, l3))))

def G_laws_eqTensor (NN : Nat) : (((List Int) × ((List Int) × (List Int))) × ((List Int) × ((List Int) × (List Int)))) → (Option Bool) :=
  (fun (((l0, l1, l2), l3, l4, l5) : (((List Int) × ((List Int) × (List Int))) × ((List Int) × ((List Int) × (List Int))))) =>
  (F_laws_eqIntS (l0, l3)).bnd (fun (b6 : Bool) =>
    cnd (notB b6)
      (some false)
      ((F_laws_eqIntS (l1, l4)).bnd (fun (b7 : Bool) =>
        cnd (notB b7)
          (some false)
          ((F_laws_eqIntS (l2, l5)).bnd (fun (b8 : Bool) =>
            cnd (notB b8)
              (some false)
              (some true)))))))

def G_laws_eqIntSS (NN : Nat) : ((List (List Int)) × (List (List Int))) → (Option Bool) :=
  (fun ((l0, l1) : ((List (List Int)) × (List (List Int)))) =>
  cnd (neI (natI (lenN l0)) (natI (lenN l1)))
    (some false)
    (joinK (loopT NN (fun ((l2, l3, i4) : ((List (List Int)) × ((List (List Int)) × Int))) =>
          cnd (ltI i4 (natI (lenN l2)))
            ((getI l2 i4).bnd (fun (l5 : (List Int)) =>
              (getI l3 i4).bnd (fun (l6 : (List Int)) =>
                (F_laws_eqIntS (l5, l6)).bnd (fun (b7 : Bool) =>
                  cnd (notB b7)
                    (some (Sum.inr (Sum.inr false)))
                    (some (Sum.inl (l2, l3, addI .i64 i4 (1 : Int))))))))
            (some (Sum.inr (Sum.inl ()))))
        (l0, l1, (0 : Int)))
      (fun (_ : Unit) =>
        some true)))

def G_laws_eqCharges (NN : Nat) : ((Int × (List (List Int))) × (Int × (List (List Int)))) → (Option Bool) :=
  (fun (((i0, l1), i2, l3) : ((Int × (List (List Int))) × (Int × (List (List Int))))) =>
  cnd (neI i0 i2)
    (some false)
    ((F_laws_eqIntSS (l1, l3)).bnd (fun (b4 : Bool) =>
      cnd (notB b4)
        (some false)
        (some true))))

theorem f_laws_szIntS (x : (List Int) × Int) (y : Int) (h : F_laws_szIntS x = some y) : G_laws_szIntS FUEL x = some y := by
  obtain ⟨l, k⟩ := x
  simp only [F_laws_szIntS] at h
  split at h
  · rename_i hc
    obtain ⟨⟨k0, k1⟩, hw⟩ := hc
    have hw := of_decide_eq_true hw
    rw [← h]
    have hn := nl l
    simp only [G_laws_szIntS]
    rw [subI_eq (by omega) (by omega)]
    show _ = some (szR l.length k)
    by_cases hs : (l.length : Int) ≤ k
    · rw [szR_t hs, cnd_f (ltI_f (by omega))]; rfl
    · rw [szR_f hs, cnd_t (ltI_t (by omega))]
  · cases h

theorem f_laws_toIntS (x y : List Int) (h : F_laws_toIntS x = some y) : G_laws_toIntS FUEL x = some y := by
  simp only [F_laws_toIntS] at h
  split at h
  · rename_i hl
    injection h with h
    subst h
    have hl : x.length ≤ 1048576 := hl
    simp only [G_laws_toIntS, mkI_nat (n := lenN x) (by_ := 8) (by simp only [lenN, maxBytes]; omega), bnd_s, lenN_repL, fulI_id]
    rw [fill_loop x 0 (r := Sum.inl x) ?_ ?_ (by omega)]
    · simp only [joinK_l, takI_id, bnd_s]
    · intro i e ys he hy hi
      simp only
      rw [cnd_t (ltI_in he), getI_nat, he, bnd_s]
      simp only [chkI_len hi, bnd_s, addN_0, getN, hi, lenN_setL, fulI_id, next_i he (by omega)]
      rfl
    · simp only
      rw [cnd_f (ltI_end x)]
  · cases h

theorem f_laws_eqIntS (x : (List Int) × (List Int)) (y : Bool) (h : F_laws_eqIntS x = some y) : G_laws_eqIntS FUEL x = some y := by
  obtain ⟨a, b⟩ := x
  simp only [F_laws_eqIntS] at h
  split at h
  · rename_i hl
    rw [← h]
    have hl : a.length ≤ 1048576 := hl
    exact eq_loopI a b (by omega)
  · cases h

theorem f_laws_szIntSS (x : (List (List Int)) × Int) (y : Int) (h : F_laws_szIntSS x = some y) : G_laws_szIntSS FUEL x = some y := by
  obtain ⟨l, k⟩ := x
  simp only [F_laws_szIntSS] at h
  split at h
  · rename_i hc
    obtain ⟨hk, hw⟩ := hc
    unfold wf_IntSS at hw
    rw [Bool.and_eq_true, decide_eq_true_eq, List.all_eq_true] at hw
    rw [← h]
    exact sz_loop F_laws_szIntS sz_IntS l hw.1 (fun e he k hk => if_pos ⟨hk, hw.2 e he⟩) k hk
  · cases h

theorem sz_IntSS_mem {l : List (List Int)} (h : sz_IntSS l ≤ 1048576) : l.length ≤ 1048576 ∧ ∀ e ∈ l, sz_IntS e ≤ 1048576 := by
  unfold sz_IntSS at h
  refine ⟨by omega, fun e he => ?_⟩
  have := le_sum_mem (List.mem_map_of_mem (f := sz_IntS) he)
  omega

theorem f_laws_toIntSS (x y : List (List Int)) (h : F_laws_toIntSS x = some y) : G_laws_toIntSS FUEL x = some y := by
  simp only [F_laws_toIntSS] at h
  split at h
  · rename_i hl
    injection h with h
    subst h
    obtain ⟨hl, hm⟩ := sz_IntSS_mem hl
    simp only [G_laws_toIntSS, mkI_nat (n := lenN x) (by_ := 24) (by simp only [lenN, maxBytes]; omega), bnd_s, lenN_repL, fulI_id]
    rw [fill_loop x [] (r := Sum.inl x) ?_ ?_ (by omega)]
    · simp only [joinK_l, takI_id, bnd_s]
    · rintro i e0 ys he hy hi
      simp only
      rw [cnd_t (ltI_in he), getI_nat, he, bnd_s]
      simp only [F_laws_toIntS, if_pos (hm _ (List.mem_of_getElem? he)), chkI_len hi, bnd_s, addN_0, getN, hi, takI_id, lenN_setL, fulI_id, next_i he (by omega)]
      rfl
    · simp only
      rw [cnd_f (ltI_end x)]
  · cases h

theorem f_laws_eqIntSS (x : (List (List Int)) × (List (List Int))) (y : Bool) (h : F_laws_eqIntSS x = some y) : G_laws_eqIntSS FUEL x = some y := by
  obtain ⟨a, b⟩ := x
  simp only [F_laws_eqIntSS] at h
  split at h
  · rename_i hl
    rw [← h]
    obtain ⟨hl, hm⟩ := sz_IntSS_mem hl
    exact eq_loop F_laws_eqIntS a b (fun e he b => if_pos (hm e he)) (by omega)
  · cases h

theorem f_laws_szMatrix (x : (Int × Int × (List Int)) × Int) (y : Int) (h : F_laws_szMatrix x = some y) : G_laws_szMatrix FUEL x = some y := by
  obtain ⟨⟨a0, a1, a2⟩, k⟩ := x
  simp only [F_laws_szMatrix] at h
  split at h
  · rename_i hc
    obtain ⟨⟨k0, k1⟩, hw⟩ := hc
    simp only [wf_Matrix] at hw
    rw [← h]
    simp only [G_laws_szMatrix]
    rw [szK (o := F_laws_szIntS (a2, k)) (s := sz_IntS a2) (if_pos ⟨by constructor <;> omega, hw⟩)]
    by_cases c0 : ((sz_IntS a2 : Nat) : Int) ≤ k
    · rw [if_pos c0]
      show _ = some (szR (sz_IntS a2) k)
      rw [szR_t (by omega)]
    · rw [if_neg c0]
      show _ = some (szR (sz_IntS a2) k)
      rw [szR_f (by omega)]
  · cases h

theorem f_laws_toMatrix (x y : Int × Int × (List Int)) (h : F_laws_toMatrix x = some y) : G_laws_toMatrix FUEL x = some y := by
  obtain ⟨a0, a1, a2⟩ := x
  simp only [F_laws_toMatrix] at h
  split at h
  · rename_i hl
    rw [← h]
    simp only [sz_Matrix] at hl
    simp only [G_laws_toMatrix, F_laws_toIntS, if_pos (show sz_IntS a2 ≤ 1048576 by omega), bnd_s, takI_id]
  · cases h

theorem f_laws_eqMatrix (x : (Int × Int × (List Int)) × (Int × Int × (List Int))) (y : Bool) (h : F_laws_eqMatrix x = some y) : G_laws_eqMatrix FUEL x = some y := by
  obtain ⟨⟨a0, a1, a2⟩, b0, b1, b2⟩ := x
  simp only [F_laws_eqMatrix] at h
  split at h
  · rename_i hl
    rw [← h]
    simp only [sz_Matrix] at hl
    simp only [G_laws_eqMatrix, F_laws_eqIntS, if_pos (show sz_IntS a2 ≤ 1048576 by omega), bnd_s]
    by_cases e0 : a0 = b0 <;> by_cases e1 : a1 = b1 <;> by_cases e2 : a2 = b2 <;> simp [neI_d, notB, cnd, *]
  · cases h

theorem f_laws_szMatrixS (x : (List (Int × Int × (List Int))) × Int) (y : Int) (h : F_laws_szMatrixS x = some y) : G_laws_szMatrixS FUEL x = some y := by
  obtain ⟨l, k⟩ := x
  simp only [F_laws_szMatrixS] at h
  split at h
  · rename_i hc
    obtain ⟨hk, hw⟩ := hc
    unfold wf_MatrixS at hw
    rw [Bool.and_eq_true, decide_eq_true_eq, List.all_eq_true] at hw
    rw [← h]
    exact sz_loop F_laws_szMatrix sz_Matrix l hw.1 (fun e he k hk => if_pos ⟨hk, hw.2 e he⟩) k hk
  · cases h

theorem sz_MatrixS_mem {l : List (Int × Int × (List Int))} (h : sz_MatrixS l ≤ 1048576) : l.length ≤ 1048576 ∧ ∀ e ∈ l, sz_Matrix e ≤ 1048576 := by
  unfold sz_MatrixS at h
  refine ⟨by omega, fun e he => ?_⟩
  have := le_sum_mem (List.mem_map_of_mem (f := sz_Matrix) he)
  omega

theorem f_laws_toMatrixS (x y : List (Int × Int × (List Int))) (h : F_laws_toMatrixS x = some y) : G_laws_toMatrixS FUEL x = some y := by
  simp only [F_laws_toMatrixS] at h
  split at h
  · rename_i hl
    injection h with h
    subst h
    obtain ⟨hl, hm⟩ := sz_MatrixS_mem hl
    simp only [G_laws_toMatrixS, mkI_nat (n := lenN x) (by_ := 40) (by simp only [lenN, maxBytes]; omega), bnd_s, lenN_repL, fulI_id]
    rw [fill_loop x (0, 0, []) (r := Sum.inl x) ?_ ?_ (by omega)]
    · simp only [joinK_l, takI_id, bnd_s]
    · rintro i ⟨a0, a1, a2⟩ ys he hy hi
      simp only
      rw [cnd_t (ltI_in he), getI_nat, he, bnd_s]
      simp only [F_laws_toMatrix, if_pos (hm _ (List.mem_of_getElem? he)), chkI_len hi, bnd_s, addN_0, getN, hi, takI_id, lenN_setL, fulI_id, next_i he (by omega)]
      rfl
    · simp only
      rw [cnd_f (ltI_end x)]
  · cases h

theorem f_laws_eqMatrixS (x : (List (Int × Int × (List Int))) × (List (Int × Int × (List Int)))) (y : Bool) (h : F_laws_eqMatrixS x = some y) : G_laws_eqMatrixS FUEL x = some y := by
  obtain ⟨a, b⟩ := x
  simp only [F_laws_eqMatrixS] at h
  split at h
  · rename_i hl
    rw [← h]
    obtain ⟨hl, hm⟩ := sz_MatrixS_mem hl
    exact eq_loop F_laws_eqMatrix a b (fun e he b => if_pos (hm e he)) (by omega)
  · cases h

theorem f_laws_szAutomaton (x : (Int × Int × (List Int) × (List (Int × Int × (List Int))) × (List Int)) × Int) (y : Int) (h : F_laws_szAutomaton x = some y) : G_laws_szAutomaton FUEL x = some y := by
  obtain ⟨⟨a0, a1, a2, a3, a4⟩, k⟩ := x
  simp only [F_laws_szAutomaton] at h
  split at h
  · rename_i hc
    obtain ⟨⟨k0, k1⟩, hw⟩ := hc
    simp only [wf_Automaton, Bool.and_eq_true] at hw
    rw [← h]
    simp only [G_laws_szAutomaton]
    rw [szK (o := F_laws_szIntS (a2, k)) (s := sz_IntS a2) (if_pos ⟨by constructor <;> omega, hw.1.1⟩)]
    by_cases c0 : ((sz_IntS a2 : Nat) : Int) ≤ k
    · rw [if_pos c0]
      rw [szK (o := F_laws_szMatrixS (a3, k - sz_IntS a2)) (s := sz_MatrixS a3) (if_pos ⟨by constructor <;> omega, hw.1.2⟩)]
      by_cases c1 : ((sz_MatrixS a3 : Nat) : Int) ≤ k - sz_IntS a2
      · rw [if_pos c1]
        rw [szK (o := F_laws_szIntS (a4, k - sz_IntS a2 - sz_MatrixS a3)) (s := sz_IntS a4) (if_pos ⟨by constructor <;> omega, hw.2⟩)]
        by_cases c2 : ((sz_IntS a4 : Nat) : Int) ≤ k - sz_IntS a2 - sz_MatrixS a3
        · rw [if_pos c2]
          show _ = some (szR (sz_IntS a2 + sz_MatrixS a3 + sz_IntS a4) k)
          rw [szR_t (by omega)]
          exact congrArg some (by omega)
        · rw [if_neg c2]
          show _ = some (szR (sz_IntS a2 + sz_MatrixS a3 + sz_IntS a4) k)
          rw [szR_f (by omega)]
      · rw [if_neg c1]
        show _ = some (szR (sz_IntS a2 + sz_MatrixS a3 + sz_IntS a4) k)
        rw [szR_f (by omega)]
    · rw [if_neg c0]
      show _ = some (szR (sz_IntS a2 + sz_MatrixS a3 + sz_IntS a4) k)
      rw [szR_f (by omega)]
  · cases h

theorem f_laws_toAutomaton (x y : Int × Int × (List Int) × (List (Int × Int × (List Int))) × (List Int)) (h : F_laws_toAutomaton x = some y) : G_laws_toAutomaton FUEL x = some y := by
  obtain ⟨a0, a1, a2, a3, a4⟩ := x
  simp only [F_laws_toAutomaton] at h
  split at h
  · rename_i hl
    rw [← h]
    simp only [sz_Automaton] at hl
    simp only [G_laws_toAutomaton, F_laws_toIntS, F_laws_toMatrixS, if_pos (show sz_IntS a2 ≤ 1048576 by omega), if_pos (show sz_MatrixS a3 ≤ 1048576 by omega), if_pos (show sz_IntS a4 ≤ 1048576 by omega), bnd_s, takI_id]
  · cases h

theorem f_laws_eqAutomaton (x : (Int × Int × (List Int) × (List (Int × Int × (List Int))) × (List Int)) × (Int × Int × (List Int) × (List (Int × Int × (List Int))) × (List Int))) (y : Bool) (h : F_laws_eqAutomaton x = some y) : G_laws_eqAutomaton FUEL x = some y := by
  obtain ⟨⟨a0, a1, a2, a3, a4⟩, b0, b1, b2, b3, b4⟩ := x
  simp only [F_laws_eqAutomaton] at h
  split at h
  · rename_i hl
    rw [← h]
    simp only [sz_Automaton] at hl
    simp only [G_laws_eqAutomaton, F_laws_eqIntS, F_laws_eqMatrixS, if_pos (show sz_IntS a2 ≤ 1048576 by omega), if_pos (show sz_MatrixS a3 ≤ 1048576 by omega), if_pos (show sz_IntS a4 ≤ 1048576 by omega), bnd_s]
    by_cases e0 : a0 = b0 <;> by_cases e1 : a1 = b1 <;> by_cases e2 : a2 = b2 <;> by_cases e3 : a3 = b3 <;> by_cases e4 : a4 = b4 <;> simp [neI_d, notB, cnd, *]
  · cases h

theorem f_laws_szSite (x : (Int × Int × Int × (List Int)) × Int) (y : Int) (h : F_laws_szSite x = some y) : G_laws_szSite FUEL x = some y := by
  obtain ⟨⟨a0, a1, a2, a3⟩, k⟩ := x
  simp only [F_laws_szSite] at h
  split at h
  · rename_i hc
    obtain ⟨⟨k0, k1⟩, hw⟩ := hc
    simp only [wf_Site] at hw
    rw [← h]
    simp only [G_laws_szSite]
    rw [szK (o := F_laws_szIntS (a3, k)) (s := sz_IntS a3) (if_pos ⟨by constructor <;> omega, hw⟩)]
    by_cases c0 : ((sz_IntS a3 : Nat) : Int) ≤ k
    · rw [if_pos c0]
      show _ = some (szR (sz_IntS a3) k)
      rw [szR_t (by omega)]
    · rw [if_neg c0]
      show _ = some (szR (sz_IntS a3) k)
      rw [szR_f (by omega)]
  · cases h

theorem f_laws_toSite (x y : Int × Int × Int × (List Int)) (h : F_laws_toSite x = some y) : G_laws_toSite FUEL x = some y := by
  obtain ⟨a0, a1, a2, a3⟩ := x
  simp only [F_laws_toSite] at h
  split at h
  · rename_i hl
    rw [← h]
    simp only [sz_Site] at hl
    simp only [G_laws_toSite, F_laws_toIntS, if_pos (show sz_IntS a3 ≤ 1048576 by omega), bnd_s, takI_id]
  · cases h

theorem f_laws_eqSite (x : (Int × Int × Int × (List Int)) × (Int × Int × Int × (List Int))) (y : Bool) (h : F_laws_eqSite x = some y) : G_laws_eqSite FUEL x = some y := by
  obtain ⟨⟨a0, a1, a2, a3⟩, b0, b1, b2, b3⟩ := x
  simp only [F_laws_eqSite] at h
  split at h
  · rename_i hl
    rw [← h]
    simp only [sz_Site] at hl
    simp only [G_laws_eqSite, F_laws_eqIntS, if_pos (show sz_IntS a3 ≤ 1048576 by omega), bnd_s]
    by_cases e0 : a0 = b0 <;> by_cases e1 : a1 = b1 <;> by_cases e2 : a2 = b2 <;> by_cases e3 : a3 = b3 <;> simp [neI_d, notB, cnd, *]
  · cases h

theorem f_laws_szSiteS (x : (List (Int × Int × Int × (List Int))) × Int) (y : Int) (h : F_laws_szSiteS x = some y) : G_laws_szSiteS FUEL x = some y := by
  obtain ⟨l, k⟩ := x
  simp only [F_laws_szSiteS] at h
  split at h
  · rename_i hc
    obtain ⟨hk, hw⟩ := hc
    unfold wf_SiteS at hw
    rw [Bool.and_eq_true, decide_eq_true_eq, List.all_eq_true] at hw
    rw [← h]
    exact sz_loop F_laws_szSite sz_Site l hw.1 (fun e he k hk => if_pos ⟨hk, hw.2 e he⟩) k hk
  · cases h

theorem sz_SiteS_mem {l : List (Int × Int × Int × (List Int))} (h : sz_SiteS l ≤ 1048576) : l.length ≤ 1048576 ∧ ∀ e ∈ l, sz_Site e ≤ 1048576 := by
  unfold sz_SiteS at h
  refine ⟨by omega, fun e he => ?_⟩
  have := le_sum_mem (List.mem_map_of_mem (f := sz_Site) he)
  omega

theorem f_laws_toSiteS (x y : List (Int × Int × Int × (List Int))) (h : F_laws_toSiteS x = some y) : G_laws_toSiteS FUEL x = some y := by
  simp only [F_laws_toSiteS] at h
  split at h
  · rename_i hl
    injection h with h
    subst h
    obtain ⟨hl, hm⟩ := sz_SiteS_mem hl
    simp only [G_laws_toSiteS, mkI_nat (n := lenN x) (by_ := 48) (by simp only [lenN, maxBytes]; omega), bnd_s, lenN_repL, fulI_id]
    rw [fill_loop x (0, 0, 0, []) (r := Sum.inl x) ?_ ?_ (by omega)]
    · simp only [joinK_l, takI_id, bnd_s]
    · rintro i ⟨a0, a1, a2, a3⟩ ys he hy hi
      simp only
      rw [cnd_t (ltI_in he), getI_nat, he, bnd_s]
      simp only [F_laws_toSite, if_pos (hm _ (List.mem_of_getElem? he)), chkI_len hi, bnd_s, addN_0, getN, hi, takI_id, lenN_setL, fulI_id, next_i he (by omega)]
      rfl
    · simp only
      rw [cnd_f (ltI_end x)]
  · cases h

theorem f_laws_eqSiteS (x : (List (Int × Int × Int × (List Int))) × (List (Int × Int × Int × (List Int)))) (y : Bool) (h : F_laws_eqSiteS x = some y) : G_laws_eqSiteS FUEL x = some y := by
  obtain ⟨a, b⟩ := x
  simp only [F_laws_eqSiteS] at h
  split at h
  · rename_i hl
    rw [← h]
    obtain ⟨hl, hm⟩ := sz_SiteS_mem hl
    exact eq_loop F_laws_eqSite a b (fun e he b => if_pos (hm e he)) (by omega)
  · cases h

theorem f_laws_szChain (x : (Int × (List (Int × Int × Int × (List Int)))) × Int) (y : Int) (h : F_laws_szChain x = some y) : G_laws_szChain FUEL x = some y := by
  obtain ⟨⟨a0, a1⟩, k⟩ := x
  simp only [F_laws_szChain] at h
  split at h
  · rename_i hc
    obtain ⟨⟨k0, k1⟩, hw⟩ := hc
    simp only [wf_Chain] at hw
    rw [← h]
    simp only [G_laws_szChain]
    rw [szK (o := F_laws_szSiteS (a1, k)) (s := sz_SiteS a1) (if_pos ⟨by constructor <;> omega, hw⟩)]
    by_cases c0 : ((sz_SiteS a1 : Nat) : Int) ≤ k
    · rw [if_pos c0]
      show _ = some (szR (sz_SiteS a1) k)
      rw [szR_t (by omega)]
    · rw [if_neg c0]
      show _ = some (szR (sz_SiteS a1) k)
      rw [szR_f (by omega)]
  · cases h

theorem f_laws_toChain (x y : Int × (List (Int × Int × Int × (List Int)))) (h : F_laws_toChain x = some y) : G_laws_toChain FUEL x = some y := by
  obtain ⟨a0, a1⟩ := x
  simp only [F_laws_toChain] at h
  split at h
  · rename_i hl
    rw [← h]
    simp only [sz_Chain] at hl
    simp only [G_laws_toChain, F_laws_toSiteS, if_pos (show sz_SiteS a1 ≤ 1048576 by omega), bnd_s, takI_id]
  · cases h

theorem f_laws_eqChain (x : (Int × (List (Int × Int × Int × (List Int)))) × (Int × (List (Int × Int × Int × (List Int))))) (y : Bool) (h : F_laws_eqChain x = some y) : G_laws_eqChain FUEL x = some y := by
  obtain ⟨⟨a0, a1⟩, b0, b1⟩ := x
  simp only [F_laws_eqChain] at h
  split at h
  · rename_i hl
    rw [← h]
    simp only [sz_Chain] at hl
    simp only [G_laws_eqChain, F_laws_eqSiteS, if_pos (show sz_SiteS a1 ≤ 1048576 by omega), bnd_s]
    by_cases e0 : a0 = b0 <;> by_cases e1 : a1 = b1 <;> simp [neI_d, notB, cnd, *]
  · cases h

theorem f_laws_szTensor (x : ((List Int) × (List Int) × (List Int)) × Int) (y : Int) (h : F_laws_szTensor x = some y) : G_laws_szTensor FUEL x = some y := by
  obtain ⟨⟨a0, a1, a2⟩, k⟩ := x
  simp only [F_laws_szTensor] at h
  split at h
  · rename_i hc
    obtain ⟨⟨k0, k1⟩, hw⟩ := hc
    simp only [wf_Tensor, Bool.and_eq_true] at hw
    rw [← h]
    simp only [G_laws_szTensor]
    rw [szK (o := F_laws_szIntS (a0, k)) (s := sz_IntS a0) (if_pos ⟨by constructor <;> omega, hw.1.1⟩)]
    by_cases c0 : ((sz_IntS a0 : Nat) : Int) ≤ k
    · rw [if_pos c0]
      rw [szK (o := F_laws_szIntS (a1, k - sz_IntS a0)) (s := sz_IntS a1) (if_pos ⟨by constructor <;> omega, hw.1.2⟩)]
      by_cases c1 : ((sz_IntS a1 : Nat) : Int) ≤ k - sz_IntS a0
      · rw [if_pos c1]
        rw [szK (o := F_laws_szIntS (a2, k - sz_IntS a0 - sz_IntS a1)) (s := sz_IntS a2) (if_pos ⟨by constructor <;> omega, hw.2⟩)]
        by_cases c2 : ((sz_IntS a2 : Nat) : Int) ≤ k - sz_IntS a0 - sz_IntS a1
        · rw [if_pos c2]
          show _ = some (szR (sz_IntS a0 + sz_IntS a1 + sz_IntS a2) k)
          rw [szR_t (by omega)]
          exact congrArg some (by omega)
        · rw [if_neg c2]
          show _ = some (szR (sz_IntS a0 + sz_IntS a1 + sz_IntS a2) k)
          rw [szR_f (by omega)]
      · rw [if_neg c1]
        show _ = some (szR (sz_IntS a0 + sz_IntS a1 + sz_IntS a2) k)
        rw [szR_f (by omega)]
    · rw [if_neg c0]
      show _ = some (szR (sz_IntS a0 + sz_IntS a1 + sz_IntS a2) k)
      rw [szR_f (by omega)]
  · cases h

theorem f_laws_toTensor (x y : (List Int) × (List Int) × (List Int)) (h : F_laws_toTensor x = some y) : G_laws_toTensor FUEL x = some y := by
  obtain ⟨a0, a1, a2⟩ := x
  simp only [F_laws_toTensor] at h
  split at h
  · rename_i hl
    rw [← h]
    simp only [sz_Tensor] at hl
    simp only [G_laws_toTensor, F_laws_toIntS, if_pos (show sz_IntS a0 ≤ 1048576 by omega), if_pos (show sz_IntS a1 ≤ 1048576 by omega), if_pos (show sz_IntS a2 ≤ 1048576 by omega), bnd_s, takI_id]
  · cases h

theorem f_laws_eqTensor (x : ((List Int) × (List Int) × (List Int)) × ((List Int) × (List Int) × (List Int))) (y : Bool) (h : F_laws_eqTensor x = some y) : G_laws_eqTensor FUEL x = some y := by
  obtain ⟨⟨a0, a1, a2⟩, b0, b1, b2⟩ := x
  simp only [F_laws_eqTensor] at h
  split at h
  · rename_i hl
    rw [← h]
    simp only [sz_Tensor] at hl
    simp only [G_laws_eqTensor, F_laws_eqIntS, if_pos (show sz_IntS a0 ≤ 1048576 by omega), if_pos (show sz_IntS a1 ≤ 1048576 by omega), if_pos (show sz_IntS a2 ≤ 1048576 by omega), bnd_s]
    by_cases e0 : a0 = b0 <;> by_cases e1 : a1 = b1 <;> by_cases e2 : a2 = b2 <;> simp [neI_d, notB, cnd, *]
  · cases h

theorem f_laws_szCharges (x : (Int × (List (List Int))) × Int) (y : Int) (h : F_laws_szCharges x = some y) : G_laws_szCharges FUEL x = some y := by
  obtain ⟨⟨a0, a1⟩, k⟩ := x
  simp only [F_laws_szCharges] at h
  split at h
  · rename_i hc
    obtain ⟨⟨k0, k1⟩, hw⟩ := hc
    simp only [wf_Charges] at hw
    rw [← h]
    simp only [G_laws_szCharges]
    rw [szK (o := F_laws_szIntSS (a1, k)) (s := sz_IntSS a1) (if_pos ⟨by constructor <;> omega, hw⟩)]
    by_cases c0 : ((sz_IntSS a1 : Nat) : Int) ≤ k
    · rw [if_pos c0]
      show _ = some (szR (sz_IntSS a1) k)
      rw [szR_t (by omega)]
    · rw [if_neg c0]
      show _ = some (szR (sz_IntSS a1) k)
      rw [szR_f (by omega)]
  · cases h

theorem f_laws_toCharges (x y : Int × (List (List Int))) (h : F_laws_toCharges x = some y) : G_laws_toCharges FUEL x = some y := by
  obtain ⟨a0, a1⟩ := x
  simp only [F_laws_toCharges] at h
  split at h
  · rename_i hl
    rw [← h]
    simp only [sz_Charges] at hl
    simp only [G_laws_toCharges, F_laws_toIntSS, if_pos (show sz_IntSS a1 ≤ 1048576 by omega), bnd_s, takI_id]
  · cases h

theorem f_laws_eqCharges (x : (Int × (List (List Int))) × (Int × (List (List Int)))) (y : Bool) (h : F_laws_eqCharges x = some y) : G_laws_eqCharges FUEL x = some y := by
  obtain ⟨⟨a0, a1⟩, b0, b1⟩ := x
  simp only [F_laws_eqCharges] at h
  split at h
  · rename_i hl
    rw [← h]
    simp only [sz_Charges] at hl
    simp only [G_laws_eqCharges, F_laws_eqIntSS, if_pos (show sz_IntSS a1 ≤ 1048576 by omega), bnd_s]
    by_cases e0 : a0 = b0 <;> by_cases e1 : a1 = b1 <;> simp [neI_d, notB, cnd, *]
  · cases h

end Go.Am
