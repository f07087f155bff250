/- MT: sizes, copies, comparisons and marks of the laws' types. No condition. -/
import Derived.Test.YtbogogbogdafiaaB2
set_option linter.unusedVariables false
set_option linter.unusedSimpArgs false
set_option synthInstance.maxSize 1000
set_option synthInstance.maxHeartbeats 400000
namespace Go.Am
def sz_IntS (l : List Int) : Nat := l.length
def wf_IntS (l : List Int) : Bool := decide (l.length ≤ 9223372036854775807)
def F_laws_szIntS : (List Int) × Int → Option Int := fun ((x, k) : (List Int) × Int) => if kOk k ∧ wf_IntS x = true then some (szR (sz_IntS x) k) else none
def F_laws_toIntS : (List Int) → Option (List Int) := fun (x : List Int) => if sz_IntS x ≤ 1048576 then some x else none
def F_laws_eqIntS : (List Int) × (List Int) → Option Bool := fun ((x, y) : (List Int) × (List Int)) => if sz_IntS x ≤ 1048576 then some (decide (x = y)) else none
def sz_IntSS (l : List (List Int)) : Nat := l.length + (l.map sz_IntS).sum
def wf_IntSS (l : List (List Int)) : Bool := decide (l.length ≤ 9223372036854775807) && l.all wf_IntS
def F_laws_szIntSS : (List (List Int)) × Int → Option Int := fun ((x, k) : (List (List Int)) × Int) => if kOk k ∧ wf_IntSS x = true then some (szR (sz_IntSS x) k) else none
def F_laws_toIntSS : (List (List Int)) → Option (List (List Int)) := fun (x : List (List Int)) => if sz_IntSS x ≤ 1048576 then some x else none
def F_laws_eqIntSS : (List (List Int)) × (List (List Int)) → Option Bool := fun ((x, y) : (List (List Int)) × (List (List Int))) => if sz_IntSS x ≤ 1048576 then some (decide (x = y)) else none
def sz_Tensor (x : (List Int) × (List Int) × (List Int)) : Nat := match x with | (a0, a1, a2) => sz_IntS a0 + sz_IntS a1 + sz_IntS a2
def wf_Tensor (x : (List Int) × (List Int) × (List Int)) : Bool := match x with | (a0, a1, a2) => wf_IntS a0 && wf_IntS a1 && wf_IntS a2
def F_laws_szTensor : ((List Int) × (List Int) × (List Int)) × Int → Option Int := fun ((x, k) : ((List Int) × (List Int) × (List Int)) × Int) => if kOk k ∧ wf_Tensor x = true then some (szR (sz_Tensor x) k) else none
def F_laws_toTensor : ((List Int) × (List Int) × (List Int)) → Option ((List Int) × (List Int) × (List Int)) := fun (x : (List Int) × (List Int) × (List Int)) => if sz_Tensor x ≤ 1048576 then some x else none
def F_laws_eqTensor : ((List Int) × (List Int) × (List Int)) × ((List Int) × (List Int) × (List Int)) → Option Bool := fun ((x, y) : ((List Int) × (List Int) × (List Int)) × ((List Int) × (List Int) × (List Int))) => if sz_Tensor x ≤ 1048576 then some (decide (x = y)) else none
def sz_Charges (x : Int × (List (List Int))) : Nat := match x with | (a0, a1) => sz_IntSS a1
def wf_Charges (x : Int × (List (List Int))) : Bool := match x with | (a0, a1) => wf_IntSS a1
def F_laws_szCharges : (Int × (List (List Int))) × Int → Option Int := fun ((x, k) : (Int × (List (List Int))) × Int) => if kOk k ∧ wf_Charges x = true then some (szR (sz_Charges x) k) else none
def F_laws_toCharges : (Int × (List (List Int))) → Option (Int × (List (List Int))) := fun (x : Int × (List (List Int))) => if sz_Charges x ≤ 1048576 then some x else none
def F_laws_eqCharges : (Int × (List (List Int))) × (Int × (List (List Int))) → Option Bool := fun ((x, y) : (Int × (List (List Int))) × (Int × (List (List Int)))) => if sz_Charges x ≤ 1048576 then some (decide (x = y)) else none
def cnt_IntS (l : List Int) : Nat := cntL (fun _ => 1) l
def mk_IntS (l : List Int) (k : Int) : List Int := mkL (fun _ => 1) (fun _ k => k) l k
def F_laws_markIntS : (List Int) × Int → Option (Int × (List Int)) := fun ((x, k) : (List Int) × Int) => if 0 ≤ k ∧ k + 4 * (sz_IntS x : Nat) ≤ 1099511627776 then some (k + (cnt_IntS x : Nat), mk_IntS x k) else none
def F_laws_heldIntS : (List Int) × Int → Option Int := fun ((x, k) : (List Int) × Int) => if 0 ≤ k ∧ k + 4 * (sz_IntS x : Nat) ≤ 1099511627776 then some (if x = mk_IntS x k then k + (cnt_IntS x : Nat) else -1) else none
def cnt_IntSS (l : List (List Int)) : Nat := cntL cnt_IntS l
def mk_IntSS (l : List (List Int)) (k : Int) : List (List Int) := mkL cnt_IntS mk_IntS l k
def F_laws_markIntSS : (List (List Int)) × Int → Option (Int × (List (List Int))) := fun ((x, k) : (List (List Int)) × Int) => if 0 ≤ k ∧ k + 4 * (sz_IntSS x : Nat) ≤ 1099511627776 then some (k + (cnt_IntSS x : Nat), mk_IntSS x k) else none
def mk_Tensor (x : (List Int) × (List Int) × (List Int)) (k : Int) : (List Int) × (List Int) × (List Int) := match x with | (a0, a1, a2) => (mk_IntS a0 (k), mk_IntS a1 (k + (cnt_IntS a0 : Nat)), mk_IntS a2 (k + (cnt_IntS a0 : Nat) + (cnt_IntS a1 : Nat)))
def F_laws_markTensor : ((List Int) × (List Int) × (List Int)) × Int → Option (Int × (List Int) × (List Int) × (List Int)) := fun (((a0, a1, a2), k) : ((List Int) × (List Int) × (List Int)) × Int) => if 0 ≤ k ∧ k + 4 * (sz_Tensor (a0, a1, a2) : Nat) ≤ 1099511627776 then some (k + (cnt_IntS a0 : Nat) + (cnt_IntS a1 : Nat) + (cnt_IntS a2 : Nat), mk_IntS a0 (k), mk_IntS a1 (k + (cnt_IntS a0 : Nat)), mk_IntS a2 (k + (cnt_IntS a0 : Nat) + (cnt_IntS a1 : Nat))) else none
def F_laws_heldTensor : ((List Int) × (List Int) × (List Int)) × Int → Option Int := fun (((a0, a1, a2), k) : ((List Int) × (List Int) × (List Int)) × Int) => if 0 ≤ k ∧ k + 4 * (sz_Tensor (a0, a1, a2) : Nat) ≤ 1099511627776 then some (if a0 = mk_IntS a0 (k) ∧ a1 = mk_IntS a1 (k + (cnt_IntS a0 : Nat)) ∧ a2 = mk_IntS a2 (k + (cnt_IntS a0 : Nat) + (cnt_IntS a1 : Nat)) then k + (cnt_IntS a0 : Nat) + (cnt_IntS a1 : Nat) + (cnt_IntS a2 : Nat) else -1) else none
def F_laws_markCharges : (Int × (List (List Int))) × Int → Option (Int × (List (List Int))) := fun (((a0, a1), k) : (Int × (List (List Int))) × Int) => if 0 ≤ k ∧ k + 4 * (sz_Charges (a0, a1) : Nat) ≤ 1099511627776 then some (k + (cnt_IntSS a1 : Nat), mk_IntSS a1 (k)) else none
def ag_laws_szIntS : Sig := [(.one, [.list [.int .i64]]), (.one, [.int .i64])]
def rs_laws_szIntS : Sig := [(.one, [.int .i64])]
def mu_laws_szIntS : MSig := []
def ag_laws_toIntS : Sig := [(.one, [.list [.int .i64]])]
def rs_laws_toIntS : Sig := [(.one, [.list [.int .i64]])]
def mu_laws_toIntS : MSig := []
def ag_laws_eqIntS : Sig := [(.one, [.list [.int .i64]]), (.one, [.list [.int .i64]])]
def rs_laws_eqIntS : Sig := [(.one, [.bool])]
def mu_laws_eqIntS : MSig := []
def ag_laws_szIntSS : Sig := [(.one, [.list [.list [.int .i64]]]), (.one, [.int .i64])]
def rs_laws_szIntSS : Sig := [(.one, [.int .i64])]
def mu_laws_szIntSS : MSig := []
def ag_laws_toIntSS : Sig := [(.one, [.list [.list [.int .i64]]])]
def rs_laws_toIntSS : Sig := [(.one, [.list [.list [.int .i64]]])]
def mu_laws_toIntSS : MSig := []
def ag_laws_eqIntSS : Sig := [(.one, [.list [.list [.int .i64]]]), (.one, [.list [.list [.int .i64]]])]
def rs_laws_eqIntSS : Sig := [(.one, [.bool])]
def mu_laws_eqIntSS : MSig := []
def ag_laws_szTensor : Sig := [(.agg, [.list [.int .i64], .list [.int .i64], .list [.int .i64]]), (.one, [.int .i64])]
def rs_laws_szTensor : Sig := [(.one, [.int .i64])]
def mu_laws_szTensor : MSig := []
def ag_laws_toTensor : Sig := [(.agg, [.list [.int .i64], .list [.int .i64], .list [.int .i64]])]
def rs_laws_toTensor : Sig := [(.agg, [.list [.int .i64], .list [.int .i64], .list [.int .i64]])]
def mu_laws_toTensor : MSig := []
def ag_laws_eqTensor : Sig := [(.agg, [.list [.int .i64], .list [.int .i64], .list [.int .i64]]), (.agg, [.list [.int .i64], .list [.int .i64], .list [.int .i64]])]
def rs_laws_eqTensor : Sig := [(.one, [.bool])]
def mu_laws_eqTensor : MSig := []
def ag_laws_szCharges : Sig := [(.agg, [.int .i64, .list [.list [.int .i64]]]), (.one, [.int .i64])]
def rs_laws_szCharges : Sig := [(.one, [.int .i64])]
def mu_laws_szCharges : MSig := []
def ag_laws_toCharges : Sig := [(.agg, [.int .i64, .list [.list [.int .i64]]])]
def rs_laws_toCharges : Sig := [(.agg, [.int .i64, .list [.list [.int .i64]]])]
def mu_laws_toCharges : MSig := []
def ag_laws_eqCharges : Sig := [(.agg, [.int .i64, .list [.list [.int .i64]]]), (.agg, [.int .i64, .list [.list [.int .i64]]])]
def rs_laws_eqCharges : Sig := [(.one, [.bool])]
def mu_laws_eqCharges : MSig := []
def ag_laws_markIntS : Sig := [(.one, [.list [.int .i64]]), (.one, [.int .i64])]
def rs_laws_markIntS : Sig := [(.one, [.int .i64]), (.one, [.list [.int .i64]])]
def mu_laws_markIntS : MSig := [[some .froz]]
def ag_laws_markIntSS : Sig := [(.one, [.list [.list [.int .i64]]]), (.one, [.int .i64])]
def rs_laws_markIntSS : Sig := [(.one, [.int .i64]), (.one, [.list [.list [.int .i64]]])]
def mu_laws_markIntSS : MSig := [[some .live]]
def ag_laws_markTensor : Sig := [(.agg, [.list [.int .i64], .list [.int .i64], .list [.int .i64]]), (.one, [.int .i64])]
def rs_laws_markTensor : Sig := [(.one, [.int .i64]), (.one, [.list [.int .i64]]), (.one, [.list [.int .i64]]), (.one, [.list [.int .i64]])]
def mu_laws_markTensor : MSig := [[some .froz, some .froz, some .froz]]
def ag_laws_markCharges : Sig := [(.agg, [.int .i64, .list [.list [.int .i64]]]), (.one, [.int .i64])]
def rs_laws_markCharges : Sig := [(.one, [.int .i64]), (.one, [.list [.list [.int .i64]]])]
def mu_laws_markCharges : MSig := [[none, some .live]]
def ag_laws_heldIntS : Sig := [(.one, [.list [.int .i64]]), (.one, [.int .i64])]
def rs_laws_heldIntS : Sig := [(.one, [.int .i64])]
def mu_laws_heldIntS : MSig := []
def ag_laws_heldTensor : Sig := [(.agg, [.list [.int .i64], .list [.int .i64], .list [.int .i64]]), (.one, [.int .i64])]
def rs_laws_heldTensor : Sig := [(.one, [.int .i64])]
def mu_laws_heldTensor : MSig := []
def G_laws_szIntS (NN : Nat) : ((List Int) × Int) → (Option Int) :=
 (fun ((l0, i1) : ((List Int) × Int)) =>
 cnd (ltI (subI .i64 i1 (natI (lenN l0))) (0 : Int))
 (some ((-1 : Int)))
 (some (subI .i64 i1 (natI (lenN l0)))))

def G_laws_toIntS (NN : Nat) : (List Int) → (Option (List Int)) :=
 (fun (l0 : (List Int)) =>
 (mkI (natI (lenN l0)) (natI (lenN l0)) 8).bnd (fun k1 =>
 joinK ((fulI 0 k1 (lenN (repL k1 (0 : Int)))).bnd (fun _ =>
 loopT NN (fun (((l2, i3), l4) : (((List Int) × Int) × (List Int))) =>
 cnd (ltI i3 (natI (lenN l2)))
 ((getI l2 i3).bnd (fun i5 =>
 (chkI i3 (lenN l4)).bnd (fun k6 =>
 (getN l4 (addN 0 k6)).bnd (fun i7 =>
 (fulI 0 (lenN l4) (lenN (setL l4 (addN 0 k6) i5))).bnd (fun _ =>
 some (Sum.inl ((l2, addI .i64 i3 1), setL l4 (addN 0 k6) i5)))))))
 (((fulI 0 (lenN l4) (lenN l4)).bnd (fun _ =>
 some (Sum.inl l4))).bnd (fun l8 =>
 some (Sum.inr l8))))
 ((l0, (0 : Int)), repL k1 (0 : Int))))
 (fun l9 =>
 (takI l9 (lenN l9)).bnd (fun l10 =>
 some l10))))

def G_laws_eqIntS (NN : Nat) : ((List Int) × (List Int)) → (Option Bool) :=
 (fun ((l0, l1) : ((List Int) × (List Int))) =>
 cnd (neI (natI (lenN l0)) (natI (lenN l1)))
 (some false)
 (joinK (loopT NN (fun ((l2, l3, i4) : ((List Int) × ((List Int) × Int))) =>
 cnd (ltI i4 (natI (lenN l2)))
 ((getI l2 i4).bnd (fun i5 =>
 (getI l3 i4).bnd (fun i6 =>
 cnd (neI i5 i6)
 (some (Sum.inr (Sum.inr false)))
 (some (Sum.inl (l2, l3, addI .i64 i4 1))))))
 (some (Sum.inr (Sum.inl ()))))
 (l0, l1, (0 : Int)))
 (fun _ =>
 some true)))

def G_laws_szIntSS (NN : Nat) : ((List (List Int)) × Int) → (Option Int) :=
 (fun ((l0, i1) : ((List (List Int)) × Int)) =>
 cnd (ltI (subI .i64 i1 (natI (lenN l0))) (0 : Int))
 (some ((-1 : Int)))
 (joinK (loopT NN (fun ((l2, i3, i4) : ((List (List Int)) × (Int × Int))) =>
 cnd (ltI i4 (natI (lenN l2)))
 ((getI l2 i4).bnd (fun l5 =>
 (F_laws_szIntS (l5, i3)).bnd (fun i6 =>
 cnd (ltI i6 (0 : Int))
 (some (Sum.inr (Sum.inr ((-1 : Int)))))
 (some (Sum.inl (l2, i6, addI .i64 i4 1))))))
 (some (Sum.inr (Sum.inl i3))))
 (l0, subI .i64 i1 (natI (lenN l0)), (0 : Int)))
 (fun i7 =>
 some i7)))

def G_laws_toIntSS (NN : Nat) : (List (List Int)) → (Option (List (List Int))) :=
 (fun (l0 : (List (List Int))) =>
 (mkI (natI (lenN l0)) (natI (lenN l0)) 24).bnd (fun k1 =>
 joinK ((fulI 0 k1 (lenN (repL k1 (([] : List Int))))).bnd (fun _ =>
 loopT NN (fun (((l2, i3), l4) : (((List (List Int)) × Int) × (List (List Int)))) =>
 cnd (ltI i3 (natI (lenN l2)))
 ((getI l2 i3).bnd (fun l5 =>
 (F_laws_toIntS l5).bnd (fun l6 =>
 (chkI i3 (lenN l4)).bnd (fun k7 =>
 (getN l4 (addN 0 k7)).bnd (fun l8 =>
 (takI l6 (lenN l6)).bnd (fun l9 =>
 (fulI 0 (lenN l4) (lenN (setL l4 (addN 0 k7) l9))).bnd (fun _ =>
 some (Sum.inl ((l2, addI .i64 i3 1), setL l4 (addN 0 k7) l9)))))))))
 (((fulI 0 (lenN l4) (lenN l4)).bnd (fun _ =>
 some (Sum.inl l4))).bnd (fun l10 =>
 some (Sum.inr l10))))
 ((l0, (0 : Int)), repL k1 (([] : List Int)))))
 (fun l11 =>
 (takI l11 (lenN l11)).bnd (fun l12 =>
 some l12))))

def G_laws_eqIntSS (NN : Nat) : ((List (List Int)) × (List (List Int))) → (Option Bool) :=
 (fun ((l0, l1) : ((List (List Int)) × (List (List Int)))) =>
 cnd (neI (natI (lenN l0)) (natI (lenN l1)))
 (some false)
 (joinK (loopT NN (fun ((l2, l3, i4) : ((List (List Int)) × ((List (List Int)) × Int))) =>
 cnd (ltI i4 (natI (lenN l2)))
 ((getI l2 i4).bnd (fun l5 =>
 (getI l3 i4).bnd (fun l6 =>
 (F_laws_eqIntS (l5, l6)).bnd (fun b7 =>
 cnd (notB b7)
 (some (Sum.inr (Sum.inr false)))
 (some (Sum.inl (l2, l3, addI .i64 i4 1)))))))
 (some (Sum.inr (Sum.inl ()))))
 (l0, l1, (0 : Int)))
 (fun _ =>
 some true)))

def G_laws_szTensor (NN : Nat) : (((List Int) × ((List Int) × (List Int))) × Int) → (Option Int) :=
 (fun (((l0, l1, l2), i3) : (((List Int) × ((List Int) × (List Int))) × Int)) =>
 (F_laws_szIntS (l0, i3)).bnd (fun i4 =>
 cnd (ltI i4 (0 : Int))
 (some ((-1 : Int)))
 ((F_laws_szIntS (l1, i4)).bnd (fun i5 =>
 cnd (ltI i5 (0 : Int))
 (some ((-1 : Int)))
 ((F_laws_szIntS (l2, i5)).bnd (fun i6 =>
 cnd (ltI i6 (0 : Int))
 (some ((-1 : Int)))
 (some i6)))))))

def G_laws_toTensor (NN : Nat) : ((List Int) × ((List Int) × (List Int))) → (Option ((List Int) × ((List Int) × (List Int)))) :=
 (fun ((l0, l1, l2) : ((List Int) × ((List Int) × (List Int)))) =>
 (F_laws_toIntS l0).bnd (fun l3 =>
 (F_laws_toIntS l1).bnd (fun l4 =>
 (F_laws_toIntS l2).bnd (fun l5 =>
 (takI l3 (lenN l3)).bnd (fun l6 =>
 (takI l4 (lenN l4)).bnd (fun l7 =>
 (takI l5 (lenN l5)).bnd (fun l8 =>
 some (l6, l7, l8))))))))

def G_laws_eqTensor (NN : Nat) : (((List Int) × ((List Int) × (List Int))) × ((List Int) × ((List Int) × (List Int)))) → (Option Bool) :=
 (fun (((l0, l1, l2), l3, l4, l5) : (((List Int) × ((List Int) × (List Int))) × ((List Int) × ((List Int) × (List Int))))) =>
 (F_laws_eqIntS (l0, l3)).bnd (fun b6 =>
 cnd (notB b6)
 (some false)
 ((F_laws_eqIntS (l1, l4)).bnd (fun b7 =>
 cnd (notB b7)
 (some false)
 ((F_laws_eqIntS (l2, l5)).bnd (fun b8 =>
 cnd (notB b8)
 (some false)
 (some true)))))))

def G_laws_szCharges (NN : Nat) : ((Int × (List (List Int))) × Int) → (Option Int) :=
 (fun (((i0, l1), i2) : ((Int × (List (List Int))) × Int)) =>
 (F_laws_szIntSS (l1, i2)).bnd (fun i3 =>
 cnd (ltI i3 (0 : Int))
 (some ((-1 : Int)))
 (some i3)))

def G_laws_toCharges (NN : Nat) : (Int × (List (List Int))) → (Option (Int × (List (List Int)))) :=
 (fun ((i0, l1) : (Int × (List (List Int)))) =>
 (F_laws_toIntSS l1).bnd (fun l2 =>
 (takI l2 (lenN l2)).bnd (fun l3 =>
 some (i0, l3))))

def G_laws_eqCharges (NN : Nat) : ((Int × (List (List Int))) × (Int × (List (List Int)))) → (Option Bool) :=
 (fun (((i0, l1), i2, l3) : ((Int × (List (List Int))) × (Int × (List (List Int))))) =>
 cnd (neI i0 i2)
 (some false)
 ((F_laws_eqIntSS (l1, l3)).bnd (fun b4 =>
 cnd (notB b4)
 (some false)
 (some true))))

def G_laws_markIntS (NN : Nat) : ((List Int) × Int) → (Option (Int × (List Int))) :=
 (fun ((l0, i1) : ((List Int) × Int)) =>
 joinK ((fulI 0 (lenN l0) (lenN l0)).bnd (fun _ =>
 loopT NN (fun (((i2, i3), l4) : ((Int × Int) × (List Int))) =>
 cnd (ltI i3 (natI (lenN l4)))
 ((chkI i3 (lenN l4)).bnd (fun k5 =>
 (getN l4 (addN 0 k5)).bnd (fun i6 =>
 (fulI 0 (lenN l4) (lenN (setL l4 (addN 0 k5) i2))).bnd (fun _ =>
 some (Sum.inl ((addI .i64 i2 1, addI .i64 i3 1), setL l4 (addN 0 k5) i2))))))
 (some (Sum.inr (Sum.inl (i2, l4)))))
 ((i1, (0 : Int)), l0)))
 (fun (i7, l8) =>
 (samI (lenN l8) (lenN l0)).bnd (fun _ =>
 some (i7, l8))))

def G_laws_markIntSS (NN : Nat) : ((List (List Int)) × Int) → (Option (Int × (List (List Int)))) :=
 (fun ((l0, i1) : ((List (List Int)) × Int)) =>
 joinK ((fulI 0 (lenN l0) (lenN l0)).bnd (fun _ =>
 loopT NN (fun (((i2, i3), l4) : ((Int × Int) × (List (List Int)))) =>
 cnd (ltI i3 (natI (lenN l4)))
 ((chkI i3 (lenN l4)).bnd (fun k5 =>
 (getN l4 (addN 0 k5)).bnd (fun l6 =>
 (getN l4 (addN 0 k5)).bnd (fun l7 =>
 (F_laws_markIntS (l7, i2)).bnd (fun (i8, l9) =>
 (getN l4 (addN 0 k5)).bnd (fun l10 =>
 (fulI 0 (lenN l4) (lenN (setL l4 (addN 0 k5) l9))).bnd (fun _ =>
 some (Sum.inl ((i8, addI .i64 i3 1), setL l4 (addN 0 k5) l9)))))))))
 (some (Sum.inr (Sum.inl (i2, l4)))))
 ((i1, (0 : Int)), l0)))
 (fun (i11, l12) =>
 (samI (lenN l12) (lenN l0)).bnd (fun _ =>
 some (i11, l12))))

def G_laws_markTensor (NN : Nat) : (((List Int) × ((List Int) × (List Int))) × Int) → (Option (Int × ((List Int) × ((List Int) × (List Int))))) :=
 (fun (((l0, l1, l2), i3) : (((List Int) × ((List Int) × (List Int))) × Int)) =>
 (fulI 0 (lenN l0) (lenN l0)).bnd (fun _ =>
 (F_laws_markIntS (l0, i3)).bnd (fun (i4, l5) =>
 (fulI 0 (lenN l1) (lenN l1)).bnd (fun _ =>
 (F_laws_markIntS (l1, i4)).bnd (fun (i6, l7) =>
 (fulI 0 (lenN l2) (lenN l2)).bnd (fun _ =>
 (F_laws_markIntS (l2, i6)).bnd (fun (i8, l9) =>
 (samI (lenN l5) (lenN l0)).bnd (fun _ =>
 (samI (lenN l7) (lenN l1)).bnd (fun _ =>
 (samI (lenN l9) (lenN l2)).bnd (fun _ =>
 some (i8, l5, l7, l9)))))))))))

def G_laws_markCharges (NN : Nat) : ((Int × (List (List Int))) × Int) → (Option (Int × (List (List Int)))) :=
 (fun (((i0, l1), i2) : ((Int × (List (List Int))) × Int)) =>
 (fulI 0 (lenN l1) (lenN l1)).bnd (fun _ =>
 (F_laws_markIntSS (l1, i2)).bnd (fun (i3, l4) =>
 (samI (lenN l4) (lenN l1)).bnd (fun _ =>
 some (i3, l4)))))

def G_laws_heldIntS (NN : Nat) : ((List Int) × Int) → (Option Int) :=
 (fun ((l0, i1) : ((List Int) × Int)) =>
 joinK (loopT NN (fun ((l2, i3, i4) : ((List Int) × (Int × Int))) =>
 cnd (ltI i4 (natI (lenN l2)))
 ((getI l2 i4).bnd (fun i5 =>
 cnd (neI i5 i3)
 (some (Sum.inr (Sum.inr ((-1 : Int)))))
 (some (Sum.inl (l2, addI .i64 i3 1, addI .i64 i4 1)))))
 (some (Sum.inr (Sum.inl i3))))
 (l0, i1, (0 : Int)))
 (fun i6 =>
 some i6))

def G_laws_heldTensor (NN : Nat) : (((List Int) × ((List Int) × (List Int))) × Int) → (Option Int) :=
 (fun (((l0, l1, l2), i3) : (((List Int) × ((List Int) × (List Int))) × Int)) =>
 (F_laws_heldIntS (l0, i3)).bnd (fun i4 =>
 cnd (ltI i4 (0 : Int))
 (some ((-1 : Int)))
 ((F_laws_heldIntS (l1, i4)).bnd (fun i5 =>
 cnd (ltI i5 (0 : Int))
 (some ((-1 : Int)))
 ((F_laws_heldIntS (l2, i5)).bnd (fun i6 =>
 cnd (ltI i6 (0 : Int))
 (some ((-1 : Int)))
 (some i6)))))))

theorem f_laws_szIntS (x : (List Int) × Int) (y : Int) (h : F_laws_szIntS x = some y) : G_laws_szIntS FUEL x = some y := by
 obtain ⟨l, k⟩ := x
 simp only [F_laws_szIntS] at h
 split at h
 ·rename_i hc
  obtain ⟨⟨k0, k1⟩, hw⟩ := hc
  have hw := of_decide_eq_true hw
  rw [← h]
  have hn := nl l
  simp only [G_laws_szIntS]
  rw [subI_eq (by omega) (by omega)]
  show _ = some (szR l.length k)
  by_cases hs : (l.length : Int) ≤ k
  ·rw [szR_t hs, cnd_f (ltI_f (by omega))]; rfl
  ·rw [szR_f hs, cnd_t (ltI_t (by omega))]
 ·cases h
theorem f_laws_toIntS (x y : List Int) (h : F_laws_toIntS x = some y) : G_laws_toIntS FUEL x = some y := by
 simp only [F_laws_toIntS] at h
 split at h
 ·rename_i hl
  injection h with h
  subst h
  have hl : x.length ≤ 1048576 := hl
  simp only [G_laws_toIntS, mkI_nat (n := lenN x) (by_ := 8) (by simp only [lenN, maxBytes]; omega), bnd_s, lenN_repL, fulI_id]
  rw [fill_loop x 0 (r := Sum.inl x) ?_ ?_ (by omega)]
  ·simp only [joinK_l, takI_id, bnd_s]
  ·intro i e ys he hy hi
   simp only
   rw [cnd_t (ltI_in he), getI_nat, he, bnd_s]
   simp only [chkI_len hi, bnd_s, addN_0, getN, hi, lenN_setL, fulI_id, next_i he (by omega)]
   rfl
  ·simp only
   rw [cnd_f (ltI_end x)]
 ·cases h
theorem f_laws_eqIntS (x : (List Int) × (List Int)) (y : Bool) (h : F_laws_eqIntS x = some y) : G_laws_eqIntS FUEL x = some y := by
 obtain ⟨a, b⟩ := x
 simp only [F_laws_eqIntS] at h
 split at h
 ·rename_i hl
  rw [← h]
  have hl : a.length ≤ 1048576 := hl
  exact eq_loopI a b (by omega)
 ·cases h
theorem f_laws_szIntSS (x : (List (List Int)) × Int) (y : Int) (h : F_laws_szIntSS x = some y) : G_laws_szIntSS FUEL x = some y := by
 obtain ⟨l, k⟩ := x
 simp only [F_laws_szIntSS] at h
 split at h
 ·rename_i hc
  obtain ⟨hk, hw⟩ := hc
  unfold wf_IntSS at hw
  rw [Bool.and_eq_true, decide_eq_true_eq, List.all_eq_true] at hw
  rw [← h]
  exact sz_loop F_laws_szIntS sz_IntS l hw.1 (fun e he k hk => if_pos ⟨hk, hw.2 e he⟩) k hk
 ·cases h
theorem sz_IntSS_mem {l : List (List Int)} (h : sz_IntSS l ≤ 1048576) : l.length ≤ 1048576 ∧ ∀ e ∈ l, sz_IntS e ≤ 1048576 := by
 unfold sz_IntSS at h
 refine ⟨by omega, fun e he => ?_⟩
 have := le_sum_mem (List.mem_map_of_mem (f := sz_IntS) he)
 omega
theorem f_laws_toIntSS (x y : List (List Int)) (h : F_laws_toIntSS x = some y) : G_laws_toIntSS FUEL x = some y := by
 simp only [F_laws_toIntSS] at h
 split at h
 ·rename_i hl
  injection h with h
  subst h
  obtain ⟨hl, hm⟩ := sz_IntSS_mem hl
  simp only [G_laws_toIntSS, mkI_nat (n := lenN x) (by_ := 24) (by simp only [lenN, maxBytes]; omega), bnd_s, lenN_repL, fulI_id]
  rw [fill_loop x [] (r := Sum.inl x) ?_ ?_ (by omega)]
  ·simp only [joinK_l, takI_id, bnd_s]
  ·rintro i e0 ys he hy hi
   simp only
   rw [cnd_t (ltI_in he), getI_nat, he, bnd_s]
   simp only [F_laws_toIntS, if_pos (hm _ (List.mem_of_getElem? he)), chkI_len hi, bnd_s, addN_0, getN, hi, takI_id, lenN_setL, fulI_id, next_i he (by omega)]
   rfl
  ·simp only
   rw [cnd_f (ltI_end x)]
 ·cases h
theorem f_laws_eqIntSS (x : (List (List Int)) × (List (List Int))) (y : Bool) (h : F_laws_eqIntSS x = some y) : G_laws_eqIntSS FUEL x = some y := by
 obtain ⟨a, b⟩ := x
 simp only [F_laws_eqIntSS] at h
 split at h
 ·rename_i hl
  rw [← h]
  obtain ⟨hl, hm⟩ := sz_IntSS_mem hl
  exact eq_loop F_laws_eqIntS a b (fun e he b => show (if sz_IntS e ≤ 1048576 then some (decide (e = b)) else none) = _ from if_pos (hm e he)) (by omega)
 ·cases h
theorem f_laws_szTensor (x : ((List Int) × (List Int) × (List Int)) × Int) (y : Int) (h : F_laws_szTensor x = some y) : G_laws_szTensor FUEL x = some y := by
 obtain ⟨⟨a0, a1, a2⟩, k⟩ := x
 simp only [F_laws_szTensor] at h
 split at h
 ·rename_i hc
  obtain ⟨⟨k0, k1⟩, hw⟩ := hc
  simp only [wf_Tensor, Bool.and_eq_true] at hw
  rw [← h]
  simp only [G_laws_szTensor]
  rw [szK (o := F_laws_szIntS (a0, k)) (s := sz_IntS a0) (if_pos ⟨by constructor <;> omega, hw.1.1⟩)]
  by_cases c0 : ((sz_IntS a0 : Nat) : Int) ≤ k
  ·rw [if_pos c0]
   rw [szK (o := F_laws_szIntS (a1, k - sz_IntS a0)) (s := sz_IntS a1) (if_pos ⟨by constructor <;> omega, hw.1.2⟩)]
   by_cases c1 : ((sz_IntS a1 : Nat) : Int) ≤ k - sz_IntS a0
   ·rw [if_pos c1]
    rw [szK (o := F_laws_szIntS (a2, k - sz_IntS a0 - sz_IntS a1)) (s := sz_IntS a2) (if_pos ⟨by constructor <;> omega, hw.2⟩)]
    by_cases c2 : ((sz_IntS a2 : Nat) : Int) ≤ k - sz_IntS a0 - sz_IntS a1
    ·rw [if_pos c2]
     show _ = some (szR (sz_IntS a0 + sz_IntS a1 + sz_IntS a2) k)
     rw [szR_t (by omega)]
     exact congrArg some (by omega)
    ·rw [if_neg c2]
     show _ = some (szR (sz_IntS a0 + sz_IntS a1 + sz_IntS a2) k)
     rw [szR_f (by omega)]
   ·rw [if_neg c1]
    show _ = some (szR (sz_IntS a0 + sz_IntS a1 + sz_IntS a2) k)
    rw [szR_f (by omega)]
  ·rw [if_neg c0]
   show _ = some (szR (sz_IntS a0 + sz_IntS a1 + sz_IntS a2) k)
   rw [szR_f (by omega)]
 ·cases h
theorem f_laws_toTensor (x y : (List Int) × (List Int) × (List Int)) (h : F_laws_toTensor x = some y) : G_laws_toTensor FUEL x = some y := by
 obtain ⟨a0, a1, a2⟩ := x
 simp only [F_laws_toTensor] at h
 split at h
 ·rename_i hl
  rw [← h]
  simp only [sz_Tensor] at hl
  simp only [G_laws_toTensor, F_laws_toIntS, if_pos (show sz_IntS a0 ≤ 1048576 by omega), if_pos (show sz_IntS a1 ≤ 1048576 by omega), if_pos (show sz_IntS a2 ≤ 1048576 by omega), bnd_s, takI_id]
 ·cases h
theorem f_laws_eqTensor (x : ((List Int) × (List Int) × (List Int)) × ((List Int) × (List Int) × (List Int))) (y : Bool) (h : F_laws_eqTensor x = some y) : G_laws_eqTensor FUEL x = some y := by
 obtain ⟨⟨a0, a1, a2⟩, b0, b1, b2⟩ := x
 simp only [F_laws_eqTensor] at h
 split at h
 ·rename_i hl
  rw [← h]
  simp only [sz_Tensor] at hl
  simp only [G_laws_eqTensor, F_laws_eqIntS, if_pos (show sz_IntS a0 ≤ 1048576 by omega), if_pos (show sz_IntS a1 ≤ 1048576 by omega), if_pos (show sz_IntS a2 ≤ 1048576 by omega), bnd_s]
  by_cases e0 : a0 = b0 <;> by_cases e1 : a1 = b1 <;> by_cases e2 : a2 = b2 <;> simp [neI_d, notB, cnd, *]
 ·cases h
theorem f_laws_szCharges (x : (Int × (List (List Int))) × Int) (y : Int) (h : F_laws_szCharges x = some y) : G_laws_szCharges FUEL x = some y := by
 obtain ⟨⟨a0, a1⟩, k⟩ := x
 simp only [F_laws_szCharges] at h
 split at h
 ·rename_i hc
  obtain ⟨⟨k0, k1⟩, hw⟩ := hc
  simp only [wf_Charges] at hw
  rw [← h]
  simp only [G_laws_szCharges]
  rw [szK (o := F_laws_szIntSS (a1, k)) (s := sz_IntSS a1) (if_pos ⟨by constructor <;> omega, hw⟩)]
  by_cases c0 : ((sz_IntSS a1 : Nat) : Int) ≤ k
  ·rw [if_pos c0]
   show _ = some (szR (sz_IntSS a1) k)
   rw [szR_t (by omega)]
  ·rw [if_neg c0]
   show _ = some (szR (sz_IntSS a1) k)
   rw [szR_f (by omega)]
 ·cases h
theorem f_laws_toCharges (x y : Int × (List (List Int))) (h : F_laws_toCharges x = some y) : G_laws_toCharges FUEL x = some y := by
 obtain ⟨a0, a1⟩ := x
 simp only [F_laws_toCharges] at h
 split at h
 ·rename_i hl
  rw [← h]
  simp only [sz_Charges] at hl
  simp only [G_laws_toCharges, F_laws_toIntSS, if_pos (show sz_IntSS a1 ≤ 1048576 by omega), bnd_s, takI_id]
 ·cases h
theorem f_laws_eqCharges (x : (Int × (List (List Int))) × (Int × (List (List Int)))) (y : Bool) (h : F_laws_eqCharges x = some y) : G_laws_eqCharges FUEL x = some y := by
 obtain ⟨⟨a0, a1⟩, b0, b1⟩ := x
 simp only [F_laws_eqCharges] at h
 split at h
 ·rename_i hl
  rw [← h]
  simp only [sz_Charges] at hl
  simp only [G_laws_eqCharges, F_laws_eqIntSS, if_pos (show sz_IntSS a1 ≤ 1048576 by omega), bnd_s]
  by_cases e0 : a0 = b0 <;> by_cases e1 : a1 = b1 <;> simp [neI_d, notB, cnd, *]
 ·cases h
theorem eqs_Tensor (x : (List Int) × (List Int) × (List Int)) (h : sz_Tensor x ≤ 1048576) : F_laws_eqTensor (x, x) = some true := by
 have := show F_laws_eqTensor (x, x) = if sz_Tensor x ≤ 1048576 then some (decide (x = x)) else none from rfl
 rw [this, if_pos h, decide_eq_true rfl]
theorem tos_Tensor (x : (List Int) × (List Int) × (List Int)) (h : sz_Tensor x ≤ 1048576) : F_laws_toTensor x = some x := if_pos h
theorem eqs_Charges (x : Int × (List (List Int))) (h : sz_Charges x ≤ 1048576) : F_laws_eqCharges (x, x) = some true := by
 have := show F_laws_eqCharges (x, x) = if sz_Charges x ≤ 1048576 then some (decide (x = x)) else none from rfl
 rw [this, if_pos h, decide_eq_true rfl]
theorem tos_Charges (x : Int × (List (List Int))) (h : sz_Charges x ≤ 1048576) : F_laws_toCharges x = some x := if_pos h
theorem sz_IntS_eq (l : List Int) : sz_IntS l = l.length + (l.map (fun _ => 0)).sum := by
 simp [sz_IntS, sum0]
theorem c4_IntS (l : List Int) : cnt_IntS l ≤ 4 * sz_IntS l := by
 rw [sz_IntS_eq]; exact cntL_le (fun _ => 1) (fun _ => 0) (fun e => by omega) l
theorem smk_IntS (l : List Int) (k : Int) : sz_IntS (mk_IntS l k) = sz_IntS l := by
 rw [sz_IntS_eq, sz_IntS_eq, mk_IntS, mkL_length, sum_map_mkL (fun _ => 1) (fun _ k => k) (fun _ => 0) (fun _ _ => rfl)]
theorem cmk_IntS (l : List Int) (k : Int) : cnt_IntS (mk_IntS l k) = cnt_IntS l := sum_map_mkL (fun _ => 1) (fun _ k => k) (fun _ => 1) (fun _ _ => rfl) l k
theorem mmk_IntS (l : List Int) (k : Int) : mk_IntS (mk_IntS l k) k = mk_IntS l k := mkL_mkL (fun _ => 1) (fun _ k => k) (fun _ _ => rfl) (fun _ _ => rfl) l k
theorem lmk_IntS (l : List Int) (k : Int) : (mk_IntS l k).length = l.length := mkL_length _ _ _ _
theorem f_laws_markIntS (x : (List Int) × Int) (y : Int × (List Int)) (h : F_laws_markIntS x = some y) : G_laws_markIntS FUEL x = some y := by
 obtain ⟨l, k⟩ := x
 simp only [F_laws_markIntS] at h
 split at h
 ·rename_i hc
  obtain ⟨hk, hb⟩ := hc
  rw [sz_IntS_eq] at hb
  rw [← h]
  simp only [G_laws_markIntS, fulI_id, bnd_s]
  rw [mark_loop l (fun _ => 1) (fun _ => 0) (fun _ k => k) k (r := Sum.inl (k + (cnt_IntS l : Nat), mk_IntS l k)) (fun e => by omega) hk hb ?_ ?_]
  ·rw [joinK_l]
   simp only
   rw [samI_ok (show lenN (mk_IntS l k) = lenN l from lmk_IntS l k), bnd_s]
  ·intro i e ys k' he hy hi h0 hM
   have hgi : getN ys i = some e := hi
   simp only
   rw [cnd_t (ltI_in hi), next_i hi (by omega)]
   simp only [chkI_len hi, bnd_s, addN_0, hgi, lenN_setL, fulI_id]
   have e1 : addI .i64 k' 1 = k' + 1 := addI_eq (by omega) (by omega)
   simp only [e1]
   rfl
  ·simp only
   rw [cnd_f (ltI_f (by have := lmk_IntS l k; have h2 := nl (mk_IntS l k); unfold mk_IntS at this h2; omega))]
   rfl
 ·cases h
theorem f_laws_heldIntS (x : (List Int) × Int) (y : Int) (h : F_laws_heldIntS x = some y) : G_laws_heldIntS FUEL x = some y := by
 obtain ⟨l, k⟩ := x
 simp only [F_laws_heldIntS] at h
 split at h
 ·rename_i hc
  obtain ⟨hk, hb⟩ := hc
  rw [sz_IntS_eq] at hb
  rw [← h]
  simp only [G_laws_heldIntS]
  rw [held_loop l (fun _ => 1) (fun _ => 0) (fun _ k => k) k (fun e => by omega) hk hb ?_ ?_]
  ·unfold mk_IntS cnt_IntS
   by_cases hq : l = mkL (fun _ => 1) (fun _ k => k) l k
   ·rw [if_pos hq, if_pos hq, joinK_l]
   ·rw [if_neg hq, if_neg hq, joinK_r]
  ·intro i e k' he h0 hM
   simp only
   rw [cnd_t (ltI_in he), getI_nat, he, bnd_s]
   have e1 : addI .i64 k' 1 = k' + 1 := addI_eq (by omega) (by omega)
   rw [e1, next_i he (by omega)]
   by_cases hq : e = k'
   ·rw [cnd_f (neI_f hq), if_pos hq]; rfl
   ·rw [cnd_t (neI_t hq), if_neg hq]
  ·intro k'
   simp only
   rw [cnd_f (ltI_end l)]
 ·cases h
theorem sz_IntSS_eq (l : List (List Int)) : sz_IntSS l = l.length + (l.map sz_IntS).sum := by
 rfl
theorem c4_IntSS (l : List (List Int)) : cnt_IntSS l ≤ 4 * sz_IntSS l := by
 rw [sz_IntSS_eq]; exact cntL_le cnt_IntS sz_IntS (fun e => by have := c4_IntS e; omega) l
theorem lmk_IntSS (l : List (List Int)) (k : Int) : (mk_IntSS l k).length = l.length := mkL_length _ _ _ _
theorem f_laws_markIntSS (x : (List (List Int)) × Int) (y : Int × (List (List Int))) (h : F_laws_markIntSS x = some y) : G_laws_markIntSS FUEL x = some y := by
 obtain ⟨l, k⟩ := x
 simp only [F_laws_markIntSS] at h
 split at h
 ·rename_i hc
  obtain ⟨hk, hb⟩ := hc
  rw [sz_IntSS_eq] at hb
  rw [← h]
  simp only [G_laws_markIntSS, fulI_id, bnd_s]
  rw [mark_loop l cnt_IntS sz_IntS mk_IntS k (r := Sum.inl (k + (cnt_IntSS l : Nat), mk_IntSS l k)) (fun e => by have := c4_IntS e; omega) hk hb ?_ ?_]
  ·rw [joinK_l]
   simp only
   rw [samI_ok (show lenN (mk_IntSS l k) = lenN l from lmk_IntSS l k), bnd_s]
  ·rintro i e0 ys k' he hy hi h0 hM
   have hgi : getN ys i = some e0 := hi
   simp only
   rw [cnd_t (ltI_in hi), next_i hi (by omega)]
   simp only [chkI_len hi, bnd_s, addN_0, hgi, lenN_setL, fulI_id]
   have c4e0 := c4_IntS e0
   have E0 : F_laws_markIntS (e0, k') = some (k' + (cnt_IntS e0 : Nat), mk_IntS e0 (k')) := if_pos ⟨by omega, by omega⟩
   simp only [E0, bnd_s, getN_set hi, setL_setL, lenN_setL, fulI_id]
   refine congrArg some (congrArg Sum.inl (Prod.ext (Prod.ext ?_ rfl) rfl))
   simp only [cnt_IntS]
  ·simp only
   rw [cnd_f (ltI_f (by have := lmk_IntSS l k; have h2 := nl (mk_IntSS l k); unfold mk_IntSS at this h2; omega))]
   rfl
 ·cases h
theorem smk_Tensor (x : (List Int) × (List Int) × (List Int)) (k : Int) : sz_Tensor (mk_Tensor x k) = sz_Tensor x := by
 obtain ⟨a0, a1, a2⟩ := x
 simp only [mk_Tensor, sz_Tensor, smk_IntS]
theorem f_laws_markTensor (x : ((List Int) × (List Int) × (List Int)) × Int) (y : Int × (List Int) × (List Int) × (List Int)) (h : F_laws_markTensor x = some y) : G_laws_markTensor FUEL x = some y := by
 obtain ⟨⟨a0, a1, a2⟩, k⟩ := x
 simp only [F_laws_markTensor] at h
 split at h
 ·rename_i hc
  obtain ⟨hk, hb⟩ := hc
  simp only [sz_Tensor] at hb
  have c4a0 := c4_IntS a0
  have c4a1 := c4_IntS a1
  have c4a2 := c4_IntS a2
  rw [← h]
  have e0 : F_laws_markIntS (a0, k) = some (k + (cnt_IntS a0 : Nat), mk_IntS a0 (k)) := if_pos ⟨by omega, by omega⟩
  have e1 : F_laws_markIntS (a1, k + (cnt_IntS a0 : Nat)) = some (k + (cnt_IntS a0 : Nat) + (cnt_IntS a1 : Nat), mk_IntS a1 (k + (cnt_IntS a0 : Nat))) := if_pos ⟨by omega, by omega⟩
  have e2 : F_laws_markIntS (a2, k + (cnt_IntS a0 : Nat) + (cnt_IntS a1 : Nat)) = some (k + (cnt_IntS a0 : Nat) + (cnt_IntS a1 : Nat) + (cnt_IntS a2 : Nat), mk_IntS a2 (k + (cnt_IntS a0 : Nat) + (cnt_IntS a1 : Nat))) := if_pos ⟨by omega, by omega⟩
  simp only [G_laws_markTensor, fulI_id, bnd_s, e0, e1, e2, samI_ok (show lenN (mk_IntS a0 (k)) = lenN a0 from lmk_IntS a0 (k)), samI_ok (show lenN (mk_IntS a1 (k + (cnt_IntS a0 : Nat))) = lenN a1 from lmk_IntS a1 (k + (cnt_IntS a0 : Nat))), samI_ok (show lenN (mk_IntS a2 (k + (cnt_IntS a0 : Nat) + (cnt_IntS a1 : Nat))) = lenN a2 from lmk_IntS a2 (k + (cnt_IntS a0 : Nat) + (cnt_IntS a1 : Nat)))]
 ·cases h
theorem f_laws_heldTensor (x : ((List Int) × (List Int) × (List Int)) × Int) (y : Int) (h : F_laws_heldTensor x = some y) : G_laws_heldTensor FUEL x = some y := by
 obtain ⟨⟨a0, a1, a2⟩, k⟩ := x
 simp only [F_laws_heldTensor] at h
 split at h
 ·rename_i hc
  obtain ⟨hk, hb⟩ := hc
  simp only [sz_Tensor] at hb
  have c4a0 := c4_IntS a0
  have c4a1 := c4_IntS a1
  have c4a2 := c4_IntS a2
  rw [← h]
  have e0 : F_laws_heldIntS (a0, k) = some (if a0 = mk_IntS a0 (k) then k + (cnt_IntS a0 : Nat) else -1) := if_pos ⟨by omega, by omega⟩
  have e1 : F_laws_heldIntS (a1, k + (cnt_IntS a0 : Nat)) = some (if a1 = mk_IntS a1 (k + (cnt_IntS a0 : Nat)) then k + (cnt_IntS a0 : Nat) + (cnt_IntS a1 : Nat) else -1) := if_pos ⟨by omega, by omega⟩
  have e2 : F_laws_heldIntS (a2, k + (cnt_IntS a0 : Nat) + (cnt_IntS a1 : Nat)) = some (if a2 = mk_IntS a2 (k + (cnt_IntS a0 : Nat) + (cnt_IntS a1 : Nat)) then k + (cnt_IntS a0 : Nat) + (cnt_IntS a1 : Nat) + (cnt_IntS a2 : Nat) else -1) := if_pos ⟨by omega, by omega⟩
  simp only [G_laws_heldTensor]
  rw [heldK (by omega) e0]
  by_cases q0 : a0 = mk_IntS a0 (k)
  case neg => rw [if_neg q0, if_neg (fun h => q0 h.1)]
  rw [if_pos q0]
  rw [heldK (by omega) e1]
  by_cases q1 : a1 = mk_IntS a1 (k + (cnt_IntS a0 : Nat))
  case neg => rw [if_neg q1, if_neg (fun h => q1 h.2.1)]
  rw [if_pos q1]
  rw [heldK (by omega) e2]
  by_cases q2 : a2 = mk_IntS a2 (k + (cnt_IntS a0 : Nat) + (cnt_IntS a1 : Nat))
  case neg => rw [if_neg q2, if_neg (fun h => q2 h.2.2)]
  rw [if_pos q2]
  rw [if_pos ⟨q0, q1, q2⟩]
 ·cases h
theorem f_laws_markCharges (x : (Int × (List (List Int))) × Int) (y : Int × (List (List Int))) (h : F_laws_markCharges x = some y) : G_laws_markCharges FUEL x = some y := by
 obtain ⟨⟨a0, a1⟩, k⟩ := x
 simp only [F_laws_markCharges] at h
 split at h
 ·rename_i hc
  obtain ⟨hk, hb⟩ := hc
  simp only [sz_Charges] at hb
  have c4a1 := c4_IntSS a1
  rw [← h]
  have e0 : F_laws_markIntSS (a1, k) = some (k + (cnt_IntSS a1 : Nat), mk_IntSS a1 (k)) := if_pos ⟨by omega, by omega⟩
  simp only [G_laws_markCharges, fulI_id, bnd_s, e0, samI_ok (show lenN (mk_IntSS a1 (k)) = lenN a1 from lmk_IntSS a1 (k))]
 ·cases h
theorem hd_Tensor (x : (List Int) × (List Int) × (List Int)) (k : Int) (h : 0 ≤ k ∧ k + 4 * (sz_Tensor x : Nat) ≤ 1099511627776) : F_laws_heldTensor (mk_Tensor x k, k) = some (match x with | (a0, a1, a2) => k + (cnt_IntS a0 : Nat) + (cnt_IntS a1 : Nat) + (cnt_IntS a2 : Nat)) := by
 obtain ⟨a0, a1, a2⟩ := x
 have := show F_laws_heldTensor ((mk_IntS a0 (k), mk_IntS a1 (k + (cnt_IntS a0 : Nat)), mk_IntS a2 (k + (cnt_IntS a0 : Nat) + (cnt_IntS a1 : Nat))), k) = if 0 ≤ k ∧ k + 4 * (sz_Tensor (mk_Tensor (a0, a1, a2) k) : Nat) ≤ 1099511627776 then some (if mk_IntS a0 (k) = mk_IntS (mk_IntS a0 (k)) (k) ∧ mk_IntS a1 (k + (cnt_IntS a0 : Nat)) = mk_IntS (mk_IntS a1 (k + (cnt_IntS a0 : Nat))) (k + (cnt_IntS (mk_IntS a0 (k)) : Nat)) ∧ mk_IntS a2 (k + (cnt_IntS a0 : Nat) + (cnt_IntS a1 : Nat)) = mk_IntS (mk_IntS a2 (k + (cnt_IntS a0 : Nat) + (cnt_IntS a1 : Nat))) (k + (cnt_IntS (mk_IntS a0 (k)) : Nat) + (cnt_IntS (mk_IntS a1 (k + (cnt_IntS a0 : Nat))) : Nat)) then k + (cnt_IntS (mk_IntS a0 (k)) : Nat) + (cnt_IntS (mk_IntS a1 (k + (cnt_IntS a0 : Nat))) : Nat) + (cnt_IntS (mk_IntS a2 (k + (cnt_IntS a0 : Nat) + (cnt_IntS a1 : Nat))) : Nat) else -1) else none from rfl
 refine this.trans ?_
 rw [smk_Tensor, if_pos h]
 simp only [mmk_IntS, cmk_IntS, and_self, if_true]
end Go.Am