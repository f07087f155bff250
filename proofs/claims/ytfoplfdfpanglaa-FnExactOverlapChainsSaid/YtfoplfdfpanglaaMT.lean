/- MT: sizes, copies, comparisons and marks of the laws' types. No condition. -/
import Derived.Test.YtfoplfdfpanglaaB2
set_option linter.unusedVariables false
set_option linter.unusedSimpArgs false
set_option synthInstance.maxSize 1000
set_option synthInstance.maxHeartbeats 400000
namespace Go.Am
def sz_IntS (l : List Int) : Nat := l.length
def wf_IntS (l : List Int) : Bool := decide (l.length ≤ 9223372036854775807)
def F_laws_szIntS : (List Int) × Int → Option Int := fun ((x, k) : (List Int) × Int) => if kOk k ∧ wf_IntS x = true then some (szR (sz_IntS x) k) else none
def F_laws_toIntS : (List Int) → Option (List Int) := fun (x : List Int) => if sz_IntS x ≤ 1048576 then some x else none
def F_laws_eqIntS : (List Int) × (List Int) → Option Bool := fun ((x, y) : (List Int) × (List Int)) => if sz_IntS x ≤ 1048576 then some (decide (x = y)) else none

def sz_Matrix (x : Int × Int × (List Int)) : Nat := match x with | (a0, a1, a2) => sz_IntS a2
def wf_Matrix (x : Int × Int × (List Int)) : Bool := match x with | (a0, a1, a2) => wf_IntS a2
def F_laws_szMatrix : (Int × Int × (List Int)) × Int → Option Int := fun ((x, k) : (Int × Int × (List Int)) × Int) => if kOk k ∧ wf_Matrix x = true then some (szR (sz_Matrix x) k) else none
def F_laws_toMatrix : (Int × Int × (List Int)) → Option (Int × Int × (List Int)) := fun (x : Int × Int × (List Int)) => if sz_Matrix x ≤ 1048576 then some x else none
def F_laws_eqMatrix : (Int × Int × (List Int)) × (Int × Int × (List Int)) → Option Bool := fun ((x, y) : (Int × Int × (List Int)) × (Int × Int × (List Int))) => if sz_Matrix x ≤ 1048576 then some (decide (x = y)) else none

def sz_Site (x : Int × Int × Int × (List Int)) : Nat := match x with | (a0, a1, a2, a3) => sz_IntS a3
def wf_Site (x : Int × Int × Int × (List Int)) : Bool := match x with | (a0, a1, a2, a3) => wf_IntS a3
def F_laws_szSite : (Int × Int × Int × (List Int)) × Int → Option Int := fun ((x, k) : (Int × Int × Int × (List Int)) × Int) => if kOk k ∧ wf_Site x = true then some (szR (sz_Site x) k) else none
def F_laws_toSite : (Int × Int × Int × (List Int)) → Option (Int × Int × Int × (List Int)) := fun (x : Int × Int × Int × (List Int)) => if sz_Site x ≤ 1048576 then some x else none
def F_laws_eqSite : (Int × Int × Int × (List Int)) × (Int × Int × Int × (List Int)) → Option Bool := fun ((x, y) : (Int × Int × Int × (List Int)) × (Int × Int × Int × (List Int))) => if sz_Site x ≤ 1048576 then some (decide (x = y)) else none

def sz_SiteS (l : List (Int × Int × Int × (List Int))) : Nat := l.length + (l.map sz_Site).sum
def wf_SiteS (l : List (Int × Int × Int × (List Int))) : Bool := decide (l.length ≤ 9223372036854775807) && l.all wf_Site
def F_laws_szSiteS : (List (Int × Int × Int × (List Int))) × Int → Option Int := fun ((x, k) : (List (Int × Int × Int × (List Int))) × Int) => if kOk k ∧ wf_SiteS x = true then some (szR (sz_SiteS x) k) else none
def F_laws_toSiteS : (List (Int × Int × Int × (List Int))) → Option (List (Int × Int × Int × (List Int))) := fun (x : List (Int × Int × Int × (List Int))) => if sz_SiteS x ≤ 1048576 then some x else none
def F_laws_eqSiteS : (List (Int × Int × Int × (List Int))) × (List (Int × Int × Int × (List Int))) → Option Bool := fun ((x, y) : (List (Int × Int × Int × (List Int))) × (List (Int × Int × Int × (List Int)))) => if sz_SiteS x ≤ 1048576 then some (decide (x = y)) else none

def sz_Chain (x : Int × (List (Int × Int × Int × (List Int)))) : Nat := match x with | (a0, a1) => sz_SiteS a1
def wf_Chain (x : Int × (List (Int × Int × Int × (List Int)))) : Bool := match x with | (a0, a1) => wf_SiteS a1
def F_laws_szChain : (Int × (List (Int × Int × Int × (List Int)))) × Int → Option Int := fun ((x, k) : (Int × (List (Int × Int × Int × (List Int)))) × Int) => if kOk k ∧ wf_Chain x = true then some (szR (sz_Chain x) k) else none
def F_laws_toChain : (Int × (List (Int × Int × Int × (List Int)))) → Option (Int × (List (Int × Int × Int × (List Int)))) := fun (x : Int × (List (Int × Int × Int × (List Int)))) => if sz_Chain x ≤ 1048576 then some x else none
def F_laws_eqChain : (Int × (List (Int × Int × Int × (List Int)))) × (Int × (List (Int × Int × Int × (List Int)))) → Option Bool := fun ((x, y) : (Int × (List (Int × Int × Int × (List Int)))) × (Int × (List (Int × Int × Int × (List Int))))) => if sz_Chain x ≤ 1048576 then some (decide (x = y)) else none

def cnt_IntS (l : List Int) : Nat := cntL (fun _ => 1) l
def mk_IntS (l : List Int) (k : Int) : List Int := mkL (fun _ => 1) (fun _ k => k) l k
def F_laws_markMatrix : (Int × Int × (List Int)) × Int → Option (Int × (List Int)) := fun (((a0, a1, a2), k) : (Int × Int × (List Int)) × Int) => if 0 ≤ k ∧ k + 4 * (sz_Matrix (a0, a1, a2) : Nat) ≤ 1099511627776 then some (k + (cnt_IntS a2 : Nat), mk_IntS a2 (k)) else none
def cntE_Site (x : Int × Int × Int × (List Int)) : Nat := match x with | (a0, a1, a2, a3) => 1 + 1 + 1 + cnt_IntS a3
def mkE_Site (x : Int × Int × Int × (List Int)) (k : Int) : Int × Int × Int × (List Int) := match x with | (a0, a1, a2, a3) => (k, k + 1, k + 1 + 1, mk_IntS a3 (k + 1 + 1 + 1))
def cnt_SiteS (l : List (Int × Int × Int × (List Int))) : Nat := cntL cntE_Site l
def mk_SiteS (l : List (Int × Int × Int × (List Int))) (k : Int) : List (Int × Int × Int × (List Int)) := mkL cntE_Site mkE_Site l k
def F_laws_markChain : (Int × (List (Int × Int × Int × (List Int)))) × Int → Option (Int × (List (Int × Int × Int × (List Int)))) := fun (((a0, a1), k) : (Int × (List (Int × Int × Int × (List Int)))) × Int) => if 0 ≤ k ∧ k + 4 * (sz_Chain (a0, a1) : Nat) ≤ 1099511627776 then some (k + (cnt_SiteS a1 : Nat), mk_SiteS a1 (k)) else none
def ag_laws_szIntS : Sig := [(.one, [.list [.int .i64]]), (.one, [.int .i64])]
def rs_laws_szIntS : Sig := [(.one, [.int .i64])]
def mu_laws_szIntS : MSig := []
def ag_laws_toIntS : Sig := [(.one, [.list [.int .i64]])]
def rs_laws_toIntS : Sig := [(.one, [.list [.int .i64]])]
def mu_laws_toIntS : MSig := []
def ag_laws_eqIntS : Sig := [(.one, [.list [.int .i64]]), (.one, [.list [.int .i64]])]
def rs_laws_eqIntS : Sig := [(.one, [.bool])]
def mu_laws_eqIntS : MSig := []
def ag_laws_szMatrix : Sig := [(.agg, [.int .i64, .int .i64, .list [.int .i64]]), (.one, [.int .i64])]
def rs_laws_szMatrix : Sig := [(.one, [.int .i64])]
def mu_laws_szMatrix : MSig := []
def ag_laws_toMatrix : Sig := [(.agg, [.int .i64, .int .i64, .list [.int .i64]])]
def rs_laws_toMatrix : Sig := [(.agg, [.int .i64, .int .i64, .list [.int .i64]])]
def mu_laws_toMatrix : MSig := []
def ag_laws_eqMatrix : Sig := [(.agg, [.int .i64, .int .i64, .list [.int .i64]]), (.agg, [.int .i64, .int .i64, .list [.int .i64]])]
def rs_laws_eqMatrix : Sig := [(.one, [.bool])]
def mu_laws_eqMatrix : MSig := []
def ag_laws_szSite : Sig := [(.agg, [.int .i64, .int .i64, .int .i64, .list [.int .i64]]), (.one, [.int .i64])]
def rs_laws_szSite : Sig := [(.one, [.int .i64])]
def mu_laws_szSite : MSig := []
def ag_laws_toSite : Sig := [(.agg, [.int .i64, .int .i64, .int .i64, .list [.int .i64]])]
def rs_laws_toSite : Sig := [(.agg, [.int .i64, .int .i64, .int .i64, .list [.int .i64]])]
def mu_laws_toSite : MSig := []
def ag_laws_eqSite : Sig := [(.agg, [.int .i64, .int .i64, .int .i64, .list [.int .i64]]), (.agg, [.int .i64, .int .i64, .int .i64, .list [.int .i64]])]
def rs_laws_eqSite : Sig := [(.one, [.bool])]
def mu_laws_eqSite : MSig := []
def ag_laws_szSiteS : Sig := [(.one, [.list [.int .i64, .int .i64, .int .i64, .list [.int .i64]]]), (.one, [.int .i64])]
def rs_laws_szSiteS : Sig := [(.one, [.int .i64])]
def mu_laws_szSiteS : MSig := []
def ag_laws_toSiteS : Sig := [(.one, [.list [.int .i64, .int .i64, .int .i64, .list [.int .i64]]])]
def rs_laws_toSiteS : Sig := [(.one, [.list [.int .i64, .int .i64, .int .i64, .list [.int .i64]]])]
def mu_laws_toSiteS : MSig := []
def ag_laws_eqSiteS : Sig := [(.one, [.list [.int .i64, .int .i64, .int .i64, .list [.int .i64]]]), (.one, [.list [.int .i64, .int .i64, .int .i64, .list [.int .i64]]])]
def rs_laws_eqSiteS : Sig := [(.one, [.bool])]
def mu_laws_eqSiteS : MSig := []
def ag_laws_szChain : Sig := [(.agg, [.int .i64, .list [.int .i64, .int .i64, .int .i64, .list [.int .i64]]]), (.one, [.int .i64])]
def rs_laws_szChain : Sig := [(.one, [.int .i64])]
def mu_laws_szChain : MSig := []
def ag_laws_toChain : Sig := [(.agg, [.int .i64, .list [.int .i64, .int .i64, .int .i64, .list [.int .i64]]])]
def rs_laws_toChain : Sig := [(.agg, [.int .i64, .list [.int .i64, .int .i64, .int .i64, .list [.int .i64]]])]
def mu_laws_toChain : MSig := []
def ag_laws_eqChain : Sig := [(.agg, [.int .i64, .list [.int .i64, .int .i64, .int .i64, .list [.int .i64]]]), (.agg, [.int .i64, .list [.int .i64, .int .i64, .int .i64, .list [.int .i64]]])]
def rs_laws_eqChain : Sig := [(.one, [.bool])]
def mu_laws_eqChain : MSig := []
def G_laws_szIntS (NN : Nat) : ((List Int) × Int) → (Option Int) :=
 (fun ((l0, i1) : ((List Int) × Int)) =>
 cnd (ltI (subI .i64 i1 (natI (lenN l0))) (0 : Int))
 (some ((-1 : Int)))
 (some (subI .i64 i1 (natI (lenN l0)))))

def G_laws_toIntS (NN : Nat) : (List Int) → (Option (List Int)) :=
 (fun (l0 : (List Int)) =>
 (mkI (natI (lenN l0)) (natI (lenN l0)) 8).bnd (fun k1 =>
 joinK ((fulI 0 k1 (lenN (repL k1 (0 : Int)))).bnd (fun _ =>
 loopT NN (fun (((l2, i3), l4) : (((List Int) × Int) × (List Int))) =>
 cnd (ltI i3 (natI (lenN l2)))
 ((getI l2 i3).bnd (fun i5 =>
 (chkI i3 (lenN l4)).bnd (fun k6 =>
 (getN l4 (addN 0 k6)).bnd (fun i7 =>
 (fulI 0 (lenN l4) (lenN (setL l4 (addN 0 k6) i5))).bnd (fun _ =>
 some (Sum.inl ((l2, addI .i64 i3 1), setL l4 (addN 0 k6) i5)))))))
 (((fulI 0 (lenN l4) (lenN l4)).bnd (fun _ =>
 some (Sum.inl l4))).bnd (fun l8 =>
 some (Sum.inr l8))))
 ((l0, (0 : Int)), repL k1 (0 : Int))))
 (fun l9 =>
 (takI l9 (lenN l9)).bnd (fun l10 =>
 some l10))))

def G_laws_eqIntS (NN : Nat) : ((List Int) × (List Int)) → (Option Bool) :=
 (fun ((l0, l1) : ((List Int) × (List Int))) =>
 cnd (neI (natI (lenN l0)) (natI (lenN l1)))
 (some false)
 (joinK (loopT NN (fun ((l2, l3, i4) : ((List Int) × ((List Int) × Int))) =>
 cnd (ltI i4 (natI (lenN l2)))
 ((getI l2 i4).bnd (fun i5 =>
 (getI l3 i4).bnd (fun i6 =>
 cnd (neI i5 i6)
 (some (Sum.inr (Sum.inr false)))
 (some (Sum.inl (l2, l3, addI .i64 i4 1))))))
 (some (Sum.inr (Sum.inl ()))))
 (l0, l1, (0 : Int)))
 (fun _ =>
 some true)))

def G_laws_szMatrix (NN : Nat) : ((Int × (Int × (List Int))) × Int) → (Option Int) :=
 (fun (((i0, i1, l2), i3) : ((Int × (Int × (List Int))) × Int)) =>
 (F_laws_szIntS (l2, i3)).bnd (fun i4 =>
 cnd (ltI i4 (0 : Int))
 (some ((-1 : Int)))
 (some i4)))

def G_laws_toMatrix (NN : Nat) : (Int × (Int × (List Int))) → (Option (Int × (Int × (List Int)))) :=
 (fun ((i0, i1, l2) : (Int × (Int × (List Int)))) =>
 (F_laws_toIntS l2).bnd (fun l3 =>
 (takI l3 (lenN l3)).bnd (fun l4 =>
 some (i0, i1, l4))))

def G_laws_eqMatrix (NN : Nat) : ((Int × (Int × (List Int))) × (Int × (Int × (List Int)))) → (Option Bool) :=
 (fun (((i0, i1, l2), i3, i4, l5) : ((Int × (Int × (List Int))) × (Int × (Int × (List Int))))) =>
 cnd (neI i0 i3)
 (some false)
 (cnd (neI i1 i4)
 (some false)
 ((F_laws_eqIntS (l2, l5)).bnd (fun b6 =>
 cnd (notB b6)
 (some false)
 (some true)))))

def G_laws_szSite (NN : Nat) : ((Int × (Int × (Int × (List Int)))) × Int) → (Option Int) :=
 (fun (((i0, i1, i2, l3), i4) : ((Int × (Int × (Int × (List Int)))) × Int)) =>
 (F_laws_szIntS (l3, i4)).bnd (fun i5 =>
 cnd (ltI i5 (0 : Int))
 (some ((-1 : Int)))
 (some i5)))

def G_laws_toSite (NN : Nat) : (Int × (Int × (Int × (List Int)))) → (Option (Int × (Int × (Int × (List Int))))) :=
 (fun ((i0, i1, i2, l3) : (Int × (Int × (Int × (List Int))))) =>
 (F_laws_toIntS l3).bnd (fun l4 =>
 (takI l4 (lenN l4)).bnd (fun l5 =>
 some (i0, i1, i2, l5))))

def G_laws_eqSite (NN : Nat) : ((Int × (Int × (Int × (List Int)))) × (Int × (Int × (Int × (List Int))))) → (Option Bool) :=
 (fun (((i0, i1, i2, l3), i4, i5, i6, l7) : ((Int × (Int × (Int × (List Int)))) × (Int × (Int × (Int × (List Int)))))) =>
 cnd (neI i0 i4)
 (some false)
 (cnd (neI i1 i5)
 (some false)
 (cnd (neI i2 i6)
 (some false)
 ((F_laws_eqIntS (l3, l7)).bnd (fun b8 =>
 cnd (notB b8)
 (some false)
 (some true))))))

def G_laws_szSiteS (NN : Nat) : ((List (Int × (Int × (Int × (List Int))))) × Int) → (Option Int) :=
 (fun ((l0, i1) : ((List (Int × (Int × (Int × (List Int))))) × Int)) =>
 cnd (ltI (subI .i64 i1 (natI (lenN l0))) (0 : Int))
 (some ((-1 : Int)))
 (joinK (loopT NN (fun ((l2, i3, i4) : ((List (Int × (Int × (Int × (List Int))))) × (Int × Int))) =>
 cnd (ltI i4 (natI (lenN l2)))
 ((getI l2 i4).bnd (fun (i5, i6, i7, l8) =>
 (F_laws_szSite ((i5, i6, i7, l8), i3)).bnd (fun i9 =>
 cnd (ltI i9 (0 : Int))
 (some (Sum.inr (Sum.inr ((-1 : Int)))))
 (some (Sum.inl (l2, i9, addI .i64 i4 1))))))
 (some (Sum.inr (Sum.inl i3))))
 (l0, subI .i64 i1 (natI (lenN l0)), (0 : Int)))
 (fun i10 =>
 some i10)))

def G_laws_toSiteS (NN : Nat) : (List (Int × (Int × (Int × (List Int))))) → (Option (List (Int × (Int × (Int × (List Int)))))) :=
 (fun (l0 : (List (Int × (Int × (Int × (List Int)))))) =>
 (mkI (natI (lenN l0)) (natI (lenN l0)) 48).bnd (fun k1 =>
 joinK ((fulI 0 k1 (lenN (repL k1 ((0 : Int), (0 : Int), (0 : Int), ([] : List Int))))).bnd (fun _ =>
 loopT NN (fun (((l2, i3), l4) : (((List (Int × (Int × (Int × (List Int))))) × Int) × (List (Int × (Int × (Int × (List Int))))))) =>
 cnd (ltI i3 (natI (lenN l2)))
 ((getI l2 i3).bnd (fun (i5, i6, i7, l8) =>
 (F_laws_toSite (i5, i6, i7, l8)).bnd (fun (i9, i10, i11, l12) =>
 (chkI i3 (lenN l4)).bnd (fun k13 =>
 (getN l4 (addN 0 k13)).bnd (fun (i14, i15, i16, l17) =>
 (takI l12 (lenN l12)).bnd (fun l18 =>
 (fulI 0 (lenN l4) (lenN (setL l4 (addN 0 k13) (i9, i10, i11, l18)))).bnd (fun _ =>
 some (Sum.inl ((l2, addI .i64 i3 1), setL l4 (addN 0 k13) (i9, i10, i11, l18))))))))))
 (((fulI 0 (lenN l4) (lenN l4)).bnd (fun _ =>
 some (Sum.inl l4))).bnd (fun l19 =>
 some (Sum.inr l19))))
 ((l0, (0 : Int)), repL k1 ((0 : Int), (0 : Int), (0 : Int), ([] : List Int)))))
 (fun l20 =>
 (takI l20 (lenN l20)).bnd (fun l21 =>
 some l21))))

def G_laws_eqSiteS (NN : Nat) : ((List (Int × (Int × (Int × (List Int))))) × (List (Int × (Int × (Int × (List Int)))))) → (Option Bool) :=
 (fun ((l0, l1) : ((List (Int × (Int × (Int × (List Int))))) × (List (Int × (Int × (Int × (List Int))))))) =>
 cnd (neI (natI (lenN l0)) (natI (lenN l1)))
 (some false)
 (joinK (loopT NN (fun ((l2, l3, i4) : ((List (Int × (Int × (Int × (List Int))))) × ((List (Int × (Int × (Int × (List Int))))) × Int))) =>
 cnd (ltI i4 (natI (lenN l2)))
 ((getI l2 i4).bnd (fun (i5, i6, i7, l8) =>
 (getI l3 i4).bnd (fun (i9, i10, i11, l12) =>
 (F_laws_eqSite ((i5, i6, i7, l8), i9, i10, i11, l12)).bnd (fun b13 =>
 cnd (notB b13)
 (some (Sum.inr (Sum.inr false)))
 (some (Sum.inl (l2, l3, addI .i64 i4 1)))))))
 (some (Sum.inr (Sum.inl ()))))
 (l0, l1, (0 : Int)))
 (fun _ =>
 some true)))

def G_laws_szChain (NN : Nat) : ((Int × (List (Int × (Int × (Int × (List Int)))))) × Int) → (Option Int) :=
 (fun (((i0, l1), i2) : ((Int × (List (Int × (Int × (Int × (List Int)))))) × Int)) =>
 (F_laws_szSiteS (l1, i2)).bnd (fun i3 =>
 cnd (ltI i3 (0 : Int))
 (some ((-1 : Int)))
 (some i3)))

def G_laws_toChain (NN : Nat) : (Int × (List (Int × (Int × (Int × (List Int)))))) → (Option (Int × (List (Int × (Int × (Int × (List Int))))))) :=
 (fun ((i0, l1) : (Int × (List (Int × (Int × (Int × (List Int))))))) =>
 (F_laws_toSiteS l1).bnd (fun l2 =>
 (takI l2 (lenN l2)).bnd (fun l3 =>
 some (i0, l3))))

def G_laws_eqChain (NN : Nat) : ((Int × (List (Int × (Int × (Int × (List Int)))))) × (Int × (List (Int × (Int × (Int × (List Int))))))) → (Option Bool) :=
 (fun (((i0, l1), i2, l3) : ((Int × (List (Int × (Int × (Int × (List Int)))))) × (Int × (List (Int × (Int × (Int × (List Int)))))))) =>
 cnd (neI i0 i2)
 (some false)
 ((F_laws_eqSiteS (l1, l3)).bnd (fun b4 =>
 cnd (notB b4)
 (some false)
 (some true))))

theorem f_laws_szIntS (x : (List Int) × Int) (y : Int) (h : F_laws_szIntS x = some y) : G_laws_szIntS FUEL x = some y := by
  obtain ⟨l, k⟩ := x
  simp only [F_laws_szIntS] at h
  split at h
  · rename_i hc
    obtain ⟨⟨k0, k1⟩, hw⟩ := hc
    have hw := of_decide_eq_true hw
    rw [← h]
    have hn := nl l
    simp only [G_laws_szIntS]
    rw [subI_eq (by omega) (by omega)]
    show _ = some (szR l.length k)
    by_cases hs : (l.length : Int) ≤ k
    · rw [szR_t hs, cnd_f (ltI_f (by omega))]; rfl
    · rw [szR_f hs, cnd_t (ltI_t (by omega))]
  · cases h

theorem f_laws_toIntS (x y : List Int) (h : F_laws_toIntS x = some y) : G_laws_toIntS FUEL x = some y := by
  simp only [F_laws_toIntS] at h
  split at h
  · rename_i hl
    injection h with h
    subst h
    have hl : x.length ≤ 1048576 := hl
    simp only [G_laws_toIntS, mkI_nat (n := lenN x) (by_ := 8) (by simp only [lenN, maxBytes]; omega), bnd_s, lenN_repL, fulI_id]
    rw [fill_loop x 0 (r := Sum.inl x) ?_ ?_ (by omega)]
    · simp only [joinK_l, takI_id, bnd_s]
    · intro i e ys he hy hi
      simp only
      rw [cnd_t (ltI_in he), getI_nat, he, bnd_s]
      simp only [chkI_len hi, bnd_s, addN_0, getN, hi, lenN_setL, fulI_id, next_i he (by omega)]
      rfl
    · simp only
      rw [cnd_f (ltI_end x)]
  · cases h

theorem f_laws_eqIntS (x : (List Int) × (List Int)) (y : Bool) (h : F_laws_eqIntS x = some y) : G_laws_eqIntS FUEL x = some y := by
  obtain ⟨a, b⟩ := x
  simp only [F_laws_eqIntS] at h
  split at h
  · rename_i hl
    rw [← h]
    have hl : a.length ≤ 1048576 := hl
    exact eq_loopI a b (by omega)
  · cases h

theorem f_laws_szMatrix (x : (Int × Int × (List Int)) × Int) (y : Int) (h : F_laws_szMatrix x = some y) : G_laws_szMatrix FUEL x = some y := by
  obtain ⟨⟨a0, a1, a2⟩, k⟩ := x
  simp only [F_laws_szMatrix] at h
  split at h
  · rename_i hc
    obtain ⟨⟨k0, k1⟩, hw⟩ := hc
    simp only [wf_Matrix] at hw
    rw [← h]
    simp only [G_laws_szMatrix]
    rw [szK (o := F_laws_szIntS (a2, k)) (s := sz_IntS a2) (if_pos ⟨by constructor <;> omega, hw⟩)]
    by_cases c0 : ((sz_IntS a2 : Nat) : Int) ≤ k
    · rw [if_pos c0]
      show _ = some (szR (sz_IntS a2) k)
      rw [szR_t (by omega)]
    · rw [if_neg c0]
      show _ = some (szR (sz_IntS a2) k)
      rw [szR_f (by omega)]
  · cases h

theorem f_laws_toMatrix (x y : Int × Int × (List Int)) (h : F_laws_toMatrix x = some y) : G_laws_toMatrix FUEL x = some y := by
  obtain ⟨a0, a1, a2⟩ := x
  simp only [F_laws_toMatrix] at h
  split at h
  · rename_i hl
    rw [← h]
    simp only [sz_Matrix] at hl
    simp only [G_laws_toMatrix, F_laws_toIntS, if_pos (show sz_IntS a2 ≤ 1048576 by omega), bnd_s, takI_id]
  · cases h

theorem f_laws_eqMatrix (x : (Int × Int × (List Int)) × (Int × Int × (List Int))) (y : Bool) (h : F_laws_eqMatrix x = some y) : G_laws_eqMatrix FUEL x = some y := by
  obtain ⟨⟨a0, a1, a2⟩, b0, b1, b2⟩ := x
  simp only [F_laws_eqMatrix] at h
  split at h
  · rename_i hl
    rw [← h]
    simp only [sz_Matrix] at hl
    simp only [G_laws_eqMatrix, F_laws_eqIntS, if_pos (show sz_IntS a2 ≤ 1048576 by omega), bnd_s]
    by_cases e0 : a0 = b0 <;> by_cases e1 : a1 = b1 <;> by_cases e2 : a2 = b2 <;> simp [neI_d, notB, cnd, *]
  · cases h

theorem f_laws_szSite (x : (Int × Int × Int × (List Int)) × Int) (y : Int) (h : F_laws_szSite x = some y) : G_laws_szSite FUEL x = some y := by
  obtain ⟨⟨a0, a1, a2, a3⟩, k⟩ := x
  simp only [F_laws_szSite] at h
  split at h
  · rename_i hc
    obtain ⟨⟨k0, k1⟩, hw⟩ := hc
    simp only [wf_Site] at hw
    rw [← h]
    simp only [G_laws_szSite]
    rw [szK (o := F_laws_szIntS (a3, k)) (s := sz_IntS a3) (if_pos ⟨by constructor <;> omega, hw⟩)]
    by_cases c0 : ((sz_IntS a3 : Nat) : Int) ≤ k
    · rw [if_pos c0]
      show _ = some (szR (sz_IntS a3) k)
      rw [szR_t (by omega)]
    · rw [if_neg c0]
      show _ = some (szR (sz_IntS a3) k)
      rw [szR_f (by omega)]
  · cases h

theorem f_laws_toSite (x y : Int × Int × Int × (List Int)) (h : F_laws_toSite x = some y) : G_laws_toSite FUEL x = some y := by
  obtain ⟨a0, a1, a2, a3⟩ := x
  simp only [F_laws_toSite] at h
  split at h
  · rename_i hl
    rw [← h]
    simp only [sz_Site] at hl
    simp only [G_laws_toSite, F_laws_toIntS, if_pos (show sz_IntS a3 ≤ 1048576 by omega), bnd_s, takI_id]
  · cases h

theorem f_laws_eqSite (x : (Int × Int × Int × (List Int)) × (Int × Int × Int × (List Int))) (y : Bool) (h : F_laws_eqSite x = some y) : G_laws_eqSite FUEL x = some y := by
  obtain ⟨⟨a0, a1, a2, a3⟩, b0, b1, b2, b3⟩ := x
  simp only [F_laws_eqSite] at h
  split at h
  · rename_i hl
    rw [← h]
    simp only [sz_Site] at hl
    simp only [G_laws_eqSite, F_laws_eqIntS, if_pos (show sz_IntS a3 ≤ 1048576 by omega), bnd_s]
    by_cases e0 : a0 = b0 <;> by_cases e1 : a1 = b1 <;> by_cases e2 : a2 = b2 <;> by_cases e3 : a3 = b3 <;> simp [neI_d, notB, cnd, *]
  · cases h

theorem f_laws_szSiteS (x : (List (Int × Int × Int × (List Int))) × Int) (y : Int) (h : F_laws_szSiteS x = some y) : G_laws_szSiteS FUEL x = some y := by
  obtain ⟨l, k⟩ := x
  simp only [F_laws_szSiteS] at h
  split at h
  · rename_i hc
    obtain ⟨hk, hw⟩ := hc
    unfold wf_SiteS at hw
    rw [Bool.and_eq_true, decide_eq_true_eq, List.all_eq_true] at hw
    rw [← h]
    exact sz_loop F_laws_szSite sz_Site l hw.1 (fun e he k hk => if_pos ⟨hk, hw.2 e he⟩) k hk
  · cases h

theorem sz_SiteS_mem {l : List (Int × Int × Int × (List Int))} (h : sz_SiteS l ≤ 1048576) : l.length ≤ 1048576 ∧ ∀ e ∈ l, sz_Site e ≤ 1048576 := by
  unfold sz_SiteS at h
  refine ⟨by omega, fun e he => ?_⟩
  have := le_sum_mem (List.mem_map_of_mem (f := sz_Site) he)
  omega

theorem f_laws_toSiteS (x y : List (Int × Int × Int × (List Int))) (h : F_laws_toSiteS x = some y) : G_laws_toSiteS FUEL x = some y := by
  simp only [F_laws_toSiteS] at h
  split at h
  · rename_i hl
    injection h with h
    subst h
    obtain ⟨hl, hm⟩ := sz_SiteS_mem hl
    simp only [G_laws_toSiteS, mkI_nat (n := lenN x) (by_ := 48) (by simp only [lenN, maxBytes]; omega), bnd_s, lenN_repL, fulI_id]
    rw [fill_loop x (0, 0, 0, []) (r := Sum.inl x) ?_ ?_ (by omega)]
    · simp only [joinK_l, takI_id, bnd_s]
    · rintro i ⟨a0, a1, a2, a3⟩ ys he hy hi
      simp only
      rw [cnd_t (ltI_in he), getI_nat, he, bnd_s]
      simp only [F_laws_toSite, if_pos (hm _ (List.mem_of_getElem? he)), chkI_len hi, bnd_s, addN_0, getN, hi, takI_id, lenN_setL, fulI_id, next_i he (by omega)]
      rfl
    · simp only
      rw [cnd_f (ltI_end x)]
  · cases h

theorem f_laws_eqSiteS (x : (List (Int × Int × Int × (List Int))) × (List (Int × Int × Int × (List Int)))) (y : Bool) (h : F_laws_eqSiteS x = some y) : G_laws_eqSiteS FUEL x = some y := by
  obtain ⟨a, b⟩ := x
  simp only [F_laws_eqSiteS] at h
  split at h
  · rename_i hl
    rw [← h]
    obtain ⟨hl, hm⟩ := sz_SiteS_mem hl
    exact eq_loop F_laws_eqSite a b (fun e he b => show (if sz_Site e ≤ 1048576 then some (decide (e = b)) else none) = _ from if_pos (hm e he)) (by omega)
  · cases h

theorem f_laws_szChain (x : (Int × (List (Int × Int × Int × (List Int)))) × Int) (y : Int) (h : F_laws_szChain x = some y) : G_laws_szChain FUEL x = some y := by
  obtain ⟨⟨a0, a1⟩, k⟩ := x
  simp only [F_laws_szChain] at h
  split at h
  · rename_i hc
    obtain ⟨⟨k0, k1⟩, hw⟩ := hc
    simp only [wf_Chain] at hw
    rw [← h]
    simp only [G_laws_szChain]
    rw [szK (o := F_laws_szSiteS (a1, k)) (s := sz_SiteS a1) (if_pos ⟨by constructor <;> omega, hw⟩)]
    by_cases c0 : ((sz_SiteS a1 : Nat) : Int) ≤ k
    · rw [if_pos c0]
      show _ = some (szR (sz_SiteS a1) k)
      rw [szR_t (by omega)]
    · rw [if_neg c0]
      show _ = some (szR (sz_SiteS a1) k)
      rw [szR_f (by omega)]
  · cases h

theorem f_laws_toChain (x y : Int × (List (Int × Int × Int × (List Int)))) (h : F_laws_toChain x = some y) : G_laws_toChain FUEL x = some y := by
  obtain ⟨a0, a1⟩ := x
  simp only [F_laws_toChain] at h
  split at h
  · rename_i hl
    rw [← h]
    simp only [sz_Chain] at hl
    simp only [G_laws_toChain, F_laws_toSiteS, if_pos (show sz_SiteS a1 ≤ 1048576 by omega), bnd_s, takI_id]
  · cases h

theorem f_laws_eqChain (x : (Int × (List (Int × Int × Int × (List Int)))) × (Int × (List (Int × Int × Int × (List Int))))) (y : Bool) (h : F_laws_eqChain x = some y) : G_laws_eqChain FUEL x = some y := by
  obtain ⟨⟨a0, a1⟩, b0, b1⟩ := x
  simp only [F_laws_eqChain] at h
  split at h
  · rename_i hl
    rw [← h]
    simp only [sz_Chain] at hl
    simp only [G_laws_eqChain, F_laws_eqSiteS, if_pos (show sz_SiteS a1 ≤ 1048576 by omega), bnd_s]
    by_cases e0 : a0 = b0 <;> by_cases e1 : a1 = b1 <;> simp [neI_d, notB, cnd, *]
  · cases h

theorem eqs_Matrix (x : Int × Int × (List Int)) (h : sz_Matrix x ≤ 1048576) : F_laws_eqMatrix (x, x) = some true := by
  have := show F_laws_eqMatrix (x, x) = if sz_Matrix x ≤ 1048576 then some (decide (x = x)) else none from rfl
  rw [this, if_pos h, decide_eq_true rfl]
theorem tos_Matrix (x : Int × Int × (List Int)) (h : sz_Matrix x ≤ 1048576) : F_laws_toMatrix x = some x := if_pos h
theorem eqs_Chain (x : Int × (List (Int × Int × Int × (List Int)))) (h : sz_Chain x ≤ 1048576) : F_laws_eqChain (x, x) = some true := by
  have := show F_laws_eqChain (x, x) = if sz_Chain x ≤ 1048576 then some (decide (x = x)) else none from rfl
  rw [this, if_pos h, decide_eq_true rfl]
theorem tos_Chain (x : Int × (List (Int × Int × Int × (List Int)))) (h : sz_Chain x ≤ 1048576) : F_laws_toChain x = some x := if_pos h
theorem sz_IntS_eq (l : List Int) : sz_IntS l = l.length + (l.map (fun _ => 0)).sum := by
  simp [sz_IntS, sum0]
theorem c4_IntS (l : List Int) : cnt_IntS l ≤ 4 * sz_IntS l := by
  rw [sz_IntS_eq]; exact cntL_le (fun _ => 1) (fun _ => 0) (fun e => by omega) l
theorem cE4_Site (x : Int × Int × Int × (List Int)) : cntE_Site x ≤ 4 * (1 + sz_Site x) := by
  obtain ⟨a0, a1, a2, a3⟩ := x
  have h0 := c4_IntS a3
  simp only [cntE_Site, sz_Site]
  omega
theorem sz_SiteS_eq (l : List (Int × Int × Int × (List Int))) : sz_SiteS l = l.length + (l.map sz_Site).sum := by
  rfl
theorem c4_SiteS (l : List (Int × Int × Int × (List Int))) : cnt_SiteS l ≤ 4 * sz_SiteS l := by
  rw [sz_SiteS_eq]; exact cntL_le cntE_Site sz_Site cE4_Site l
end Go.Am
