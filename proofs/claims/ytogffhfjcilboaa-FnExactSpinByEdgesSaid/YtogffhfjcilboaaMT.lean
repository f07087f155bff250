/- MT: sizes, copies, comparisons and marks of the laws' types. No condition. -/
import Derived.Test.YtogffhfjcilboaaB2
set_option linter.unusedVariables false
set_option linter.unusedSimpArgs false
set_option synthInstance.maxSize 1000
set_option synthInstance.maxHeartbeats 400000
namespace Go.Am
def sz_IntS (l : List Int) : Nat := l.length
def wf_IntS (l : List Int) : Bool := decide (l.length ≤ 9223372036854775807)
def F_laws_toIntS : (List Int) → Option (List Int) := fun (x : List Int) => if sz_IntS x ≤ 1048576 then some x else none
def F_laws_eqIntS : (List Int) × (List Int) → Option Bool := fun ((x, y) : (List Int) × (List Int)) => if sz_IntS x ≤ 1048576 then some (decide (x = y)) else none

def sz_Edge (x : Int × Int) : Nat := match x with | (a0, a1) => 0
def F_laws_toEdge : (Int × Int) → Option (Int × Int) := fun (x : Int × Int) => if sz_Edge x ≤ 1048576 then some x else none
def F_laws_eqEdge : (Int × Int) × (Int × Int) → Option Bool := fun ((x, y) : (Int × Int) × (Int × Int)) => if sz_Edge x ≤ 1048576 then some (decide (x = y)) else none

def sz_EdgeS (l : List (Int × Int)) : Nat := l.length
def wf_EdgeS (l : List (Int × Int)) : Bool := decide (l.length ≤ 9223372036854775807)
def F_laws_szEdgeS : (List (Int × Int)) × Int → Option Int := fun ((x, k) : (List (Int × Int)) × Int) => if kOk k ∧ wf_EdgeS x = true then some (szR (sz_EdgeS x) k) else none
def F_laws_toEdgeS : (List (Int × Int)) → Option (List (Int × Int)) := fun (x : List (Int × Int)) => if sz_EdgeS x ≤ 1048576 then some x else none
def F_laws_eqEdgeS : (List (Int × Int)) × (List (Int × Int)) → Option Bool := fun ((x, y) : (List (Int × Int)) × (List (Int × Int))) => if sz_EdgeS x ≤ 1048576 then some (decide (x = y)) else none

def sz_Graph (x : Int × (List (Int × Int))) : Nat := match x with | (a0, a1) => sz_EdgeS a1
def wf_Graph (x : Int × (List (Int × Int))) : Bool := match x with | (a0, a1) => wf_EdgeS a1
def F_laws_szGraph : (Int × (List (Int × Int))) × Int → Option Int := fun ((x, k) : (Int × (List (Int × Int))) × Int) => if kOk k ∧ wf_Graph x = true then some (szR (sz_Graph x) k) else none
def F_laws_toGraph : (Int × (List (Int × Int))) → Option (Int × (List (Int × Int))) := fun (x : Int × (List (Int × Int))) => if sz_Graph x ≤ 1048576 then some x else none
def F_laws_eqGraph : (Int × (List (Int × Int))) × (Int × (List (Int × Int))) → Option Bool := fun ((x, y) : (Int × (List (Int × Int))) × (Int × (List (Int × Int)))) => if sz_Graph x ≤ 1048576 then some (decide (x = y)) else none

def cnt_IntS (l : List Int) : Nat := cntL (fun _ => 1) l
def mk_IntS (l : List Int) (k : Int) : List Int := mkL (fun _ => 1) (fun _ k => k) l k
def F_laws_markIntS : (List Int) × Int → Option (Int × (List Int)) := fun ((x, k) : (List Int) × Int) => if 0 ≤ k ∧ k + 4 * (sz_IntS x : Nat) ≤ 1099511627776 then some (k + (cnt_IntS x : Nat), mk_IntS x k) else none
def F_laws_heldIntS : (List Int) × Int → Option Int := fun ((x, k) : (List Int) × Int) => if 0 ≤ k ∧ k + 4 * (sz_IntS x : Nat) ≤ 1099511627776 then some (if x = mk_IntS x k then k + (cnt_IntS x : Nat) else -1) else none

def cntE_Edge (x : Int × Int) : Nat := match x with | (a0, a1) => 1 + 1
def mkE_Edge (x : Int × Int) (k : Int) : Int × Int := match x with | (a0, a1) => (k, k + 1)
def cnt_EdgeS (l : List (Int × Int)) : Nat := cntL cntE_Edge l
def mk_EdgeS (l : List (Int × Int)) (k : Int) : List (Int × Int) := mkL cntE_Edge mkE_Edge l k
def F_laws_markEdgeS : (List (Int × Int)) × Int → Option (Int × (List (Int × Int))) := fun ((x, k) : (List (Int × Int)) × Int) => if 0 ≤ k ∧ k + 4 * (sz_EdgeS x : Nat) ≤ 1099511627776 then some (k + (cnt_EdgeS x : Nat), mk_EdgeS x k) else none
def F_laws_markGraph : (Int × (List (Int × Int))) × Int → Option (Int × (List (Int × Int))) := fun (((a0, a1), k) : (Int × (List (Int × Int))) × Int) => if 0 ≤ k ∧ k + 4 * (sz_Graph (a0, a1) : Nat) ≤ 1099511627776 then some (k + (cnt_EdgeS a1 : Nat), mk_EdgeS a1 (k)) else none
def ag_laws_toIntS : Sig := [(.one, [.list [.int .i64]])]
def rs_laws_toIntS : Sig := [(.one, [.list [.int .i64]])]
def mu_laws_toIntS : MSig := []
def ag_laws_eqIntS : Sig := [(.one, [.list [.int .i64]]), (.one, [.list [.int .i64]])]
def rs_laws_eqIntS : Sig := [(.one, [.bool])]
def mu_laws_eqIntS : MSig := []
def ag_laws_toEdge : Sig := [(.agg, [.int .i64, .int .i64])]
def rs_laws_toEdge : Sig := [(.agg, [.int .i64, .int .i64])]
def mu_laws_toEdge : MSig := []
def ag_laws_eqEdge : Sig := [(.agg, [.int .i64, .int .i64]), (.agg, [.int .i64, .int .i64])]
def rs_laws_eqEdge : Sig := [(.one, [.bool])]
def mu_laws_eqEdge : MSig := []
def ag_laws_szEdgeS : Sig := [(.one, [.list [.int .i64, .int .i64]]), (.one, [.int .i64])]
def rs_laws_szEdgeS : Sig := [(.one, [.int .i64])]
def mu_laws_szEdgeS : MSig := []
def ag_laws_toEdgeS : Sig := [(.one, [.list [.int .i64, .int .i64]])]
def rs_laws_toEdgeS : Sig := [(.one, [.list [.int .i64, .int .i64]])]
def mu_laws_toEdgeS : MSig := []
def ag_laws_eqEdgeS : Sig := [(.one, [.list [.int .i64, .int .i64]]), (.one, [.list [.int .i64, .int .i64]])]
def rs_laws_eqEdgeS : Sig := [(.one, [.bool])]
def mu_laws_eqEdgeS : MSig := []
def ag_laws_szGraph : Sig := [(.agg, [.int .i64, .list [.int .i64, .int .i64]]), (.one, [.int .i64])]
def rs_laws_szGraph : Sig := [(.one, [.int .i64])]
def mu_laws_szGraph : MSig := []
def ag_laws_toGraph : Sig := [(.agg, [.int .i64, .list [.int .i64, .int .i64]])]
def rs_laws_toGraph : Sig := [(.agg, [.int .i64, .list [.int .i64, .int .i64]])]
def mu_laws_toGraph : MSig := []
def ag_laws_eqGraph : Sig := [(.agg, [.int .i64, .list [.int .i64, .int .i64]]), (.agg, [.int .i64, .list [.int .i64, .int .i64]])]
def rs_laws_eqGraph : Sig := [(.one, [.bool])]
def mu_laws_eqGraph : MSig := []
def ag_laws_markIntS : Sig := [(.one, [.list [.int .i64]]), (.one, [.int .i64])]
def rs_laws_markIntS : Sig := [(.one, [.int .i64]), (.one, [.list [.int .i64]])]
def mu_laws_markIntS : MSig := [[some .froz]]
def ag_laws_markEdgeS : Sig := [(.one, [.list [.int .i64, .int .i64]]), (.one, [.int .i64])]
def rs_laws_markEdgeS : Sig := [(.one, [.int .i64]), (.one, [.list [.int .i64, .int .i64]])]
def mu_laws_markEdgeS : MSig := [[some .froz]]
def ag_laws_markGraph : Sig := [(.agg, [.int .i64, .list [.int .i64, .int .i64]]), (.one, [.int .i64])]
def rs_laws_markGraph : Sig := [(.one, [.int .i64]), (.one, [.list [.int .i64, .int .i64]])]
def mu_laws_markGraph : MSig := [[none, some .froz]]
def ag_laws_heldIntS : Sig := [(.one, [.list [.int .i64]]), (.one, [.int .i64])]
def rs_laws_heldIntS : Sig := [(.one, [.int .i64])]
def mu_laws_heldIntS : MSig := []
def G_laws_toIntS (NN : Nat) : (List Int) → (Option (List Int)) :=
 (fun (l0 : (List Int)) =>
 (mkI (natI (lenN l0)) (natI (lenN l0)) 8).bnd (fun k1 =>
 joinK ((fulI 0 k1 (lenN (repL k1 (0 : Int)))).bnd (fun _ =>
 loopT NN (fun (((l2, i3), l4) : (((List Int) × Int) × (List Int))) =>
 cnd (ltI i3 (natI (lenN l2)))
 ((getI l2 i3).bnd (fun i5 =>
 (chkI i3 (lenN l4)).bnd (fun k6 =>
 (getN l4 (addN 0 k6)).bnd (fun i7 =>
 (fulI 0 (lenN l4) (lenN (setL l4 (addN 0 k6) i5))).bnd (fun _ =>
 some (Sum.inl ((l2, addI .i64 i3 1), setL l4 (addN 0 k6) i5)))))))
 (((fulI 0 (lenN l4) (lenN l4)).bnd (fun _ =>
 some (Sum.inl l4))).bnd (fun l8 =>
 some (Sum.inr l8))))
 ((l0, (0 : Int)), repL k1 (0 : Int))))
 (fun l9 =>
 (takI l9 (lenN l9)).bnd (fun l10 =>
 some l10))))

def G_laws_eqIntS (NN : Nat) : ((List Int) × (List Int)) → (Option Bool) :=
 (fun ((l0, l1) : ((List Int) × (List Int))) =>
 cnd (neI (natI (lenN l0)) (natI (lenN l1)))
 (some false)
 (joinK (loopT NN (fun ((l2, l3, i4) : ((List Int) × ((List Int) × Int))) =>
 cnd (ltI i4 (natI (lenN l2)))
 ((getI l2 i4).bnd (fun i5 =>
 (getI l3 i4).bnd (fun i6 =>
 cnd (neI i5 i6)
 (some (Sum.inr (Sum.inr false)))
 (some (Sum.inl (l2, l3, addI .i64 i4 1))))))
 (some (Sum.inr (Sum.inl ()))))
 (l0, l1, (0 : Int)))
 (fun _ =>
 some true)))

def G_laws_toEdge (NN : Nat) : (Int × Int) → (Option (Int × Int)) :=
 (fun ((i0, i1) : (Int × Int)) =>
 some (i0, i1))

def G_laws_eqEdge (NN : Nat) : ((Int × Int) × (Int × Int)) → (Option Bool) :=
 (fun (((i0, i1), i2, i3) : ((Int × Int) × (Int × Int))) =>
 cnd (neI i0 i2)
 (some false)
 (cnd (neI i1 i3)
 (some false)
 (some true)))

def G_laws_szEdgeS (NN : Nat) : ((List (Int × Int)) × Int) → (Option Int) :=
 (fun ((l0, i1) : ((List (Int × Int)) × Int)) =>
 cnd (ltI (subI .i64 i1 (natI (lenN l0))) (0 : Int))
 (some ((-1 : Int)))
 (some (subI .i64 i1 (natI (lenN l0)))))

def G_laws_toEdgeS (NN : Nat) : (List (Int × Int)) → (Option (List (Int × Int))) :=
 (fun (l0 : (List (Int × Int))) =>
 (mkI (natI (lenN l0)) (natI (lenN l0)) 16).bnd (fun k1 =>
 joinK ((fulI 0 k1 (lenN (repL k1 ((0 : Int), (0 : Int))))).bnd (fun _ =>
 loopT NN (fun (((l2, i3), l4) : (((List (Int × Int)) × Int) × (List (Int × Int)))) =>
 cnd (ltI i3 (natI (lenN l2)))
 ((getI l2 i3).bnd (fun (i5, i6) =>
 (F_laws_toEdge (i5, i6)).bnd (fun (i7, i8) =>
 (chkI i3 (lenN l4)).bnd (fun k9 =>
 (getN l4 (addN 0 k9)).bnd (fun (i10, i11) =>
 (fulI 0 (lenN l4) (lenN (setL l4 (addN 0 k9) (i7, i8)))).bnd (fun _ =>
 some (Sum.inl ((l2, addI .i64 i3 1), setL l4 (addN 0 k9) (i7, i8)))))))))
 (((fulI 0 (lenN l4) (lenN l4)).bnd (fun _ =>
 some (Sum.inl l4))).bnd (fun l12 =>
 some (Sum.inr l12))))
 ((l0, (0 : Int)), repL k1 ((0 : Int), (0 : Int)))))
 (fun l13 =>
 (takI l13 (lenN l13)).bnd (fun l14 =>
 some l14))))

def G_laws_eqEdgeS (NN : Nat) : ((List (Int × Int)) × (List (Int × Int))) → (Option Bool) :=
 (fun ((l0, l1) : ((List (Int × Int)) × (List (Int × Int)))) =>
 cnd (neI (natI (lenN l0)) (natI (lenN l1)))
 (some false)
 (joinK (loopT NN (fun ((l2, l3, i4) : ((List (Int × Int)) × ((List (Int × Int)) × Int))) =>
 cnd (ltI i4 (natI (lenN l2)))
 ((getI l2 i4).bnd (fun (i5, i6) =>
 (getI l3 i4).bnd (fun (i7, i8) =>
 (F_laws_eqEdge ((i5, i6), i7, i8)).bnd (fun b9 =>
 cnd (notB b9)
 (some (Sum.inr (Sum.inr false)))
 (some (Sum.inl (l2, l3, addI .i64 i4 1)))))))
 (some (Sum.inr (Sum.inl ()))))
 (l0, l1, (0 : Int)))
 (fun _ =>
 some true)))

def G_laws_szGraph (NN : Nat) : ((Int × (List (Int × Int))) × Int) → (Option Int) :=
 (fun (((i0, l1), i2) : ((Int × (List (Int × Int))) × Int)) =>
 (F_laws_szEdgeS (l1, i2)).bnd (fun i3 =>
 cnd (ltI i3 (0 : Int))
 (some ((-1 : Int)))
 (some i3)))

def G_laws_toGraph (NN : Nat) : (Int × (List (Int × Int))) → (Option (Int × (List (Int × Int)))) :=
 (fun ((i0, l1) : (Int × (List (Int × Int)))) =>
 (F_laws_toEdgeS l1).bnd (fun l2 =>
 (takI l2 (lenN l2)).bnd (fun l3 =>
 some (i0, l3))))

def G_laws_eqGraph (NN : Nat) : ((Int × (List (Int × Int))) × (Int × (List (Int × Int)))) → (Option Bool) :=
 (fun (((i0, l1), i2, l3) : ((Int × (List (Int × Int))) × (Int × (List (Int × Int))))) =>
 cnd (neI i0 i2)
 (some false)
 ((F_laws_eqEdgeS (l1, l3)).bnd (fun b4 =>
 cnd (notB b4)
 (some false)
 (some true))))

def G_laws_markIntS (NN : Nat) : ((List Int) × Int) → (Option (Int × (List Int))) :=
 (fun ((l0, i1) : ((List Int) × Int)) =>
 joinK ((fulI 0 (lenN l0) (lenN l0)).bnd (fun _ =>
 loopT NN (fun (((i2, i3), l4) : ((Int × Int) × (List Int))) =>
 cnd (ltI i3 (natI (lenN l4)))
 ((chkI i3 (lenN l4)).bnd (fun k5 =>
 (getN l4 (addN 0 k5)).bnd (fun i6 =>
 (fulI 0 (lenN l4) (lenN (setL l4 (addN 0 k5) i2))).bnd (fun _ =>
 some (Sum.inl ((addI .i64 i2 1, addI .i64 i3 1), setL l4 (addN 0 k5) i2))))))
 (some (Sum.inr (Sum.inl (i2, l4)))))
 ((i1, (0 : Int)), l0)))
 (fun (i7, l8) =>
 (samI (lenN l8) (lenN l0)).bnd (fun _ =>
 some (i7, l8))))

def G_laws_markEdgeS (NN : Nat) : ((List (Int × Int)) × Int) → (Option (Int × (List (Int × Int)))) :=
 (fun ((l0, i1) : ((List (Int × Int)) × Int)) =>
 joinK ((fulI 0 (lenN l0) (lenN l0)).bnd (fun _ =>
 loopT NN (fun (((i2, i3), l4) : ((Int × Int) × (List (Int × Int)))) =>
 cnd (ltI i3 (natI (lenN l4)))
 ((chkI i3 (lenN l4)).bnd (fun k5 =>
 (getN l4 (addN 0 k5)).bnd (fun (i6, i7) =>
 (chkI i3 (lenN l4)).bnd (fun k8 =>
 (getN (setL l4 (addN 0 k5) (i2, i7)) (addN 0 k8)).bnd (fun (i9, i10) =>
 (fulI 0 (lenN l4) (lenN (setL (setL l4 (addN 0 k5) (i2, i7)) (addN 0 k8) (i9, addI .i64 i2 1)))).bnd (fun _ =>
 some (Sum.inl ((addI .i64 (addI .i64 i2 1) (1 : Int), addI .i64 i3 1), setL (setL l4 (addN 0 k5) (i2, i7)) (addN 0 k8) (i9, addI .i64 i2 1)))))))))
 (some (Sum.inr (Sum.inl (i2, l4)))))
 ((i1, (0 : Int)), l0)))
 (fun (i11, l12) =>
 (samI (lenN l12) (lenN l0)).bnd (fun _ =>
 some (i11, l12))))

def G_laws_markGraph (NN : Nat) : ((Int × (List (Int × Int))) × Int) → (Option (Int × (List (Int × Int)))) :=
 (fun (((i0, l1), i2) : ((Int × (List (Int × Int))) × Int)) =>
 (fulI 0 (lenN l1) (lenN l1)).bnd (fun _ =>
 (F_laws_markEdgeS (l1, i2)).bnd (fun (i3, l4) =>
 (samI (lenN l4) (lenN l1)).bnd (fun _ =>
 some (i3, l4)))))

def G_laws_heldIntS (NN : Nat) : ((List Int) × Int) → (Option Int) :=
 (fun ((l0, i1) : ((List Int) × Int)) =>
 joinK (loopT NN (fun ((l2, i3, i4) : ((List Int) × (Int × Int))) =>
 cnd (ltI i4 (natI (lenN l2)))
 ((getI l2 i4).bnd (fun i5 =>
 cnd (neI i5 i3)
 (some (Sum.inr (Sum.inr ((-1 : Int)))))
 (some (Sum.inl (l2, addI .i64 i3 1, addI .i64 i4 1)))))
 (some (Sum.inr (Sum.inl i3))))
 (l0, i1, (0 : Int)))
 (fun i6 =>
 some i6))

theorem f_laws_toIntS (x y : List Int) (h : F_laws_toIntS x = some y) : G_laws_toIntS FUEL x = some y := by
  simp only [F_laws_toIntS] at h
  split at h
  · rename_i hl
    injection h with h
    subst h
    have hl : x.length ≤ 1048576 := hl
    simp only [G_laws_toIntS, mkI_nat (n := lenN x) (by_ := 8) (by simp only [lenN, maxBytes]; omega), bnd_s, lenN_repL, fulI_id]
    rw [fill_loop x 0 (r := Sum.inl x) ?_ ?_ (by omega)]
    · simp only [joinK_l, takI_id, bnd_s]
    · intro i e ys he hy hi
      simp only
      rw [cnd_t (ltI_in he), getI_nat, he, bnd_s]
      simp only [chkI_len hi, bnd_s, addN_0, getN, hi, lenN_setL, fulI_id, next_i he (by omega)]
      rfl
    · simp only
      rw [cnd_f (ltI_end x)]
  · cases h

theorem f_laws_eqIntS (x : (List Int) × (List Int)) (y : Bool) (h : F_laws_eqIntS x = some y) : G_laws_eqIntS FUEL x = some y := by
  obtain ⟨a, b⟩ := x
  simp only [F_laws_eqIntS] at h
  split at h
  · rename_i hl
    rw [← h]
    have hl : a.length ≤ 1048576 := hl
    exact eq_loopI a b (by omega)
  · cases h

theorem f_laws_toEdge (x y : Int × Int) (h : F_laws_toEdge x = some y) : G_laws_toEdge FUEL x = some y := by
  obtain ⟨a0, a1⟩ := x
  exact h

theorem f_laws_eqEdge (x : (Int × Int) × (Int × Int)) (y : Bool) (h : F_laws_eqEdge x = some y) : G_laws_eqEdge FUEL x = some y := by
  obtain ⟨⟨a0, a1⟩, b0, b1⟩ := x
  rw [← h]
  simp only [F_laws_eqEdge, G_laws_eqEdge, sz_Edge, Nat.zero_le, if_true]
  by_cases e0 : a0 = b0 <;> by_cases e1 : a1 = b1 <;> simp [neI_d, notB, cnd, *]

theorem f_laws_szEdgeS (x : (List (Int × Int)) × Int) (y : Int) (h : F_laws_szEdgeS x = some y) : G_laws_szEdgeS FUEL x = some y := by
  obtain ⟨l, k⟩ := x
  simp only [F_laws_szEdgeS] at h
  split at h
  · rename_i hc
    obtain ⟨⟨k0, k1⟩, hw⟩ := hc
    have hw := of_decide_eq_true hw
    rw [← h]
    have hn := nl l
    simp only [G_laws_szEdgeS]
    rw [subI_eq (by omega) (by omega)]
    show _ = some (szR l.length k)
    by_cases hs : (l.length : Int) ≤ k
    · rw [szR_t hs, cnd_f (ltI_f (by omega))]; rfl
    · rw [szR_f hs, cnd_t (ltI_t (by omega))]
  · cases h

theorem sz_EdgeS_mem {l : List (Int × Int)} (h : sz_EdgeS l ≤ 1048576) : l.length ≤ 1048576 ∧ ∀ e ∈ l, sz_Edge e ≤ 1048576 := by
  unfold sz_EdgeS at h
  refine ⟨by omega, fun e he => ?_⟩
  show 0 ≤ 1048576
  omega

theorem f_laws_toEdgeS (x y : List (Int × Int)) (h : F_laws_toEdgeS x = some y) : G_laws_toEdgeS FUEL x = some y := by
  simp only [F_laws_toEdgeS] at h
  split at h
  · rename_i hl
    injection h with h
    subst h
    obtain ⟨hl, hm⟩ := sz_EdgeS_mem hl
    simp only [G_laws_toEdgeS, mkI_nat (n := lenN x) (by_ := 16) (by simp only [lenN, maxBytes]; omega), bnd_s, lenN_repL, fulI_id]
    rw [fill_loop x (0, 0) (r := Sum.inl x) ?_ ?_ (by omega)]
    · simp only [joinK_l, takI_id, bnd_s]
    · rintro i ⟨a0, a1⟩ ys he hy hi
      simp only
      rw [cnd_t (ltI_in he), getI_nat, he, bnd_s]
      simp only [F_laws_toEdge, if_pos (hm _ (List.mem_of_getElem? he)), chkI_len hi, bnd_s, addN_0, getN, hi, takI_id, lenN_setL, fulI_id, next_i he (by omega)]
      rfl
    · simp only
      rw [cnd_f (ltI_end x)]
  · cases h

theorem f_laws_eqEdgeS (x : (List (Int × Int)) × (List (Int × Int))) (y : Bool) (h : F_laws_eqEdgeS x = some y) : G_laws_eqEdgeS FUEL x = some y := by
  obtain ⟨a, b⟩ := x
  simp only [F_laws_eqEdgeS] at h
  split at h
  · rename_i hl
    rw [← h]
    obtain ⟨hl, hm⟩ := sz_EdgeS_mem hl
    exact eq_loop F_laws_eqEdge a b (fun e he b => show (if sz_Edge e ≤ 1048576 then some (decide (e = b)) else none) = _ from if_pos (hm e he)) (by omega)
  · cases h

theorem f_laws_szGraph (x : (Int × (List (Int × Int))) × Int) (y : Int) (h : F_laws_szGraph x = some y) : G_laws_szGraph FUEL x = some y := by
  obtain ⟨⟨a0, a1⟩, k⟩ := x
  simp only [F_laws_szGraph] at h
  split at h
  · rename_i hc
    obtain ⟨⟨k0, k1⟩, hw⟩ := hc
    simp only [wf_Graph] at hw
    rw [← h]
    simp only [G_laws_szGraph]
    rw [szK (o := F_laws_szEdgeS (a1, k)) (s := sz_EdgeS a1) (if_pos ⟨by constructor <;> omega, hw⟩)]
    by_cases c0 : ((sz_EdgeS a1 : Nat) : Int) ≤ k
    · rw [if_pos c0]
      show _ = some (szR (sz_EdgeS a1) k)
      rw [szR_t (by omega)]
    · rw [if_neg c0]
      show _ = some (szR (sz_EdgeS a1) k)
      rw [szR_f (by omega)]
  · cases h

theorem f_laws_toGraph (x y : Int × (List (Int × Int))) (h : F_laws_toGraph x = some y) : G_laws_toGraph FUEL x = some y := by
  obtain ⟨a0, a1⟩ := x
  simp only [F_laws_toGraph] at h
  split at h
  · rename_i hl
    rw [← h]
    simp only [sz_Graph] at hl
    simp only [G_laws_toGraph, F_laws_toEdgeS, if_pos (show sz_EdgeS a1 ≤ 1048576 by omega), bnd_s, takI_id]
  · cases h

theorem f_laws_eqGraph (x : (Int × (List (Int × Int))) × (Int × (List (Int × Int)))) (y : Bool) (h : F_laws_eqGraph x = some y) : G_laws_eqGraph FUEL x = some y := by
  obtain ⟨⟨a0, a1⟩, b0, b1⟩ := x
  simp only [F_laws_eqGraph] at h
  split at h
  · rename_i hl
    rw [← h]
    simp only [sz_Graph] at hl
    simp only [G_laws_eqGraph, F_laws_eqEdgeS, if_pos (show sz_EdgeS a1 ≤ 1048576 by omega), bnd_s]
    by_cases e0 : a0 = b0 <;> by_cases e1 : a1 = b1 <;> simp [neI_d, notB, cnd, *]
  · cases h

theorem eqs_IntS (x : List Int) (h : sz_IntS x ≤ 1048576) : F_laws_eqIntS (x, x) = some true := by
  have := show F_laws_eqIntS (x, x) = if sz_IntS x ≤ 1048576 then some (decide (x = x)) else none from rfl
  rw [this, if_pos h, decide_eq_true rfl]
theorem tos_IntS (x : List Int) (h : sz_IntS x ≤ 1048576) : F_laws_toIntS x = some x := if_pos h
theorem eqs_Graph (x : Int × (List (Int × Int))) (h : sz_Graph x ≤ 1048576) : F_laws_eqGraph (x, x) = some true := by
  have := show F_laws_eqGraph (x, x) = if sz_Graph x ≤ 1048576 then some (decide (x = x)) else none from rfl
  rw [this, if_pos h, decide_eq_true rfl]
theorem tos_Graph (x : Int × (List (Int × Int))) (h : sz_Graph x ≤ 1048576) : F_laws_toGraph x = some x := if_pos h
theorem sz_IntS_eq (l : List Int) : sz_IntS l = l.length + (l.map (fun _ => 0)).sum := by
  simp [sz_IntS, sum0]
theorem c4_IntS (l : List Int) : cnt_IntS l ≤ 4 * sz_IntS l := by
  rw [sz_IntS_eq]; exact cntL_le (fun _ => 1) (fun _ => 0) (fun e => by omega) l
theorem smk_IntS (l : List Int) (k : Int) : sz_IntS (mk_IntS l k) = sz_IntS l := by
  rw [sz_IntS_eq, sz_IntS_eq, mk_IntS, mkL_length, sum_map_mkL (fun _ => 1) (fun _ k => k) (fun _ => 0) (fun _ _ => rfl)]
theorem cmk_IntS (l : List Int) (k : Int) : cnt_IntS (mk_IntS l k) = cnt_IntS l := sum_map_mkL (fun _ => 1) (fun _ k => k) (fun _ => 1) (fun _ _ => rfl) l k
theorem mmk_IntS (l : List Int) (k : Int) : mk_IntS (mk_IntS l k) k = mk_IntS l k := mkL_mkL (fun _ => 1) (fun _ k => k) (fun _ _ => rfl) (fun _ _ => rfl) l k
theorem lmk_IntS (l : List Int) (k : Int) : (mk_IntS l k).length = l.length := mkL_length _ _ _ _

theorem f_laws_markIntS (x : (List Int) × Int) (y : Int × (List Int)) (h : F_laws_markIntS x = some y) : G_laws_markIntS FUEL x = some y := by
  obtain ⟨l, k⟩ := x
  simp only [F_laws_markIntS] at h
  split at h
  · rename_i hc
    obtain ⟨hk, hb⟩ := hc
    rw [sz_IntS_eq] at hb
    rw [← h]
    simp only [G_laws_markIntS, fulI_id, bnd_s]
    rw [mark_loop l (fun _ => 1) (fun _ => 0) (fun _ k => k) k (r := Sum.inl (k + (cnt_IntS l : Nat), mk_IntS l k)) (fun e => by omega) hk hb ?_ ?_]
    · rw [joinK_l]
      simp only
      rw [samI_ok (show lenN (mk_IntS l k) = lenN l from lmk_IntS l k), bnd_s]
    · intro i e ys k' he hy hi h0 hM
      have hgi : getN ys i = some e := hi
      simp only
      rw [cnd_t (ltI_in hi), next_i hi (by omega)]
      simp only [chkI_len hi, bnd_s, addN_0, hgi, lenN_setL, fulI_id]
      have e1 : addI .i64 k' 1 = k' + 1 := addI_eq (by omega) (by omega)
      simp only [e1]
      rfl
    · simp only
      rw [cnd_f (ltI_f (by have := lmk_IntS l k; have h2 := nl (mk_IntS l k); unfold mk_IntS at this h2; omega))]
      rfl
  · cases h

theorem f_laws_heldIntS (x : (List Int) × Int) (y : Int) (h : F_laws_heldIntS x = some y) : G_laws_heldIntS FUEL x = some y := by
  obtain ⟨l, k⟩ := x
  simp only [F_laws_heldIntS] at h
  split at h
  · rename_i hc
    obtain ⟨hk, hb⟩ := hc
    rw [sz_IntS_eq] at hb
    rw [← h]
    simp only [G_laws_heldIntS]
    rw [held_loop l (fun _ => 1) (fun _ => 0) (fun _ k => k) k (fun e => by omega) hk hb ?_ ?_]
    · unfold mk_IntS cnt_IntS
      by_cases hq : l = mkL (fun _ => 1) (fun _ k => k) l k
      · rw [if_pos hq, if_pos hq, joinK_l]
      · rw [if_neg hq, if_neg hq, joinK_r]
    · intro i e k' he h0 hM
      simp only
      rw [cnd_t (ltI_in he), getI_nat, he, bnd_s]
      have e1 : addI .i64 k' 1 = k' + 1 := addI_eq (by omega) (by omega)
      rw [e1, next_i he (by omega)]
      by_cases hq : e = k'
      · rw [cnd_f (neI_f hq), if_pos hq]; rfl
      · rw [cnd_t (neI_t hq), if_neg hq]
    · intro k'
      simp only
      rw [cnd_f (ltI_end l)]
  · cases h

theorem cE4_Edge (x : Int × Int) : cntE_Edge x ≤ 4 * (1 + sz_Edge x) := by
  obtain ⟨a0, a1⟩ := x
  simp only [cntE_Edge, sz_Edge]
  omega
theorem sz_EdgeS_eq (l : List (Int × Int)) : sz_EdgeS l = l.length + (l.map sz_Edge).sum := by
  have : ∀ l : List (Int × Int), (l.map sz_Edge).sum = 0 := by
    intro l
    induction l with
    | nil => rfl
    | cons a l ih => simp [sz_Edge, ih]
  rw [this]; rfl
theorem c4_EdgeS (l : List (Int × Int)) : cnt_EdgeS l ≤ 4 * sz_EdgeS l := by
  rw [sz_EdgeS_eq]; exact cntL_le cntE_Edge sz_Edge cE4_Edge l
theorem lmk_EdgeS (l : List (Int × Int)) (k : Int) : (mk_EdgeS l k).length = l.length := mkL_length _ _ _ _

theorem f_laws_markEdgeS (x : (List (Int × Int)) × Int) (y : Int × (List (Int × Int))) (h : F_laws_markEdgeS x = some y) : G_laws_markEdgeS FUEL x = some y := by
  obtain ⟨l, k⟩ := x
  simp only [F_laws_markEdgeS] at h
  split at h
  · rename_i hc
    obtain ⟨hk, hb⟩ := hc
    rw [sz_EdgeS_eq] at hb
    rw [← h]
    simp only [G_laws_markEdgeS, fulI_id, bnd_s]
    rw [mark_loop l cntE_Edge sz_Edge mkE_Edge k (r := Sum.inl (k + (cnt_EdgeS l : Nat), mk_EdgeS l k)) cE4_Edge hk hb ?_ ?_]
    · rw [joinK_l]
      simp only
      rw [samI_ok (show lenN (mk_EdgeS l k) = lenN l from lmk_EdgeS l k), bnd_s]
    · rintro i ⟨a0, a1⟩ ys k' he hy hi h0 hM
      have hgi : getN ys i = some (a0, a1) := hi
      simp only
      rw [cnd_t (ltI_in hi), next_i hi (by omega)]
      simp only [chkI_len hi, bnd_s, addN_0, hgi, lenN_setL, fulI_id]
      simp only [sz_Edge] at hM
      have E0 : addI .i64 (k') 1 = k' + 1 := addI_eq (by omega) (by omega)
      have E1 : addI .i64 (k' + 1) 1 = k' + 1 + 1 := addI_eq (by omega) (by omega)
      simp only [E0, E1, bnd_s, getN_set hi, setL_setL, lenN_setL, fulI_id]
      refine congrArg some (congrArg Sum.inl (Prod.ext (Prod.ext ?_ rfl) rfl))
      simp only [cntE_Edge]
      omega
    · simp only
      rw [cnd_f (ltI_f (by have := lmk_EdgeS l k; have h2 := nl (mk_EdgeS l k); unfold mk_EdgeS at this h2; omega))]
      rfl
  · cases h

theorem f_laws_markGraph (x : (Int × (List (Int × Int))) × Int) (y : Int × (List (Int × Int))) (h : F_laws_markGraph x = some y) : G_laws_markGraph FUEL x = some y := by
  obtain ⟨⟨a0, a1⟩, k⟩ := x
  simp only [F_laws_markGraph] at h
  split at h
  · rename_i hc
    obtain ⟨hk, hb⟩ := hc
    simp only [sz_Graph] at hb
    have c4a1 := c4_EdgeS a1
    rw [← h]
    have e0 : F_laws_markEdgeS (a1, k) = some (k + (cnt_EdgeS a1 : Nat), mk_EdgeS a1 (k)) := if_pos ⟨by omega, by omega⟩
    simp only [G_laws_markGraph, fulI_id, bnd_s, e0, samI_ok (show lenN (mk_EdgeS a1 (k)) = lenN a1 from lmk_EdgeS a1 (k))]
  · cases h

theorem hd_IntS (x : List Int) (k : Int) (h : 0 ≤ k ∧ k + 4 * (sz_IntS x : Nat) ≤ 1099511627776) : F_laws_heldIntS (mk_IntS x k, k) = some (k + (cnt_IntS x : Nat)) := by
  have := show F_laws_heldIntS (mk_IntS x k, k) = if 0 ≤ k ∧ k + 4 * (sz_IntS (mk_IntS x k) : Nat) ≤ 1099511627776 then some (if mk_IntS x k = mk_IntS (mk_IntS x k) k then k + (cnt_IntS (mk_IntS x k) : Nat) else -1) else none from rfl
  rw [this, smk_IntS, if_pos h, mmk_IntS, cmk_IntS, if_pos rfl]
end Go.Am
