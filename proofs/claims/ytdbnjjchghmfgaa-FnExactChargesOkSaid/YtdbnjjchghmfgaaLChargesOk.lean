/- L_ChargesOk: the law FnExactChargesOk. No condition. -/
import Derived.Test.YtdbnjjchghmfgaaM11
set_option linter.unusedVariables false
set_option linter.unusedSimpArgs false
namespace Go.Am
theorem ex_ChargesOk (t : List Int × List Int × List Int) (c : Int × List (List Int)) (h : sz_Tensor t ≤ 1048576) (h' : sz_Charges c ≤ 1048576) : ∃ r0, F_spec_ChargesOk (t, c) = some r0 ∧ F_impl_ChargesOk (t, c) = some r0 := by
  obtain ⟨L, D, T⟩ := t
  obtain ⟨m, R⟩ := c
  have h : L.length + D.length + T.length ≤ 1048576 := h
  have h2 := sz_IntSS_mem (l := R) h'
  have hd : chDom ((L, D, T), m, R) := ⟨⟨by show L.length ≤ _; omega, by show D.length ≤ _; omega⟩, h2.1, h2.2⟩
  exact ⟨_, if_pos hd, if_pos hd⟩
def F_laws_FnExactChargesOk : ((List Int) × (List Int) × (List Int)) × (Int × (List (List Int))) → Option Bool := fun ((a0, a1) : ((List Int) × (List Int) × (List Int)) × (Int × (List (List Int)))) => if (wf_Tensor a0 && wf_Charges a1) = true then some true else none

def ag_laws_FnExactChargesOk : Sig := [(.agg, [.list [.int .i64], .list [.int .i64], .list [.int .i64]]), (.agg, [.int .i64, .list [.list [.int .i64]]])]
def rs_laws_FnExactChargesOk : Sig := [(.one, [.bool])]
def mu_laws_FnExactChargesOk : MSig := []

def G_laws_FnExactChargesOk (NN : Nat) : (((List Int) × ((List Int) × (List Int))) × (Int × (List (List Int)))) → (Option Bool) :=
  (fun (((l0, l1, l2), i3, l4) : (((List Int) × ((List Int) × (List Int))) × (Int × (List (List Int))))) =>
  (F_laws_szTensor ((l0, l1, l2), (1048576 : Int))).bnd (fun (i5 : Int) =>
    cnd (ltI i5 (0 : Int))
      (some true)
      ((F_laws_szCharges ((i3, l4), i5)).bnd (fun (i6 : Int) =>
        cnd (ltI i6 (0 : Int))
          (some true)
          ((F_laws_toTensor (l0, l1, l2)).bnd (fun ((l7, l8, l9) : ((List Int) × ((List Int) × (List Int)))) =>
            (F_laws_toCharges (i3, l4)).bnd (fun ((i10, l11) : (Int × (List (List Int)))) =>
              (winI l7 0 (lenN l7)).bnd (fun (l12 : (List Int)) =>
                (winI l8 0 (lenN l8)).bnd (fun (l13 : (List Int)) =>
                  (winI l9 0 (lenN l9)).bnd (fun (l14 : (List Int)) =>
                    (winI l11 0 (lenN l11)).bnd (fun (l15 : (List (List Int))) =>
                      (F_spec_ChargesOk ((l12, l13, l14), i10, l15)).bnd (fun (b16 : Bool) =>
                        (F_laws_toTensor (l0, l1, l2)).bnd (fun ((l17, l18, l19) : ((List Int) × ((List Int) × (List Int)))) =>
                          (F_laws_toCharges (i3, l4)).bnd (fun ((i20, l21) : (Int × (List (List Int)))) =>
                            (winI l17 0 (lenN l17)).bnd (fun (l22 : (List Int)) =>
                              (winI l18 0 (lenN l18)).bnd (fun (l23 : (List Int)) =>
                                (winI l19 0 (lenN l19)).bnd (fun (l24 : (List Int)) =>
                                  (winI l21 0 (lenN l21)).bnd (fun (l25 : (List (List Int))) =>
                                    (F_impl_ChargesOk ((l22, l23, l24), i20, l25)).bnd (fun (b26 : Bool) =>
                                      cnd (neB b26 b16)
                                        (some false)
                                        ((F_laws_toTensor (l0, l1, l2)).bnd (fun ((l27, l28, l29) : ((List Int) × ((List Int) × (List Int)))) =>
                                          (winI l17 0 (lenN l17)).bnd (fun (l30 : (List Int)) =>
                                            (winI l18 0 (lenN l18)).bnd (fun (l31 : (List Int)) =>
                                              (winI l19 0 (lenN l19)).bnd (fun (l32 : (List Int)) =>
                                                (winI l27 0 (lenN l27)).bnd (fun (l33 : (List Int)) =>
                                                  (winI l28 0 (lenN l28)).bnd (fun (l34 : (List Int)) =>
                                                    (winI l29 0 (lenN l29)).bnd (fun (l35 : (List Int)) =>
                                                      (F_laws_eqTensor ((l30, l31, l32), l33, l34, l35)).bnd (fun (b36 : Bool) =>
                                                        cnd (notB b36)
                                                          (some false)
                                                          ((F_laws_toCharges (i3, l4)).bnd (fun ((i37, l38) : (Int × (List (List Int)))) =>
                                                            (winI l21 0 (lenN l21)).bnd (fun (l39 : (List (List Int))) =>
                                                              (winI l38 0 (lenN l38)).bnd (fun (l40 : (List (List Int))) =>
                                                                (F_laws_eqCharges ((i20, l39), i37, l40)).bnd (fun (b41 : Bool) =>
                                                                  cnd (notB b41)
                                                                    (some false)
                                                                    (some true))))))))))))))))))))))))))))))))))


theorem f_laws_FnExactChargesOk (x : ((List Int) × (List Int) × (List Int)) × (Int × (List (List Int)))) (y : Bool) (h : F_laws_FnExactChargesOk x = some y) : G_laws_FnExactChargesOk FUEL x = some y := by
  obtain ⟨⟨a0_0, a0_1, a0_2⟩, ⟨a1_0, a1_1⟩⟩ := x
  simp only [F_laws_FnExactChargesOk, Bool.and_eq_true] at h
  split at h
  · rename_i hw
    rw [← h]
    simp only [G_laws_FnExactChargesOk]
    rw [szKB (o := F_laws_szTensor ((a0_0, a0_1, a0_2), 1048576)) (s := sz_Tensor (a0_0, a0_1, a0_2)) (if_pos ⟨by constructor <;> omega, hw.1⟩)]
    by_cases c0 : ((sz_Tensor (a0_0, a0_1, a0_2) : Nat) : Int) ≤ 1048576
    case neg => rw [if_neg c0]
    rw [if_pos c0]
    rw [szKB (o := F_laws_szCharges ((a1_0, a1_1), 1048576 - (sz_Tensor (a0_0, a0_1, a0_2) : Nat))) (s := sz_Charges (a1_0, a1_1)) (if_pos ⟨by constructor <;> omega, hw.2⟩)]
    by_cases c1 : ((sz_Charges (a1_0, a1_1) : Nat) : Int) ≤ 1048576 - (sz_Tensor (a0_0, a0_1, a0_2) : Nat)
    case neg => rw [if_neg c1]
    rw [if_pos c1]
    obtain ⟨r0, hs, hi⟩ := ex_ChargesOk (a0_0, a0_1, a0_2) (a1_0, a1_1) (by omega) (by omega)
    have t0 : F_laws_toTensor (a0_0, a0_1, a0_2) = some (a0_0, a0_1, a0_2) := tos_Tensor _ (by omega)
    have q0 : F_laws_eqTensor ((a0_0, a0_1, a0_2), (a0_0, a0_1, a0_2)) = some true := eqs_Tensor _ (by omega)
    have := c4_IntS a0_0
    have := c4_IntS a0_1
    have := c4_IntS a0_2
    have t1 : F_laws_toCharges (a1_0, a1_1) = some (a1_0, a1_1) := tos_Charges _ (by omega)
    have q1 : F_laws_eqCharges ((a1_0, a1_1), (a1_0, a1_1)) = some true := eqs_Charges _ (by omega)
    have := c4_IntSS a1_1
    simp only [sz_Tensor, sz_Charges] at *
    have m0 : F_laws_markTensor ((a0_0, a0_1, a0_2), (1 : Int)) = some ((1 : Int) + (cnt_IntS a0_0 : Nat) + (cnt_IntS a0_1 : Nat) + (cnt_IntS a0_2 : Nat), mk_IntS a0_0 ((1 : Int)), mk_IntS a0_1 ((1 : Int) + (cnt_IntS a0_0 : Nat)), mk_IntS a0_2 ((1 : Int) + (cnt_IntS a0_0 : Nat) + (cnt_IntS a0_1 : Nat))) := if_pos ⟨by omega, by (try simp only [sz_Tensor, sz_Charges]); omega⟩
    have m1 : F_laws_markCharges ((a1_0, a1_1), (1 : Int) + (cnt_IntS a0_0 : Nat) + (cnt_IntS a0_1 : Nat) + (cnt_IntS a0_2 : Nat)) = some ((1 : Int) + (cnt_IntS a0_0 : Nat) + (cnt_IntS a0_1 : Nat) + (cnt_IntS a0_2 : Nat) + (cnt_IntSS a1_1 : Nat), mk_IntSS a1_1 ((1 : Int) + (cnt_IntS a0_0 : Nat) + (cnt_IntS a0_1 : Nat) + (cnt_IntS a0_2 : Nat))) := if_pos ⟨by omega, by (try simp only [sz_Tensor, sz_Charges]); omega⟩
    have k0 : ltI ((1 : Int) + (cnt_IntS a0_0 : Nat) + (cnt_IntS a0_1 : Nat) + (cnt_IntS a0_2 : Nat) + (cnt_IntSS a1_1 : Nat)) 0 = false := ltI_f (by omega)
    simp only [bnd_s, winI_id, fulI_id, hs, hi, notB_t, cnd_false, neB_self, neI_self, t0, q0, t1, q1, m0, m1, k0]
  · cases h


end Go.Am
