/- L_ChainTensor: the law FnExactChainTensor. No condition. -/
import Derived.Test.YtfoplfdfpanglaaM24
set_option linter.unusedVariables false
set_option linter.unusedSimpArgs false
namespace Go.Am
theorem ex_ChainTensor (x : Int × List Site) (h : sz_Chain x ≤ 1048576) : ∃ r0, F_spec_ChainTensor x = some r0 ∧ F_impl_ChainTensor x = some r0 ∧ sz_Tensor r0 ≤ 1048576 := by
  refine ⟨_, if_pos h, if_pos h, ?_⟩
  obtain ⟨m, l⟩ := x
  split
  · rename_i hk
    obtain ⟨hD, hp, hDl, hcap⟩ := dims_good hk
    rw [dims_len] at hDl
    show (seqI l.length).length + (dimsOf l).length + (rowL _ _).length ≤ _
    rw [rowL_len, dims_len, seqI, rowL_len]
    show _ + _ + prodN (dimsOf l) ≤ _
    omega
  · exact Nat.zero_le _
def F_laws_FnExactChainTensor : Int × (List (Int × Int × Int × (List Int))) → Option Bool := fun (a0 : Int × (List (Int × Int × Int × (List Int)))) => if (wf_Chain a0) = true then some true else none

def ag_laws_FnExactChainTensor : Sig := [(.agg, [.int .i64, .list [.int .i64, .int .i64, .int .i64, .list [.int .i64]]])]
def rs_laws_FnExactChainTensor : Sig := [(.one, [.bool])]
def mu_laws_FnExactChainTensor : MSig := []
def G_laws_FnExactChainTensor (NN : Nat) : (Int × (List (Int × (Int × (Int × (List Int)))))) → (Option Bool) :=
 (fun ((i0, l1) : (Int × (List (Int × (Int × (Int × (List Int))))))) =>
 (F_laws_szChain ((i0, l1), (1048576 : Int))).bnd (fun (i2 : Int) =>
 cnd (ltI i2 (0 : Int))
 (some true)
 ((F_laws_toChain (i0, l1)).bnd (fun ((i3, l4) : (Int × (List (Int × (Int × (Int × (List Int))))))) =>
 (winI l4 0 (lenN l4)).bnd (fun (l5 : (List (Int × (Int × (Int × (List Int)))))) =>
 (F_spec_ChainTensor (i3, l5)).bnd (fun ((l6, l7, l8) : ((List Int) × ((List Int) × (List Int)))) =>
 (F_laws_toChain (i0, l1)).bnd (fun ((i9, l10) : (Int × (List (Int × (Int × (Int × (List Int))))))) =>
 (winI l10 0 (lenN l10)).bnd (fun (l11 : (List (Int × (Int × (Int × (List Int)))))) =>
 (F_impl_ChainTensor (i9, l11)).bnd (fun ((l12, l13, l14) : ((List Int) × ((List Int) × (List Int)))) =>
 (winI l12 0 (lenN l12)).bnd (fun (l15 : (List Int)) =>
 (winI l13 0 (lenN l13)).bnd (fun (l16 : (List Int)) =>
 (winI l14 0 (lenN l14)).bnd (fun (l17 : (List Int)) =>
 (winI l6 0 (lenN l6)).bnd (fun (l18 : (List Int)) =>
 (winI l7 0 (lenN l7)).bnd (fun (l19 : (List Int)) =>
 (winI l8 0 (lenN l8)).bnd (fun (l20 : (List Int)) =>
 (F_laws_eqTensor ((l15, l16, l17), l18, l19, l20)).bnd (fun (b21 : Bool) =>
 cnd (notB b21)
 (some false)
 ((F_laws_toChain (i0, l1)).bnd (fun ((i22, l23) : (Int × (List (Int × (Int × (Int × (List Int))))))) =>
 (winI l10 0 (lenN l10)).bnd (fun (l24 : (List (Int × (Int × (Int × (List Int)))))) =>
 (winI l23 0 (lenN l23)).bnd (fun (l25 : (List (Int × (Int × (Int × (List Int)))))) =>
 (F_laws_eqChain ((i9, l24), i22, l25)).bnd (fun (b26 : Bool) =>
 cnd (notB b26)
 (some false)
 ((fulI 0 (lenN l10) (lenN l10)).bnd (fun (_ : Unit) =>
 (F_laws_markChain ((i9, l10), (1 : Int))).bnd (fun ((i27, l28) : (Int × (List (Int × (Int × (Int × (List Int))))))) =>
 cnd (ltI i27 (0 : Int))
 (some false)
 ((winI l12 0 (lenN l12)).bnd (fun (l29 : (List Int)) =>
 (winI l13 0 (lenN l13)).bnd (fun (l30 : (List Int)) =>
 (winI l14 0 (lenN l14)).bnd (fun (l31 : (List Int)) =>
 (winI l6 0 (lenN l6)).bnd (fun (l32 : (List Int)) =>
 (winI l7 0 (lenN l7)).bnd (fun (l33 : (List Int)) =>
 (winI l8 0 (lenN l8)).bnd (fun (l34 : (List Int)) =>
 (F_laws_eqTensor ((l29, l30, l31), l32, l33, l34)).bnd (fun (b35 : Bool) =>
 cnd (notB b35)
 (some false)
 ((fulI 0 (lenN l12) (lenN l12)).bnd (fun (_ : Unit) =>
 (fulI 0 (lenN l13) (lenN l13)).bnd (fun (_ : Unit) =>
 (fulI 0 (lenN l14) (lenN l14)).bnd (fun (_ : Unit) =>
 (F_laws_markTensor ((l12, l13, l14), (1 : Int))).bnd (fun ((i36, l37, l38, l39) : (Int × ((List Int) × ((List Int) × (List Int))))) =>
 (winI l37 0 (lenN l12)).bnd (fun (l40 : (List Int)) =>
 (winI l38 0 (lenN l13)).bnd (fun (l41 : (List Int)) =>
 (winI l39 0 (lenN l14)).bnd (fun (l42 : (List Int)) =>
 (F_laws_heldTensor ((l40, l41, l42), (1 : Int))).bnd (fun (i43 : Int) =>
 cnd (ltI i43 (0 : Int))
 (some false)
 (cnd (neI i43 i36)
 (some false)
 ((F_laws_toChain (i0, l1)).bnd (fun ((i44, l45) : (Int × (List (Int × (Int × (Int × (List Int))))))) =>
 (winI l45 0 (lenN l45)).bnd (fun (l46 : (List (Int × (Int × (Int × (List Int)))))) =>
 (F_impl_ChainTensor (i44, l46)).bnd (fun ((l47, l48, l49) : ((List Int) × ((List Int) × (List Int)))) =>
 (winI l47 0 (lenN l47)).bnd (fun (l50 : (List Int)) =>
 (winI l48 0 (lenN l48)).bnd (fun (l51 : (List Int)) =>
 (winI l49 0 (lenN l49)).bnd (fun (l52 : (List Int)) =>
 (winI l6 0 (lenN l6)).bnd (fun (l53 : (List Int)) =>
 (winI l7 0 (lenN l7)).bnd (fun (l54 : (List Int)) =>
 (winI l8 0 (lenN l8)).bnd (fun (l55 : (List Int)) =>
 (F_laws_eqTensor ((l50, l51, l52), l53, l54, l55)).bnd (fun (b56 : Bool) =>
 cnd (notB b56)
 (some false)
 ((winI l37 0 (lenN l12)).bnd (fun (l57 : (List Int)) =>
 (winI l38 0 (lenN l13)).bnd (fun (l58 : (List Int)) =>
 (winI l39 0 (lenN l14)).bnd (fun (l59 : (List Int)) =>
 (F_laws_heldTensor ((l57, l58, l59), (1 : Int))).bnd (fun (i60 : Int) =>
 cnd (ltI i60 (0 : Int))
 (some false)
 (cnd (neI i60 i36)
 (some false)
 (some true))))))))))))))))))))))))))))))))))))))))))))))))))))))))))))

theorem f_laws_FnExactChainTensor (x : Int × (List (Int × Int × Int × (List Int)))) (y : Bool) (h : F_laws_FnExactChainTensor x = some y) : G_laws_FnExactChainTensor FUEL x = some y := by
  obtain ⟨a0_0, a0_1⟩ := x
  simp only [F_laws_FnExactChainTensor] at h
  split at h
  · rename_i hw
    rw [← h]
    simp only [G_laws_FnExactChainTensor]
    rw [szKB (o := F_laws_szChain ((a0_0, a0_1), 1048576)) (s := sz_Chain (a0_0, a0_1)) (if_pos ⟨by constructor <;> omega, hw⟩)]
    by_cases c0 : ((sz_Chain (a0_0, a0_1) : Nat) : Int) ≤ 1048576
    case neg => rw [if_neg c0]
    rw [if_pos c0]
    obtain ⟨r0, hs, hi, z0⟩ := ex_ChainTensor (a0_0, a0_1) (by omega)
    obtain ⟨r0_0, r0_1, r0_2⟩ := r0
    have t0 : F_laws_toChain (a0_0, a0_1) = some (a0_0, a0_1) := tos_Chain _ (by omega)
    have q0 : F_laws_eqChain ((a0_0, a0_1), (a0_0, a0_1)) = some true := eqs_Chain _ (by omega)
    have := c4_SiteS a0_1
    have w0 : F_laws_eqTensor ((r0_0, r0_1, r0_2), (r0_0, r0_1, r0_2)) = some true := eqs_Tensor _ (by omega)
    have := c4_IntS r0_0
    have := c4_IntS r0_1
    have := c4_IntS r0_2
    simp only [sz_Chain, sz_Tensor] at *
    have m0 : F_laws_markChain ((a0_0, a0_1), (1 : Int)) = some ((1 : Int) + (cnt_SiteS a0_1 : Nat), mk_SiteS a0_1 ((1 : Int))) := if_pos ⟨by omega, by (try simp only [sz_Chain, sz_Tensor]); omega⟩
    have k0 : ltI ((1 : Int) + (cnt_SiteS a0_1 : Nat)) 0 = false := ltI_f (by omega)
    have n0 : F_laws_markTensor ((r0_0, r0_1, r0_2), (1 : Int)) = some ((1 : Int) + (cnt_IntS r0_0 : Nat) + (cnt_IntS r0_1 : Nat) + (cnt_IntS r0_2 : Nat), mk_IntS r0_0 ((1 : Int)), mk_IntS r0_1 ((1 : Int) + (cnt_IntS r0_0 : Nat)), mk_IntS r0_2 ((1 : Int) + (cnt_IntS r0_0 : Nat) + (cnt_IntS r0_1 : Nat))) := if_pos ⟨by omega, by (try simp only [sz_Chain, sz_Tensor]); omega⟩
    have d0 : F_laws_heldTensor ((mk_IntS r0_0 ((1 : Int)), mk_IntS r0_1 ((1 : Int) + (cnt_IntS r0_0 : Nat)), mk_IntS r0_2 ((1 : Int) + (cnt_IntS r0_0 : Nat) + (cnt_IntS r0_1 : Nat))), (1 : Int)) = some ((1 : Int) + (cnt_IntS r0_0 : Nat) + (cnt_IntS r0_1 : Nat) + (cnt_IntS r0_2 : Nat)) := hd_Tensor (r0_0, r0_1, r0_2) ((1 : Int)) ⟨by omega, by (try simp only [sz_Chain, sz_Tensor]); omega⟩
    have kk0 : ltI ((1 : Int) + (cnt_IntS r0_0 : Nat) + (cnt_IntS r0_1 : Nat) + (cnt_IntS r0_2 : Nat)) 0 = false := ltI_f (by omega)
    have lr0_0 : winI (mk_IntS r0_0 ((1 : Int))) 0 (lenN r0_0) = some (mk_IntS r0_0 ((1 : Int))) := winI_len (lmk_IntS r0_0 ((1 : Int)))
    have lr0_1 : winI (mk_IntS r0_1 ((1 : Int) + (cnt_IntS r0_0 : Nat))) 0 (lenN r0_1) = some (mk_IntS r0_1 ((1 : Int) + (cnt_IntS r0_0 : Nat))) := winI_len (lmk_IntS r0_1 ((1 : Int) + (cnt_IntS r0_0 : Nat)))
    have lr0_2 : winI (mk_IntS r0_2 ((1 : Int) + (cnt_IntS r0_0 : Nat) + (cnt_IntS r0_1 : Nat))) 0 (lenN r0_2) = some (mk_IntS r0_2 ((1 : Int) + (cnt_IntS r0_0 : Nat) + (cnt_IntS r0_1 : Nat))) := winI_len (lmk_IntS r0_2 ((1 : Int) + (cnt_IntS r0_0 : Nat) + (cnt_IntS r0_1 : Nat)))
    simp only [bnd_s, winI_id, fulI_id, hs, hi, notB_t, cnd_false, neB_self, neI_self, t0, q0, w0, m0, k0, n0, d0, kk0, lr0_0, lr0_1, lr0_2]
  · cases h


end Go.Am
