/- L_BondsOf: the law FnExactBondsOf. No condition. -/
import Derived.Test.YtfoplfdfpanglaaM23
set_option linter.unusedVariables false
set_option linter.unusedSimpArgs false
namespace Go.Am
theorem ex_BondsOf (x : Int × List Site) (h : sz_Chain x ≤ 1048576) : ∃ r0, F_spec_BondsOf x = some r0 ∧ F_impl_BondsOf x = some r0 ∧ sz_IntS r0 ≤ 1048576 := by
  refine ⟨_, if_pos h, if_pos h, ?_⟩
  obtain ⟨m, l⟩ := x
  obtain ⟨hl, _⟩ := sz_Chain_le h
  show List.length _ ≤ _
  split
  · simp [bondsI]; omega
  · exact Nat.zero_le _
def F_laws_FnExactBondsOf : Int × (List (Int × Int × Int × (List Int))) → Option Bool := fun (a0 : Int × (List (Int × Int × Int × (List Int)))) => if (wf_Chain a0) = true then some true else none

def ag_laws_FnExactBondsOf : Sig := [(.agg, [.int .i64, .list [.int .i64, .int .i64, .int .i64, .list [.int .i64]]])]
def rs_laws_FnExactBondsOf : Sig := [(.one, [.bool])]
def mu_laws_FnExactBondsOf : MSig := []
def G_laws_FnExactBondsOf (NN : Nat) : (Int × (List (Int × (Int × (Int × (List Int)))))) → (Option Bool) :=
 (fun ((i0, l1) : (Int × (List (Int × (Int × (Int × (List Int))))))) =>
 (F_laws_szChain ((i0, l1), (1048576 : Int))).bnd (fun (i2 : Int) =>
 cnd (ltI i2 (0 : Int))
 (some true)
 ((F_laws_toChain (i0, l1)).bnd (fun ((i3, l4) : (Int × (List (Int × (Int × (Int × (List Int))))))) =>
 (winI l4 0 (lenN l4)).bnd (fun (l5 : (List (Int × (Int × (Int × (List Int)))))) =>
 (F_spec_BondsOf (i3, l5)).bnd (fun (l6 : (List Int)) =>
 (F_laws_toChain (i0, l1)).bnd (fun ((i7, l8) : (Int × (List (Int × (Int × (Int × (List Int))))))) =>
 (winI l8 0 (lenN l8)).bnd (fun (l9 : (List (Int × (Int × (Int × (List Int)))))) =>
 (F_impl_BondsOf (i7, l9)).bnd (fun (l10 : (List Int)) =>
 (winI l10 0 (lenN l10)).bnd (fun (l11 : (List Int)) =>
 (winI l6 0 (lenN l6)).bnd (fun (l12 : (List Int)) =>
 (F_laws_eqIntS (l11, l12)).bnd (fun (b13 : Bool) =>
 cnd (notB b13)
 (some false)
 ((F_laws_toChain (i0, l1)).bnd (fun ((i14, l15) : (Int × (List (Int × (Int × (Int × (List Int))))))) =>
 (winI l8 0 (lenN l8)).bnd (fun (l16 : (List (Int × (Int × (Int × (List Int)))))) =>
 (winI l15 0 (lenN l15)).bnd (fun (l17 : (List (Int × (Int × (Int × (List Int)))))) =>
 (F_laws_eqChain ((i7, l16), i14, l17)).bnd (fun (b18 : Bool) =>
 cnd (notB b18)
 (some false)
 ((fulI 0 (lenN l8) (lenN l8)).bnd (fun (_ : Unit) =>
 (F_laws_markChain ((i7, l8), (1 : Int))).bnd (fun ((i19, l20) : (Int × (List (Int × (Int × (Int × (List Int))))))) =>
 cnd (ltI i19 (0 : Int))
 (some false)
 ((winI l10 0 (lenN l10)).bnd (fun (l21 : (List Int)) =>
 (winI l6 0 (lenN l6)).bnd (fun (l22 : (List Int)) =>
 (F_laws_eqIntS (l21, l22)).bnd (fun (b23 : Bool) =>
 cnd (notB b23)
 (some false)
 ((fulI 0 (lenN l10) (lenN l10)).bnd (fun (_ : Unit) =>
 (F_laws_markIntS (l10, (1 : Int))).bnd (fun ((i24, l25) : (Int × (List Int))) =>
 (winI l25 0 (lenN l10)).bnd (fun (l26 : (List Int)) =>
 (F_laws_heldIntS (l26, (1 : Int))).bnd (fun (i27 : Int) =>
 cnd (ltI i27 (0 : Int))
 (some false)
 (cnd (neI i27 i24)
 (some false)
 ((F_laws_toChain (i0, l1)).bnd (fun ((i28, l29) : (Int × (List (Int × (Int × (Int × (List Int))))))) =>
 (winI l29 0 (lenN l29)).bnd (fun (l30 : (List (Int × (Int × (Int × (List Int)))))) =>
 (F_impl_BondsOf (i28, l30)).bnd (fun (l31 : (List Int)) =>
 (winI l31 0 (lenN l31)).bnd (fun (l32 : (List Int)) =>
 (winI l6 0 (lenN l6)).bnd (fun (l33 : (List Int)) =>
 (F_laws_eqIntS (l32, l33)).bnd (fun (b34 : Bool) =>
 cnd (notB b34)
 (some false)
 ((winI l25 0 (lenN l10)).bnd (fun (l35 : (List Int)) =>
 (F_laws_heldIntS (l35, (1 : Int))).bnd (fun (i36 : Int) =>
 cnd (ltI i36 (0 : Int))
 (some false)
 (cnd (neI i36 i24)
 (some false)
 (some true))))))))))))))))))))))))))))))))))))))))))

theorem f_laws_FnExactBondsOf (x : Int × (List (Int × Int × Int × (List Int)))) (y : Bool) (h : F_laws_FnExactBondsOf x = some y) : G_laws_FnExactBondsOf FUEL x = some y := by
  obtain ⟨a0_0, a0_1⟩ := x
  simp only [F_laws_FnExactBondsOf] at h
  split at h
  · rename_i hw
    rw [← h]
    simp only [G_laws_FnExactBondsOf]
    rw [szKB (o := F_laws_szChain ((a0_0, a0_1), 1048576)) (s := sz_Chain (a0_0, a0_1)) (if_pos ⟨by constructor <;> omega, hw⟩)]
    by_cases c0 : ((sz_Chain (a0_0, a0_1) : Nat) : Int) ≤ 1048576
    case neg => rw [if_neg c0]
    rw [if_pos c0]
    obtain ⟨r0, hs, hi, z0⟩ := ex_BondsOf (a0_0, a0_1) (by omega)
    have t0 : F_laws_toChain (a0_0, a0_1) = some (a0_0, a0_1) := tos_Chain _ (by omega)
    have q0 : F_laws_eqChain ((a0_0, a0_1), (a0_0, a0_1)) = some true := eqs_Chain _ (by omega)
    have := c4_SiteS a0_1
    have w0 : F_laws_eqIntS (r0, r0) = some true := eqs_IntS _ (by omega)
    have := c4_IntS r0
    simp only [sz_Chain] at *
    have m0 : F_laws_markChain ((a0_0, a0_1), (1 : Int)) = some ((1 : Int) + (cnt_SiteS a0_1 : Nat), mk_SiteS a0_1 ((1 : Int))) := if_pos ⟨by omega, by (try simp only [sz_Chain]); omega⟩
    have k0 : ltI ((1 : Int) + (cnt_SiteS a0_1 : Nat)) 0 = false := ltI_f (by omega)
    have n0 : F_laws_markIntS (r0, (1 : Int)) = some ((1 : Int) + (cnt_IntS r0 : Nat), mk_IntS r0 ((1 : Int))) := if_pos ⟨by omega, by (try simp only [sz_Chain]); omega⟩
    have d0 : F_laws_heldIntS (mk_IntS r0 ((1 : Int)), (1 : Int)) = some ((1 : Int) + (cnt_IntS r0 : Nat)) := hd_IntS r0 ((1 : Int)) ⟨by omega, by (try simp only [sz_Chain]); omega⟩
    have kk0 : ltI ((1 : Int) + (cnt_IntS r0 : Nat)) 0 = false := ltI_f (by omega)
    have lr0 : winI (mk_IntS r0 ((1 : Int))) 0 (lenN r0) = some (mk_IntS r0 ((1 : Int))) := winI_len (lmk_IntS r0 ((1 : Int)))
    simp only [bnd_s, winI_id, fulI_id, hs, hi, notB_t, cnd_false, neB_self, neI_self, t0, q0, w0, m0, k0, n0, d0, kk0, lr0]
  · cases h


end Go.Am
