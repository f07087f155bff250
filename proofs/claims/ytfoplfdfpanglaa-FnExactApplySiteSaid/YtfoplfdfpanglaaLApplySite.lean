/- L_ApplySite: the law FnExactApplySite. No condition. -/
import Derived.Test.YtfoplfdfpanglaaM29
set_option linter.unusedVariables false
set_option linter.unusedSimpArgs false
namespace Go.Am
theorem ex_ApplySite (x : Int × List Site) (k : Int) (y : Int × Int × List Int) (h : sz_Chain x ≤ 1048576) (h' : sz_Matrix y ≤ 1048576) : ∃ r0 r1, F_spec_ApplySite (x, k, y) = some (r0, r1) ∧ F_impl_ApplySite (x, k, y) = some (r0, r1) ∧ sz_Chain r0 ≤ 524288 :=
  ⟨_, _, if_pos ⟨h, h'⟩, if_pos ⟨h, h'⟩, Nat.le_trans (appS_sz h) (by decide)⟩
def F_laws_FnExactApplySite : (Int × (List (Int × Int × Int × (List Int)))) × (Int) × (Int × Int × (List Int)) → Option Bool := fun ((a0, a1, a2) : (Int × (List (Int × Int × Int × (List Int)))) × (Int) × (Int × Int × (List Int))) => if (wf_Chain a0 && wf_Matrix a2) = true then some true else none

def ag_laws_FnExactApplySite : Sig := [(.agg, [.int .i64, .list [.int .i64, .int .i64, .int .i64, .list [.int .i64]]]), (.one, [.int .i64]), (.agg, [.int .i64, .int .i64, .list [.int .i64]])]
def rs_laws_FnExactApplySite : Sig := [(.one, [.bool])]
def mu_laws_FnExactApplySite : MSig := []
def G_laws_FnExactApplySite (NN : Nat) : ((Int × (List (Int × (Int × (Int × (List Int)))))) × (Int × (Int × (Int × (List Int))))) → (Option Bool) :=
 (fun (((i0, l1), i2, i3, i4, l5) : ((Int × (List (Int × (Int × (Int × (List Int)))))) × (Int × (Int × (Int × (List Int)))))) =>
 (F_laws_szChain ((i0, l1), (1048576 : Int))).bnd (fun i6 =>
 cnd (ltI i6 (0 : Int))
 (some true)
 ((F_laws_szMatrix ((i3, i4, l5), i6)).bnd (fun i7 =>
 cnd (ltI i7 (0 : Int))
 (some true)
 ((F_laws_toChain (i0, l1)).bnd (fun (i8, l9) =>
 (F_laws_toMatrix (i3, i4, l5)).bnd (fun (i10, i11, l12) =>
 (winI l9 0 (lenN l9)).bnd (fun l13 =>
 (winI l12 0 (lenN l12)).bnd (fun l14 =>
 (F_spec_ApplySite ((i8, l13), i2, i10, i11, l14)).bnd (fun ((i15, l16), b17) =>
 (F_laws_toChain (i0, l1)).bnd (fun (i18, l19) =>
 (F_laws_toMatrix (i3, i4, l5)).bnd (fun (i20, i21, l22) =>
 (winI l19 0 (lenN l19)).bnd (fun l23 =>
 (winI l22 0 (lenN l22)).bnd (fun l24 =>
 (F_impl_ApplySite ((i18, l23), i2, i20, i21, l24)).bnd (fun ((i25, l26), b27) =>
 (winI l26 0 (lenN l26)).bnd (fun l28 =>
 (winI l16 0 (lenN l16)).bnd (fun l29 =>
 (F_laws_eqChain ((i25, l28), i15, l29)).bnd (fun b30 =>
 cnd (notB b30)
 (some false)
 (cnd (neB b27 b17)
 (some false)
 ((F_laws_toChain (i0, l1)).bnd (fun (i31, l32) =>
 (winI l19 0 (lenN l19)).bnd (fun l33 =>
 (winI l32 0 (lenN l32)).bnd (fun l34 =>
 (F_laws_eqChain ((i18, l33), i31, l34)).bnd (fun b35 =>
 cnd (notB b35)
 (some false)
 ((F_laws_toMatrix (i3, i4, l5)).bnd (fun (i36, i37, l38) =>
 (winI l22 0 (lenN l22)).bnd (fun l39 =>
 (winI l38 0 (lenN l38)).bnd (fun l40 =>
 (F_laws_eqMatrix ((i20, i21, l39), i36, i37, l40)).bnd (fun b41 =>
 cnd (notB b41)
 (some false)
 ((fulI 0 (lenN l19) (lenN l19)).bnd (fun _ =>
 (F_laws_markChain ((i18, l19), (1 : Int))).bnd (fun (i42, l43) =>
 (fulI 0 (lenN l22) (lenN l22)).bnd (fun _ =>
 (F_laws_markMatrix ((i20, i21, l22), i42)).bnd (fun (i44, l45) =>
 cnd (ltI i44 (0 : Int))
 (some false)
 ((winI l26 0 (lenN l26)).bnd (fun l46 =>
 (winI l16 0 (lenN l16)).bnd (fun l47 =>
 (F_laws_eqChain ((i25, l46), i15, l47)).bnd (fun b48 =>
 cnd (notB b48)
 (some false)
 (cnd (neB b27 b17)
 (some false)
 ((fulI 0 (lenN l26) (lenN l26)).bnd (fun _ =>
 (F_laws_markChain ((i25, l26), (1 : Int))).bnd (fun (i49, l50) =>
 (winI l50 0 (lenN l26)).bnd (fun l51 =>
 (F_laws_heldChain ((i25, l51), (1 : Int))).bnd (fun i52 =>
 cnd (ltI i52 (0 : Int))
 (some false)
 (cnd (neI i52 i49)
 (some false)
 ((F_laws_toChain (i0, l1)).bnd (fun (i53, l54) =>
 (F_laws_toMatrix (i3, i4, l5)).bnd (fun (i55, i56, l57) =>
 (winI l54 0 (lenN l54)).bnd (fun l58 =>
 (winI l57 0 (lenN l57)).bnd (fun l59 =>
 (F_impl_ApplySite ((i53, l58), i2, i55, i56, l59)).bnd (fun ((i60, l61), b62) =>
 (winI l61 0 (lenN l61)).bnd (fun l63 =>
 (winI l16 0 (lenN l16)).bnd (fun l64 =>
 (F_laws_eqChain ((i60, l63), i15, l64)).bnd (fun b65 =>
 cnd (notB b65)
 (some false)
 (cnd (neB b62 b17)
 (some false)
 ((winI l50 0 (lenN l26)).bnd (fun l66 =>
 (F_laws_heldChain ((i25, l66), (1 : Int))).bnd (fun i67 =>
 cnd (ltI i67 (0 : Int))
 (some false)
 (cnd (neI i67 i49)
 (some false)
 (some true))))))))))))))))))))))))))))))))))))))))))))))))))))))))))))

theorem f_laws_FnExactApplySite (x : (Int × (List (Int × Int × Int × (List Int)))) × (Int) × (Int × Int × (List Int))) (y : Bool) (h : F_laws_FnExactApplySite x = some y) : G_laws_FnExactApplySite FUEL x = some y := by
  obtain ⟨⟨a0_0, a0_1⟩, a1, ⟨a2_0, a2_1, a2_2⟩⟩ := x
  simp only [F_laws_FnExactApplySite, Bool.and_eq_true] at h
  split at h
  · rename_i hw
    rw [← h]
    simp only [G_laws_FnExactApplySite]
    rw [szKB (o := F_laws_szChain ((a0_0, a0_1), 1048576)) (s := sz_Chain (a0_0, a0_1)) (if_pos ⟨by constructor <;> omega, hw.1⟩)]
    by_cases c0 : ((sz_Chain (a0_0, a0_1) : Nat) : Int) ≤ 1048576
    case neg => rw [if_neg c0]
    rw [if_pos c0]
    rw [szKB (o := F_laws_szMatrix ((a2_0, a2_1, a2_2), 1048576 - (sz_Chain (a0_0, a0_1) : Nat))) (s := sz_Matrix (a2_0, a2_1, a2_2)) (if_pos ⟨by constructor <;> omega, hw.2⟩)]
    by_cases c1 : ((sz_Matrix (a2_0, a2_1, a2_2) : Nat) : Int) ≤ 1048576 - (sz_Chain (a0_0, a0_1) : Nat)
    case neg => rw [if_neg c1]
    rw [if_pos c1]
    obtain ⟨r0, r1, hs, hi, z0⟩ := ex_ApplySite (a0_0, a0_1) a1 (a2_0, a2_1, a2_2) (by omega) (by omega)
    obtain ⟨r0_0, r0_1⟩ := r0
    have t0 : F_laws_toChain (a0_0, a0_1) = some (a0_0, a0_1) := tos_Chain _ (by omega)
    have q0 : F_laws_eqChain ((a0_0, a0_1), (a0_0, a0_1)) = some true := eqs_Chain _ (by omega)
    have := c4_SiteS a0_1
    have t2 : F_laws_toMatrix (a2_0, a2_1, a2_2) = some (a2_0, a2_1, a2_2) := tos_Matrix _ (by omega)
    have q2 : F_laws_eqMatrix ((a2_0, a2_1, a2_2), (a2_0, a2_1, a2_2)) = some true := eqs_Matrix _ (by omega)
    have := c4_IntS a2_2
    have w0 : F_laws_eqChain ((r0_0, r0_1), (r0_0, r0_1)) = some true := eqs_Chain _ (by omega)
    have := c4_SiteS r0_1
    simp only [sz_Chain, sz_Matrix] at *
    have m0 : F_laws_markChain ((a0_0, a0_1), (1 : Int)) = some ((1 : Int) + (cnt_SiteS a0_1 : Nat), mk_SiteS a0_1 ((1 : Int))) := if_pos ⟨by omega, by (try simp only [sz_Chain, sz_Matrix]); omega⟩
    have m2 : F_laws_markMatrix ((a2_0, a2_1, a2_2), (1 : Int) + (cnt_SiteS a0_1 : Nat)) = some ((1 : Int) + (cnt_SiteS a0_1 : Nat) + (cnt_IntS a2_2 : Nat), mk_IntS a2_2 ((1 : Int) + (cnt_SiteS a0_1 : Nat))) := if_pos ⟨by omega, by (try simp only [sz_Chain, sz_Matrix]); omega⟩
    have k0 : ltI ((1 : Int) + (cnt_SiteS a0_1 : Nat) + (cnt_IntS a2_2 : Nat)) 0 = false := ltI_f (by omega)
    have n0 : F_laws_markChain ((r0_0, r0_1), (1 : Int)) = some ((1 : Int) + (cnt_SiteS r0_1 : Nat), mk_SiteS r0_1 ((1 : Int))) := if_pos ⟨by omega, by (try simp only [sz_Chain, sz_Matrix]); omega⟩
    have d0 : F_laws_heldChain ((r0_0, mk_SiteS r0_1 ((1 : Int))), (1 : Int)) = some ((1 : Int) + (cnt_SiteS r0_1 : Nat)) := hd_Chain (r0_0, r0_1) ((1 : Int)) ⟨by omega, by (try simp only [sz_Chain, sz_Matrix]); omega⟩
    have kk0 : ltI ((1 : Int) + (cnt_SiteS r0_1 : Nat)) 0 = false := ltI_f (by omega)
    have lr0_1 : winI (mk_SiteS r0_1 ((1 : Int))) 0 (lenN r0_1) = some (mk_SiteS r0_1 ((1 : Int))) := winI_len (lmk_SiteS r0_1 ((1 : Int)))
    simp only [bnd_s, winI_id, fulI_id, hs, hi, notB_t, cnd_false, neB_self, neI_self, t0, q0, t2, q2, w0, m0, m2, k0, n0, d0, kk0, lr0_1]
  · cases h


end Go.Am
