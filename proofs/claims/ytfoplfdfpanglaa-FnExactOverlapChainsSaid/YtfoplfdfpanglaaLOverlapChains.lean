/- L_OverlapChains: the law FnExactOverlapChains. No condition. -/
import Derived.Test.YtfoplfdfpanglaaM30
set_option linter.unusedVariables false
set_option linter.unusedSimpArgs false
namespace Go.Am
theorem ex_OverlapChains (x : Int × List Site) (k : Int) (y : Int × Int × List Int) (z : Int × List Site) (h : sz_Chain x ≤ 1048576) (h' : sz_Matrix y ≤ 1048576) (h'' : sz_Chain z ≤ 1048576) : ∃ r0 r1, F_spec_OverlapChains (x, k, y, z) = some (r0, r1) ∧ F_impl_OverlapChains (x, k, y, z) = some (r0, r1) := ⟨_, _, if_pos ⟨h, h', h''⟩, if_pos ⟨h, h', h''⟩⟩
def F_laws_FnExactOverlapChains : (Int × (List (Int × Int × Int × (List Int)))) × (Int) × (Int × Int × (List Int)) × (Int × (List (Int × Int × Int × (List Int)))) → Option Bool := fun ((a0, a1, a2, a3) : (Int × (List (Int × Int × Int × (List Int)))) × (Int) × (Int × Int × (List Int)) × (Int × (List (Int × Int × Int × (List Int))))) => if (wf_Chain a0 && wf_Matrix a2 && wf_Chain a3) = true then some true else none

def ag_laws_FnExactOverlapChains : Sig := [(.agg, [.int .i64, .list [.int .i64, .int .i64, .int .i64, .list [.int .i64]]]), (.one, [.int .i64]), (.agg, [.int .i64, .int .i64, .list [.int .i64]]), (.agg, [.int .i64, .list [.int .i64, .int .i64, .int .i64, .list [.int .i64]]])]
def rs_laws_FnExactOverlapChains : Sig := [(.one, [.bool])]
def mu_laws_FnExactOverlapChains : MSig := []
def G_laws_FnExactOverlapChains (NN : Nat) : ((Int × (List (Int × (Int × (Int × (List Int)))))) × (Int × ((Int × (Int × (List Int))) × (Int × (List (Int × (Int × (Int × (List Int))))))))) → (Option Bool) :=
 (fun (((i0, l1), i2, (i3, i4, l5), i6, l7) : ((Int × (List (Int × (Int × (Int × (List Int)))))) × (Int × ((Int × (Int × (List Int))) × (Int × (List (Int × (Int × (Int × (List Int)))))))))) =>
 (F_laws_szChain ((i0, l1), (1048576 : Int))).bnd (fun i8 =>
 cnd (ltI i8 (0 : Int))
 (some true)
 ((F_laws_szMatrix ((i3, i4, l5), i8)).bnd (fun i9 =>
 cnd (ltI i9 (0 : Int))
 (some true)
 ((F_laws_szChain ((i6, l7), i9)).bnd (fun i10 =>
 cnd (ltI i10 (0 : Int))
 (some true)
 ((F_laws_toChain (i0, l1)).bnd (fun (i11, l12) =>
 (F_laws_toMatrix (i3, i4, l5)).bnd (fun (i13, i14, l15) =>
 (F_laws_toChain (i6, l7)).bnd (fun (i16, l17) =>
 (winI l12 0 (lenN l12)).bnd (fun l18 =>
 (winI l15 0 (lenN l15)).bnd (fun l19 =>
 (winI l17 0 (lenN l17)).bnd (fun l20 =>
 (F_spec_OverlapChains ((i11, l18), i2, (i13, i14, l19), i16, l20)).bnd (fun (i21, b22) =>
 (F_laws_toChain (i0, l1)).bnd (fun (i23, l24) =>
 (F_laws_toMatrix (i3, i4, l5)).bnd (fun (i25, i26, l27) =>
 (F_laws_toChain (i6, l7)).bnd (fun (i28, l29) =>
 (winI l24 0 (lenN l24)).bnd (fun l30 =>
 (winI l27 0 (lenN l27)).bnd (fun l31 =>
 (winI l29 0 (lenN l29)).bnd (fun l32 =>
 (F_impl_OverlapChains ((i23, l30), i2, (i25, i26, l31), i28, l32)).bnd (fun (i33, b34) =>
 cnd (neI i33 i21)
 (some false)
 (cnd (neB b34 b22)
 (some false)
 ((F_laws_toChain (i0, l1)).bnd (fun (i35, l36) =>
 (winI l24 0 (lenN l24)).bnd (fun l37 =>
 (winI l36 0 (lenN l36)).bnd (fun l38 =>
 (F_laws_eqChain ((i23, l37), i35, l38)).bnd (fun b39 =>
 cnd (notB b39)
 (some false)
 ((F_laws_toMatrix (i3, i4, l5)).bnd (fun (i40, i41, l42) =>
 (winI l27 0 (lenN l27)).bnd (fun l43 =>
 (winI l42 0 (lenN l42)).bnd (fun l44 =>
 (F_laws_eqMatrix ((i25, i26, l43), i40, i41, l44)).bnd (fun b45 =>
 cnd (notB b45)
 (some false)
 ((F_laws_toChain (i6, l7)).bnd (fun (i46, l47) =>
 (winI l29 0 (lenN l29)).bnd (fun l48 =>
 (winI l47 0 (lenN l47)).bnd (fun l49 =>
 (F_laws_eqChain ((i28, l48), i46, l49)).bnd (fun b50 =>
 cnd (notB b50)
 (some false)
 (some true))))))))))))))))))))))))))))))))))))))

theorem f_laws_FnExactOverlapChains (x : (Int × (List (Int × Int × Int × (List Int)))) × (Int) × (Int × Int × (List Int)) × (Int × (List (Int × Int × Int × (List Int))))) (y : Bool) (h : F_laws_FnExactOverlapChains x = some y) : G_laws_FnExactOverlapChains FUEL x = some y := by
  obtain ⟨⟨a0_0, a0_1⟩, a1, ⟨a2_0, a2_1, a2_2⟩, ⟨a3_0, a3_1⟩⟩ := x
  simp only [F_laws_FnExactOverlapChains, Bool.and_eq_true] at h
  split at h
  · rename_i hw
    rw [← h]
    simp only [G_laws_FnExactOverlapChains]
    rw [szKB (o := F_laws_szChain ((a0_0, a0_1), 1048576)) (s := sz_Chain (a0_0, a0_1)) (if_pos ⟨by constructor <;> omega, hw.1.1⟩)]
    by_cases c0 : ((sz_Chain (a0_0, a0_1) : Nat) : Int) ≤ 1048576
    case neg => rw [if_neg c0]
    rw [if_pos c0]
    rw [szKB (o := F_laws_szMatrix ((a2_0, a2_1, a2_2), 1048576 - (sz_Chain (a0_0, a0_1) : Nat))) (s := sz_Matrix (a2_0, a2_1, a2_2)) (if_pos ⟨by constructor <;> omega, hw.1.2⟩)]
    by_cases c1 : ((sz_Matrix (a2_0, a2_1, a2_2) : Nat) : Int) ≤ 1048576 - (sz_Chain (a0_0, a0_1) : Nat)
    case neg => rw [if_neg c1]
    rw [if_pos c1]
    rw [szKB (o := F_laws_szChain ((a3_0, a3_1), 1048576 - (sz_Chain (a0_0, a0_1) : Nat) - (sz_Matrix (a2_0, a2_1, a2_2) : Nat))) (s := sz_Chain (a3_0, a3_1)) (if_pos ⟨by constructor <;> omega, hw.2⟩)]
    by_cases c2 : ((sz_Chain (a3_0, a3_1) : Nat) : Int) ≤ 1048576 - (sz_Chain (a0_0, a0_1) : Nat) - (sz_Matrix (a2_0, a2_1, a2_2) : Nat)
    case neg => rw [if_neg c2]
    rw [if_pos c2]
    obtain ⟨r0, r1, hs, hi⟩ := ex_OverlapChains (a0_0, a0_1) a1 (a2_0, a2_1, a2_2) (a3_0, a3_1) (by omega) (by omega) (by omega)
    have t0 : F_laws_toChain (a0_0, a0_1) = some (a0_0, a0_1) := tos_Chain _ (by omega)
    have q0 : F_laws_eqChain ((a0_0, a0_1), (a0_0, a0_1)) = some true := eqs_Chain _ (by omega)
    have := c4_SiteS a0_1
    have t2 : F_laws_toMatrix (a2_0, a2_1, a2_2) = some (a2_0, a2_1, a2_2) := tos_Matrix _ (by omega)
    have q2 : F_laws_eqMatrix ((a2_0, a2_1, a2_2), (a2_0, a2_1, a2_2)) = some true := eqs_Matrix _ (by omega)
    have := c4_IntS a2_2
    have t3 : F_laws_toChain (a3_0, a3_1) = some (a3_0, a3_1) := tos_Chain _ (by omega)
    have q3 : F_laws_eqChain ((a3_0, a3_1), (a3_0, a3_1)) = some true := eqs_Chain _ (by omega)
    have := c4_SiteS a3_1
    simp only [sz_Chain, sz_Matrix] at *
    have m0 : F_laws_markChain ((a0_0, a0_1), (1 : Int)) = some ((1 : Int) + (cnt_SiteS a0_1 : Nat), mk_SiteS a0_1 ((1 : Int))) := if_pos ⟨by omega, by (try simp only [sz_Chain, sz_Matrix]); omega⟩
    have m2 : F_laws_markMatrix ((a2_0, a2_1, a2_2), (1 : Int) + (cnt_SiteS a0_1 : Nat)) = some ((1 : Int) + (cnt_SiteS a0_1 : Nat) + (cnt_IntS a2_2 : Nat), mk_IntS a2_2 ((1 : Int) + (cnt_SiteS a0_1 : Nat))) := if_pos ⟨by omega, by (try simp only [sz_Chain, sz_Matrix]); omega⟩
    have m3 : F_laws_markChain ((a3_0, a3_1), (1 : Int) + (cnt_SiteS a0_1 : Nat) + (cnt_IntS a2_2 : Nat)) = some ((1 : Int) + (cnt_SiteS a0_1 : Nat) + (cnt_IntS a2_2 : Nat) + (cnt_SiteS a3_1 : Nat), mk_SiteS a3_1 ((1 : Int) + (cnt_SiteS a0_1 : Nat) + (cnt_IntS a2_2 : Nat))) := if_pos ⟨by omega, by (try simp only [sz_Chain, sz_Matrix]); omega⟩
    have k0 : ltI ((1 : Int) + (cnt_SiteS a0_1 : Nat) + (cnt_IntS a2_2 : Nat) + (cnt_SiteS a3_1 : Nat)) 0 = false := ltI_f (by omega)
    simp only [bnd_s, winI_id, fulI_id, hs, hi, notB_t, cnd_false, neB_self, neI_self, t0, q0, t2, q2, t3, q3, m0, m2, m3, k0]
  · cases h


end Go.Am
