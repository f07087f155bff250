/- L_InnerChains: the law FnExactInnerChains. No condition. -/
import Derived.Test.YtfoplfdfpanglaaM25
set_option linter.unusedVariables false
set_option linter.unusedSimpArgs false
namespace Go.Am
theorem ex_InnerChains (x y : Int × List Site) (h : sz_Chain x ≤ 1048576) (h' : sz_Chain y ≤ 1048576) : ∃ r0 r1, F_spec_InnerChains (x, y) = some (r0, r1) ∧ F_impl_InnerChains (x, y) = some (r0, r1) := ⟨_, _, if_pos ⟨h, h'⟩, if_pos ⟨h, h'⟩⟩
def F_laws_FnExactInnerChains : (Int × (List (Int × Int × Int × (List Int)))) × (Int × (List (Int × Int × Int × (List Int)))) → Option Bool := fun ((a0, a1) : (Int × (List (Int × Int × Int × (List Int)))) × (Int × (List (Int × Int × Int × (List Int))))) => if (wf_Chain a0 && wf_Chain a1) = true then some true else none

def ag_laws_FnExactInnerChains : Sig := [(.agg, [.int .i64, .list [.int .i64, .int .i64, .int .i64, .list [.int .i64]]]), (.agg, [.int .i64, .list [.int .i64, .int .i64, .int .i64, .list [.int .i64]]])]
def rs_laws_FnExactInnerChains : Sig := [(.one, [.bool])]
def mu_laws_FnExactInnerChains : MSig := []
def G_laws_FnExactInnerChains (NN : Nat) : ((Int × (List (Int × (Int × (Int × (List Int)))))) × (Int × (List (Int × (Int × (Int × (List Int))))))) → (Option Bool) :=
 (fun (((i0, l1), i2, l3) : ((Int × (List (Int × (Int × (Int × (List Int)))))) × (Int × (List (Int × (Int × (Int × (List Int)))))))) =>
 (F_laws_szChain ((i0, l1), (1048576 : Int))).bnd (fun (i4 : Int) =>
 cnd (ltI i4 (0 : Int))
 (some true)
 ((F_laws_szChain ((i2, l3), i4)).bnd (fun (i5 : Int) =>
 cnd (ltI i5 (0 : Int))
 (some true)
 ((F_laws_toChain (i0, l1)).bnd (fun ((i6, l7) : (Int × (List (Int × (Int × (Int × (List Int))))))) =>
 (F_laws_toChain (i2, l3)).bnd (fun ((i8, l9) : (Int × (List (Int × (Int × (Int × (List Int))))))) =>
 (winI l7 0 (lenN l7)).bnd (fun (l10 : (List (Int × (Int × (Int × (List Int)))))) =>
 (winI l9 0 (lenN l9)).bnd (fun (l11 : (List (Int × (Int × (Int × (List Int)))))) =>
 (F_spec_InnerChains ((i6, l10), i8, l11)).bnd (fun ((i12, b13) : (Int × Bool)) =>
 (F_laws_toChain (i0, l1)).bnd (fun ((i14, l15) : (Int × (List (Int × (Int × (Int × (List Int))))))) =>
 (F_laws_toChain (i2, l3)).bnd (fun ((i16, l17) : (Int × (List (Int × (Int × (Int × (List Int))))))) =>
 (winI l15 0 (lenN l15)).bnd (fun (l18 : (List (Int × (Int × (Int × (List Int)))))) =>
 (winI l17 0 (lenN l17)).bnd (fun (l19 : (List (Int × (Int × (Int × (List Int)))))) =>
 (F_impl_InnerChains ((i14, l18), i16, l19)).bnd (fun ((i20, b21) : (Int × Bool)) =>
 cnd (neI i20 i12)
 (some false)
 (cnd (neB b21 b13)
 (some false)
 ((F_laws_toChain (i0, l1)).bnd (fun ((i22, l23) : (Int × (List (Int × (Int × (Int × (List Int))))))) =>
 (winI l15 0 (lenN l15)).bnd (fun (l24 : (List (Int × (Int × (Int × (List Int)))))) =>
 (winI l23 0 (lenN l23)).bnd (fun (l25 : (List (Int × (Int × (Int × (List Int)))))) =>
 (F_laws_eqChain ((i14, l24), i22, l25)).bnd (fun (b26 : Bool) =>
 cnd (notB b26)
 (some false)
 ((F_laws_toChain (i2, l3)).bnd (fun ((i27, l28) : (Int × (List (Int × (Int × (Int × (List Int))))))) =>
 (winI l17 0 (lenN l17)).bnd (fun (l29 : (List (Int × (Int × (Int × (List Int)))))) =>
 (winI l28 0 (lenN l28)).bnd (fun (l30 : (List (Int × (Int × (Int × (List Int)))))) =>
 (F_laws_eqChain ((i16, l29), i27, l30)).bnd (fun (b31 : Bool) =>
 cnd (notB b31)
 (some false)
 (some true)))))))))))))))))))))))))))

theorem f_laws_FnExactInnerChains (x : (Int × (List (Int × Int × Int × (List Int)))) × (Int × (List (Int × Int × Int × (List Int))))) (y : Bool) (h : F_laws_FnExactInnerChains x = some y) : G_laws_FnExactInnerChains FUEL x = some y := by
  obtain ⟨⟨a0_0, a0_1⟩, ⟨a1_0, a1_1⟩⟩ := x
  simp only [F_laws_FnExactInnerChains, Bool.and_eq_true] at h
  split at h
  · rename_i hw
    rw [← h]
    simp only [G_laws_FnExactInnerChains]
    rw [szKB (o := F_laws_szChain ((a0_0, a0_1), 1048576)) (s := sz_Chain (a0_0, a0_1)) (if_pos ⟨by constructor <;> omega, hw.1⟩)]
    by_cases c0 : ((sz_Chain (a0_0, a0_1) : Nat) : Int) ≤ 1048576
    case neg => rw [if_neg c0]
    rw [if_pos c0]
    rw [szKB (o := F_laws_szChain ((a1_0, a1_1), 1048576 - (sz_Chain (a0_0, a0_1) : Nat))) (s := sz_Chain (a1_0, a1_1)) (if_pos ⟨by constructor <;> omega, hw.2⟩)]
    by_cases c1 : ((sz_Chain (a1_0, a1_1) : Nat) : Int) ≤ 1048576 - (sz_Chain (a0_0, a0_1) : Nat)
    case neg => rw [if_neg c1]
    rw [if_pos c1]
    obtain ⟨r0, r1, hs, hi⟩ := ex_InnerChains (a0_0, a0_1) (a1_0, a1_1) (by omega) (by omega)
    have t0 : F_laws_toChain (a0_0, a0_1) = some (a0_0, a0_1) := tos_Chain _ (by omega)
    have q0 : F_laws_eqChain ((a0_0, a0_1), (a0_0, a0_1)) = some true := eqs_Chain _ (by omega)
    have := c4_SiteS a0_1
    have t1 : F_laws_toChain (a1_0, a1_1) = some (a1_0, a1_1) := tos_Chain _ (by omega)
    have q1 : F_laws_eqChain ((a1_0, a1_1), (a1_0, a1_1)) = some true := eqs_Chain _ (by omega)
    have := c4_SiteS a1_1
    simp only [sz_Chain] at *
    have m0 : F_laws_markChain ((a0_0, a0_1), (1 : Int)) = some ((1 : Int) + (cnt_SiteS a0_1 : Nat), mk_SiteS a0_1 ((1 : Int))) := if_pos ⟨by omega, by (try simp only [sz_Chain]); omega⟩
    have m1 : F_laws_markChain ((a1_0, a1_1), (1 : Int) + (cnt_SiteS a0_1 : Nat)) = some ((1 : Int) + (cnt_SiteS a0_1 : Nat) + (cnt_SiteS a1_1 : Nat), mk_SiteS a1_1 ((1 : Int) + (cnt_SiteS a0_1 : Nat))) := if_pos ⟨by omega, by (try simp only [sz_Chain]); omega⟩
    have k0 : ltI ((1 : Int) + (cnt_SiteS a0_1 : Nat) + (cnt_SiteS a1_1 : Nat)) 0 = false := ltI_f (by omega)
    simp only [bnd_s, winI_id, fulI_id, hs, hi, notB_t, cnd_false, neB_self, neI_self, t0, q0, t1, q1, m0, m1, k0]
  · cases h


end Go.Am
