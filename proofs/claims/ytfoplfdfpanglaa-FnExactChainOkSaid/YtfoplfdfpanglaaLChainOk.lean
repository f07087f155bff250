/- L_ChainOk: the law FnExactChainOk. No condition. -/
import Derived.Test.YtfoplfdfpanglaaM22
set_option linter.unusedVariables false
set_option linter.unusedSimpArgs false
namespace Go.Am
theorem ex_ChainOk (x : Int × List (Int × Int × Int × List Int)) (h : sz_Chain x ≤ 1048576) : ∃ r0, F_spec_ChainOk x = some r0 ∧ F_impl_ChainOk x = some r0 := ⟨_, if_pos h, if_pos h⟩
def F_laws_FnExactChainOk : Int × (List (Int × Int × Int × (List Int))) → Option Bool := fun (a0 : Int × (List (Int × Int × Int × (List Int)))) => if (wf_Chain a0) = true then some true else none

def ag_laws_FnExactChainOk : Sig := [(.agg, [.int .i64, .list [.int .i64, .int .i64, .int .i64, .list [.int .i64]]])]
def rs_laws_FnExactChainOk : Sig := [(.one, [.bool])]
def mu_laws_FnExactChainOk : MSig := []
def G_laws_FnExactChainOk (NN : Nat) : (Int × (List (Int × (Int × (Int × (List Int)))))) → (Option Bool) :=
 (fun ((i0, l1) : (Int × (List (Int × (Int × (Int × (List Int))))))) =>
 (F_laws_szChain ((i0, l1), (1048576 : Int))).bnd (fun (i2 : Int) =>
 cnd (ltI i2 (0 : Int))
 (some true)
 ((F_laws_toChain (i0, l1)).bnd (fun ((i3, l4) : (Int × (List (Int × (Int × (Int × (List Int))))))) =>
 (winI l4 0 (lenN l4)).bnd (fun (l5 : (List (Int × (Int × (Int × (List Int)))))) =>
 (F_spec_ChainOk (i3, l5)).bnd (fun (b6 : Bool) =>
 (F_laws_toChain (i0, l1)).bnd (fun ((i7, l8) : (Int × (List (Int × (Int × (Int × (List Int))))))) =>
 (winI l8 0 (lenN l8)).bnd (fun (l9 : (List (Int × (Int × (Int × (List Int)))))) =>
 (F_impl_ChainOk (i7, l9)).bnd (fun (b10 : Bool) =>
 cnd (neB b10 b6)
 (some false)
 ((F_laws_toChain (i0, l1)).bnd (fun ((i11, l12) : (Int × (List (Int × (Int × (Int × (List Int))))))) =>
 (winI l8 0 (lenN l8)).bnd (fun (l13 : (List (Int × (Int × (Int × (List Int)))))) =>
 (winI l12 0 (lenN l12)).bnd (fun (l14 : (List (Int × (Int × (Int × (List Int)))))) =>
 (F_laws_eqChain ((i7, l13), i11, l14)).bnd (fun (b15 : Bool) =>
 cnd (notB b15)
 (some false)
 (some true)))))))))))))))

theorem f_laws_FnExactChainOk (x : Int × (List (Int × Int × Int × (List Int)))) (y : Bool) (h : F_laws_FnExactChainOk x = some y) : G_laws_FnExactChainOk FUEL x = some y := by
  obtain ⟨a0_0, a0_1⟩ := x
  simp only [F_laws_FnExactChainOk] at h
  split at h
  · rename_i hw
    rw [← h]
    simp only [G_laws_FnExactChainOk]
    rw [szKB (o := F_laws_szChain ((a0_0, a0_1), 1048576)) (s := sz_Chain (a0_0, a0_1)) (if_pos ⟨by constructor <;> omega, hw⟩)]
    by_cases c0 : ((sz_Chain (a0_0, a0_1) : Nat) : Int) ≤ 1048576
    case neg => rw [if_neg c0]
    rw [if_pos c0]
    obtain ⟨r0, hs, hi⟩ := ex_ChainOk (a0_0, a0_1) (by omega)
    have t0 : F_laws_toChain (a0_0, a0_1) = some (a0_0, a0_1) := tos_Chain _ (by omega)
    have q0 : F_laws_eqChain ((a0_0, a0_1), (a0_0, a0_1)) = some true := eqs_Chain _ (by omega)
    have := c4_SiteS a0_1
    simp only [sz_Chain] at *
    have m0 : F_laws_markChain ((a0_0, a0_1), (1 : Int)) = some ((1 : Int) + (cnt_SiteS a0_1 : Nat), mk_SiteS a0_1 ((1 : Int))) := if_pos ⟨by omega, by (try simp only [sz_Chain]); omega⟩
    have k0 : ltI ((1 : Int) + (cnt_SiteS a0_1 : Nat)) 0 = false := ltI_f (by omega)
    simp only [bnd_s, winI_id, fulI_id, hs, hi, notB_t, cnd_false, neB_self, neI_self, t0, q0, m0, k0]
  · cases h


end Go.Am
