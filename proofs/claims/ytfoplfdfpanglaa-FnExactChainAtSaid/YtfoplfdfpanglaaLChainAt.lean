/- L_ChainAt: the law FnExactChainAt. No condition. -/
import Derived.Test.YtfoplfdfpanglaaM23
set_option linter.unusedVariables false
set_option linter.unusedSimpArgs false
namespace Go.Am
theorem ex_ChainAt (x : Int × List Site) (w : List Int) (h : sz_Chain x ≤ 1048576) (h' : w.length ≤ 1048576) : ∃ r0, F_spec_ChainAt (x, w) = some r0 ∧ F_impl_ChainAt (x, w) = some r0 := ⟨_, if_pos ⟨h, h'⟩, if_pos ⟨h, h'⟩⟩
def F_laws_FnExactChainAt : (Int × (List (Int × Int × Int × (List Int)))) × (List Int) → Option Bool := fun ((a0, a1) : (Int × (List (Int × Int × Int × (List Int)))) × (List Int)) => if (wf_Chain a0 && wf_IntS a1) = true then some true else none

def ag_laws_FnExactChainAt : Sig := [(.agg, [.int .i64, .list [.int .i64, .int .i64, .int .i64, .list [.int .i64]]]), (.one, [.list [.int .i64]])]
def rs_laws_FnExactChainAt : Sig := [(.one, [.bool])]
def mu_laws_FnExactChainAt : MSig := []
def G_laws_FnExactChainAt (NN : Nat) : ((Int × (List (Int × (Int × (Int × (List Int)))))) × (List Int)) → (Option Bool) :=
 (fun (((i0, l1), l2) : ((Int × (List (Int × (Int × (Int × (List Int)))))) × (List Int))) =>
 cnd (ltI (1048576 : Int) (natI (lenN l2)))
 (some true)
 ((F_laws_szChain ((i0, l1), (1048576 : Int))).bnd (fun (i3 : Int) =>
 cnd (ltI i3 (0 : Int))
 (some true)
 ((F_laws_toChain (i0, l1)).bnd (fun ((i4, l5) : (Int × (List (Int × (Int × (Int × (List Int))))))) =>
 (F_laws_toIntS l2).bnd (fun (l6 : (List Int)) =>
 (winI l5 0 (lenN l5)).bnd (fun (l7 : (List (Int × (Int × (Int × (List Int)))))) =>
 (winI l6 0 (lenN l6)).bnd (fun (l8 : (List Int)) =>
 (F_spec_ChainAt ((i4, l7), l8)).bnd (fun (i9 : Int) =>
 (F_laws_toChain (i0, l1)).bnd (fun ((i10, l11) : (Int × (List (Int × (Int × (Int × (List Int))))))) =>
 (F_laws_toIntS l2).bnd (fun (l12 : (List Int)) =>
 (winI l11 0 (lenN l11)).bnd (fun (l13 : (List (Int × (Int × (Int × (List Int)))))) =>
 (winI l12 0 (lenN l12)).bnd (fun (l14 : (List Int)) =>
 (F_impl_ChainAt ((i10, l13), l14)).bnd (fun (i15 : Int) =>
 cnd (neI i15 i9)
 (some false)
 ((F_laws_toChain (i0, l1)).bnd (fun ((i16, l17) : (Int × (List (Int × (Int × (Int × (List Int))))))) =>
 (winI l11 0 (lenN l11)).bnd (fun (l18 : (List (Int × (Int × (Int × (List Int)))))) =>
 (winI l17 0 (lenN l17)).bnd (fun (l19 : (List (Int × (Int × (Int × (List Int)))))) =>
 (F_laws_eqChain ((i10, l18), i16, l19)).bnd (fun (b20 : Bool) =>
 cnd (notB b20)
 (some false)
 ((F_laws_toIntS l2).bnd (fun (l21 : (List Int)) =>
 (winI l12 0 (lenN l12)).bnd (fun (l22 : (List Int)) =>
 (winI l21 0 (lenN l21)).bnd (fun (l23 : (List Int)) =>
 (F_laws_eqIntS (l22, l23)).bnd (fun (b24 : Bool) =>
 cnd (notB b24)
 (some false)
 (some true)))))))))))))))))))))))))

theorem f_laws_FnExactChainAt (x : (Int × (List (Int × Int × Int × (List Int)))) × (List Int)) (y : Bool) (h : F_laws_FnExactChainAt x = some y) : G_laws_FnExactChainAt FUEL x = some y := by
  obtain ⟨⟨a0_0, a0_1⟩, a1⟩ := x
  simp only [F_laws_FnExactChainAt, Bool.and_eq_true] at h
  split at h
  · rename_i hw
    rw [← h]
    simp only [G_laws_FnExactChainAt]
    rw [nl]
    by_cases cl1 : (a1.length : Int) ≤ 1048576
    case neg => rw [cnd_t (ltI_t (by omega))]
    rw [cnd_f (ltI_f (by omega))]
    have hz1 : sz_IntS a1 ≤ 1048576 := by show a1.length ≤ _; omega
    rw [szKB (o := F_laws_szChain ((a0_0, a0_1), 1048576)) (s := sz_Chain (a0_0, a0_1)) (if_pos ⟨by constructor <;> omega, hw.1⟩)]
    by_cases c0 : ((sz_Chain (a0_0, a0_1) : Nat) : Int) ≤ 1048576
    case neg => rw [if_neg c0]
    rw [if_pos c0]
    obtain ⟨r0, hs, hi⟩ := ex_ChainAt (a0_0, a0_1) a1 (by omega) (by omega)
    have t0 : F_laws_toChain (a0_0, a0_1) = some (a0_0, a0_1) := tos_Chain _ (by omega)
    have q0 : F_laws_eqChain ((a0_0, a0_1), (a0_0, a0_1)) = some true := eqs_Chain _ (by omega)
    have := c4_SiteS a0_1
    have t1 : F_laws_toIntS a1 = some a1 := tos_IntS _ (by omega)
    have q1 : F_laws_eqIntS (a1, a1) = some true := eqs_IntS _ (by omega)
    have := c4_IntS a1
    simp only [sz_Chain] at *
    have m0 : F_laws_markChain ((a0_0, a0_1), (1 : Int)) = some ((1 : Int) + (cnt_SiteS a0_1 : Nat), mk_SiteS a0_1 ((1 : Int))) := if_pos ⟨by omega, by (try simp only [sz_Chain]); omega⟩
    have m1 : F_laws_markIntS (a1, (1 : Int) + (cnt_SiteS a0_1 : Nat)) = some ((1 : Int) + (cnt_SiteS a0_1 : Nat) + (cnt_IntS a1 : Nat), mk_IntS a1 ((1 : Int) + (cnt_SiteS a0_1 : Nat))) := if_pos ⟨by omega, by (try simp only [sz_Chain]); omega⟩
    have k0 : ltI ((1 : Int) + (cnt_SiteS a0_1 : Nat) + (cnt_IntS a1 : Nat)) 0 = false := ltI_f (by omega)
    simp only [bnd_s, winI_id, fulI_id, hs, hi, notB_t, cnd_false, neB_self, neI_self, t0, q0, t1, q1, m0, m1, k0]
  · cases h


end Go.Am
