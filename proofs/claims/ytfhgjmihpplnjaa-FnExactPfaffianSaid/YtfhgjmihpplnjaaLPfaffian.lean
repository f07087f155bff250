/- L_Pfaffian: the law FnExactPfaffian. No condition. -/
import Derived.Test.YtfhgjmihpplnjaaM21
set_option linter.unusedVariables false
set_option linter.unusedSimpArgs false
namespace Go.Am
theorem ex_Pfaffian (m : Int) (x : Int × Int × List Int) (h : sz_Matrix x ≤ 1048576) : ∃ r0 r1, F_spec_Pfaffian (m, x) = some (r0, r1) ∧ F_impl_Pfaffian (m, x) = some (r0, r1) := by
  simp only [F_impl_Pfaffian, F_spec_Pfaffian, if_pos h]
  split
  · generalize pfR m _ _ = z
    obtain ⟨z0, z1⟩ := z
    exact ⟨z0, z1, rfl, rfl⟩
  · exact ⟨_, _, rfl, rfl⟩
def F_laws_FnExactPfaffian : (Int) × (Int × Int × (List Int)) → Option Bool := fun ((a0, a1) : (Int) × (Int × Int × (List Int))) => if (wf_Matrix a1) = true then some true else none

def ag_laws_FnExactPfaffian : Sig := [(.one, [.int .i64]), (.agg, [.int .i64, .int .i64, .list [.int .i64]])]
def rs_laws_FnExactPfaffian : Sig := [(.one, [.bool])]
def mu_laws_FnExactPfaffian : MSig := []
def G_laws_FnExactPfaffian (NN : Nat) : (Int × (Int × (Int × (List Int)))) → (Option Bool) :=
 (fun ((i0, i1, i2, l3) : (Int × (Int × (Int × (List Int))))) =>
 (F_laws_szMatrix ((i1, i2, l3), (1048576 : Int))).bnd (fun (i4 : Int) =>
 cnd (ltI i4 (0 : Int))
 (some true)
 ((F_laws_toMatrix (i1, i2, l3)).bnd (fun ((i5, i6, l7) : (Int × (Int × (List Int)))) =>
 (winI l7 0 (lenN l7)).bnd (fun (l8 : (List Int)) =>
 (F_spec_Pfaffian (i0, i5, i6, l8)).bnd (fun ((i9, b10) : (Int × Bool)) =>
 (F_laws_toMatrix (i1, i2, l3)).bnd (fun ((i11, i12, l13) : (Int × (Int × (List Int)))) =>
 (winI l13 0 (lenN l13)).bnd (fun (l14 : (List Int)) =>
 (F_impl_Pfaffian (i0, i11, i12, l14)).bnd (fun ((i15, b16) : (Int × Bool)) =>
 cnd (neI i15 i9)
 (some false)
 (cnd (neB b16 b10)
 (some false)
 ((F_laws_toMatrix (i1, i2, l3)).bnd (fun ((i17, i18, l19) : (Int × (Int × (List Int)))) =>
 (winI l13 0 (lenN l13)).bnd (fun (l20 : (List Int)) =>
 (winI l19 0 (lenN l19)).bnd (fun (l21 : (List Int)) =>
 (F_laws_eqMatrix ((i11, i12, l20), i17, i18, l21)).bnd (fun (b22 : Bool) =>
 cnd (notB b22)
 (some false)
 (some true))))))))))))))))

theorem f_laws_FnExactPfaffian (x : (Int) × (Int × Int × (List Int))) (y : Bool) (h : F_laws_FnExactPfaffian x = some y) : G_laws_FnExactPfaffian FUEL x = some y := by
  obtain ⟨a0, ⟨a1_0, a1_1, a1_2⟩⟩ := x
  simp only [F_laws_FnExactPfaffian] at h
  split at h
  · rename_i hw
    rw [← h]
    simp only [G_laws_FnExactPfaffian]
    rw [szKB (o := F_laws_szMatrix ((a1_0, a1_1, a1_2), 1048576)) (s := sz_Matrix (a1_0, a1_1, a1_2)) (if_pos ⟨by constructor <;> omega, hw⟩)]
    by_cases c0 : ((sz_Matrix (a1_0, a1_1, a1_2) : Nat) : Int) ≤ 1048576
    case neg => rw [if_neg c0]
    rw [if_pos c0]
    obtain ⟨r0, r1, hs, hi⟩ := ex_Pfaffian a0 (a1_0, a1_1, a1_2) (by omega)
    have t1 : F_laws_toMatrix (a1_0, a1_1, a1_2) = some (a1_0, a1_1, a1_2) := tos_Matrix _ (by omega)
    have q1 : F_laws_eqMatrix ((a1_0, a1_1, a1_2), (a1_0, a1_1, a1_2)) = some true := eqs_Matrix _ (by omega)
    have := c4_IntS a1_2
    simp only [sz_Matrix] at *
    have m1 : F_laws_markMatrix ((a1_0, a1_1, a1_2), (1 : Int)) = some ((1 : Int) + (cnt_IntS a1_2 : Nat), mk_IntS a1_2 ((1 : Int))) := if_pos ⟨by omega, by (try simp only [sz_Matrix]); omega⟩
    have k0 : ltI ((1 : Int) + (cnt_IntS a1_2 : Nat)) 0 = false := ltI_f (by omega)
    simp only [bnd_s, winI_id, fulI_id, hs, hi, notB_t, cnd_false, neB_self, neI_self, t1, q1, m1, k0]
  · cases h


end Go.Am
