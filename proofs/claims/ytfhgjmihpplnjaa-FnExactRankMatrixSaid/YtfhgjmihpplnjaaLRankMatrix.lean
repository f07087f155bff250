/- L_RankMatrix: the law FnExactRankMatrix. No condition. -/
import Derived.Test.YtfhgjmihpplnjaaM9
set_option linter.unusedVariables false
set_option linter.unusedSimpArgs false
namespace Go.Am
theorem ex_RankMatrix (m : Int) (x : Int × Int × List Int) (h : sz_Matrix x ≤ 1048576) : ∃ r0, F_spec_RankMatrix (m, x) = some r0 ∧ F_impl_RankMatrix (m, x) = some r0 := ⟨_, if_pos h, if_pos h⟩
def F_laws_FnExactRankMatrix : (Int) × (Int × Int × (List Int)) → Option Bool := fun ((a0, a1) : (Int) × (Int × Int × (List Int))) => if (wf_Matrix a1) = true then some true else none

def ag_laws_FnExactRankMatrix : Sig := [(.one, [.int .i64]), (.agg, [.int .i64, .int .i64, .list [.int .i64]])]
def rs_laws_FnExactRankMatrix : Sig := [(.one, [.bool])]
def mu_laws_FnExactRankMatrix : MSig := []

def G_laws_FnExactRankMatrix (NN : Nat) : (Int × (Int × (Int × (List Int)))) → (Option Bool) :=
  (fun ((i0, i1, i2, l3) : (Int × (Int × (Int × (List Int))))) =>
  (F_laws_szMatrix ((i1, i2, l3), (1048576 : Int))).bnd (fun (i4 : Int) =>
    cnd (ltI i4 (0 : Int))
      (some true)
      ((F_laws_toMatrix (i1, i2, l3)).bnd (fun ((i5, i6, l7) : (Int × (Int × (List Int)))) =>
        (winI l7 0 (lenN l7)).bnd (fun (l8 : (List Int)) =>
          (F_spec_RankMatrix (i0, i5, i6, l8)).bnd (fun (i9 : Int) =>
            (F_laws_toMatrix (i1, i2, l3)).bnd (fun ((i10, i11, l12) : (Int × (Int × (List Int)))) =>
              (winI l12 0 (lenN l12)).bnd (fun (l13 : (List Int)) =>
                (F_impl_RankMatrix (i0, i10, i11, l13)).bnd (fun (i14 : Int) =>
                  cnd (neI i14 i9)
                    (some false)
                    ((F_laws_toMatrix (i1, i2, l3)).bnd (fun ((i15, i16, l17) : (Int × (Int × (List Int)))) =>
                      (winI l12 0 (lenN l12)).bnd (fun (l18 : (List Int)) =>
                        (winI l17 0 (lenN l17)).bnd (fun (l19 : (List Int)) =>
                          (F_laws_eqMatrix ((i10, i11, l18), i15, i16, l19)).bnd (fun (b20 : Bool) =>
                            cnd (notB b20)
                              (some false)
                              (some true)))))))))))))))


theorem f_laws_FnExactRankMatrix (x : (Int) × (Int × Int × (List Int))) (y : Bool) (h : F_laws_FnExactRankMatrix x = some y) : G_laws_FnExactRankMatrix FUEL x = some y := by
  obtain ⟨a0, ⟨a1_0, a1_1, a1_2⟩⟩ := x
  simp only [F_laws_FnExactRankMatrix] at h
  split at h
  · rename_i hw
    rw [← h]
    simp only [G_laws_FnExactRankMatrix]
    rw [szKB (o := F_laws_szMatrix ((a1_0, a1_1, a1_2), 1048576)) (s := sz_Matrix (a1_0, a1_1, a1_2)) (if_pos ⟨by constructor <;> omega, hw⟩)]
    by_cases c0 : ((sz_Matrix (a1_0, a1_1, a1_2) : Nat) : Int) ≤ 1048576
    case neg => rw [if_neg c0]
    rw [if_pos c0]
    obtain ⟨r0, hs, hi⟩ := ex_RankMatrix a0 (a1_0, a1_1, a1_2) (by omega)
    have t1 : F_laws_toMatrix (a1_0, a1_1, a1_2) = some (a1_0, a1_1, a1_2) := tos_Matrix _ (by omega)
    have q1 : F_laws_eqMatrix ((a1_0, a1_1, a1_2), (a1_0, a1_1, a1_2)) = some true := eqs_Matrix _ (by omega)
    have := c4_IntS a1_2
    simp only [sz_Matrix] at *
    have m1 : F_laws_markMatrix ((a1_0, a1_1, a1_2), (1 : Int)) = some ((1 : Int) + (cnt_IntS a1_2 : Nat), mk_IntS a1_2 ((1 : Int))) := if_pos ⟨by omega, by (try simp only [sz_Matrix]); omega⟩
    have k0 : ltI ((1 : Int) + (cnt_IntS a1_2 : Nat)) 0 = false := ltI_f (by omega)
    simp only [bnd_s, winI_id, fulI_id, hs, hi, notB_t, cnd_false, neB_self, neI_self, t1, q1, m1, k0]
  · cases h


end Go.Am
