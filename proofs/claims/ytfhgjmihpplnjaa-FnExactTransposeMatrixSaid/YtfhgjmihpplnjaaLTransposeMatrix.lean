/- L_TransposeMatrix: the law FnExactTransposeMatrix. No condition. -/
import Derived.Test.YtfhgjmihpplnjaaM7
set_option linter.unusedVariables false
set_option linter.unusedSimpArgs false
namespace Go.Am
theorem ex_TransposeMatrix (m : Int) (x : Int × Int × List Int) (h : sz_Matrix x ≤ 1048576) : ∃ r0, F_spec_TransposeMatrix (m, x) = some r0 ∧ F_impl_TransposeMatrix (m, x) = some r0 ∧ sz_Matrix r0 ≤ 1048576 := by
  refine ⟨_, if_pos h, if_pos h, ?_⟩
  split
  · rename_i hm
    obtain ⟨r, c, M, e, hp, hr, hc, hrc, hM⟩ := matOk_nat hm
    cases e
    show (genD _ _ _).length ≤ _
    rw [genD_len]
    simp only [Int.toNat_natCast]
    rw [Nat.mul_comm]
    omega
  · exact Nat.zero_le _
def F_laws_FnExactTransposeMatrix : (Int) × (Int × Int × (List Int)) → Option Bool := fun ((a0, a1) : (Int) × (Int × Int × (List Int))) => if (wf_Matrix a1) = true then some true else none

def ag_laws_FnExactTransposeMatrix : Sig := [(.one, [.int .i64]), (.agg, [.int .i64, .int .i64, .list [.int .i64]])]
def rs_laws_FnExactTransposeMatrix : Sig := [(.one, [.bool])]
def mu_laws_FnExactTransposeMatrix : MSig := []

def G_laws_FnExactTransposeMatrix (NN : Nat) : (Int × (Int × (Int × (List Int)))) → (Option Bool) :=
  (fun ((i0, i1, i2, l3) : (Int × (Int × (Int × (List Int))))) =>
  (F_laws_szMatrix ((i1, i2, l3), (1048576 : Int))).bnd (fun (i4 : Int) =>
    cnd (ltI i4 (0 : Int))
      (some true)
      ((F_laws_toMatrix (i1, i2, l3)).bnd (fun ((i5, i6, l7) : (Int × (Int × (List Int)))) =>
        (winI l7 0 (lenN l7)).bnd (fun (l8 : (List Int)) =>
          (F_spec_TransposeMatrix (i0, i5, i6, l8)).bnd (fun ((i9, i10, l11) : (Int × (Int × (List Int)))) =>
            (F_laws_toMatrix (i1, i2, l3)).bnd (fun ((i12, i13, l14) : (Int × (Int × (List Int)))) =>
              (winI l14 0 (lenN l14)).bnd (fun (l15 : (List Int)) =>
                (F_impl_TransposeMatrix (i0, i12, i13, l15)).bnd (fun ((i16, i17, l18) : (Int × (Int × (List Int)))) =>
                  (winI l18 0 (lenN l18)).bnd (fun (l19 : (List Int)) =>
                    (winI l11 0 (lenN l11)).bnd (fun (l20 : (List Int)) =>
                      (F_laws_eqMatrix ((i16, i17, l19), i9, i10, l20)).bnd (fun (b21 : Bool) =>
                        cnd (notB b21)
                          (some false)
                          ((F_laws_toMatrix (i1, i2, l3)).bnd (fun ((i22, i23, l24) : (Int × (Int × (List Int)))) =>
                            (winI l14 0 (lenN l14)).bnd (fun (l25 : (List Int)) =>
                              (winI l24 0 (lenN l24)).bnd (fun (l26 : (List Int)) =>
                                (F_laws_eqMatrix ((i12, i13, l25), i22, i23, l26)).bnd (fun (b27 : Bool) =>
                                  cnd (notB b27)
                                    (some false)
                                    ((fulI 0 (lenN l14) (lenN l14)).bnd (fun (_ : Unit) =>
                                      (F_laws_markMatrix ((i12, i13, l14), (1 : Int))).bnd (fun ((i28, l29) : (Int × (List Int))) =>
                                        cnd (ltI i28 (0 : Int))
                                          (some false)
                                          ((winI l18 0 (lenN l18)).bnd (fun (l30 : (List Int)) =>
                                            (winI l11 0 (lenN l11)).bnd (fun (l31 : (List Int)) =>
                                              (F_laws_eqMatrix ((i16, i17, l30), i9, i10, l31)).bnd (fun (b32 : Bool) =>
                                                cnd (notB b32)
                                                  (some false)
                                                  ((fulI 0 (lenN l18) (lenN l18)).bnd (fun (_ : Unit) =>
                                                    (F_laws_markMatrix ((i16, i17, l18), (1 : Int))).bnd (fun ((i33, l34) : (Int × (List Int))) =>
                                                      (winI l34 0 (lenN l18)).bnd (fun (l35 : (List Int)) =>
                                                        (F_laws_heldMatrix ((i16, i17, l35), (1 : Int))).bnd (fun (i36 : Int) =>
                                                          cnd (ltI i36 (0 : Int))
                                                            (some false)
                                                            (cnd (neI i36 i33)
                                                              (some false)
                                                              ((F_laws_toMatrix (i1, i2, l3)).bnd (fun ((i37, i38, l39) : (Int × (Int × (List Int)))) =>
                                                                (winI l39 0 (lenN l39)).bnd (fun (l40 : (List Int)) =>
                                                                  (F_impl_TransposeMatrix (i0, i37, i38, l40)).bnd (fun ((i41, i42, l43) : (Int × (Int × (List Int)))) =>
                                                                    (winI l43 0 (lenN l43)).bnd (fun (l44 : (List Int)) =>
                                                                      (winI l11 0 (lenN l11)).bnd (fun (l45 : (List Int)) =>
                                                                        (F_laws_eqMatrix ((i41, i42, l44), i9, i10, l45)).bnd (fun (b46 : Bool) =>
                                                                          cnd (notB b46)
                                                                            (some false)
                                                                            ((winI l34 0 (lenN l18)).bnd (fun (l47 : (List Int)) =>
                                                                              (F_laws_heldMatrix ((i16, i17, l47), (1 : Int))).bnd (fun (i48 : Int) =>
                                                                                cnd (ltI i48 (0 : Int))
                                                                                  (some false)
                                                                                  (cnd (neI i48 i33)
                                                                                    (some false)
                                                                                    (some true))))))))))))))))))))))))))))))))))))))))))


theorem f_laws_FnExactTransposeMatrix (x : (Int) × (Int × Int × (List Int))) (y : Bool) (h : F_laws_FnExactTransposeMatrix x = some y) : G_laws_FnExactTransposeMatrix FUEL x = some y := by
  obtain ⟨a0, ⟨a1_0, a1_1, a1_2⟩⟩ := x
  simp only [F_laws_FnExactTransposeMatrix] at h
  split at h
  · rename_i hw
    rw [← h]
    simp only [G_laws_FnExactTransposeMatrix]
    rw [szKB (o := F_laws_szMatrix ((a1_0, a1_1, a1_2), 1048576)) (s := sz_Matrix (a1_0, a1_1, a1_2)) (if_pos ⟨by constructor <;> omega, hw⟩)]
    by_cases c0 : ((sz_Matrix (a1_0, a1_1, a1_2) : Nat) : Int) ≤ 1048576
    case neg => rw [if_neg c0]
    rw [if_pos c0]
    obtain ⟨r0, hs, hi, z0⟩ := ex_TransposeMatrix a0 (a1_0, a1_1, a1_2) (by omega)
    obtain ⟨r0_0, r0_1, r0_2⟩ := r0
    have t1 : F_laws_toMatrix (a1_0, a1_1, a1_2) = some (a1_0, a1_1, a1_2) := tos_Matrix _ (by omega)
    have q1 : F_laws_eqMatrix ((a1_0, a1_1, a1_2), (a1_0, a1_1, a1_2)) = some true := eqs_Matrix _ (by omega)
    have := c4_IntS a1_2
    have w0 : F_laws_eqMatrix ((r0_0, r0_1, r0_2), (r0_0, r0_1, r0_2)) = some true := eqs_Matrix _ z0
    have := c4_IntS r0_2
    simp only [sz_Matrix] at *
    have m1 : F_laws_markMatrix ((a1_0, a1_1, a1_2), (1 : Int)) = some ((1 : Int) + (cnt_IntS a1_2 : Nat), mk_IntS a1_2 ((1 : Int))) := if_pos ⟨by omega, by simp only [sz_Matrix]; omega⟩
    have k0 : ltI ((1 : Int) + (cnt_IntS a1_2 : Nat)) 0 = false := ltI_f (by omega)
    have n0 : F_laws_markMatrix ((r0_0, r0_1, r0_2), (1 : Int)) = some ((1 : Int) + (cnt_IntS r0_2 : Nat), mk_IntS r0_2 ((1 : Int))) := if_pos ⟨by omega, by simp only [sz_Matrix]; omega⟩
    have d0 : F_laws_heldMatrix ((r0_0, r0_1, mk_IntS r0_2 ((1 : Int))), (1 : Int)) = some ((1 : Int) + (cnt_IntS r0_2 : Nat)) := hd_Matrix (r0_0, r0_1, r0_2) ((1 : Int)) ⟨by omega, by simp only [sz_Matrix]; omega⟩
    have kk0 : ltI ((1 : Int) + (cnt_IntS r0_2 : Nat)) 0 = false := ltI_f (by omega)
    have lr0_2 : winI (mk_IntS r0_2 ((1 : Int))) 0 (lenN r0_2) = some (mk_IntS r0_2 ((1 : Int))) := winI_len (lmk_IntS r0_2 ((1 : Int)))
    simp only [bnd_s, winI_id, fulI_id, hs, hi, notB_t, cnd_false, neB_self, neI_self, t1, q1, w0, m1, k0, n0, d0, kk0, lr0_2]
  · cases h


end Go.Am
