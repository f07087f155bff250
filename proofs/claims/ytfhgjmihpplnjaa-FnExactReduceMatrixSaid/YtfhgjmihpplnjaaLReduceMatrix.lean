/- L_ReduceMatrix: the law FnExactReduceMatrix. No condition. -/
import Derived.Test.YtfhgjmihpplnjaaM9
set_option linter.unusedVariables false
set_option linter.unusedSimpArgs false
namespace Go.Am
theorem ex_ReduceMatrix (m : Int) (x : Int × Int × List Int) (h : sz_Matrix x ≤ 1048576) : ∃ r0 r1, F_spec_ReduceMatrix (m, x) = some (r0, r1) ∧ F_impl_ReduceMatrix (m, x) = some (r0, r1) ∧ sz_Matrix r0 ≤ 524288 ∧ sz_IntS r1 ≤ 524288 := by
  simp only [F_spec_ReduceMatrix, F_impl_ReduceMatrix, if_pos h]
  by_cases hm : matOk m x = true
  · rw [if_pos hm]
    refine ⟨_, _, rfl, rfl, ?_⟩
    obtain ⟨r, c, M, rfl, hp, hr, hc, hrc, hM, eM, hR⟩ := matOk_red hm
    have hI := redN_I hp hM (r := r) (c := c) c
    rw [redX_nat eM]
    constructor
    · show (genD _ _ _).length ≤ _
      rw [genD_len]
      simp only [Int.toNat_natCast]
      omega
    · show (redN m r M c).2.1.length ≤ _
      have := hI.l
      omega
  · rw [if_neg hm]
    exact ⟨_, _, rfl, rfl, Nat.zero_le _, Nat.zero_le _⟩
def F_laws_FnExactReduceMatrix : (Int) × (Int × Int × (List Int)) → Option Bool := fun ((a0, a1) : (Int) × (Int × Int × (List Int))) => if (wf_Matrix a1) = true then some true else none

def ag_laws_FnExactReduceMatrix : Sig := [(.one, [.int .i64]), (.agg, [.int .i64, .int .i64, .list [.int .i64]])]
def rs_laws_FnExactReduceMatrix : Sig := [(.one, [.bool])]
def mu_laws_FnExactReduceMatrix : MSig := []

def G_laws_FnExactReduceMatrix (NN : Nat) : (Int × (Int × (Int × (List Int)))) → (Option Bool) :=
  (fun ((i0, i1, i2, l3) : (Int × (Int × (Int × (List Int))))) =>
  (F_laws_szMatrix ((i1, i2, l3), (1048576 : Int))).bnd (fun (i4 : Int) =>
    cnd (ltI i4 (0 : Int))
      (some true)
      ((F_laws_toMatrix (i1, i2, l3)).bnd (fun ((i5, i6, l7) : (Int × (Int × (List Int)))) =>
        (winI l7 0 (lenN l7)).bnd (fun (l8 : (List Int)) =>
          (F_spec_ReduceMatrix (i0, i5, i6, l8)).bnd (fun (((i9, i10, l11), l12) : ((Int × (Int × (List Int))) × (List Int))) =>
            (F_laws_toMatrix (i1, i2, l3)).bnd (fun ((i13, i14, l15) : (Int × (Int × (List Int)))) =>
              (winI l15 0 (lenN l15)).bnd (fun (l16 : (List Int)) =>
                (F_impl_ReduceMatrix (i0, i13, i14, l16)).bnd (fun (((i17, i18, l19), l20) : ((Int × (Int × (List Int))) × (List Int))) =>
                  (winI l19 0 (lenN l19)).bnd (fun (l21 : (List Int)) =>
                    (winI l11 0 (lenN l11)).bnd (fun (l22 : (List Int)) =>
                      (F_laws_eqMatrix ((i17, i18, l21), i9, i10, l22)).bnd (fun (b23 : Bool) =>
                        cnd (notB b23)
                          (some false)
                          ((winI l20 0 (lenN l20)).bnd (fun (l24 : (List Int)) =>
                            (winI l12 0 (lenN l12)).bnd (fun (l25 : (List Int)) =>
                              (F_laws_eqIntS (l24, l25)).bnd (fun (b26 : Bool) =>
                                cnd (notB b26)
                                  (some false)
                                  ((F_laws_toMatrix (i1, i2, l3)).bnd (fun ((i27, i28, l29) : (Int × (Int × (List Int)))) =>
                                    (winI l15 0 (lenN l15)).bnd (fun (l30 : (List Int)) =>
                                      (winI l29 0 (lenN l29)).bnd (fun (l31 : (List Int)) =>
                                        (F_laws_eqMatrix ((i13, i14, l30), i27, i28, l31)).bnd (fun (b32 : Bool) =>
                                          cnd (notB b32)
                                            (some false)
                                            ((fulI 0 (lenN l15) (lenN l15)).bnd (fun (_ : Unit) =>
                                              (F_laws_markMatrix ((i13, i14, l15), (1 : Int))).bnd (fun ((i33, l34) : (Int × (List Int))) =>
                                                cnd (ltI i33 (0 : Int))
                                                  (some false)
                                                  ((winI l19 0 (lenN l19)).bnd (fun (l35 : (List Int)) =>
                                                    (winI l11 0 (lenN l11)).bnd (fun (l36 : (List Int)) =>
                                                      (F_laws_eqMatrix ((i17, i18, l35), i9, i10, l36)).bnd (fun (b37 : Bool) =>
                                                        cnd (notB b37)
                                                          (some false)
                                                          ((winI l20 0 (lenN l20)).bnd (fun (l38 : (List Int)) =>
                                                            (winI l12 0 (lenN l12)).bnd (fun (l39 : (List Int)) =>
                                                              (F_laws_eqIntS (l38, l39)).bnd (fun (b40 : Bool) =>
                                                                cnd (notB b40)
                                                                  (some false)
                                                                  ((fulI 0 (lenN l19) (lenN l19)).bnd (fun (_ : Unit) =>
                                                                    (F_laws_markMatrix ((i17, i18, l19), (1 : Int))).bnd (fun ((i41, l42) : (Int × (List Int))) =>
                                                                      (fulI 0 (lenN l20) (lenN l20)).bnd (fun (_ : Unit) =>
                                                                        (F_laws_markIntS (l20, i41)).bnd (fun ((i43, l44) : (Int × (List Int))) =>
                                                                          (winI l42 0 (lenN l19)).bnd (fun (l45 : (List Int)) =>
                                                                            (F_laws_heldMatrix ((i17, i18, l45), (1 : Int))).bnd (fun (i46 : Int) =>
                                                                              cnd (ltI i46 (0 : Int))
                                                                                (some false)
                                                                                ((winI l44 0 (lenN l20)).bnd (fun (l47 : (List Int)) =>
                                                                                  (F_laws_heldIntS (l47, i46)).bnd (fun (i48 : Int) =>
                                                                                    cnd (ltI i48 (0 : Int))
                                                                                      (some false)
                                                                                      (cnd (neI i48 i43)
                                                                                        (some false)
                                                                                        ((F_laws_toMatrix (i1, i2, l3)).bnd (fun ((i49, i50, l51) : (Int × (Int × (List Int)))) =>
                                                                                          (winI l51 0 (lenN l51)).bnd (fun (l52 : (List Int)) =>
                                                                                            (F_impl_ReduceMatrix (i0, i49, i50, l52)).bnd (fun (((i53, i54, l55), l56) : ((Int × (Int × (List Int))) × (List Int))) =>
                                                                                              (winI l55 0 (lenN l55)).bnd (fun (l57 : (List Int)) =>
                                                                                                (winI l11 0 (lenN l11)).bnd (fun (l58 : (List Int)) =>
                                                                                                  (F_laws_eqMatrix ((i53, i54, l57), i9, i10, l58)).bnd (fun (b59 : Bool) =>
                                                                                                    cnd (notB b59)
                                                                                                      (some false)
                                                                                                      ((winI l56 0 (lenN l56)).bnd (fun (l60 : (List Int)) =>
                                                                                                        (winI l12 0 (lenN l12)).bnd (fun (l61 : (List Int)) =>
                                                                                                          (F_laws_eqIntS (l60, l61)).bnd (fun (b62 : Bool) =>
                                                                                                            cnd (notB b62)
                                                                                                              (some false)
                                                                                                              ((winI l42 0 (lenN l19)).bnd (fun (l63 : (List Int)) =>
                                                                                                                (F_laws_heldMatrix ((i17, i18, l63), (1 : Int))).bnd (fun (i64 : Int) =>
                                                                                                                  cnd (ltI i64 (0 : Int))
                                                                                                                    (some false)
                                                                                                                    ((winI l44 0 (lenN l20)).bnd (fun (l65 : (List Int)) =>
                                                                                                                      (F_laws_heldIntS (l65, i64)).bnd (fun (i66 : Int) =>
                                                                                                                        cnd (ltI i66 (0 : Int))
                                                                                                                          (some false)
                                                                                                                          (cnd (neI i66 i43)
                                                                                                                            (some false)
                                                                                                                            (some true))))))))))))))))))))))))))))))))))))))))))))))))))))))))))))))


theorem f_laws_FnExactReduceMatrix (x : (Int) × (Int × Int × (List Int))) (y : Bool) (h : F_laws_FnExactReduceMatrix x = some y) : G_laws_FnExactReduceMatrix FUEL x = some y := by
  obtain ⟨a0, ⟨a1_0, a1_1, a1_2⟩⟩ := x
  simp only [F_laws_FnExactReduceMatrix] at h
  split at h
  · rename_i hw
    rw [← h]
    simp only [G_laws_FnExactReduceMatrix]
    rw [szKB (o := F_laws_szMatrix ((a1_0, a1_1, a1_2), 1048576)) (s := sz_Matrix (a1_0, a1_1, a1_2)) (if_pos ⟨by constructor <;> omega, hw⟩)]
    by_cases c0 : ((sz_Matrix (a1_0, a1_1, a1_2) : Nat) : Int) ≤ 1048576
    case neg => rw [if_neg c0]
    rw [if_pos c0]
    obtain ⟨r0, r1, hs, hi, z0, z1⟩ := ex_ReduceMatrix a0 (a1_0, a1_1, a1_2) (by omega)
    obtain ⟨r0_0, r0_1, r0_2⟩ := r0
    have t1 : F_laws_toMatrix (a1_0, a1_1, a1_2) = some (a1_0, a1_1, a1_2) := tos_Matrix _ (by omega)
    have q1 : F_laws_eqMatrix ((a1_0, a1_1, a1_2), (a1_0, a1_1, a1_2)) = some true := eqs_Matrix _ (by omega)
    have := c4_IntS a1_2
    have w0 : F_laws_eqMatrix ((r0_0, r0_1, r0_2), (r0_0, r0_1, r0_2)) = some true := eqs_Matrix _ (by omega)
    have := c4_IntS r0_2
    have w1 : F_laws_eqIntS (r1, r1) = some true := eqs_IntS _ (by omega)
    have := c4_IntS r1
    simp only [sz_Matrix] at *
    have m1 : F_laws_markMatrix ((a1_0, a1_1, a1_2), (1 : Int)) = some ((1 : Int) + (cnt_IntS a1_2 : Nat), mk_IntS a1_2 ((1 : Int))) := if_pos ⟨by omega, by (try simp only [sz_Matrix]); omega⟩
    have k0 : ltI ((1 : Int) + (cnt_IntS a1_2 : Nat)) 0 = false := ltI_f (by omega)
    have n0 : F_laws_markMatrix ((r0_0, r0_1, r0_2), (1 : Int)) = some ((1 : Int) + (cnt_IntS r0_2 : Nat), mk_IntS r0_2 ((1 : Int))) := if_pos ⟨by omega, by (try simp only [sz_Matrix]); omega⟩
    have d0 : F_laws_heldMatrix ((r0_0, r0_1, mk_IntS r0_2 ((1 : Int))), (1 : Int)) = some ((1 : Int) + (cnt_IntS r0_2 : Nat)) := hd_Matrix (r0_0, r0_1, r0_2) ((1 : Int)) ⟨by omega, by (try simp only [sz_Matrix]); omega⟩
    have kk0 : ltI ((1 : Int) + (cnt_IntS r0_2 : Nat)) 0 = false := ltI_f (by omega)
    have lr0_2 : winI (mk_IntS r0_2 ((1 : Int))) 0 (lenN r0_2) = some (mk_IntS r0_2 ((1 : Int))) := winI_len (lmk_IntS r0_2 ((1 : Int)))
    have n1 : F_laws_markIntS (r1, (1 : Int) + (cnt_IntS r0_2 : Nat)) = some ((1 : Int) + (cnt_IntS r0_2 : Nat) + (cnt_IntS r1 : Nat), mk_IntS r1 ((1 : Int) + (cnt_IntS r0_2 : Nat))) := if_pos ⟨by omega, by (try simp only [sz_Matrix]); omega⟩
    have d1 : F_laws_heldIntS (mk_IntS r1 ((1 : Int) + (cnt_IntS r0_2 : Nat)), (1 : Int) + (cnt_IntS r0_2 : Nat)) = some ((1 : Int) + (cnt_IntS r0_2 : Nat) + (cnt_IntS r1 : Nat)) := hd_IntS r1 ((1 : Int) + (cnt_IntS r0_2 : Nat)) ⟨by omega, by (try simp only [sz_Matrix]); omega⟩
    have kk1 : ltI ((1 : Int) + (cnt_IntS r0_2 : Nat) + (cnt_IntS r1 : Nat)) 0 = false := ltI_f (by omega)
    have lr1 : winI (mk_IntS r1 ((1 : Int) + (cnt_IntS r0_2 : Nat))) 0 (lenN r1) = some (mk_IntS r1 ((1 : Int) + (cnt_IntS r0_2 : Nat))) := winI_len (lmk_IntS r1 ((1 : Int) + (cnt_IntS r0_2 : Nat)))
    simp only [bnd_s, winI_id, fulI_id, hs, hi, notB_t, cnd_false, neB_self, neI_self, t1, q1, w0, w1, m1, k0, n0, d0, kk0, lr0_2, n1, d1, kk1, lr1]
  · cases h


end Go.Am
