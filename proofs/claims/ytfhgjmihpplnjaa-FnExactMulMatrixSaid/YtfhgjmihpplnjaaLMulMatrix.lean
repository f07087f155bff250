/- L_MulMatrix: the law FnExactMulMatrix. No condition. -/
import Derived.Test.YtfhgjmihpplnjaaM7
set_option linter.unusedVariables false
set_option linter.unusedSimpArgs false
namespace Go.Am
theorem ex_MulMatrix (m : Int) (a b : Int × Int × List Int) (h : sz_Matrix a ≤ 1048576) (h' : sz_Matrix b ≤ 1048576) : ∃ r0 r1, F_spec_MulMatrix (m, a, b) = some (r0, r1) ∧ F_impl_MulMatrix (m, a, b) = some (r0, r1) ∧ sz_Matrix r0 ≤ 1048576 := by
  simp only [F_spec_MulMatrix, F_impl_MulMatrix, if_pos (And.intro h h')]
  by_cases hm : matOk m a = true ∧ matOk m b = true ∧ a.2.1 = b.1
  · rw [if_pos hm]
    refine ⟨_, _, rfl, rfl, ?_⟩
    obtain ⟨hm, hm', _⟩ := hm
    obtain ⟨r, c, M, e, hp, hr, hc, hrc, hM⟩ := matOk_nat hm
    obtain ⟨r', c', M', e', hp', hr', hc', hrc', hM'⟩ := matOk_nat hm'
    subst e e'
    show (genD _ _ _).length ≤ _
    rw [genD_len]
    simp only [Int.toNat_natCast]
    have : r * c' ≤ 64 * 64 := Nat.mul_le_mul hr hc'
    omega
  · rw [if_neg hm]
    exact ⟨_, _, rfl, rfl, Nat.zero_le _⟩
def F_laws_FnExactMulMatrix : (Int) × (Int × Int × (List Int)) × (Int × Int × (List Int)) → Option Bool := fun ((a0, a1, a2) : (Int) × (Int × Int × (List Int)) × (Int × Int × (List Int))) => if (wf_Matrix a1 && wf_Matrix a2) = true then some true else none

def ag_laws_FnExactMulMatrix : Sig := [(.one, [.int .i64]), (.agg, [.int .i64, .int .i64, .list [.int .i64]]), (.agg, [.int .i64, .int .i64, .list [.int .i64]])]
def rs_laws_FnExactMulMatrix : Sig := [(.one, [.bool])]
def mu_laws_FnExactMulMatrix : MSig := []

def G_laws_FnExactMulMatrix (NN : Nat) : (Int × ((Int × (Int × (List Int))) × (Int × (Int × (List Int))))) → (Option Bool) :=
  (fun ((i0, (i1, i2, l3), i4, i5, l6) : (Int × ((Int × (Int × (List Int))) × (Int × (Int × (List Int)))))) =>
  (F_laws_szMatrix ((i1, i2, l3), (1048576 : Int))).bnd (fun (i7 : Int) =>
    cnd (ltI i7 (0 : Int))
      (some true)
      ((F_laws_szMatrix ((i4, i5, l6), i7)).bnd (fun (i8 : Int) =>
        cnd (ltI i8 (0 : Int))
          (some true)
          ((F_laws_toMatrix (i1, i2, l3)).bnd (fun ((i9, i10, l11) : (Int × (Int × (List Int)))) =>
            (F_laws_toMatrix (i4, i5, l6)).bnd (fun ((i12, i13, l14) : (Int × (Int × (List Int)))) =>
              (winI l11 0 (lenN l11)).bnd (fun (l15 : (List Int)) =>
                (winI l14 0 (lenN l14)).bnd (fun (l16 : (List Int)) =>
                  (F_spec_MulMatrix (i0, (i9, i10, l15), i12, i13, l16)).bnd (fun (((i17, i18, l19), b20) : ((Int × (Int × (List Int))) × Bool)) =>
                    (F_laws_toMatrix (i1, i2, l3)).bnd (fun ((i21, i22, l23) : (Int × (Int × (List Int)))) =>
                      (F_laws_toMatrix (i4, i5, l6)).bnd (fun ((i24, i25, l26) : (Int × (Int × (List Int)))) =>
                        (winI l23 0 (lenN l23)).bnd (fun (l27 : (List Int)) =>
                          (winI l26 0 (lenN l26)).bnd (fun (l28 : (List Int)) =>
                            (F_impl_MulMatrix (i0, (i21, i22, l27), i24, i25, l28)).bnd (fun (((i29, i30, l31), b32) : ((Int × (Int × (List Int))) × Bool)) =>
                              (winI l31 0 (lenN l31)).bnd (fun (l33 : (List Int)) =>
                                (winI l19 0 (lenN l19)).bnd (fun (l34 : (List Int)) =>
                                  (F_laws_eqMatrix ((i29, i30, l33), i17, i18, l34)).bnd (fun (b35 : Bool) =>
                                    cnd (notB b35)
                                      (some false)
                                      (cnd (neB b32 b20)
                                        (some false)
                                        ((F_laws_toMatrix (i1, i2, l3)).bnd (fun ((i36, i37, l38) : (Int × (Int × (List Int)))) =>
                                          (winI l23 0 (lenN l23)).bnd (fun (l39 : (List Int)) =>
                                            (winI l38 0 (lenN l38)).bnd (fun (l40 : (List Int)) =>
                                              (F_laws_eqMatrix ((i21, i22, l39), i36, i37, l40)).bnd (fun (b41 : Bool) =>
                                                cnd (notB b41)
                                                  (some false)
                                                  ((F_laws_toMatrix (i4, i5, l6)).bnd (fun ((i42, i43, l44) : (Int × (Int × (List Int)))) =>
                                                    (winI l26 0 (lenN l26)).bnd (fun (l45 : (List Int)) =>
                                                      (winI l44 0 (lenN l44)).bnd (fun (l46 : (List Int)) =>
                                                        (F_laws_eqMatrix ((i24, i25, l45), i42, i43, l46)).bnd (fun (b47 : Bool) =>
                                                          cnd (notB b47)
                                                            (some false)
                                                            ((fulI 0 (lenN l23) (lenN l23)).bnd (fun (_ : Unit) =>
                                                              (F_laws_markMatrix ((i21, i22, l23), (1 : Int))).bnd (fun ((i48, l49) : (Int × (List Int))) =>
                                                                (fulI 0 (lenN l26) (lenN l26)).bnd (fun (_ : Unit) =>
                                                                  (F_laws_markMatrix ((i24, i25, l26), i48)).bnd (fun ((i50, l51) : (Int × (List Int))) =>
                                                                    cnd (ltI i50 (0 : Int))
                                                                      (some false)
                                                                      ((winI l31 0 (lenN l31)).bnd (fun (l52 : (List Int)) =>
                                                                        (winI l19 0 (lenN l19)).bnd (fun (l53 : (List Int)) =>
                                                                          (F_laws_eqMatrix ((i29, i30, l52), i17, i18, l53)).bnd (fun (b54 : Bool) =>
                                                                            cnd (notB b54)
                                                                              (some false)
                                                                              (cnd (neB b32 b20)
                                                                                (some false)
                                                                                ((fulI 0 (lenN l31) (lenN l31)).bnd (fun (_ : Unit) =>
                                                                                  (F_laws_markMatrix ((i29, i30, l31), (1 : Int))).bnd (fun ((i55, l56) : (Int × (List Int))) =>
                                                                                    (winI l56 0 (lenN l31)).bnd (fun (l57 : (List Int)) =>
                                                                                      (F_laws_heldMatrix ((i29, i30, l57), (1 : Int))).bnd (fun (i58 : Int) =>
                                                                                        cnd (ltI i58 (0 : Int))
                                                                                          (some false)
                                                                                          (cnd (neI i58 i55)
                                                                                            (some false)
                                                                                            ((F_laws_toMatrix (i1, i2, l3)).bnd (fun ((i59, i60, l61) : (Int × (Int × (List Int)))) =>
                                                                                              (F_laws_toMatrix (i4, i5, l6)).bnd (fun ((i62, i63, l64) : (Int × (Int × (List Int)))) =>
                                                                                                (winI l61 0 (lenN l61)).bnd (fun (l65 : (List Int)) =>
                                                                                                  (winI l64 0 (lenN l64)).bnd (fun (l66 : (List Int)) =>
                                                                                                    (F_impl_MulMatrix (i0, (i59, i60, l65), i62, i63, l66)).bnd (fun (((i67, i68, l69), b70) : ((Int × (Int × (List Int))) × Bool)) =>
                                                                                                      (winI l69 0 (lenN l69)).bnd (fun (l71 : (List Int)) =>
                                                                                                        (winI l19 0 (lenN l19)).bnd (fun (l72 : (List Int)) =>
                                                                                                          (F_laws_eqMatrix ((i67, i68, l71), i17, i18, l72)).bnd (fun (b73 : Bool) =>
                                                                                                            cnd (notB b73)
                                                                                                              (some false)
                                                                                                              (cnd (neB b70 b20)
                                                                                                                (some false)
                                                                                                                ((winI l56 0 (lenN l31)).bnd (fun (l74 : (List Int)) =>
                                                                                                                  (F_laws_heldMatrix ((i29, i30, l74), (1 : Int))).bnd (fun (i75 : Int) =>
                                                                                                                    cnd (ltI i75 (0 : Int))
                                                                                                                      (some false)
                                                                                                                      (cnd (neI i75 i55)
                                                                                                                        (some false)
                                                                                                                        (some true))))))))))))))))))))))))))))))))))))))))))))))))))))))))))))


theorem f_laws_FnExactMulMatrix (x : (Int) × (Int × Int × (List Int)) × (Int × Int × (List Int))) (y : Bool) (h : F_laws_FnExactMulMatrix x = some y) : G_laws_FnExactMulMatrix FUEL x = some y := by
  obtain ⟨a0, ⟨a1_0, a1_1, a1_2⟩, ⟨a2_0, a2_1, a2_2⟩⟩ := x
  simp only [F_laws_FnExactMulMatrix, Bool.and_eq_true] at h
  split at h
  · rename_i hw
    rw [← h]
    simp only [G_laws_FnExactMulMatrix]
    rw [szKB (o := F_laws_szMatrix ((a1_0, a1_1, a1_2), 1048576)) (s := sz_Matrix (a1_0, a1_1, a1_2)) (if_pos ⟨by constructor <;> omega, hw.1⟩)]
    by_cases c0 : ((sz_Matrix (a1_0, a1_1, a1_2) : Nat) : Int) ≤ 1048576
    case neg => rw [if_neg c0]
    rw [if_pos c0]
    rw [szKB (o := F_laws_szMatrix ((a2_0, a2_1, a2_2), 1048576 - (sz_Matrix (a1_0, a1_1, a1_2) : Nat))) (s := sz_Matrix (a2_0, a2_1, a2_2)) (if_pos ⟨by constructor <;> omega, hw.2⟩)]
    by_cases c1 : ((sz_Matrix (a2_0, a2_1, a2_2) : Nat) : Int) ≤ 1048576 - (sz_Matrix (a1_0, a1_1, a1_2) : Nat)
    case neg => rw [if_neg c1]
    rw [if_pos c1]
    obtain ⟨r0, r1, hs, hi, z0⟩ := ex_MulMatrix a0 (a1_0, a1_1, a1_2) (a2_0, a2_1, a2_2) (by omega) (by omega)
    obtain ⟨r0_0, r0_1, r0_2⟩ := r0
    have t1 : F_laws_toMatrix (a1_0, a1_1, a1_2) = some (a1_0, a1_1, a1_2) := tos_Matrix _ (by omega)
    have q1 : F_laws_eqMatrix ((a1_0, a1_1, a1_2), (a1_0, a1_1, a1_2)) = some true := eqs_Matrix _ (by omega)
    have := c4_IntS a1_2
    have t2 : F_laws_toMatrix (a2_0, a2_1, a2_2) = some (a2_0, a2_1, a2_2) := tos_Matrix _ (by omega)
    have q2 : F_laws_eqMatrix ((a2_0, a2_1, a2_2), (a2_0, a2_1, a2_2)) = some true := eqs_Matrix _ (by omega)
    have := c4_IntS a2_2
    have w0 : F_laws_eqMatrix ((r0_0, r0_1, r0_2), (r0_0, r0_1, r0_2)) = some true := eqs_Matrix _ z0
    have := c4_IntS r0_2
    simp only [sz_Matrix] at *
    have m1 : F_laws_markMatrix ((a1_0, a1_1, a1_2), (1 : Int)) = some ((1 : Int) + (cnt_IntS a1_2 : Nat), mk_IntS a1_2 ((1 : Int))) := if_pos ⟨by omega, by simp only [sz_Matrix]; omega⟩
    have m2 : F_laws_markMatrix ((a2_0, a2_1, a2_2), (1 : Int) + (cnt_IntS a1_2 : Nat)) = some ((1 : Int) + (cnt_IntS a1_2 : Nat) + (cnt_IntS a2_2 : Nat), mk_IntS a2_2 ((1 : Int) + (cnt_IntS a1_2 : Nat))) := if_pos ⟨by omega, by simp only [sz_Matrix]; omega⟩
    have k0 : ltI ((1 : Int) + (cnt_IntS a1_2 : Nat) + (cnt_IntS a2_2 : Nat)) 0 = false := ltI_f (by omega)
    have n0 : F_laws_markMatrix ((r0_0, r0_1, r0_2), (1 : Int)) = some ((1 : Int) + (cnt_IntS r0_2 : Nat), mk_IntS r0_2 ((1 : Int))) := if_pos ⟨by omega, by simp only [sz_Matrix]; omega⟩
    have d0 : F_laws_heldMatrix ((r0_0, r0_1, mk_IntS r0_2 ((1 : Int))), (1 : Int)) = some ((1 : Int) + (cnt_IntS r0_2 : Nat)) := hd_Matrix (r0_0, r0_1, r0_2) ((1 : Int)) ⟨by omega, by simp only [sz_Matrix]; omega⟩
    have kk0 : ltI ((1 : Int) + (cnt_IntS r0_2 : Nat)) 0 = false := ltI_f (by omega)
    have lr0_2 : winI (mk_IntS r0_2 ((1 : Int))) 0 (lenN r0_2) = some (mk_IntS r0_2 ((1 : Int))) := winI_len (lmk_IntS r0_2 ((1 : Int)))
    simp only [bnd_s, winI_id, fulI_id, hs, hi, notB_t, cnd_false, neB_self, neI_self, t1, q1, t2, q2, w0, m1, m2, k0, n0, d0, kk0, lr0_2]
  · cases h


end Go.Am
