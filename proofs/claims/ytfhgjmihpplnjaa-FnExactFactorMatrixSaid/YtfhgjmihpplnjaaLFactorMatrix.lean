/- L_FactorMatrix: the law FnExactFactorMatrix. No condition. -/
import Derived.Test.YtfhgjmihpplnjaaM9
set_option linter.unusedVariables false
set_option linter.unusedSimpArgs false
namespace Go.Am
theorem ex_FactorMatrix (m : Int) (x : Int × Int × List Int) (h : sz_Matrix x ≤ 1048576) : ∃ r0 r1 r2, F_spec_FactorMatrix (m, x) = some (r0, r1, r2) ∧ F_impl_FactorMatrix (m, x) = some (r0, r1, r2) ∧ sz_Matrix r0 ≤ 524288 ∧ sz_Matrix r1 ≤ 524288 := by
  simp only [F_spec_FactorMatrix, F_impl_FactorMatrix, if_pos h]
  by_cases hm : matOk m x = true
  · rw [if_pos hm]
    refine ⟨_, _, _, rfl, rfl, ?_⟩
    obtain ⟨r, c, M, rfl, hp, hr, hc, hrc, hM, eM, hR⟩ := matOk_red hm
    have hI := redN_I hp hM (r := r) (c := c) c
    rw [facX_nat eM]
    have h1 := hI.l
    have h2 : r * (redN m r M c).2.1.length ≤ 64 * 64 := Nat.mul_le_mul hr (by omega)
    constructor
    · show (genD _ _ _).length ≤ _
      rw [genD_len]
      omega
    · show (List.take _ (genD _ _ _)).length ≤ _
      rw [List.length_take, genD_len]
      omega
  · rw [if_neg hm]
    exact ⟨_, _, _, rfl, rfl, Nat.zero_le _, Nat.zero_le _⟩
def F_laws_FnExactFactorMatrix : (Int) × (Int × Int × (List Int)) → Option Bool := fun ((a0, a1) : (Int) × (Int × Int × (List Int))) => if (wf_Matrix a1) = true then some true else none

def ag_laws_FnExactFactorMatrix : Sig := [(.one, [.int .i64]), (.agg, [.int .i64, .int .i64, .list [.int .i64]])]
def rs_laws_FnExactFactorMatrix : Sig := [(.one, [.bool])]
def mu_laws_FnExactFactorMatrix : MSig := []

def G_laws_FnExactFactorMatrix (NN : Nat) : (Int × (Int × (Int × (List Int)))) → (Option Bool) :=
 (fun ((i0, i1, i2, l3) : (Int × (Int × (Int × (List Int))))) =>
 (F_laws_szMatrix ((i1, i2, l3), (1048576 : Int))).bnd (fun (i4 : Int) =>
 cnd (ltI i4 (0 : Int))
 (some true)
 ((F_laws_toMatrix (i1, i2, l3)).bnd (fun ((i5, i6, l7) : (Int × (Int × (List Int)))) =>
 (winI l7 0 (lenN l7)).bnd (fun (l8 : (List Int)) =>
 (F_spec_FactorMatrix (i0, i5, i6, l8)).bnd (fun (((i9, i10, l11), (i12, i13, l14), b15) : ((Int × (Int × (List Int))) × ((Int × (Int × (List Int))) × Bool))) =>
 (F_laws_toMatrix (i1, i2, l3)).bnd (fun ((i16, i17, l18) : (Int × (Int × (List Int)))) =>
 (winI l18 0 (lenN l18)).bnd (fun (l19 : (List Int)) =>
 (F_impl_FactorMatrix (i0, i16, i17, l19)).bnd (fun (((i20, i21, l22), (i23, i24, l25), b26) : ((Int × (Int × (List Int))) × ((Int × (Int × (List Int))) × Bool))) =>
 (winI l22 0 (lenN l22)).bnd (fun (l27 : (List Int)) =>
 (winI l11 0 (lenN l11)).bnd (fun (l28 : (List Int)) =>
 (F_laws_eqMatrix ((i20, i21, l27), i9, i10, l28)).bnd (fun (b29 : Bool) =>
 cnd (notB b29)
 (some false)
 ((winI l25 0 (lenN l25)).bnd (fun (l30 : (List Int)) =>
 (winI l14 0 (lenN l14)).bnd (fun (l31 : (List Int)) =>
 (F_laws_eqMatrix ((i23, i24, l30), i12, i13, l31)).bnd (fun (b32 : Bool) =>
 cnd (notB b32)
 (some false)
 (cnd (neB b26 b15)
 (some false)
 ((F_laws_toMatrix (i1, i2, l3)).bnd (fun ((i33, i34, l35) : (Int × (Int × (List Int)))) =>
 (winI l18 0 (lenN l18)).bnd (fun (l36 : (List Int)) =>
 (winI l35 0 (lenN l35)).bnd (fun (l37 : (List Int)) =>
 (F_laws_eqMatrix ((i16, i17, l36), i33, i34, l37)).bnd (fun (b38 : Bool) =>
 cnd (notB b38)
 (some false)
 ((fulI 0 (lenN l18) (lenN l18)).bnd (fun (_ : Unit) =>
 (F_laws_markMatrix ((i16, i17, l18), (1 : Int))).bnd (fun ((i39, l40) : (Int × (List Int))) =>
 cnd (ltI i39 (0 : Int))
 (some false)
 ((winI l22 0 (lenN l22)).bnd (fun (l41 : (List Int)) =>
 (winI l11 0 (lenN l11)).bnd (fun (l42 : (List Int)) =>
 (F_laws_eqMatrix ((i20, i21, l41), i9, i10, l42)).bnd (fun (b43 : Bool) =>
 cnd (notB b43)
 (some false)
 ((winI l25 0 (lenN l25)).bnd (fun (l44 : (List Int)) =>
 (winI l14 0 (lenN l14)).bnd (fun (l45 : (List Int)) =>
 (F_laws_eqMatrix ((i23, i24, l44), i12, i13, l45)).bnd (fun (b46 : Bool) =>
 cnd (notB b46)
 (some false)
 (cnd (neB b26 b15)
 (some false)
 ((fulI 0 (lenN l22) (lenN l22)).bnd (fun (_ : Unit) =>
 (F_laws_markMatrix ((i20, i21, l22), (1 : Int))).bnd (fun ((i47, l48) : (Int × (List Int))) =>
 (fulI 0 (lenN l25) (lenN l25)).bnd (fun (_ : Unit) =>
 (F_laws_markMatrix ((i23, i24, l25), i47)).bnd (fun ((i49, l50) : (Int × (List Int))) =>
 (winI l48 0 (lenN l22)).bnd (fun (l51 : (List Int)) =>
 (F_laws_heldMatrix ((i20, i21, l51), (1 : Int))).bnd (fun (i52 : Int) =>
 cnd (ltI i52 (0 : Int))
 (some false)
 ((winI l50 0 (lenN l25)).bnd (fun (l53 : (List Int)) =>
 (F_laws_heldMatrix ((i23, i24, l53), i52)).bnd (fun (i54 : Int) =>
 cnd (ltI i54 (0 : Int))
 (some false)
 (cnd (neI i54 i49)
 (some false)
 ((F_laws_toMatrix (i1, i2, l3)).bnd (fun ((i55, i56, l57) : (Int × (Int × (List Int)))) =>
 (winI l57 0 (lenN l57)).bnd (fun (l58 : (List Int)) =>
 (F_impl_FactorMatrix (i0, i55, i56, l58)).bnd (fun (((i59, i60, l61), (i62, i63, l64), b65) : ((Int × (Int × (List Int))) × ((Int × (Int × (List Int))) × Bool))) =>
 (winI l61 0 (lenN l61)).bnd (fun (l66 : (List Int)) =>
 (winI l11 0 (lenN l11)).bnd (fun (l67 : (List Int)) =>
 (F_laws_eqMatrix ((i59, i60, l66), i9, i10, l67)).bnd (fun (b68 : Bool) =>
 cnd (notB b68)
 (some false)
 ((winI l64 0 (lenN l64)).bnd (fun (l69 : (List Int)) =>
 (winI l14 0 (lenN l14)).bnd (fun (l70 : (List Int)) =>
 (F_laws_eqMatrix ((i62, i63, l69), i12, i13, l70)).bnd (fun (b71 : Bool) =>
 cnd (notB b71)
 (some false)
 (cnd (neB b65 b15)
 (some false)
 ((winI l48 0 (lenN l22)).bnd (fun (l72 : (List Int)) =>
 (F_laws_heldMatrix ((i20, i21, l72), (1 : Int))).bnd (fun (i73 : Int) =>
 cnd (ltI i73 (0 : Int))
 (some false)
 ((winI l50 0 (lenN l25)).bnd (fun (l74 : (List Int)) =>
 (F_laws_heldMatrix ((i23, i24, l74), i73)).bnd (fun (i75 : Int) =>
 cnd (ltI i75 (0 : Int))
 (some false)
 (cnd (neI i75 i49)
 (some false)
 (some true)))))))))))))))))))))))))))))))))))))))))))))))))))))))))))))))))


theorem f_laws_FnExactFactorMatrix (x : (Int) × (Int × Int × (List Int))) (y : Bool) (h : F_laws_FnExactFactorMatrix x = some y) : G_laws_FnExactFactorMatrix FUEL x = some y := by
  obtain ⟨a0, ⟨a1_0, a1_1, a1_2⟩⟩ := x
  simp only [F_laws_FnExactFactorMatrix] at h
  split at h
  · rename_i hw
    rw [← h]
    simp only [G_laws_FnExactFactorMatrix]
    rw [szKB (o := F_laws_szMatrix ((a1_0, a1_1, a1_2), 1048576)) (s := sz_Matrix (a1_0, a1_1, a1_2)) (if_pos ⟨by constructor <;> omega, hw⟩)]
    by_cases c0 : ((sz_Matrix (a1_0, a1_1, a1_2) : Nat) : Int) ≤ 1048576
    case neg => rw [if_neg c0]
    rw [if_pos c0]
    obtain ⟨r0, r1, r2, hs, hi, z0, z1⟩ := ex_FactorMatrix a0 (a1_0, a1_1, a1_2) (by omega)
    obtain ⟨r0_0, r0_1, r0_2⟩ := r0
    obtain ⟨r1_0, r1_1, r1_2⟩ := r1
    have t1 : F_laws_toMatrix (a1_0, a1_1, a1_2) = some (a1_0, a1_1, a1_2) := tos_Matrix _ (by omega)
    have q1 : F_laws_eqMatrix ((a1_0, a1_1, a1_2), (a1_0, a1_1, a1_2)) = some true := eqs_Matrix _ (by omega)
    have := c4_IntS a1_2
    have w0 : F_laws_eqMatrix ((r0_0, r0_1, r0_2), (r0_0, r0_1, r0_2)) = some true := eqs_Matrix _ (by omega)
    have := c4_IntS r0_2
    have w1 : F_laws_eqMatrix ((r1_0, r1_1, r1_2), (r1_0, r1_1, r1_2)) = some true := eqs_Matrix _ (by omega)
    have := c4_IntS r1_2
    simp only [sz_Matrix] at *
    have m1 : F_laws_markMatrix ((a1_0, a1_1, a1_2), (1 : Int)) = some ((1 : Int) + (cnt_IntS a1_2 : Nat), mk_IntS a1_2 ((1 : Int))) := if_pos ⟨by omega, by (try simp only [sz_Matrix]); omega⟩
    have k0 : ltI ((1 : Int) + (cnt_IntS a1_2 : Nat)) 0 = false := ltI_f (by omega)
    have n0 : F_laws_markMatrix ((r0_0, r0_1, r0_2), (1 : Int)) = some ((1 : Int) + (cnt_IntS r0_2 : Nat), mk_IntS r0_2 ((1 : Int))) := if_pos ⟨by omega, by (try simp only [sz_Matrix]); omega⟩
    have d0 : F_laws_heldMatrix ((r0_0, r0_1, mk_IntS r0_2 ((1 : Int))), (1 : Int)) = some ((1 : Int) + (cnt_IntS r0_2 : Nat)) := hd_Matrix (r0_0, r0_1, r0_2) ((1 : Int)) ⟨by omega, by (try simp only [sz_Matrix]); omega⟩
    have kk0 : ltI ((1 : Int) + (cnt_IntS r0_2 : Nat)) 0 = false := ltI_f (by omega)
    have lr0_2 : winI (mk_IntS r0_2 ((1 : Int))) 0 (lenN r0_2) = some (mk_IntS r0_2 ((1 : Int))) := winI_len (lmk_IntS r0_2 ((1 : Int)))
    have n1 : F_laws_markMatrix ((r1_0, r1_1, r1_2), (1 : Int) + (cnt_IntS r0_2 : Nat)) = some ((1 : Int) + (cnt_IntS r0_2 : Nat) + (cnt_IntS r1_2 : Nat), mk_IntS r1_2 ((1 : Int) + (cnt_IntS r0_2 : Nat))) := if_pos ⟨by omega, by (try simp only [sz_Matrix]); omega⟩
    have d1 : F_laws_heldMatrix ((r1_0, r1_1, mk_IntS r1_2 ((1 : Int) + (cnt_IntS r0_2 : Nat))), (1 : Int) + (cnt_IntS r0_2 : Nat)) = some ((1 : Int) + (cnt_IntS r0_2 : Nat) + (cnt_IntS r1_2 : Nat)) := hd_Matrix (r1_0, r1_1, r1_2) ((1 : Int) + (cnt_IntS r0_2 : Nat)) ⟨by omega, by (try simp only [sz_Matrix]); omega⟩
    have kk1 : ltI ((1 : Int) + (cnt_IntS r0_2 : Nat) + (cnt_IntS r1_2 : Nat)) 0 = false := ltI_f (by omega)
    have lr1_2 : winI (mk_IntS r1_2 ((1 : Int) + (cnt_IntS r0_2 : Nat))) 0 (lenN r1_2) = some (mk_IntS r1_2 ((1 : Int) + (cnt_IntS r0_2 : Nat))) := winI_len (lmk_IntS r1_2 ((1 : Int) + (cnt_IntS r0_2 : Nat)))
    simp only [bnd_s, winI_id, fulI_id, hs, hi, notB_t, cnd_false, neB_self, neI_self, t1, q1, w0, w1, m1, k0, n0, d0, kk0, lr0_2, n1, d1, kk1, lr1_2]
  · cases h


end Go.Am
