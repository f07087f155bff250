/- L_InverseMatrix: the law FnExactInverseMatrix. No condition. -/
import Derived.Test.YtfhgjmihpplnjaaM15
set_option linter.unusedVariables false
set_option linter.unusedSimpArgs false
namespace Go.Am
theorem ex_InverseMatrix (m : Int) (x : Int × Int × List Int) (h : sz_Matrix x ≤ 1048576) : ∃ r0 r1, F_spec_InverseMatrix (m, x) = some (r0, r1) ∧ F_impl_InverseMatrix (m, x) = some (r0, r1) ∧ sz_Matrix r0 ≤ 1048576 := by
  simp only [F_impl_InverseMatrix, F_spec_InverseMatrix, if_pos h]
  by_cases hm : matOk m x = true ∧ x.1 = x.2.1
  · rw [if_pos hm]
    have key : ∀ n M, n ≤ 64 → sz_Matrix (invR m n M).1 ≤ 1048576 := by
      intro n M hn
      unfold invR
      split
      · show (genD _ _ _).length ≤ _
        rw [genD_len]
        have : n * n ≤ 64 * 64 := Nat.mul_le_mul hn hn
        omega
      · exact Nat.zero_le _
    obtain ⟨r, c, M, e, hp, hr, hc, hrc, hM⟩ := matOk_nat hm.1
    subst e
    simp only [Int.toNat_natCast]
    have k := key r (ofD c (genD r c M)) hr
    generalize invR m r (ofD c (genD r c M)) = z at k
    obtain ⟨z0, z1⟩ := z
    exact ⟨z0, z1, rfl, rfl, k⟩
  · rw [if_neg hm]
    exact ⟨_, _, rfl, rfl, Nat.zero_le _⟩

def F_laws_FnExactInverseMatrix : (Int) × (Int × Int × (List Int)) → Option Bool := fun ((a0, a1) : (Int) × (Int × Int × (List Int))) => if (wf_Matrix a1) = true then some true else none

def ag_laws_FnExactInverseMatrix : Sig := [(.one, [.int .i64]), (.agg, [.int .i64, .int .i64, .list [.int .i64]])]
def rs_laws_FnExactInverseMatrix : Sig := [(.one, [.bool])]
def mu_laws_FnExactInverseMatrix : MSig := []
def G_laws_FnExactInverseMatrix (NN : Nat) : (Int × (Int × (Int × (List Int)))) → (Option Bool) :=
 (fun ((i0, i1, i2, l3) : (Int × (Int × (Int × (List Int))))) =>
 (F_laws_szMatrix ((i1, i2, l3), (1048576 : Int))).bnd (fun (i4 : Int) =>
 cnd (ltI i4 (0 : Int))
 (some true)
 ((F_laws_toMatrix (i1, i2, l3)).bnd (fun ((i5, i6, l7) : (Int × (Int × (List Int)))) =>
 (winI l7 0 (lenN l7)).bnd (fun (l8 : (List Int)) =>
 (F_spec_InverseMatrix (i0, i5, i6, l8)).bnd (fun (((i9, i10, l11), b12) : ((Int × (Int × (List Int))) × Bool)) =>
 (F_laws_toMatrix (i1, i2, l3)).bnd (fun ((i13, i14, l15) : (Int × (Int × (List Int)))) =>
 (winI l15 0 (lenN l15)).bnd (fun (l16 : (List Int)) =>
 (F_impl_InverseMatrix (i0, i13, i14, l16)).bnd (fun (((i17, i18, l19), b20) : ((Int × (Int × (List Int))) × Bool)) =>
 (winI l19 0 (lenN l19)).bnd (fun (l21 : (List Int)) =>
 (winI l11 0 (lenN l11)).bnd (fun (l22 : (List Int)) =>
 (F_laws_eqMatrix ((i17, i18, l21), i9, i10, l22)).bnd (fun (b23 : Bool) =>
 cnd (notB b23)
 (some false)
 (cnd (neB b20 b12)
 (some false)
 ((F_laws_toMatrix (i1, i2, l3)).bnd (fun ((i24, i25, l26) : (Int × (Int × (List Int)))) =>
 (winI l15 0 (lenN l15)).bnd (fun (l27 : (List Int)) =>
 (winI l26 0 (lenN l26)).bnd (fun (l28 : (List Int)) =>
 (F_laws_eqMatrix ((i13, i14, l27), i24, i25, l28)).bnd (fun (b29 : Bool) =>
 cnd (notB b29)
 (some false)
 ((fulI 0 (lenN l15) (lenN l15)).bnd (fun (_ : Unit) =>
 (F_laws_markMatrix ((i13, i14, l15), (1 : Int))).bnd (fun ((i30, l31) : (Int × (List Int))) =>
 cnd (ltI i30 (0 : Int))
 (some false)
 ((winI l19 0 (lenN l19)).bnd (fun (l32 : (List Int)) =>
 (winI l11 0 (lenN l11)).bnd (fun (l33 : (List Int)) =>
 (F_laws_eqMatrix ((i17, i18, l32), i9, i10, l33)).bnd (fun (b34 : Bool) =>
 cnd (notB b34)
 (some false)
 (cnd (neB b20 b12)
 (some false)
 ((fulI 0 (lenN l19) (lenN l19)).bnd (fun (_ : Unit) =>
 (F_laws_markMatrix ((i17, i18, l19), (1 : Int))).bnd (fun ((i35, l36) : (Int × (List Int))) =>
 (winI l36 0 (lenN l19)).bnd (fun (l37 : (List Int)) =>
 (F_laws_heldMatrix ((i17, i18, l37), (1 : Int))).bnd (fun (i38 : Int) =>
 cnd (ltI i38 (0 : Int))
 (some false)
 (cnd (neI i38 i35)
 (some false)
 ((F_laws_toMatrix (i1, i2, l3)).bnd (fun ((i39, i40, l41) : (Int × (Int × (List Int)))) =>
 (winI l41 0 (lenN l41)).bnd (fun (l42 : (List Int)) =>
 (F_impl_InverseMatrix (i0, i39, i40, l42)).bnd (fun (((i43, i44, l45), b46) : ((Int × (Int × (List Int))) × Bool)) =>
 (winI l45 0 (lenN l45)).bnd (fun (l47 : (List Int)) =>
 (winI l11 0 (lenN l11)).bnd (fun (l48 : (List Int)) =>
 (F_laws_eqMatrix ((i43, i44, l47), i9, i10, l48)).bnd (fun (b49 : Bool) =>
 cnd (notB b49)
 (some false)
 (cnd (neB b46 b12)
 (some false)
 ((winI l36 0 (lenN l19)).bnd (fun (l50 : (List Int)) =>
 (F_laws_heldMatrix ((i17, i18, l50), (1 : Int))).bnd (fun (i51 : Int) =>
 cnd (ltI i51 (0 : Int))
 (some false)
 (cnd (neI i51 i35)
 (some false)
 (some true)))))))))))))))))))))))))))))))))))))))))))))

theorem f_laws_FnExactInverseMatrix (x : (Int) × (Int × Int × (List Int))) (y : Bool) (h : F_laws_FnExactInverseMatrix x = some y) : G_laws_FnExactInverseMatrix FUEL x = some y := by
  obtain ⟨a0, ⟨a1_0, a1_1, a1_2⟩⟩ := x
  simp only [F_laws_FnExactInverseMatrix] at h
  split at h
  · rename_i hw
    rw [← h]
    simp only [G_laws_FnExactInverseMatrix]
    rw [szKB (o := F_laws_szMatrix ((a1_0, a1_1, a1_2), 1048576)) (s := sz_Matrix (a1_0, a1_1, a1_2)) (if_pos ⟨by constructor <;> omega, hw⟩)]
    by_cases c0 : ((sz_Matrix (a1_0, a1_1, a1_2) : Nat) : Int) ≤ 1048576
    case neg => rw [if_neg c0]
    rw [if_pos c0]
    obtain ⟨r0, r1, hs, hi, z0⟩ := ex_InverseMatrix a0 (a1_0, a1_1, a1_2) (by omega)
    obtain ⟨r0_0, r0_1, r0_2⟩ := r0
    have t1 : F_laws_toMatrix (a1_0, a1_1, a1_2) = some (a1_0, a1_1, a1_2) := tos_Matrix _ (by omega)
    have q1 : F_laws_eqMatrix ((a1_0, a1_1, a1_2), (a1_0, a1_1, a1_2)) = some true := eqs_Matrix _ (by omega)
    have := c4_IntS a1_2
    have w0 : F_laws_eqMatrix ((r0_0, r0_1, r0_2), (r0_0, r0_1, r0_2)) = some true := eqs_Matrix _ (by omega)
    have := c4_IntS r0_2
    simp only [sz_Matrix] at *
    have m1 : F_laws_markMatrix ((a1_0, a1_1, a1_2), (1 : Int)) = some ((1 : Int) + (cnt_IntS a1_2 : Nat), mk_IntS a1_2 ((1 : Int))) := if_pos ⟨by omega, by (try simp only [sz_Matrix]); omega⟩
    have k0 : ltI ((1 : Int) + (cnt_IntS a1_2 : Nat)) 0 = false := ltI_f (by omega)
    have n0 : F_laws_markMatrix ((r0_0, r0_1, r0_2), (1 : Int)) = some ((1 : Int) + (cnt_IntS r0_2 : Nat), mk_IntS r0_2 ((1 : Int))) := if_pos ⟨by omega, by (try simp only [sz_Matrix]); omega⟩
    have d0 : F_laws_heldMatrix ((r0_0, r0_1, mk_IntS r0_2 ((1 : Int))), (1 : Int)) = some ((1 : Int) + (cnt_IntS r0_2 : Nat)) := hd_Matrix (r0_0, r0_1, r0_2) ((1 : Int)) ⟨by omega, by (try simp only [sz_Matrix]); omega⟩
    have kk0 : ltI ((1 : Int) + (cnt_IntS r0_2 : Nat)) 0 = false := ltI_f (by omega)
    have lr0_2 : winI (mk_IntS r0_2 ((1 : Int))) 0 (lenN r0_2) = some (mk_IntS r0_2 ((1 : Int))) := winI_len (lmk_IntS r0_2 ((1 : Int)))
    simp only [bnd_s, winI_id, fulI_id, hs, hi, notB_t, cnd_false, neB_self, neI_self, t1, q1, w0, m1, k0, n0, d0, kk0, lr0_2]
  · cases h


end Go.Am
