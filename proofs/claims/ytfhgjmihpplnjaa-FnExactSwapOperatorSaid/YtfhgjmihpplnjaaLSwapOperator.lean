/- L_SwapOperator: the law FnExactSwapOperator. No condition. -/
import Derived.Test.YtfhgjmihpplnjaaM7
set_option linter.unusedVariables false
set_option linter.unusedSimpArgs false
namespace Go.Am
theorem ex_SwapOperator (m a b : Int) : ∃ r0 r1, F_spec_SwapOperator (m, a, b) = some (r0, r1) ∧ F_impl_SwapOperator (m, a, b) = some (r0, r1) ∧ sz_Matrix r0 ≤ 1048576 := by
  simp only [F_spec_SwapOperator, F_impl_SwapOperator]
  by_cases hs : sopOk (m, a, b)
  · rw [if_pos hs]
    refine ⟨_, _, rfl, rfl, ?_⟩
    obtain ⟨hm, ha, hb⟩ := hs
    simp only at hm ha hb
    obtain ⟨a, rfl⟩ := natI_eq (z := a) (by omega)
    obtain ⟨b, rfl⟩ := natI_eq (z := b) (by omega)
    have e : (a : Int) * (b : Int) = ((a * b : Nat) : Int) := by norm_cast
    have h1 : a * b ≤ 8 * 8 := Nat.mul_le_mul (by omega) (by omega)
    have h4 : (a * b) * (a * b) ≤ 64 * 64 := Nat.mul_le_mul h1 h1
    show (genD _ _ _).length ≤ _
    rw [genD_len]
    simp only [e, Int.toNat_natCast]
    omega
  · rw [if_neg hs]
    exact ⟨_, _, rfl, rfl, Nat.zero_le _⟩
def F_laws_FnExactSwapOperator : (Int) × (Int) × Int → Option Bool := fun ((a0, a1, a2) : (Int) × (Int) × Int) => if (true) = true then some true else none

def ag_laws_FnExactSwapOperator : Sig := [(.one, [.int .i64]), (.one, [.int .i64]), (.one, [.int .i64])]
def rs_laws_FnExactSwapOperator : Sig := [(.one, [.bool])]
def mu_laws_FnExactSwapOperator : MSig := []

def G_laws_FnExactSwapOperator (NN : Nat) : (Int × (Int × Int)) → (Option Bool) :=
  (fun ((i0, i1, i2) : (Int × (Int × Int))) =>
  (F_spec_SwapOperator (i0, i1, i2)).bnd (fun (((i3, i4, l5), b6) : ((Int × (Int × (List Int))) × Bool)) =>
    (F_impl_SwapOperator (i0, i1, i2)).bnd (fun (((i7, i8, l9), b10) : ((Int × (Int × (List Int))) × Bool)) =>
      (winI l9 0 (lenN l9)).bnd (fun (l11 : (List Int)) =>
        (winI l5 0 (lenN l5)).bnd (fun (l12 : (List Int)) =>
          (F_laws_eqMatrix ((i7, i8, l11), i3, i4, l12)).bnd (fun (b13 : Bool) =>
            cnd (notB b13)
              (some false)
              (cnd (neB b10 b6)
                (some false)
                ((fulI 0 (lenN l9) (lenN l9)).bnd (fun (_ : Unit) =>
                  (F_laws_markMatrix ((i7, i8, l9), (1 : Int))).bnd (fun ((i14, l15) : (Int × (List Int))) =>
                    (winI l15 0 (lenN l9)).bnd (fun (l16 : (List Int)) =>
                      (F_laws_heldMatrix ((i7, i8, l16), (1 : Int))).bnd (fun (i17 : Int) =>
                        cnd (ltI i17 (0 : Int))
                          (some false)
                          (cnd (neI i17 i14)
                            (some false)
                            ((F_impl_SwapOperator (i0, i1, i2)).bnd (fun (((i18, i19, l20), b21) : ((Int × (Int × (List Int))) × Bool)) =>
                              (winI l20 0 (lenN l20)).bnd (fun (l22 : (List Int)) =>
                                (winI l5 0 (lenN l5)).bnd (fun (l23 : (List Int)) =>
                                  (F_laws_eqMatrix ((i18, i19, l22), i3, i4, l23)).bnd (fun (b24 : Bool) =>
                                    cnd (notB b24)
                                      (some false)
                                      (cnd (neB b21 b6)
                                        (some false)
                                        ((winI l15 0 (lenN l9)).bnd (fun (l25 : (List Int)) =>
                                          (F_laws_heldMatrix ((i7, i8, l25), (1 : Int))).bnd (fun (i26 : Int) =>
                                            cnd (ltI i26 (0 : Int))
                                              (some false)
                                              (cnd (neI i26 i14)
                                                (some false)
                                                (some true))))))))))))))))))))))))


theorem f_laws_FnExactSwapOperator (x : (Int) × (Int) × Int) (y : Bool) (h : F_laws_FnExactSwapOperator x = some y) : G_laws_FnExactSwapOperator FUEL x = some y := by
  obtain ⟨a0, a1, a2⟩ := x
  simp only [F_laws_FnExactSwapOperator] at h
  split at h
  · rename_i hw
    rw [← h]
    simp only [G_laws_FnExactSwapOperator]
    obtain ⟨r0, r1, hs, hi, z0⟩ := ex_SwapOperator a0 a1 a2
    obtain ⟨r0_0, r0_1, r0_2⟩ := r0
    have w0 : F_laws_eqMatrix ((r0_0, r0_1, r0_2), (r0_0, r0_1, r0_2)) = some true := eqs_Matrix _ z0
    have := c4_IntS r0_2
    simp only [sz_Matrix] at *
    have n0 : F_laws_markMatrix ((r0_0, r0_1, r0_2), (1 : Int)) = some ((1 : Int) + (cnt_IntS r0_2 : Nat), mk_IntS r0_2 ((1 : Int))) := if_pos ⟨by omega, by simp only [sz_Matrix]; omega⟩
    have d0 : F_laws_heldMatrix ((r0_0, r0_1, mk_IntS r0_2 ((1 : Int))), (1 : Int)) = some ((1 : Int) + (cnt_IntS r0_2 : Nat)) := hd_Matrix (r0_0, r0_1, r0_2) ((1 : Int)) ⟨by omega, by simp only [sz_Matrix]; omega⟩
    have kk0 : ltI ((1 : Int) + (cnt_IntS r0_2 : Nat)) 0 = false := ltI_f (by omega)
    have lr0_2 : winI (mk_IntS r0_2 ((1 : Int))) 0 (lenN r0_2) = some (mk_IntS r0_2 ((1 : Int))) := winI_len (lmk_IntS r0_2 ((1 : Int)))
    simp only [bnd_s, winI_id, fulI_id, hs, hi, notB_t, cnd_false, neB_self, neI_self, w0, n0, d0, kk0, lr0_2]
  · cases h


end Go.Am
