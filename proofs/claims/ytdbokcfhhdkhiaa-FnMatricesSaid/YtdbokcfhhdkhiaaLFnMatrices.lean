/- L_FnMatrices: the law FnMatrices. No condition. -/
import Derived.Test.YtdbokcfhhdkhiaaM43
import Derived.Test.YtdbokcfhhdkhiaaM43
import Derived.Test.YtdbokcfhhdkhiaaM45
set_option linter.unusedVariables false
set_option linter.unusedSimpArgs false
namespace Go.Am
def F_laws_FnMatrices : List Int → Option Bool := fun _ => some true
theorem cnd_tm {α : Type} (x y : α) : cnd true x y = x := rfl
theorem bnd_m {α β : Type} (x : α) (f : α → Option β) : (some x).bnd f = f x := by
 have h : ∀ o : Option α, o = some x → o.bnd f = f x := by intro o h; subst h; rfl
 exact h _ rfl
theorem neI_m (x : Int) : neI x x = false := bne_self_eq_false _
def ag_laws_FnMatrices : Sig := [(.one, [.list [.int .u8]])]
def rs_laws_FnMatrices : Sig := [(.one, [.bool])]
def mu_laws_FnMatrices : MSig := []
def G_laws_FnMatrices (NN : Nat) : (List Int) → (Option Bool) :=
 (fun (l0 : (List Int)) =>
 cnd (ltI (1048576 : Int) (natI (lenN l0)))
 (some true)
 ((F_spec_MakePrime (l0, (0 : Int))).bnd (fun i1 =>
 (F_spec_MakeSize (l0, (2 : Int), (0 : Int), (4 : Int))).bnd (fun i2 =>
 (F_spec_MakeSize (l0, (4 : Int), (0 : Int), (4 : Int))).bnd (fun i3 =>
 (F_spec_MakeMatrix (l0, (10 : Int), i1, i2, i3)).bnd (fun (i4, i5, l6) =>
 (F_impl_FactorMatrix (i1, i4, i5, l6)).bnd (fun ((i7, i8, l9), (i10, i11, l12), b13) =>
 (winI l9 0 (lenN l9)).bnd (fun l14 =>
 (winI l12 0 (lenN l12)).bnd (fun l15 =>
 (F_impl_MulMatrix (i1, (i7, i8, l14), i10, i11, l15)).bnd (fun ((i16, i17, l18), b19) =>
 (F_impl_RankMatrix (i1, i4, i5, l6)).bnd (fun i20 =>
 cnd (notB b13)
 (some false)
 (cnd (notB b19)
 (some false)
 (cnd (neI i16 i4)
 (some false)
 (cnd (neI i17 i5)
 (some false)
 ((winI l18 0 (lenN l18)).bnd (fun l21 =>
 (F_laws_ints (l21, l6)).bnd (fun b22 =>
 cnd (notB b22)
 (some false)
 (cnd (neI i8 i20)
 (some false)
 (cnd (neI i10 i20)
 (some false)
 ((F_impl_TransposeMatrix (i1, i4, i5, l6)).bnd (fun (i23, i24, l25) =>
 (winI l25 0 (lenN l25)).bnd (fun l26 =>
 (F_impl_RankMatrix (i1, i23, i24, l26)).bnd (fun i27 =>
 cnd (neI i27 i20)
 (some false)
 ((F_spec_MakeSize (l0, (6 : Int), (0 : Int), (4 : Int))).bnd (fun i28 =>
 (F_spec_MakeMatrix (l0, (60 : Int), i1, i28, i28)).bnd (fun (i29, i30, l31) =>
 (F_spec_MakeMatrix (l0, (110 : Int), i1, i28, i28)).bnd (fun (i32, i33, l34) =>
 (F_impl_MulMatrix (i1, (i29, i30, l31), i32, i33, l34)).bnd (fun ((i35, i36, l37), b38) =>
 (F_impl_Determinant (i1, i29, i30, l31)).bnd (fun (i39, b40) =>
 (F_impl_Determinant (i1, i32, i33, l34)).bnd (fun (i41, b42) =>
 (winI l37 0 (lenN l37)).bnd (fun l43 =>
 (F_impl_Determinant (i1, i35, i36, l43)).bnd (fun (i44, b45) =>
 (F_impl_InverseMatrix (i1, i29, i30, l31)).bnd (fun ((i46, i47, l48), b49) =>
 cnd (notB b38)
 (some false)
 (cnd (notB b40)
 (some false)
 (cnd (notB b42)
 (some false)
 (cnd (notB b45)
 (some false)
 ((remI (mulI .i64 i39 i41) i1).bnd (fun i50 =>
 cnd (neI i44 i50)
 (some false)
 (cnd (neB b49 (neI i39 (0 : Int)))
 (some false)
 ((F_impl_RankMatrix (i1, i29, i30, l31)).bnd (fun i51 =>
 cnd (neB b49 (eqI i51 i28))
 (some false)
 ((winI l48 0 (lenN l48)).bnd (fun l52 =>
 (winI l37 0 (lenN l37)).bnd (fun l53 =>
 (F_impl_MulMatrix (i1, (i46, i47, l52), i35, i36, l53)).bnd (fun ((i54, i55, l56), b57) =>
 cnd (notB b49)
 (some true)
 (cnd (b57)
 ((winI l56 0 (lenN l56)).bnd (fun l58 =>
 (F_laws_ints (l58, l34)).bnd (fun b59 =>
 some b59)))
 (some false)))))))))))))))))))))))))))))))))))))))))))))))


theorem mats_1 {p : Int} {r c : Nat} {M : Mat} (hpr : isPrimeI p = true) (hr : r ≤ 64) (hc : c ≤ 64) (hM : inM p r c M) :
  F_impl_MulMatrix (p, ((r : Int), ((redN p r M c).2.1.length : Int), genD r (redN p r M c).2.1.length (pickF M (redN p r M c).2.1)), (((redN p r M c).2.1.length : Int), (c : Int), genD (redN p r M c).2.1.length c (redN p r M c).1)) = some (((r : Int), (c : Int), genD r c M), true) := by
 have hp : pOk p := isPrimeI_t hpr
 have R := redN_RF hpr hM c (Nat.le_refl c)
 have I := redN_I hp hM c
 have hl := I.l
 have hB : inM p r (redN p r M c).2.1.length (pickF M (redN p r M c).2.1) := fun i hi t ht => hM i hi _ (R.lt t ht)
 have hC : inM p (redN p r M c).2.1.length c (redN p r M c).1 := fun t ht j hj => I.m t (by omega) j hj
 rw [mul_g hpr hr (by omega) hc hB hC]
 rw [show genD r c (mulF p (redN p r M c).2.1.length (pickF M (redN p r M c).2.1) (redN p r M c).1) = genD r c M from genD_congr fun i hi j hj => fac_mul hpr hM (fun i _ t _ => rfl) (fun t _ j _ => rfl) hi hj]
theorem FnMatrices_ok (l0 : List Int) : G_laws_FnMatrices FUEL l0 = some true := by
 simp only [G_laws_FnMatrices]
 by_cases hl : l0.length ≤ 1048576
 ·rw [cnd_f (ltI_f (by unfold natI lenN; omega))]
  obtain ⟨p, e1, hp⟩ := prime_ok l0 0 hl (by decide)
  have hpr := pr_5 hp
  have hP : pOk p := isPrimeI_t hpr
  obtain ⟨r, e2, hr⟩ := size_ok l0 2 0 4 hl (by decide) (by decide) (by decide) (by decide)
  obtain ⟨c, e3, hc⟩ := size_ok l0 4 0 4 hl (by decide) (by decide) (by decide) (by decide)
  obtain ⟨r, rfl⟩ := natI_eq (show 0 ≤ r by omega)
  obtain ⟨c, rfl⟩ := natI_eq (show 0 ≤ c by omega)
  obtain ⟨D, e4, hD, hDp⟩ := MakeMatrix_ok l0 10 p r c hl (by decide) hP (by omega) (by omega)
  have hrc : r * c ≤ 4 * 4 := Nat.mul_le_mul (by omega) (by omega)
  rw [e1]; simp only [bnd_m]
  rw [e2]; simp only [bnd_m]
  rw [e3]; simp only [bnd_m]
  rw [e4]; simp only [bnd_m]
  obtain ⟨M, hMD, hM, hMe⟩ : ∃ M : Mat, genD r c M = D ∧ inM p r c M ∧ M = ofD c (genD r c M) := ⟨ofD c D, genD_of hD, ofD_in hD hDp, by rw [genD_of hD]⟩
  subst hMD
  rw [fac_g hpr (by omega) (by omega) hM hMe]
  simp only [bnd_m, winI_id]
  rw [mats_1 hpr (by omega) (by omega) hM]
  simp only [bnd_m]
  rw [rank_g hpr (by omega) (by omega) hM]
  simp only [bnd_m, show notB true = false from rfl, cnd_false, neI_m, winI_id]
  rw [ints_self _ (by rw [genD_len]; omega)]
  simp only [bnd_m, show notB true = false from rfl, cnd_false]
  rw [turn_g hpr (by omega) (by omega) hM]
  simp only [bnd_m, winI_id]
  have hT : inM p c r (turnF M) := fun j hj i hi => hM i hi j hj
  rw [rank_g hpr (by omega) (by omega) hT, turn_rank hpr hM]
  simp only [bnd_m, neI_m, cnd_false]
  -- the square matrices
  obtain ⟨n, e5, hn⟩ := size_ok l0 6 0 4 hl (by decide) (by decide) (by decide) (by decide)
  obtain ⟨n, rfl⟩ := natI_eq (show 0 ≤ n by omega)
  have hn4 : n ≤ 4 := by omega
  have hnn : n * n ≤ 4 * 4 := Nat.mul_le_mul hn4 hn4
  obtain ⟨D1, e6, hD1, hDp1⟩ := MakeMatrix_ok l0 60 p n n hl (by decide) hP (by omega) (by omega)
  obtain ⟨D2, e7, hD2, hDp2⟩ := MakeMatrix_ok l0 110 p n n hl (by decide) hP (by omega) (by omega)
  rw [e5]; simp only [bnd_m]
  rw [e6]; simp only [bnd_m]
  rw [e7]; simp only [bnd_m]
  obtain ⟨X, hXD, hX, hXe⟩ : ∃ M : Mat, genD n n M = D1 ∧ inM p n n M ∧ M = ofD n (genD n n M) := ⟨ofD n D1, genD_of hD1, ofD_in hD1 hDp1, by rw [genD_of hD1]⟩
  subst hXD
  obtain ⟨Y, hYD, hY, hYe⟩ : ∃ M : Mat, genD n n M = D2 ∧ inM p n n M ∧ M = ofD n (genD n n M) := ⟨ofD n D2, genD_of hD2, ofD_in hD2 hDp2, by rw [genD_of hD2]⟩
  subst hYD
  have hZ : inM p n n (mulF p n X Y) := mulF_in hP n n n X Y
  rw [mul_g hpr (by omega) (by omega) (by omega) hX hY]
  simp only [bnd_m]
  rw [det_g hpr hn4 hX]
  simp only [bnd_m]
  rw [det_g hpr hn4 hY]
  simp only [bnd_m, winI_id]
  rw [det_g hpr hn4 hZ]
  simp only [bnd_m]
  rw [inv_g hpr (by omega) hX hXe]
  simp only [bnd_m]
  have d1 := detR_in hpr hX
  have d2 := detR_in hpr hY
  have hp1 := hP.1
  have hp2 := hP.2
  have hdd : 0 ≤ detR p n X * detR p n Y ∧ detR p n X * detR p n Y ≤ 1000003 * 1000003 := ⟨Int.mul_nonneg d1.1 d2.1, Int.mul_le_mul (by have := d1.2; omega) (by have := d2.2; omega) d2.1 (by decide)⟩
  have hdm := det_mulF hpr hn4 hX hY
  have hd0 := detR_0 hpr hX
  have hir := inv_rank hpr hX
  have hmul : remI (mulI .i64 (detR p n X) (detR p n Y)) p = some (detR p n X * detR p n Y % p) := by rw [mulI_eq (by omega) (by omega), remI_pos (by omega) (by omega)]
  rw [hdm, hmul]
  by_cases hi : invOk p n X
  ·have hrk := hir.1 hi
   have hne := hd0.2 hrk
   have hir2 : invR p n X = (((n : Int), (n : Int), genD n n fun a b => (invX p n X).1 a (n + b)), true) := if_pos hi
   rw [hir2]
   have hV : inM p n n (fun a b => (invX p n X).1 a (n + b)) := fun a ha b hb => (redN_I hP (wideM_in hP hX) (2 * n)).m a ha (n + b) (by omega)
   simp only [bnd_m, show notB true = false from rfl, cnd_false, neI_m]
   rw [show neI (detR p n X) 0 = true from bne_iff_ne.2 hne, show neB true true = false from rfl, cnd_false]
   rw [rank_g hpr (by omega) (by omega) hX, hrk]
   simp only [bnd_m]
   rw [show eqI (n : Int) (n : Int) = true from beq_self_eq_true _, show neB true true = false from rfl, cnd_false]
   try simp only [bnd_m, winI_id]
   rw [mul_g hpr (by omega) (by omega) (by omega) hV hZ]
   simp only [bnd_m, cnd_tm, winI_id]
   rw [show genD n n (mulF p n (fun a b => (invX p n X).1 a (n + b)) (mulF p n X Y)) = genD n n Y from genD_congr fun a ha b hb => inv_mulmul hpr hX hY hi (fun _ _ _ _ => rfl) (fun _ _ _ _ => rfl) ha hb]
   rw [ints_self _ (by rw [genD_len]; omega)]
   rfl
  ·have hrk : (redN p n X n).2.1.length ≠ n := fun h => hi (hir.2 h)
   have h0 : detR p n X = 0 := by
    apply Classical.byContradiction
    intro h
    exact hrk (hd0.1 h)
   have hir2 : invR p n X = ((0, 0, []), false) := if_neg hi
   rw [hir2]
   simp only [bnd_m, show notB true = false from rfl, cnd_false, neI_m]
   rw [h0, neI_m, show neB false false = false from rfl, cnd_false]
   rw [rank_g hpr (by omega) (by omega) hX]
   simp only [bnd_m]
   rw [show eqI ((redN p n X n).2.1.length : Int) (n : Int) = false from beq_eq_false_iff_ne.2 (by omega), show neB false false = false from rfl, cnd_false]
   try simp only [bnd_m, winI_id]
   have hz : ∃ u, F_impl_MulMatrix (p, (0, 0, []), ((n : Int), (n : Int), genD n n (mulF p n X Y))) = some u := by
    simp only [F_impl_MulMatrix, F_spec_MulMatrix]
    rw [if_pos ⟨Nat.zero_le _, sz_g (by omega) (by omega)⟩]
    exact ⟨_, rfl⟩
   obtain ⟨⟨⟨u1, u2, u3⟩, u4⟩, hu⟩ := hz
   rw [hu]
   simp only [bnd_m, show notB false = true from rfl, cnd_tm]
 ·rw [cnd_t (ltI_t (by unfold natI lenN; omega))]
theorem f_laws_FnMatrices (x : List Int) (y : Bool) (h : F_laws_FnMatrices x = some y) : G_laws_FnMatrices FUEL x = some y := by
 rw [FnMatrices_ok]; exact h
end Go.Am