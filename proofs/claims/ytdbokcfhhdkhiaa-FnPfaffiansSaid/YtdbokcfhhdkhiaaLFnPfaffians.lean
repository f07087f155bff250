/- L_FnPfaffians: the law FnPfaffians. No condition. -/
import Derived.Test.YtdbokcfhhdkhiaaM45
import Derived.Test.YtdbokcfhhdkhiaaM45
import Derived.Test.YtdbokcfhhdkhiaaM47
set_option linter.unusedVariables false
set_option linter.unusedSimpArgs false
namespace Go.Am
def F_laws_FnPfaffians : List Int → Option Bool := fun _ => some true
theorem cnd_tp {α : Type} (x y : α) : cnd true x y = x := rfl
theorem bnd_p {α β : Type} (x : α) (f : α → Option β) : (some x).bnd f = f x := by
 have h : ∀ o : Option α, o = some x → o.bnd f = f x := by intro o h; subst h; rfl
 exact h _ rfl
theorem eqI_p (x : Int) : eqI x x = true := beq_self_eq_true _
def ag_laws_FnPfaffians : Sig := [(.one, [.list [.int .u8]])]
def rs_laws_FnPfaffians : Sig := [(.one, [.bool])]
def mu_laws_FnPfaffians : MSig := []
def G_laws_FnPfaffians (NN : Nat) : (List Int) → (Option Bool) :=
 (fun (l0 : (List Int)) =>
 cnd (ltI (1048576 : Int) (natI (lenN l0)))
 (some true)
 ((F_spec_MakePrime (l0, (0 : Int))).bnd (fun i1 =>
 (F_spec_MakeSize (l0, (2 : Int), (0 : Int), (2 : Int))).bnd (fun i2 =>
 (F_spec_MakeMatrix (l0, (10 : Int), i1, mulI .i64 (2 : Int) i2, mulI .i64 (2 : Int) i2)).bnd (fun (i3, i4, l5) =>
 (mkI (mulI .i64 (mulI .i64 (2 : Int) i2) (mulI .i64 (2 : Int) i2)) (mulI .i64 (mulI .i64 (2 : Int) i2) (mulI .i64 (2 : Int) i2)) 8).bnd (fun k6 =>
 joinK ((fulI 0 k6 (lenN (repL k6 (0 : Int)))).bnd (fun _ =>
 loopT NN (fun (((l7, i8, i9, i10), (i11, i12, l13), (i14, i15), l16) : (((List Int) × (Int × (Int × Int))) × ((Int × (Int × (List Int))) × ((Int × Int) × (List Int))))) =>
 cnd (ltI i10 i9)
 (joinK ((fulI 0 (lenN l16) (lenN l16)).bnd (fun _ =>
 loopT NN (fun (((l17, i18, i19, i20, i21), (i22, i23, l24), (i25, i26), l27) : (((List Int) × (Int × (Int × (Int × Int)))) × ((Int × (Int × (List Int))) × ((Int × Int) × (List Int))))) =>
 cnd (ltI i21 i20)
 ((getI l24 (addI .i64 (mulI .i64 i20 i19) i21)).bnd (fun i28 =>
 (chkI (addI .i64 (mulI .i64 i20 i19) i21) (lenN l27)).bnd (fun k29 =>
 (getN l27 (addN 0 k29)).bnd (fun i30 =>
 (getI l24 (addI .i64 (mulI .i64 i20 i19) i21)).bnd (fun i31 =>
 (remI (subI .i64 i18 i31) i18).bnd (fun i32 =>
 (chkI (addI .i64 (mulI .i64 i21 i19) i20) (lenN l27)).bnd (fun k33 =>
 (getN (setL l27 (addN 0 k29) i28) (addN 0 k33)).bnd (fun i34 =>
 (fulI 0 (lenN l27) (lenN (setL (setL l27 (addN 0 k29) i28) (addN 0 k33) i32))).bnd (fun _ =>
 some (Sum.inl ((l17, i18, i19, i20, addI .i64 i21 1), (i22, i23, l24), (i25, i26), setL (setL l27 (addN 0 k29) i28) (addN 0 k33) i32)))))))))))
 (((fulI 0 (lenN l27) (lenN l27)).bnd (fun _ =>
 some (Sum.inl ((i20, l17, i18, i19), (i22, i23, l24), (i25, i26), l27)))).bnd (fun l35 =>
 some (Sum.inr l35))))
 ((l7, i8, i9, i10, (0 : Int)), (i11, i12, l13), (i14, i15), l16)))
 (fun ((i36, l37, i38, i39), (i40, i41, l42), (i43, i44), l45) =>
 (fulI 0 (lenN l45) (lenN l45)).bnd (fun _ =>
 some (Sum.inl ((l37, i38, i39, addI .i64 i36 1), (i40, i41, l42), (i43, i44), l45)))))
 (((fulI 0 (lenN l16) (lenN l16)).bnd (fun _ =>
 some (Sum.inl ((l7, i9, i8), (i14, i15), l16)))).bnd (fun l46 =>
 some (Sum.inr l46))))
 ((l0, i1, mulI .i64 (2 : Int) i2, (0 : Int)), (i3, i4, l5), (mulI .i64 (2 : Int) i2, mulI .i64 (2 : Int) i2), repL k6 (0 : Int))))
 (fun ((l47, i48, i49), (i50, i51), l52) =>
 (F_spec_MakeMatrix (l47, (60 : Int), i49, i48, i48)).bnd (fun (i53, i54, l55) =>
 (winI l52 0 (lenN l52)).bnd (fun l56 =>
 (F_impl_MulMatrix (i49, (i53, i54, l55), i50, i51, l56)).bnd (fun ((i57, i58, l59), b60) =>
 (F_impl_TransposeMatrix (i49, i53, i54, l55)).bnd (fun (i61, i62, l63) =>
 (winI l59 0 (lenN l59)).bnd (fun l64 =>
 (winI l63 0 (lenN l63)).bnd (fun l65 =>
 (F_impl_MulMatrix (i49, (i57, i58, l64), i61, i62, l65)).bnd (fun ((i66, i67, l68), b69) =>
 (winI l52 0 (lenN l52)).bnd (fun l70 =>
 (F_impl_Pfaffian (i49, i50, i51, l70)).bnd (fun (i71, b72) =>
 (winI l52 0 (lenN l52)).bnd (fun l73 =>
 (F_impl_Determinant (i49, i50, i51, l73)).bnd (fun (i74, b75) =>
 (winI l68 0 (lenN l68)).bnd (fun l76 =>
 (F_impl_Pfaffian (i49, i66, i67, l76)).bnd (fun (i77, b78) =>
 (F_impl_Determinant (i49, i53, i54, l55)).bnd (fun (i79, b80) =>
 cnd (b60)
 (cnd (b69)
 (cnd (b72)
 (cnd (b75)
 (cnd (b78)
 (cnd (b80)
 ((remI (mulI .i64 i71 i71) i49).bnd (fun i81 =>
 cnd (eqI i81 i74)
 ((remI (mulI .i64 i71 i79) i49).bnd (fun i82 =>
 cnd (eqI i77 i82)
 (cnd (ltI i49 (3 : Int))
 (some true)
 ((F_impl_InverseOf (i49, (2 : Int))).bnd (fun i83 =>
 (remI (mulI .i64 i83 2) i49).bnd (fun i84 =>
 some (eqI i84 (1 : Int))))))
 (some false)))
 (some false)))
 (some false))
 (some false))
 (some false))
 (some false))
 (some false))
 (some false))))))))))))))))))))))


theorem FnPfaffians_ok (l0 : List Int) : G_laws_FnPfaffians FUEL l0 = some true := by
 simp only [G_laws_FnPfaffians]
 by_cases hl : l0.length ≤ 1048576
 ·rw [cnd_f (ltI_f (by unfold natI lenN; omega))]
  obtain ⟨p, e1, hp⟩ := prime_ok l0 0 hl (by decide)
  have hpr := pr_5 hp
  have hP : pOk p := isPrimeI_t hpr
  have hp1 := hP.1
  have hp2 := hP.2
  obtain ⟨h, e2, hh⟩ := size_ok l0 2 0 2 hl (by decide) (by decide) (by decide) (by decide)
  obtain ⟨h, rfl⟩ := natI_eq (show 0 ≤ h by omega)
  rw [e1]; simp only [bnd_p]
  rw [e2]; simp only [bnd_p]
  rw [mulI_eq (by omega) (by omega), show (2 : Int) * (h : Int) = ((2 * h : Nat) : Int) by push_cast; rfl]
  obtain ⟨n, hn⟩ : ∃ n, n = 2 * h := ⟨_, rfl⟩
  rw [← hn]
  have hn3 : n = 0 ∨ n = 2 ∨ n = 4 := by omega
  have hn4 : n ≤ 4 := by omega
  have hnn : n * n ≤ 4 * 4 := Nat.mul_le_mul hn4 hn4
  obtain ⟨D, e4, hD, hDp⟩ := MakeMatrix_ok l0 10 p n n hl (by decide) hP (by omega) (by omega)
  rw [e4]; simp only [bnd_p]
  obtain ⟨X, hXD, hX, hXe⟩ : ∃ M : Mat, genD n n M = D ∧ inM p n n M ∧ M = ofD n (genD n n M) := ⟨ofD n D, genD_of hD, ofD_in hD hDp, by rw [genD_of hD]⟩
  subst hXD
  have hm : mulI .i64 (n : Int) (n : Int) = ((n * n : Nat) : Int) := by
   have em : (n : Int) * (n : Int) = ((n * n : Nat) : Int) := by push_cast; rfl
   rw [mulI_eq (by omega) (by omega), em]
  rw [hm]
  have hmk : mkI ((n * n : Nat) : Int) ((n * n : Nat) : Int) 8 = some (n * n) := by
   unfold mkI
   rw [if_pos ⟨by omega, by omega, by rw [Int.toNat_natCast]; have : maxBytes = 140737488355328 := rfl; omega⟩, Int.toNat_natCast]
  rw [hmk]
  simp only [bnd_p]
  rw [genD_rep, altT_0 p n X, show fulI 0 (n * n) (lenN (genD n n (altT p X 0 0))) = some () from fulI_ok (genD_len _ _ _).symm]
  simp only [bnd_p]
  generalize hLp : loopT FUEL _ _ = o
  obtain ⟨z, rfl, rfl⟩ : ∃ z, o = some z ∧ z = Sum.inl ((l0, (n : Int), p), ((n : Int), (n : Int)), genD n n (altF p X)) := by
   rw [← hLp]
   refine loopT_ex n (fun i x => x = ((l0, p, (n : Int), (i : Int)), ((n : Int), (n : Int), genD n n X), ((n : Int), (n : Int)), genD n n (altT p X i 0))) _ ?_ ?_ rfl (FUEL_gt (by omega))
   ·rintro i x hi rfl
    dsimp only
    rw [cnd_t (ltI_t (by omega)), fulI_id]
    simp only [bnd_p]
    generalize hLq : loopT FUEL _ _ = o
    obtain ⟨z, rfl, rfl⟩ : ∃ z, o = some z ∧ z = Sum.inl (((i : Int), l0, p, (n : Int)), ((n : Int), (n : Int), genD n n X), ((n : Int), (n : Int)), genD n n (altT p X i i)) := by
     rw [← hLq]
     refine loopT_ex i (fun j x => x = ((l0, p, (n : Int), (i : Int), (j : Int)), ((n : Int), (n : Int), genD n n X), ((n : Int), (n : Int)), genD n n (altT p X i j))) _ ?_ ?_ rfl (FUEL_gt (by omega))
     ·rintro j x hj rfl
      dsimp only
      rw [cnd_t (ltI_t (by omega))]
      have h1 : i * n ≤ 4 * 4 := Nat.mul_le_mul (by omega) hn4
      have h2 : j * n ≤ 4 * 4 := Nat.mul_le_mul (by omega) hn4
      have m1 : addI .i64 (mulI .i64 (i : Int) (n : Int)) (j : Int) = ((i * n + j : Nat) : Int) := by
       have em : (i : Int) * (n : Int) = ((i * n : Nat) : Int) := by push_cast; rfl
       rw [mulI_eq (by omega) (by omega), em, addI_eq (by omega) (by omega)]; push_cast; rfl
      have m2 : addI .i64 (mulI .i64 (j : Int) (n : Int)) (i : Int) = ((j * n + i : Nat) : Int) := by
       have em : (j : Int) * (n : Int) = ((j * n : Nat) : Int) := by push_cast; rfl
       rw [mulI_eq (by omega) (by omega), em, addI_eq (by omega) (by omega)]; push_cast; rfl
      have hjn : j < n := by omega
      rw [m1, m2, getI_gen X hi hjn]
      simp only [bnd_p]
      rw [chkI_gen _ hi hjn]
      simp only [bnd_p, addN_0]
      rw [getN_gen _ hi hjn]
      simp only [bnd_p]
      have hx := hX i hi j hjn
      have hx1 := hx.1
      have hx2 := hx.2
      rw [subI_eq (by omega) (by omega), remI_pos (by have := hx.2; omega) (by omega)]
      simp only [bnd_p]
      rw [chkI_gen _ hjn hi]
      simp only [bnd_p, addN_0]
      have hs := altT_step p n X hi hj
      have hg : ∃ y, getN (setL (genD n n (altT p X i j)) (i * n + j) (X i j)) (j * n + i) = some y :=
       ⟨_, List.getElem?_eq_getElem (by unfold setL; rw [List.length_set, genD_len]; exact idx_lt hjn hi)⟩
      obtain ⟨y, hy⟩ := hg
      rw [hy]
      simp only [bnd_p]
      rw [hs, fulI_gen]
      simp only [bnd_p]
      rw [addI_eq (by omega) (by omega)]
      exact ⟨_, rfl, rfl⟩
     ·rintro x rfl
      dsimp only
      rw [cnd_f (ltI_f (by omega)), fulI_id]
      exact ⟨_, rfl, rfl⟩
    simp only [joinK, Option.bind]
    rw [fulI_id, addI_eq (by omega) (by omega), altT_row]
    exact ⟨_, rfl, rfl⟩
   ·rintro x rfl
    dsimp only
    rw [cnd_f (ltI_f (by omega)), fulI_id, altT_end]
    exact ⟨_, rfl, rfl⟩
  simp only [joinK, Option.bind]
  -- the alternating matrix
  have hA : inM p n n (altF p X) := altF_in hP hX
  have hAB : AltB p n 0 (altF p X) := altF_B p n X
  generalize altF p X = A at hA hAB
  obtain ⟨D2, e5, hD2, hDp2⟩ := MakeMatrix_ok l0 60 p n n hl (by decide) hP (by omega) (by omega)
  rw [e5]; simp only [bnd_p, winI_id]
  obtain ⟨B, hBD, hB, hBe⟩ : ∃ M : Mat, genD n n M = D2 ∧ inM p n n M ∧ M = ofD n (genD n n M) := ⟨ofD n D2, genD_of hD2, ofD_in hD2 hDp2, by rw [genD_of hD2]⟩
  subst hBD
  have hBA : inM p n n (mulF p n B A) := mulF_in hP n n n B A
  have hBt : inM p n n (turnF B) := fun a ha b hb => hB b hb a ha
  have hC : inM p n n (mulF p n (mulF p n B A) (turnF B)) := mulF_in hP n n n _ _
  rw [mul_g hpr (by omega) (by omega) (by omega) hB hA]
  simp only [bnd_p]
  rw [turn_g hpr (by omega) (by omega) hB]
  simp only [bnd_p, winI_id]
  rw [mul_g hpr (by omega) (by omega) (by omega) hBA hBt]
  simp only [bnd_p, winI_id]
  obtain ⟨hCB, hCf⟩ := conj_ok (B := B) hpr hn3 hAB
  obtain ⟨f, ef, hf, hfi⟩ := pf_g hpr hn3 hA hAB
  obtain ⟨g, eg, hg, hgi⟩ := pf_g hpr hn3 hC hCB
  rw [ef]
  simp only [bnd_p, winI_id]
  rw [det_g hpr hn4 hA]
  simp only [bnd_p, winI_id]
  rw [eg]
  simp only [bnd_p]
  rw [det_g hpr hn4 hB]
  simp only [bnd_p, cnd_tp]
  have dA := detR_in hpr hA
  have dB := detR_in hpr hB
  have hff : 0 ≤ f * f ∧ f * f ≤ 1000003 * 1000003 := ⟨Int.mul_nonneg hfi.1 hfi.1, Int.mul_le_mul (by have := hfi.2; omega) (by have := hfi.2; omega) hfi.1 (by decide)⟩
  have hfd : 0 ≤ f * detR p n B ∧ f * detR p n B ≤ 1000003 * 1000003 := ⟨Int.mul_nonneg hfi.1 dB.1, Int.mul_le_mul (by have := hfi.2; omega) (by have := dB.2; omega) dB.1 (by decide)⟩
  have q1 : f * f % p = detR p n A := by
   refine eqm_in ?_ (emod_in hP _) dA
   exact (eqm_mod p _).trans ((eqm.mul hf hf).trans (sq_ok hpr hn3 hA hAB))
  have q2 : f * detR p n B % p = g := by
   refine eqm_in ?_ (emod_in hP _) hgi
   refine (eqm_mod p _).trans (eqm.trans ?_ (hCf.symm.trans hg.symm))
   exact eqm.mul hf (det_dP hpr hB hn4).symm
  rw [mulI_eq (by omega) (by omega), remI_pos hff.1 (by omega), q1]
  simp only [bnd_p]
  rw [eqI_p, cnd_tp, mulI_eq (by omega) (by omega), remI_pos hfd.1 (by omega), q2]
  simp only [bnd_p]
  rw [eqI_p, cnd_tp]
  by_cases h3 : p < 3
  ·rw [cnd_t (ltI_t h3)]
  ·rw [cnd_f (ltI_f (by omega))]
   obtain ⟨v, ev, hvi, hv⟩ := inv2_ok hpr (by omega)
   rw [ev]
   simp only [bnd_p]
   have hv1 := hvi.1
   have hv2 := hvi.2
   rw [mulI_eq (by omega) (by omega), remI_pos (by omega) (by omega), Int.mul_comm v 2, hv]
   simp only [bnd_p]
   rw [eqI_p]
 ·rw [cnd_t (ltI_t (by unfold natI lenN; omega))]
theorem f_laws_FnPfaffians (x : List Int) (y : Bool) (h : F_laws_FnPfaffians x = some y) : G_laws_FnPfaffians FUEL x = some y := by
 rw [FnPfaffians_ok]; exact h
end Go.Am