/- L_FnReduced: the law FnReduced. No condition. -/
import Derived.Test.YtdbokcfhhdkhiaaM42
import Derived.Test.YtdbokcfhhdkhiaaM42
import Derived.Test.YtdbokcfhhdkhiaaM42
set_option linter.unusedVariables false
set_option linter.unusedSimpArgs false
namespace Go.Am
def F_laws_FnReduced : List Int → Option Bool := fun _ => some true
theorem cnd_tr {α : Type} (x y : α) : cnd true x y = x := rfl
theorem bnd_r {α β : Type} (x : α) (f : α → Option β) : (some x).bnd f = f x := by
  have h : ∀ o : Option α, o = some x → o.bnd f = f x := by intro o h; subst h; rfl
  exact h _ rfl
theorem neI_r (x : Int) : neI x x = false := bne_self_eq_false _
theorem eqI_r (x : Int) : eqI x x = true := beq_self_eq_true _

def ag_laws_FnReduced : Sig := [(.one, [.list [.int .u8]])]
def rs_laws_FnReduced : Sig := [(.one, [.bool])]
def mu_laws_FnReduced : MSig := []

def G_laws_FnReduced (NN : Nat) : (List Int) → (Option Bool) :=
 (fun (l0 : (List Int)) =>
 cnd (ltI (1048576 : Int) (natI (lenN l0)))
 (some true)
 ((F_spec_MakePrime (l0, (0 : Int))).bnd (fun i1 =>
 (F_spec_MakeSize (l0, (2 : Int), (1 : Int), (4 : Int))).bnd (fun i2 =>
 (F_spec_MakeSize (l0, (4 : Int), (1 : Int), (4 : Int))).bnd (fun i3 =>
 (F_spec_MakeMatrix (l0, (10 : Int), i1, i2, i3)).bnd (fun (i4, i5, l6) =>
 (F_impl_ReduceMatrix (i1, i4, i5, l6)).bnd (fun ((i7, i8, l9), l10) =>
 (winI l9 0 (lenN l9)).bnd (fun l11 =>
 (F_impl_ReduceMatrix (i1, i7, i8, l11)).bnd (fun ((i12, i13, l14), l15) =>
 cnd (neI i7 i4)
 (some false)
 (cnd (neI i8 i5)
 (some false)
 (cnd (neI (natI (lenN l9)) (natI (lenN l6)))
 (some false)
 ((winI l9 0 (lenN l9)).bnd (fun l16 =>
 (winI l14 0 (lenN l14)).bnd (fun l17 =>
 (F_laws_ints (l16, l17)).bnd (fun b18 =>
 cnd (notB b18)
 (some false)
 ((winI l10 0 (lenN l10)).bnd (fun l19 =>
 (winI l15 0 (lenN l15)).bnd (fun l20 =>
 (F_laws_ints (l19, l20)).bnd (fun b21 =>
 cnd (notB b21)
 (some false)
 ((F_impl_RankMatrix (i1, i4, i5, l6)).bnd (fun i22 =>
 cnd (neI (natI (lenN l10)) i22)
 (some false)
 (joinK ((fulI 0 (lenN l10) (lenN l10)).bnd (fun _ =>
 (fulI 0 (lenN l10) (lenN l10)).bnd (fun _ =>
 (fulI 0 (lenN l9) (lenN l9)).bnd (fun _ =>
 loopT NN (fun (((i23, i24, i25), (i26, i27, l28), (i29, i30), l31, l32) : ((Int × (Int × Int)) × ((Int × (Int × (List Int))) × ((Int × Int) × ((List Int) × (List Int)))))) =>
 cnd (ltI i25 i24)
 (joinK ((chkI i25 (lenN l32)).bnd (fun k33 =>
 (getN l32 (addN 0 k33)).bnd (fun i34 =>
 (fulI 0 (lenN l32) (lenN l32)).bnd (fun _ =>
 (fulI 0 (lenN l32) (lenN l32)).bnd (fun _ =>
 (fulI 0 (lenN l31) (lenN l31)).bnd (fun _ =>
 loopT NN (fun (((i35, i36, i37, i38, i39, i40), (i41, i42, l43), (i44, i45), l46, l47) : ((Int × (Int × (Int × (Int × (Int × Int))))) × ((Int × (Int × (List Int))) × ((Int × Int) × ((List Int) × (List Int)))))) =>
 cnd (ltI i38 i44)
 ((chkI (addI .i64 (mulI .i64 i38 i45) i37) (lenN l46)).bnd (fun k48 =>
 (getN l46 (addN 0 k48)).bnd (fun i49 =>
 cnd (eqI i38 i36)
 (cnd (neI i49 (1 : Int))
 (some (Sum.inr (Sum.inr (Sum.inr (Sum.inr false)))))
 (cnd (neI i38 i36)
 (cnd (neI i49 (0 : Int))
 (some (Sum.inr (Sum.inr (Sum.inr (Sum.inr false)))))
 ((fulI 0 (lenN l47) (lenN l47)).bnd (fun _ =>
 (fulI 0 (lenN l47) (lenN l47)).bnd (fun _ =>
 (fulI 0 (lenN l46) (lenN l46)).bnd (fun _ =>
 some (Sum.inl ((i35, i36, i37, addI .i64 i38 1, i39, i40), (i41, i42, l43), (i44, i45), l46, l47)))))))
 (cnd (false)
 (some (Sum.inr (Sum.inr (Sum.inr (Sum.inr false)))))
 ((fulI 0 (lenN l47) (lenN l47)).bnd (fun _ =>
 (fulI 0 (lenN l47) (lenN l47)).bnd (fun _ =>
 (fulI 0 (lenN l46) (lenN l46)).bnd (fun _ =>
 some (Sum.inl ((i35, i36, i37, addI .i64 i38 1, i39, i40), (i41, i42, l43), (i44, i45), l46, l47)))))))))
 (cnd (neI i38 i36)
 (cnd (neI i49 (0 : Int))
 (some (Sum.inr (Sum.inr (Sum.inr (Sum.inr false)))))
 ((fulI 0 (lenN l47) (lenN l47)).bnd (fun _ =>
 (fulI 0 (lenN l47) (lenN l47)).bnd (fun _ =>
 (fulI 0 (lenN l46) (lenN l46)).bnd (fun _ =>
 some (Sum.inl ((i35, i36, i37, addI .i64 i38 1, i39, i40), (i41, i42, l43), (i44, i45), l46, l47)))))))
 (cnd (false)
 (some (Sum.inr (Sum.inr (Sum.inr (Sum.inr false)))))
 ((fulI 0 (lenN l47) (lenN l47)).bnd (fun _ =>
 (fulI 0 (lenN l47) (lenN l47)).bnd (fun _ =>
 (fulI 0 (lenN l46) (lenN l46)).bnd (fun _ =>
 some (Sum.inl ((i35, i36, i37, addI .i64 i38 1, i39, i40), (i41, i42, l43), (i44, i45), l46, l47)))))))))))
 (((fulI 0 (lenN l47) (lenN l47)).bnd (fun _ =>
 (fulI 0 (lenN l47) (lenN l47)).bnd (fun _ =>
 (fulI 0 (lenN l46) (lenN l46)).bnd (fun _ =>
 some (Sum.inl ((i40, i35, i39), (i41, i42, l43), (i44, i45), l46, l47)))))).bnd (fun l50 =>
 some (Sum.inr l50))))
 ((i23, i25, i34, (0 : Int), i24, i25), (i26, i27, l28), (i29, i30), l31, l32)))))))
 (fun ((i51, i52, i53), (i54, i55, l56), (i57, i58), l59, l60) =>
 (fulI 0 (lenN l60) (lenN l60)).bnd (fun _ =>
 (fulI 0 (lenN l60) (lenN l60)).bnd (fun _ =>
 (fulI 0 (lenN l59) (lenN l59)).bnd (fun _ =>
 some (Sum.inl ((i52, i53, addI .i64 i51 1), (i54, i55, l56), (i57, i58), l59, l60)))))))
 (((fulI 0 (lenN l32) (lenN l32)).bnd (fun _ =>
 (fulI 0 (lenN l31) (lenN l31)).bnd (fun _ =>
 some (Sum.inl (i23, (i26, i27, l28), (i29, i30), l31, l32))))).bnd (fun l61 =>
 some (Sum.inr l61))))
 ((i1, natI (lenN l10), (0 : Int)), (i4, i5, l6), (i7, i8), l9, l10)))))
 (fun (i62, (i63, i64, l65), (i66, i67), l68, l69) =>
 (winI l68 0 (lenN l68)).bnd (fun l70 =>
 (F_laws_join (l65, l70)).bnd (fun l71 =>
 (winI l71 0 (lenN l71)).bnd (fun l72 =>
 (F_impl_RankMatrix (i62, mulI .i64 (2 : Int) i63, i64, l72)).bnd (fun i73 =>
 some (eqI i73 (natI (lenN l69))))))))))))))))))))))))))))))


theorem matOk_gen {p : Int} {r c : Nat} {M : Mat} (hpr : isPrimeI p = true) (hr : r ≤ 64) (hc : c ≤ 64) (hM : inM p r c M) : matOk p ((r : Int), (c : Int), genD r c M) = true := by
  simp only [matOk, Bool.and_eq_true, decide_eq_true_eq]
  exact ⟨hpr, ⟨by omega, by omega⟩, ⟨by omega, by omega⟩, by rw [genD_len]; push_cast; rfl, rowOk_P.2 (allP_gen.2 hM)⟩
theorem sz_gen {r c : Nat} {M : Mat} (hr : r ≤ 64) (hc : c ≤ 64) : sz_Matrix ((r : Int), (c : Int), genD r c M) ≤ 1048576 := by
  show (genD r c M).length ≤ _
  rw [genD_len]
  have := Nat.mul_le_mul hr hc
  omega
theorem red_gen {p : Int} {r c : Nat} {M : Mat} (hpr : isPrimeI p = true) (hr : r ≤ 64) (hc : c ≤ 64) (hM : inM p r c M) (e : M = ofD c (genD r c M)) :
    F_impl_ReduceMatrix (p, (r : Int), (c : Int), genD r c M) = some (((r : Int), (c : Int), genD r c (redN p r M c).1), (redN p r M c).2.1) := by
  simp only [F_impl_ReduceMatrix, F_spec_ReduceMatrix]
  rw [if_pos (sz_gen hr hc), if_pos (matOk_gen hpr hr hc hM), redX_nat e]
  simp only [Int.toNat_natCast]
theorem rank_gen {p : Int} {r c : Nat} {M : Mat} (hpr : isPrimeI p = true) (hr : r ≤ 64) (hc : c ≤ 64) (hM : inM p r c M) (e : M = ofD c (genD r c M)) :
    F_impl_RankMatrix (p, (r : Int), (c : Int), genD r c M) = some ((redN p r M c).2.1.length : Int) := by
  simp only [F_impl_RankMatrix, F_spec_RankMatrix]
  rw [if_pos (sz_gen hr hc), if_pos (matOk_gen hpr hr hc hM), redX_nat e]
theorem FnReduced_ok (l0 : List Int) : G_laws_FnReduced FUEL l0 = some true := by
  simp only [G_laws_FnReduced]
  by_cases hl : l0.length ≤ 1048576
  · rw [cnd_f (ltI_f (by unfold natI lenN; omega))]
    obtain ⟨p, e1, hp⟩ := prime_ok l0 0 hl (by decide)
    have hpr := pr_5 hp
    have hP : pOk p := isPrimeI_t hpr
    obtain ⟨r, e2, hr⟩ := size_ok l0 2 1 4 hl (by decide) (by decide) (by decide) (by decide)
    obtain ⟨c, e3, hc⟩ := size_ok l0 4 1 4 hl (by decide) (by decide) (by decide) (by decide)
    obtain ⟨r, rfl⟩ := natI_eq (show 0 ≤ r by omega)
    obtain ⟨c, rfl⟩ := natI_eq (show 0 ≤ c by omega)
    obtain ⟨D, e4, hD, hDp⟩ := MakeMatrix_ok l0 10 p r c hl (by decide) hP (by omega) (by omega)
    have hrc : r * c ≤ 4 * 4 := Nat.mul_le_mul (by omega) (by omega)
    rw [e1]; simp only [bnd_r]
    rw [e2]; simp only [bnd_r]
    rw [e3]; simp only [bnd_r]
    rw [e4]; simp only [bnd_r]
    -- the matrix
    obtain ⟨M, hMD, hM, hMe⟩ : ∃ M : Mat, genD r c M = D ∧ inM p r c M ∧ M = ofD c (genD r c M) := ⟨ofD c D, genD_of hD, ofD_in hD hDp, by rw [genD_of hD]⟩
    subst hMD
    rw [red_gen hpr (by omega) (by omega) hM hMe]
    simp only [bnd_r, winI_id]
    have hR := redN_RF hpr hM c (Nat.le_refl c)
    have hI := redN_I hP hM c
    have hspan := fun x => redN_span hpr hM x c (Nat.le_refl c)
    generalize hrd : redN p r M c = s at hR hI hspan
    obtain ⟨R, L, d⟩ := s
    dsimp only at hspan ⊢
    have hRm : inM p r c R := hI.m
    have hLr : L.length ≤ r := hI.l
    have hL0 : ∀ x ∈ L, 0 ≤ x ∧ x < (c : Int) := hI.e
    have hag : ∀ a, a < r → ∀ b, b < c → ofD c (genD r c R) a b = R a b := fun a ha b hb => ofD_gen R ha hb
    have hRm' : inM p r c (ofD c (genD r c R)) := fun a ha b hb => by rw [hag a ha b hb]; exact hRm a ha b hb
    have hgg : genD r c (ofD c (genD r c R)) = genD r c R := genD_of (genD_len _ _ _)
    have hR' : RF r (ofD c (genD r c R), L, d) c := RF_ag hR hLr hag
    obtain ⟨i1, i2⟩ := idem_end hpr hRm' hR' hLr fun x hx => (hL0 x hx).1
    have er := red_gen (r := r) (c := c) (M := ofD c (genD r c R)) hpr (by omega) (by omega) hRm' (by rw [hgg])
    rw [hgg] at er
    rw [er, i1, i2, hgg]
    simp only [bnd_r, winI_id, neI_r, cnd_false]
    rw [show natI (lenN (genD r c R)) = natI (lenN (genD r c M)) by unfold natI lenN; rw [genD_len, genD_len], neI_r, cnd_false]
    rw [ints_self _ (by rw [genD_len]; omega)]
    simp only [bnd_r, show notB true = false from rfl, cnd_false]
    rw [ints_self _ (by omega)]
    simp only [bnd_r, show notB true = false from rfl, cnd_false]
    rw [rank_gen hpr (by omega) (by omega) hM hMe, hrd]
    simp only [bnd_r]
    rw [show natI (lenN L) = (L.length : Int) from rfl, neI_r, cnd_false, fulI_id, fulI_id]
    simp only [bnd_r]
    generalize hLp : loopT FUEL _ _ = o
    obtain ⟨z, rfl, rfl⟩ : ∃ z, o = some z ∧ z = Sum.inl (p, ((r : Int), (c : Int), genD r c M), ((r : Int), (c : Int)), genD r c R, L) := by
      rw [← hLp]
      refine loopT_ex L.length (fun i x => x = ((p, (L.length : Int), (i : Int)), ((r : Int), (c : Int), genD r c M), ((r : Int), (c : Int)), genD r c R, L)) _ ?_ ?_ rfl (FUEL_gt (by omega))
      · rintro i x hi rfl
        dsimp only
        rw [cnd_t (ltI_t (by omega)), chkI_nat (show i < lenN L from hi)]
        simp only [bnd_r, addN_0]
        rw [show getN L i = some L[i] from List.getElem?_eq_getElem hi]
        simp only [bnd_r, fulI_id]
        have hj0 := hL0 L[i] (List.getElem_mem hi)
        have hji : L[i] = (pv L i : Int) := by
          have h2 : pv L i = L[i].toNat := by unfold pv; rw [List.getD_eq_getElem?_getD, List.getElem?_eq_getElem hi]; rfl
          omega
        have hjc : pv L i < c := by omega
        rw [hji]
        generalize hLq : loopT FUEL _ _ = o
        obtain ⟨z, rfl, rfl⟩ : ∃ z, o = some z ∧ z = Sum.inl (((i : Int), p, (L.length : Int)), ((r : Int), (c : Int), genD r c M), ((r : Int), (c : Int)), genD r c R, L) := by
          rw [← hLq]
          refine loopT_ex r (fun k x => x = ((p, (i : Int), (pv L i : Int), (k : Int), (L.length : Int), (i : Int)), ((r : Int), (c : Int), genD r c M), ((r : Int), (c : Int)), genD r c R, L)) _ ?_ ?_ rfl (FUEL_gt (by omega))
          · rintro k x hk rfl
            dsimp only
            rw [cnd_t (ltI_t (by omega))]
            have hkc : k * c ≤ 4 * 4 := Nat.mul_le_mul (by omega) (by omega)
            have em : (k : Int) * (c : Int) = ((k * c : Nat) : Int) := by push_cast; rfl
            rw [mulI_eq (by omega) (by omega), em, addI_eq (by omega) (by omega), show ((k * c : Nat) : Int) + (pv L i : Int) = ((k * c + pv L i : Nat) : Int) by push_cast; rfl]
            rw [chkI_gen R hk hjc]
            simp only [bnd_r, addN_0]
            rw [getN_gen R hk hjc]
            simp only [bnd_r]
            rw [addI_eq (by omega) (by omega)]
            by_cases hki : k = i
            · subst hki
              rw [show R k (pv L k) = 1 from hR.one k hi, eqI_r, neI_r, neI_r, cnd_tr, cnd_false, cnd_false]
              exact ⟨_, rfl, rfl⟩
            · rw [show R k (pv L i) = 0 from hR.col i hi k hk hki, cnd_f (eqI_f (by omega)), show neI (k : Int) (i : Int) = true from bne_iff_ne.2 (by omega), cnd_tr, neI_r, cnd_false]
              exact ⟨_, rfl, rfl⟩
          · rintro x rfl
            dsimp only
            rw [cnd_f (ltI_f (by omega))]
            exact ⟨_, rfl, rfl⟩
        simp only [joinK, Option.bind]
        rw [addI_eq (by omega) (by omega)]
        exact ⟨_, rfl, rfl⟩
      · rintro x rfl
        dsimp only
        rw [cnd_f (ltI_f (by omega))]
        simp only [fulI_id, bnd_r]
        exact ⟨_, rfl, rfl⟩
    simp only [joinK, Option.bind, winI_id]
    rw [join_ok _ _ (by rw [genD_len]; omega) (by rw [genD_len]; omega), genD_stack]
    simp only [Option.bnd, Option.bind, winI_id]
    rw [mulI_eq (by omega) (by omega), show (2 : Int) * (r : Int) = ((r + r : Nat) : Int) by push_cast; omega]
    have hst : inM p (r + r) c (stackF r M R) := stack_in hM hRm
    have hgs : genD (r + r) c (ofD c (genD (r + r) c (stackF r M R))) = genD (r + r) c (stackF r M R) := genD_of (genD_len _ _ _)
    have hst' : inM p (r + r) c (ofD c (genD (r + r) c (stackF r M R))) := fun a ha b hb => by rw [ofD_gen _ ha hb]; exact hst a ha b hb
    have ek := rank_gen (r := r + r) (c := c) (M := ofD c (genD (r + r) c (stackF r M R))) hpr (by omega) (by omega) hst' (by rw [hgs])
    rw [hgs] at ek
    rw [ek]
    have hsr := stack_rank hpr hM hRm fun i hi => (hspan _).1 (Sp_row hi)
    have hsr' : (redN p (r + r) (ofD c (genD (r + r) c (stackF r M R))) c).2.1.length = (redN p r M c).2.1.length := by
      rw [← hsr]
      apply Nat.le_antisymm
      · exact rank_le hpr hst' hst fun x hx => Sp_le (fun i hi => Sp_congr (Sp_row hi) fun b hb => by rw [ofD_gen _ hi hb]) hx
      · exact rank_le hpr hst hst' fun x hx => Sp_le (fun i hi => Sp_congr (Sp_row hi) fun b hb => by rw [ofD_gen _ hi hb]) hx
    rw [hsr', hrd]
    dsimp only
    rw [show natI (lenN L) = (L.length : Int) from rfl, eqI_r]
  · rw [cnd_t (ltI_t (by unfold natI lenN; omega))]
theorem f_laws_FnReduced (x : List Int) (y : Bool) (h : F_laws_FnReduced x = some y) : G_laws_FnReduced FUEL x = some y := by
  rw [FnReduced_ok]; exact h
end Go.Am
