/- M10, M44, M45: parts of the proof. No condition. -/
import Derived.Test.YtdbokcfhhdkhiaaM43
set_option linter.unusedVariables false
set_option linter.unusedSimpArgs false
section
namespace Go.Am
def detR (p : Int) (n : Nat) (M : Mat) : Int := if (redN p n M n).2.1.length < n then 0 else (redN p n M n).2.2
def F_spec_Determinant : Int × Int × Int × List Int → Option (Int × Bool) := fun (x : Int × Int × Int × List Int) =>
 if sz_Matrix x.2 ≤ 1048576 then some (if matOk x.1 x.2 = true ∧ x.2.1 = x.2.2.1 then (detR x.1 x.2.1.toNat (ofD x.2.1.toNat x.2.2.2), true) else (0, false)) else none
def F_impl_Determinant : Int × Int × Int × List Int → Option (Int × Bool) := F_spec_Determinant
def lowF (p inv : Int) (S : Mat) (k m : Nat) : Mat := fun a b => if k < a ∧ a < m then (S a b + (p - S a k * inv % p) % p * S k b) % p else S a b
def ag_impl_Determinant : Sig := [(.one, [.int .i64]), (.agg, [.int .i64, .int .i64, .list [.int .i64]])]
def rs_impl_Determinant : Sig := [(.one, [.int .i64]), (.one, [.bool])]
def mu_impl_Determinant : MSig := []
def G_impl_Determinant (NN : Nat) : (Int × (Int × (Int × (List Int)))) → (Option (Int × Bool)) :=
 (fun ((i0, i1, i2, l3) : (Int × (Int × (Int × (List Int))))) =>
 (F_impl_MatrixOk (i0, i1, i2, l3)).bnd (fun b4 =>
 cnd (notB b4)
 (some ((0 : Int), false))
 (cnd (neI i1 i2)
 (some ((0 : Int), false))
 ((F_impl_copyMatrix (i1, i2, l3)).bnd (fun (i5, i6, l7) =>
 joinK ((fulI 0 (lenN l7) (lenN l7)).bnd (fun _ =>
 loopT NN (fun (((i8, i9, i10), (i11, i12), l13) : ((Int × (Int × Int)) × ((Int × Int) × (List Int)))) =>
 cnd (ltI i10 i12)
 (joinK (joinK ((fulI 0 (lenN l13) (lenN l13)).bnd (fun _ =>
 loopT NN (fun (((i14, i15, i16, i17), (i18, i19), l20) : ((Int × (Int × (Int × Int))) × ((Int × Int) × (List Int)))) =>
 cnd (ltI i17 i18)
 ((winI l20 0 (lenN l20)).bnd (fun l21 =>
 (F_impl_Matrix_at ((i18, i19, l21), i17, i16)).bnd (fun i22 =>
 cnd (eqI i22 (0 : Int))
 ((fulI 0 (lenN l20) (lenN l20)).bnd (fun _ =>
 some (Sum.inl ((i14, i15, i16, addI .i64 i17 1), (i18, i19), l20))))
 (((fulI 0 (lenN l20) (lenN l20)).bnd (fun _ =>
 some (Sum.inl ((i17, i15, i14, i16), (i18, i19), l20)))).bnd (fun l23 =>
 some (Sum.inr l23))))))
 (((fulI 0 (lenN l20) (lenN l20)).bnd (fun _ =>
 some (Sum.inl ((i17, i15, i14, i16), (i18, i19), l20)))).bnd (fun l24 =>
 some (Sum.inr l24))))
 ((i8, i9, i10, i10), (i11, i12), l13)))
 (fun ((i25, i26, i27, i28), (i29, i30), l31) =>
 cnd (eqI i25 i29)
 (some (Sum.inr (Sum.inr (Sum.inr ((0 : Int), true)))))
 (joinK (cnd (neI i25 i28)
 ((fulI 0 (lenN l31) (lenN l31)).bnd (fun _ =>
 (F_impl_Matrix_swapRows ((i29, i30, l31), i25, i28)).bnd (fun l32 =>
 (remI (subI .i64 i27 i26) i27).bnd (fun i33 =>
 (fulI 0 (lenN l31) (lenN l32)).bnd (fun _ =>
 some (Sum.inl ((i33, i27, i28), (i29, i30), l32)))))))
 ((fulI 0 (lenN l31) (lenN l31)).bnd (fun _ =>
 some (Sum.inl ((i26, i27, i28), (i29, i30), l31)))))
 (fun ((i34, i35, i36), (i37, i38), l39) =>
 (winI l39 0 (lenN l39)).bnd (fun l40 =>
 (F_impl_Matrix_at ((i37, i38, l40), i36, i36)).bnd (fun i41 =>
 (remI (mulI .i64 i34 i41) i35).bnd (fun i42 =>
 (winI l39 0 (lenN l39)).bnd (fun l43 =>
 (F_impl_Matrix_at ((i37, i38, l43), i36, i36)).bnd (fun i44 =>
 (F_impl_rawInverse (i35, i44)).bnd (fun i45 =>
 (fulI 0 (lenN l39) (lenN l39)).bnd (fun _ =>
 loopT NN (fun (((i46, i47, i48, i49, i50), (i51, i52), l53) : ((Int × (Int × (Int × (Int × Int)))) × ((Int × Int) × (List Int)))) =>
 cnd (ltI i50 i51)
 ((winI l53 0 (lenN l53)).bnd (fun l54 =>
 (F_impl_Matrix_at ((i51, i52, l54), i50, i48)).bnd (fun i55 =>
 (remI (mulI .i64 i55 i49) i46).bnd (fun i56 =>
 (remI (subI .i64 i46 i56) i46).bnd (fun i57 =>
 (fulI 0 (lenN l53) (lenN l53)).bnd (fun _ =>
 (F_impl_Matrix_addRow ((i51, i52, l53), i46, i50, i48, i57)).bnd (fun l58 =>
 (fulI 0 (lenN l53) (lenN l58)).bnd (fun _ =>
 some (Sum.inl ((i46, i47, i48, i49, addI .i64 i50 1), (i51, i52), l58))))))))))
 (((fulI 0 (lenN l53) (lenN l53)).bnd (fun _ =>
 some (Sum.inl ((i48, i46, i47), (i51, i52), l53)))).bnd (fun l59 =>
 some (Sum.inr l59))))
 ((i35, i42, i36, i45, addI .i64 i36 1), (i37, i38), l39))))))))))))
 (fun ((i60, i61, i62), (i63, i64), l65) =>
 (fulI 0 (lenN l65) (lenN l65)).bnd (fun _ =>
 some (Sum.inl ((i61, i62, addI .i64 i60 1), (i63, i64), l65)))))
 (some (Sum.inr (Sum.inl i9))))
 ((i0, (1 : Int), (0 : Int)), (i5, i6), l7)))
 (fun i66 =>
 some (i66, true)))))))


theorem low_eq {p X Y I s : Int} : (s + (p - X) * (Y * I % p)) % p = (s + (p - X * I % p) % p * Y) % p := by
 rw [Int.emod_def (Y * I) p, Int.emod_def (p - X * I % p) p, Int.emod_def (X * I) p]
 generalize Y * I / p = q1
 generalize X * I / p = q2
 generalize (p - (X * I - p * q2)) / p = q3
 rw [show s + (p - X) * (Y * I - p * q1) = (s + ((p - (X * I - p * q2)) - p * q3) * Y) + p * (Y * I - p * q1 + X * q1 - Y * (1 + q2 - q3)) by grind, Int.add_mul_emod_self_left]
theorem lowF_0 (p inv : Int) (S : Mat) (k : Nat) : lowF p inv S k (k + 1) = S := by funext a b; exact if_neg (by omega)
theorem lowF_old (p inv : Int) (S : Mat) (k m b : Nat) : lowF p inv S k m m b = S m b := if_neg (by omega)
theorem lowF_k (p inv : Int) (S : Mat) (k m b : Nat) : lowF p inv S k m k b = S k b := if_neg (by omega)
theorem lowF_in {p inv : Int} {r c : Nat} {S : Mat} (hp : pOk p) (hS : inM p r c S) (k m : Nat) : inM p r c (lowF p inv S k m) := by
 intro i hi j hj
 unfold lowF
 split
 ·exact emod_in hp _
 ·exact hS i hi j hj
theorem low_step {r c : Nat} {p inv : Int} (S : Mat) (k m : Nat) (hm : k < m) : genD r c (clearF p (lowF p inv S k m) m k ((p - S m k * inv % p) % p)) = genD r c (lowF p inv S k (m + 1)) := by
 refine genD_congr fun a _ b _ => ?_
 unfold clearF
 by_cases h : a = m
 ·subst h
  rw [if_pos rfl, lowF_old, lowF_k]
  exact (if_pos ⟨hm, by omega⟩).symm
 ·rw [if_neg h]
  unfold lowF
  by_cases h1 : k < a ∧ a < m
  ·rw [if_pos h1, if_pos ⟨h1.1, by omega⟩]
  ·rw [if_neg h1, if_neg (by omega)]
theorem low_agree {p : Int} {n : Nat} {M D : Mat} {k q : Nat} (hk : k ≤ q) (hq : q < n) (h : ∀ a, k ≤ a → a < n → ∀ b, b < n → D a b = M a b) (a : Nat) (ha : k + 1 ≤ a) (han : a < n) (b : Nat) (hb : b < n) :
  lowF p (invG p 1 (swapF D k q k k) (p - 2).toNat) (swapF D k q) k n a b = clrF p (pivS p M k k q) k k n a b := by
 have hs : ∀ a, k ≤ a → a < n → ∀ b, b < n → swapF D k q a b = swapF M k q a b := by
  intro a h1 h2 b hb
  unfold swapF
  by_cases e1 : a = k
  ·rw [if_pos e1, if_pos e1]; exact h q hk hq b hb
  ·rw [if_neg e1, if_neg e1]
   by_cases e2 : a = q
   ·rw [if_pos e2, if_pos e2]; exact h k (Nat.le_refl k) (by omega) b hb
   ·rw [if_neg e2, if_neg e2]; exact h a h1 h2 b hb
 have hkk := hs k (Nat.le_refl k) (by omega) k (by omega)
 unfold lowF clrF
 rw [if_pos ⟨by omega, han⟩, if_pos ⟨han, by omega⟩]
 have p1 : ∀ b, pivS p M k k q a b = swapF M k q a b := fun b => if_neg (by omega)
 have p2 : pivS p M k k q k b = swapF M k q k b * invG p 1 (swapF M k q k k) (p - 2).toNat % p := if_pos rfl
 rw [p1, p1, p2, hs a (by omega) han b hb, hs a (by omega) han k (by omega), hs k (Nat.le_refl k) (by omega) b hb, hkk]
 exact low_eq.symm
theorem redN_len {p : Int} {r : Nat} {M : Mat} (j : Nat) : ∀ d, (redN p r M (j + d)).2.1.length ≤ (redN p r M j).2.1.length + d
 | 0 => Nat.le_refl _
 | d + 1 => by
  have ih := redN_len (p := p) (r := r) (M := M) j d
  show (redS p r (redN p r M (j + d)) (j + d)).2.1.length ≤ _
  unfold redS
  split
  ·split
   ·omega
   ·simp only [List.length_append, List.length_cons, List.length_nil]; omega
  ·omega
theorem redN_full {p : Int} {n q : Nat} {M0 : Mat} (hq : q ≤ n) (h : ∀ j, j < q → pivF (redN p n M0 j).1 j (n - j) j ≠ none) : ∀ j, j ≤ q → (redN p n M0 j).2.1.length = j
 | 0, _ => rfl
 | j + 1, hj => by
  have ih := redN_full hq h j (by omega)
  have hp := h j (by omega)
  show (redS p n (redN p n M0 j) j).2.1.length = _
  unfold redS
  rw [ih, if_pos (by omega)]
  cases hk : pivF (redN p n M0 j).1 j (n - j) j with
  | none => exact absurd hk hp
  | some k =>
   simp only [List.length_append, List.length_cons, List.length_nil, ih]
section
variable {p : Int} {n : Nat} {M0 : Mat}
def dInv (p : Int) (n : Nat) (M0 : Mat) (k : Nat) (x : (Int × Int × Int) × (Int × Int) × List Int) : Prop :=
 ∃ D : Mat, x = ((p, (redN p n M0 k).2.2, (k : Int)), ((n : Int), (n : Int)), genD n n D) ∧ inM p n n D ∧ ∀ a, k ≤ a → a < n → ∀ b, b < n → D a b = (redN p n M0 k).1 a b
theorem g_detI (hp : pOk p) (hn : n ≤ 64) (hM : inM p n n M0) (hok : F_impl_MatrixOk (p, (n : Int), (n : Int), genD n n M0) = some true) :
  G_impl_Determinant FUEL (p, (n : Int), (n : Int), genD n n M0) = some (detR p n M0, true) := by
 have hnn : n * n ≤ 64 * 64 := Nat.mul_le_mul hn hn
 have hr : n ≤ 4096 := by omega
 have hrc : n * n ≤ 1048576 := by omega
 have hlen : (genD n n M0).length ≤ 1099511627776 := by rw [genD_len]; omega
 simp only [G_impl_Determinant, hok, bnd_s, F_impl_copyMatrix, if_pos hlen, fulI_id]
 rw [cnd_f (by rfl), cnd_f (neI_f rfl)]
 obtain ⟨q, hq, hlt, hend⟩ := stop_ex (fun j => pivF (redN p n M0 j).1 j (n - j) j ≠ none) n
 have hfull := redN_full hq hlt
 rw [loopT_inv q (dInv p n M0) (r := if q = n then Sum.inl (redN p n M0 n).2.2 else Sum.inr ((0 : Int), true)) ?_ ?_ ?_ (FUEL_gt (by omega))]
 ·by_cases e : q = n
  ·rw [if_pos e, joinK_l, detR, if_neg (by have := hfull q (Nat.le_refl q); rw [e] at this; omega)]
  ·rw [if_neg e, joinK_r, detR, if_pos]
   have hnone : pivF (redN p n M0 q).1 q (n - q) q = none := by
    rcases hend with h | h
    ·exact absurd h e
    ·exact Classical.not_not.1 h
   have h1 : redN p n M0 (q + 1) = redN p n M0 q := by
    have hlq := hfull q (Nat.le_refl q)
    exact redS_n (s := redN p n M0 q) (by omega) (by rw [hlq]; exact hnone)
   have h2 := redN_len (p := p) (r := n) (M := M0) (q + 1) (n - (q + 1))
   rw [h1, hfull q (Nat.le_refl q), show q + 1 + (n - (q + 1)) = n by omega] at h2
   omega
 ·rintro j x hj ⟨D, rfl, hD, hag⟩
  have hI := redN_I hp hM (r := n) (c := n) j
  have hlj := hfull j (by omega)
  have hpj := hlt j hj
  have hjn : j < n := by omega
  have hS : redN p n M0 (j + 1) = redS p n (redN p n M0 j) j := rfl
  unfold dInv
  rw [hS]
  generalize redN p n M0 j = s at hI hlj hpj hag ⊢
  obtain ⟨M, L, d⟩ := s
  simp only at hlj hpj hag
  subst hlj
  have hM' : inM p n n M := hI.m
  have hId : inP p d := hI.d
  cases hk : pivF M L.length (n - L.length) L.length with
  | none => exact absurd hk hpj
  | some k =>
   obtain ⟨hq1, hq2, hq3⟩ := pivF_lt hk
   have hkn : k < n := by omega
   rw [redS_s (s := (M, L, d)) hjn hk]
   have hS1 := swapF_in hD hjn hkn
   have hx := hS1 L.length hjn L.length hjn
   have hsw : ∀ b, b < n → swapF D L.length k L.length b = swapF M L.length k L.length b := by
    intro b hb
    unfold swapF
    rw [if_pos rfl, if_pos rfl]
    exact hag k hq1 hkn b hb
   have hinv := invG_in hp (p - 2).toNat 1 (swapF D L.length k L.length L.length) (one_in hp)
   have hd' : inP p (if k = L.length then d else (p - d) % p) := by split; exact hId; exact emod_in hp _
   refine ⟨_, ?_, lowF p (invG p 1 (swapF D L.length k L.length L.length) (p - 2).toNat) (swapF D L.length k) L.length n, rfl, lowF_in hp hS1 _ _, fun a h1 h2 b hb => low_agree hq1 hkn hag a h1 h2 b hb⟩
   simp only
   rw [cnd_t (ltN_t hjn)]
   rw [loopT_seq (r := Sum.inl (((k : Int), d, p, ((L.length : Nat) : Int)), ((n : Int), (n : Int)), genD n n D)) (fun e => ((p, d, ((L.length : Nat) : Int), ((L.length + e : Nat) : Int)), ((n : Int), (n : Int)), genD n n D)) (k - L.length) ?_ ?_ ?_ (FUEL_gt (by omega))]
   ·rw [joinK_l]
    simp only
    rw [cnd_f (eqI_f (by omega))]
    rw [cnd_eq (b := neI (k : Int) ((L.length : Nat) : Int)) (x := some (Sum.inl (((if k = L.length then d else (p - d) % p), p, ((L.length : Nat) : Int)), ((n : Int), (n : Int)), genD n n (swapF D L.length k)))) ?_ ?_]
    ·rw [joinK_l]
     simp only
     rw [winI_id, bnd_s, at_nat hr hr hrc hjn hjn, bnd_s, mulR hp hd'.le hx.le]
     simp only [bnd_s]
     rw [at_nat hr hr hrc hjn hjn, bnd_s, invI_nat hp hx, bnd_s, addN1 (show L.length ≤ 1048577 by omega)]
     generalize hT : swapF D L.length k = T at hS1 hx hsw hinv ⊢
     generalize hv : invG p 1 (T L.length L.length) (p - 2).toNat = inv at hinv ⊢
     rw [loopT_seq (r := Sum.inl ((((L.length : Nat) : Int), p, redD p M L.length L.length k d), ((n : Int), (n : Int)), genD n n (lowF p inv T L.length n))) (fun e => ((p, redD p M L.length L.length k d, ((L.length : Nat) : Int), inv, ((L.length + 1 + e : Nat) : Int)), ((n : Int), (n : Int)), genD n n (lowF p inv T L.length (L.length + 1 + e)))) (n - (L.length + 1)) ?_ ?_ ?_ (FUEL_gt (by omega))]
     ·rw [joinK_l]
      simp only [addN1 (show L.length ≤ 1048577 by omega)]
     ·intro e he
      simp only
      have hln : L.length + 1 + e < n := by omega
      rw [cnd_t (ltN_t hln), winI_id, bnd_s, at_nat hr hr hrc hln hjn, bnd_s, lowF_old, mulR hp (hS1 _ hln _ hjn).le hinv.le, bnd_s, subR hp (emod_in hp _), bnd_s]
      rw [addRow_nat hp hr hr hrc hln hjn (emod_in hp _).le (lowF_in hp hS1 _ _)]
      simp only [bnd_s, fulI_gen, addN1 (show L.length + 1 + e ≤ 1048577 by omega)]
      rw [low_step T L.length (L.length + 1 + e) (by omega)]
      rfl
     ·simp only [show L.length + 1 + (n - (L.length + 1)) = n by omega]
      rw [cnd_f (ltN_f (Nat.le_refl n))]
     ·simp only [Nat.add_zero]
      rw [lowF_0, redD, ← hsw L.length hjn]
    ·intro hne
     have hne' : k ≠ L.length := by
      intro q; rw [q, show neI ((L.length : Nat) : Int) ((L.length : Nat) : Int) = false from neI_f rfl] at hne; cases hne
     rw [if_neg hne', show F_impl_Matrix_swapRows (((n : Int), (n : Int), genD n n D), (k : Int), ((L.length : Nat) : Int)) = some (genD n n (swapF D k L.length)) from swap_nat hr hr hrc hkn hjn, bnd_s, subR hp hId]
     simp only [bnd_s, fulI_gen]
     rw [show swapF D k L.length = swapF D L.length k by
      funext a b
      unfold swapF
      by_cases e1 : a = k
      ·rw [if_pos e1, if_neg (by omega), if_pos e1]
      ·rw [if_neg e1]
       by_cases e2 : a = L.length
       ·rw [if_pos e2, if_pos e2]
       ·rw [if_neg e2, if_neg e2, if_neg e1]]
    ·intro heq
     have heq' : k = L.length := by
      by_cases q : k = L.length
      ·exact q
      ·rw [show neI (k : Int) ((L.length : Nat) : Int) = true from neI_t (by omega)] at heq; cases heq
     rw [if_pos heq', heq', swapF_self]
   ·intro e he
    simp only
    rw [cnd_t (ltN_t (show L.length + e < n by omega)), winI_id, bnd_s, at_nat hr hr hrc (show L.length + e < n by omega) hjn, bnd_s, hag _ (by omega) (by omega) _ hjn, cnd_t (eqI_t (pivF_before hk _ (by omega) (by omega)))]
    simp only [addN1 (show L.length + e ≤ 1048577 by omega)]
    rfl
   ·have e1 : L.length + (k - L.length) = k := by omega
    simp only [e1]
    rw [cnd_t (ltN_t hkn), winI_id, bnd_s, at_nat hr hr hrc hkn hjn, bnd_s, hag _ hq1 hkn _ hjn, cnd_f (eqI_f hq3)]
   ·rfl
 ·rintro x ⟨D, rfl, hD, hag⟩
  simp only
  by_cases e : q = n
  ·subst e
   rw [cnd_f (ltN_f (Nat.le_refl q)), if_pos rfl]
  ·have hqn : q < n := by omega
   have hnone : pivF (redN p n M0 q).1 q (n - q) q = none := by
    rcases hend with h | h
    ·exact absurd h e
    ·exact Classical.not_not.1 h
   rw [cnd_t (ltN_t hqn), if_neg e]
   rw [loopT_seq (r := Sum.inl (((n : Int), (redN p n M0 q).2.2, p, ((q : Nat) : Int)), ((n : Int), (n : Int)), genD n n D)) (fun e => ((p, (redN p n M0 q).2.2, ((q : Nat) : Int), ((q + e : Nat) : Int)), ((n : Int), (n : Int)), genD n n D)) (n - q) ?_ ?_ ?_ (FUEL_gt (by omega))]
   ·rw [joinK_l]
    simp only
    rw [cnd_t (eqI_t rfl), joinK_r]
   ·intro e he
    simp only
    rw [cnd_t (ltN_t (show q + e < n by omega)), winI_id, bnd_s, at_nat hr hr hrc (show q + e < n by omega) hqn, bnd_s, hag _ (by omega) (by omega) _ hqn, cnd_t (eqI_t (pivF_none hnone _ (by omega) (by omega)))]
    simp only [addN1 (show q + e ≤ 1048577 by omega)]
    rfl
   ·have e1 : q + (n - q) = n := by omega
    simp only [e1]
    rw [cnd_f (ltN_f (Nat.le_refl n))]
   ·rfl
 ·exact ⟨M0, rfl, hM, fun a _ _ b _ => rfl⟩
end
theorem f_impl_Determinant (x : Int × Int × Int × List Int) (y : Int × Bool) (h : F_impl_Determinant x = some y) : G_impl_Determinant FUEL x = some y := by
 obtain ⟨m, x⟩ := x
 simp only [F_impl_Determinant, F_spec_Determinant] at h
 split at h
 ·rename_i hl
  rw [← h]
  cases hm : matOk m x with
  | false =>
   obtain ⟨r, c, l⟩ := x
   simp only [G_impl_Determinant]
   rw [show F_impl_MatrixOk (m, r, c, l) = some (matOk m (r, c, l)) from if_pos hl, bnd_s, hm]
   simp [cnd, notB]
  | true =>
   obtain ⟨r, c, M, rfl, hp, hr, hc, hrc, hM, eM, hR⟩ := matOk_red hm
   have hok : F_impl_MatrixOk (m, (r : Int), (c : Int), genD r c M) = some true := by
    rw [← hm]
    exact if_pos hl
   by_cases e : r = c
   ·subst e
    rw [g_detI hp hr hM hok]
    simp only [Int.toNat_natCast, ← eM, if_pos, and_self]
   ·simp only [G_impl_Determinant, hok, bnd_s]
    rw [cnd_f (by rfl), cnd_t (neI_t (by omega)), if_neg (by intro q; have := q.2; omega)]
 ·cases h
end Go.Am
end
section
namespace Go.Am
def mulZ (n : Nat) (X Y : Mat) : Mat := fun a b => sm n (fun i => X a i * Y i b)
theorem eqm_iff {p a b : Int} : eqm p a b ↔ a % p = b % p := by
 constructor
 ·rintro ⟨q, rfl⟩; exact Int.add_mul_emod_self_left b p q
 ·intro h; exact ((eqm_mod p a).symm).trans (by rw [h]; exact eqm_mod p b)
theorem eqm_sm {p : Int} {f g : Nat → Int} {n : Nat} (h : ∀ i, i < n → eqm p (f i) (g i)) : eqm p (sm n f) (sm n g) := eqm_iff.2 (sm_mod fun i hi => eqm_iff.1 (h i hi))
structure RowS (p : Int) (n : Nat) (A B : Mat) (t k : Nat) (inv : Int) (f : Nat → Int) : Prop where
 bt : ∀ b, b < n → eqm p (B t b) (inv * A k b)
 ba : ∀ a, a < n → a ≠ t → ∀ b, b < n → eqm p (B a b) (swapF A t k a b + f a * B t b)
theorem RowS.det {p : Int} {n : Nat} {A B : Mat} {t k : Nat} {inv : Int} {f : Nat → Int} (hn : n ≤ 4) (htk : t ≤ k) (hk : k < n) (h : RowS p n A B t k inv f) : eqm p (dP n B) (inv * (if k = t then dP n A else - dP n A)) := by
 have e1 : eqm p (dP n B) (dP n (fun a b => if a = t then B t b else swapF A t k a b + f a * B t b)) := dP_m fun a ha b hb => by
  by_cases hat : a = t
  ·rw [if_pos hat, hat]; exact eqm.refl _ _
  ·rw [if_neg hat]; exact h.ba a ha hat b hb
 rw [dP_clear hn (by omega)] at e1
 have e2 : eqm p (dP n (fun a b => if a = t then B t b else swapF A t k a b)) (dP n (fun a b => if a = t then inv * swapF A t k a b else swapF A t k a b)) := dP_m fun a ha b hb => by
  by_cases hat : a = t
  ·rw [if_pos hat, if_pos hat, hat]
   have : swapF A t k t b = A k b := if_pos rfl
   rw [this]; exact h.bt b hb
  ·rw [if_neg hat, if_neg hat]; exact eqm.refl _ _
 rw [dP_scale hn (by omega)] at e2
 have e3 : dP n (swapF A t k) = if k = t then dP n A else - dP n A := by
  by_cases hkt : k = t
  ·rw [if_pos hkt, hkt, swapF_self]
  ·rw [if_neg hkt]; exact dP_swap hn (by omega) hk A
 rw [e3] at e2
 exact e1.trans e2
theorem Piv.rowS {p : Int} {n : Nat} {M N : Mat} {t k j : Nat} {inv : Int} (P : Piv p n M N t k j inv) (Y : Mat) : RowS p n (mulZ n M Y) (mulZ n N Y) t k inv (fun a => p - swapF M t k a j) := by
 constructor
 ·intro b _
  unfold mulZ
  rw [← sm_mulL]
  refine eqm_sm fun i _ => ?_
  rw [P.nt i]
  refine (eqm.mul (eqm_mod p _) (eqm.refl p (Y i b))).trans ?_
  exact ⟨0, by grind⟩
 ·intro a ha hat b _
  have e : swapF (mulZ n M Y) t k a b = sm n (fun i => swapF M t k a i * Y i b) := by
   unfold swapF mulZ
   split
   ·rfl
   ·split <;> rfl
  rw [e]
  unfold mulZ
  rw [← sm_mulL, ← sm_addF]
  refine eqm_sm fun i _ => ?_
  rw [P.na a ha hat i]
  refine (eqm.mul (eqm_mod p _) (eqm.refl p (Y i b))).trans ?_
  exact ⟨0, by grind⟩
theorem redD_eq {p : Int} {M : Mat} {t j k : Nat} {d : Int} (ht : t ≤ k) : eqm p (redD p M t j k d) ((if k = t then d else -d) * M k j) := by
 unfold redD
 rw [show swapF M t k t j = M k j from if_pos rfl]
 refine (eqm_mod p _).trans (eqm.mul ?_ (eqm.refl p _))
 by_cases h : k = t
 ·rw [if_pos h, if_pos h]; exact eqm.refl _ _
 ·rw [if_neg h, if_neg h]; exact (eqm_mod p _).trans ⟨1, by omega⟩
theorem det_inv {p : Int} {n : Nat} {X : Mat} (hpr : isPrimeI p = true) (hX : inM p n n X) (hn : n ≤ 4) (Y : Mat) : ∀ j, j ≤ n → eqm p (dP n (mulZ n X Y)) ((redN p n X j).2.2 * dP n (mulZ n (redN p n X j).1 Y))
 | 0, _ => by
  show eqm p _ (1 * dP n (mulZ n X Y))
  rw [Int.one_mul]; exact eqm.refl _ _
 | j + 1, hj => by
  have ih := det_inv hpr hX hn Y j (by omega)
  show eqm p _ ((redS p n (redN p n X j) j).2.2 * dP n (mulZ n (redS p n (redN p n X j) j).1 Y))
  rcases redS_cases hpr (redN_I (isPrimeI_t hpr) hX j) (show j < n by omega) with ⟨e, _⟩ | ⟨k, N, inv, e, P, hl⟩
  ·rw [e]; exact ih
  ·rw [e]
   dsimp only
   refine ih.trans ?_
   have h1 := (P.rowS Y).det hn P.tk P.kr
   have h2 := redD_eq (p := p) (M := (redN p n X j).1) (j := j) (d := (redN p n X j).2.2) P.tk
   refine eqm.symm ((eqm.mul h2 h1).trans ?_)
   have h3 : eqm p ((redN p n X j).1 k j * inv) 1 := (eqm_mod p _).symm.trans (by rw [P.one]; exact eqm.refl _ _)
   obtain ⟨q, hq⟩ := h3
   generalize (redN p n X j).1 k j = u at hq
   generalize (redN p n X j).2.2 = d
   generalize dP n (mulZ n (redN p n X j).1 Y) = D
   by_cases hkt : k = (redN p n X j).2.1.length
   ·rw [if_pos hkt, if_pos hkt]
    exact ⟨d * D * q, by grind⟩
   ·rw [if_neg hkt, if_neg hkt]
    exact ⟨d * D * q, by grind⟩
theorem full_one {p : Int} {n c : Nat} {s : Mat × List Int × Int} {j : Nat} (R : RF n s j) (hl : s.2.1.length = n) (hjn : ∀ i, i < n → pv s.2.1 i = i) : ∀ a, a < n → ∀ b, b < n → s.1 a b = if a = b then 1 else 0 := by
 intro a ha b hb
 have h1 := hjn b hb
 by_cases hab : a = b
 ·rw [if_pos hab, hab]
  have := R.one b (by omega)
  rw [h1] at this
  exact this
 ·rw [if_neg hab]
  have := R.col b (by omega) a ha hab
  rw [h1] at this
  exact this
theorem pv_ge {n : Nat} {s : Mat × List Int × Int} {j : Nat} (R : RF n s j) : ∀ i, i < s.2.1.length → i ≤ pv s.2.1 i
 | 0, _ => Nat.zero_le _
 | i + 1, hi => by
  have := pv_ge R i (by omega)
  have := R.mono i (i + 1) (by omega) hi
  omega
theorem pv_full {n : Nat} {s : Mat × List Int × Int} (R : RF n s n) (hl : s.2.1.length = n) : ∀ i, i < n → pv s.2.1 i = i := by
 have key : ∀ d i, i + d + 1 = n → pv s.2.1 i ≤ i := by
  intro d
  induction d with
  | zero => intro i hi; have := R.lt i (by omega); omega
  | succ d ih =>
   intro i hi
   have := ih (i + 1) (by omega)
   have := R.mono i (i + 1) (by omega) (by omega)
   omega
 intro i hi
 have := key (n - i - 1) i (by omega)
 have := pv_ge R i (by omega)
 omega
theorem mulZ_one {n : Nat} {X Y : Mat} (h : ∀ a, a < n → ∀ b, b < n → X a b = if a = b then 1 else 0) {a b : Nat} (ha : a < n) : mulZ n X Y a b = Y a b := by
 unfold mulZ
 rw [sm_at (a := a) n ha fun i hi hne => by rw [h a ha i hi, if_neg (Ne.symm hne), Int.zero_mul]]
 rw [h a ha a ha, if_pos rfl, Int.one_mul]
theorem mulZ_oneR {n : Nat} {X Y : Mat} (h : ∀ a, a < n → ∀ b, b < n → Y a b = if a = b then 1 else 0) {a b : Nat} (hb : b < n) : mulZ n X Y a b = X a b := by
 unfold mulZ
 rw [sm_at (a := b) n hb fun i hi hne => by rw [h i hi b hb, if_neg hne, Int.mul_zero]]
 rw [h b hb b hb, if_pos rfl, Int.mul_one]
theorem det_mul {p : Int} {n : Nat} {X : Mat} (hpr : isPrimeI p = true) (hX : inM p n n X) (hn : n ≤ 4) (Y : Mat) : eqm p (dP n (mulZ n X Y)) (detR p n X * dP n Y) := by
 have hp : pOk p := isPrimeI_t hpr
 refine (det_inv hpr hX hn Y n (Nat.le_refl n)).trans ?_
 have R := redN_RF hpr hX n (Nat.le_refl n)
 have I := redN_I hp hX n
 unfold detR
 by_cases hl : (redN p n X n).2.1.length < n
 ·rw [if_pos hl, Int.zero_mul]
  obtain ⟨m, rfl⟩ : ∃ m, n = m + 1 := ⟨n - 1, by omega⟩
  have hz : ∀ b, b < m + 1 → (redN p (m + 1) X (m + 1)).1 m b = 0 := fun b hb => R.zero m (by omega) (by omega) b hb
  rw [dP_zero hn fun b hb => by unfold mulZ; exact sm_zero _ fun i hi => by rw [hz i hi, Int.zero_mul]]
  rw [Int.mul_zero]; exact eqm.refl _ _
 ·rw [if_neg hl]
  have hln : (redN p n X n).2.1.length = n := by have := I.l; omega
  have h1 := full_one (p := p) (c := n) R hln (pv_full R hln)
  refine eqm.mul (eqm.refl _ _) (dP_m fun a ha b _ => ?_)
  rw [mulZ_one h1 ha]; exact eqm.refl _ _
theorem det_dP {p : Int} {n : Nat} {X : Mat} (hpr : isPrimeI p = true) (hX : inM p n n X) (hn : n ≤ 4) : eqm p (dP n X) (detR p n X) := by
 have h := det_mul hpr hX hn (fun a b => if a = b then 1 else 0)
 rw [dP_one hn fun a _ b _ => rfl, Int.mul_one] at h
 refine eqm.trans (dP_m fun a _ b hb => ?_) h
 rw [mulZ_oneR (fun a _ b _ => rfl) hb]; exact eqm.refl _ _
theorem detR_in {p : Int} {n : Nat} {X : Mat} (hpr : isPrimeI p = true) (hX : inM p n n X) : inP p (detR p n X) := by
 have hp : pOk p := isPrimeI_t hpr
 unfold detR
 split
 ·exact ⟨Int.le_refl _, by have := hp.1; omega⟩
 ·exact (redN_I hp hX n).d
theorem redN_d {p : Int} {r c : Nat} {X : Mat} (hpr : isPrimeI p = true) (hX : inM p r c X) : ∀ j, j ≤ c → ¬ eqm p (redN p r X j).2.2 0
 | 0, _ => by
  have hp : pOk p := isPrimeI_t hpr
  have hp1 := hp.1
  intro h
  have := eqm_iff.1 h
  rw [show (redN p r X 0).2.2 = 1 from rfl, Int.zero_emod, Int.emod_eq_of_lt (by decide) (by omega)] at this
  exact absurd this (by decide)
 | j + 1, hj => by
  have ih := redN_d hpr hX j (by omega)
  show ¬ eqm p (redS p r (redN p r X j) j).2.2 0
  rcases redS_cases hpr (redN_I (isPrimeI_t hpr) hX j) (show j < c by omega) with ⟨e, _⟩ | ⟨k, N, inv, e, P, hl⟩
  ·rw [e]; exact ih
  ·rw [e]
   dsimp only
   intro h
   have h2 := redD_eq (p := p) (M := (redN p r X j).1) (j := j) (d := (redN p r X j).2.2) P.tk
   have h3 : eqm p ((redN p r X j).1 k j * inv) 1 := (eqm_mod p _).symm.trans (by rw [P.one]; exact eqm.refl _ _)
   apply ih
   obtain ⟨q1, h1⟩ := h2.symm.trans h
   obtain ⟨q2, h2⟩ := h3
   generalize (redN p r X j).1 k j = u at h1 h2
   generalize (redN p r X j).2.2 = d at h1
   by_cases hkt : k = (redN p r X j).2.1.length
   ·rw [if_pos hkt] at h1
    exact ⟨q1 * inv - d * q2, by grind⟩
   ·rw [if_neg hkt] at h1
    exact ⟨-(q1 * inv) - d * q2, by grind⟩
theorem detR_0 {p : Int} {n : Nat} {X : Mat} (hpr : isPrimeI p = true) (hX : inM p n n X) : detR p n X ≠ 0 ↔ (redN p n X n).2.1.length = n := by
 have hp : pOk p := isPrimeI_t hpr
 have hl := (redN_I hp hX n).l
 unfold detR
 by_cases h : (redN p n X n).2.1.length < n
 ·rw [if_pos h]; constructor
  ·intro h; exact absurd rfl h
  ·intro h; omega
 ·rw [if_neg h]; constructor
  ·intro _; omega
  ·intro _ h0
   exact redN_d hpr hX n (Nat.le_refl n) (by rw [h0]; exact eqm.refl _ _)
theorem Sp_wide {p : Int} {n : Nat} {X : Mat} {x : Nat → Int} (h : Sp p n (2 * n) (wideM n X) x) : Sp p n n X x := by
 obtain ⟨y, hy⟩ := h
 refine ⟨y, fun b hb => ?_⟩
 rw [hy b (by omega)]
 congr 1
 refine sm_congr fun i hi => ?_
 rw [wideM_gen X hi (by omega)]
 unfold wideF
 rw [if_pos hb]
theorem Sp_wide' {p : Int} {n : Nat} {X : Mat} {x : Nat → Int} (h : Sp p n n X x) : ∃ x', Sp p n (2 * n) (wideM n X) x' ∧ ∀ b, b < n → x' b % p = x b % p := by
 obtain ⟨y, hy⟩ := h
 refine ⟨fun b => sm n (fun i => y i * wideM n X i b), ⟨y, fun b _ => rfl⟩, fun b hb => ?_⟩
 rw [hy b hb]
 congr 1
 refine sm_congr fun i hi => ?_
 rw [wideM_gen X hi (by omega)]
 unfold wideF
 rw [if_pos hb]
theorem Lead_congr {p : Int} {x x' : Nat → Int} {j n : Nat} (hj : j < n) (h : ∀ b, b < n → x' b % p = x b % p) (hl : Lead p x j) : Lead p x' j :=
 ⟨fun b hb => by rw [h b (by omega)]; exact hl.1 b hb, by rw [h j hj]; exact hl.2⟩
theorem piv_wide {p : Int} {n : Nat} {X : Mat} (hpr : isPrimeI p = true) (hX : inM p n n X) {j : Nat} (hj : j < n) : isPv (invX p n X).2.1 j = isPv (redN p n X n).2.1 j := by
 have hp : pOk p := isPrimeI_t hpr
 have h1 := piv_iff hpr (wideM_in hp hX) (show j < 2 * n by omega)
 have h2 := piv_iff hpr hX hj
 rw [Bool.eq_iff_iff, isPv_t, isPv_t]
 unfold invX
 rw [← h1, ← h2]
 constructor
 ·rintro ⟨x, hx, hl⟩; exact ⟨x, Sp_wide hx, hl⟩
 ·rintro ⟨x, hx, hl⟩
  obtain ⟨x', hx', he⟩ := Sp_wide' hx
  exact ⟨x', hx', Lead_congr hj he hl⟩
theorem countR_all {P : Nat → Bool} : ∀ n, (List.range n).countP P = n ↔ ∀ i, i < n → P i = true
 | 0 => by simp
 | n + 1 => by
  rw [countR_succ]
  have h := countR_all (P := P) n
  have hle : (List.range n).countP P ≤ n := by have := List.countP_le_length (p := P) (l := List.range n); simpa using this
  constructor
  ·intro hh
   cases hP : P n with
   | false => rw [hP] at hh; simp at hh; omega
   | true =>
    rw [hP] at hh
    simp only [if_true] at hh
    have := h.1 (by omega)
    intro i hi
    by_cases hin : i = n
    ·rw [hin]; exact hP
    ·exact this i (by omega)
  ·intro hh
   rw [hh n (by omega), h.2 fun i hi => hh i (by omega)]
   simp
theorem inv_rank {p : Int} {n : Nat} {X : Mat} (hpr : isPrimeI p = true) (hX : inM p n n X) : invOk p n X ↔ (redN p n X n).2.1.length = n := by
 have hp : pOk p := isPrimeI_t hpr
 have hl := inv_len hpr hX
 have R : RF n (invX p n X) (2 * n) := redN_RF hpr (wideM_in hp hX) (2 * n) (Nat.le_refl _)
 have I : RI p n (2 * n) (invX p n X) (2 * n) := redN_I hp (wideM_in hp hX) (2 * n)
 rw [← count_pv hpr hX n (Nat.le_refl n), countR_all]
 have hP : ∀ i, i < n → (isPv (redN p n X n).2.1 i = true ↔ ∃ i', i' < n ∧ pv (invX p n X).2.1 i' = i) := fun i hi => by
  rw [← piv_wide hpr hX hi, isPv_t, hl]
 constructor
 ·intro h i hi
  refine (hP i hi).2 ⟨i, hi, ?_⟩
  unfold pv
  rw [h i hi, Int.toNat_natCast]
 ·intro h
  have key : ∀ m i, i < m → i < n → pv (invX p n X).2.1 i = i := by
   intro m
   induction m with
   | zero => intro i hi; omega
   | succ m ih =>
    intro i hi hin
    obtain ⟨i', h1, h2⟩ := (hP i hin).1 (h i hin)
    have h3 := pv_ge R i' (by omega)
    by_cases hii : i' = i
    ·rw [hii] at h2; exact h2
    ·have := ih i' (by omega) h1
     omega
  intro i hi
  have h1 := key (i + 1) i (by omega) hi
  have h2 := I.e ((invX p n X).2.1.getD i 0) (by rw [List.getD_eq_getElem?_getD, List.getElem?_eq_getElem (show i < (invX p n X).2.1.length by omega)]; exact List.getElem_mem _)
  unfold pv at h1
  omega
theorem inv_mul {p : Int} {n : Nat} {X : Mat} (hpr : isPrimeI p = true) (hX : inM p n n X) (h : invOk p n X) {a b : Nat} (ha : a < n) (hb : b < n) :
  eqm p (sm n (fun i => (invX p n X).1 a (n + i) * X i b)) (if a = b then 1 else 0) := by
 have hp : pOk p := isPrimeI_t hpr
 have hl := inv_len hpr hX
 have R : RF n (invX p n X) (2 * n) := redN_RF hpr (wideM_in hp hX) (2 * n) (Nat.le_refl _)
 have hpv : ∀ i, i < n → pv (invX p n X).2.1 i = i := fun i hi => by unfold pv; rw [h i hi, Int.toNat_natCast]
 have hone := full_one (p := p) (c := n) R hl hpv
 have hsp : Sp p n (2 * n) (wideM n X) ((invX p n X).1 a) := (redN_span hpr (wideM_in hp hX) _ (2 * n) (Nat.le_refl _)).1 (Sp_row ha)
 obtain ⟨y, hy⟩ := hsp
 have hv : ∀ i, i < n → eqm p ((invX p n X).1 a (n + i)) (y i) := fun i hi => by
  refine eqm_iff.2 ?_
  rw [hy (n + i) (by omega)]
  rw [sm_at (a := i) n hi fun k hk hne => by
   rw [wideM_gen X hk (by omega)]
   unfold wideF dl
   rw [if_neg (by omega), if_neg (by omega), Int.mul_zero]]
  rw [wideM_gen X hi (by omega)]
  unfold wideF dl
  rw [if_neg (by omega), if_pos (by omega), Int.mul_one]
 have e1 : eqm p (sm n (fun i => (invX p n X).1 a (n + i) * X i b)) (sm n (fun i => y i * X i b)) := eqm_sm fun i hi => eqm.mul (hv i hi) (eqm.refl _ _)
 refine e1.trans ?_
 rw [← hone a ha b hb]
 refine eqm_iff.2 ?_
 rw [hy b (by omega)]
 congr 1
 refine sm_congr fun i hi => ?_
 rw [wideM_gen X hi (by omega)]
 unfold wideF
 rw [if_pos hb]
theorem mulF_z (p : Int) (k : Nat) (A B : Mat) (i j : Nat) : eqm p (mulF p k A B i j) (sm k (fun t => A i t * B t j)) := by
 unfold mulF
 rw [dot_sm]
 exact eqm_mod _ _
theorem inv_mulmul {p : Int} {n : Nat} {X Y V Z : Mat} (hpr : isPrimeI p = true) (hX : inM p n n X) (hY : inM p n n Y) (h : invOk p n X) (hV : ∀ a, a < n → ∀ b, b < n → V a b = (invX p n X).1 a (n + b)) (hZ : ∀ a, a < n → ∀ b, b < n → Z a b = mulF p n X Y a b) {a b : Nat} (ha : a < n) (hb : b < n) :
  mulF p n V Z a b = Y a b := by
 have hp : pOk p := isPrimeI_t hpr
 refine eqm_in ?_ (mulF_in hp n n n V Z a ha b hb) (hY a ha b hb)
 refine (mulF_z p n V Z a b).trans ?_
 have e1 : eqm p (sm n (fun t => V a t * Z t b)) (sm n (fun t => V a t * sm n (fun s => X t s * Y s b))) := eqm_sm fun t ht => by
  rw [hZ t ht b hb]
  exact eqm.mul (eqm.refl _ _) (mulF_z p n X Y t b)
 refine e1.trans ?_
 rw [sm_congr (g := fun t => sm n (fun s => V a t * X t s * Y s b)) fun t _ => by rw [← sm_mulL]; exact sm_congr fun s _ => (Int.mul_assoc _ _ _).symm]
 rw [sm_swap]
 have e2 : eqm p (sm n (fun s => sm n (fun t => V a t * X t s * Y s b))) (sm n (fun s => (if a = s then 1 else 0) * Y s b)) := eqm_sm fun s hs => by
  rw [sm_mulR]
  refine eqm.mul ?_ (eqm.refl _ _)
  rw [sm_congr (g := fun i => (invX p n X).1 a (n + i) * X i s) fun t ht => by rw [hV a ha t ht]]
  exact inv_mul hpr hX h ha hs
 refine e2.trans ?_
 rw [sm_at (a := a) n ha fun i _ hne => by rw [if_neg (Ne.symm hne), Int.zero_mul]]
 rw [if_pos rfl, Int.one_mul]
 exact eqm.refl _ _
theorem row_fac {p : Int} {r c : Nat} {M : Mat} (hpr : isPrimeI p = true) (hM : inM p r c M) {i j : Nat} (hi : i < r) (hj : j < c) :
  eqm p (sm (redN p r M c).2.1.length (fun t => M i (pv (redN p r M c).2.1 t) * (redN p r M c).1 t j)) (M i j) := by
 have hp : pOk p := isPrimeI_t hpr
 have R := redN_RF hpr hM c (Nat.le_refl c)
 have I := redN_I hp hM c
 obtain ⟨y, hy⟩ := (redN_span hpr hM (M i) c (Nat.le_refl c)).2 (Sp_row hi)
 generalize redN p r M c = s at R I hy
 have key : ∀ t, t < s.2.1.length → eqm p (M i (pv s.2.1 t)) (y t) := fun t ht => by
  refine eqm_iff.2 ?_
  rw [hy _ (R.lt t ht), sm_at (a := t) r (by have := I.l; omega) fun a ha hne => by rw [R.col t ht a ha hne, Int.mul_zero]]
  rw [R.one t ht, Int.mul_one]
 have e1 : eqm p (sm s.2.1.length (fun t => M i (pv s.2.1 t) * s.1 t j)) (sm s.2.1.length (fun t => y t * s.1 t j)) := eqm_sm fun t ht => eqm.mul (key t ht) (eqm.refl _ _)
 refine e1.trans (eqm_iff.2 ?_)
 rw [hy j hj, sm_cut (m := s.2.1.length) r I.l fun a ha hla => by rw [R.zero a hla ha j hj, Int.mul_zero]]
theorem fac_mul {p : Int} {r c : Nat} {M B C : Mat} (hpr : isPrimeI p = true) (hM : inM p r c M) (hB : ∀ i, i < r → ∀ t, t < (redN p r M c).2.1.length → B i t = M i (pv (redN p r M c).2.1 t))
  (hC : ∀ t, t < (redN p r M c).2.1.length → ∀ j, j < c → C t j = (redN p r M c).1 t j) {i j : Nat} (hi : i < r) (hj : j < c) : mulF p (redN p r M c).2.1.length B C i j = M i j := by
 have hp : pOk p := isPrimeI_t hpr
 have h1 : inP p (mulF p (redN p r M c).2.1.length B C i j) := mulF_in hp r c _ B C i hi j hj
 refine eqm_in ?_ h1 (hM i hi j hj)
 refine (mulF_z p _ B C i j).trans (eqm.trans ?_ (row_fac hpr hM hi hj))
 exact eqm_sm fun t ht => by rw [hB i hi t ht, hC t ht j hj]; exact eqm.refl _ _
theorem turn_le {p : Int} {r c : Nat} {M : Mat} (hpr : isPrimeI p = true) (hM : inM p r c M) : (redN p c (turnF M) r).2.1.length ≤ (redN p r M c).2.1.length := by
 have hp : pOk p := isPrimeI_t hpr
 have R := redN_RF hpr hM c (Nat.le_refl c)
 have hT : inM p c r (turnF M) := fun j hj i hi => hM i hi j hj
 have hB : inM p (redN p r M c).2.1.length r (fun t i => M i (pv (redN p r M c).2.1 t)) := fun t ht i hi => hM i hi _ (R.lt t ht)
 refine Nat.le_trans (rank_le hpr hT hB fun x hx => Sp_le (fun j hj => ?_) hx) (redN_I hp hB r).l
 refine ⟨fun t => (redN p r M c).1 t j, fun i hi => ?_⟩
 show M i j % p = _
 rw [← eqm_iff.1 (row_fac hpr hM hi hj)]
 congr 1
 exact sm_congr fun t _ => Int.mul_comm _ _
theorem turn_rank {p : Int} {r c : Nat} {M : Mat} (hpr : isPrimeI p = true) (hM : inM p r c M) : (redN p c (turnF M) r).2.1.length = (redN p r M c).2.1.length :=
 Nat.le_antisymm (turn_le hpr hM) (turn_le (M := turnF M) hpr (fun j hj i hi => hM i hi j hj))
end Go.Am
end
section
namespace Go.Am
theorem matOk_g {p : Int} {r c : Nat} {M : Mat} (hpr : isPrimeI p = true) (hr : r ≤ 64) (hc : c ≤ 64) (hM : inM p r c M) : matOk p ((r : Int), (c : Int), genD r c M) = true := by
 simp only [matOk, Bool.and_eq_true, decide_eq_true_eq]
 exact ⟨hpr, ⟨by omega, by omega⟩, ⟨by omega, by omega⟩, by rw [genD_len]; push_cast; rfl, rowOk_P.2 (allP_gen.2 hM)⟩
theorem sz_g {r c : Nat} {M : Mat} (hr : r ≤ 64) (hc : c ≤ 64) : sz_Matrix ((r : Int), (c : Int), genD r c M) ≤ 1048576 := by
 show (genD r c M).length ≤ _
 rw [genD_len]
 have := Nat.mul_le_mul hr hc
 omega
theorem rank_g0 {p : Int} {r c : Nat} {M : Mat} (hpr : isPrimeI p = true) (hr : r ≤ 64) (hc : c ≤ 64) (hM : inM p r c M) (e : M = ofD c (genD r c M)) :
  F_impl_RankMatrix (p, (r : Int), (c : Int), genD r c M) = some ((redN p r M c).2.1.length : Int) := by
 simp only [F_impl_RankMatrix, F_spec_RankMatrix]
 rw [if_pos (sz_g hr hc), if_pos (matOk_g hpr hr hc hM), redX_nat e]
theorem rank_ag {p : Int} {r c : Nat} {A B : Mat} (hpr : isPrimeI p = true) (hA : inM p r c A) (hB : inM p r c B) (h : ∀ a, a < r → ∀ b, b < c → A a b = B a b) : (redN p r A c).2.1.length = (redN p r B c).2.1.length := by
 apply Nat.le_antisymm
 ·exact rank_le hpr hA hB fun x hx => Sp_le (fun i hi => Sp_congr (Sp_row hi) fun b hb => by rw [h i hi b hb]) hx
 ·exact rank_le hpr hB hA fun x hx => Sp_le (fun i hi => Sp_congr (Sp_row hi) fun b hb => by rw [h i hi b hb]) hx
theorem gen_ag {r c : Nat} (M : Mat) : ∀ a, a < r → ∀ b, b < c → ofD c (genD r c M) a b = M a b := fun a ha b hb => ofD_gen M ha hb
theorem gen_in {p : Int} {r c : Nat} {M : Mat} (hM : inM p r c M) : inM p r c (ofD c (genD r c M)) := fun a ha b hb => by rw [gen_ag M a ha b hb]; exact hM a ha b hb
theorem gen_gen (r c : Nat) (M : Mat) : genD r c (ofD c (genD r c M)) = genD r c M := genD_of (genD_len _ _ _)
theorem rank_g {p : Int} {r c : Nat} {M : Mat} (hpr : isPrimeI p = true) (hr : r ≤ 64) (hc : c ≤ 64) (hM : inM p r c M) :
  F_impl_RankMatrix (p, (r : Int), (c : Int), genD r c M) = some ((redN p r M c).2.1.length : Int) := by
 have h := rank_g0 (M := ofD c (genD r c M)) hpr hr hc (gen_in hM) (by rw [gen_gen])
 rw [gen_gen] at h
 rw [h, rank_ag hpr (gen_in hM) hM (gen_ag M)]
theorem mul_g {p : Int} {r k c : Nat} {A B : Mat} (hpr : isPrimeI p = true) (hr : r ≤ 64) (hk : k ≤ 64) (hc : c ≤ 64) (hA : inM p r k A) (hB : inM p k c B) :
  F_impl_MulMatrix (p, ((r : Int), (k : Int), genD r k A), ((k : Int), (c : Int), genD k c B)) = some (((r : Int), (c : Int), genD r c (mulF p k A B)), true) := by
 simp only [F_impl_MulMatrix, F_spec_MulMatrix, Int.toNat_natCast]
 rw [if_pos ⟨sz_g hr hk, sz_g hk hc⟩, if_pos ⟨matOk_g hpr hr hk hA, matOk_g hpr hk hc hB, trivial⟩]
 rw [genD_congr fun i hi j hj => mulF_congr (fun t ht => gen_ag A i hi t ht) (fun t ht => gen_ag B t ht j hj)]
theorem turn_g {p : Int} {r c : Nat} {M : Mat} (hpr : isPrimeI p = true) (hr : r ≤ 64) (hc : c ≤ 64) (hM : inM p r c M) : F_impl_TransposeMatrix (p, (r : Int), (c : Int), genD r c M) = some ((c : Int), (r : Int), genD c r (turnF M)) := by
 simp only [F_impl_TransposeMatrix, F_spec_TransposeMatrix, Int.toNat_natCast]
 rw [if_pos (sz_g hr hc), if_pos (matOk_g hpr hr hc hM)]
 rw [show genD c r (turnF (ofD c (genD r c M))) = genD c r (turnF M) from genD_congr fun i hi j hj => gen_ag M j hj i hi]
theorem det_ag {p : Int} {n : Nat} {A B : Mat} (hpr : isPrimeI p = true) (hn : n ≤ 4) (hA : inM p n n A) (hB : inM p n n B) (h : ∀ a, a < n → ∀ b, b < n → A a b = B a b) : detR p n A = detR p n B :=
 eqm_in ((det_dP hpr hA hn).symm.trans ((dP_m fun a ha b hb => by rw [h a ha b hb]; exact eqm.refl _ _).trans (det_dP hpr hB hn))) (detR_in hpr hA) (detR_in hpr hB)
theorem det_g {p : Int} {n : Nat} {M : Mat} (hpr : isPrimeI p = true) (hn : n ≤ 4) (hM : inM p n n M) : F_impl_Determinant (p, (n : Int), (n : Int), genD n n M) = some (detR p n M, true) := by
 simp only [F_impl_Determinant, F_spec_Determinant, Int.toNat_natCast]
 rw [if_pos (sz_g (by omega) (by omega)), if_pos ⟨matOk_g hpr (by omega) (by omega) hM, trivial⟩]
 rw [det_ag hpr hn (gen_in hM) hM (gen_ag M)]
theorem det_mulF {p : Int} {n : Nat} {X Y : Mat} (hpr : isPrimeI p = true) (hn : n ≤ 4) (hX : inM p n n X) (hY : inM p n n Y) : detR p n (mulF p n X Y) = detR p n X * detR p n Y % p := by
 have hp : pOk p := isPrimeI_t hpr
 have hZ : inM p n n (mulF p n X Y) := mulF_in hp n n n X Y
 refine eqm_in ?_ (detR_in hpr hZ) (emod_in hp _)
 refine (det_dP hpr hZ hn).symm.trans (eqm.trans (dP_m fun a _ b _ => mulF_z p n X Y a b) ?_)
 refine (det_mul hpr hX hn Y).trans (eqm.trans ?_ (eqm_mod p _).symm)
 exact eqm.mul (eqm.refl _ _) (det_dP hpr hY hn)
theorem take_gen {r k c : Nat} (hk : k ≤ r) (M : Mat) : (genD r c M).take (k * c) = genD k c M := by
 unfold genD
 rw [← List.map_take, List.take_range, Nat.min_eq_left (Nat.mul_le_mul_right c hk)]
theorem fac_g {p : Int} {r c : Nat} {M : Mat} (hpr : isPrimeI p = true) (hr : r ≤ 64) (hc : c ≤ 64) (hM : inM p r c M) (e : M = ofD c (genD r c M)) :
  F_impl_FactorMatrix (p, (r : Int), (c : Int), genD r c M) = some (((r : Int), ((redN p r M c).2.1.length : Int), genD r (redN p r M c).2.1.length (pickF M (redN p r M c).2.1)), (((redN p r M c).2.1.length : Int), (c : Int), genD (redN p r M c).2.1.length c (redN p r M c).1), true) := by
 simp only [F_impl_FactorMatrix, F_spec_FactorMatrix]
 rw [if_pos (sz_g hr hc), if_pos (matOk_g hpr hr hc hM), facX_nat e, take_gen (redN_I (isPrimeI_t hpr) hM c).l]
theorem inv_g {p : Int} {n : Nat} {X : Mat} (hpr : isPrimeI p = true) (hn : n ≤ 64) (hX : inM p n n X) (e : X = ofD n (genD n n X)) : F_impl_InverseMatrix (p, (n : Int), (n : Int), genD n n X) = some (invR p n X) := by
 simp only [F_impl_InverseMatrix, F_spec_InverseMatrix, Int.toNat_natCast]
 rw [if_pos (sz_g hn hn), if_pos ⟨matOk_g hpr hn hn hX, trivial⟩, ← e]
end Go.Am
end
