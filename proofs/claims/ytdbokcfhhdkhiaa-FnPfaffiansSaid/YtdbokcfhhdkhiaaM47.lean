/- M21, M46, M47: parts of the proof. No condition. -/
import Derived.Test.YtdbokcfhhdkhiaaM45
set_option linter.unusedVariables false
set_option linter.unusedSimpArgs false
section
namespace Go.Am
def pivC (A : Mat) (n k : Nat) : Option Nat := pivF (turnF A) k (n - (k + 1)) (k + 1)
def swA (A : Mat) (k i : Nat) : Mat := if i = k + 1 then A else swB A (k + 1) i
def pfOut (p out : Int) (A : Mat) (k i : Nat) : Int := (if i = k + 1 then out else (p - out) % p) * swA A k i k (k + 1) % p
def pfInv (p : Int) (A : Mat) (k i : Nat) : Int := invG p 1 (swA A k i k (k + 1)) (p - 2).toNat
def pfS (p : Int) (n : Nat) (A0 : Mat) : Nat → Option (Mat × Int)
 | 0 => some (A0, 1)
 | j + 1 => match pfS p n A0 j with
  | none => none
  | some s => match pivC s.1 n (2 * j) with
   | none => none
   | some i => some (elS p (swA s.1 (2 * j) i) (2 * j) (pfInv p s.1 (2 * j) i) (n - (2 * j + 2)), pfOut p s.2 s.1 (2 * j) i)
def pfI (p : Int) (n : Nat) (A0 : Mat) : Nat → Option (Mat × Int)
 | 0 => some (A0, 1)
 | j + 1 => match pfI p n A0 j with
  | none => none
  | some s => match pivC s.1 n (2 * j) with
   | none => none
   | some i => some (elI p (swA s.1 (2 * j) i) (2 * j) (pfInv p s.1 (2 * j) i), pfOut p s.2 s.1 (2 * j) i)
def pfV (o : Option (Mat × Int)) : Int := match o with
 | some s => s.2
 | none => 0
def pfR (p : Int) (n : Nat) (M : Mat) : Int × Bool := if altOk p n M = true then (if n % 2 = 1 then 0 else pfV (pfS p n M (n / 2)), true) else (0, false)
def F_spec_Pfaffian : Int × Int × Int × List Int → Option (Int × Bool) := fun (x : Int × Int × Int × List Int) =>
 if sz_Matrix x.2 ≤ 1048576 then some (if matOk x.1 x.2 = true ∧ x.2.1 = x.2.2.1 then pfR x.1 x.2.1.toNat (ofD x.2.2.1.toNat x.2.2.2) else (0, false)) else none
def F_impl_Pfaffian : Int × Int × Int × List Int → Option (Int × Bool) := F_spec_Pfaffian
def ag_impl_Pfaffian : Sig := [(.one, [.int .i64]), (.agg, [.int .i64, .int .i64, .list [.int .i64]])]
def rs_impl_Pfaffian : Sig := [(.one, [.int .i64]), (.one, [.bool])]
def mu_impl_Pfaffian : MSig := []
def G_impl_Pfaffian (NN : Nat) : (Int × (Int × (Int × (List Int)))) → (Option (Int × Bool)) :=
 (fun ((i0, i1, i2, l3) : (Int × (Int × (Int × (List Int))))) =>
 (F_impl_MatrixOk (i0, i1, i2, l3)).bnd (fun b4 =>
 cnd (notB b4)
 (some ((0 : Int), false))
 (cnd (neI i1 i2)
 (some ((0 : Int), false))
 ((F_impl_alternating (i0, i1, i2, l3)).bnd (fun b5 =>
 cnd (notB b5)
 (some ((0 : Int), false))
 ((remI i1 (2 : Int)).bnd (fun i6 =>
 cnd (eqI i6 (1 : Int))
 (some ((0 : Int), true))
 ((F_impl_copyMatrix (i1, i2, l3)).bnd (fun (i7, i8, l9) =>
 joinK ((fulI 0 (lenN l9) (lenN l9)).bnd (fun _ =>
 loopT NN (fun (((i10, i11, i12), (i13, i14), l15) : ((Int × (Int × Int)) × ((Int × Int) × (List Int)))) =>
 cnd (ltI i12 i13)
 (joinK (joinK ((fulI 0 (lenN l15) (lenN l15)).bnd (fun _ =>
 loopT NN (fun (((i16, i17, i18, i19), (i20, i21), l22) : ((Int × (Int × (Int × Int))) × ((Int × Int) × (List Int)))) =>
 cnd (ltI i19 i20)
 ((winI l22 0 (lenN l22)).bnd (fun l23 =>
 (F_impl_Matrix_at ((i20, i21, l23), i18, i19)).bnd (fun i24 =>
 cnd (eqI i24 (0 : Int))
 ((fulI 0 (lenN l22) (lenN l22)).bnd (fun _ =>
 some (Sum.inl ((i16, i17, i18, addI .i64 i19 1), (i20, i21), l22))))
 (((fulI 0 (lenN l22) (lenN l22)).bnd (fun _ =>
 some (Sum.inl ((i19, i17, i16, i18), (i20, i21), l22)))).bnd (fun l25 =>
 some (Sum.inr l25))))))
 (((fulI 0 (lenN l22) (lenN l22)).bnd (fun _ =>
 some (Sum.inl ((i19, i17, i16, i18), (i20, i21), l22)))).bnd (fun l26 =>
 some (Sum.inr l26))))
 ((i10, i11, i12, addI .i64 i12 1), (i13, i14), l15)))
 (fun ((i27, i28, i29, i30), (i31, i32), l33) =>
 cnd (eqI i27 i31)
 (some (Sum.inr (Sum.inr (Sum.inr ((0 : Int), true)))))
 (joinK (cnd (neI i27 (addI .i64 i30 1))
 ((fulI 0 (lenN l33) (lenN l33)).bnd (fun _ =>
 (F_impl_Matrix_swapRows ((i31, i32, l33), addI .i64 i30 1, i27)).bnd (fun l34 =>
 (winI l34 0 (lenN l33)).bnd (fun l35 =>
 (F_impl_rawTranspose (i31, i32, l35)).bnd (fun (i36, i37, l38) =>
 (fulI 0 (lenN l38) (lenN l38)).bnd (fun _ =>
 (F_impl_Matrix_swapRows ((i36, i37, l38), addI .i64 i30 1, i27)).bnd (fun l39 =>
 (winI l39 0 (lenN l38)).bnd (fun l40 =>
 (F_impl_rawTranspose (i36, i37, l40)).bnd (fun (i41, i42, l43) =>
 (remI (subI .i64 i29 i28) i29).bnd (fun i44 =>
 (fulI 0 (lenN l43) (lenN l43)).bnd (fun _ =>
 some (Sum.inl ((i44, i29, i30), (i41, i42), l43)))))))))))))
 ((fulI 0 (lenN l33) (lenN l33)).bnd (fun _ =>
 some (Sum.inl ((i28, i29, i30), (i31, i32), l33)))))
 (fun ((i45, i46, i47), (i48, i49), l50) =>
 (winI l50 0 (lenN l50)).bnd (fun l51 =>
 (F_impl_Matrix_at ((i48, i49, l51), i47, addI .i64 i47 1)).bnd (fun i52 =>
 (remI (mulI .i64 i45 i52) i46).bnd (fun i53 =>
 (winI l50 0 (lenN l50)).bnd (fun l54 =>
 (F_impl_Matrix_at ((i48, i49, l54), i47, addI .i64 i47 1)).bnd (fun i55 =>
 (F_impl_rawInverse (i46, i55)).bnd (fun i56 =>
 (fulI 0 (lenN l50) (lenN l50)).bnd (fun _ =>
 loopT NN (fun (((i57, i58, i59, i60, i61), (i62, i63), l64) : ((Int × (Int × (Int × (Int × Int)))) × ((Int × Int) × (List Int)))) =>
 cnd (ltI i61 i62)
 (joinK ((fulI 0 (lenN l64) (lenN l64)).bnd (fun _ =>
 loopT NN (fun (((i65, i66, i67, i68, i69, i70), (i71, i72), l73) : ((Int × (Int × (Int × (Int × (Int × Int))))) × ((Int × Int) × (List Int)))) =>
 cnd (ltI i70 i71)
 ((winI l73 0 (lenN l73)).bnd (fun l74 =>
 (F_impl_Matrix_at ((i71, i72, l74), addI .i64 i67 1, i69)).bnd (fun i75 =>
 (winI l73 0 (lenN l73)).bnd (fun l76 =>
 (F_impl_Matrix_at ((i71, i72, l76), i67, i70)).bnd (fun i77 =>
 (winI l73 0 (lenN l73)).bnd (fun l78 =>
 (F_impl_Matrix_at ((i71, i72, l78), i67, i69)).bnd (fun i79 =>
 (winI l73 0 (lenN l73)).bnd (fun l80 =>
 (F_impl_Matrix_at ((i71, i72, l80), addI .i64 i67 1, i70)).bnd (fun i81 =>
 (remI (addI .i64 (mulI .i64 i75 i77) (mulI .i64 (subI .i64 i65 i79) i81)) i65).bnd (fun i82 =>
 (winI l73 0 (lenN l73)).bnd (fun l83 =>
 (F_impl_Matrix_at ((i71, i72, l83), i69, i70)).bnd (fun i84 =>
 (remI (addI .i64 i84 (mulI .i64 i82 i68)) i65).bnd (fun i85 =>
 (fulI 0 (lenN l73) (lenN l73)).bnd (fun _ =>
 (F_impl_Matrix_set ((i71, i72, l73), i69, i70, i85)).bnd (fun l86 =>
 (fulI 0 (lenN l73) (lenN l86)).bnd (fun _ =>
 some (Sum.inl ((i65, i66, i67, i68, i69, addI .i64 i70 1), (i71, i72), l86))))))))))))))))))
 (((fulI 0 (lenN l73) (lenN l73)).bnd (fun _ =>
 some (Sum.inl ((i69, i65, i66, i67, i68), (i71, i72), l73)))).bnd (fun l87 =>
 some (Sum.inr l87))))
 ((i57, i58, i59, i60, i61, addI .i64 i59 2), (i62, i63), l64)))
 (fun ((i88, i89, i90, i91, i92), (i93, i94), l95) =>
 (fulI 0 (lenN l95) (lenN l95)).bnd (fun _ =>
 some (Sum.inl ((i89, i90, i91, i92, addI .i64 i88 1), (i93, i94), l95)))))
 (((fulI 0 (lenN l64) (lenN l64)).bnd (fun _ =>
 some (Sum.inl ((i59, i57, i58), (i62, i63), l64)))).bnd (fun l96 =>
 some (Sum.inr l96))))
 ((i46, i53, i47, i56, addI .i64 i47 2), (i48, i49), l50))))))))))))
 (fun ((i97, i98, i99), (i100, i101), l102) =>
 (fulI 0 (lenN l102) (lenN l102)).bnd (fun _ =>
 some (Sum.inl ((i98, i99, addI .i64 i97 2), (i100, i101), l102)))))
 (some (Sum.inr (Sum.inl i11))))
 ((i0, (1 : Int), (0 : Int)), (i7, i8), l9)))
 (fun i103 =>
 some (i103, true)))))))))))


theorem remNN' {a b : Nat} (hb : 0 < b) : remI (a : Int) (b : Int) = some ((a % b : Nat) : Int) := by
 rw [remN (by omega) (by omega)]; rfl
theorem altOk_B {p : Int} {n : Nat} {M : Mat} (hM : inM p n n M) (h : altOk p n M = true) : AltB p n 0 M := by
 have h := of_decide_eq_true h
 have key : ∀ i j, i < n → j ≤ i → eqm p (M i j + M j i) 0 := fun i j hi hj => by
  have := (h i hi j (by omega)).1
  exact (eqm_mod p _).symm.trans (by rw [this]; exact eqm.refl _ _)
 refine ⟨fun i _ hi => (h i hi i (by omega)).2 rfl, fun i j _ hi _ hj => ?_⟩
 rcases Nat.le_total j i with h1 | h1
 ·exact key i j hi h1
 ·rw [Int.add_comm]; exact key j i hj h1
theorem pivC_some {A : Mat} {n k i : Nat} (h : pivC A n k = some i) (hk : k < n) : k + 1 ≤ i ∧ i < n ∧ A k i ≠ 0 := by
 have := pivF_lt h
 exact ⟨this.1, by omega, this.2.2⟩
theorem pivC_eq {A C : Mat} {n k : Nat} (h : EqB n k A C) (hk : k < n) : pivC A n k = pivC C n k :=
 pivF_congr (n - (k + 1)) (k + 1) fun i h1 h2 => h k i (Nat.le_refl k) hk (by omega) (by omega)
theorem swA_in {p : Int} {A : Mat} {n k i : Nat} (h1 : k + 1 ≤ i) (h2 : i < n) (h : inM p n n A) : inM p n n (swA A k i) := by
 unfold swA
 split
 ·exact h
 ·exact swB_in (by omega) h2 h
theorem swA_eq {A C : Mat} {n k i : Nat} (h1 : k + 1 ≤ i) (h2 : i < n) (h : EqB n k A C) : EqB n k (swA A k i) (swA C k i) := by
 unfold swA
 split
 ·exact h
 ·exact swB_eq ⟨by omega, by omega⟩ ⟨by omega, h2⟩ h
theorem swA_alt {p : Int} {A : Mat} {n k i : Nat} (h1 : k + 1 ≤ i) (h2 : i < n) (h : AltB p n k A) : AltB p n k (swA A k i) := by
 unfold swA
 split
 ·exact h
 ·exact swB_alt ⟨by omega, by omega⟩ ⟨by omega, h2⟩ h
def PfRel (p : Int) (n : Nat) (A0 : Mat) (j : Nat) : Prop :=
 (pfS p n A0 j = none ∧ pfI p n A0 j = none) ∨ ∃ A C out, pfS p n A0 j = some (A, out) ∧ pfI p n A0 j = some (C, out) ∧ inM p n n A ∧ inM p n n C ∧ EqB n (2 * j) A C ∧ AltB p n (2 * j) A ∧ inP p out
theorem pf_rel {p : Int} {n : Nat} {A0 : Mat} (hp : pOk p) (h0 : inM p n n A0) (hA : AltB p n 0 A0) : ∀ j, 2 * j ≤ n → n % 2 = 0 → PfRel p n A0 j
 | 0, _, _ => .inr ⟨A0, A0, 1, rfl, rfl, h0, h0, fun _ _ _ _ _ _ => rfl, hA, one_in hp⟩
 | j + 1, hj, hn => by
  rcases pf_rel hp h0 hA j (by omega) hn with ⟨h1, h2⟩ | ⟨A, C, out, h1, h2, iA, iC, hE, hAl, ho⟩
  ·exact .inl ⟨by simp only [pfS, h1], by simp only [pfI, h2]⟩
  ·have hk : 2 * j < n := by omega
   have hpv := pivC_eq hE hk
   cases hc : pivC A n (2 * j) with
   | none => exact .inl ⟨by simp only [pfS, h1, hc], by simp only [pfI, h2, ← hpv, hc]⟩
   | some i =>
    obtain ⟨i1, i2, i3⟩ := pivC_some hc hk
    have jA := swA_in i1 i2 iA
    have jC := swA_in i1 i2 iC
    have jE := swA_eq i1 i2 hE
    have jL := swA_alt i1 i2 hAl
    have ex : swA C (2 * j) i (2 * j) (2 * j + 1) = swA A (2 * j) i (2 * j) (2 * j + 1) := (jE _ _ (Nat.le_refl _) hk (by omega) (by omega)).symm
    have eo : pfOut p out C (2 * j) i = pfOut p out A (2 * j) i := by unfold pfOut; rw [ex]
    have ei : pfInv p C (2 * j) i = pfInv p A (2 * j) i := by unfold pfInv; rw [ex]
    obtain ⟨g1, g2⟩ := el_agree (inv := pfInv p A (2 * j) i) hp jA jC (by omega) jE (jL.1 _ (by omega) (by omega)) jL
    refine .inr ⟨_, _, pfOut p out A (2 * j) i, by simp only [pfS, h1, hc], by simp only [pfI, h2, ← hpv, hc, eo, ei], elS_in hp jA _, elI_in hp jC, g1, g2, emod_in hp _⟩
theorem pf_val {p : Int} {n : Nat} {A0 : Mat} (hp : pOk p) (h0 : inM p n n A0) (hA : AltB p n 0 A0) (hn : n % 2 = 0) : pfV (pfI p n A0 (n / 2)) = pfV (pfS p n A0 (n / 2)) := by
 rcases pf_rel hp h0 hA (n / 2) (by omega) hn with ⟨h1, h2⟩ | ⟨A, C, out, h1, h2, _⟩
 ·rw [h1, h2]
 ·rw [h1, h2]; rfl
theorem pfS_none {p : Int} {n : Nat} {A0 : Mat} {j : Nat} (h : pfS p n A0 j = none) : ∀ d, pfS p n A0 (j + d) = none
 | 0 => h
 | d + 1 => by
  show (match pfS p n A0 (j + d) with | none => none | some s => _) = none
  rw [pfS_none h d]
theorem pfI_none {p : Int} {n : Nat} {A0 : Mat} {j : Nat} (h : pfI p n A0 j = none) : ∀ d, pfI p n A0 (j + d) = none
 | 0 => h
 | d + 1 => by
  show (match pfI p n A0 (j + d) with | none => none | some s => _) = none
  rw [pfI_none h d]
theorem joinK_cnd {X Y : Type} {b : Bool} {u v : Option (X ⊕ Y)} {f : X → Option Y} {s : X} (h1 : b = true → u = some (.inl s)) (h2 : b = false → v = some (.inl s)) : joinK (cnd b u v) f = f s := by
 cases b
 ·rw [cnd_false, h2 rfl, joinK_l]
 ·rw [cnd_true, h1 rfl, joinK_l]
theorem pfI_in {p : Int} {n : Nat} {A0 : Mat} (hp : pOk p) (h0 : inM p n n A0) : ∀ j s, 2 * j ≤ n → pfI p n A0 j = some s → inM p n n s.1 ∧ inP p s.2
 | 0, s, _, h => by injection h with h; subst h; exact ⟨h0, one_in hp⟩
 | j + 1, s, hj, h => by
  simp only [pfI] at h
  split at h
  ·cases h
  ·rename_i s0 e
   have i0 := pfI_in hp h0 j s0 (by omega) e
   split at h
   ·cases h
   ·rename_i i hc
    injection h with h
    subst h
    obtain ⟨i1, i2, _⟩ := pivC_some hc (by omega)
    exact ⟨elI_in hp (swA_in i1 i2 i0.1), emod_in hp _⟩
theorem pfS_in {p : Int} {n : Nat} {A0 : Mat} (hp : pOk p) (h0 : inM p n n A0) : ∀ j s, 2 * j ≤ n → pfS p n A0 j = some s → inM p n n s.1 ∧ inP p s.2
 | 0, s, _, h => by injection h with h; subst h; exact ⟨h0, one_in hp⟩
 | j + 1, s, hj, h => by
  simp only [pfS] at h
  split at h
  ·cases h
  ·rename_i s0 e
   have i0 := pfS_in hp h0 j s0 (by omega) e
   split at h
   ·cases h
   ·rename_i i hc
    injection h with h
    subst h
    obtain ⟨i1, i2, _⟩ := pivC_some hc (by omega)
    exact ⟨elS_in hp (swA_in i1 i2 i0.1) _, emod_in hp _⟩
def elT (p : Int) (A : Mat) (s : Nat) (inv : Int) (i j : Nat) : Mat := fun a b =>
 if s + 2 ≤ a ∧ s + 2 ≤ b ∧ (a < i ∨ a = i ∧ b < j) then (A a b + (A (s + 1) a * A s b + (p - A s a) * A (s + 1) b) % p * inv) % p else A a b
theorem elT_0 (p : Int) (A : Mat) (s : Nat) (inv : Int) : elT p A s inv (s + 2) (s + 2) = A := by
 funext a b; exact if_neg (by omega)
theorem elT_step {r c : Nat} {p : Int} {A : Mat} {s : Nat} {inv : Int} {i j : Nat} (hi : s + 2 ≤ i) (hj : s + 2 ≤ j) :
  genD r c (updM (elT p A s inv i j) i j ((A i j + (A (s + 1) i * A s j + (p - A s i) * A (s + 1) j) % p * inv) % p)) = genD r c (elT p A s inv i (j + 1)) := by
 refine genD_congr fun a ha b hb => ?_
 unfold updM elT
 by_cases h : a = i ∧ b = j
 ·obtain ⟨rfl, rfl⟩ := h
  rw [if_pos ⟨rfl, rfl⟩, if_pos (by omega)]
 ·rw [if_neg h]
  by_cases h1 : s + 2 ≤ a ∧ s + 2 ≤ b ∧ (a < i ∨ a = i ∧ b < j)
  ·rw [if_pos h1, if_pos (by omega)]
  ·rw [if_neg h1, if_neg (by omega)]
theorem elT_row {r n : Nat} {p : Int} {A : Mat} {s : Nat} {inv : Int} {i : Nat} : genD r n (elT p A s inv i n) = genD r n (elT p A s inv (i + 1) (s + 2)) := by
 refine genD_congr fun a ha b hb => ?_
 unfold elT
 by_cases h1 : s + 2 ≤ a ∧ s + 2 ≤ b ∧ (a < i ∨ a = i ∧ b < n)
 ·rw [if_pos h1, if_pos (by omega)]
 ·rw [if_neg h1, if_neg (by omega)]
theorem elT_end {n c : Nat} {p : Int} {A : Mat} {s : Nat} {inv : Int} : genD n c (elT p A s inv n (s + 2)) = genD n c (elI p A s inv) := by
 refine genD_congr fun a ha b hb => ?_
 unfold elT elI
 by_cases h1 : s + 2 ≤ a ∧ s + 2 ≤ b
 ·rw [if_pos (by omega), if_pos h1]
 ·rw [if_neg (by omega), if_neg h1]
theorem chgR {p a b c d : Int} (hp : pOk p) (ha : inP p a) (hb : inP p b) (hc : inP p c) (hd : inP p d) : remI (addI .i64 (mulI .i64 a b) (mulI .i64 (subI .i64 p c) d)) p = some ((a * b + (p - c) * d) % p) := by
 have h1 := prod_in hp ha.le hb.le
 have hc' : 0 ≤ p - c ∧ p - c ≤ p := by have := hc.1; have := hc.2; omega
 have h2 := prod_in hp hc' hd.le
 have h3 := hp.1; have h4 := hp.2; have h5 := hc.1; have h6 := hc.2
 rw [mulI_in hp ha.le hb.le, subI_eq (by omega) (by omega), mulI_in hp hc' hd.le, addI_eq (by omega) (by omega), remN (by omega) (by omega)]
theorem pivC_zero {A : Mat} {n k i t : Nat} (h : pivC A n k = some i) (h1 : k + 1 + t < i) : A k (k + 1 + t) = 0 := pivF_before h (k + 1 + t) (by omega) h1
theorem pivC_none {A : Mat} {n k t : Nat} (h : pivC A n k = none) (h1 : k + 1 + t < n) : A k (k + 1 + t) = 0 := pivF_none h (k + 1 + t) (by omega) (by omega)
theorem pivC_w {A : Mat} {n k : Nat} (hk : k < n) : ∃ w, k + 1 + w ≤ n ∧ (∀ t, t < w → A k (k + 1 + t) = 0) ∧ ((pivC A n k = none ∧ k + 1 + w = n) ∨ (pivC A n k = some (k + 1 + w) ∧ k + 1 + w < n ∧ A k (k + 1 + w) ≠ 0)) := by
 cases hc : pivC A n k with
 | none => exact ⟨n - (k + 1), by omega, fun t ht => pivC_none hc (by omega), .inl ⟨rfl, by omega⟩⟩
 | some i =>
  obtain ⟨i1, i2, i3⟩ := pivC_some hc hk
  obtain ⟨w, rfl⟩ : ∃ w, i = k + 1 + w := ⟨i - (k + 1), by omega⟩
  exact ⟨w, by omega, fun t ht => pivC_zero hc (by omega), .inr ⟨rfl, i2, i3⟩⟩
section
variable {p : Int} {n : Nat} {M : Mat}
theorem g_pfI (hp : pOk p) (hn : n ≤ 64) (hM : inM p n n M) (hev : n % 2 = 0) (hmok : F_impl_MatrixOk (p, (n : Int), (n : Int), genD n n M) = some true) (hal : F_impl_alternating (p, (n : Int), (n : Int), genD n n M) = some true) :
  G_impl_Pfaffian FUEL (p, (n : Int), (n : Int), genD n n M) = some (pfV (pfI p n M (n / 2)), true) := by
 have hnn : n * n ≤ 64 * 64 := Nat.mul_le_mul hn hn
 have h1 := hp.1
 have h2 := hp.2
 simp only [G_impl_Pfaffian, hmok, bnd_s, neI_self, notB_t, cnd_false, hal]
 rw [show (2 : Int) = ((2 : Nat) : Int) from rfl, remNN' (by omega), bnd_s, hev, cnd_f (by decide)]
 rw [show F_impl_copyMatrix ((n : Int), (n : Int), genD n n M) = some ((n : Int), (n : Int), genD n n M) from if_pos (by show (genD n n M).length ≤ _; rw [genD_len]; omega), bnd_s]
 simp only [fulI_id, bnd_s]
 obtain ⟨q, hq1, hq2, hq3⟩ := stop_ex (fun j => (pfI p n M (j + 1)).isSome = true) (n / 2)
 have some_at : ∀ j, j ≤ q → ∃ s, pfI p n M j = some s := by
  intro j hj
  cases j with
  | zero => exact ⟨_, rfl⟩
  | succ j => exact Option.isSome_iff_exists.1 (hq2 j (by omega))
 rw [loopT_seq (r := if q < n / 2 then Sum.inr (0, true) else Sum.inl ((pfI p n M q).getD (M, 1)).2) (fun j => ((p, ((pfI p n M j).getD (M, 1)).2, ((2 * j : Nat) : Int)), ((n : Int), (n : Int)), genD n n ((pfI p n M j).getD (M, 1)).1)) q ?a1 ?a2 ?a3 (FUEL_gt (by omega))]
 case a3 => rfl
 case a2 =>
  obtain ⟨s, hs⟩ := some_at q (Nat.le_refl q)
  rw [hs]
  simp only [Option.getD_some]
  by_cases hlt : q < n / 2
  ·have hk : 2 * q < n := by omega
   obtain ⟨i1, i2⟩ := pfI_in hp hM q s (by omega) hs
   obtain ⟨A, out⟩ := s
   simp only at i1 i2 ⊢
   have hnone : pfI p n M (q + 1) = none := by
    rcases hq3 with h | h
    ·omega
    ·cases hx : pfI p n M (q + 1) with
     | none => rfl
     | some z => rw [hx] at h; exact absurd rfl h
   have hpc : pivC A n (2 * q) = none := by
    simp only [pfI, hs] at hnone
    cases hx : pivC A n (2 * q) with
    | none => rfl
    | some z => rw [hx] at hnone; cases hnone
   rw [cnd_t (ltN_t hk), if_pos hlt]
   rw [loopT_seq (fun t => ((p, out, ((2 * q : Nat) : Int), ((2 * q + 1 + t : Nat) : Int)), ((n : Int), (n : Int)), genD n n A)) (n - (2 * q + 1)) ?b1 ?b2 ?b3 (FUEL_gt (by omega))]
   case b3 => simp only [addN1 (show 2 * q ≤ 1048577 by omega)]; try rfl
   case b2 => simp only; rw [cnd_f (ltN_f (by omega))]; try (simp only [fulI_id, bnd_s])
   case b1 =>
    intro t ht
    simp only
    rw [cnd_t (ltN_t (show 2 * q + 1 + t < n by omega)), winI_gen, bnd_s, at_nat (by omega) (by omega) (by omega) hk (show 2 * q + 1 + t < n by omega), bnd_s, pivC_none hpc (by omega), cnd_t (by rfl)]
    simp only [fulI_id, bnd_s, addN1 (show 2 * q + 1 + t ≤ 1048577 by omega)]
    try rfl
   rw [joinK_l]
   simp only
   rw [show 2 * q + 1 + (n - (2 * q + 1)) = n by omega, cnd_t (by simp [eqI])]
   rfl
  ·rw [cnd_f (ltN_f (by omega)), if_neg hlt]
 case a1 =>
  intro j hj
  have hk : 2 * j < n := by omega
  obtain ⟨s, hs⟩ := some_at j (by omega)
  obtain ⟨s', hs'⟩ := some_at (j + 1) (by omega)
  obtain ⟨iA, io⟩ := pfI_in hp hM j s (by omega) hs
  rw [hs', hs]
  simp only [Option.getD_some]
  obtain ⟨A, out⟩ := s
  simp only at iA io ⊢
  simp only [pfI, hs] at hs'
  obtain ⟨w, w1, w2, w3⟩ := pivC_w (A := A) hk
  rcases w3 with ⟨w3, _⟩ | ⟨w3, w4, w5⟩
  ·rw [w3] at hs'; cases hs'
  rw [w3] at hs'
  injection hs' with hs'
  subst hs'
  generalize hi : 2 * j + 1 + w = i at *
  rw [cnd_t (ltN_t hk)]
  rw [loopT_seq (fun t => ((p, out, ((2 * j : Nat) : Int), ((2 * j + 1 + t : Nat) : Int)), ((n : Int), (n : Int)), genD n n A)) w ?b1 ?b2 ?b3 (FUEL_gt (by omega))]
  case b3 => simp only [addN1 (show 2 * j ≤ 1048577 by omega)]; try rfl
  case b2 =>
   simp only
   rw [hi, cnd_t (ltN_t w4), winI_gen, bnd_s, at_nat (by omega) (by omega) (by omega) hk w4, bnd_s, cnd_f (by simp [eqI, w5])]
   try (simp only [fulI_id, bnd_s])
  case b1 =>
   intro t ht
   simp only
   rw [cnd_t (ltN_t (show 2 * j + 1 + t < n by omega)), winI_gen, bnd_s, at_nat (by omega) (by omega) (by omega) hk (show 2 * j + 1 + t < n by omega), bnd_s, w2 t ht, cnd_t (by rfl)]
   simp only [fulI_id, bnd_s, addN1 (show 2 * j + 1 + t ≤ 1048577 by omega)]
   try rfl
  rw [joinK_l]
  simp only
  have i1 : 2 * j + 1 ≤ i := by omega
  have jA := swA_in i1 w4 iA
  rw [cnd_f (by simp [eqI]; omega), addN1 (show 2 * j ≤ 1048577 by omega)]
  rw [joinK_cnd (s := (((if i = 2 * j + 1 then out else (p - out) % p), p, ((2 * j : Nat) : Int)), ((n : Int), (n : Int)), genD n n (swA A (2 * j) i))) ?c1 ?c2]
  case c1 =>
   intro hb
   have hne : i ≠ 2 * j + 1 := fun e => by subst e; simp [neI] at hb
   have sw1 : ∀ B : Mat, F_impl_Matrix_swapRows (((n : Int), (n : Int), genD n n B), ((2 * j + 1 : Nat) : Int), (i : Int)) = some (genD n n (swapF B (2 * j + 1) i)) := fun B => swap_nat (by omega) (by omega) (by omega) (show 2 * j + 1 < n by omega) w4
   have tn : ∀ B : Mat, F_impl_rawTranspose ((n : Int), (n : Int), genD n n B) = some ((n : Int), (n : Int), genD n n (turnF B)) := fun B => turn_nat (by omega) (by omega) (by omega)
   simp only [sw1, tn, winI_gen, fulI_gen, fulI_id, bnd_s, subR hp io]
   rw [if_neg hne]
   unfold swA
   rw [if_neg hne]
   rfl
  case c2 =>
   intro hb
   have he : i = 2 * j + 1 := by
    rcases Nat.lt_trichotomy i (2 * j + 1) with h | h | h
    ·omega
    ·exact h
    ·simp [neI] at hb; omega
   rw [if_pos he]
   unfold swA
   rw [if_pos he]
   try simp only [fulI_id, bnd_s]
  simp only
  have ho1 : inP p (if i = 2 * j + 1 then out else (p - out) % p) := by
   split
   ·exact io
   ·exact emod_in hp _
  have hx : inP p (swA A (2 * j) i (2 * j) (2 * j + 1)) := jA _ hk _ (by omega)
  have eo : pfOut p out A (2 * j) i = (if i = 2 * j + 1 then out else (p - out) % p) * swA A (2 * j) i (2 * j) (2 * j + 1) % p := rfl
  have ei : pfInv p A (2 * j) i = invG p 1 (swA A (2 * j) i (2 * j) (2 * j + 1)) (p - 2).toNat := rfl
  generalize (if i = 2 * j + 1 then out else (p - out) % p) = out1 at *
  generalize swA A (2 * j) i = B at *
  have hI : inP p (invG p 1 (B (2 * j) (2 * j + 1)) (p - 2).toNat) := invG_in hp _ _ _ (one_in hp)
  rw [winI_gen, bnd_s, addN1 (show 2 * j ≤ 1048577 by omega), at_nat (by omega) (by omega) (by omega) hk (show 2 * j + 1 < n by omega), bnd_s, mulR hp ho1.le hx.le, bnd_s]
  try simp only [bnd_s]
  rw [← eo]
  try rw [winI_gen, bnd_s]
  rw [at_nat (by omega) (by omega) (by omega) hk (show 2 * j + 1 < n by omega), bnd_s]
  rw [invI_nat hp hx, bnd_s, ← ei]
  rw [← ei] at hI
  generalize pfInv p A (2 * j) i = inv at *
  generalize pfOut p out A (2 * j) i = out2 at *
  have e2 : addI .i64 ((2 * j : Nat) : Int) ((2 : Nat) : Int) = ((2 * j + 2 : Nat) : Int) := addNN (by omega)
  try simp only [fulI_id, bnd_s, e2]
  rw [loopT_seq (fun t => ((p, out2, ((2 * j : Nat) : Int), inv, ((2 * j + 2 + t : Nat) : Int)), ((n : Int), (n : Int)), genD n n (elT p B (2 * j) inv (2 * j + 2 + t) (2 * j + 2)))) (n - (2 * j + 2)) ?d1 ?d2 ?d3 (FUEL_gt (by omega))]
  case d3 => simp only [show 2 * j + 2 + 0 = 2 * j + 2 from rfl, elT_0]
  case d2 =>
   simp only
   rw [cnd_f (ltN_f (by omega))]
   try simp only [fulI_id, bnd_s]
   try rfl
  case d1 =>
   intro t ht
   simp only
   have hi2 : 2 * j + 2 + t < n := by omega
   rw [cnd_t (ltN_t hi2), e2]
   rw [loopT_seq (fun u => ((p, out2, ((2 * j : Nat) : Int), inv, ((2 * j + 2 + t : Nat) : Int), ((2 * j + 2 + u : Nat) : Int)), ((n : Int), (n : Int)), genD n n (elT p B (2 * j) inv (2 * j + 2 + t) (2 * j + 2 + u)))) (n - (2 * j + 2)) ?k1 ?k2 ?k3 (FUEL_gt (by omega))]
   case k3 => rfl
   case k2 =>
    simp only
    rw [cnd_f (ltN_f (by omega))]
    try simp only [fulI_id, bnd_s]
    try rfl
   case k1 =>
    intro u hu
    simp only
    have hj2 : 2 * j + 2 + u < n := by omega
    have l1 : ∀ a b, a < 2 * j + 2 → elT p B (2 * j) inv (2 * j + 2 + t) (2 * j + 2 + u) a b = B a b := fun a b h => if_neg (by omega)
    have l2 : elT p B (2 * j) inv (2 * j + 2 + t) (2 * j + 2 + u) (2 * j + 2 + t) (2 * j + 2 + u) = B (2 * j + 2 + t) (2 * j + 2 + u) := if_neg (by omega)
    have k1 : 2 * j + 1 < n := by omega
    have A : ∀ a b, a < 2 * j + 2 → b < n → F_impl_Matrix_at (((n : Int), (n : Int), genD n n (elT p B (2 * j) inv (2 * j + 2 + t) (2 * j + 2 + u))), (a : Int), (b : Int)) = some (B a b) := fun a b h h' => by
     rw [at_nat (by omega) (by omega) (by omega) (by omega) h', l1 a b h]
    have A5 : F_impl_Matrix_at (((n : Int), (n : Int), genD n n (elT p B (2 * j) inv (2 * j + 2 + t) (2 * j + 2 + u))), ((2 * j + 2 + t : Nat) : Int), ((2 * j + 2 + u : Nat) : Int)) = some (B (2 * j + 2 + t) (2 * j + 2 + u)) := by
     rw [at_nat (by omega) (by omega) (by omega) hi2 hj2, l2]
    rw [cnd_t (ltN_t hj2), addN1 (show 2 * j ≤ 1048577 by omega)]
    simp only [winI_gen, bnd_s, A _ _ (show 2 * j + 1 < 2 * j + 2 by omega) hi2, A _ _ (show 2 * j < 2 * j + 2 by omega) hj2, A _ _ (show 2 * j < 2 * j + 2 by omega) hi2, A _ _ (show 2 * j + 1 < 2 * j + 2 by omega) hj2, A5]
    have q1 : inP p (B (2 * j + 1) (2 * j + 2 + t)) := jA _ k1 _ hi2
    have q2 : inP p (B (2 * j) (2 * j + 2 + u)) := jA _ hk _ hj2
    have q3 : inP p (B (2 * j) (2 * j + 2 + t)) := jA _ hk _ hi2
    have q4 : inP p (B (2 * j + 1) (2 * j + 2 + u)) := jA _ k1 _ hj2
    have q5 : inP p (B (2 * j + 2 + t) (2 * j + 2 + u)) := jA _ hi2 _ hj2
    rw [chgR hp q1 q2 q3 q4, bnd_s, macI hp ⟨q5.1, by have := q5.2; omega⟩ (emod_in hp _).le hI.le, bnd_s, set_nat (by omega) (by omega) (by omega) hi2 hj2, bnd_s, fulI_gen, bnd_s, elT_step (by omega) (by omega), addN1 (show 2 * j + 2 + u ≤ 1048577 by omega)]
    rfl
   rw [joinK_l]
   simp only
   rw [show 2 * j + 2 + (n - (2 * j + 2)) = n by omega, elT_row, addN1 (show 2 * j + 2 + t ≤ 1048577 by omega)]
   rfl
  rw [joinK_l]
  simp only
  rw [show 2 * j + 2 + (n - (2 * j + 2)) = n by omega, elT_end, e2]
  rfl
 by_cases hlt : q < n / 2
 ·rw [if_pos hlt, joinK_r]
  have hnone : pfI p n M (q + 1) = none := by
   rcases hq3 with h | h
   ·omega
   ·cases hx : pfI p n M (q + 1) with
    | none => rfl
    | some z => rw [hx] at h; exact absurd rfl h
  have hz := pfI_none hnone (n / 2 - (q + 1))
  rw [show q + 1 + (n / 2 - (q + 1)) = n / 2 by omega] at hz
  rw [hz]
  rfl
 ·rw [if_neg hlt, joinK_l]
  have hqe : q = n / 2 := by omega
  obtain ⟨s, hs⟩ := some_at q (Nat.le_refl q)
  rw [← hqe, hs]
  rfl
end
section
variable {p : Int} {n : Nat} {M : Mat}
end
theorem f_impl_Pfaffian (x : Int × Int × Int × List Int) (y : Int × Bool) (h : F_impl_Pfaffian x = some y) : G_impl_Pfaffian FUEL x = some y := by
 obtain ⟨m, x⟩ := x
 simp only [F_impl_Pfaffian, F_spec_Pfaffian] at h
 split at h
 ·rename_i hl
  rw [← h]
  cases hm : matOk m x with
  | false =>
   obtain ⟨r, c, l⟩ := x
   simp only [G_impl_Pfaffian]
   rw [show F_impl_MatrixOk (m, r, c, l) = some (matOk m (r, c, l)) from if_pos hl, bnd_s, hm]
   rfl
  | true =>
   obtain ⟨r, c, M, rfl, hp, hr, hc, hrc, hM, eM, hR⟩ := matOk_red hm
   have hok : F_impl_MatrixOk (m, (r : Int), (c : Int), genD r c M) = some true := by rw [← hm]; exact if_pos hl
   by_cases hrc2 : r = c
   ·subst hrc2
    rw [if_pos ⟨rfl, rfl⟩]
    simp only [Int.toNat_natCast, ← eM]
    have hnn : r * r ≤ 64 * 64 := Nat.mul_le_mul hr hr
    have hal : F_impl_alternating (m, (r : Int), (r : Int), genD r r M) = some (altOk m r M) := by
     refine (if_pos ⟨hp, mOk_mk M (by omega) (by omega) (by omega), rfl, allP_gen.2 hM⟩).trans ?_
     simp only [Int.toNat_natCast, ← eM]
    unfold pfR
    by_cases ha : altOk m r M = true
    ·rw [if_pos ha]
     rw [ha] at hal
     by_cases hev : r % 2 = 1
     ·simp only [G_impl_Pfaffian, hok, bnd_s]
      rw [cnd_f (by rfl), cnd_f (neI_f rfl), hal, bnd_s, cnd_f (by rfl), show (2 : Int) = ((2 : Nat) : Int) from rfl, remNN' (by omega), bnd_s, hev, cnd_t (by rfl), if_pos rfl]
     ·rw [if_neg hev]
      rw [g_pfI hp hr hM (by omega) hok hal, pf_val hp hM (altOk_B hM ha) (by omega)]
    ·rw [if_neg ha]
     rw [show altOk m r M = false by simpa using ha] at hal
     simp only [G_impl_Pfaffian, hok, bnd_s]
     rw [cnd_f (by rfl), cnd_f (neI_f rfl), hal, bnd_s, cnd_t (by rfl)]
   ·rw [if_neg fun h => hrc2 (by have h2 := h.2; simp only at h2; omega)]
    simp only [G_impl_Pfaffian, hok, bnd_s]
    rw [cnd_f (by rfl), cnd_t (neI_t (by omega))]
 ·cases h
end Go.Am
end
section
namespace Go.Am
def fP (n : Nat) (A : Mat) : Int := match n with
 | 0 => 1
 | 2 => A 0 1
 | 4 => A 0 1 * A 2 3 - A 0 2 * A 1 3 + A 0 3 * A 1 2
 | _ => 0
theorem fP_m {p : Int} {n : Nat} {A B : Mat} (h : ∀ a, a < n → ∀ b, b < n → eqm p (A a b) (B a b)) : eqm p (fP n A) (fP n B) := by
 match n, h with
 | 0, h => exact eqm.refl _ _
 | 1, h => exact eqm.refl _ _
 | 2, h => exact h 0 (by decide) 1 (by decide)
 | 3, h => exact eqm.refl _ _
 | 4, h => exact (((h 0 (by decide) 1 (by decide)).mul (h 2 (by decide) 3 (by decide))).sub ((h 0 (by decide) 2 (by decide)).mul (h 1 (by decide) 3 (by decide)))).add ((h 0 (by decide) 3 (by decide)).mul (h 1 (by decide) 2 (by decide)))
 | n + 5, h => exact eqm.refl _ _
def upF (A : Mat) : Mat := fun i j => if i < j then A i j else if j < i then - A j i else 0
theorem upF_m {p : Int} {n : Nat} {A : Mat} (h : AltB p n 0 A) : ∀ a, a < n → ∀ b, b < n → eqm p (A a b) (upF A a b) := by
 intro a ha b hb
 unfold upF
 rcases Nat.lt_trichotomy a b with h1 | h1 | h1
 ·rw [if_pos h1]; exact eqm.refl _ _
 ·rw [if_neg (by omega), if_neg (by omega), h1, h.1 b (Nat.zero_le _) hb]; exact eqm.refl _ _
 ·rw [if_neg (by omega), if_pos h1]
  obtain ⟨q, hq⟩ := h.2 a b (Nat.zero_le _) ha (Nat.zero_le _) hb
  exact ⟨q, by omega⟩
theorem upF_anti (A : Mat) (i j : Nat) : upF A i j = - upF A j i := by
 unfold upF
 rcases Nat.lt_trichotomy i j with h | h | h
 ·rw [if_pos h, if_neg (by omega), if_pos h]; omega
 ·rw [if_neg (by omega), if_neg (by omega), if_neg (by omega), if_neg (by omega)]; rfl
 ·rw [if_neg (by omega), if_pos h, if_pos h]
theorem fP_sq {n : Nat} (hn : n = 0 ∨ n = 2 ∨ n = 4) (A : Mat) : fP n (upF A) * fP n (upF A) = dP n (upF A) := by
 rcases hn with rfl | rfl | rfl
 ·rfl
 ·simp [fP, dP, d2, upF]; grind
 ·simp [fP, dP, d2, d3, upF]; grind
theorem fP_conj {n : Nat} (hn : n = 0 ∨ n = 2 ∨ n = 4) (A B : Mat) : fP n (mulZ n (mulZ n B (upF A)) (turnF B)) = fP n (upF A) * dP n B := by
 rcases hn with rfl | rfl | rfl
 ·rfl
 ·simp [fP, dP, d2, upF, mulZ, sm, turnF]; grind
 ·simp [fP, dP, d2, d3, upF, mulZ, sm, turnF]; grind
theorem conj_anti {n : Nat} (A B : Mat) (i j : Nat) : mulZ n (mulZ n B (upF A)) (turnF B) i j = - mulZ n (mulZ n B (upF A)) (turnF B) j i := by
 have e : ∀ i j, mulZ n (mulZ n B (upF A)) (turnF B) i j = sm n (fun t => sm n (fun s => B i s * upF A s t * B j t)) := by
  intro i j
  unfold mulZ turnF
  exact sm_congr fun t _ => (sm_mulR _ _ _).symm
 rw [e i j, e j i, sm_swap]
 rw [show ∀ x : Int, -x = (-1) * x from fun x => by omega, ← sm_mulL]
 refine sm_congr fun t _ => ?_
 rw [← sm_mulL]
 refine sm_congr fun s _ => ?_
 rw [upF_anti A t s]
 grind
theorem pfS_1 {p : Int} {n : Nat} {A : Mat} : pfS p n A 1 = match pivC A n 0 with
  | none => none
  | some i => some (elS p (swA A 0 i) 0 (pfInv p A 0 i) (n - 2), pfOut p 1 A 0 i) := rfl
theorem pfS_2 {p : Int} {n : Nat} {A : Mat} {s : Mat × Int} (h : pfS p n A 1 = some s) : pfS p n A 2 = match pivC s.1 n 2 with
  | none => none
  | some i => some (elS p (swA s.1 2 i) 2 (pfInv p s.1 2 i) (n - 4), pfOut p s.2 s.1 2 i) := by
 show (match pfS p n A 1 with
  | none => none
  | some s => match pivC s.1 n (2 * 1) with
   | none => none
   | some i => some (elS p (swA s.1 (2 * 1) i) (2 * 1) (pfInv p s.1 (2 * 1) i) (n - (2 * 1 + 2)), pfOut p s.2 s.1 (2 * 1) i)) = _
 rw [h]
theorem fP_swap {p : Int} {A : Mat} (h : AltB p 4 0 A) {i : Nat} (hi : i = 2 ∨ i = 3) : eqm p (fP 4 (swB A 1 i)) (- fP 4 A) := by
 obtain ⟨q1, h1⟩ := h.2 2 1 (by decide) (by decide) (by decide) (by decide)
 obtain ⟨q2, h2⟩ := h.2 3 1 (by decide) (by decide) (by decide) (by decide)
 obtain ⟨q3, h3⟩ := h.2 3 2 (by decide) (by decide) (by decide) (by decide)
 have e1 : A 2 1 = p * q1 - A 1 2 := by omega
 have e2 : A 3 1 = p * q2 - A 1 3 := by omega
 have e3 : A 3 2 = p * q3 - A 2 3 := by omega
 rcases hi with rfl | rfl
 ·simp only [fP, swB_val]
  simp
  rw [e1]
  exact ⟨A 0 3 * q1, by grind⟩
 ·simp only [fP, swB_val]
  simp
  rw [e1, e2, e3]
  exact ⟨A 0 3 * q1 - A 0 2 * q2 + A 0 1 * q3, by grind⟩
theorem pf_poly {p : Int} {n : Nat} {A : Mat} (hpr : isPrimeI p = true) (hA : inM p n n A) (h : AltB p n 0 A) (hn : n = 0 ∨ n = 2 ∨ n = 4) : eqm p (pfV (pfS p n A (n / 2))) (fP n A) := by
 have hp : pOk p := isPrimeI_t hpr
 rcases hn with rfl | rfl | rfl
 ·exact eqm.refl _ _
 ·show eqm p (pfV (pfS p 2 A 1)) (A 0 1)
  rw [pfS_1]
  cases hc : pivC A 2 0 with
  | none =>
   have h0 : A 0 1 = 0 := pivC_none (t := 0) hc (by decide)
   rw [h0]; exact eqm.refl _ _
  | some i =>
   obtain ⟨i1, i2, i3⟩ := pivC_some hc (by decide)
   obtain rfl : i = 1 := by omega
   show eqm p (pfOut p 1 A 0 1) (A 0 1)
   unfold pfOut swA
   simp only [Nat.zero_add, if_true, Int.one_mul]
   exact eqm_mod _ _
 ·show eqm p (pfV (pfS p 4 A 2)) (fP 4 A)
  cases hc : pivC A 4 0 with
  | none =>
   have a1 : A 0 1 = 0 := pivC_none (t := 0) hc (by decide)
   have a2 : A 0 2 = 0 := pivC_none (t := 1) hc (by decide)
   have a3 : A 0 3 = 0 := pivC_none (t := 2) hc (by decide)
   have e : pfS p 4 A 1 = none := by rw [pfS_1, hc]
   rw [pfS_none e 1]
   simp only [fP, a1, a2, a3, pfV]
   exact ⟨0, by simp⟩
  | some i =>
   obtain ⟨i1, i2, i3⟩ := pivC_some hc (by decide)
   have hB : inM p 4 4 (swA A 0 i) := swA_in i1 i2 hA
   have hBA : AltB p 4 0 (swA A 0 i) := swA_alt i1 i2 h
   have hs : swA A 0 i 0 1 = A 0 i := by
    unfold swA
    by_cases hi : i = 0 + 1
    ·rw [if_pos hi, hi]
    ·rw [if_neg hi, swB_val]
     rw [if_neg (by omega), if_neg (by omega), if_pos rfl]
   have hinv : eqm p (swA A 0 i 0 1 * pfInv p A 0 i) 1 := by
    unfold pfInv
    have := inv_one hpr (hB 0 (by decide) 1 (by decide)) (by rw [hs]; exact i3)
    exact (eqm_mod p _).symm.trans (by rw [this]; exact eqm.refl _ _)
   have hsg : eqm p (fP 4 (swA A 0 i)) (if i = 1 then fP 4 A else - fP 4 A) := by
    unfold swA
    by_cases hi : i = 1
    ·rw [if_pos (by omega), if_pos hi]; exact eqm.refl _ _
    ·rw [if_neg (by omega), if_neg hi]; exact fP_swap h (by omega)
   have e1 : pfS p 4 A 1 = some (elS p (swA A 0 i) 0 (pfInv p A 0 i) 2, pfOut p 1 A 0 i) := by rw [pfS_1, hc]
   obtain ⟨g1, g2⟩ := el_agree (k := 0) (inv := pfInv p A 0 i) hp hB hB (by decide) (fun _ _ _ _ _ _ => rfl) (hBA.1 1 (by decide) (by decide)) hBA
   have ev : eqm p (elS p (swA A 0 i) 0 (pfInv p A 0 i) 2 2 3) (swA A 0 i 2 3 + (swA A 0 i 1 2 * swA A 0 i 0 3 - swA A 0 i 0 2 * swA A 0 i 1 3) * pfInv p A 0 i) := by
    have := g1 2 3 (by decide) (by decide) (by decide) (by decide)
    rw [show elS p (swA A 0 i) 0 (pfInv p A 0 i) 2 2 3 = elI p (swA A 0 i) 0 (pfInv p A 0 i) 2 3 from this]
    unfold elI
    rw [if_pos (by decide)]
    refine (eqm_mod p _).trans (eqm.add (eqm.refl _ _) (eqm.mul ((eqm_mod p _).trans ?_) (eqm.refl _ _)))
    exact ⟨swA A 0 i 1 3, by grind⟩
   have eo : eqm p (pfOut p 1 A 0 i) ((if i = 1 then 1 else -1) * swA A 0 i 0 1) := by
    unfold pfOut
    refine (eqm_mod p _).trans (eqm.mul ?_ (eqm.refl _ _))
    by_cases hi : i = 1
    ·rw [if_pos (by omega), if_pos hi]; exact eqm.refl _ _
    ·rw [if_neg (by omega), if_neg hi]; exact (eqm_mod p _).trans ⟨1, by omega⟩
   rw [pfS_2 e1]
   dsimp only
   -- both together
   have key : eqm p (pfOut p 1 A 0 i * elS p (swA A 0 i) 0 (pfInv p A 0 i) 2 2 3) (fP 4 A) := by
    refine (eqm.mul eo ev).trans ?_
    obtain ⟨q1, h1⟩ := hinv
    have e5 : eqm p ((if i = 1 then 1 else -1) * swA A 0 i 0 1 * (swA A 0 i 2 3 + (swA A 0 i 1 2 * swA A 0 i 0 3 - swA A 0 i 0 2 * swA A 0 i 1 3) * pfInv p A 0 i)) ((if i = 1 then 1 else -1) * fP 4 (swA A 0 i)) := by
     generalize (if i = 1 then (1 : Int) else -1) = sg
     simp only [fP]
     generalize swA A 0 i = B at h1
     generalize pfInv p A 0 i = v at h1
     exact ⟨sg * (B 1 2 * B 0 3 - B 0 2 * B 1 3) * q1, by grind⟩
    refine e5.trans ((eqm.mul (eqm.refl _ _) hsg).trans ?_)
    by_cases hi : i = 1
    ·rw [if_pos hi, if_pos hi, Int.one_mul]; exact eqm.refl _ _
    ·rw [if_neg hi, if_neg hi]; exact ⟨0, by omega⟩
   cases hc2 : pivC (elS p (swA A 0 i) 0 (pfInv p A 0 i) 2) 4 2 with
   | none =>
    have z : elS p (swA A 0 i) 0 (pfInv p A 0 i) 2 2 3 = 0 := pivC_none (t := 0) hc2 (by decide)
    rw [z, Int.mul_zero] at key
    exact key
   | some i' =>
    obtain ⟨j1, j2, j3⟩ := pivC_some hc2 (by decide)
    obtain rfl : i' = 3 := by omega
    show eqm p (pfOut p (pfOut p 1 A 0 i) (elS p (swA A 0 i) 0 (pfInv p A 0 i) 2) 2 3) (fP 4 A)
    refine eqm.trans ?_ key
    conv => lhs; unfold pfOut swA
    simp only [if_true]
    exact eqm_mod _ _
end Go.Am
end
section
namespace Go.Am
def ag_impl_InverseOf : Sig := [(.one, [.int .i64]), (.one, [.int .i64])]
def rs_impl_InverseOf : Sig := [(.one, [.int .i64])]
def mu_impl_InverseOf : MSig := []
def G_impl_InverseOf (NN : Nat) : (Int × Int) → (Option Int) :=
 (fun ((i0, i1) : (Int × Int)) =>
 (F_impl_IsPrime i0).bnd (fun b2 =>
 cnd (notB b2)
 (some (0 : Int))
 (cnd (ltI i1 (1 : Int))
 (some (0 : Int))
 (cnd (leI i0 i1)
 (some (0 : Int))
 ((F_impl_rawInverse (i0, i1)).bnd (fun i3 =>
 some i3))))))

def F_impl_InverseOf : (Int × Int) → (Option Int) := G_impl_InverseOf FUEL
theorem f_impl_InverseOf (x : (Int × Int)) (z : Int) (h : F_impl_InverseOf x = some z) : G_impl_InverseOf FUEL x = some z := h
theorem inv2_ok {p : Int} (hpr : isPrimeI p = true) (h3 : 3 ≤ p) : ∃ v, F_impl_InverseOf (p, 2) = some v ∧ inP p v ∧ 2 * v % p = 1 := by
 have hp : pOk p := isPrimeI_t hpr
 have h2 : inP p 2 := ⟨by decide, by omega⟩
 simp only [F_impl_InverseOf, G_impl_InverseOf]
 rw [show F_impl_IsPrime p = some true from congrArg some hpr]
 simp only [bnd_s]
 rw [show notB true = false from rfl, cnd_false, cnd_f (ltI_f (by decide)), cnd_f (leI_f (by omega)), invI_nat hp h2]
 have h1 : 2 * invG p 1 2 (p - 2).toNat % p = 1 := inv_one hpr h2 (by decide)
 refine ⟨_, rfl, ?_, h1⟩
 exact invG_in hp _ _ _ (one_in hp)
def altT (p : Int) (X : Mat) (i j : Nat) : Mat := fun a b =>
 if (b < a ∧ (a < i ∨ a = i ∧ b < j)) then X a b else if (a < b ∧ (b < i ∨ b = i ∧ a < j)) then (p - X b a) % p else 0
def altF (p : Int) (X : Mat) : Mat := fun a b => if b < a then X a b else if a < b then (p - X b a) % p else 0
theorem altT_0 (p : Int) (n : Nat) (X : Mat) : genD n n (fun _ _ => 0) = genD n n (altT p X 0 0) := genD_congr fun a _ b _ => by
 unfold altT; rw [if_neg (by omega), if_neg (by omega)]
theorem altT_row (p : Int) (n : Nat) (X : Mat) (i : Nat) : genD n n (altT p X i i) = genD n n (altT p X (i + 1) 0) := genD_congr fun a _ b _ => by
 unfold altT
 by_cases h1 : b < a
 ·by_cases h2 : a < i + 1
  ·rw [if_pos ⟨h1, by omega⟩, if_pos ⟨h1, by omega⟩]
  ·rw [if_neg (by omega), if_neg (by omega), if_neg (by omega), if_neg (by omega)]
 ·by_cases h3 : a < b
  ·by_cases h2 : b < i + 1
   ·rw [if_neg (by omega), if_pos ⟨h3, by omega⟩, if_neg (by omega), if_pos ⟨h3, by omega⟩]
   ·rw [if_neg (by omega), if_neg (by omega), if_neg (by omega), if_neg (by omega)]
  ·rw [if_neg (by omega), if_neg (by omega), if_neg (by omega), if_neg (by omega)]
theorem altT_end (p : Int) (n : Nat) (X : Mat) : genD n n (altT p X n 0) = genD n n (altF p X) := genD_congr fun a ha b hb => by
 unfold altT altF
 by_cases h1 : b < a
 ·rw [if_pos ⟨h1, by omega⟩, if_pos h1]
 ·rw [if_neg (by omega), if_neg h1]
  by_cases h3 : a < b
  ·rw [if_pos ⟨h3, by omega⟩, if_pos h3]
  ·rw [if_neg (by omega), if_neg h3]
theorem altT_step (p : Int) (n : Nat) (X : Mat) {i j : Nat} (hi : i < n) (hj : j < i) : setL (setL (genD n n (altT p X i j)) (i * n + j) (X i j)) (j * n + i) ((p - X i j) % p) = genD n n (altT p X i (j + 1)) := by
 unfold setL
 rw [genD_set _ (by omega), genD_set _ (by omega)]
 refine genD_congr fun a ha b hb => ?_
 unfold updM altT
 by_cases h1 : a = j ∧ b = i
 ·rw [if_pos h1, if_neg (by omega), if_pos ⟨by omega, by omega⟩, h1.1, h1.2]
 ·rw [if_neg h1]
  by_cases h2 : a = i ∧ b = j
  ·rw [if_pos h2, if_pos ⟨by omega, by omega⟩, h2.1, h2.2]
  ·rw [if_neg h2]
   by_cases h3 : b < a
   ·by_cases h4 : a < i ∨ a = i ∧ b < j
    ·rw [if_pos ⟨h3, h4⟩, if_pos ⟨h3, by omega⟩]
    ·rw [if_neg (fun h => h4 h.2), if_neg (by omega), if_neg (by omega), if_neg (by omega)]
   ·by_cases h5 : a < b ∧ (b < i ∨ b = i ∧ a < j)
    ·rw [if_neg (by omega), if_pos h5, if_neg (by omega), if_pos ⟨h5.1, by omega⟩]
    ·rw [if_neg (by omega), if_neg h5, if_neg (by omega), if_neg (by omega)]
theorem altF_in {p : Int} {n : Nat} {X : Mat} (hp : pOk p) (hX : inM p n n X) : inM p n n (altF p X) := by
 intro a ha b hb
 unfold altF
 split
 ·exact hX a ha b hb
 ·split
  ·exact emod_in hp _
  ·exact ⟨Int.le_refl _, by have := hp.1; omega⟩
theorem altF_B (p : Int) (n : Nat) (X : Mat) : AltB p n 0 (altF p X) := by
 constructor
 ·intro i _ _
  unfold altF
  rw [if_neg (by omega), if_neg (by omega)]
 ·intro i j _ _ _ _
  unfold altF
  rcases Nat.lt_trichotomy i j with h | h | h
  ·rw [if_neg (by omega), if_pos h, if_pos h]
   obtain ⟨q, hq⟩ := eqm_mod p (p - X j i)
   exact ⟨q + 1, by rw [hq, Int.mul_add]; omega⟩
  ·rw [if_neg (by omega), if_neg (by omega), if_neg (by omega), if_neg (by omega)]; exact eqm.refl _ _
  ·rw [if_pos h, if_neg (by omega), if_pos h]
   obtain ⟨q, hq⟩ := eqm_mod p (p - X i j)
   exact ⟨q + 1, by rw [hq, Int.mul_add]; omega⟩
theorem altOk_mk {p : Int} {n : Nat} {M : Mat} (h : AltB p n 0 M) : altOk p n M = true := by
 refine decide_eq_true fun i hi j hj => ⟨?_, fun hij => ?_⟩
 ·have := eqm_iff.1 (h.2 i j (Nat.zero_le _) hi (Nat.zero_le _) (by omega))
  rw [this, Int.zero_emod]
 ·rw [← hij]; exact h.1 i (Nat.zero_le _) hi
theorem AltB_ag {p : Int} {n : Nat} {A B : Mat} (h : AltB p n 0 A) (hc : ∀ a, a < n → ∀ b, b < n → B a b = A a b) : AltB p n 0 B :=
 ⟨fun i h1 h2 => by rw [hc i h2 i h2]; exact h.1 i h1 h2, fun i j h1 h2 h3 h4 => by rw [hc i h2 j h4, hc j h4 i h2]; exact h.2 i j h1 h2 h3 h4⟩
theorem pf_g {p : Int} {n : Nat} {M : Mat} (hpr : isPrimeI p = true) (hn : n = 0 ∨ n = 2 ∨ n = 4) (hM : inM p n n M) (h : AltB p n 0 M) :
  ∃ v, F_impl_Pfaffian (p, (n : Int), (n : Int), genD n n M) = some (v, true) ∧ eqm p v (fP n M) ∧ inP p v := by
 have hp : pOk p := isPrimeI_t hpr
 have hag := gen_ag (r := n) (c := n) M
 have hM' := gen_in hM
 have h' := AltB_ag h hag
 simp only [F_impl_Pfaffian, F_spec_Pfaffian, Int.toNat_natCast]
 rw [if_pos (sz_g (by omega) (by omega)), if_pos ⟨matOk_g hpr (by omega) (by omega) hM, trivial⟩]
 unfold pfR
 rw [if_pos (altOk_mk h'), if_neg (by omega)]
 refine ⟨_, rfl, (pf_poly hpr hM' h' hn).trans (fP_m fun a ha b hb => by rw [hag a ha b hb]; exact eqm.refl _ _), ?_⟩
 cases hs : pfS p n (ofD n (genD n n M)) (n / 2) with
 | none => exact ⟨Int.le_refl 0, show (0 : Int) < p by have := hp.1; omega⟩
 | some s => exact (pfS_in hp hM' (n / 2) s (by omega) hs).2
theorem conj_ok {p : Int} {n : Nat} {A B : Mat} (hpr : isPrimeI p = true) (hn : n = 0 ∨ n = 2 ∨ n = 4) (hA : AltB p n 0 A) :
  AltB p n 0 (mulF p n (mulF p n B A) (turnF B)) ∧ eqm p (fP n (mulF p n (mulF p n B A) (turnF B))) (fP n A * dP n B) := by
 have hp : pOk p := isPrimeI_t hpr
 have e : ∀ a, a < n → ∀ b, b < n → eqm p (mulF p n (mulF p n B A) (turnF B) a b) (mulZ n (mulZ n B (upF A)) (turnF B) a b) := by
  intro a ha b _
  refine (mulF_z p n _ _ a b).trans ?_
  unfold mulZ
  refine eqm_sm fun t ht => eqm.mul ?_ (eqm.refl _ _)
  refine (mulF_z p n _ _ a t).trans (eqm_sm fun s hs => eqm.mul (eqm.refl _ _) (upF_m hA s hs t ht))
 refine ⟨⟨fun i _ hi => ?_, fun i j _ hi _ hj => ?_⟩, ?_⟩
 ·refine eqm_in (p := p) ((e i hi i hi).trans ?_) (mulF_in hp n n n _ _ i hi i hi) ⟨Int.le_refl _, by have := hp.1; omega⟩
  have := conj_anti (n := n) A B i i
  have h0 : mulZ n (mulZ n B (upF A)) (turnF B) i i = 0 := by omega
  rw [h0]; exact eqm.refl _ _
 ·refine (eqm.add (e i hi j hj) (e j hj i hi)).trans ?_
  rw [conj_anti A B i j]
  exact ⟨0, by omega⟩
 ·refine (fP_m e).trans ?_
  rw [fP_conj hn]
  exact eqm.mul (fP_m fun a ha b hb => (upF_m hA a ha b hb).symm) (eqm.refl _ _)
theorem sq_ok {p : Int} {n : Nat} {A : Mat} (hpr : isPrimeI p = true) (hn : n = 0 ∨ n = 2 ∨ n = 4) (hAi : inM p n n A) (hA : AltB p n 0 A) : eqm p (fP n A * fP n A) (detR p n A) := by
 have h1 : eqm p (fP n A) (fP n (upF A)) := fP_m (upF_m hA)
 refine (eqm.mul h1 h1).trans ?_
 rw [fP_sq hn]
 exact (dP_m fun a ha b hb => (upF_m hA a ha b hb).symm).trans (det_dP hpr hAi (by omega))
end Go.Am
end
