/- L_Conserves: the law FnExactConserves. No condition. -/
import Derived.Test.YtbogogbogdafiaaM63
set_option linter.unusedVariables false
set_option linter.unusedSimpArgs false
namespace Go.Am
theorem ex_Conserves (r : Int × Int × Int) (t : List Int × List Int × List Int) (c : Int × List (List Int)) (h1 : sz_Tensor t ≤ 1048576) (h2 : sz_Charges c ≤ 1048576) : ∃ r0, F_spec_Conserves (r, t, c) = some r0 ∧ F_impl_Conserves (r, t, c) = some r0 := by
 obtain ⟨L, D, T⟩ := t
 obtain ⟨m, R⟩ := c
 have h1 : L.length + D.length + T.length ≤ 1048576 := h1
 have h2 := sz_IntSS_mem (l := R) h2
 have hd : consDom (r, (L, D, T), m, R) := ⟨⟨by show L.length ≤ _; omega, by show D.length ≤ _; omega, by show T.length ≤ _; omega⟩, ⟨by show L.length ≤ _; omega, by show D.length ≤ _; omega⟩, h2.1, h2.2⟩
 exact ⟨_, if_pos hd, if_pos hd⟩
def F_laws_FnExactConserves : (Int × Int × Int) × ((List Int) × (List Int) × (List Int)) × (Int × (List (List Int))) → Option Bool := fun ((a0, a1, a2) : (Int × Int × Int) × ((List Int) × (List Int) × (List Int)) × (Int × (List (List Int)))) => if (wf_Tensor a1 && wf_Charges a2) = true then some true else none
def ag_laws_FnExactConserves : Sig := [(.agg, [.int .i64, .int .i64, .int .i64]), (.agg, [.list [.int .i64], .list [.int .i64], .list [.int .i64]]), (.agg, [.int .i64, .list [.list [.int .i64]]])]
def rs_laws_FnExactConserves : Sig := [(.one, [.bool])]
def mu_laws_FnExactConserves : MSig := []
def G_laws_FnExactConserves (NN : Nat) : ((Int × (Int × Int)) × (((List Int) × ((List Int) × (List Int))) × (Int × (List (List Int))))) → (Option Bool) :=
 (fun (((i0, i1, i2), (l3, l4, l5), i6, l7) : ((Int × (Int × Int)) × (((List Int) × ((List Int) × (List Int))) × (Int × (List (List Int)))))) =>
 (F_laws_szTensor ((l3, l4, l5), (1048576 : Int))).bnd (fun i8 =>
 cnd (ltI i8 (0 : Int))
 (some true)
 ((F_laws_szCharges ((i6, l7), i8)).bnd (fun i9 =>
 cnd (ltI i9 (0 : Int))
 (some true)
 ((F_laws_toRing (i0, i1, i2)).bnd (fun (i10, i11, i12) =>
 (F_laws_toTensor (l3, l4, l5)).bnd (fun (l13, l14, l15) =>
 (F_laws_toCharges (i6, l7)).bnd (fun (i16, l17) =>
 (winI l13 0 (lenN l13)).bnd (fun l18 =>
 (winI l14 0 (lenN l14)).bnd (fun l19 =>
 (winI l15 0 (lenN l15)).bnd (fun l20 =>
 (winI l17 0 (lenN l17)).bnd (fun l21 =>
 (F_spec_Conserves ((i10, i11, i12), (l18, l19, l20), i16, l21)).bnd (fun b22 =>
 (F_laws_toTensor (l3, l4, l5)).bnd (fun (l23, l24, l25) =>
 (F_laws_toCharges (i6, l7)).bnd (fun (i26, l27) =>
 (F_laws_toRing (i0, i1, i2)).bnd (fun (i28, i29, i30) =>
 (winI l23 0 (lenN l23)).bnd (fun l31 =>
 (winI l24 0 (lenN l24)).bnd (fun l32 =>
 (winI l25 0 (lenN l25)).bnd (fun l33 =>
 (winI l27 0 (lenN l27)).bnd (fun l34 =>
 (F_impl_Conserves ((i28, i29, i30), (l31, l32, l33), i26, l34)).bnd (fun b35 =>
 cnd (neB b35 b22)
 (some false)
 ((F_laws_toTensor (l3, l4, l5)).bnd (fun (l36, l37, l38) =>
 (winI l23 0 (lenN l23)).bnd (fun l39 =>
 (winI l24 0 (lenN l24)).bnd (fun l40 =>
 (winI l25 0 (lenN l25)).bnd (fun l41 =>
 (winI l36 0 (lenN l36)).bnd (fun l42 =>
 (winI l37 0 (lenN l37)).bnd (fun l43 =>
 (winI l38 0 (lenN l38)).bnd (fun l44 =>
 (F_laws_eqTensor ((l39, l40, l41), l42, l43, l44)).bnd (fun b45 =>
 cnd (notB b45)
 (some false)
 ((F_laws_toCharges (i6, l7)).bnd (fun (i46, l47) =>
 (winI l27 0 (lenN l27)).bnd (fun l48 =>
 (winI l47 0 (lenN l47)).bnd (fun l49 =>
 (F_laws_eqCharges ((i26, l48), i46, l49)).bnd (fun b50 =>
 cnd (notB b50)
 (some false)
 (some true))))))))))))))))))))))))))))))))))))

theorem f_laws_FnExactConserves (x : (Int × Int × Int) × ((List Int) × (List Int) × (List Int)) × (Int × (List (List Int)))) (y : Bool) (h : F_laws_FnExactConserves x = some y) : G_laws_FnExactConserves FUEL x = some y := by
 obtain ⟨⟨a0_0, a0_1, a0_2⟩, ⟨a1_0, a1_1, a1_2⟩, ⟨a2_0, a2_1⟩⟩ := x
 simp only [F_laws_FnExactConserves, Bool.and_eq_true] at h
 split at h
 ·rename_i hw
  rw [← h]
  simp only [G_laws_FnExactConserves]
  rw [szKB (o := F_laws_szTensor ((a1_0, a1_1, a1_2), 1048576)) (s := sz_Tensor (a1_0, a1_1, a1_2)) (if_pos ⟨by constructor <;> omega, hw.1⟩)]
  by_cases c0 : ((sz_Tensor (a1_0, a1_1, a1_2) : Nat) : Int) ≤ 1048576
  case neg => rw [if_neg c0]
  rw [if_pos c0]
  rw [szKB (o := F_laws_szCharges ((a2_0, a2_1), 1048576 - (sz_Tensor (a1_0, a1_1, a1_2) : Nat))) (s := sz_Charges (a2_0, a2_1)) (if_pos ⟨by constructor <;> omega, hw.2⟩)]
  by_cases c1 : ((sz_Charges (a2_0, a2_1) : Nat) : Int) ≤ 1048576 - (sz_Tensor (a1_0, a1_1, a1_2) : Nat)
  case neg => rw [if_neg c1]
  rw [if_pos c1]
  obtain ⟨r0, hs, hi⟩ := ex_Conserves (a0_0, a0_1, a0_2) (a1_0, a1_1, a1_2) (a2_0, a2_1) (by omega) (by omega)
  have t1 : F_laws_toTensor (a1_0, a1_1, a1_2) = some (a1_0, a1_1, a1_2) := tos_Tensor _ (by omega)
  have q1 : F_laws_eqTensor ((a1_0, a1_1, a1_2), (a1_0, a1_1, a1_2)) = some true := eqs_Tensor _ (by omega)
  have := c4_IntS a1_0
  have := c4_IntS a1_1
  have := c4_IntS a1_2
  have t2 : F_laws_toCharges (a2_0, a2_1) = some (a2_0, a2_1) := tos_Charges _ (by omega)
  have q2 : F_laws_eqCharges ((a2_0, a2_1), (a2_0, a2_1)) = some true := eqs_Charges _ (by omega)
  have := c4_IntSS a2_1
  simp only [sz_Tensor, sz_Charges] at *
  have m1 : F_laws_markTensor ((a1_0, a1_1, a1_2), (1 : Int)) = some ((1 : Int) + (cnt_IntS a1_0 : Nat) + (cnt_IntS a1_1 : Nat) + (cnt_IntS a1_2 : Nat), mk_IntS a1_0 ((1 : Int)), mk_IntS a1_1 ((1 : Int) + (cnt_IntS a1_0 : Nat)), mk_IntS a1_2 ((1 : Int) + (cnt_IntS a1_0 : Nat) + (cnt_IntS a1_1 : Nat))) := if_pos ⟨by omega, by (try simp only [sz_Tensor, sz_Charges]); omega⟩
  have m2 : F_laws_markCharges ((a2_0, a2_1), (1 : Int) + (cnt_IntS a1_0 : Nat) + (cnt_IntS a1_1 : Nat) + (cnt_IntS a1_2 : Nat)) = some ((1 : Int) + (cnt_IntS a1_0 : Nat) + (cnt_IntS a1_1 : Nat) + (cnt_IntS a1_2 : Nat) + (cnt_IntSS a2_1 : Nat), mk_IntSS a2_1 ((1 : Int) + (cnt_IntS a1_0 : Nat) + (cnt_IntS a1_1 : Nat) + (cnt_IntS a1_2 : Nat))) := if_pos ⟨by omega, by (try simp only [sz_Tensor, sz_Charges]); omega⟩
  have k0 : ltI ((1 : Int) + (cnt_IntS a1_0 : Nat) + (cnt_IntS a1_1 : Nat) + (cnt_IntS a1_2 : Nat) + (cnt_IntSS a2_1 : Nat)) 0 = false := ltI_f (by omega)
  simp only [toRing_s, bnd_s, winI_id, fulI_id, hs, hi, notB_t, cnd_false, neB_self, neI_self, t1, q1, t2, q2, m1, m2, k0]
 ·cases h
end Go.Am