/- L_ConserveTensor: the law FnExactConserveTensor. No condition. -/
import Derived.Test.YtbogogbogdafiaaM64
set_option linter.unusedVariables false
set_option linter.unusedSimpArgs false
namespace Go.Am
theorem ex_ConserveTensor (r : Int × Int × Int) (t : List Int × List Int × List Int) (c : Int × List (List Int)) (h1 : sz_Tensor t ≤ 1048576) (h2 : sz_Charges c ≤ 1048576) : ∃ r0 r1, F_spec_ConserveTensor (r, t, c) = some (r0, r1) ∧ F_impl_ConserveTensor (r, t, c) = some (r0, r1) ∧ sz_Tensor r0 ≤ 1048576 := by
 obtain ⟨L, D, T⟩ := t
 obtain ⟨m, R⟩ := c
 have h1 : L.length + D.length + T.length ≤ 1048576 := h1
 have h2 := sz_IntSS_mem (l := R) h2
 have hd : consDom (r, (L, D, T), m, R) := ⟨⟨by show L.length ≤ _; omega, by show D.length ≤ _; omega, by show T.length ≤ _; omega⟩, ⟨by show L.length ≤ _; omega, by show D.length ≤ _; omega⟩, h2.1, h2.2⟩
 refine ⟨(consX r (L, D, T) (m, R)).1, (consX r (L, D, T) (m, R)).2, if_pos hd, if_pos hd, ?_⟩
 unfold consX
 split
 ·rename_i hg
  obtain ⟨hr, _, _, _, hA, _⟩ := ten_t hg.1
  have hlen := consN_len (D := D) (c := (m, R)) hr hA (prodN D) (Nat.le_refl _)
  show L.length + D.length + (consN r D (m, R) T (prodN D)).length ≤ 1048576
  rw [hlen]
  exact h1
 ·decide
def F_laws_FnExactConserveTensor : (Int × Int × Int) × ((List Int) × (List Int) × (List Int)) × (Int × (List (List Int))) → Option Bool := fun ((a0, a1, a2) : (Int × Int × Int) × ((List Int) × (List Int) × (List Int)) × (Int × (List (List Int)))) => if (wf_Tensor a1 && wf_Charges a2) = true then some true else none
def ag_laws_FnExactConserveTensor : Sig := [(.agg, [.int .i64, .int .i64, .int .i64]), (.agg, [.list [.int .i64], .list [.int .i64], .list [.int .i64]]), (.agg, [.int .i64, .list [.list [.int .i64]]])]
def rs_laws_FnExactConserveTensor : Sig := [(.one, [.bool])]
def mu_laws_FnExactConserveTensor : MSig := []
def G_laws_FnExactConserveTensor (NN : Nat) : ((Int × (Int × Int)) × (((List Int) × ((List Int) × (List Int))) × (Int × (List (List Int))))) → (Option Bool) :=
 (fun (((i0, i1, i2), (l3, l4, l5), i6, l7) : ((Int × (Int × Int)) × (((List Int) × ((List Int) × (List Int))) × (Int × (List (List Int)))))) =>
 (F_laws_szTensor ((l3, l4, l5), (1048576 : Int))).bnd (fun i8 =>
 cnd (ltI i8 (0 : Int))
 (some true)
 ((F_laws_szCharges ((i6, l7), i8)).bnd (fun i9 =>
 cnd (ltI i9 (0 : Int))
 (some true)
 ((F_laws_toRing (i0, i1, i2)).bnd (fun (i10, i11, i12) =>
 (F_laws_toTensor (l3, l4, l5)).bnd (fun (l13, l14, l15) =>
 (F_laws_toCharges (i6, l7)).bnd (fun (i16, l17) =>
 (winI l13 0 (lenN l13)).bnd (fun l18 =>
 (winI l14 0 (lenN l14)).bnd (fun l19 =>
 (winI l15 0 (lenN l15)).bnd (fun l20 =>
 (winI l17 0 (lenN l17)).bnd (fun l21 =>
 (F_spec_ConserveTensor ((i10, i11, i12), (l18, l19, l20), i16, l21)).bnd (fun ((l22, l23, l24), b25) =>
 (F_laws_toTensor (l3, l4, l5)).bnd (fun (l26, l27, l28) =>
 (F_laws_toCharges (i6, l7)).bnd (fun (i29, l30) =>
 (F_laws_toRing (i0, i1, i2)).bnd (fun (i31, i32, i33) =>
 (winI l26 0 (lenN l26)).bnd (fun l34 =>
 (winI l27 0 (lenN l27)).bnd (fun l35 =>
 (winI l28 0 (lenN l28)).bnd (fun l36 =>
 (winI l30 0 (lenN l30)).bnd (fun l37 =>
 (F_impl_ConserveTensor ((i31, i32, i33), (l34, l35, l36), i29, l37)).bnd (fun ((l38, l39, l40), b41) =>
 (winI l38 0 (lenN l38)).bnd (fun l42 =>
 (winI l39 0 (lenN l39)).bnd (fun l43 =>
 (winI l40 0 (lenN l40)).bnd (fun l44 =>
 (winI l22 0 (lenN l22)).bnd (fun l45 =>
 (winI l23 0 (lenN l23)).bnd (fun l46 =>
 (winI l24 0 (lenN l24)).bnd (fun l47 =>
 (F_laws_eqTensor ((l42, l43, l44), l45, l46, l47)).bnd (fun b48 =>
 cnd (notB b48)
 (some false)
 (cnd (neB b41 b25)
 (some false)
 ((F_laws_toTensor (l3, l4, l5)).bnd (fun (l49, l50, l51) =>
 (winI l26 0 (lenN l26)).bnd (fun l52 =>
 (winI l27 0 (lenN l27)).bnd (fun l53 =>
 (winI l28 0 (lenN l28)).bnd (fun l54 =>
 (winI l49 0 (lenN l49)).bnd (fun l55 =>
 (winI l50 0 (lenN l50)).bnd (fun l56 =>
 (winI l51 0 (lenN l51)).bnd (fun l57 =>
 (F_laws_eqTensor ((l52, l53, l54), l55, l56, l57)).bnd (fun b58 =>
 cnd (notB b58)
 (some false)
 ((F_laws_toCharges (i6, l7)).bnd (fun (i59, l60) =>
 (winI l30 0 (lenN l30)).bnd (fun l61 =>
 (winI l60 0 (lenN l60)).bnd (fun l62 =>
 (F_laws_eqCharges ((i29, l61), i59, l62)).bnd (fun b63 =>
 cnd (notB b63)
 (some false)
 ((fulI 0 (lenN l26) (lenN l26)).bnd (fun _ =>
 (fulI 0 (lenN l27) (lenN l27)).bnd (fun _ =>
 (fulI 0 (lenN l28) (lenN l28)).bnd (fun _ =>
 (F_laws_markTensor ((l26, l27, l28), (1 : Int))).bnd (fun (i64, l65, l66, l67) =>
 (fulI 0 (lenN l30) (lenN l30)).bnd (fun _ =>
 (F_laws_markCharges ((i29, l30), i64)).bnd (fun (i68, l69) =>
 cnd (ltI i68 (0 : Int))
 (some false)
 ((winI l38 0 (lenN l38)).bnd (fun l70 =>
 (winI l39 0 (lenN l39)).bnd (fun l71 =>
 (winI l40 0 (lenN l40)).bnd (fun l72 =>
 (winI l22 0 (lenN l22)).bnd (fun l73 =>
 (winI l23 0 (lenN l23)).bnd (fun l74 =>
 (winI l24 0 (lenN l24)).bnd (fun l75 =>
 (F_laws_eqTensor ((l70, l71, l72), l73, l74, l75)).bnd (fun b76 =>
 cnd (notB b76)
 (some false)
 (cnd (neB b41 b25)
 (some false)
 ((fulI 0 (lenN l38) (lenN l38)).bnd (fun _ =>
 (fulI 0 (lenN l39) (lenN l39)).bnd (fun _ =>
 (fulI 0 (lenN l40) (lenN l40)).bnd (fun _ =>
 (F_laws_markTensor ((l38, l39, l40), (1 : Int))).bnd (fun (i77, l78, l79, l80) =>
 (winI l78 0 (lenN l38)).bnd (fun l81 =>
 (winI l79 0 (lenN l39)).bnd (fun l82 =>
 (winI l80 0 (lenN l40)).bnd (fun l83 =>
 (F_laws_heldTensor ((l81, l82, l83), (1 : Int))).bnd (fun i84 =>
 cnd (ltI i84 (0 : Int))
 (some false)
 (cnd (neI i84 i77)
 (some false)
 ((F_laws_toRing (i0, i1, i2)).bnd (fun (i85, i86, i87) =>
 (F_laws_toTensor (l3, l4, l5)).bnd (fun (l88, l89, l90) =>
 (F_laws_toCharges (i6, l7)).bnd (fun (i91, l92) =>
 (winI l88 0 (lenN l88)).bnd (fun l93 =>
 (winI l89 0 (lenN l89)).bnd (fun l94 =>
 (winI l90 0 (lenN l90)).bnd (fun l95 =>
 (winI l92 0 (lenN l92)).bnd (fun l96 =>
 (F_impl_ConserveTensor ((i85, i86, i87), (l93, l94, l95), i91, l96)).bnd (fun ((l97, l98, l99), b100) =>
 (winI l97 0 (lenN l97)).bnd (fun l101 =>
 (winI l98 0 (lenN l98)).bnd (fun l102 =>
 (winI l99 0 (lenN l99)).bnd (fun l103 =>
 (winI l22 0 (lenN l22)).bnd (fun l104 =>
 (winI l23 0 (lenN l23)).bnd (fun l105 =>
 (winI l24 0 (lenN l24)).bnd (fun l106 =>
 (F_laws_eqTensor ((l101, l102, l103), l104, l105, l106)).bnd (fun b107 =>
 cnd (notB b107)
 (some false)
 (cnd (neB b100 b25)
 (some false)
 ((winI l78 0 (lenN l38)).bnd (fun l108 =>
 (winI l79 0 (lenN l39)).bnd (fun l109 =>
 (winI l80 0 (lenN l40)).bnd (fun l110 =>
 (F_laws_heldTensor ((l108, l109, l110), (1 : Int))).bnd (fun i111 =>
 cnd (ltI i111 (0 : Int))
 (some false)
 (cnd (neI i111 i77)
 (some false)
 (some true)))))))))))))))))))))))))))))))))))))))))))))))))))))))))))))))))))))))))))))))))))))))))))))

theorem f_laws_FnExactConserveTensor (x : (Int × Int × Int) × ((List Int) × (List Int) × (List Int)) × (Int × (List (List Int)))) (y : Bool) (h : F_laws_FnExactConserveTensor x = some y) : G_laws_FnExactConserveTensor FUEL x = some y := by
 obtain ⟨⟨a0_0, a0_1, a0_2⟩, ⟨a1_0, a1_1, a1_2⟩, ⟨a2_0, a2_1⟩⟩ := x
 simp only [F_laws_FnExactConserveTensor, Bool.and_eq_true] at h
 split at h
 ·rename_i hw
  rw [← h]
  simp only [G_laws_FnExactConserveTensor]
  rw [szKB (o := F_laws_szTensor ((a1_0, a1_1, a1_2), 1048576)) (s := sz_Tensor (a1_0, a1_1, a1_2)) (if_pos ⟨by constructor <;> omega, hw.1⟩)]
  by_cases c0 : ((sz_Tensor (a1_0, a1_1, a1_2) : Nat) : Int) ≤ 1048576
  case neg => rw [if_neg c0]
  rw [if_pos c0]
  rw [szKB (o := F_laws_szCharges ((a2_0, a2_1), 1048576 - (sz_Tensor (a1_0, a1_1, a1_2) : Nat))) (s := sz_Charges (a2_0, a2_1)) (if_pos ⟨by constructor <;> omega, hw.2⟩)]
  by_cases c1 : ((sz_Charges (a2_0, a2_1) : Nat) : Int) ≤ 1048576 - (sz_Tensor (a1_0, a1_1, a1_2) : Nat)
  case neg => rw [if_neg c1]
  rw [if_pos c1]
  obtain ⟨r0, r1, hs, hi, z0⟩ := ex_ConserveTensor (a0_0, a0_1, a0_2) (a1_0, a1_1, a1_2) (a2_0, a2_1) (by omega) (by omega)
  obtain ⟨r0_0, r0_1, r0_2⟩ := r0
  have t1 : F_laws_toTensor (a1_0, a1_1, a1_2) = some (a1_0, a1_1, a1_2) := tos_Tensor _ (by omega)
  have q1 : F_laws_eqTensor ((a1_0, a1_1, a1_2), (a1_0, a1_1, a1_2)) = some true := eqs_Tensor _ (by omega)
  have := c4_IntS a1_0
  have := c4_IntS a1_1
  have := c4_IntS a1_2
  have t2 : F_laws_toCharges (a2_0, a2_1) = some (a2_0, a2_1) := tos_Charges _ (by omega)
  have q2 : F_laws_eqCharges ((a2_0, a2_1), (a2_0, a2_1)) = some true := eqs_Charges _ (by omega)
  have := c4_IntSS a2_1
  have w0 : F_laws_eqTensor ((r0_0, r0_1, r0_2), (r0_0, r0_1, r0_2)) = some true := eqs_Tensor _ (by omega)
  have := c4_IntS r0_0
  have := c4_IntS r0_1
  have := c4_IntS r0_2
  simp only [sz_Tensor, sz_Charges] at *
  have m1 : F_laws_markTensor ((a1_0, a1_1, a1_2), (1 : Int)) = some ((1 : Int) + (cnt_IntS a1_0 : Nat) + (cnt_IntS a1_1 : Nat) + (cnt_IntS a1_2 : Nat), mk_IntS a1_0 ((1 : Int)), mk_IntS a1_1 ((1 : Int) + (cnt_IntS a1_0 : Nat)), mk_IntS a1_2 ((1 : Int) + (cnt_IntS a1_0 : Nat) + (cnt_IntS a1_1 : Nat))) := if_pos ⟨by omega, by (try simp only [sz_Tensor, sz_Charges]); omega⟩
  have m2 : F_laws_markCharges ((a2_0, a2_1), (1 : Int) + (cnt_IntS a1_0 : Nat) + (cnt_IntS a1_1 : Nat) + (cnt_IntS a1_2 : Nat)) = some ((1 : Int) + (cnt_IntS a1_0 : Nat) + (cnt_IntS a1_1 : Nat) + (cnt_IntS a1_2 : Nat) + (cnt_IntSS a2_1 : Nat), mk_IntSS a2_1 ((1 : Int) + (cnt_IntS a1_0 : Nat) + (cnt_IntS a1_1 : Nat) + (cnt_IntS a1_2 : Nat))) := if_pos ⟨by omega, by (try simp only [sz_Tensor, sz_Charges]); omega⟩
  have k0 : ltI ((1 : Int) + (cnt_IntS a1_0 : Nat) + (cnt_IntS a1_1 : Nat) + (cnt_IntS a1_2 : Nat) + (cnt_IntSS a2_1 : Nat)) 0 = false := ltI_f (by omega)
  have n0 : F_laws_markTensor ((r0_0, r0_1, r0_2), (1 : Int)) = some ((1 : Int) + (cnt_IntS r0_0 : Nat) + (cnt_IntS r0_1 : Nat) + (cnt_IntS r0_2 : Nat), mk_IntS r0_0 ((1 : Int)), mk_IntS r0_1 ((1 : Int) + (cnt_IntS r0_0 : Nat)), mk_IntS r0_2 ((1 : Int) + (cnt_IntS r0_0 : Nat) + (cnt_IntS r0_1 : Nat))) := if_pos ⟨by omega, by (try simp only [sz_Tensor, sz_Charges]); omega⟩
  have d0 : F_laws_heldTensor ((mk_IntS r0_0 ((1 : Int)), mk_IntS r0_1 ((1 : Int) + (cnt_IntS r0_0 : Nat)), mk_IntS r0_2 ((1 : Int) + (cnt_IntS r0_0 : Nat) + (cnt_IntS r0_1 : Nat))), (1 : Int)) = some ((1 : Int) + (cnt_IntS r0_0 : Nat) + (cnt_IntS r0_1 : Nat) + (cnt_IntS r0_2 : Nat)) := hd_Tensor (r0_0, r0_1, r0_2) ((1 : Int)) ⟨by omega, by (try simp only [sz_Tensor, sz_Charges]); omega⟩
  have kk0 : ltI ((1 : Int) + (cnt_IntS r0_0 : Nat) + (cnt_IntS r0_1 : Nat) + (cnt_IntS r0_2 : Nat)) 0 = false := ltI_f (by omega)
  have lr0_0 : winI (mk_IntS r0_0 ((1 : Int))) 0 (lenN r0_0) = some (mk_IntS r0_0 ((1 : Int))) := winI_len (lmk_IntS r0_0 ((1 : Int)))
  have lr0_1 : winI (mk_IntS r0_1 ((1 : Int) + (cnt_IntS r0_0 : Nat))) 0 (lenN r0_1) = some (mk_IntS r0_1 ((1 : Int) + (cnt_IntS r0_0 : Nat))) := winI_len (lmk_IntS r0_1 ((1 : Int) + (cnt_IntS r0_0 : Nat)))
  have lr0_2 : winI (mk_IntS r0_2 ((1 : Int) + (cnt_IntS r0_0 : Nat) + (cnt_IntS r0_1 : Nat))) 0 (lenN r0_2) = some (mk_IntS r0_2 ((1 : Int) + (cnt_IntS r0_0 : Nat) + (cnt_IntS r0_1 : Nat))) := winI_len (lmk_IntS r0_2 ((1 : Int) + (cnt_IntS r0_0 : Nat) + (cnt_IntS r0_1 : Nat)))
  simp only [toRing_s, bnd_s, winI_id, fulI_id, hs, hi, notB_t, cnd_false, neB_self, neI_self, t1, q1, t2, q2, w0, m1, m2, k0, n0, d0, kk0, lr0_0, lr0_1, lr0_2]
 ·cases h
end Go.Am