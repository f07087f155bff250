/- L_AutomatonChain: the law FnExactAutomatonChain. No condition. -/
import Derived.Test.YtckmnjojabgnoaaM28
set_option linter.unusedVariables false
set_option linter.unusedSimpArgs false
namespace Go.Am
theorem acR_sz (x : Aut) (c : Int) : sz_Chain (if autOk x = true ∧ 1 ≤ c ∧ c ≤ 8 then bondR2 x.1 (acC x.1 x.2.1.toNat x.2.2.1 x.2.2.2.1 x.2.2.2.2 c.toNat c.toNat) else ((0, []), false)).1 ≤ 131072 := by
  split
  · rename_i h
    obtain ⟨p, n, a, ms, b, rfl, H⟩ := autOk_nat h.1
    obtain ⟨N, rfl⟩ := natI_eq (show 0 ≤ c by omega)
    simp only [Int.toNat_natCast]
    unfold bondR2
    split
    · exact acC_sz H (by omega)
    · exact Nat.zero_le _
  · exact Nat.zero_le _

theorem ex_AutomatonChain (x : Aut) (c : Int) (h : sz_Automaton x ≤ 1048576) : ∃ r0 r1, F_spec_AutomatonChain (x, c) = some (r0, r1) ∧ F_impl_AutomatonChain (x, c) = some (r0, r1) ∧ sz_Chain r0 ≤ 524288 :=
  ⟨_, _, if_pos h, if_pos h, Nat.le_trans (acR_sz x c) (by decide)⟩
def F_laws_FnExactAutomatonChain : (Int × Int × (List Int) × (List (Int × Int × (List Int))) × (List Int)) × Int → Option Bool := fun ((a0, a1) : (Int × Int × (List Int) × (List (Int × Int × (List Int))) × (List Int)) × Int) => if (wf_Automaton a0) = true then some true else none

def ag_laws_FnExactAutomatonChain : Sig := [(.agg, [.int .i64, .int .i64, .list [.int .i64], .list [.int .i64, .int .i64, .list [.int .i64]], .list [.int .i64]]), (.one, [.int .i64])]
def rs_laws_FnExactAutomatonChain : Sig := [(.one, [.bool])]
def mu_laws_FnExactAutomatonChain : MSig := []
def G_laws_FnExactAutomatonChain (NN : Nat) : ((Int × (Int × ((List Int) × ((List (Int × (Int × (List Int)))) × (List Int))))) × Int) → (Option Bool) :=
 (fun (((i0, i1, l2, l3, l4), i5) : ((Int × (Int × ((List Int) × ((List (Int × (Int × (List Int)))) × (List Int))))) × Int)) =>
 (F_laws_szAutomaton ((i0, i1, l2, l3, l4), (1048576 : Int))).bnd (fun i6 =>
 cnd (ltI i6 (0 : Int))
 (some true)
 ((F_laws_toAutomaton (i0, i1, l2, l3, l4)).bnd (fun (i7, i8, l9, l10, l11) =>
 (winI l9 0 (lenN l9)).bnd (fun l12 =>
 (winI l10 0 (lenN l10)).bnd (fun l13 =>
 (winI l11 0 (lenN l11)).bnd (fun l14 =>
 (F_spec_AutomatonChain ((i7, i8, l12, l13, l14), i5)).bnd (fun ((i15, l16), b17) =>
 (F_laws_toAutomaton (i0, i1, l2, l3, l4)).bnd (fun (i18, i19, l20, l21, l22) =>
 (winI l20 0 (lenN l20)).bnd (fun l23 =>
 (winI l21 0 (lenN l21)).bnd (fun l24 =>
 (winI l22 0 (lenN l22)).bnd (fun l25 =>
 (F_impl_AutomatonChain ((i18, i19, l23, l24, l25), i5)).bnd (fun ((i26, l27), b28) =>
 (winI l27 0 (lenN l27)).bnd (fun l29 =>
 (winI l16 0 (lenN l16)).bnd (fun l30 =>
 (F_laws_eqChain ((i26, l29), i15, l30)).bnd (fun b31 =>
 cnd (notB b31)
 (some false)
 (cnd (neB b28 b17)
 (some false)
 ((F_laws_toAutomaton (i0, i1, l2, l3, l4)).bnd (fun (i32, i33, l34, l35, l36) =>
 (winI l20 0 (lenN l20)).bnd (fun l37 =>
 (winI l21 0 (lenN l21)).bnd (fun l38 =>
 (winI l22 0 (lenN l22)).bnd (fun l39 =>
 (winI l34 0 (lenN l34)).bnd (fun l40 =>
 (winI l35 0 (lenN l35)).bnd (fun l41 =>
 (winI l36 0 (lenN l36)).bnd (fun l42 =>
 (F_laws_eqAutomaton ((i18, i19, l37, l38, l39), i32, i33, l40, l41, l42)).bnd (fun b43 =>
 cnd (notB b43)
 (some false)
 ((fulI 0 (lenN l20) (lenN l20)).bnd (fun _ =>
 (fulI 0 (lenN l21) (lenN l21)).bnd (fun _ =>
 (fulI 0 (lenN l22) (lenN l22)).bnd (fun _ =>
 (F_laws_markAutomaton ((i18, i19, l20, l21, l22), (1 : Int))).bnd (fun (i44, l45, l46, l47) =>
 cnd (ltI i44 (0 : Int))
 (some false)
 ((winI l27 0 (lenN l27)).bnd (fun l48 =>
 (winI l16 0 (lenN l16)).bnd (fun l49 =>
 (F_laws_eqChain ((i26, l48), i15, l49)).bnd (fun b50 =>
 cnd (notB b50)
 (some false)
 (cnd (neB b28 b17)
 (some false)
 ((fulI 0 (lenN l27) (lenN l27)).bnd (fun _ =>
 (F_laws_markChain ((i26, l27), (1 : Int))).bnd (fun (i51, l52) =>
 (winI l52 0 (lenN l27)).bnd (fun l53 =>
 (F_laws_heldChain ((i26, l53), (1 : Int))).bnd (fun i54 =>
 cnd (ltI i54 (0 : Int))
 (some false)
 (cnd (neI i54 i51)
 (some false)
 ((F_laws_toAutomaton (i0, i1, l2, l3, l4)).bnd (fun (i55, i56, l57, l58, l59) =>
 (winI l57 0 (lenN l57)).bnd (fun l60 =>
 (winI l58 0 (lenN l58)).bnd (fun l61 =>
 (winI l59 0 (lenN l59)).bnd (fun l62 =>
 (F_impl_AutomatonChain ((i55, i56, l60, l61, l62), i5)).bnd (fun ((i63, l64), b65) =>
 (winI l64 0 (lenN l64)).bnd (fun l66 =>
 (winI l16 0 (lenN l16)).bnd (fun l67 =>
 (F_laws_eqChain ((i63, l66), i15, l67)).bnd (fun b68 =>
 cnd (notB b68)
 (some false)
 (cnd (neB b65 b17)
 (some false)
 ((winI l52 0 (lenN l27)).bnd (fun l69 =>
 (F_laws_heldChain ((i26, l69), (1 : Int))).bnd (fun i70 =>
 cnd (ltI i70 (0 : Int))
 (some false)
 (cnd (neI i70 i51)
 (some false)
 (some true)))))))))))))))))))))))))))))))))))))))))))))))))))))))))

theorem f_laws_FnExactAutomatonChain (x : (Int × Int × (List Int) × (List (Int × Int × (List Int))) × (List Int)) × Int) (y : Bool) (h : F_laws_FnExactAutomatonChain x = some y) : G_laws_FnExactAutomatonChain FUEL x = some y := by
  obtain ⟨⟨a0_0, a0_1, a0_2, a0_3, a0_4⟩, a1⟩ := x
  simp only [F_laws_FnExactAutomatonChain] at h
  split at h
  · rename_i hw
    rw [← h]
    simp only [G_laws_FnExactAutomatonChain]
    rw [szKB (o := F_laws_szAutomaton ((a0_0, a0_1, a0_2, a0_3, a0_4), 1048576)) (s := sz_Automaton (a0_0, a0_1, a0_2, a0_3, a0_4)) (if_pos ⟨by constructor <;> omega, hw⟩)]
    by_cases c0 : ((sz_Automaton (a0_0, a0_1, a0_2, a0_3, a0_4) : Nat) : Int) ≤ 1048576
    case neg => rw [if_neg c0]
    rw [if_pos c0]
    obtain ⟨r0, r1, hs, hi, z0⟩ := ex_AutomatonChain (a0_0, a0_1, a0_2, a0_3, a0_4) a1 (by omega)
    obtain ⟨r0_0, r0_1⟩ := r0
    have t0 : F_laws_toAutomaton (a0_0, a0_1, a0_2, a0_3, a0_4) = some (a0_0, a0_1, a0_2, a0_3, a0_4) := tos_Automaton _ (by omega)
    have q0 : F_laws_eqAutomaton ((a0_0, a0_1, a0_2, a0_3, a0_4), (a0_0, a0_1, a0_2, a0_3, a0_4)) = some true := eqs_Automaton _ (by omega)
    have := c4_IntS a0_2
    have := c4_MatrixS a0_3
    have := c4_IntS a0_4
    have w0 : F_laws_eqChain ((r0_0, r0_1), (r0_0, r0_1)) = some true := eqs_Chain _ (by omega)
    have := c4_SiteS r0_1
    simp only [sz_Automaton, sz_Chain] at *
    have m0 : F_laws_markAutomaton ((a0_0, a0_1, a0_2, a0_3, a0_4), (1 : Int)) = some ((1 : Int) + (cnt_IntS a0_2 : Nat) + (cnt_MatrixS a0_3 : Nat) + (cnt_IntS a0_4 : Nat), mk_IntS a0_2 ((1 : Int)), mk_MatrixS a0_3 ((1 : Int) + (cnt_IntS a0_2 : Nat)), mk_IntS a0_4 ((1 : Int) + (cnt_IntS a0_2 : Nat) + (cnt_MatrixS a0_3 : Nat))) := if_pos ⟨by omega, by (try simp only [sz_Automaton, sz_Chain]); omega⟩
    have k0 : ltI ((1 : Int) + (cnt_IntS a0_2 : Nat) + (cnt_MatrixS a0_3 : Nat) + (cnt_IntS a0_4 : Nat)) 0 = false := ltI_f (by omega)
    have n0 : F_laws_markChain ((r0_0, r0_1), (1 : Int)) = some ((1 : Int) + (cnt_SiteS r0_1 : Nat), mk_SiteS r0_1 ((1 : Int))) := if_pos ⟨by omega, by (try simp only [sz_Automaton, sz_Chain]); omega⟩
    have d0 : F_laws_heldChain ((r0_0, mk_SiteS r0_1 ((1 : Int))), (1 : Int)) = some ((1 : Int) + (cnt_SiteS r0_1 : Nat)) := hd_Chain (r0_0, r0_1) ((1 : Int)) ⟨by omega, by (try simp only [sz_Automaton, sz_Chain]); omega⟩
    have kk0 : ltI ((1 : Int) + (cnt_SiteS r0_1 : Nat)) 0 = false := ltI_f (by omega)
    have lr0_1 : winI (mk_SiteS r0_1 ((1 : Int))) 0 (lenN r0_1) = some (mk_SiteS r0_1 ((1 : Int))) := winI_len (lmk_SiteS r0_1 ((1 : Int)))
    simp only [bnd_s, winI_id, fulI_id, hs, hi, notB_t, cnd_false, neB_self, neI_self, t0, q0, w0, m0, k0, n0, d0, kk0, lr0_1]
  · cases h


end Go.Am
