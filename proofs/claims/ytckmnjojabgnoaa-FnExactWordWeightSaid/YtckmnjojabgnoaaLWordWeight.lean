/- L_WordWeight: the law FnExactWordWeight. No condition. -/
import Derived.Test.YtckmnjojabgnoaaM16
set_option linter.unusedVariables false
set_option linter.unusedSimpArgs false
namespace Go.Am
def F_laws_FnExactWordWeight : (Int × Int × (List Int) × (List (Int × Int × (List Int))) × (List Int)) × (List Int) → Option Bool := fun ((a0, a1) : (Int × Int × (List Int) × (List (Int × Int × (List Int))) × (List Int)) × (List Int)) => if (wf_Automaton a0 && wf_IntS a1) = true then some true else none
def ag_laws_FnExactWordWeight : Sig := [(.agg, [.int .i64, .int .i64, .list [.int .i64], .list [.int .i64, .int .i64, .list [.int .i64]], .list [.int .i64]]), (.one, [.list [.int .i64]])]
def rs_laws_FnExactWordWeight : Sig := [(.one, [.bool])]
def mu_laws_FnExactWordWeight : MSig := []
def G_laws_FnExactWordWeight (NN : Nat) : ((Int × (Int × ((List Int) × ((List (Int × (Int × (List Int)))) × (List Int))))) × (List Int)) → (Option Bool) :=
 (fun (((i0, i1, l2, l3, l4), l5) : ((Int × (Int × ((List Int) × ((List (Int × (Int × (List Int)))) × (List Int))))) × (List Int))) =>
 cnd (ltI (1048576 : Int) (natI (lenN l5)))
 (some true)
 ((F_laws_szAutomaton ((i0, i1, l2, l3, l4), (1048576 : Int))).bnd (fun (i6 : Int) =>
 cnd (ltI i6 (0 : Int))
 (some true)
 ((F_laws_toAutomaton (i0, i1, l2, l3, l4)).bnd (fun ((i7, i8, l9, l10, l11) : (Int × (Int × ((List Int) × ((List (Int × (Int × (List Int)))) × (List Int)))))) =>
 (F_laws_toIntS l5).bnd (fun (l12 : (List Int)) =>
 (winI l9 0 (lenN l9)).bnd (fun (l13 : (List Int)) =>
 (winI l10 0 (lenN l10)).bnd (fun (l14 : (List (Int × (Int × (List Int))))) =>
 (winI l11 0 (lenN l11)).bnd (fun (l15 : (List Int)) =>
 (winI l12 0 (lenN l12)).bnd (fun (l16 : (List Int)) =>
 (F_spec_WordWeight ((i7, i8, l13, l14, l15), l16)).bnd (fun (i17 : Int) =>
 (F_laws_toAutomaton (i0, i1, l2, l3, l4)).bnd (fun ((i18, i19, l20, l21, l22) : (Int × (Int × ((List Int) × ((List (Int × (Int × (List Int)))) × (List Int)))))) =>
 (F_laws_toIntS l5).bnd (fun (l23 : (List Int)) =>
 (winI l20 0 (lenN l20)).bnd (fun (l24 : (List Int)) =>
 (winI l21 0 (lenN l21)).bnd (fun (l25 : (List (Int × (Int × (List Int))))) =>
 (winI l22 0 (lenN l22)).bnd (fun (l26 : (List Int)) =>
 (winI l23 0 (lenN l23)).bnd (fun (l27 : (List Int)) =>
 (F_impl_WordWeight ((i18, i19, l24, l25, l26), l27)).bnd (fun (i28 : Int) =>
 cnd (neI i28 i17)
 (some false)
 ((F_laws_toAutomaton (i0, i1, l2, l3, l4)).bnd (fun ((i29, i30, l31, l32, l33) : (Int × (Int × ((List Int) × ((List (Int × (Int × (List Int)))) × (List Int)))))) =>
 (winI l20 0 (lenN l20)).bnd (fun (l34 : (List Int)) =>
 (winI l21 0 (lenN l21)).bnd (fun (l35 : (List (Int × (Int × (List Int))))) =>
 (winI l22 0 (lenN l22)).bnd (fun (l36 : (List Int)) =>
 (winI l31 0 (lenN l31)).bnd (fun (l37 : (List Int)) =>
 (winI l32 0 (lenN l32)).bnd (fun (l38 : (List (Int × (Int × (List Int))))) =>
 (winI l33 0 (lenN l33)).bnd (fun (l39 : (List Int)) =>
 (F_laws_eqAutomaton ((i18, i19, l34, l35, l36), i29, i30, l37, l38, l39)).bnd (fun (b40 : Bool) =>
 cnd (notB b40)
 (some false)
 ((F_laws_toIntS l5).bnd (fun (l41 : (List Int)) =>
 (winI l23 0 (lenN l23)).bnd (fun (l42 : (List Int)) =>
 (winI l41 0 (lenN l41)).bnd (fun (l43 : (List Int)) =>
 (F_laws_eqIntS (l42, l43)).bnd (fun (b44 : Bool) =>
 cnd (notB b44)
 (some false)
 (some true)))))))))))))))))))))))))))))))))

theorem f_laws_FnExactWordWeight (x : (Int × Int × (List Int) × (List (Int × Int × (List Int))) × (List Int)) × (List Int)) (y : Bool) (h : F_laws_FnExactWordWeight x = some y) : G_laws_FnExactWordWeight FUEL x = some y := by
  obtain ⟨⟨a0_0, a0_1, a0_2, a0_3, a0_4⟩, a1⟩ := x
  simp only [F_laws_FnExactWordWeight, Bool.and_eq_true] at h
  split at h
  · rename_i hw
    rw [← h]
    simp only [G_laws_FnExactWordWeight]
    rw [nl]
    by_cases cl : (a1.length : Int) ≤ 1048576
    case neg => rw [cnd_t (ltI_t (by omega))]
    rw [cnd_f (ltI_f (by omega))]
    rw [szKB (o := F_laws_szAutomaton ((a0_0, a0_1, a0_2, a0_3, a0_4), 1048576)) (s := sz_Automaton (a0_0, a0_1, a0_2, a0_3, a0_4)) (if_pos ⟨by constructor <;> omega, hw.1⟩)]
    by_cases c0 : ((sz_Automaton (a0_0, a0_1, a0_2, a0_3, a0_4) : Nat) : Int) ≤ 1048576
    case neg => rw [if_neg c0]
    rw [if_pos c0]
    obtain ⟨r0, hs, hi⟩ : ∃ r0, F_spec_WordWeight ((a0_0, a0_1, a0_2, a0_3, a0_4), a1) = some r0 ∧ F_impl_WordWeight ((a0_0, a0_1, a0_2, a0_3, a0_4), a1) = some r0 :=
      ⟨_, if_pos ⟨by show sz_Automaton (a0_0, a0_1, a0_2, a0_3, a0_4) ≤ _; omega, by show a1.length ≤ _; omega⟩, if_pos ⟨by show sz_Automaton (a0_0, a0_1, a0_2, a0_3, a0_4) ≤ _; omega, by show a1.length ≤ _; omega⟩⟩
    have hz : sz_IntS a1 ≤ 1048576 := by show a1.length ≤ _; omega
    have t0 : F_laws_toAutomaton (a0_0, a0_1, a0_2, a0_3, a0_4) = some (a0_0, a0_1, a0_2, a0_3, a0_4) := tos_Automaton _ (by omega)
    have q0 : F_laws_eqAutomaton ((a0_0, a0_1, a0_2, a0_3, a0_4), (a0_0, a0_1, a0_2, a0_3, a0_4)) = some true := eqs_Automaton _ (by omega)
    have t1 : F_laws_toIntS a1 = some a1 := tos_IntS _ (by omega)
    have q1 : F_laws_eqIntS (a1, a1) = some true := eqs_IntS _ (by omega)
    simp only [bnd_s, winI_id, fulI_id, hs, hi, notB_t, cnd_false, neB_self, neI_self, t0, q0, t1, q1]
  · cases h
end Go.Am
