/- L_AddAutomata: the law FnExactAddAutomata. No condition. -/
import Derived.Test.YtckmnjojabgnoaaM17
set_option linter.unusedVariables false
set_option linter.unusedSimpArgs false
namespace Go.Am
theorem sz_sumSt (n m : Nat) (ms ms2 : List Mx3) (hn : n ≤ 12) (hm : m ≤ 12) : ∀ k, sz_MatrixS (sumSt n m ms ms2 k) ≤ k * 1000 := by
  intro k
  have hNN : (n + m) * (n + m) ≤ 24 * 24 := Nat.mul_le_mul (by omega) (by omega)
  unfold sz_MatrixS
  rw [sumSt_len]
  have : ∀ k, ((sumSt n m ms ms2 k).map sz_Matrix).sum ≤ k * 900 := by
    intro k
    induction k with
    | zero => exact Nat.zero_le _
    | succ k ih =>
      rw [← sumSt_succ, List.map_append, List.sum_append]
      have : sz_Matrix (((n + m : Nat) : Int), ((n + m : Nat) : Int), genD (n + m) (n + m) (sumM n (stM n ms k) (stM m ms2 k))) ≤ 900 := by
        show (genD _ _ _).length ≤ _
        rw [genD_len]; omega
      simp only [List.map_cons, List.map_nil, List.sum_cons, List.sum_nil]
      omega
  have := this k
  omega
theorem ex_AddAutomata (x y : Aut) (h : sz_Automaton x ≤ 1048576) (h' : sz_Automaton y ≤ 1048576) : ∃ r0 r1, F_spec_AddAutomata (x, y) = some (r0, r1) ∧ F_impl_AddAutomata (x, y) = some (r0, r1) ∧ sz_Automaton r0 ≤ 524288 := by
  simp only [F_spec_AddAutomata, F_impl_AddAutomata, if_pos (And.intro h h')]
  by_cases hm : alikeB x y = true ∧ x.2.1 + y.2.1 ≤ 12
  · rw [if_pos hm]
    refine ⟨_, _, rfl, rfl, ?_⟩
    obtain ⟨p, n, m, a, b, a2, b2, ms, ms2, rfl, rfl, H, H2, hl⟩ := alikeB_nat hm.1
    have h1 := sz_sumSt n m ms ms2 H.hn H2.hn ms.length
    have h2 := H.l4
    have h3 := H.al
    have h4 := H2.al
    have h5 := H.bl
    have h6 := H2.bl
    have h7 := H.hn
    have h8 := H2.hn
    show sz_IntS (a ++ a2) + sz_MatrixS (sumSt n m ms ms2 ms.length) + sz_IntS (b ++ b2.map fun v => v * 1 % p) ≤ 524288
    unfold sz_IntS
    rw [List.length_append, List.length_append, List.length_map]
    omega
  · rw [if_neg hm]
    exact ⟨_, _, rfl, rfl, Nat.zero_le _⟩
def F_laws_FnExactAddAutomata : (Int × Int × (List Int) × (List (Int × Int × (List Int))) × (List Int)) × (Int × Int × (List Int) × (List (Int × Int × (List Int))) × (List Int)) → Option Bool := fun ((a0, a1) : (Int × Int × (List Int) × (List (Int × Int × (List Int))) × (List Int)) × (Int × Int × (List Int) × (List (Int × Int × (List Int))) × (List Int))) => if (wf_Automaton a0 && wf_Automaton a1) = true then some true else none

def ag_laws_FnExactAddAutomata : Sig := [(.agg, [.int .i64, .int .i64, .list [.int .i64], .list [.int .i64, .int .i64, .list [.int .i64]], .list [.int .i64]]), (.agg, [.int .i64, .int .i64, .list [.int .i64], .list [.int .i64, .int .i64, .list [.int .i64]], .list [.int .i64]])]
def rs_laws_FnExactAddAutomata : Sig := [(.one, [.bool])]
def mu_laws_FnExactAddAutomata : MSig := []
def G_laws_FnExactAddAutomata (NN : Nat) : ((Int × (Int × ((List Int) × ((List (Int × (Int × (List Int)))) × (List Int))))) × (Int × (Int × ((List Int) × ((List (Int × (Int × (List Int)))) × (List Int)))))) → (Option Bool) :=
 (fun (((i0, i1, l2, l3, l4), i5, i6, l7, l8, l9) : ((Int × (Int × ((List Int) × ((List (Int × (Int × (List Int)))) × (List Int))))) × (Int × (Int × ((List Int) × ((List (Int × (Int × (List Int)))) × (List Int))))))) =>
 (F_laws_szAutomaton ((i0, i1, l2, l3, l4), (1048576 : Int))).bnd (fun (i10 : Int) =>
 cnd (ltI i10 (0 : Int))
 (some true)
 ((F_laws_szAutomaton ((i5, i6, l7, l8, l9), i10)).bnd (fun (i11 : Int) =>
 cnd (ltI i11 (0 : Int))
 (some true)
 ((F_laws_toAutomaton (i0, i1, l2, l3, l4)).bnd (fun ((i12, i13, l14, l15, l16) : (Int × (Int × ((List Int) × ((List (Int × (Int × (List Int)))) × (List Int)))))) =>
 (F_laws_toAutomaton (i5, i6, l7, l8, l9)).bnd (fun ((i17, i18, l19, l20, l21) : (Int × (Int × ((List Int) × ((List (Int × (Int × (List Int)))) × (List Int)))))) =>
 (winI l14 0 (lenN l14)).bnd (fun (l22 : (List Int)) =>
 (winI l15 0 (lenN l15)).bnd (fun (l23 : (List (Int × (Int × (List Int))))) =>
 (winI l16 0 (lenN l16)).bnd (fun (l24 : (List Int)) =>
 (winI l19 0 (lenN l19)).bnd (fun (l25 : (List Int)) =>
 (winI l20 0 (lenN l20)).bnd (fun (l26 : (List (Int × (Int × (List Int))))) =>
 (winI l21 0 (lenN l21)).bnd (fun (l27 : (List Int)) =>
 (F_spec_AddAutomata ((i12, i13, l22, l23, l24), i17, i18, l25, l26, l27)).bnd (fun (((i28, i29, l30, l31, l32), b33) : ((Int × (Int × ((List Int) × ((List (Int × (Int × (List Int)))) × (List Int))))) × Bool)) =>
 (F_laws_toAutomaton (i0, i1, l2, l3, l4)).bnd (fun ((i34, i35, l36, l37, l38) : (Int × (Int × ((List Int) × ((List (Int × (Int × (List Int)))) × (List Int)))))) =>
 (F_laws_toAutomaton (i5, i6, l7, l8, l9)).bnd (fun ((i39, i40, l41, l42, l43) : (Int × (Int × ((List Int) × ((List (Int × (Int × (List Int)))) × (List Int)))))) =>
 (winI l36 0 (lenN l36)).bnd (fun (l44 : (List Int)) =>
 (winI l37 0 (lenN l37)).bnd (fun (l45 : (List (Int × (Int × (List Int))))) =>
 (winI l38 0 (lenN l38)).bnd (fun (l46 : (List Int)) =>
 (winI l41 0 (lenN l41)).bnd (fun (l47 : (List Int)) =>
 (winI l42 0 (lenN l42)).bnd (fun (l48 : (List (Int × (Int × (List Int))))) =>
 (winI l43 0 (lenN l43)).bnd (fun (l49 : (List Int)) =>
 (F_impl_AddAutomata ((i34, i35, l44, l45, l46), i39, i40, l47, l48, l49)).bnd (fun (((i50, i51, l52, l53, l54), b55) : ((Int × (Int × ((List Int) × ((List (Int × (Int × (List Int)))) × (List Int))))) × Bool)) =>
 (winI l52 0 (lenN l52)).bnd (fun (l56 : (List Int)) =>
 (winI l53 0 (lenN l53)).bnd (fun (l57 : (List (Int × (Int × (List Int))))) =>
 (winI l54 0 (lenN l54)).bnd (fun (l58 : (List Int)) =>
 (winI l30 0 (lenN l30)).bnd (fun (l59 : (List Int)) =>
 (winI l31 0 (lenN l31)).bnd (fun (l60 : (List (Int × (Int × (List Int))))) =>
 (winI l32 0 (lenN l32)).bnd (fun (l61 : (List Int)) =>
 (F_laws_eqAutomaton ((i50, i51, l56, l57, l58), i28, i29, l59, l60, l61)).bnd (fun (b62 : Bool) =>
 cnd (notB b62)
 (some false)
 (cnd (neB b55 b33)
 (some false)
 ((F_laws_toAutomaton (i0, i1, l2, l3, l4)).bnd (fun ((i63, i64, l65, l66, l67) : (Int × (Int × ((List Int) × ((List (Int × (Int × (List Int)))) × (List Int)))))) =>
 (winI l36 0 (lenN l36)).bnd (fun (l68 : (List Int)) =>
 (winI l37 0 (lenN l37)).bnd (fun (l69 : (List (Int × (Int × (List Int))))) =>
 (winI l38 0 (lenN l38)).bnd (fun (l70 : (List Int)) =>
 (winI l65 0 (lenN l65)).bnd (fun (l71 : (List Int)) =>
 (winI l66 0 (lenN l66)).bnd (fun (l72 : (List (Int × (Int × (List Int))))) =>
 (winI l67 0 (lenN l67)).bnd (fun (l73 : (List Int)) =>
 (F_laws_eqAutomaton ((i34, i35, l68, l69, l70), i63, i64, l71, l72, l73)).bnd (fun (b74 : Bool) =>
 cnd (notB b74)
 (some false)
 ((F_laws_toAutomaton (i5, i6, l7, l8, l9)).bnd (fun ((i75, i76, l77, l78, l79) : (Int × (Int × ((List Int) × ((List (Int × (Int × (List Int)))) × (List Int)))))) =>
 (winI l41 0 (lenN l41)).bnd (fun (l80 : (List Int)) =>
 (winI l42 0 (lenN l42)).bnd (fun (l81 : (List (Int × (Int × (List Int))))) =>
 (winI l43 0 (lenN l43)).bnd (fun (l82 : (List Int)) =>
 (winI l77 0 (lenN l77)).bnd (fun (l83 : (List Int)) =>
 (winI l78 0 (lenN l78)).bnd (fun (l84 : (List (Int × (Int × (List Int))))) =>
 (winI l79 0 (lenN l79)).bnd (fun (l85 : (List Int)) =>
 (F_laws_eqAutomaton ((i39, i40, l80, l81, l82), i75, i76, l83, l84, l85)).bnd (fun (b86 : Bool) =>
 cnd (notB b86)
 (some false)
 ((fulI 0 (lenN l36) (lenN l36)).bnd (fun (_ : Unit) =>
 (fulI 0 (lenN l37) (lenN l37)).bnd (fun (_ : Unit) =>
 (fulI 0 (lenN l38) (lenN l38)).bnd (fun (_ : Unit) =>
 (F_laws_markAutomaton ((i34, i35, l36, l37, l38), (1 : Int))).bnd (fun ((i87, l88, l89, l90) : (Int × ((List Int) × ((List (Int × (Int × (List Int)))) × (List Int))))) =>
 (fulI 0 (lenN l41) (lenN l41)).bnd (fun (_ : Unit) =>
 (fulI 0 (lenN l42) (lenN l42)).bnd (fun (_ : Unit) =>
 (fulI 0 (lenN l43) (lenN l43)).bnd (fun (_ : Unit) =>
 (F_laws_markAutomaton ((i39, i40, l41, l42, l43), i87)).bnd (fun ((i91, l92, l93, l94) : (Int × ((List Int) × ((List (Int × (Int × (List Int)))) × (List Int))))) =>
 cnd (ltI i91 (0 : Int))
 (some false)
 ((winI l52 0 (lenN l52)).bnd (fun (l95 : (List Int)) =>
 (winI l53 0 (lenN l53)).bnd (fun (l96 : (List (Int × (Int × (List Int))))) =>
 (winI l54 0 (lenN l54)).bnd (fun (l97 : (List Int)) =>
 (winI l30 0 (lenN l30)).bnd (fun (l98 : (List Int)) =>
 (winI l31 0 (lenN l31)).bnd (fun (l99 : (List (Int × (Int × (List Int))))) =>
 (winI l32 0 (lenN l32)).bnd (fun (l100 : (List Int)) =>
 (F_laws_eqAutomaton ((i50, i51, l95, l96, l97), i28, i29, l98, l99, l100)).bnd (fun (b101 : Bool) =>
 cnd (notB b101)
 (some false)
 (cnd (neB b55 b33)
 (some false)
 ((fulI 0 (lenN l52) (lenN l52)).bnd (fun (_ : Unit) =>
 (fulI 0 (lenN l53) (lenN l53)).bnd (fun (_ : Unit) =>
 (fulI 0 (lenN l54) (lenN l54)).bnd (fun (_ : Unit) =>
 (F_laws_markAutomaton ((i50, i51, l52, l53, l54), (1 : Int))).bnd (fun ((i102, l103, l104, l105) : (Int × ((List Int) × ((List (Int × (Int × (List Int)))) × (List Int))))) =>
 (winI l103 0 (lenN l52)).bnd (fun (l106 : (List Int)) =>
 (winI l104 0 (lenN l53)).bnd (fun (l107 : (List (Int × (Int × (List Int))))) =>
 (winI l105 0 (lenN l54)).bnd (fun (l108 : (List Int)) =>
 (F_laws_heldAutomaton ((i50, i51, l106, l107, l108), (1 : Int))).bnd (fun (i109 : Int) =>
 cnd (ltI i109 (0 : Int))
 (some false)
 (cnd (neI i109 i102)
 (some false)
 ((F_laws_toAutomaton (i0, i1, l2, l3, l4)).bnd (fun ((i110, i111, l112, l113, l114) : (Int × (Int × ((List Int) × ((List (Int × (Int × (List Int)))) × (List Int)))))) =>
 (F_laws_toAutomaton (i5, i6, l7, l8, l9)).bnd (fun ((i115, i116, l117, l118, l119) : (Int × (Int × ((List Int) × ((List (Int × (Int × (List Int)))) × (List Int)))))) =>
 (winI l112 0 (lenN l112)).bnd (fun (l120 : (List Int)) =>
 (winI l113 0 (lenN l113)).bnd (fun (l121 : (List (Int × (Int × (List Int))))) =>
 (winI l114 0 (lenN l114)).bnd (fun (l122 : (List Int)) =>
 (winI l117 0 (lenN l117)).bnd (fun (l123 : (List Int)) =>
 (winI l118 0 (lenN l118)).bnd (fun (l124 : (List (Int × (Int × (List Int))))) =>
 (winI l119 0 (lenN l119)).bnd (fun (l125 : (List Int)) =>
 (F_impl_AddAutomata ((i110, i111, l120, l121, l122), i115, i116, l123, l124, l125)).bnd (fun (((i126, i127, l128, l129, l130), b131) : ((Int × (Int × ((List Int) × ((List (Int × (Int × (List Int)))) × (List Int))))) × Bool)) =>
 (winI l128 0 (lenN l128)).bnd (fun (l132 : (List Int)) =>
 (winI l129 0 (lenN l129)).bnd (fun (l133 : (List (Int × (Int × (List Int))))) =>
 (winI l130 0 (lenN l130)).bnd (fun (l134 : (List Int)) =>
 (winI l30 0 (lenN l30)).bnd (fun (l135 : (List Int)) =>
 (winI l31 0 (lenN l31)).bnd (fun (l136 : (List (Int × (Int × (List Int))))) =>
 (winI l32 0 (lenN l32)).bnd (fun (l137 : (List Int)) =>
 (F_laws_eqAutomaton ((i126, i127, l132, l133, l134), i28, i29, l135, l136, l137)).bnd (fun (b138 : Bool) =>
 cnd (notB b138)
 (some false)
 (cnd (neB b131 b33)
 (some false)
 ((winI l103 0 (lenN l52)).bnd (fun (l139 : (List Int)) =>
 (winI l104 0 (lenN l53)).bnd (fun (l140 : (List (Int × (Int × (List Int))))) =>
 (winI l105 0 (lenN l54)).bnd (fun (l141 : (List Int)) =>
 (F_laws_heldAutomaton ((i50, i51, l139, l140, l141), (1 : Int))).bnd (fun (i142 : Int) =>
 cnd (ltI i142 (0 : Int))
 (some false)
 (cnd (neI i142 i102)
 (some false)
 (some true))))))))))))))))))))))))))))))))))))))))))))))))))))))))))))))))))))))))))))))))))))))))))))))))))))))

theorem f_laws_FnExactAddAutomata (x : (Int × Int × (List Int) × (List (Int × Int × (List Int))) × (List Int)) × (Int × Int × (List Int) × (List (Int × Int × (List Int))) × (List Int))) (y : Bool) (h : F_laws_FnExactAddAutomata x = some y) : G_laws_FnExactAddAutomata FUEL x = some y := by
  obtain ⟨⟨a0_0, a0_1, a0_2, a0_3, a0_4⟩, ⟨a1_0, a1_1, a1_2, a1_3, a1_4⟩⟩ := x
  simp only [F_laws_FnExactAddAutomata, Bool.and_eq_true] at h
  split at h
  · rename_i hw
    rw [← h]
    simp only [G_laws_FnExactAddAutomata]
    rw [szKB (o := F_laws_szAutomaton ((a0_0, a0_1, a0_2, a0_3, a0_4), 1048576)) (s := sz_Automaton (a0_0, a0_1, a0_2, a0_3, a0_4)) (if_pos ⟨by constructor <;> omega, hw.1⟩)]
    by_cases c0 : ((sz_Automaton (a0_0, a0_1, a0_2, a0_3, a0_4) : Nat) : Int) ≤ 1048576
    case neg => rw [if_neg c0]
    rw [if_pos c0]
    rw [szKB (o := F_laws_szAutomaton ((a1_0, a1_1, a1_2, a1_3, a1_4), 1048576 - (sz_Automaton (a0_0, a0_1, a0_2, a0_3, a0_4) : Nat))) (s := sz_Automaton (a1_0, a1_1, a1_2, a1_3, a1_4)) (if_pos ⟨by constructor <;> omega, hw.2⟩)]
    by_cases c1 : ((sz_Automaton (a1_0, a1_1, a1_2, a1_3, a1_4) : Nat) : Int) ≤ 1048576 - (sz_Automaton (a0_0, a0_1, a0_2, a0_3, a0_4) : Nat)
    case neg => rw [if_neg c1]
    rw [if_pos c1]
    obtain ⟨r0, r1, hs, hi, z0⟩ := ex_AddAutomata (a0_0, a0_1, a0_2, a0_3, a0_4) (a1_0, a1_1, a1_2, a1_3, a1_4) (by omega) (by omega)
    obtain ⟨r0_0, r0_1, r0_2, r0_3, r0_4⟩ := r0
    have t0 : F_laws_toAutomaton (a0_0, a0_1, a0_2, a0_3, a0_4) = some (a0_0, a0_1, a0_2, a0_3, a0_4) := tos_Automaton _ (by omega)
    have q0 : F_laws_eqAutomaton ((a0_0, a0_1, a0_2, a0_3, a0_4), (a0_0, a0_1, a0_2, a0_3, a0_4)) = some true := eqs_Automaton _ (by omega)
    have := c4_IntS a0_2
    have := c4_MatrixS a0_3
    have := c4_IntS a0_4
    have t1 : F_laws_toAutomaton (a1_0, a1_1, a1_2, a1_3, a1_4) = some (a1_0, a1_1, a1_2, a1_3, a1_4) := tos_Automaton _ (by omega)
    have q1 : F_laws_eqAutomaton ((a1_0, a1_1, a1_2, a1_3, a1_4), (a1_0, a1_1, a1_2, a1_3, a1_4)) = some true := eqs_Automaton _ (by omega)
    have := c4_IntS a1_2
    have := c4_MatrixS a1_3
    have := c4_IntS a1_4
    have w0 : F_laws_eqAutomaton ((r0_0, r0_1, r0_2, r0_3, r0_4), (r0_0, r0_1, r0_2, r0_3, r0_4)) = some true := eqs_Automaton _ (by omega)
    have := c4_IntS r0_2
    have := c4_MatrixS r0_3
    have := c4_IntS r0_4
    simp only [sz_Automaton] at *
    have m0 : F_laws_markAutomaton ((a0_0, a0_1, a0_2, a0_3, a0_4), (1 : Int)) = some ((1 : Int) + (cnt_IntS a0_2 : Nat) + (cnt_MatrixS a0_3 : Nat) + (cnt_IntS a0_4 : Nat), mk_IntS a0_2 ((1 : Int)), mk_MatrixS a0_3 ((1 : Int) + (cnt_IntS a0_2 : Nat)), mk_IntS a0_4 ((1 : Int) + (cnt_IntS a0_2 : Nat) + (cnt_MatrixS a0_3 : Nat))) := if_pos ⟨by omega, by (try simp only [sz_Automaton]); omega⟩
    have m1 : F_laws_markAutomaton ((a1_0, a1_1, a1_2, a1_3, a1_4), (1 : Int) + (cnt_IntS a0_2 : Nat) + (cnt_MatrixS a0_3 : Nat) + (cnt_IntS a0_4 : Nat)) = some ((1 : Int) + (cnt_IntS a0_2 : Nat) + (cnt_MatrixS a0_3 : Nat) + (cnt_IntS a0_4 : Nat) + (cnt_IntS a1_2 : Nat) + (cnt_MatrixS a1_3 : Nat) + (cnt_IntS a1_4 : Nat), mk_IntS a1_2 ((1 : Int) + (cnt_IntS a0_2 : Nat) + (cnt_MatrixS a0_3 : Nat) + (cnt_IntS a0_4 : Nat)), mk_MatrixS a1_3 ((1 : Int) + (cnt_IntS a0_2 : Nat) + (cnt_MatrixS a0_3 : Nat) + (cnt_IntS a0_4 : Nat) + (cnt_IntS a1_2 : Nat)), mk_IntS a1_4 ((1 : Int) + (cnt_IntS a0_2 : Nat) + (cnt_MatrixS a0_3 : Nat) + (cnt_IntS a0_4 : Nat) + (cnt_IntS a1_2 : Nat) + (cnt_MatrixS a1_3 : Nat))) := if_pos ⟨by omega, by (try simp only [sz_Automaton]); omega⟩
    have k0 : ltI ((1 : Int) + (cnt_IntS a0_2 : Nat) + (cnt_MatrixS a0_3 : Nat) + (cnt_IntS a0_4 : Nat) + (cnt_IntS a1_2 : Nat) + (cnt_MatrixS a1_3 : Nat) + (cnt_IntS a1_4 : Nat)) 0 = false := ltI_f (by omega)
    have n0 : F_laws_markAutomaton ((r0_0, r0_1, r0_2, r0_3, r0_4), (1 : Int)) = some ((1 : Int) + (cnt_IntS r0_2 : Nat) + (cnt_MatrixS r0_3 : Nat) + (cnt_IntS r0_4 : Nat), mk_IntS r0_2 ((1 : Int)), mk_MatrixS r0_3 ((1 : Int) + (cnt_IntS r0_2 : Nat)), mk_IntS r0_4 ((1 : Int) + (cnt_IntS r0_2 : Nat) + (cnt_MatrixS r0_3 : Nat))) := if_pos ⟨by omega, by (try simp only [sz_Automaton]); omega⟩
    have d0 : F_laws_heldAutomaton ((r0_0, r0_1, mk_IntS r0_2 ((1 : Int)), mk_MatrixS r0_3 ((1 : Int) + (cnt_IntS r0_2 : Nat)), mk_IntS r0_4 ((1 : Int) + (cnt_IntS r0_2 : Nat) + (cnt_MatrixS r0_3 : Nat))), (1 : Int)) = some ((1 : Int) + (cnt_IntS r0_2 : Nat) + (cnt_MatrixS r0_3 : Nat) + (cnt_IntS r0_4 : Nat)) := hd_Automaton (r0_0, r0_1, r0_2, r0_3, r0_4) ((1 : Int)) ⟨by omega, by (try simp only [sz_Automaton]); omega⟩
    have kk0 : ltI ((1 : Int) + (cnt_IntS r0_2 : Nat) + (cnt_MatrixS r0_3 : Nat) + (cnt_IntS r0_4 : Nat)) 0 = false := ltI_f (by omega)
    have lr0_2 : winI (mk_IntS r0_2 ((1 : Int))) 0 (lenN r0_2) = some (mk_IntS r0_2 ((1 : Int))) := winI_len (lmk_IntS r0_2 ((1 : Int)))
    have lr0_3 : winI (mk_MatrixS r0_3 ((1 : Int) + (cnt_IntS r0_2 : Nat))) 0 (lenN r0_3) = some (mk_MatrixS r0_3 ((1 : Int) + (cnt_IntS r0_2 : Nat))) := winI_len (lmk_MatrixS r0_3 ((1 : Int) + (cnt_IntS r0_2 : Nat)))
    have lr0_4 : winI (mk_IntS r0_4 ((1 : Int) + (cnt_IntS r0_2 : Nat) + (cnt_MatrixS r0_3 : Nat))) 0 (lenN r0_4) = some (mk_IntS r0_4 ((1 : Int) + (cnt_IntS r0_2 : Nat) + (cnt_MatrixS r0_3 : Nat))) := winI_len (lmk_IntS r0_4 ((1 : Int) + (cnt_IntS r0_2 : Nat) + (cnt_MatrixS r0_3 : Nat)))
    simp only [bnd_s, winI_id, fulI_id, hs, hi, notB_t, cnd_false, neB_self, neI_self, t0, q0, t1, q1, w0, m0, m1, k0, n0, d0, kk0, lr0_2, lr0_3, lr0_4]
  · cases h


end Go.Am
