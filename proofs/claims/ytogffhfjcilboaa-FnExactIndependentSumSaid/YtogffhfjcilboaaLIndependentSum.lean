/- L_IndependentSum: the law FnExactIndependentSum. No condition. -/
import Derived.Test.YtogffhfjcilboaaM32
set_option linter.unusedVariables false
set_option linter.unusedSimpArgs false
namespace Go.Am
theorem indSum_len (r : Int × Int × Int) (g : Int × List (Int × Int)) (x : List Int) : (indSum r g x).length ≤ 6 := by
  unfold indSum
  split
  · rename_i hc
    obtain ⟨hr, hg, hx⟩ := cover_t hc
    rw [el_len (el_ind hr hx _)]
    exact (wid_bd hr).2.2
  · exact Nat.zero_le _
theorem ex_IndependentSum (r : Int × Int × Int) (g : Int × List (Int × Int)) (x : List Int) (h1 : sz_Graph g ≤ 1048576) (h2 : sz_IntS x ≤ 1048576) : ∃ r0, F_spec_IndependentSum (r, g, x) = some r0 ∧ F_impl_IndependentSum (r, g, x) = some r0 ∧ sz_IntS r0 ≤ 1048576 := by
  have hl : x.length ≤ 9223372036854775806 := Nat.le_trans (show x.length ≤ 1048576 from h2) (by decide)
  refine ⟨_, if_pos hl, if_pos hl, ?_⟩
  exact Nat.le_trans (indSum_len r g x) (by decide)
def F_laws_FnExactIndependentSum : (Int × Int × Int) × (Int × (List (Int × Int))) × (List Int) → Option Bool := fun ((a0, a1, a2) : (Int × Int × Int) × (Int × (List (Int × Int))) × (List Int)) => if (wf_Graph a1 && wf_IntS a2) = true then some true else none

def ag_laws_FnExactIndependentSum : Sig := [(.agg, [.int .i64, .int .i64, .int .i64]), (.agg, [.int .i64, .list [.int .i64, .int .i64]]), (.one, [.list [.int .i64]])]
def rs_laws_FnExactIndependentSum : Sig := [(.one, [.bool])]
def mu_laws_FnExactIndependentSum : MSig := []
def G_laws_FnExactIndependentSum (NN : Nat) : ((Int × (Int × Int)) × ((Int × (List (Int × Int))) × (List Int))) → (Option Bool) :=
 (fun (((i0, i1, i2), (i3, l4), l5) : ((Int × (Int × Int)) × ((Int × (List (Int × Int))) × (List Int)))) =>
 cnd (ltI (1048576 : Int) (natI (lenN l5)))
 (some true)
 ((F_laws_szGraph ((i3, l4), (1048576 : Int))).bnd (fun i6 =>
 cnd (ltI i6 (0 : Int))
 (some true)
 ((F_laws_toRing (i0, i1, i2)).bnd (fun (i7, i8, i9) =>
 (F_laws_toGraph (i3, l4)).bnd (fun (i10, l11) =>
 (F_laws_toIntS l5).bnd (fun l12 =>
 (winI l11 0 (lenN l11)).bnd (fun l13 =>
 (winI l12 0 (lenN l12)).bnd (fun l14 =>
 (F_spec_IndependentSum ((i7, i8, i9), (i10, l13), l14)).bnd (fun l15 =>
 (F_laws_toGraph (i3, l4)).bnd (fun (i16, l17) =>
 (F_laws_toIntS l5).bnd (fun l18 =>
 (F_laws_toRing (i0, i1, i2)).bnd (fun (i19, i20, i21) =>
 (winI l17 0 (lenN l17)).bnd (fun l22 =>
 (winI l18 0 (lenN l18)).bnd (fun l23 =>
 (F_impl_IndependentSum ((i19, i20, i21), (i16, l22), l23)).bnd (fun l24 =>
 (winI l24 0 (lenN l24)).bnd (fun l25 =>
 (winI l15 0 (lenN l15)).bnd (fun l26 =>
 (F_laws_eqIntS (l25, l26)).bnd (fun b27 =>
 cnd (notB b27)
 (some false)
 ((F_laws_toGraph (i3, l4)).bnd (fun (i28, l29) =>
 (winI l17 0 (lenN l17)).bnd (fun l30 =>
 (winI l29 0 (lenN l29)).bnd (fun l31 =>
 (F_laws_eqGraph ((i16, l30), i28, l31)).bnd (fun b32 =>
 cnd (notB b32)
 (some false)
 ((F_laws_toIntS l5).bnd (fun l33 =>
 (winI l18 0 (lenN l18)).bnd (fun l34 =>
 (winI l33 0 (lenN l33)).bnd (fun l35 =>
 (F_laws_eqIntS (l34, l35)).bnd (fun b36 =>
 cnd (notB b36)
 (some false)
 ((fulI 0 (lenN l17) (lenN l17)).bnd (fun _ =>
 (F_laws_markGraph ((i16, l17), (1 : Int))).bnd (fun (i37, l38) =>
 (fulI 0 (lenN l18) (lenN l18)).bnd (fun _ =>
 (F_laws_markIntS (l18, i37)).bnd (fun (i39, l40) =>
 cnd (ltI i39 (0 : Int))
 (some false)
 ((winI l24 0 (lenN l24)).bnd (fun l41 =>
 (winI l15 0 (lenN l15)).bnd (fun l42 =>
 (F_laws_eqIntS (l41, l42)).bnd (fun b43 =>
 cnd (notB b43)
 (some false)
 ((fulI 0 (lenN l24) (lenN l24)).bnd (fun _ =>
 (F_laws_markIntS (l24, (1 : Int))).bnd (fun (i44, l45) =>
 (winI l45 0 (lenN l24)).bnd (fun l46 =>
 (F_laws_heldIntS (l46, (1 : Int))).bnd (fun i47 =>
 cnd (ltI i47 (0 : Int))
 (some false)
 (cnd (neI i47 i44)
 (some false)
 ((F_laws_toRing (i0, i1, i2)).bnd (fun (i48, i49, i50) =>
 (F_laws_toGraph (i3, l4)).bnd (fun (i51, l52) =>
 (F_laws_toIntS l5).bnd (fun l53 =>
 (winI l52 0 (lenN l52)).bnd (fun l54 =>
 (winI l53 0 (lenN l53)).bnd (fun l55 =>
 (F_impl_IndependentSum ((i48, i49, i50), (i51, l54), l55)).bnd (fun l56 =>
 (winI l56 0 (lenN l56)).bnd (fun l57 =>
 (winI l15 0 (lenN l15)).bnd (fun l58 =>
 (F_laws_eqIntS (l57, l58)).bnd (fun b59 =>
 cnd (notB b59)
 (some false)
 ((winI l45 0 (lenN l24)).bnd (fun l60 =>
 (F_laws_heldIntS (l60, (1 : Int))).bnd (fun i61 =>
 cnd (ltI i61 (0 : Int))
 (some false)
 (cnd (neI i61 i44)
 (some false)
 (some true)))))))))))))))))))))))))))))))))))))))))))))))))))))))))))

theorem f_laws_FnExactIndependentSum (x : (Int × Int × Int) × (Int × (List (Int × Int))) × (List Int)) (y : Bool) (h : F_laws_FnExactIndependentSum x = some y) : G_laws_FnExactIndependentSum FUEL x = some y := by
  obtain ⟨⟨a0_0, a0_1, a0_2⟩, ⟨a1_0, a1_1⟩, a2⟩ := x
  simp only [F_laws_FnExactIndependentSum, Bool.and_eq_true] at h
  split at h
  · rename_i hw
    rw [← h]
    simp only [G_laws_FnExactIndependentSum]
    rw [nl]
    by_cases cl2 : (a2.length : Int) ≤ 1048576
    case neg => rw [cnd_t (ltI_t (by omega))]
    rw [cnd_f (ltI_f (by omega))]
    have hz2 : sz_IntS a2 ≤ 1048576 := by show a2.length ≤ _; omega
    rw [szKB (o := F_laws_szGraph ((a1_0, a1_1), 1048576)) (s := sz_Graph (a1_0, a1_1)) (if_pos ⟨by constructor <;> omega, hw.1⟩)]
    by_cases c0 : ((sz_Graph (a1_0, a1_1) : Nat) : Int) ≤ 1048576
    case neg => rw [if_neg c0]
    rw [if_pos c0]
    obtain ⟨r0, hs, hi, z0⟩ := ex_IndependentSum (a0_0, a0_1, a0_2) (a1_0, a1_1) a2 (by omega) (by omega)
    have t1 : F_laws_toGraph (a1_0, a1_1) = some (a1_0, a1_1) := tos_Graph _ (by omega)
    have q1 : F_laws_eqGraph ((a1_0, a1_1), (a1_0, a1_1)) = some true := eqs_Graph _ (by omega)
    have := c4_EdgeS a1_1
    have t2 : F_laws_toIntS a2 = some a2 := tos_IntS _ (by omega)
    have q2 : F_laws_eqIntS (a2, a2) = some true := eqs_IntS _ (by omega)
    have := c4_IntS a2
    have w0 : F_laws_eqIntS (r0, r0) = some true := eqs_IntS _ (by omega)
    have := c4_IntS r0
    simp only [sz_Graph] at *
    have m1 : F_laws_markGraph ((a1_0, a1_1), (1 : Int)) = some ((1 : Int) + (cnt_EdgeS a1_1 : Nat), mk_EdgeS a1_1 ((1 : Int))) := if_pos ⟨by omega, by (try simp only [sz_Graph]); omega⟩
    have m2 : F_laws_markIntS (a2, (1 : Int) + (cnt_EdgeS a1_1 : Nat)) = some ((1 : Int) + (cnt_EdgeS a1_1 : Nat) + (cnt_IntS a2 : Nat), mk_IntS a2 ((1 : Int) + (cnt_EdgeS a1_1 : Nat))) := if_pos ⟨by omega, by (try simp only [sz_Graph]); omega⟩
    have k0 : ltI ((1 : Int) + (cnt_EdgeS a1_1 : Nat) + (cnt_IntS a2 : Nat)) 0 = false := ltI_f (by omega)
    have n0 : F_laws_markIntS (r0, (1 : Int)) = some ((1 : Int) + (cnt_IntS r0 : Nat), mk_IntS r0 ((1 : Int))) := if_pos ⟨by omega, by (try simp only [sz_Graph]); omega⟩
    have d0 : F_laws_heldIntS (mk_IntS r0 ((1 : Int)), (1 : Int)) = some ((1 : Int) + (cnt_IntS r0 : Nat)) := hd_IntS r0 ((1 : Int)) ⟨by omega, by (try simp only [sz_Graph]); omega⟩
    have kk0 : ltI ((1 : Int) + (cnt_IntS r0 : Nat)) 0 = false := ltI_f (by omega)
    have lr0 : winI (mk_IntS r0 ((1 : Int))) 0 (lenN r0) = some (mk_IntS r0 ((1 : Int))) := winI_len (lmk_IntS r0 ((1 : Int)))
    simp only [toRing_s, bnd_s, winI_id, fulI_id, hs, hi, notB_t, cnd_false, neB_self, neI_self, t1, q1, t2, q2, w0, m1, m2, k0, n0, d0, kk0, lr0]
  · cases h


end Go.Am
