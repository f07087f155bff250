/- L_SpinByEdges: the law FnExactSpinByEdges. No condition. -/
import Derived.Test.YtogffhfjcilboaaM35
set_option linter.unusedVariables false
set_option linter.unusedSimpArgs false
namespace Go.Am
theorem spinE_len (r : Int × Int × Int) (g : Int × List (Int × Int)) (q : Int) (x : List Int) : (spinE r g q x).length ≤ 6 := by
  by_cases hc : spinOk r g q x = true
  · rw [el_len (el_spinE hc)]
    exact (wid_bd (spin_t hc).1).2.2
  · unfold spinE
    rw [if_neg hc]
    exact Nat.zero_le _
theorem ex_SpinByEdges (r : Int × Int × Int) (g : Int × List (Int × Int)) (q : Int) (x : List Int) (h1 : sz_Graph g ≤ 1048576) (h2 : sz_IntS x ≤ 1048576) : ∃ r0, F_spec_SpinByEdges (r, g, q, x) = some r0 ∧ F_impl_SpinByEdges (r, g, q, x) = some r0 ∧ sz_IntS r0 ≤ 1048576 := by
  have hl : x.length ≤ 9223372036854775806 := Nat.le_trans (show x.length ≤ 1048576 from h2) (by decide)
  have hc : 1 ≤ 12 ∧ x.length ≤ 9223372036854775806 ∧ g.2.length ≤ 1048576 ∧ (spinOk r g q x = true → g.2.length < 12) := by
    refine ⟨by decide, hl, ?_, fun hs => ?_⟩
    · obtain ⟨n, es⟩ := g
      simp only [sz_Graph, sz_EdgeS] at h1
      show es.length ≤ 1048576
      omega
    · have := (graphOk_t (spin_t hs).2.1).2.1
      omega
  refine ⟨_, if_pos hc, if_pos hc, ?_⟩
  exact Nat.le_trans (spinE_len r g q x) (by decide)
def F_laws_FnExactSpinByEdges : (Int × Int × Int) × (Int × (List (Int × Int))) × (Int) × (List Int) → Option Bool := fun ((a0, a1, a2, a3) : (Int × Int × Int) × (Int × (List (Int × Int))) × (Int) × (List Int)) => if (wf_Graph a1 && wf_IntS a3) = true then some true else none

def ag_laws_FnExactSpinByEdges : Sig := [(.agg, [.int .i64, .int .i64, .int .i64]), (.agg, [.int .i64, .list [.int .i64, .int .i64]]), (.one, [.int .i64]), (.one, [.list [.int .i64]])]
def rs_laws_FnExactSpinByEdges : Sig := [(.one, [.bool])]
def mu_laws_FnExactSpinByEdges : MSig := []
def G_laws_FnExactSpinByEdges (NN : Nat) : ((Int × (Int × Int)) × ((Int × (List (Int × Int))) × (Int × (List Int)))) → (Option Bool) :=
 (fun (((i0, i1, i2), (i3, l4), i5, l6) : ((Int × (Int × Int)) × ((Int × (List (Int × Int))) × (Int × (List Int))))) =>
 cnd (ltI (1048576 : Int) (natI (lenN l6)))
 (some true)
 ((F_laws_szGraph ((i3, l4), (1048576 : Int))).bnd (fun i7 =>
 cnd (ltI i7 (0 : Int))
 (some true)
 ((F_laws_toRing (i0, i1, i2)).bnd (fun (i8, i9, i10) =>
 (F_laws_toGraph (i3, l4)).bnd (fun (i11, l12) =>
 (F_laws_toIntS l6).bnd (fun l13 =>
 (winI l12 0 (lenN l12)).bnd (fun l14 =>
 (winI l13 0 (lenN l13)).bnd (fun l15 =>
 (F_spec_SpinByEdges ((i8, i9, i10), (i11, l14), i5, l15)).bnd (fun l16 =>
 (F_laws_toGraph (i3, l4)).bnd (fun (i17, l18) =>
 (F_laws_toIntS l6).bnd (fun l19 =>
 (F_laws_toRing (i0, i1, i2)).bnd (fun (i20, i21, i22) =>
 (winI l18 0 (lenN l18)).bnd (fun l23 =>
 (winI l19 0 (lenN l19)).bnd (fun l24 =>
 (F_impl_SpinByEdges ((i20, i21, i22), (i17, l23), i5, l24)).bnd (fun l25 =>
 (winI l25 0 (lenN l25)).bnd (fun l26 =>
 (winI l16 0 (lenN l16)).bnd (fun l27 =>
 (F_laws_eqIntS (l26, l27)).bnd (fun b28 =>
 cnd (notB b28)
 (some false)
 ((F_laws_toGraph (i3, l4)).bnd (fun (i29, l30) =>
 (winI l18 0 (lenN l18)).bnd (fun l31 =>
 (winI l30 0 (lenN l30)).bnd (fun l32 =>
 (F_laws_eqGraph ((i17, l31), i29, l32)).bnd (fun b33 =>
 cnd (notB b33)
 (some false)
 ((F_laws_toIntS l6).bnd (fun l34 =>
 (winI l19 0 (lenN l19)).bnd (fun l35 =>
 (winI l34 0 (lenN l34)).bnd (fun l36 =>
 (F_laws_eqIntS (l35, l36)).bnd (fun b37 =>
 cnd (notB b37)
 (some false)
 ((fulI 0 (lenN l18) (lenN l18)).bnd (fun _ =>
 (F_laws_markGraph ((i17, l18), (1 : Int))).bnd (fun (i38, l39) =>
 (fulI 0 (lenN l19) (lenN l19)).bnd (fun _ =>
 (F_laws_markIntS (l19, i38)).bnd (fun (i40, l41) =>
 cnd (ltI i40 (0 : Int))
 (some false)
 ((winI l25 0 (lenN l25)).bnd (fun l42 =>
 (winI l16 0 (lenN l16)).bnd (fun l43 =>
 (F_laws_eqIntS (l42, l43)).bnd (fun b44 =>
 cnd (notB b44)
 (some false)
 ((fulI 0 (lenN l25) (lenN l25)).bnd (fun _ =>
 (F_laws_markIntS (l25, (1 : Int))).bnd (fun (i45, l46) =>
 (winI l46 0 (lenN l25)).bnd (fun l47 =>
 (F_laws_heldIntS (l47, (1 : Int))).bnd (fun i48 =>
 cnd (ltI i48 (0 : Int))
 (some false)
 (cnd (neI i48 i45)
 (some false)
 ((F_laws_toRing (i0, i1, i2)).bnd (fun (i49, i50, i51) =>
 (F_laws_toGraph (i3, l4)).bnd (fun (i52, l53) =>
 (F_laws_toIntS l6).bnd (fun l54 =>
 (winI l53 0 (lenN l53)).bnd (fun l55 =>
 (winI l54 0 (lenN l54)).bnd (fun l56 =>
 (F_impl_SpinByEdges ((i49, i50, i51), (i52, l55), i5, l56)).bnd (fun l57 =>
 (winI l57 0 (lenN l57)).bnd (fun l58 =>
 (winI l16 0 (lenN l16)).bnd (fun l59 =>
 (F_laws_eqIntS (l58, l59)).bnd (fun b60 =>
 cnd (notB b60)
 (some false)
 ((winI l46 0 (lenN l25)).bnd (fun l61 =>
 (F_laws_heldIntS (l61, (1 : Int))).bnd (fun i62 =>
 cnd (ltI i62 (0 : Int))
 (some false)
 (cnd (neI i62 i45)
 (some false)
 (some true)))))))))))))))))))))))))))))))))))))))))))))))))))))))))))

theorem f_laws_FnExactSpinByEdges (x : (Int × Int × Int) × (Int × (List (Int × Int))) × (Int) × (List Int)) (y : Bool) (h : F_laws_FnExactSpinByEdges x = some y) : G_laws_FnExactSpinByEdges FUEL x = some y := by
  obtain ⟨⟨a0_0, a0_1, a0_2⟩, ⟨a1_0, a1_1⟩, a2, a3⟩ := x
  simp only [F_laws_FnExactSpinByEdges, Bool.and_eq_true] at h
  split at h
  · rename_i hw
    rw [← h]
    simp only [G_laws_FnExactSpinByEdges]
    rw [nl]
    by_cases cl3 : (a3.length : Int) ≤ 1048576
    case neg => rw [cnd_t (ltI_t (by omega))]
    rw [cnd_f (ltI_f (by omega))]
    have hz3 : sz_IntS a3 ≤ 1048576 := by show a3.length ≤ _; omega
    rw [szKB (o := F_laws_szGraph ((a1_0, a1_1), 1048576)) (s := sz_Graph (a1_0, a1_1)) (if_pos ⟨by constructor <;> omega, hw.1⟩)]
    by_cases c0 : ((sz_Graph (a1_0, a1_1) : Nat) : Int) ≤ 1048576
    case neg => rw [if_neg c0]
    rw [if_pos c0]
    obtain ⟨r0, hs, hi, z0⟩ := ex_SpinByEdges (a0_0, a0_1, a0_2) (a1_0, a1_1) a2 a3 (by omega) (by omega)
    have t1 : F_laws_toGraph (a1_0, a1_1) = some (a1_0, a1_1) := tos_Graph _ (by omega)
    have q1 : F_laws_eqGraph ((a1_0, a1_1), (a1_0, a1_1)) = some true := eqs_Graph _ (by omega)
    have := c4_EdgeS a1_1
    have t3 : F_laws_toIntS a3 = some a3 := tos_IntS _ (by omega)
    have q3 : F_laws_eqIntS (a3, a3) = some true := eqs_IntS _ (by omega)
    have := c4_IntS a3
    have w0 : F_laws_eqIntS (r0, r0) = some true := eqs_IntS _ (by omega)
    have := c4_IntS r0
    simp only [sz_Graph] at *
    have m1 : F_laws_markGraph ((a1_0, a1_1), (1 : Int)) = some ((1 : Int) + (cnt_EdgeS a1_1 : Nat), mk_EdgeS a1_1 ((1 : Int))) := if_pos ⟨by omega, by (try simp only [sz_Graph]); omega⟩
    have m3 : F_laws_markIntS (a3, (1 : Int) + (cnt_EdgeS a1_1 : Nat)) = some ((1 : Int) + (cnt_EdgeS a1_1 : Nat) + (cnt_IntS a3 : Nat), mk_IntS a3 ((1 : Int) + (cnt_EdgeS a1_1 : Nat))) := if_pos ⟨by omega, by (try simp only [sz_Graph]); omega⟩
    have k0 : ltI ((1 : Int) + (cnt_EdgeS a1_1 : Nat) + (cnt_IntS a3 : Nat)) 0 = false := ltI_f (by omega)
    have n0 : F_laws_markIntS (r0, (1 : Int)) = some ((1 : Int) + (cnt_IntS r0 : Nat), mk_IntS r0 ((1 : Int))) := if_pos ⟨by omega, by (try simp only [sz_Graph]); omega⟩
    have d0 : F_laws_heldIntS (mk_IntS r0 ((1 : Int)), (1 : Int)) = some ((1 : Int) + (cnt_IntS r0 : Nat)) := hd_IntS r0 ((1 : Int)) ⟨by omega, by (try simp only [sz_Graph]); omega⟩
    have kk0 : ltI ((1 : Int) + (cnt_IntS r0 : Nat)) 0 = false := ltI_f (by omega)
    have lr0 : winI (mk_IntS r0 ((1 : Int))) 0 (lenN r0) = some (mk_IntS r0 ((1 : Int))) := winI_len (lmk_IntS r0 ((1 : Int)))
    simp only [toRing_s, bnd_s, winI_id, fulI_id, hs, hi, notB_t, cnd_false, neB_self, neI_self, t1, q1, t3, q3, w0, m1, m3, k0, n0, d0, kk0, lr0]
  · cases h


end Go.Am
