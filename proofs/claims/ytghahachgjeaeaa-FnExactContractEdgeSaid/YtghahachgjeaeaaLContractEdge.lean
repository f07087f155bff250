/- L_ContractEdge: the law FnExactContractEdge. No condition. -/
import Derived.Test.YtghahachgjeaeaaM19
set_option linter.unusedVariables false
set_option linter.unusedSimpArgs false
namespace Go.Am
theorem ex_ContractEdge (g : Int × List (Int × Int)) (k : Int) (h : sz_Graph g ≤ 1048576) : ∃ r0 r1, F_spec_ContractEdge (g, k) = some (r0, r1) ∧ F_impl_ContractEdge (g, k) = some (r0, r1) ∧ sz_Graph r0 ≤ 1048576 := by
  obtain ⟨n, l⟩ := g
  have h : l.length ≤ 1048576 := h
  refine ⟨(contR n l k).1, (contR n l k).2, if_pos h, if_pos h, ?_⟩
  unfold contR contE
  split
  · have := delE_len k l
    split
    · show (delE k l).length ≤ _
      omega
    · show ((delE k l).map _).length ≤ _
      rw [List.length_map]
      omega
  · exact Nat.zero_le _
def F_laws_FnExactContractEdge : (Int × (List (Int × Int))) × Int → Option Bool := fun ((a0, a1) : (Int × (List (Int × Int))) × Int) => if (wf_Graph a0) = true then some true else none

def ag_laws_FnExactContractEdge : Sig := [(.agg, [.int .i64, .list [.int .i64, .int .i64]]), (.one, [.int .i64])]
def rs_laws_FnExactContractEdge : Sig := [(.one, [.bool])]
def mu_laws_FnExactContractEdge : MSig := []
def G_laws_FnExactContractEdge (NN : Nat) : ((Int × (List (Int × Int))) × Int) → (Option Bool) :=
 (fun (((i0, l1), i2) : ((Int × (List (Int × Int))) × Int)) =>
 (F_laws_szGraph ((i0, l1), (1048576 : Int))).bnd (fun (i3 : Int) =>
 cnd (ltI i3 (0 : Int))
 (some true)
 ((F_laws_toGraph (i0, l1)).bnd (fun ((i4, l5) : (Int × (List (Int × Int)))) =>
 (winI l5 0 (lenN l5)).bnd (fun (l6 : (List (Int × Int))) =>
 (F_spec_ContractEdge ((i4, l6), i2)).bnd (fun (((i7, l8), b9) : ((Int × (List (Int × Int))) × Bool)) =>
 (F_laws_toGraph (i0, l1)).bnd (fun ((i10, l11) : (Int × (List (Int × Int)))) =>
 (winI l11 0 (lenN l11)).bnd (fun (l12 : (List (Int × Int))) =>
 (F_impl_ContractEdge ((i10, l12), i2)).bnd (fun (((i13, l14), b15) : ((Int × (List (Int × Int))) × Bool)) =>
 (winI l14 0 (lenN l14)).bnd (fun (l16 : (List (Int × Int))) =>
 (winI l8 0 (lenN l8)).bnd (fun (l17 : (List (Int × Int))) =>
 (F_laws_eqGraph ((i13, l16), i7, l17)).bnd (fun (b18 : Bool) =>
 cnd (notB b18)
 (some false)
 (cnd (neB b15 b9)
 (some false)
 ((F_laws_toGraph (i0, l1)).bnd (fun ((i19, l20) : (Int × (List (Int × Int)))) =>
 (winI l11 0 (lenN l11)).bnd (fun (l21 : (List (Int × Int))) =>
 (winI l20 0 (lenN l20)).bnd (fun (l22 : (List (Int × Int))) =>
 (F_laws_eqGraph ((i10, l21), i19, l22)).bnd (fun (b23 : Bool) =>
 cnd (notB b23)
 (some false)
 ((fulI 0 (lenN l11) (lenN l11)).bnd (fun (_ : Unit) =>
 (F_laws_markGraph ((i10, l11), (1 : Int))).bnd (fun ((i24, l25) : (Int × (List (Int × Int)))) =>
 cnd (ltI i24 (0 : Int))
 (some false)
 ((winI l14 0 (lenN l14)).bnd (fun (l26 : (List (Int × Int))) =>
 (winI l8 0 (lenN l8)).bnd (fun (l27 : (List (Int × Int))) =>
 (F_laws_eqGraph ((i13, l26), i7, l27)).bnd (fun (b28 : Bool) =>
 cnd (notB b28)
 (some false)
 (cnd (neB b15 b9)
 (some false)
 ((fulI 0 (lenN l14) (lenN l14)).bnd (fun (_ : Unit) =>
 (F_laws_markGraph ((i13, l14), (1 : Int))).bnd (fun ((i29, l30) : (Int × (List (Int × Int)))) =>
 (winI l30 0 (lenN l14)).bnd (fun (l31 : (List (Int × Int))) =>
 (F_laws_heldGraph ((i13, l31), (1 : Int))).bnd (fun (i32 : Int) =>
 cnd (ltI i32 (0 : Int))
 (some false)
 (cnd (neI i32 i29)
 (some false)
 ((F_laws_toGraph (i0, l1)).bnd (fun ((i33, l34) : (Int × (List (Int × Int)))) =>
 (winI l34 0 (lenN l34)).bnd (fun (l35 : (List (Int × Int))) =>
 (F_impl_ContractEdge ((i33, l35), i2)).bnd (fun (((i36, l37), b38) : ((Int × (List (Int × Int))) × Bool)) =>
 (winI l37 0 (lenN l37)).bnd (fun (l39 : (List (Int × Int))) =>
 (winI l8 0 (lenN l8)).bnd (fun (l40 : (List (Int × Int))) =>
 (F_laws_eqGraph ((i36, l39), i7, l40)).bnd (fun (b41 : Bool) =>
 cnd (notB b41)
 (some false)
 (cnd (neB b38 b9)
 (some false)
 ((winI l30 0 (lenN l14)).bnd (fun (l42 : (List (Int × Int))) =>
 (F_laws_heldGraph ((i13, l42), (1 : Int))).bnd (fun (i43 : Int) =>
 cnd (ltI i43 (0 : Int))
 (some false)
 (cnd (neI i43 i29)
 (some false)
 (some true)))))))))))))))))))))))))))))))))))))))))))))

theorem f_laws_FnExactContractEdge (x : (Int × (List (Int × Int))) × Int) (y : Bool) (h : F_laws_FnExactContractEdge x = some y) : G_laws_FnExactContractEdge FUEL x = some y := by
  obtain ⟨⟨a0_0, a0_1⟩, a1⟩ := x
  simp only [F_laws_FnExactContractEdge] at h
  split at h
  · rename_i hw
    rw [← h]
    simp only [G_laws_FnExactContractEdge]
    rw [szKB (o := F_laws_szGraph ((a0_0, a0_1), 1048576)) (s := sz_Graph (a0_0, a0_1)) (if_pos ⟨by constructor <;> omega, hw⟩)]
    by_cases c0 : ((sz_Graph (a0_0, a0_1) : Nat) : Int) ≤ 1048576
    case neg => rw [if_neg c0]
    rw [if_pos c0]
    obtain ⟨r0, r1, hs, hi, z0⟩ := ex_ContractEdge (a0_0, a0_1) a1 (by omega)
    obtain ⟨r0_0, r0_1⟩ := r0
    have t0 : F_laws_toGraph (a0_0, a0_1) = some (a0_0, a0_1) := tos_Graph _ (by omega)
    have q0 : F_laws_eqGraph ((a0_0, a0_1), (a0_0, a0_1)) = some true := eqs_Graph _ (by omega)
    have := c4_EdgeS a0_1
    have w0 : F_laws_eqGraph ((r0_0, r0_1), (r0_0, r0_1)) = some true := eqs_Graph _ (by omega)
    have := c4_EdgeS r0_1
    simp only [sz_Graph] at *
    have m0 : F_laws_markGraph ((a0_0, a0_1), (1 : Int)) = some ((1 : Int) + (cnt_EdgeS a0_1 : Nat), mk_EdgeS a0_1 ((1 : Int))) := if_pos ⟨by omega, by (try simp only [sz_Graph]); omega⟩
    have k0 : ltI ((1 : Int) + (cnt_EdgeS a0_1 : Nat)) 0 = false := ltI_f (by omega)
    have n0 : F_laws_markGraph ((r0_0, r0_1), (1 : Int)) = some ((1 : Int) + (cnt_EdgeS r0_1 : Nat), mk_EdgeS r0_1 ((1 : Int))) := if_pos ⟨by omega, by (try simp only [sz_Graph]); omega⟩
    have d0 : F_laws_heldGraph ((r0_0, mk_EdgeS r0_1 ((1 : Int))), (1 : Int)) = some ((1 : Int) + (cnt_EdgeS r0_1 : Nat)) := hd_Graph (r0_0, r0_1) ((1 : Int)) ⟨by omega, by (try simp only [sz_Graph]); omega⟩
    have kk0 : ltI ((1 : Int) + (cnt_EdgeS r0_1 : Nat)) 0 = false := ltI_f (by omega)
    have lr0_1 : winI (mk_EdgeS r0_1 ((1 : Int))) 0 (lenN r0_1) = some (mk_EdgeS r0_1 ((1 : Int))) := winI_len (lmk_EdgeS r0_1 ((1 : Int)))
    simp only [bnd_s, winI_id, fulI_id, hs, hi, notB_t, cnd_false, neB_self, neI_self, t0, q0, w0, m0, k0, n0, d0, kk0, lr0_1]
  · cases h


end Go.Am
