/- L_CompressChain: the law FnExactCompressChain. No condition. -/
import Derived.Test.YtfoplfdfpanglaaM26
set_option linter.unusedVariables false
set_option linter.unusedSimpArgs false
namespace Go.Am
theorem sum_le {α : Type} {f : α → Nat} {B : Nat} : ∀ {l : List α}, (∀ e ∈ l, f e ≤ B) → (l.map f).sum ≤ l.length * B
  | [], _ => by simp
  | a :: l, h => by
    have h1 := h a List.mem_cons_self
    have h2 := sum_le (f := f) (B := B) (l := l) fun e he => h e (List.mem_cons_of_mem _ he)
    rw [List.map_cons, List.sum_cons, List.length_cons, Nat.add_mul]
    omega

theorem fit_sz {m : Int} {L : List Site} (F : fitC m L) (h : L.length ≤ 8) : sz_Chain (m, L) ≤ 131072 := by
  show L.length + (L.map sz_Site).sum ≤ _
  have : (L.map sz_Site).sum ≤ L.length * 8192 := sum_le fun e he => by
    obtain ⟨k, hk⟩ := List.mem_iff_getElem?.1 he
    have hl := lt_of_get hk
    obtain ⟨b, p, c, d, e1, h1, h2, h3, h4, _⟩ := site_nat (F.1 k hl)
    have e2 := getD_some site0 hl
    rw [hk] at e2
    injection e2 with e2
    rw [← e2] at e1
    subst e1
    show d.length ≤ _
    have q1 : b * p ≤ 32 * 8 := Nat.mul_le_mul h1 h3.2
    have q2 : b * p * c ≤ (32 * 8) * 32 := Nat.mul_le_mul q1 h2
    omega
  have h2 : L.length * 8192 ≤ 8 * 8192 := Nat.mul_le_mul_right _ h
  omega

theorem compr_fit {m : Int} {l : List Site} (h : chainOk (m, l) = true) : comprR m l = (0, []) ∨ ∃ L, comprR m l = (m, L) ∧ fitC m L ∧ L.length = l.length := by
  obtain ⟨hm, hl, _⟩ := chainOk_t h
  unfold comprR
  cases hf : foldO (fwdS m) 0 l (List.range (l.length - 1)) with
  | none => exact .inl rfl
  | some L =>
    have F1 := foldO_fit (n := l.length) ⟨fitC_of h, rfl⟩ (fun k L a L' hk hI hst => by
      obtain ⟨q1, q2⟩ := fwd_fit hm hI.1 (by omega) hst
      exact ⟨q1, q2.trans hI.2⟩) hf
    simp only
    cases hf2 : foldO (bwdS m (l.length - 1)) 0 L (List.range (l.length - 1)) with
    | none => exact .inl rfl
    | some L' =>
      have F2 := foldO_fit (n := l.length) F1 (fun k L a L' hk hI hst => by
        obtain ⟨q1, q2⟩ := bwd_fit (i := l.length - 1 - (k + 1)) hm hI.1 (by omega) hst
        exact ⟨q1, q2.trans hI.2⟩) hf2
      exact .inr ⟨L', rfl, F2⟩

theorem ex_CompressChain (x : Int × List Site) (h : sz_Chain x ≤ 1048576) : ∃ r0, F_spec_CompressChain x = some r0 ∧ F_impl_CompressChain x = some r0 ∧ sz_Chain r0 ≤ 1048576 := by
  refine ⟨_, if_pos h, if_pos h, ?_⟩
  obtain ⟨m, l⟩ := x
  split
  · rename_i hk
    rcases compr_fit hk with e | ⟨L, e, F, hL⟩
    · rw [e]; exact Nat.zero_le _
    · have := fit_sz F (by have := (chainOk_t hk).2.1; omega)
      rw [e]; omega
  · exact Nat.zero_le _
def F_laws_FnExactCompressChain : Int × (List (Int × Int × Int × (List Int))) → Option Bool := fun (a0 : Int × (List (Int × Int × Int × (List Int)))) => if (wf_Chain a0) = true then some true else none

def ag_laws_FnExactCompressChain : Sig := [(.agg, [.int .i64, .list [.int .i64, .int .i64, .int .i64, .list [.int .i64]]])]
def rs_laws_FnExactCompressChain : Sig := [(.one, [.bool])]
def mu_laws_FnExactCompressChain : MSig := []
def G_laws_FnExactCompressChain (NN : Nat) : (Int × (List (Int × (Int × (Int × (List Int)))))) → (Option Bool) :=
 (fun ((i0, l1) : (Int × (List (Int × (Int × (Int × (List Int))))))) =>
 (F_laws_szChain ((i0, l1), (1048576 : Int))).bnd (fun i2 =>
 cnd (ltI i2 (0 : Int))
 (some true)
 ((F_laws_toChain (i0, l1)).bnd (fun (i3, l4) =>
 (winI l4 0 (lenN l4)).bnd (fun l5 =>
 (F_spec_CompressChain (i3, l5)).bnd (fun (i6, l7) =>
 (F_laws_toChain (i0, l1)).bnd (fun (i8, l9) =>
 (winI l9 0 (lenN l9)).bnd (fun l10 =>
 (F_impl_CompressChain (i8, l10)).bnd (fun (i11, l12) =>
 (winI l12 0 (lenN l12)).bnd (fun l13 =>
 (winI l7 0 (lenN l7)).bnd (fun l14 =>
 (F_laws_eqChain ((i11, l13), i6, l14)).bnd (fun b15 =>
 cnd (notB b15)
 (some false)
 ((F_laws_toChain (i0, l1)).bnd (fun (i16, l17) =>
 (winI l9 0 (lenN l9)).bnd (fun l18 =>
 (winI l17 0 (lenN l17)).bnd (fun l19 =>
 (F_laws_eqChain ((i8, l18), i16, l19)).bnd (fun b20 =>
 cnd (notB b20)
 (some false)
 ((fulI 0 (lenN l9) (lenN l9)).bnd (fun _ =>
 (F_laws_markChain ((i8, l9), (1 : Int))).bnd (fun (i21, l22) =>
 cnd (ltI i21 (0 : Int))
 (some false)
 ((winI l12 0 (lenN l12)).bnd (fun l23 =>
 (winI l7 0 (lenN l7)).bnd (fun l24 =>
 (F_laws_eqChain ((i11, l23), i6, l24)).bnd (fun b25 =>
 cnd (notB b25)
 (some false)
 ((fulI 0 (lenN l12) (lenN l12)).bnd (fun _ =>
 (F_laws_markChain ((i11, l12), (1 : Int))).bnd (fun (i26, l27) =>
 (winI l27 0 (lenN l12)).bnd (fun l28 =>
 (F_laws_heldChain ((i11, l28), (1 : Int))).bnd (fun i29 =>
 cnd (ltI i29 (0 : Int))
 (some false)
 (cnd (neI i29 i26)
 (some false)
 ((F_laws_toChain (i0, l1)).bnd (fun (i30, l31) =>
 (winI l31 0 (lenN l31)).bnd (fun l32 =>
 (F_impl_CompressChain (i30, l32)).bnd (fun (i33, l34) =>
 (winI l34 0 (lenN l34)).bnd (fun l35 =>
 (winI l7 0 (lenN l7)).bnd (fun l36 =>
 (F_laws_eqChain ((i33, l35), i6, l36)).bnd (fun b37 =>
 cnd (notB b37)
 (some false)
 ((winI l27 0 (lenN l12)).bnd (fun l38 =>
 (F_laws_heldChain ((i11, l38), (1 : Int))).bnd (fun i39 =>
 cnd (ltI i39 (0 : Int))
 (some false)
 (cnd (neI i39 i26)
 (some false)
 (some true))))))))))))))))))))))))))))))))))))))))))

theorem f_laws_FnExactCompressChain (x : Int × (List (Int × Int × Int × (List Int)))) (y : Bool) (h : F_laws_FnExactCompressChain x = some y) : G_laws_FnExactCompressChain FUEL x = some y := by
  obtain ⟨a0_0, a0_1⟩ := x
  simp only [F_laws_FnExactCompressChain] at h
  split at h
  · rename_i hw
    rw [← h]
    simp only [G_laws_FnExactCompressChain]
    rw [szKB (o := F_laws_szChain ((a0_0, a0_1), 1048576)) (s := sz_Chain (a0_0, a0_1)) (if_pos ⟨by constructor <;> omega, hw⟩)]
    by_cases c0 : ((sz_Chain (a0_0, a0_1) : Nat) : Int) ≤ 1048576
    case neg => rw [if_neg c0]
    rw [if_pos c0]
    obtain ⟨r0, hs, hi, z0⟩ := ex_CompressChain (a0_0, a0_1) (by omega)
    obtain ⟨r0_0, r0_1⟩ := r0
    have t0 : F_laws_toChain (a0_0, a0_1) = some (a0_0, a0_1) := tos_Chain _ (by omega)
    have q0 : F_laws_eqChain ((a0_0, a0_1), (a0_0, a0_1)) = some true := eqs_Chain _ (by omega)
    have := c4_SiteS a0_1
    have w0 : F_laws_eqChain ((r0_0, r0_1), (r0_0, r0_1)) = some true := eqs_Chain _ (by omega)
    have := c4_SiteS r0_1
    simp only [sz_Chain] at *
    have m0 : F_laws_markChain ((a0_0, a0_1), (1 : Int)) = some ((1 : Int) + (cnt_SiteS a0_1 : Nat), mk_SiteS a0_1 ((1 : Int))) := if_pos ⟨by omega, by (try simp only [sz_Chain]); omega⟩
    have k0 : ltI ((1 : Int) + (cnt_SiteS a0_1 : Nat)) 0 = false := ltI_f (by omega)
    have n0 : F_laws_markChain ((r0_0, r0_1), (1 : Int)) = some ((1 : Int) + (cnt_SiteS r0_1 : Nat), mk_SiteS r0_1 ((1 : Int))) := if_pos ⟨by omega, by (try simp only [sz_Chain]); omega⟩
    have d0 : F_laws_heldChain ((r0_0, mk_SiteS r0_1 ((1 : Int))), (1 : Int)) = some ((1 : Int) + (cnt_SiteS r0_1 : Nat)) := hd_Chain (r0_0, r0_1) ((1 : Int)) ⟨by omega, by (try simp only [sz_Chain]); omega⟩
    have kk0 : ltI ((1 : Int) + (cnt_SiteS r0_1 : Nat)) 0 = false := ltI_f (by omega)
    have lr0_1 : winI (mk_SiteS r0_1 ((1 : Int))) 0 (lenN r0_1) = some (mk_SiteS r0_1 ((1 : Int))) := winI_len (lmk_SiteS r0_1 ((1 : Int)))
    simp only [bnd_s, winI_id, fulI_id, hs, hi, notB_t, cnd_false, neB_self, neI_self, t0, q0, w0, m0, k0, n0, d0, kk0, lr0_1]
  · cases h


end Go.Am
