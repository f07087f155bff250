/- L_FnWordChains: the law FnWordChains. No condition. -/
import Derived.Test.YtdbokcfhhdkhiaaM32
import Derived.Test.YtdbokcfhhdkhiaaM40
set_option linter.unusedVariables false
set_option linter.unusedSimpArgs false
namespace Go.Am
def F_laws_FnWordChains : List Int → Option Bool := fun _ => some true
theorem cnd_tw {α : Type} (x y : α) : cnd true x y = x := rfl
theorem bnd_w {α β : Type} (x : α) (f : α → Option β) : (some x).bnd f = f x := by
  have h : ∀ o : Option α, o = some x → o.bnd f = f x := by intro o h; subst h; rfl
  exact h _ rfl

def ag_laws_FnWordChains : Sig := [(.one, [.list [.int .u8]])]
def rs_laws_FnWordChains : Sig := [(.one, [.bool])]
def mu_laws_FnWordChains : MSig := []

def G_laws_FnWordChains (NN : Nat) : (List Int) → (Option Bool) :=
 (fun (l0 : (List Int)) =>
 cnd (ltI (1048576 : Int) (natI (lenN l0)))
 (some true)
 ((F_spec_MakeAutomata (l0, (0 : Int))).bnd (fun ((i1, i2, l3, l4, l5), i6, i7, l8, l9, l10) =>
 (F_spec_MakeWord (l0, (100 : Int), natI (lenN l4))).bnd (fun l11 =>
 cnd (eqI (natI (lenN l11)) (0 : Int))
 ((F_impl_AutomatonChain ((i1, i2, l3, l4, l5), (0 : Int))).bnd (fun ((i12, l13), b14) =>
 some (notB b14)))
 ((F_impl_AutomatonChain ((i1, i2, l3, l4, l5), natI (lenN l11))).bnd (fun ((i15, l16), b17) =>
 cnd (b17)
 ((winI l16 0 (lenN l16)).bnd (fun l18 =>
 (F_impl_ChainOk (i15, l18)).bnd (fun b19 =>
 cnd (b19)
 ((winI l16 0 (lenN l16)).bnd (fun l20 =>
 (F_impl_ChainAt ((i15, l20), l11)).bnd (fun i21 =>
 (F_impl_WordWeight ((i1, i2, l3, l4, l5), l11)).bnd (fun i22 =>
 some (eqI i21 i22)))))
 (some false))))
 (some false)))))))


theorem idx_ac {p : Int} {n : Nat} {a b : List Int} {ms : List Mx3} {w : List Int} (hw : wOk ms.length w) : idxB (dimsOf (acC p n a ms b w.length w.length)) w = true := by
  simp only [idxB, Bool.and_eq_true, decide_eq_true_eq]
  rw [dims_acC]
  refine ⟨by simp, fun i hi => ?_⟩
  rw [List.length_replicate] at hi
  have e : (List.replicate w.length (ms.length : Int)).getD i 0 = (ms.length : Int) := by
    rw [List.getD_eq_getElem?_getD, List.getElem?_replicate, if_pos hi]
    rfl
  rw [e, List.getD_eq_getElem?_getD, List.getElem?_eq_getElem hi]
  exact hw _ (List.getElem_mem hi)
theorem FnWordChains_ok (l0 : List Int) : G_laws_FnWordChains FUEL l0 = some true := by
  simp only [G_laws_FnWordChains]
  by_cases hl : l0.length ≤ 1048576
  · rw [cnd_f (ltI_f (by unfold natI lenN; omega))]
    obtain ⟨p, n, m, t, a, ms, b, a2, ms2, b2, e1, H, H2, h1, h2, hn, hm, ht⟩ := MakeAutomata_ok l0 0 hl (by decide)
    have hl1 := H.l1
    obtain ⟨w, e2, hwl, hw⟩ := MakeWord_ok l0 100 (natI (lenN ms)) hl (by decide) (by unfold natI lenN; omega)
    rw [e1]
    simp only [bnd_w]
    rw [e2]
    simp only [bnd_w]
    have hW : wOk ms.length w := fun c hc => hw c hc
    have s1 := aut_sz H
    rw [show natI (lenN w) = (w.length : Int) from rfl]
    by_cases h0 : w.length = 0
    · rw [cnd_eqI, if_pos (by omega)]
      have e : F_impl_AutomatonChain ((p, (n : Int), a, ms, b), 0) = some ((0, []), false) := by
        simp only [F_impl_AutomatonChain, F_spec_AutomatonChain]
        rw [if_pos (by omega), if_neg (by omega)]
      rw [e]
      rfl
    · rw [cnd_eqI, if_neg (by omega)]
      have hd : ms.length ^ w.length ≤ 4096 := by
        have h1 : ms.length ^ w.length ≤ 3 ^ w.length := Nat.pow_le_pow_left (by omega) _
        have h2 : (3 : Nat) ^ w.length ≤ 3 ^ 6 := Nat.pow_le_pow_right (by decide) hwl
        omega
      have hck := chain_ok H (N := w.length) (by omega) (by omega) hd
      have hsz := acC_sz H (N := w.length) (by omega)
      have e : F_impl_AutomatonChain ((p, (n : Int), a, ms, b), (w.length : Int)) = some ((p, acC p n a ms b w.length w.length), true) := by
        simp only [F_impl_AutomatonChain, F_spec_AutomatonChain, Int.toNat_natCast]
        rw [if_pos (by omega), if_pos ⟨autOk_mk H, by omega, by omega⟩]
        unfold bondR2
        rw [if_pos hck]
      rw [e]
      simp only [bnd_w, cnd_tw, winI_id]
      have ec : F_impl_ChainOk (p, acC p n a ms b w.length w.length) = some true := by
        simp only [F_impl_ChainOk]
        rw [if_pos (by omega), hck]
      rw [ec]
      simp only [bnd_w, cnd_tw, winI_id]
      have ea : F_impl_ChainAt ((p, acC p n a ms b w.length w.length), w) = some (weightL ((p, (n : Int), a, ms, b), w)) := by
        simp only [F_impl_ChainAt, F_spec_ChainAt]
        rw [if_pos ⟨by omega, by omega⟩, if_pos ⟨hck, idx_ac hW⟩, chainAt_ac H hW rfl (by omega)]
      rw [ea]
      simp only [bnd_w]
      rw [weight_ok H (by omega) hW]
      simp only [bnd_w]
      rw [show ∀ z : Int, eqI z z = true from fun z => beq_self_eq_true z]
  · rw [cnd_t (ltI_t (by unfold natI lenN; omega))]
theorem f_laws_FnWordChains (x : List Int) (y : Bool) (h : F_laws_FnWordChains x = some y) : G_laws_FnWordChains FUEL x = some y := by
  rw [FnWordChains_ok]; exact h
end Go.Am
