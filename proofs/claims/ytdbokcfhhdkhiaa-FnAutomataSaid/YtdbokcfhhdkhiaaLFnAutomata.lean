/- L_FnAutomata: the law FnAutomata. No condition. -/
import Derived.Test.YtdbokcfhhdkhiaaM38
import Derived.Test.YtdbokcfhhdkhiaaM38
set_option linter.unusedVariables false
set_option linter.unusedSimpArgs false
namespace Go.Am
theorem cond_t {α : Type} (x y : α) : cnd true x y = x := rfl
def F_laws_FnAutomata : List Int → Option Bool := fun _ => some true

def ag_laws_FnAutomata : Sig := [(.one, [.list [.int .u8]])]
def rs_laws_FnAutomata : Sig := [(.one, [.bool])]
def mu_laws_FnAutomata : MSig := []

def G_laws_FnAutomata (NN : Nat) : (List Int) → (Option Bool) :=
 (fun (l0 : (List Int)) =>
 cnd (ltI (1048576 : Int) (natI (lenN l0)))
 (some true)
 ((F_spec_MakeAutomata (l0, (0 : Int))).bnd (fun ((i1, i2, l3, l4, l5), i6, i7, l8, l9, l10) =>
 (F_spec_MakeWord (l0, (100 : Int), natI (lenN l4))).bnd (fun l11 =>
 (F_impl_AddAutomata ((i1, i2, l3, l4, l5), i6, i7, l8, l9, l10)).bnd (fun ((i12, i13, l14, l15, l16), b17) =>
 (F_impl_MultiplyAutomata ((i1, i2, l3, l4, l5), i6, i7, l8, l9, l10)).bnd (fun ((i18, i19, l20, l21, l22), b23) =>
 (F_impl_WordWeight ((i1, i2, l3, l4, l5), l11)).bnd (fun i24 =>
 (F_impl_WordWeight ((i6, i7, l8, l9, l10), l11)).bnd (fun i25 =>
 cnd (b17)
 (cnd (b23)
 (cnd (leI (0 : Int) i24)
 (cnd (leI (0 : Int) i25)
 ((winI l14 0 (lenN l14)).bnd (fun l26 =>
 (winI l15 0 (lenN l15)).bnd (fun l27 =>
 (winI l16 0 (lenN l16)).bnd (fun l28 =>
 (F_impl_WordWeight ((i12, i13, l26, l27, l28), l11)).bnd (fun i29 =>
 (remI (addI .i64 i24 i25) i1).bnd (fun i30 =>
 cnd (eqI i29 i30)
 ((winI l20 0 (lenN l20)).bnd (fun l31 =>
 (winI l21 0 (lenN l21)).bnd (fun l32 =>
 (winI l22 0 (lenN l22)).bnd (fun l33 =>
 (F_impl_WordWeight ((i18, i19, l31, l32, l33), l11)).bnd (fun i34 =>
 (remI (mulI .i64 i24 i25) i1).bnd (fun i35 =>
 some (eqI i34 i35)))))))
 (some false)))))))
 (some false))
 (some false))
 (some false))
 (some false)))))))))


theorem FnAutomata_ok (l0 : List Int) : G_laws_FnAutomata FUEL l0 = some true := by
  simp only [G_laws_FnAutomata]
  by_cases hl : l0.length ≤ 1048576
  · rw [cnd_f (ltI_f (by unfold natI lenN; omega))]
    obtain ⟨p, n, m, t, a, ms, b, a2, ms2, b2, e1, H, H2, h1, h2, hn, hm, ht⟩ := MakeAutomata_ok l0 0 hl (by decide)
    have hl1 := H.l1
    obtain ⟨w, e2, hwl, hw⟩ := MakeWord_ok l0 100 (natI (lenN ms)) hl (by decide) (by unfold natI lenN; omega)
    rw [e1]
    simp only [bnd_s]
    rw [e2]
    simp only [bnd_s]
    have hms : ms.length = ms2.length := by omega
    have hW : wOk ms.length w := fun c hc => hw c hc
    have hW2 : wOk ms2.length w := fun c hc => by rw [← hms]; exact hW c hc
    have hal := alike_mk H H2 hms
    have s1 := aut_sz H
    have s2 := aut_sz H2
    have hnm : n * m ≤ 9 := Nat.mul_le_mul hn hm
    have ea : F_impl_AddAutomata ((p, (n : Int), a, ms, b), p, (m : Int), a2, ms2, b2) = some ((p, ((n + m : Nat) : Int), a ++ a2, sumSt n m ms ms2 ms.length, b ++ b2), true) := by
      simp only [F_impl_AddAutomata, F_spec_AddAutomata]
      rw [if_pos ⟨by omega, by omega⟩, if_pos ⟨hal, by omega⟩]
      simp only [sumX, Int.toNat_natCast, mul1_map H2.bp]
    have em : F_impl_MultiplyAutomata ((p, (n : Int), a, ms, b), p, (m : Int), a2, ms2, b2) = some ((p, ((n * m : Nat) : Int), prodTo p m a a2 (n * m), kronSt p n m ms ms2 ms.length, prodTo p m b b2 (n * m)), true) := by
      simp only [F_impl_MultiplyAutomata, F_spec_MultiplyAutomata]
      rw [if_pos ⟨by omega, by omega⟩, if_pos ⟨hal, by rw [show (n : Int) * (m : Int) = ((n * m : Nat) : Int) by push_cast; rfl]; omega⟩]
      simp only [prodX, Int.toNat_natCast]
    have HS := aut_sum H H2 (show n + m ≤ 12 by omega) hms
    have HP := aut_prod (a2 := a2) (b2 := b2) (ms2 := ms2) H (show n * m ≤ 12 by omega)
    rw [ea]
    simp only [bnd_s]
    rw [em]
    simp only [bnd_s]
    rw [weight_ok H (by omega) hW]
    simp only [bnd_s]
    rw [weight_ok H2 (by omega) hW2]
    simp only [bnd_s, cond_t, winI_id]
    have hp := H.p
    have u1 := weight_in (n := n) (a := a) (b := b) (ms := ms) (w := w) hp
    have u2 := weight_in (n := m) (a := a2) (b := b2) (ms := ms2) (w := w) hp
    rw [weight_ok HS (by omega) (by rw [sumSt_len]; exact hW), weight_ok HP (by omega) (by rw [kronSt_len]; exact hW)]
    rw [weight_sum H H2 hW, weight_prod H H2 hW]
    generalize weightL ((p, (n : Int), a, ms, b), w) = x at u1
    generalize weightL ((p, (m : Int), a2, ms2, b2), w) = y at u2
    have hxy : 0 ≤ x * y ∧ x * y ≤ 1000003 * 1000003 := ⟨Int.mul_nonneg u1.1 u2.1, Int.mul_le_mul (by have := hp.2; omega) (by have := hp.2; omega) u2.1 (by decide)⟩
    have hp1 := hp.1
    have hp2 := hp.2
    rw [cnd_t (leI_t u1.1), cnd_t (leI_t u2.1)]
    simp only [bnd_s]
    rw [addI_eq (by omega) (by omega), mulI_eq (by omega) (by omega), remI_pos (by omega) (by omega), remI_pos (by omega) (by omega)]
    simp only [bnd_s]
    rw [show eqI ((x + y) % p) ((x + y) % p) = true from beq_self_eq_true _, show eqI (x * y % p) (x * y % p) = true from beq_self_eq_true _]
    rfl
  · rw [cnd_t (ltI_t (by unfold natI lenN; omega))]
theorem f_laws_FnAutomata (x : List Int) (y : Bool) (h : F_laws_FnAutomata x = some y) : G_laws_FnAutomata FUEL x = some y := by
  rw [FnAutomata_ok]; exact h
end Go.Am
