/- MT: sizes, copies, comparisons and marks of the laws' types. No condition. -/
import Derived.Test.YtfhgjmihpplnjaaB2
set_option linter.unusedVariables false
set_option linter.unusedSimpArgs false
set_option synthInstance.maxSize 1000
set_option synthInstance.maxHeartbeats 400000
namespace Go.Am
def sz_IntS (l : List Int) : Nat := l.length
def wf_IntS (l : List Int) : Bool := decide (l.length ≤ 9223372036854775807)
def F_laws_szIntS : (List Int) × Int → Option Int := fun ((x, k) : (List Int) × Int) => if kOk k ∧ wf_IntS x = true then some (szR (sz_IntS x) k) else none
def F_laws_toIntS : (List Int) → Option (List Int) := fun (x : List Int) => if sz_IntS x ≤ 1048576 then some x else none
def F_laws_eqIntS : (List Int) × (List Int) → Option Bool := fun ((x, y) : (List Int) × (List Int)) => if sz_IntS x ≤ 1048576 then some (decide (x = y)) else none

def sz_Matrix (x : Int × Int × (List Int)) : Nat := match x with | (a0, a1, a2) => sz_IntS a2
def wf_Matrix (x : Int × Int × (List Int)) : Bool := match x with | (a0, a1, a2) => wf_IntS a2
def F_laws_szMatrix : (Int × Int × (List Int)) × Int → Option Int := fun ((x, k) : (Int × Int × (List Int)) × Int) => if kOk k ∧ wf_Matrix x = true then some (szR (sz_Matrix x) k) else none
def F_laws_toMatrix : (Int × Int × (List Int)) → Option (Int × Int × (List Int)) := fun (x : Int × Int × (List Int)) => if sz_Matrix x ≤ 1048576 then some x else none
def F_laws_eqMatrix : (Int × Int × (List Int)) × (Int × Int × (List Int)) → Option Bool := fun ((x, y) : (Int × Int × (List Int)) × (Int × Int × (List Int))) => if sz_Matrix x ≤ 1048576 then some (decide (x = y)) else none

def cnt_IntS (l : List Int) : Nat := cntL (fun _ => 1) l
def mk_IntS (l : List Int) (k : Int) : List Int := mkL (fun _ => 1) (fun _ k => k) l k
def F_laws_markMatrix : (Int × Int × (List Int)) × Int → Option (Int × (List Int)) := fun (((a0, a1, a2), k) : (Int × Int × (List Int)) × Int) => if 0 ≤ k ∧ k + 4 * (sz_Matrix (a0, a1, a2) : Nat) ≤ 1099511627776 then some (k + (cnt_IntS a2 : Nat), mk_IntS a2 (k)) else none
def ag_laws_szIntS : Sig := [(.one, [.list [.int .i64]]), (.one, [.int .i64])]
def rs_laws_szIntS : Sig := [(.one, [.int .i64])]
def mu_laws_szIntS : MSig := []
def ag_laws_toIntS : Sig := [(.one, [.list [.int .i64]])]
def rs_laws_toIntS : Sig := [(.one, [.list [.int .i64]])]
def mu_laws_toIntS : MSig := []
def ag_laws_eqIntS : Sig := [(.one, [.list [.int .i64]]), (.one, [.list [.int .i64]])]
def rs_laws_eqIntS : Sig := [(.one, [.bool])]
def mu_laws_eqIntS : MSig := []
def ag_laws_szMatrix : Sig := [(.agg, [.int .i64, .int .i64, .list [.int .i64]]), (.one, [.int .i64])]
def rs_laws_szMatrix : Sig := [(.one, [.int .i64])]
def mu_laws_szMatrix : MSig := []
def ag_laws_toMatrix : Sig := [(.agg, [.int .i64, .int .i64, .list [.int .i64]])]
def rs_laws_toMatrix : Sig := [(.agg, [.int .i64, .int .i64, .list [.int .i64]])]
def mu_laws_toMatrix : MSig := []
def ag_laws_eqMatrix : Sig := [(.agg, [.int .i64, .int .i64, .list [.int .i64]]), (.agg, [.int .i64, .int .i64, .list [.int .i64]])]
def rs_laws_eqMatrix : Sig := [(.one, [.bool])]
def mu_laws_eqMatrix : MSig := []
def G_laws_szIntS (NN : Nat) : ((List Int) × Int) → (Option Int) :=
 (fun ((l0, i1) : ((List Int) × Int)) =>
 cnd (ltI (subI .i64 i1 (natI (lenN l0))) (0 : Int))
 (some ((-1 : Int)))
 (some (subI .i64 i1 (natI (lenN l0)))))

def G_laws_toIntS (NN : Nat) : (List Int) → (Option (List Int)) :=
 (fun (l0 : (List Int)) =>
 (mkI (natI (lenN l0)) (natI (lenN l0)) 8).bnd (fun (k1 : Nat) =>
 joinK ((fulI 0 k1 (lenN (repL k1 (0 : Int)))).bnd (fun (_ : Unit) =>
 loopT NN (fun (((l2, i3), l4) : (((List Int) × Int) × (List Int))) =>
 cnd (ltI i3 (natI (lenN l2)))
 ((getI l2 i3).bnd (fun (i5 : Int) =>
 (chkI i3 (lenN l4)).bnd (fun (k6 : Nat) =>
 (getN l4 (addN 0 k6)).bnd (fun (i7 : Int) =>
 (fulI 0 (lenN l4) (lenN (setL l4 (addN 0 k6) i5))).bnd (fun (_ : Unit) =>
 some (Sum.inl ((l2, addI .i64 i3 (1 : Int)), setL l4 (addN 0 k6) i5)))))))
 (((fulI 0 (lenN l4) (lenN l4)).bnd (fun (_ : Unit) =>
 some (Sum.inl l4))).bnd (fun (l8 : ((List Int) ⊕ (List Int))) =>
 some (Sum.inr l8))))
 ((l0, (0 : Int)), repL k1 (0 : Int))))
 (fun (l9 : (List Int)) =>
 (takI l9 (lenN l9)).bnd (fun (l10 : (List Int)) =>
 some l10))))

def G_laws_eqIntS (NN : Nat) : ((List Int) × (List Int)) → (Option Bool) :=
 (fun ((l0, l1) : ((List Int) × (List Int))) =>
 cnd (neI (natI (lenN l0)) (natI (lenN l1)))
 (some false)
 (joinK (loopT NN (fun ((l2, l3, i4) : ((List Int) × ((List Int) × Int))) =>
 cnd (ltI i4 (natI (lenN l2)))
 ((getI l2 i4).bnd (fun (i5 : Int) =>
 (getI l3 i4).bnd (fun (i6 : Int) =>
 cnd (neI i5 i6)
 (some (Sum.inr (Sum.inr false)))
 (some (Sum.inl (l2, l3, addI .i64 i4 (1 : Int)))))))
 (some (Sum.inr (Sum.inl ()))))
 (l0, l1, (0 : Int)))
 (fun (_ : Unit) =>
 some true)))

def G_laws_szMatrix (NN : Nat) : ((Int × (Int × (List Int))) × Int) → (Option Int) :=
 (fun (((i0, i1, l2), i3) : ((Int × (Int × (List Int))) × Int)) =>
 (F_laws_szIntS (l2, i3)).bnd (fun (i4 : Int) =>
 cnd (ltI i4 (0 : Int))
 (some ((-1 : Int)))
 (some i4)))

def G_laws_toMatrix (NN : Nat) : (Int × (Int × (List Int))) → (Option (Int × (Int × (List Int)))) :=
 (fun ((i0, i1, l2) : (Int × (Int × (List Int)))) =>
 (F_laws_toIntS l2).bnd (fun (l3 : (List Int)) =>
 (takI l3 (lenN l3)).bnd (fun (l4 : (List Int)) =>
 some (i0, i1, l4))))

def G_laws_eqMatrix (NN : Nat) : ((Int × (Int × (List Int))) × (Int × (Int × (List Int)))) → (Option Bool) :=
 (fun (((i0, i1, l2), i3, i4, l5) : ((Int × (Int × (List Int))) × (Int × (Int × (List Int))))) =>
 cnd (neI i0 i3)
 (some false)
 (cnd (neI i1 i4)
 (some false)
 ((F_laws_eqIntS (l2, l5)).bnd (fun (b6 : Bool) =>
 cnd (notB b6)
 (some false)
 (some true)))))

theorem f_laws_szIntS (x : (List Int) × Int) (y : Int) (h : F_laws_szIntS x = some y) : G_laws_szIntS FUEL x = some y := by
  obtain ⟨l, k⟩ := x
  simp only [F_laws_szIntS] at h
  split at h
  · rename_i hc
    obtain ⟨⟨k0, k1⟩, hw⟩ := hc
    have hw := of_decide_eq_true hw
    rw [← h]
    have hn := nl l
    simp only [G_laws_szIntS]
    rw [subI_eq (by omega) (by omega)]
    show _ = some (szR l.length k)
    by_cases hs : (l.length : Int) ≤ k
    · rw [szR_t hs, cnd_f (ltI_f (by omega))]; rfl
    · rw [szR_f hs, cnd_t (ltI_t (by omega))]
  · cases h

theorem f_laws_toIntS (x y : List Int) (h : F_laws_toIntS x = some y) : G_laws_toIntS FUEL x = some y := by
  simp only [F_laws_toIntS] at h
  split at h
  · rename_i hl
    injection h with h
    subst h
    have hl : x.length ≤ 1048576 := hl
    simp only [G_laws_toIntS, mkI_nat (n := lenN x) (by_ := 8) (by simp only [lenN, maxBytes]; omega), bnd_s, lenN_repL, fulI_id]
    rw [fill_loop x 0 (r := Sum.inl x) ?_ ?_ (by omega)]
    · simp only [joinK_l, takI_id, bnd_s]
    · intro i e ys he hy hi
      simp only
      rw [cnd_t (ltI_in he), getI_nat, he, bnd_s]
      simp only [chkI_len hi, bnd_s, addN_0, getN, hi, lenN_setL, fulI_id, next_i he (by omega)]
      rfl
    · simp only
      rw [cnd_f (ltI_end x)]
  · cases h

theorem f_laws_eqIntS (x : (List Int) × (List Int)) (y : Bool) (h : F_laws_eqIntS x = some y) : G_laws_eqIntS FUEL x = some y := by
  obtain ⟨a, b⟩ := x
  simp only [F_laws_eqIntS] at h
  split at h
  · rename_i hl
    rw [← h]
    have hl : a.length ≤ 1048576 := hl
    exact eq_loopI a b (by omega)
  · cases h

theorem f_laws_szMatrix (x : (Int × Int × (List Int)) × Int) (y : Int) (h : F_laws_szMatrix x = some y) : G_laws_szMatrix FUEL x = some y := by
  obtain ⟨⟨a0, a1, a2⟩, k⟩ := x
  simp only [F_laws_szMatrix] at h
  split at h
  · rename_i hc
    obtain ⟨⟨k0, k1⟩, hw⟩ := hc
    simp only [wf_Matrix] at hw
    rw [← h]
    simp only [G_laws_szMatrix]
    rw [szK (o := F_laws_szIntS (a2, k)) (s := sz_IntS a2) (if_pos ⟨by constructor <;> omega, hw⟩)]
    by_cases c0 : ((sz_IntS a2 : Nat) : Int) ≤ k
    · rw [if_pos c0]
      show _ = some (szR (sz_IntS a2) k)
      rw [szR_t (by omega)]
    · rw [if_neg c0]
      show _ = some (szR (sz_IntS a2) k)
      rw [szR_f (by omega)]
  · cases h

theorem f_laws_toMatrix (x y : Int × Int × (List Int)) (h : F_laws_toMatrix x = some y) : G_laws_toMatrix FUEL x = some y := by
  obtain ⟨a0, a1, a2⟩ := x
  simp only [F_laws_toMatrix] at h
  split at h
  · rename_i hl
    rw [← h]
    simp only [sz_Matrix] at hl
    simp only [G_laws_toMatrix, F_laws_toIntS, if_pos (show sz_IntS a2 ≤ 1048576 by omega), bnd_s, takI_id]
  · cases h

theorem f_laws_eqMatrix (x : (Int × Int × (List Int)) × (Int × Int × (List Int))) (y : Bool) (h : F_laws_eqMatrix x = some y) : G_laws_eqMatrix FUEL x = some y := by
  obtain ⟨⟨a0, a1, a2⟩, b0, b1, b2⟩ := x
  simp only [F_laws_eqMatrix] at h
  split at h
  · rename_i hl
    rw [← h]
    simp only [sz_Matrix] at hl
    simp only [G_laws_eqMatrix, F_laws_eqIntS, if_pos (show sz_IntS a2 ≤ 1048576 by omega), bnd_s]
    by_cases e0 : a0 = b0 <;> by_cases e1 : a1 = b1 <;> by_cases e2 : a2 = b2 <;> simp [neI_d, notB, cnd, *]
  · cases h

theorem eqs_Matrix (x : Int × Int × (List Int)) (h : sz_Matrix x ≤ 1048576) : F_laws_eqMatrix (x, x) = some true := by
  have := show F_laws_eqMatrix (x, x) = if sz_Matrix x ≤ 1048576 then some (decide (x = x)) else none from rfl
  rw [this, if_pos h, decide_eq_true rfl]
theorem tos_Matrix (x : Int × Int × (List Int)) (h : sz_Matrix x ≤ 1048576) : F_laws_toMatrix x = some x := if_pos h
theorem sz_IntS_eq (l : List Int) : sz_IntS l = l.length + (l.map (fun _ => 0)).sum := by
  simp [sz_IntS, sum0]
theorem c4_IntS (l : List Int) : cnt_IntS l ≤ 4 * sz_IntS l := by
  rw [sz_IntS_eq]; exact cntL_le (fun _ => 1) (fun _ => 0) (fun e => by omega) l
end Go.Am
