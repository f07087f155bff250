/- Mx, M1, M4, M6, M7, M8, M9, Fm, M14, M15, M16, M17, M19: parts of the proof. No condition. -/
import Derived.Test.YtghahachgjeaeaaMT
set_option linter.unusedVariables false
set_option linter.unusedSimpArgs false
section
namespace Go.Am

/-! ### loops -/

/-! ### matrices -/

def genD (r c : Nat) (M : Nat → Nat → Int) : List Int := (List.range (r * c)).map fun n => M (n / c) (n % c)
def ofD (c : Nat) (l : List Int) : Nat → Nat → Int := fun i j => l.getD (i * c + j) 0
/-! ### indices as the program computes them -/

theorem ltN_t {i n : Nat} (h : i < n) : ltI (i : Int) (n : Int) = true := ltI_t (by omega)
theorem ltN_f {i n : Nat} (h : n ≤ i) : ltI (i : Int) (n : Int) = false := ltI_f (by omega)
theorem addN1 {i : Nat} (h : i ≤ 1048577) : addI .i64 (i : Int) 1 = ((i + 1 : Nat) : Int) := by rw [addI_eq (by omega) (by omega)]; omega

/-- Products modulo p. -/
def pOk (p : Int) : Prop := 2 ≤ p ∧ p ≤ 1000003
instance (p : Int) : Decidable (pOk p) := inferInstanceAs (Decidable (2 ≤ p ∧ p ≤ 1000003))
def inP (p x : Int) : Prop := 0 ≤ x ∧ x < p
instance (p x : Int) : Decidable (inP p x) := inferInstanceAs (Decidable (0 ≤ x ∧ x < p))

theorem emod_in {p : Int} (hp : pOk p) (a : Int) : inP p (a % p) := ⟨Int.emod_nonneg _ (by have := hp.1; omega), Int.emod_lt_of_pos _ (by have := hp.1; omega)⟩
theorem inP.le {p x : Int} (h : inP p x) : 0 ≤ x ∧ x ≤ p := ⟨h.1, Int.le_of_lt h.2⟩
theorem inP.s {p x : Int} (hp : pOk p) (h : inP p x) : 0 ≤ x ∧ x ≤ 1000003000000 := ⟨h.1, by have := h.2; have := hp.2; omega⟩
/-- All of a matrix's elements are modulo p. -/
def inM (p : Int) (r c : Nat) (M : Nat → Nat → Int) : Prop := ∀ i, i < r → ∀ j, j < c → inP p (M i j)

def allP (p : Int) (l : List Int) : Prop := ∀ x ∈ l, inP p x
instance (p : Int) (l : List Int) : Decidable (allP p l) := inferInstanceAs (Decidable (∀ x ∈ l, inP p x))

/-- A matrix as the program has it. -/
def mOk (x : Int × Int × List Int) : Prop := (0 ≤ x.1 ∧ x.1 ≤ 4096) ∧ (0 ≤ x.2.1 ∧ x.2.1 ≤ 4096) ∧ (x.2.2.length : Int) = x.1 * x.2.1 ∧ x.2.2.length ≤ 1048576
instance (x : Int × Int × List Int) : Decidable (mOk x) := by unfold mOk; infer_instance

end Go.Am
end
section
namespace Go.Am
def F_spec_l01In : Int × Int × Int → Option Bool := fun ((a, b, c) : Int × Int × Int) => some (decide (b ≤ a ∧ a ≤ c))
def edgeOk (n : Int) (e : Int × Int) : Bool := decide ((0 ≤ e.1 ∧ e.1 ≤ n - 1) ∧ (0 ≤ e.2 ∧ e.2 ≤ n - 1))
def graphOk (n : Int) (es : List (Int × Int)) : Bool := decide (0 ≤ n ∧ n ≤ 10) && decide (es.length ≤ 10) && es.all (edgeOk n)
def F_spec_GraphOk : Int × List (Int × Int) → Option Bool := fun ((n, es) : Int × List (Int × Int)) => some (graphOk n es)
def F_impl_GraphOk : Int × List (Int × Int) → Option Bool := fun ((n, es) : Int × List (Int × Int)) => some (graphOk n es)
def delStep (k : Int) (i : Nat) (acc : List (Int × Int)) (e : Int × Int) : List (Int × Int) := if (i : Int) = k then acc else acc ++ [e]
def delE (k : Int) (l : List (Int × Int)) : List (Int × Int) := foldN (delStep k) 0 [] l
def F_spec_l36Delete : (Int × List (Int × Int)) × Int → Option (Int × List (Int × Int)) := fun (((n, l), k) : (Int × List (Int × Int)) × Int) => if l.length ≤ 1048576 then some (n, delE k l) else none
def delR (n : Int) (l : List (Int × Int)) (k : Int) : (Int × List (Int × Int)) × Bool := if graphOk n l = true ∧ 0 ≤ k ∧ k < l.length then ((n, delE k l), true) else ((0, []), false)
def F_impl_DeleteEdge : (Int × List (Int × Int)) × Int → Option ((Int × List (Int × Int)) × Bool) := fun (((n, l), k) : (Int × List (Int × Int)) × Int) => if l.length ≤ 1048576 then some (delR n l k) else none
def ag_spec_l01In : Sig := [(.one, [.int .i64]), (.one, [.int .i64]), (.one, [.int .i64])]
def rs_spec_l01In : Sig := [(.one, [.bool])]
def mu_spec_l01In : MSig := []
def ag_spec_GraphOk : Sig := [(.agg, [.int .i64, .list [.int .i64, .int .i64]])]
def rs_spec_GraphOk : Sig := [(.one, [.bool])]
def mu_spec_GraphOk : MSig := []
def ag_impl_GraphOk : Sig := [(.agg, [.int .i64, .list [.int .i64, .int .i64]])]
def rs_impl_GraphOk : Sig := [(.one, [.bool])]
def mu_impl_GraphOk : MSig := []
def ag_spec_l36Delete : Sig := [(.agg, [.int .i64, .list [.int .i64, .int .i64]]), (.one, [.int .i64])]
def rs_spec_l36Delete : Sig := [(.agg, [.int .i64, .list [.int .i64, .int .i64]])]
def mu_spec_l36Delete : MSig := []
def ag_impl_DeleteEdge : Sig := [(.agg, [.int .i64, .list [.int .i64, .int .i64]]), (.one, [.int .i64])]
def rs_impl_DeleteEdge : Sig := [(.agg, [.int .i64, .list [.int .i64, .int .i64]]), (.one, [.bool])]
def mu_impl_DeleteEdge : MSig := []

def G_spec_l01In (NN : Nat) : (Int × (Int × Int)) → (Option Bool) :=
 (fun ((i0, i1, i2) : (Int × (Int × Int))) =>
 cnd (leI i1 i0)
 (some (leI i0 i2))
 (some false))

def G_spec_GraphOk (NN : Nat) : (Int × (List (Int × Int))) → (Option Bool) :=
 (fun ((i0, l1) : (Int × (List (Int × Int)))) =>
 (F_spec_l01In (i0, (0 : Int), (10 : Int))).bnd (fun (b2 : Bool) =>
 cnd (notB b2)
 (some false)
 (cnd (ltI (10 : Int) (natI (lenN l1)))
 (some false)
 (joinK (loopT NN (fun (((l3, i4, i5), i6, l7) : (((List (Int × Int)) × (Int × Int)) × (Int × (List (Int × Int))))) =>
 cnd (ltI i5 i4)
 ((getI l3 i5).bnd (fun ((i8, i9) : (Int × Int)) =>
 (F_spec_l01In (i8, (0 : Int), subI .i64 i6 (1 : Int))).bnd (fun (b10 : Bool) =>
 cnd (notB b10)
 (some (Sum.inr (Sum.inr false)))
 ((F_spec_l01In (i9, (0 : Int), subI .i64 i6 (1 : Int))).bnd (fun (b11 : Bool) =>
 cnd (notB b11)
 (some (Sum.inr (Sum.inr false)))
 (some (Sum.inl ((l3, i4, addI .i64 i5 (1 : Int)), i6, l7))))))))
 (some (Sum.inr (Sum.inl ()))))
 ((l1, natI (lenN l1), (0 : Int)), i0, l1))
 (fun (_ : Unit) =>
 some true)))))

def G_impl_GraphOk (NN : Nat) : (Int × (List (Int × Int))) → (Option Bool) :=
 (fun ((i0, l1) : (Int × (List (Int × Int)))) =>
 cnd (ltI i0 (0 : Int))
 (some false)
 (cnd (ltI (10 : Int) i0)
 (some false)
 (cnd (ltI (10 : Int) (natI (lenN l1)))
 (some false)
 (joinK (loopT NN (fun (((l2, i3, i4), i5, l6) : (((List (Int × Int)) × (Int × Int)) × (Int × (List (Int × Int))))) =>
 cnd (ltI i4 i3)
 ((getI l2 i4).bnd (fun ((i7, i8) : (Int × Int)) =>
 cnd (ltI i7 (0 : Int))
 (some (Sum.inr (Sum.inr false)))
 (cnd (ltI i8 (0 : Int))
 (some (Sum.inr (Sum.inr false)))
 (cnd (leI i5 i7)
 (some (Sum.inr (Sum.inr false)))
 (cnd (leI i5 i8)
 (some (Sum.inr (Sum.inr false)))
 (some (Sum.inl ((l2, i3, addI .i64 i4 (1 : Int)), i5, l6))))))))
 (some (Sum.inr (Sum.inl ()))))
 ((l1, natI (lenN l1), (0 : Int)), i0, l1))
 (fun (_ : Unit) =>
 some true)))))

def G_spec_l36Delete (NN : Nat) : ((Int × (List (Int × Int))) × Int) → (Option (Int × (List (Int × Int)))) :=
 (fun (((i0, l1), i2) : ((Int × (List (Int × Int))) × Int)) =>
 joinK ((fulI 0 0 (lenN (([] : List (Int × Int))))).bnd (fun (_ : Unit) =>
 (fulI 0 0 (lenN (([] : List (Int × Int))))).bnd (fun (_ : Unit) =>
 loopT NN (fun (((i3, l4, i5, i6), i7, i8, l9, l10) : ((Int × ((List (Int × Int)) × (Int × Int))) × (Int × (Int × ((List (Int × Int)) × (List (Int × Int))))))) =>
 cnd (ltI i6 i5)
 ((getI l4 i6).bnd (fun ((i11, i12) : (Int × Int)) =>
 cnd (neI i6 i3)
 ((fulI 0 (lenN l10) (lenN l10)).bnd (fun (_ : Unit) =>
 (winI (((i11, i12) :: ([] : List (Int × Int)))) 0 1).bnd (fun (l13 : (List (Int × Int))) =>
 (fitI (addN (lenN l10) (lenN l13)) 16).bnd (fun (_ : Unit) =>
 (fulI 0 (lenN l9) (lenN l9)).bnd (fun (_ : Unit) =>
 (fulI 0 (addN (lenN l10) (lenN l13)) (lenN (appL l10 l13))).bnd (fun (_ : Unit) =>
 some (Sum.inl ((i3, l4, i5, addI .i64 i6 (1 : Int)), i7, i8, l9, appL l10 l13))))))))
 ((fulI 0 (lenN l9) (lenN l9)).bnd (fun (_ : Unit) =>
 (fulI 0 (lenN l10) (lenN l10)).bnd (fun (_ : Unit) =>
 some (Sum.inl ((i3, l4, i5, addI .i64 i6 (1 : Int)), i7, i8, l9, l10)))))))
 (((fulI 0 (lenN l9) (lenN l9)).bnd (fun (_ : Unit) =>
 (fulI 0 (lenN l10) (lenN l10)).bnd (fun (_ : Unit) =>
 some (Sum.inl (i7, i8, l9, l10))))).bnd (fun (l14 : ((Int × (Int × ((List (Int × Int)) × (List (Int × Int))))) ⊕ (Int × (List (Int × Int))))) =>
 some (Sum.inr l14))))
 ((i2, l1, natI (lenN l1), (0 : Int)), (0 : Int), i0, ([] : List (Int × Int)), ([] : List (Int × Int))))))
 (fun ((i15, i16, l17, l18) : (Int × (Int × ((List (Int × Int)) × (List (Int × Int)))))) =>
 (takI l18 (lenN l18)).bnd (fun (l19 : (List (Int × Int))) =>
 some (i16, l19))))

def G_impl_DeleteEdge (NN : Nat) : ((Int × (List (Int × Int))) × Int) → (Option ((Int × (List (Int × Int))) × Bool)) :=
 (fun (((i0, l1), i2) : ((Int × (List (Int × Int))) × Int)) =>
 (F_impl_GraphOk (i0, l1)).bnd (fun (b3 : Bool) =>
 cnd (notB b3)
 (some (((0 : Int), ([] : List (Int × Int))), false))
 (cnd (ltI i2 (0 : Int))
 (some (((0 : Int), ([] : List (Int × Int))), false))
 (cnd (leI (natI (lenN l1)) i2)
 (some (((0 : Int), ([] : List (Int × Int))), false))
 (joinK ((fulI 0 0 (lenN (([] : List (Int × Int))))).bnd (fun (_ : Unit) =>
 (fulI 0 0 (lenN (([] : List (Int × Int))))).bnd (fun (_ : Unit) =>
 loopT NN (fun (((i4, l5, i6, i7), i8, i9, l10, l11) : ((Int × ((List (Int × Int)) × (Int × Int))) × (Int × (Int × ((List (Int × Int)) × (List (Int × Int))))))) =>
 cnd (ltI i7 i6)
 ((getI l5 i7).bnd (fun ((i12, i13) : (Int × Int)) =>
 cnd (neI i7 i4)
 ((fulI 0 (lenN l11) (lenN l11)).bnd (fun (_ : Unit) =>
 (winI (((i12, i13) :: ([] : List (Int × Int)))) 0 1).bnd (fun (l14 : (List (Int × Int))) =>
 (fitI (addN (lenN l11) (lenN l14)) 16).bnd (fun (_ : Unit) =>
 (fulI 0 (lenN l10) (lenN l10)).bnd (fun (_ : Unit) =>
 (fulI 0 (addN (lenN l11) (lenN l14)) (lenN (appL l11 l14))).bnd (fun (_ : Unit) =>
 some (Sum.inl ((i4, l5, i6, addI .i64 i7 (1 : Int)), i8, i9, l10, appL l11 l14))))))))
 ((fulI 0 (lenN l10) (lenN l10)).bnd (fun (_ : Unit) =>
 (fulI 0 (lenN l11) (lenN l11)).bnd (fun (_ : Unit) =>
 some (Sum.inl ((i4, l5, i6, addI .i64 i7 (1 : Int)), i8, i9, l10, l11)))))))
 (((fulI 0 (lenN l10) (lenN l10)).bnd (fun (_ : Unit) =>
 (fulI 0 (lenN l11) (lenN l11)).bnd (fun (_ : Unit) =>
 some (Sum.inl (i8, i9, l10, l11))))).bnd (fun (l15 : ((Int × (Int × ((List (Int × Int)) × (List (Int × Int))))) ⊕ ((Int × (List (Int × Int))) × Bool))) =>
 some (Sum.inr l15))))
 ((i2, l1, natI (lenN l1), (0 : Int)), (0 : Int), i0, ([] : List (Int × Int)), ([] : List (Int × Int))))))
 (fun ((i16, i17, l18, l19) : (Int × (Int × ((List (Int × Int)) × (List (Int × Int)))))) =>
 (takI l19 (lenN l19)).bnd (fun (l20 : (List (Int × Int))) =>
 some ((i17, l20), true))))))))


theorem f_spec_l01In (x : Int × Int × Int) (y : Bool) (h : F_spec_l01In x = some y) : G_spec_l01In FUEL x = some y := by
  obtain ⟨a, b, c⟩ := x
  rw [← h]
  simp only [F_spec_l01In, G_spec_l01In, leI]
  by_cases hc : b ≤ a <;> simp [hc, cnd]

def resOk (n : Int) : List (Int × Int) → Unit ⊕ Bool
  | [] => .inl ()
  | e :: es => if edgeOk n e = true then resOk n es else .inr false

theorem resOk_eq (n : Int) (es : List (Int × Int)) : resOk n es = if es.all (edgeOk n) = true then .inl () else .inr false := by
  induction es with
  | nil => rfl
  | cons e es ih =>
    simp only [resOk]
    by_cases h : edgeOk n e = true
    · have e1 : (e :: es).all (edgeOk n) = es.all (edgeOk n) := by simp [h]
      rw [if_pos h, ih, e1]
    · have e1 : (e :: es).all (edgeOk n) = false := by simp [h]
      rw [if_neg h, e1]
      rfl

theorem f_spec_GraphOk (x : Int × List (Int × Int)) (y : Bool) (h : F_spec_GraphOk x = some y) : G_spec_GraphOk FUEL x = some y := by
  obtain ⟨n, es⟩ := x
  rw [← h]
  simp only [F_spec_GraphOk, G_spec_GraphOk, F_spec_l01In, bnd_s, graphOk]
  by_cases h1 : 0 ≤ n ∧ n ≤ 10
  · rw [cnd_f (notB_p h1)]
    by_cases h2 : es.length ≤ 10
    · rw [cnd_f (ltI_f (by have := nl es; omega))]
      rw [loopT_run (r := resOk n es) (fun k s => ∃ (i : Nat) (j : Int), j = (i : Int) ∧ i ≤ es.length ∧ k = es.length - i ∧ resOk n es = resOk n (es.drop i) ∧ s = ((es, natI (lenN es), j), n, es)) ?_ es.length _ ⟨0, 0, rfl, by omega, by omega, by simp, rfl⟩ FUEL (FUEL_gt (by omega))]
      · rw [resOk_eq]
        by_cases h3 : es.all (edgeOk n) = true
        · rw [if_pos h3, joinK_l]; simp [h1, h2]; simpa using h3
        · rw [if_neg h3, joinK_r]; simp [h1, h2]; simpa using h3
      · rintro k s ⟨i, _, rfl, hi, rfl, hr, rfl⟩
        simp only
        by_cases hlt : i < es.length
        · obtain ⟨e, he⟩ : ∃ e, es[i]? = some e := ⟨_, List.getElem?_eq_getElem hlt⟩
          obtain ⟨u, v⟩ := e
          have hd := drop_cons he
          rw [cnd_t (ltI_t (by have := nl es; omega)), getI_nat, he, bnd_s]
          simp only [F_spec_l01In, bnd_s, subI_eq (a := n) (b := 1) (by omega) (by omega)]
          rw [hr, hd, resOk]
          by_cases hu : 0 ≤ u ∧ u ≤ n - 1
          · rw [cnd_f (notB_p hu)]
            by_cases hv : 0 ≤ v ∧ v ≤ n - 1
            · right
              refine ⟨es.length - (i + 1), ((es, natI (lenN es), ((i + 1 : Nat) : Int)), n, es), by omega, ?_, i + 1, _, rfl, by omega, rfl, ?_, rfl⟩
              · rw [cnd_f (notB_p hv), addI_eq (by omega) (by omega)]; rfl
              · rw [if_pos (by simp [edgeOk, hu, hv])]
            · left
              rw [cnd_t (notB_d hv), if_neg (by simp [edgeOk]; omega)]
          · left
            rw [cnd_t (notB_d hu), if_neg (by simp [edgeOk]; omega)]
        · left
          have hi' : i = es.length := by omega
          subst hi'
          rw [cnd_f (ltI_f (by have := nl es; omega)), hr]
          simp [resOk]
    · rw [cnd_t (ltI_t (by have := nl es; omega))]
      simp [h2]
  · rw [cnd_t (notB_d h1)]
    simp [h1]

theorem f_impl_GraphOk (x : Int × List (Int × Int)) (y : Bool) (h : F_impl_GraphOk x = some y) : G_impl_GraphOk FUEL x = some y := by
  obtain ⟨n, es⟩ := x
  rw [← h]
  simp only [F_impl_GraphOk, G_impl_GraphOk, graphOk]
  by_cases h0 : n < 0
  · rw [cnd_t (by simp [ltI, h0])]; simp; omega
  rw [cnd_f (by simp [ltI]; omega)]
  by_cases h1 : 10 < n
  · rw [cnd_t (by simp [ltI, h1])]; simp; omega
  rw [cnd_f (by simp [ltI]; omega)]
  by_cases h2 : es.length ≤ 10
  · rw [cnd_f (ltI_f (by have := nl es; omega))]
    rw [loopT_run (r := resOk n es) (fun k s => ∃ (i : Nat) (j : Int), j = (i : Int) ∧ i ≤ es.length ∧ k = es.length - i ∧ resOk n es = resOk n (es.drop i) ∧ s = ((es, natI (lenN es), j), n, es)) ?_ es.length _ ⟨0, 0, rfl, by omega, by omega, by simp, rfl⟩ FUEL (FUEL_gt (by omega))]
    · rw [resOk_eq]
      by_cases h3 : es.all (edgeOk n) = true
      · rw [if_pos h3, joinK_l]; simp [h2]; exact ⟨by omega, by simpa using h3⟩
      · rw [if_neg h3, joinK_r]; simp [h2]; intro _ _; simpa using h3
    · rintro k s ⟨i, _, rfl, hi, rfl, hr, rfl⟩
      simp only
      by_cases hlt : i < es.length
      · obtain ⟨e, he⟩ : ∃ e, es[i]? = some e := ⟨_, List.getElem?_eq_getElem hlt⟩
        obtain ⟨u, v⟩ := e
        have hd := drop_cons he
        rw [cnd_t (ltI_t (by have := nl es; omega)), getI_nat, he, bnd_s]
        rw [hr, hd, resOk]
        simp only
        by_cases c1 : u < 0
        · left; rw [cnd_t (by simp [ltI, c1]), if_neg (by simp [edgeOk]; omega)]
        rw [cnd_f (by simp [ltI]; omega)]
        by_cases c2 : v < 0
        · left; rw [cnd_t (by simp [ltI, c2]), if_neg (by simp [edgeOk]; omega)]
        rw [cnd_f (by simp [ltI]; omega)]
        by_cases c3 : n ≤ u
        · left; rw [cnd_t (by simp [leI, c3]), if_neg (by simp [edgeOk]; omega)]
        rw [cnd_f (by simp [leI]; omega)]
        by_cases c4 : n ≤ v
        · left; rw [cnd_t (by simp [leI, c4]), if_neg (by simp [edgeOk]; omega)]
        rw [cnd_f (by simp [leI]; omega)]
        right
        refine ⟨es.length - (i + 1), ((es, natI (lenN es), ((i + 1 : Nat) : Int)), n, es), by omega, ?_, i + 1, _, rfl, by omega, rfl, ?_, rfl⟩
        · rw [addI_eq (by omega) (by omega)]; rfl
        · rw [if_pos (by simp [edgeOk]; omega)]
      · left
        have hi' : i = es.length := by omega
        subst hi'
        rw [cnd_f (ltI_f (by have := nl es; omega)), hr]
        simp [resOk]
  · rw [cnd_t (ltI_t (by have := nl es; omega))]
    simp [h2]

theorem foldN_inv {S α : Type} (step : Nat → S → α → S) (I : Nat → S → Prop) : ∀ (l : List α) (i : Nat) (s : S), I i s → (∀ j s a, I j s → a ∈ l → I (j + 1) (step j s a)) → I (i + l.length) (foldN step i s l)
  | [], i, s, h, _ => h
  | a :: l, i, s, h, hs => by
    have := foldN_inv step I l (i + 1) (step i s a) (hs i s a h (by simp)) (fun j s b hj hb => hs j s b hj (by simp [hb]))
    rw [List.length_cons, show i + (l.length + 1) = i + 1 + l.length by omega]
    exact this

theorem delE_len (k : Int) (l : List (Int × Int)) : (delE k l).length ≤ l.length := by
  have := foldN_inv (delStep k) (fun i s => s.length ≤ i) l 0 [] (by simp) (fun j s a h _ => by unfold delStep; split <;> (try simp only [List.length_append, List.length_cons, List.length_nil]) <;> omega)
  rwa [Nat.zero_add] at this

theorem delStep_t {k : Int} {i : Nat} {acc : List (Int × Int)} {e : Int × Int} (h : (i : Int) = k) : delStep k i acc e = acc := if_pos h
theorem delStep_f {k : Int} {i : Nat} {acc : List (Int × Int)} {e : Int × Int} (h : (i : Int) ≠ k) : delStep k i acc e = acc ++ [e] := if_neg h

theorem f_spec_l36Delete (x : (Int × List (Int × Int)) × Int) (y : Int × List (Int × Int)) (h : F_spec_l36Delete x = some y) : G_spec_l36Delete FUEL x = some y := by
  obtain ⟨⟨n, l⟩, k⟩ := x
  simp only [F_spec_l36Delete] at h
  split at h
  · rename_i hl
    rw [← h]
    simp only [G_spec_l36Delete, fulI_id, bnd_s, win1]
    rw [show fulI 0 0 (lenN ([] : List (Int × Int))) = some () from rfl, bnd_s, bnd_s]
    rw [loopT_foldN l (fun acc i => ((k, l, natI (lenN l), (i : Int)), (0 : Int), n, ([] : List (Int × Int)), acc)) (fun i acc => acc.length ≤ i) (delStep k) (fun acc => Sum.inl ((0 : Int), n, ([] : List (Int × Int)), acc)) ?_ ?_ (s := []) (by simp) ?_ (FUEL_gt (by omega))]
    · rw [joinK_l]; simp only [takI_id, bnd_s]; rfl
    · rintro i acc ⟨u, v⟩ he hI
      have := lt_of_get he
      refine ⟨?_, by unfold delStep; split <;> (try simp only [List.length_append, List.length_cons, List.length_nil]) <;> omega⟩
      simp only
      rw [cnd_t (ltI_in he), getI_nat, he, bnd_s, next_i he (by omega)]
      by_cases hk : (i : Int) = k
      · rw [cnd_f (neI_f hk), delStep_t hk]
      · rw [cnd_t (neI_t hk), delStep_f hk, fitI_ok (by simp only [addN, lenN, maxBytes, List.length_cons, List.length_nil]; omega), bnd_s, lenN_appL, fulI_id, bnd_s]; rfl
    · intro acc hI
      simp only
      rw [cnd_f (ltI_end l)]
    · rfl
  · cases h

theorem f_impl_DeleteEdge (x : (Int × List (Int × Int)) × Int) (y : (Int × List (Int × Int)) × Bool) (h : F_impl_DeleteEdge x = some y) : G_impl_DeleteEdge FUEL x = some y := by
  obtain ⟨⟨n, l⟩, k⟩ := x
  simp only [F_impl_DeleteEdge] at h
  split at h
  · rename_i hl
    rw [← h]
    have hn := nl l
    simp only [G_impl_DeleteEdge, F_impl_GraphOk, fulI_id, bnd_s, win1]
    unfold delR
    by_cases hg : graphOk n l = true
    · rw [cnd_f (by rw [hg]; rfl)]
      by_cases hk : k < 0
      · rw [cnd_t (ltI_t hk), if_neg (by omega)]
      rw [cnd_f (ltI_f (by omega))]
      by_cases hk2 : (l.length : Int) ≤ k
      · rw [cnd_t (leI_t (by omega)), if_neg (by omega)]
      rw [cnd_f (leI_f (by omega)), if_pos ⟨hg, by omega, by omega⟩]
      rw [show fulI 0 0 (lenN ([] : List (Int × Int))) = some () from rfl, bnd_s, bnd_s]
      rw [loopT_foldN l (fun acc i => ((k, l, natI (lenN l), (i : Int)), (0 : Int), n, ([] : List (Int × Int)), acc)) (fun i acc => acc.length ≤ i) (delStep k) (fun acc => Sum.inl ((0 : Int), n, ([] : List (Int × Int)), acc)) ?_ ?_ (s := []) (by simp) ?_ (FUEL_gt (by omega))]
      · rw [joinK_l]; simp only [takI_id, bnd_s]; rfl
      · rintro i acc ⟨u, v⟩ he hI
        have := lt_of_get he
        refine ⟨?_, by unfold delStep; split <;> (try simp only [List.length_append, List.length_cons, List.length_nil]) <;> omega⟩
        simp only
        rw [cnd_t (ltI_in he), getI_nat, he, bnd_s, next_i he (by omega)]
        by_cases hk : (i : Int) = k
        · rw [cnd_f (neI_f hk), delStep_t hk]
        · rw [cnd_t (neI_t hk), delStep_f hk, fitI_ok (by simp only [addN, lenN, maxBytes, List.length_cons, List.length_nil]; omega), bnd_s, lenN_appL, fulI_id, bnd_s]; rfl
      · intro acc hI
        simp only
        rw [cnd_f (ltI_end l)]
      · rfl
    · rw [cnd_t (by rw [Bool.eq_false_iff.2 hg]; rfl), if_neg (fun h => hg h.1)]
  · cases h

end Go.Am
end
section
namespace Go.Am

/-! ### primes, rows, matrices, automata -/

def divAt (n : Int) (i : Nat) : Bool := decide ((i : Int) * i ≤ n) && decide (n % (i : Int) = 0)
def isPrimeI (n : Int) : Bool := decide (2 ≤ n ∧ n ≤ 1000003) && !((List.range' 2 999).any (divAt n))
def inB (m : Int) (v : Int) : Bool := decide (0 ≤ v ∧ v < m)
def rowOk (m : Int) (l : List Int) : Bool := l.all (inB m)
def matOk (m : Int) (x : Int × Int × List Int) : Bool := isPrimeI m && (decide (0 ≤ x.1 ∧ x.1 ≤ 64) && (decide (0 ≤ x.2.1 ∧ x.2.1 ≤ 64) && (decide ((x.2.2.length : Int) = x.1 * x.2.1) && rowOk m x.2.2)))
def matsOk (m n : Int) (x : Int × Int × List Int) : Bool := matOk m x && (decide (x.1 = n) && decide (x.2.1 = n))
def autOk (x : Int × Int × List Int × List (Int × Int × List Int) × List Int) : Bool := match x with
  | (m, n, a, ms, b) => isPrimeI m && (decide (0 ≤ n ∧ n ≤ 12) && ((rowOk m a && decide ((a.length : Int) = n)) && ((rowOk m b && decide ((b.length : Int) = n)) && (decide (1 ≤ ms.length ∧ ms.length ≤ 4) && ms.all (matsOk m n)))))
theorem isPrimeI_t {m : Int} (h : isPrimeI m = true) : 2 ≤ m ∧ m ≤ 1000003 := by
  simp only [isPrimeI, Bool.and_eq_true, decide_eq_true_eq] at h
  exact h.1

end Go.Am
end
section
namespace Go.Am
def newOk (x : Int × Int) : Prop := (0 ≤ x.1 ∧ x.1 ≤ 4096) ∧ (0 ≤ x.2 ∧ x.2 ≤ 4096) ∧ x.1 * x.2 ≤ 1048576
instance (x : Int × Int) : Decidable (newOk x) := by unfold newOk; infer_instance
def swapF (M : Nat → Nat → Int) (a b : Nat) : Nat → Nat → Int := fun i j => if i = a then M b j else if i = b then M a j else M i j
def pivF (M : Nat → Nat → Int) (j : Nat) : Nat → Nat → Option Nat
  | 0, _ => none
  | d + 1, k => if M k j = 0 then pivF M j d (k + 1) else some k
def invG (p out x : Int) (n : Nat) : Int := if h : n = 0 then out else invG p (if n % 2 = 1 then out * x % p else out) (x * x % p) (n / 2)
termination_by n
decreasing_by omega
def mulOk (x : Int × (Int × Int × List Int) × (Int × Int × List Int)) : Prop := pOk x.1 ∧ mOk x.2.1 ∧ mOk x.2.2 ∧ x.2.1.2.1 = x.2.2.1 ∧ x.2.1.1 * x.2.2.2.1 ≤ 1048576 ∧ allP x.1 x.2.1.2.2 ∧ allP x.1 x.2.2.2.2
instance (x : Int × (Int × Int × List Int) × (Int × Int × List Int)) : Decidable (mulOk x) := by unfold mulOk; infer_instance
/-! ### rows -/

/-! ### pivots, inverses -/

theorem pivF_lt {M : Nat → Nat → Int} {j q : Nat} : ∀ {d k : Nat}, pivF M j d k = some q → k ≤ q ∧ q < k + d ∧ M q j ≠ 0
  | 0, k, h => by cases h
  | d + 1, k, h => by
    simp only [pivF] at h
    split at h
    · have := pivF_lt h
      exact ⟨by omega, by omega, this.2.2⟩
    · rename_i h0
      injection h with h
      subst h
      exact ⟨by omega, by omega, h0⟩

theorem invG_0 (p out x : Int) : invG p out x 0 = out := by rw [invG]; rfl
theorem invG_s {n : Nat} (h : n ≠ 0) (p out x : Int) : invG p out x n = invG p (if n % 2 = 1 then out * x % p else out) (x * x % p) (n / 2) := by
  rw [invG, dif_neg h]
/-! ### transposed -/

/-! ### products -/

end Go.Am
end
section
namespace Go.Am
/-! ### transposes, products and swaps of good matrices -/

def sopOk (x : Int × Int × Int) : Prop := isPrimeI x.1 = true ∧ (1 ≤ x.2.1 ∧ x.2.1 ≤ 8) ∧ (1 ≤ x.2.2 ∧ x.2.2 ≤ 8)
instance (x : Int × Int × Int) : Decidable (sopOk x) := by unfold sopOk; infer_instance
/-! ### the swap operator -/

end Go.Am
end
section
namespace Go.Am
/-! ### reduced forms -/

abbrev Mat := Nat → Nat → Int
def sclF (p inv : Int) (M : Mat) (t : Nat) : Mat := fun a b => if a = t then M t b * inv % p else M a b
def clrF (p : Int) (M : Mat) (t j n : Nat) : Mat := fun a b => if a < n ∧ a ≠ t then (M a b + (p - M a j) * M t b) % p else M a b
def pivS (p : Int) (M : Mat) (t j k : Nat) : Mat := sclF p (invG p 1 (swapF M t k t j) (p - 2).toNat) (swapF M t k) t
def redD (p : Int) (M : Mat) (t j k : Nat) (d : Int) : Int := (if k = t then d else (p - d) % p) * swapF M t k t j % p
def redS (p : Int) (r : Nat) (s : Mat × List Int × Int) (j : Nat) : Mat × List Int × Int :=
  if s.2.1.length < r then
    match pivF s.1 j (r - s.2.1.length) s.2.1.length with
    | none => s
    | some k => (clrF p (pivS p s.1 s.2.1.length j k) s.2.1.length j r, s.2.1 ++ [(j : Int)], redD p s.1 s.2.1.length j k s.2.2)
  else s
def redN (p : Int) (r : Nat) (M : Mat) : Nat → Mat × List Int × Int
  | 0 => (M, [], 1)
  | j + 1 => redS p r (redN p r M j) j
def redOk (x : Int × Int × Int × List Int) : Prop := pOk x.1 ∧ mOk x.2 ∧ allP x.1 x.2.2.2
instance (x : Int × Int × Int × List Int) : Decidable (redOk x) := by unfold redOk; infer_instance
theorem swapF_in {p : Int} {r c : Nat} {M : Mat} (hM : inM p r c M) {a b : Nat} (ha : a < r) (hb : b < r) : inM p r c (swapF M a b) := by
  intro i hi j hj
  unfold swapF
  split
  · exact hM b hb j hj
  · split
    · exact hM a ha j hj
    · exact hM i hi j hj
theorem sclF_in {p inv : Int} {r c : Nat} {M : Mat} (hp : pOk p) (hM : inM p r c M) (t : Nat) : inM p r c (sclF p inv M t) := by
  intro i hi j hj
  unfold sclF
  split
  · exact emod_in hp _
  · exact hM i hi j hj
theorem clrF_in {p : Int} {r c : Nat} {M : Mat} (hp : pOk p) (hM : inM p r c M) (t k n : Nat) : inM p r c (clrF p M t k n) := by
  intro i hi j hj
  unfold clrF
  split
  · exact emod_in hp _
  · exact hM i hi j hj
theorem pivS_in {p : Int} {r c : Nat} {M : Mat} (hp : pOk p) (hM : inM p r c M) {t k : Nat} (ht : t < r) (hk : k < r) (j : Nat) : inM p r c (pivS p M t j k) := sclF_in hp (swapF_in hM ht hk) t

structure RI (p : Int) (r c : Nat) (s : Mat × List Int × Int) (j : Nat) : Prop where
  m : inM p r c s.1
  l : s.2.1.length ≤ r
  lj : s.2.1.length ≤ j
  d : inP p s.2.2
  e : ∀ x ∈ s.2.1, 0 ≤ x ∧ x < (j : Int)
theorem RI.step {p : Int} {r c : Nat} {s : Mat × List Int × Int} {j : Nat} (hp : pOk p) (h : RI p r c s j) : RI p r c (redS p r s j) (j + 1) := by
  have keep : RI p r c s (j + 1) := ⟨h.m, h.l, by have := h.lj; omega, h.d, fun x hx => by have := h.e x hx; omega⟩
  unfold redS
  split
  · rename_i hl
    split
    · exact keep
    · rename_i k hk
      have hq := pivF_lt hk
      refine ⟨clrF_in hp (pivS_in hp h.m hl (by omega) j) _ _ _, ?_, ?_, emod_in hp _, ?_⟩
      · simp only [List.length_append, List.length_cons, List.length_nil]; omega
      · have := h.lj
        simp only [List.length_append, List.length_cons, List.length_nil]; omega
      · intro x hx
        simp only [List.mem_append, List.mem_singleton] at hx
        rcases hx with hx | rfl
        · have := h.e x hx; omega
        · omega
  · exact keep
theorem clrF_0 {p : Int} (M : Mat) (t j : Nat) : clrF p M t j 0 = M := by funext a b; exact if_neg (by omega)
theorem clrF_old {p : Int} (M : Mat) (t j n b : Nat) : clrF p M t j n n b = M n b := if_neg (by omega)
theorem clrF_t {p : Int} (M : Mat) (t j n b : Nat) : clrF p M t j n t b = M t b := if_neg (by omega)
theorem clrF_skip {p : Int} (M : Mat) (t j : Nat) : clrF p M t j (t + 1) = clrF p M t j t := by
  funext a b
  unfold clrF
  by_cases h : a < t
  · rw [if_pos (by omega), if_pos (by omega)]
  · rw [if_neg (by omega), if_neg (by omega)]
theorem pivF_none {M : Mat} {j : Nat} : ∀ {d k : Nat}, pivF M j d k = none → ∀ i, k ≤ i → i < k + d → M i j = 0
  | 0, k, _, i, h1, h2 => by omega
  | d + 1, k, h, i, h1, h2 => by
    simp only [pivF] at h
    split at h
    · rename_i h0
      by_cases hi : i = k
      · rw [hi]; exact h0
      · exact pivF_none h i (by omega) (by omega)
    · cases h
theorem redS_n {p : Int} {r : Nat} {s : Mat × List Int × Int} {j : Nat} (hl : s.2.1.length < r) (h : pivF s.1 j (r - s.2.1.length) s.2.1.length = none) : redS p r s j = s := by
  unfold redS
  rw [if_pos hl, h]
theorem redS_s {p : Int} {r : Nat} {s : Mat × List Int × Int} {j k : Nat} (hl : s.2.1.length < r) (h : pivF s.1 j (r - s.2.1.length) s.2.1.length = some k) :
    redS p r s j = (clrF p (pivS p s.1 s.2.1.length j k) s.2.1.length j r, s.2.1 ++ [(j : Int)], redD p s.1 s.2.1.length j k s.2.2) := by
  unfold redS
  rw [if_pos hl, h]
/-! ### the walk of the spec's reduction -/

section
variable {p : Int} {r c : Nat} {M0 : Mat}

end
/-! ### the walk of the program's reduction -/

section
variable {p : Int} {r c : Nat} {M0 : Mat}

end

end Go.Am
end
section
namespace Go.Am
/-! ### ranks, reduced forms and factors of good matrices -/

/-! ### factors -/

section
variable {p : Int} {r c : Nat} {M R : Mat} {L : List Int}

end

end Go.Am
end
section
namespace Go.Am

def ch : Nat → Nat → Nat
  | _, 0 => 1
  | 0, _ + 1 => 0
  | n + 1, k + 1 => ch n k + ch n (k + 1)

theorem ch_gt : ∀ {n k : Nat}, n < k → ch n k = 0
  | 0, k + 1, _ => by simp [ch]
  | n + 1, k + 1, h => by simp [ch, ch_gt (show n < k by omega), ch_gt (show n < k + 1 by omega)]
theorem ch_0 (n : Nat) : ch n 0 = 1 := by cases n <;> rfl
theorem ch_self : ∀ n, ch n n = 1
  | 0 => rfl
  | n + 1 => by simp [ch, ch_self n, ch_gt (Nat.lt_succ_self n)]

theorem ch_mul : ∀ (n k : Nat), (k + 1) * ch (n + 1) (k + 1) = (n + 1) * ch n k
  | 0, 0 => by simp [ch]
  | 0, k + 1 => by simp [ch]
  | n + 1, 0 => by
    have h := ch_mul n 0
    simp only [ch_0] at h ⊢
    have e : ch (n + 1 + 1) (0 + 1) = ch (n + 1) 0 + ch (n + 1) (0 + 1) := rfl
    rw [e, ch_0]
    omega
  | n + 1, k + 1 => by
    have h1 := ch_mul n k
    have h2 := ch_mul n (k + 1)
    have e1 : ch (n + 1 + 1) (k + 1 + 1) = ch (n + 1) (k + 1) + ch (n + 1) (k + 1 + 1) := rfl
    have e2 : ch (n + 1) (k + 1) = ch n k + ch n (k + 1) := rfl
    rw [e1]
    generalize ch (n + 1) (k + 1 + 1) = B at *
    generalize ch (n + 1) (k + 1) = A at *
    generalize ch n k = u at *
    generalize ch n (k + 1) = v at *
    subst e2
    grind

def sumF (f : Nat → Nat) : Nat → Nat
  | 0 => 0
  | m + 1 => sumF f m + f m

theorem sum_step (n a : Nat) : ∀ m, sumF (fun k => ch (n + 1) k * a ^ k) (m + 1) = sumF (fun k => ch n k * a ^ k) (m + 1) + a * sumF (fun k => ch n k * a ^ k) m
  | 0 => by simp [sumF, ch_0]
  | m + 1 => by
    have h := sum_step n a m
    simp only [sumF] at h ⊢
    have e : ch (n + 1) (m + 1) = ch n m + ch n (m + 1) := rfl
    rw [h, e, Nat.pow_succ]
    grind

theorem binom (a : Nat) : ∀ n, (a + 1) ^ n = sumF (fun k => ch n k * a ^ k) (n + 1)
  | 0 => by simp [sumF, ch_0]
  | n + 1 => by
    rw [sum_step]
    have e : sumF (fun k => ch n k * a ^ k) (n + 1 + 1) = sumF (fun k => ch n k * a ^ k) (n + 1) := by
      show sumF _ (n + 1) + ch n (n + 1) * a ^ (n + 1) = _
      rw [ch_gt (Nat.lt_succ_self n)]; simp
    rw [e, ← binom a n, Nat.pow_succ]
    grind

theorem sum_mod {p : Nat} {f : Nat → Nat} : ∀ m, (∀ k, 0 < k → k ≤ m → p ∣ f k) → sumF f (m + 1) % p = f 0 % p
  | 0, h => by simp [sumF]
  | m + 1, h => by
    have i := sum_mod m fun k h1 h2 => h k h1 (by omega)
    obtain ⟨c, hc⟩ := h (m + 1) (by omega) (Nat.le_refl _)
    show (sumF f (m + 1) + f (m + 1)) % p = _
    rw [hc, Nat.add_mul_mod_self_left, i]

def PrimeN (p : Nat) : Prop := 2 ≤ p ∧ ∀ d, d ∣ p → d = 1 ∨ d = p

theorem PrimeN.cop {p a : Nat} (hp : PrimeN p) (h : ¬ p ∣ a) : Nat.Coprime p a := by
  have := hp.2 (Nat.gcd p a) (Nat.gcd_dvd_left p a)
  rcases this with h1 | h1
  · exact h1
  · exact absurd (h1 ▸ Nat.gcd_dvd_right p a) h

theorem PrimeN.ch {p k : Nat} (hp : PrimeN p) (h1 : 0 < k) (h2 : k < p) : p ∣ ch p k := by
  obtain ⟨q, rfl⟩ : ∃ q, p = q + 1 := ⟨p - 1, by omega⟩
  obtain ⟨j, rfl⟩ : ∃ j, k = j + 1 := ⟨k - 1, by omega⟩
  have hm := ch_mul q j
  have hd : (q + 1) ∣ (j + 1) * Go.Am.ch (q + 1) (j + 1) := ⟨Go.Am.ch q j, hm⟩
  exact (hp.cop fun h => absurd (Nat.le_of_dvd (by omega) h) (by omega)).dvd_of_dvd_mul_left hd

theorem fermat0 {p : Nat} (hp : PrimeN p) : ∀ a, a ^ p % p = a % p
  | 0 => by rw [Nat.zero_pow (by have := hp.1; omega)]
  | a + 1 => by
    rw [binom]
    show (sumF _ p + Go.Am.ch p p * a ^ p) % p = _
    obtain ⟨q, rfl⟩ : ∃ q, p = q + 1 := ⟨p - 1, by have := hp.1; omega⟩
    have h := sum_mod (p := q + 1) (f := fun k => Go.Am.ch (q + 1) k * a ^ k) q fun k h1 h2 => Nat.dvd_trans (hp.ch h1 (by omega)) (Nat.dvd_mul_right _ _)
    rw [ch_self, Nat.one_mul, Nat.add_mod, h, fermat0 hp a]
    simp only [ch_0, Nat.pow_zero, Nat.mul_one]
    rw [← Nat.add_mod, Nat.add_comm]

theorem fermat {p a : Nat} (hp : PrimeN p) (ha : ¬ p ∣ a) : a * a ^ (p - 2) % p = 1 := by
  have h2 := hp.1
  have h := fermat0 hp a
  have e : a ^ p = a * (a * a ^ (p - 2)) := by
    obtain ⟨q, rfl⟩ : ∃ q, p = q + 2 := ⟨p - 2, by omega⟩
    rw [Nat.pow_succ, Nat.pow_succ, Nat.add_sub_cancel]
    rw [Nat.mul_comm a (a ^ q), Nat.mul_comm a (a ^ q * a)]
  rw [e] at h
  have ha0 : 0 < a := by
    rcases Nat.eq_zero_or_pos a with h | h
    · subst h; exact absurd ⟨0, by simp⟩ ha
    · exact h
  have hz : 0 < a * a ^ (p - 2) := Nat.mul_pos ha0 (Nat.pow_pos ha0)
  generalize a * a ^ (p - 2) = z at h hz ⊢
  obtain ⟨y, rfl⟩ : ∃ y, z = y + 1 := ⟨z - 1, by omega⟩
  have hd : p ∣ a * y := by
    have e : a * (y + 1) = a * y + a := by rw [Nat.mul_add, Nat.mul_one]
    rw [e] at h
    have : (a * y + a - a) % p = 0 := Nat.sub_mod_eq_zero_of_mod_eq h
    rw [Nat.add_sub_cancel] at this
    exact Nat.dvd_of_mod_eq_zero this
  obtain ⟨c, rfl⟩ := (hp.cop ha).dvd_of_dvd_mul_left hd
  rw [Nat.add_comm, Nat.add_mul_mod_self_left]
  exact Nat.mod_eq_of_lt (by omega)

end Go.Am
end
section
namespace Go.Am

/-! ### inverses modulo p -/

theorem isPrimeI_N {p : Int} (h : isPrimeI p = true) : PrimeN p.toNat := by
  have hp := isPrimeI_t h
  obtain ⟨n, rfl⟩ := natI_eq (show 0 ≤ p by omega)
  simp only [Int.toNat_natCast]
  refine ⟨by omega, fun d hd => ?_⟩
  rcases Nat.lt_or_ge d 2 with h2 | h2
  · rcases Nat.eq_zero_or_pos d with h0 | h0
    · subst h0
      have := Nat.eq_zero_of_zero_dvd hd
      omega
    · exact .inl (by omega)
  · obtain ⟨e, he⟩ := hd
    simp only [isPrimeI, Bool.and_eq_true, decide_eq_true_eq, Bool.not_eq_true', List.any_eq_false] at h
    have key : ∀ a b : Nat, 2 ≤ a → 2 ≤ b → a ≤ b → n ≠ a * b := by
      intro a b ha hb hab e
      have h1 : a * a ≤ n := by rw [e]; exact Nat.mul_le_mul_left _ hab
      have h3 : a < 1001 := by
        rcases Nat.lt_or_ge a 1001 with h | h
        · exact h
        · have := Nat.mul_le_mul h h; omega
      refine h.2 a (by simp; omega) ?_
      unfold divAt
      have ea : ((a : Int)) * (a : Int) = ((a * a : Nat) : Int) := by norm_cast
      simp only [Bool.and_eq_true, decide_eq_true_eq]
      constructor
      · rw [ea]; omega
      · rw [e]; push_cast; exact Int.mul_emod_right _ _
    right
    rcases Nat.lt_or_ge e 2 with h3 | h3
    · have : e = 1 := by
        rcases Nat.eq_zero_or_pos e with h0 | h0
        · subst h0; simp at he; omega
        · omega
      subst this; omega
    · exfalso
      rcases Nat.le_total d e with hde | hde
      · exact key d e h2 h3 hde he
      · exact key e d h3 h2 hde (by rw [he, Nat.mul_comm])

theorem pow_sq (x : Int) (b : Nat) : ∀ m : Nat, (x * x) ^ m * x ^ b = x ^ (2 * m + b)
  | 0 => by simp
  | m + 1 => by
    have ih := pow_sq x b m
    rw [show 2 * (m + 1) + b = 2 * m + b + 1 + 1 by omega, Int.pow_succ, Int.pow_succ (n := 2 * m + b + 1), Int.pow_succ (n := 2 * m + b), ← ih]
    grind

theorem invG_pow {p : Int} (hp : pOk p) : ∀ (n : Nat) (out x : Int), invG p out x n % p = out * x ^ n % p := by
  intro n
  induction n using Nat.strongRecOn with
  | ind n ih =>
    intro out x
    by_cases h0 : n = 0
    · subst h0; rw [invG_0]; simp
    · rw [invG_s h0, ih (n / 2) (by omega)]
      have e : x ^ n = (x * x) ^ (n / 2) * x ^ (n % 2) := by
        rw [pow_sq, Nat.div_add_mod]
      rw [e]
      have h1 : ((x * x % p) ^ (n / 2)) % p = ((x * x) ^ (n / 2)) % p := by
        have : ∀ k : Nat, ((x * x % p) ^ k) % p = ((x * x) ^ k) % p := by
          intro k
          induction k with
          | zero => simp
          | succ k ih => rw [Int.pow_succ, Int.pow_succ, Int.mul_emod, ih, Int.emod_emod, ← Int.mul_emod]
        exact this _
      by_cases hb : n % 2 = 1
      · rw [if_pos hb, hb, Int.mul_emod, h1, Int.emod_emod, ← Int.mul_emod]
        congr 1
        grind
      · rw [if_neg hb, show n % 2 = 0 by omega, Int.mul_emod, h1, ← Int.mul_emod]
        congr 1
        grind

theorem inv_one {p x : Int} (hpr : isPrimeI p = true) (hx : inP p x) (h0 : x ≠ 0) : x * invG p 1 x (p - 2).toNat % p = 1 := by
  have hp := isPrimeI_t hpr
  have hp' : pOk p := ⟨hp.1, hp.2⟩
  obtain ⟨n, rfl⟩ := natI_eq (show 0 ≤ p by omega)
  obtain ⟨a, rfl⟩ := natI_eq hx.1
  have hN := isPrimeI_N hpr
  simp only [Int.toNat_natCast] at hN
  have ha : ¬ n ∣ a := fun h => by
    have := Nat.le_of_dvd (by omega) h
    have := hx.2
    omega
  have hf := fermat hN ha
  have e : (((n : Int)) - 2).toNat = n - 2 := by omega
  rw [Int.mul_emod, invG_pow hp', e, Int.one_mul, ← Int.mul_emod]
  exact_mod_cast hf

/-! ### sums -/

def sumD (f g : Nat → Int) : Nat → Int
  | 0 => 0
  | n + 1 => sumD f g n + f n * g n

theorem sumD_mod {p : Int} {f f' g : Nat → Int} : ∀ n, (∀ k, k < n → ∃ q, f k = f' k + p * q) → ∃ q, sumD f g n = sumD f' g n + p * q
  | 0, _ => ⟨0, by simp [sumD]⟩
  | n + 1, h => by
    obtain ⟨q, hq⟩ := sumD_mod (g := g) n fun k hk => h k (by omega)
    obtain ⟨q', hq'⟩ := h n (by omega)
    exact ⟨q + q' * g n, by simp only [sumD, hq, hq']; grind⟩
theorem sumD_l (f f2 g : Nat → Int) (c : Int) : ∀ n, sumD (fun k => f k + c * f2 k) g n = sumD f g n + c * sumD f2 g n
  | 0 => by simp [sumD]
  | n + 1 => by simp only [sumD, sumD_l f f2 g c n]; grind
theorem sumD_r (f g g2 : Nat → Int) (c : Int) : ∀ n, sumD f (fun k => g k - c * g2 k) n = sumD f g n - c * sumD f g2 n
  | 0 => by simp [sumD]
  | n + 1 => by simp only [sumD, sumD_r f g g2 c n]; grind
theorem sumD_sl (f g : Nat → Int) (c : Int) : ∀ n, sumD (fun k => f k * c) g n = sumD f g n * c
  | 0 => by simp [sumD]
  | n + 1 => by simp only [sumD, sumD_sl f g c n]; grind
theorem sumD_sr (f g : Nat → Int) (c : Int) : ∀ n, sumD f (fun k => g k * c) n = sumD f g n * c
  | 0 => by simp [sumD]
  | n + 1 => by simp only [sumD, sumD_sr f g c n]; grind
/-! ### a right inverse is kept by row operations -/

def dl (a b : Nat) : Int := if a = b then 1 else 0

def RInv (p : Int) (n : Nat) (E X : Mat) : Prop := ∀ a, a < n → ∀ b, b < n → ∃ q, sumD (E a) (fun k => X k b) n = dl a b + p * q

theorem RInv.congr {p : Int} {n : Nat} {E E' X : Mat} (h : RInv p n E X) (he : ∀ a, a < n → ∀ k, k < n → ∃ q, E' a k = E a k + p * q) : RInv p n E' X := by
  intro a ha b hb
  obtain ⟨q, hq⟩ := h a ha b hb
  obtain ⟨q', hq'⟩ := sumD_mod (p := p) (f := E' a) (f' := E a) (g := fun k => X k b) n (he a ha)
  exact ⟨q + q', by rw [hq', hq]; grind⟩

theorem RInv.swap {p : Int} {n : Nat} {E X : Mat} (h : RInv p n E X) {s t : Nat} (hs : s < n) (ht : t < n) : ∃ X', RInv p n (swapF E s t) X' := by
  let sw : Nat → Nat := fun i => if i = s then t else if i = t then s else i
  have hsw : ∀ i, i < n → sw i < n := by
    intro i hi
    show (if i = s then t else if i = t then s else i) < n
    split
    · exact ht
    · split
      · exact hs
      · exact hi
  have hinj : ∀ i j, sw i = sw j → i = j := by
    intro i j
    show (if i = s then t else if i = t then s else i) = (if j = s then t else if j = t then s else j) → i = j
    intro h
    repeat' split at h
    all_goals omega
  refine ⟨fun k b => X k (sw b), fun a ha b hb => ?_⟩
  obtain ⟨q, hq⟩ := h (sw a) (hsw a ha) (sw b) (hsw b hb)
  refine ⟨q, ?_⟩
  have e : swapF E s t a = E (sw a) := by
    funext k
    show (if a = s then E t k else if a = t then E s k else E a k) = E (if a = s then t else if a = t then s else a) k
    split
    · rfl
    · split <;> rfl
  rw [e, hq]
  congr 1
  unfold dl
  by_cases hab : a = b
  · subst hab; simp
  · rw [if_neg hab, if_neg fun h => hab (hinj _ _ h)]

theorem RInv.scale {p inv u : Int} {n : Nat} {E X : Mat} (h : RInv p n E X) {t : Nat} (ht : t < n) (hu : u * inv % p = 1) : ∃ X', RInv p n (sclF p inv E t) X' := by
  have hu' : ∃ z, u * inv = 1 + p * z := ⟨u * inv / p, by have := Int.emod_add_mul_ediv (u * inv) p; omega⟩
  obtain ⟨z, hz⟩ := hu'
  refine ⟨fun k b => if b = t then X k t * u else X k b, RInv.congr (E := fun a k => if a = t then E t k * inv else E a k) (fun a ha b hb => ?_) (fun a ha k hk => ?_)⟩
  · obtain ⟨q, hq⟩ := h a ha b hb
    by_cases hat : a = t
    · subst hat
      by_cases hbt : b = a
      · subst hbt
        refine ⟨z + q * inv * u, ?_⟩
        simp only [if_true]
        rw [sumD_sl, sumD_sr, hq, dl, if_pos rfl]
        grind
      · refine ⟨q * inv, ?_⟩
        simp only [if_true, if_neg hbt]
        rw [sumD_sl, hq, dl, if_neg (Ne.symm hbt)]
        grind
    · by_cases hbt : b = t
      · subst hbt
        refine ⟨q * u, ?_⟩
        simp only [if_neg hat, if_true]
        rw [sumD_sr]
        have : sumD (fun k => E a k) (fun k => X k b) n = dl a b + p * q := hq
        rw [this, dl, if_neg hat]
        grind
      · refine ⟨q, ?_⟩
        simp only [if_neg hat, if_neg hbt]
        exact hq
  · unfold sclF
    by_cases hat : a = t
    · simp only [hat, if_true]
      refine ⟨-(E t k * inv / p), ?_⟩
      have := Int.emod_add_mul_ediv (E t k * inv) p
      have e : p * -(E t k * inv / p) = -(p * (E t k * inv / p)) := Int.mul_neg _ _
      omega
    · simp only [hat, if_false]
      exact ⟨0, by simp⟩

theorem RInv.add {p f : Int} {n : Nat} {E E' X : Mat} (h : RInv p n E X) {m t : Nat} (hm : m < n) (ht : t < n) (hmt : m ≠ t) (he : ∀ a, a < n → ∀ k, k < n → ∃ q, E' a k = (if a = m then E m k + f * E t k else E a k) + p * q) : ∃ X', RInv p n E' X' := by
  refine ⟨fun k b => if b = t then X k t - f * X k m else X k b, RInv.congr (E := fun a k => if a = m then E m k + f * E t k else E a k) (fun a ha b hb => ?_) he⟩
  obtain ⟨q1, h1⟩ := h a ha b hb
  obtain ⟨q2, h2⟩ := h t ht b hb
  obtain ⟨q3, h3⟩ := h a ha m hm
  obtain ⟨q4, h4⟩ := h t ht m hm
  have h1' : sumD (fun k => E a k) (fun k => X k b) n = dl a b + p * q1 := h1
  have h2' : sumD (fun k => E t k) (fun k => X k b) n = dl t b + p * q2 := h2
  have h3' : sumD (fun k => E a k) (fun k => X k m) n = dl a m + p * q3 := h3
  have h4' : sumD (fun k => E t k) (fun k => X k m) n = dl t m + p * q4 := h4
  have d1 : dl t m = 0 := if_neg (Ne.symm hmt)
  by_cases ham : a = m
  · subst ham
    have d2 : dl a a = 1 := if_pos rfl
    by_cases hbt : b = t
    · subst hbt
      have d3 : dl a b = 0 := if_neg hmt
      have d4 : dl b b = 1 := if_pos rfl
      refine ⟨q1 + f * q2 - f * q3 - f * f * q4, ?_⟩
      simp only [if_true]
      rw [sumD_l, sumD_r, sumD_r, h1', h2', h3', h4', d1, d2, d3, d4]
      grind
    · refine ⟨q1 + f * q2, ?_⟩
      have d3 : dl t b = 0 := if_neg (Ne.symm hbt)
      simp only [if_true, if_neg hbt]
      rw [sumD_l, h1', h2', d3]
      grind
  · by_cases hbt : b = t
    · subst hbt
      have d3 : dl a m = 0 := if_neg ham
      refine ⟨q1 - f * q3, ?_⟩
      simp only [if_neg ham, if_true]
      rw [sumD_r, h1', h3', d3]
      grind
    · refine ⟨q1, ?_⟩
      simp only [if_neg ham, if_neg hbt]
      exact h1'

/-! ### the reduction -/

/-- The rows behind the rank are zero in the columns that are done; the right half has a right inverse. -/
def RK (p : Int) (n : Nat) (s : Mat × List Int × Int) (j : Nat) : Prop :=
  (∃ X, RInv p n (fun a k => s.1 a (n + k)) X) ∧ ∀ b, b < j → ∀ i, s.2.1.length ≤ i → i < n → s.1 i b = 0

theorem RK.step {p : Int} {n : Nat} {s : Mat × List Int × Int} {j : Nat} (hpr : isPrimeI p = true) (hj : j < 2 * n) (I : RI p n (2 * n) s j) (h : RK p n s j) : RK p n (redS p n s j) (j + 1) := by
  have hp : pOk p := isPrimeI_t hpr
  obtain ⟨⟨X, hX⟩, hz⟩ := h
  obtain ⟨M, L, d⟩ := s
  simp only at hX hz
  by_cases hl : L.length < n
  · cases hk : pivF M j (n - L.length) L.length with
    | none =>
      rw [redS_n (s := (M, L, d)) hl hk]
      refine ⟨⟨X, hX⟩, fun b hb i h1 h2 => ?_⟩
      by_cases hbj : b = j
      · subst hbj; exact pivF_none hk i h1 (by simp only at h1; omega)
      · exact hz b (by omega) i h1 h2
    | some k =>
      rw [redS_s (s := (M, L, d)) hl hk]
      simp only
      have hq := pivF_lt hk
      have hkn : k < n := by omega
      have hM : inM p n (2 * n) M := I.m
      have hx : inP p (M k j) := hM k hkn j hj
      have hsw : swapF M L.length k L.length j = M k j := if_pos rfl
      have hi := inv_one hpr hx hq.2.2
      generalize hinv : invG p 1 (M k j) (p - 2).toNat = inv at hi
      have hpiv : pivS p M L.length j k = sclF p inv (swapF M L.length k) L.length := by unfold pivS; rw [hsw, hinv]
      rw [hpiv]
      have hS : inM p n (2 * n) (swapF M L.length k) := swapF_in hM hl hkn
      generalize hM2 : sclF p inv (swapF M L.length k) L.length = M2
      have hM2i : inM p n (2 * n) M2 := by rw [← hM2]; exact sclF_in hp hS _
      constructor
      · obtain ⟨X1, hX1⟩ := hX.swap (s := L.length) (t := k) hl hkn
        obtain ⟨X2, hX2⟩ := hX1.scale (inv := inv) (u := M k j) hl hi
        have base : RInv p n (fun a b => clrF p M2 L.length j 0 a (n + b)) X2 := by
          rw [clrF_0, ← hM2]; exact hX2
        have key : ∀ m, m ≤ n → ∃ X', RInv p n (fun a b => clrF p M2 L.length j m a (n + b)) X' := by
          intro m
          induction m with
          | zero => intro _; exact ⟨X2, base⟩
          | succ m ih =>
            intro hm
            obtain ⟨X', hX'⟩ := ih (by omega)
            by_cases hmt : m = L.length
            · subst hmt
              rw [clrF_skip]; exact ⟨X', hX'⟩
            · refine hX'.add (f := p - M2 m j) (m := m) (t := L.length) (by omega) hl hmt fun a ha b hb => ?_
              show ∃ q, clrF p M2 L.length j (m + 1) a (n + b) = _
              by_cases ham : a = m
              · subst ham
                rw [if_pos rfl]
                show ∃ q, clrF p M2 L.length j (a + 1) a (n + b) = (clrF p M2 L.length j a a (n + b) + (p - M2 a j) * clrF p M2 L.length j a L.length (n + b)) + p * q
                rw [clrF_old, clrF_t]
                unfold clrF
                rw [if_pos ⟨by omega, hmt⟩]
                refine ⟨-((M2 a (n + b) + (p - M2 a j) * M2 L.length (n + b)) / p), ?_⟩
                have e1 := Int.emod_add_mul_ediv (M2 a (n + b) + (p - M2 a j) * M2 L.length (n + b)) p
                have e2 := Int.mul_neg p ((M2 a (n + b) + (p - M2 a j) * M2 L.length (n + b)) / p)
                omega
              · rw [if_neg ham]
                refine ⟨0, ?_⟩
                show clrF p M2 L.length j (m + 1) a (n + b) = clrF p M2 L.length j m a (n + b) + p * 0
                unfold clrF
                by_cases hc : a < m ∧ a ≠ L.length
                · rw [if_pos hc, if_pos ⟨by omega, hc.2⟩]; simp
                · rw [if_neg hc, if_neg (by omega)]; simp
        exact key n (Nat.le_refl _)
      · intro b hb i h1 h2
        simp only [List.length_append, List.length_cons, List.length_nil] at h1
        show clrF p M2 L.length j n i b = 0
        unfold clrF
        rw [if_pos ⟨h2, by omega⟩]
        have e2 : ∀ c, M2 i c = swapF M L.length k i c := fun c => by rw [← hM2]; exact if_neg (by omega)
        have e3 : ∀ c, M2 L.length c = M k c * inv % p := fun c => by rw [← hM2]; show (if L.length = L.length then _ else _) = _; rw [if_pos rfl]; congr 2; exact if_pos rfl
        by_cases hbj : b = j
        · subst hbj
          rw [e3 b, hi]
          have : M2 i b + (p - M2 i b) * 1 = p := by omega
          rw [this]; exact Int.emod_self
        · have hbj' : b < j := by omega
          rw [e3 b, hz b hbj' k hq.1 hkn, e2 b]
          have : swapF M L.length k i b = 0 := by
            unfold swapF
            rw [if_neg (by omega)]
            split
            · exact hz b hbj' L.length (Nat.le_refl _) hl
            · exact hz b hbj' i (by omega) h2
          rw [this]; simp
  · unfold redS
    rw [if_neg hl]
    exact ⟨⟨X, hX⟩, fun b hb i h1 h2 => by simp only at h1; omega⟩

end Go.Am
end
section
namespace Go.Am
def wideF (n : Nat) (M : Mat) : Mat := fun a b => if b < n then M a b else dl a (b - n)
def wideM (n : Nat) (M : Mat) : Mat := ofD (2 * n) (genD n (2 * n) (wideF n M))
def invX (p : Int) (n : Nat) (M : Mat) : Mat × List Int × Int := redN p n (wideM n M) (2 * n)
def invOk (p : Int) (n : Nat) (M : Mat) : Prop := ∀ i, i < n → (invX p n M).2.1.getD i 0 = (i : Int)
instance (p : Int) (n : Nat) (M : Mat) : Decidable (invOk p n M) := inferInstanceAs (Decidable (∀ i, i < n → (invX p n M).2.1.getD i 0 = (i : Int)))
section
variable {p : Int} {n : Nat} {M R : Mat} {L : List Int}

end
section
variable {p : Int} {n : Nat} {M R : Mat} {L : List Int}
end

end Go.Am
end
section
namespace Go.Am
abbrev Mx3 := Int × Int × List Int
abbrev Aut := Int × Int × List Int × List (Int × Int × List Int) × List Int
def wOk (k : Nat) (w : List Int) : Prop := ∀ c ∈ w, 0 ≤ c ∧ c < (k : Int)
instance (k : Nat) (w : List Int) : Decidable (wOk k w) := inferInstanceAs (Decidable (∀ c ∈ w, 0 ≤ c ∧ c < (k : Int)))
def reachOk (x : Aut × List Int) : Prop := autOk x.1 = true ∧ wOk x.1.2.2.2.1.length x.2 ∧ x.2.length ≤ 1048576
instance (x : Aut × List Int) : Decidable (reachOk x) := by unfold reachOk; infer_instance
/-! ### good automata -/

structure AutOk (p : Int) (n : Nat) (a : List Int) (ms : List Mx3) (b : List Int) : Prop where
  pr : isPrimeI p = true
  hn : n ≤ 12
  al : a.length = n
  ap : allP p a
  bl : b.length = n
  bp : allP p b
  l1 : 1 ≤ ms.length
  l4 : ms.length ≤ 4
  hm : ∀ x ∈ ms, ∃ M : Mat, x = ((n : Int), (n : Int), genD n n M) ∧ inM p n n M

theorem AutOk.p {p : Int} {n : Nat} {a b : List Int} {ms : List Mx3} (h : AutOk p n a ms b) : pOk p := isPrimeI_t h.pr

section
variable {p : Int} {n : Nat} {a b : List Int} {ms : List Mx3}

end

end Go.Am
end
section
namespace Go.Am
/-! ### sums of automata -/

theorem fulI_nil {α : Type} : fulI 0 0 (lenN ([] : List α)) = some () := rfl
section
variable {p : Int} {n m : Nat} {a b a2 b2 : List Int} {ms ms2 : List Mx3}

end

section
variable {p sg : Int} {n m : Nat} {a b a2 b2 : List Int} {ms ms2 : List Mx3}

end

end Go.Am
end
section
namespace Go.Am
def nodeF (x a b : Int) : Int := if x = b then a else if b < x then x - 1 else x
def F_spec_l36Node : Int × Int × Int → Option Int := fun (x : Int × Int × Int) => if 0 ≤ x.1 ∧ x.1 ≤ 1048576 then some (nodeF x.1 x.2.1 x.2.2) else none
def F_impl_ContractEdge_1 : Int × Int × Int → Option Int := fun (x : Int × Int × Int) => if 0 ≤ x.1 ∧ x.1 ≤ 1048576 then some (nodeF x.1 x.2.2 x.2.1) else none
def moveE (a b : Int) (e : Int × Int) : Int × Int := (nodeF e.1 a b, nodeF e.2 a b)
def contE (n : Int) (d : List (Int × Int)) (e : Int × Int) : (Int × List (Int × Int)) × Bool :=
  if minI e.1 e.2 = maxI e.1 e.2 then ((n, d), true) else ((n - 1, d.map (moveE (minI e.1 e.2) (maxI e.1 e.2))), true)
def contR (n : Int) (l : List (Int × Int)) (k : Int) : (Int × List (Int × Int)) × Bool := if graphOk n l = true ∧ 0 ≤ k ∧ k < l.length then contE n (delE k l) (l.getD k.toNat (0, 0)) else ((0, []), false)
def F_spec_ContractEdge : (Int × List (Int × Int)) × Int → Option ((Int × List (Int × Int)) × Bool) := fun (x : (Int × List (Int × Int)) × Int) => if x.1.2.length ≤ 1048576 then some (contR x.1.1 x.1.2 x.2) else none
def F_impl_ContractEdge : (Int × List (Int × Int)) × Int → Option ((Int × List (Int × Int)) × Bool) := F_spec_ContractEdge

def ag_spec_l36Node : Sig := [(.one, [.int .i64]), (.one, [.int .i64]), (.one, [.int .i64])]
def rs_spec_l36Node : Sig := [(.one, [.int .i64])]
def mu_spec_l36Node : MSig := []
def ag_impl_ContractEdge_1 : Sig := [(.one, [.int .i64]), (.ptr, [.int .i64]), (.ptr, [.int .i64])]
def rs_impl_ContractEdge_1 : Sig := [(.one, [.int .i64])]
def mu_impl_ContractEdge_1 : MSig := []
def ag_spec_ContractEdge : Sig := [(.agg, [.int .i64, .list [.int .i64, .int .i64]]), (.one, [.int .i64])]
def rs_spec_ContractEdge : Sig := [(.agg, [.int .i64, .list [.int .i64, .int .i64]]), (.one, [.bool])]
def mu_spec_ContractEdge : MSig := []
def ag_impl_ContractEdge : Sig := [(.agg, [.int .i64, .list [.int .i64, .int .i64]]), (.one, [.int .i64])]
def rs_impl_ContractEdge : Sig := [(.agg, [.int .i64, .list [.int .i64, .int .i64]]), (.one, [.bool])]
def mu_impl_ContractEdge : MSig := []

def G_spec_l36Node (NN : Nat) : (Int × (Int × Int)) → (Option Int) :=
 (fun ((i0, i1, i2) : (Int × (Int × Int))) =>
 cnd (eqI i0 i2)
 (some i1)
 (cnd (ltI i2 i0)
 (some (subI .i64 i0 (1 : Int)))
 (some i0)))


def G_impl_ContractEdge_1 (NN : Nat) : (Int × (Int × Int)) → (Option Int) :=
 (fun ((i0, i1, i2) : (Int × (Int × Int))) =>
 cnd (eqI i0 i1)
 (some i2)
 (cnd (ltI i1 i0)
 (some (subI .i64 i0 (1 : Int)))
 (some i0)))


def G_spec_ContractEdge (NN : Nat) : ((Int × (List (Int × Int))) × Int) → (Option ((Int × (List (Int × Int))) × Bool)) :=
 (fun (((i0, l1), i2) : ((Int × (List (Int × Int))) × Int)) =>
 (F_spec_GraphOk (i0, l1)).bnd (fun (b3 : Bool) =>
 cnd (notB b3)
 (some (((0 : Int), ([] : List (Int × Int))), false))
 ((F_spec_l01In (i2, (0 : Int), subI .i64 (natI (lenN l1)) (1 : Int))).bnd (fun (b4 : Bool) =>
 cnd (notB b4)
 (some (((0 : Int), ([] : List (Int × Int))), false))
 ((getI l1 i2).bnd (fun ((i5, i6) : (Int × Int)) =>
 (getI l1 i2).bnd (fun ((i7, i8) : (Int × Int)) =>
 (getI l1 i2).bnd (fun ((i9, i10) : (Int × Int)) =>
 (getI l1 i2).bnd (fun ((i11, i12) : (Int × Int)) =>
 (F_spec_l36Delete ((i0, l1), i2)).bnd (fun ((i13, l14) : (Int × (List (Int × Int)))) =>
 cnd (eqI (minI i5 i8) (maxI i9 i12))
 ((takI l14 (lenN l14)).bnd (fun (l15 : (List (Int × Int))) =>
 some ((i13, l15), true)))
 (joinK ((fulI 0 (lenN l14) (lenN l14)).bnd (fun (_ : Unit) =>
 (fulI 0 0 (lenN (([] : List (Int × Int))))).bnd (fun (_ : Unit) =>
 (fulI 0 (lenN l14) (lenN l14)).bnd (fun (_ : Unit) =>
 loopT NN (fun (((i16, i17, i18, i19), i20, i21, l22, l23) : ((Int × (Int × (Int × Int))) × (Int × (Int × ((List (Int × Int)) × (List (Int × Int))))))) =>
 cnd (ltI i19 i18)
 ((chkI i19 (lenN l23)).bnd (fun (k24 : Nat) =>
 (getN l23 (addN 0 k24)).bnd (fun ((i25, i26) : (Int × Int)) =>
 (F_spec_l36Node (i25, i16, i17)).bnd (fun (i27 : Int) =>
 (F_spec_l36Node (i26, i16, i17)).bnd (fun (i28 : Int) =>
 (chkI i19 (lenN l23)).bnd (fun (k29 : Nat) =>
 (getN l23 (addN 0 k29)).bnd (fun ((i30, i31) : (Int × Int)) =>
 (fulI 0 (lenN l23) (lenN (setL l23 (addN 0 k29) (i27, i28)))).bnd (fun (_ : Unit) =>
 (fulI 0 (lenN l22) (lenN l22)).bnd (fun (_ : Unit) =>
 (fulI 0 (lenN l23) (lenN (setL l23 (addN 0 k29) (i27, i28)))).bnd (fun (_ : Unit) =>
 some (Sum.inl ((i16, i17, i18, addI .i64 i19 (1 : Int)), i20, i21, l22, setL l23 (addN 0 k29) (i27, i28)))))))))))))
 (((fulI 0 (lenN l22) (lenN l22)).bnd (fun (_ : Unit) =>
 (fulI 0 (lenN l23) (lenN l23)).bnd (fun (_ : Unit) =>
 some (Sum.inl (i20, i21, l22, l23))))).bnd (fun (l32 : ((Int × (Int × ((List (Int × Int)) × (List (Int × Int))))) ⊕ ((Int × (List (Int × Int))) × Bool))) =>
 some (Sum.inr l32))))
 ((minI i5 i8, maxI i9 i12, natI (lenN l14), (0 : Int)), (0 : Int), subI .i64 i0 (1 : Int), ([] : List (Int × Int)), l14)))))
 (fun ((i33, i34, l35, l36) : (Int × (Int × ((List (Int × Int)) × (List (Int × Int)))))) =>
 (takI l36 (lenN l36)).bnd (fun (l37 : (List (Int × Int))) =>
 some ((i34, l37), true))))))))))))))


def G_impl_ContractEdge (NN : Nat) : ((Int × (List (Int × Int))) × Int) → (Option ((Int × (List (Int × Int))) × Bool)) :=
 (fun (((i0, l1), i2) : ((Int × (List (Int × Int))) × Int)) =>
 (F_impl_DeleteEdge ((i0, l1), i2)).bnd (fun (((i3, l4), b5) : ((Int × (List (Int × Int))) × Bool)) =>
 cnd (notB b5)
 (some (((0 : Int), ([] : List (Int × Int))), false))
 ((getI l1 i2).bnd (fun ((i6, i7) : (Int × Int)) =>
 (getI l1 i2).bnd (fun ((i8, i9) : (Int × Int)) =>
 (getI l1 i2).bnd (fun ((i10, i11) : (Int × Int)) =>
 (getI l1 i2).bnd (fun ((i12, i13) : (Int × Int)) =>
 cnd (eqI (minI i6 i9) (maxI i10 i13))
 ((takI l4 (lenN l4)).bnd (fun (l14 : (List (Int × Int))) =>
 some ((i3, l14), true)))
 (joinK ((fulI 0 (lenN l4) (lenN l4)).bnd (fun (_ : Unit) =>
 (fulI 0 0 (lenN (([] : List (Int × Int))))).bnd (fun (_ : Unit) =>
 (fulI 0 (lenN l4) (lenN l4)).bnd (fun (_ : Unit) =>
 loopT NN (fun (((i15, i16), i17, i18, i19, i20, l21, l22) : ((Int × Int) × (Int × (Int × (Int × (Int × ((List (Int × Int)) × (List (Int × Int))))))))) =>
 cnd (ltI i16 i15)
 ((chkI i16 (lenN l22)).bnd (fun (k23 : Nat) =>
 (getN l22 (addN 0 k23)).bnd (fun ((i24, i25) : (Int × Int)) =>
 (F_impl_ContractEdge_1 (i24, i20, i19)).bnd (fun (i26 : Int) =>
 (F_impl_ContractEdge_1 (i25, i20, i19)).bnd (fun (i27 : Int) =>
 (chkI i16 (lenN l22)).bnd (fun (k28 : Nat) =>
 (getN l22 (addN 0 k28)).bnd (fun ((i29, i30) : (Int × Int)) =>
 (fulI 0 (lenN l22) (lenN (setL l22 (addN 0 k28) (i26, i27)))).bnd (fun (_ : Unit) =>
 (fulI 0 (lenN l21) (lenN l21)).bnd (fun (_ : Unit) =>
 (fulI 0 (lenN l22) (lenN (setL l22 (addN 0 k28) (i26, i27)))).bnd (fun (_ : Unit) =>
 some (Sum.inl ((i15, addI .i64 i16 (1 : Int)), i17, i18, i19, i20, l21, setL l22 (addN 0 k28) (i26, i27)))))))))))))
 (((fulI 0 (lenN l21) (lenN l21)).bnd (fun (_ : Unit) =>
 (fulI 0 (lenN l22) (lenN l22)).bnd (fun (_ : Unit) =>
 some (Sum.inl (i17, i18, l21, l22))))).bnd (fun (l31 : ((Int × (Int × ((List (Int × Int)) × (List (Int × Int))))) ⊕ ((Int × (List (Int × Int))) × Bool))) =>
 some (Sum.inr l31))))
 ((natI (lenN l4), (0 : Int)), (0 : Int), subI .i64 i3 (1 : Int), minI i6 i9, maxI i10 i13, ([] : List (Int × Int)), l4)))))
 (fun ((i32, i33, l34, l35) : (Int × (Int × ((List (Int × Int)) × (List (Int × Int)))))) =>
 (takI l35 (lenN l35)).bnd (fun (l36 : (List (Int × Int))) =>
 some ((i33, l36), true)))))))))))


theorem graphOk_t {n : Int} {es : List (Int × Int)} (h : graphOk n es = true) : (0 ≤ n ∧ n ≤ 10) ∧ es.length ≤ 10 ∧ ∀ e ∈ es, (0 ≤ e.1 ∧ e.1 ≤ n - 1) ∧ (0 ≤ e.2 ∧ e.2 ≤ n - 1) := by
  simp only [graphOk, Bool.and_eq_true, decide_eq_true_eq, List.all_eq_true, edgeOk] at h
  exact ⟨h.1.1, h.1.2, h.2⟩

/-! ### contracted edges -/

theorem f_spec_l36Node (x : Int × Int × Int) (y : Int) (h : F_spec_l36Node x = some y) : G_spec_l36Node FUEL x = some y := by
  obtain ⟨x, a, b⟩ := x
  simp only [F_spec_l36Node] at h
  split at h
  · rename_i hc
    rw [← h]
    simp only [G_spec_l36Node, nodeF]
    by_cases h1 : x = b
    · rw [cnd_t (by simp [eqI, h1]), if_pos h1]
    · rw [cnd_f (by simp [eqI, h1]), if_neg h1]
      by_cases h2 : b < x
      · rw [cnd_t (ltI_t h2), if_pos h2, subI_eq (by omega) (by omega)]
      · rw [cnd_f (ltI_f (by omega)), if_neg h2]
  · cases h
theorem f_impl_ContractEdge_1 (x : Int × Int × Int) (y : Int) (h : F_impl_ContractEdge_1 x = some y) : G_impl_ContractEdge_1 FUEL x = some y := by
  obtain ⟨x, b, a⟩ := x
  simp only [F_impl_ContractEdge_1] at h
  split at h
  · rename_i hc
    rw [← h]
    simp only [G_impl_ContractEdge_1, nodeF]
    by_cases h1 : x = b
    · rw [cnd_t (by simp [eqI, h1]), if_pos h1]
    · rw [cnd_f (by simp [eqI, h1]), if_neg h1]
      by_cases h2 : b < x
      · rw [cnd_t (ltI_t h2), if_pos h2, subI_eq (by omega) (by omega)]
      · rw [cnd_f (ltI_f (by omega)), if_neg h2]
  · cases h

def mapTo {α : Type} (f : α → α) (d : List α) (i : Nat) : List α := (d.take i).map f ++ d.drop i
theorem mapTo_0 {α : Type} (f : α → α) (d : List α) : mapTo f d 0 = d := by simp [mapTo]
theorem mapTo_end {α : Type} (f : α → α) (d : List α) : mapTo f d d.length = d.map f := by simp [mapTo]
theorem mapTo_len {α : Type} (f : α → α) (d : List α) (i : Nat) : (mapTo f d i).length = d.length := by
  simp [mapTo]; omega
theorem mapTo_get {α : Type} {f : α → α} {d : List α} {i : Nat} (h : i < d.length) : (mapTo f d i)[i]? = some d[i] := by
  unfold mapTo
  rw [List.getElem?_append_right (by simp; omega)]
  simp only [List.length_map, List.length_take, Nat.min_eq_left (show i ≤ d.length by omega), Nat.sub_self]
  rw [List.drop_eq_getElem_cons h]
  rfl
theorem mapTo_set {α : Type} {f : α → α} {d : List α} {i : Nat} (h : i < d.length) : (mapTo f d i).set i (f d[i]) = mapTo f d (i + 1) := by
  unfold mapTo
  have hl : ((d.take i).map f).length = i := by simp; omega
  rw [List.set_append_right _ _ (by rw [hl]; exact Nat.le_refl i), hl, Nat.sub_self, List.drop_eq_getElem_cons h, List.set_cons_zero, List.take_add_one, List.getElem?_eq_getElem h, List.map_append]
  simp

theorem delE_mem (k : Int) : ∀ (l : List (Int × Int)) (i : Nat) (acc : List (Int × Int)) (e : Int × Int), e ∈ foldN (delStep k) i acc l → e ∈ acc ∨ e ∈ l
  | [], i, acc, e, h => .inl h
  | x :: l, i, acc, e, h => by
    have h' : e ∈ foldN (delStep k) (i + 1) (delStep k i acc x) l := h
    rcases delE_mem k l (i + 1) (delStep k i acc x) e h' with h1 | h1
    · unfold delStep at h1
      split at h1
      · exact .inl h1
      · rcases List.mem_append.1 h1 with h1 | h1
        · exact .inl h1
        · simp at h1; exact .inr (by simp [h1])
    · exact .inr (by simp [h1])

theorem minI_eqI (a b : Int) : eqI a b = decide (a = b) := by
  unfold eqI
  cases h : decide (a = b) with
  | true => simp at h; simp [h]
  | false => simp at h; simp [h]

section
variable {n : Int} {d : List (Int × Int)} {a b : Int}
theorem edge_in (hd : ∀ e ∈ d, (0 ≤ e.1 ∧ e.1 ≤ n - 1) ∧ (0 ≤ e.2 ∧ e.2 ≤ n - 1)) (hn : n ≤ 10) {i : Nat} (hi : i < d.length) : (0 ≤ d[i].1 ∧ d[i].1 ≤ 1048576) ∧ (0 ≤ d[i].2 ∧ d[i].2 ≤ 1048576) := by
  have := hd d[i] (List.getElem_mem hi)
  omega
end

theorem f_spec_ContractEdge (x : (Int × List (Int × Int)) × Int) (y : (Int × List (Int × Int)) × Bool) (h : F_spec_ContractEdge x = some y) : G_spec_ContractEdge FUEL x = some y := by
  obtain ⟨⟨n, l⟩, k⟩ := x
  simp only [F_spec_ContractEdge] at h
  split at h
  · rename_i hl
    rw [← h]
    simp only [G_spec_ContractEdge, F_spec_GraphOk, F_spec_l01In, bnd_s]
    unfold contR
    cases hg : graphOk n l with
    | false => rw [if_neg (by simp)]; rfl
    | true =>
      obtain ⟨hn, hle, he⟩ := graphOk_t hg
      rw [cnd_f (by rfl), nl, subI_eq (by omega) (by omega)]
      by_cases hk : 0 ≤ k ∧ k < (l.length : Int)
      rotate_left
      · rw [decide_eq_false (show ¬ (0 ≤ k ∧ k ≤ (l.length : Int) - 1) by omega), cnd_t (by rfl), if_neg (fun h => hk h.2)]
      rw [decide_eq_true (show 0 ≤ k ∧ k ≤ (l.length : Int) - 1 by omega), cnd_f (by rfl), if_pos ⟨rfl, hk⟩]
      obtain ⟨q, rfl⟩ := natI_eq hk.1
      have hq : q < l.length := by omega
      have hgk : getI l (q : Int) = some (l.getD q (0, 0)) := by rw [getI_nat, List.getElem?_eq_getElem hq]; simp [List.getD, hq]
      simp only [hgk, bnd_s, Int.toNat_natCast]
      generalize l.getD q (0, 0) = e
      rw [show F_spec_l36Delete ((n, l), (q : Int)) = some (n, delE q l) from if_pos (by omega), bnd_s]
      have hd : ∀ e ∈ delE q l, (0 ≤ e.1 ∧ e.1 ≤ n - 1) ∧ (0 ≤ e.2 ∧ e.2 ≤ n - 1) := fun e hm => by
        rcases delE_mem (q : Int) l 0 [] e hm with h | h
        · cases h
        · exact he e h
      have hdl : (delE q l).length ≤ 10 := Nat.le_trans (delE_len _ _) hle
      generalize delE q l = d at hd hdl
      obtain ⟨e1, e2⟩ := e
      simp only [contE, minI_eqI]
      by_cases hab : minI e1 e2 = maxI e1 e2
      · rw [decide_eq_true hab, if_pos hab, cnd_true, takI_id, bnd_s]
      · rw [decide_eq_false hab, if_neg hab, cnd_false]
        generalize minI e1 e2 = a
        generalize maxI e1 e2 = b
        simp only [fulI_id, fulI_nil, bnd_s, nl]
        rw [loopT_seq (fun i => ((a, b, (d.length : Int), (i : Int)), (0 : Int), subI .i64 n 1, ([] : List (Int × Int)), mapTo (moveE a b) d i)) d.length ?a1 ?a2 ?a3 (FUEL_gt (by omega))]
        case a3 => simp only [mapTo_0]; try rfl
        case a2 => simp only; rw [cnd_f (ltN_f (Nat.le_refl _))]; try (simp only [fulI_id, fulI_nil, bnd_s])
        case a1 =>
          intro i hi
          obtain ⟨q1, q2⟩ := edge_in hd hn.2 hi
          simp only
          rw [cnd_t (ltN_t hi), chkI_nat (show i < lenN (mapTo (moveE a b) d i) by show i < (mapTo _ d i).length; rw [mapTo_len]; exact hi), bnd_s]
          simp only [addN_0]
          rw [show getN (mapTo (moveE a b) d i) i = some d[i] from mapTo_get hi, bnd_s]
          have n1 : F_spec_l36Node (d[i].1, a, b) = some (nodeF d[i].1 a b) := if_pos q1
          have n2 : F_spec_l36Node (d[i].2, a, b) = some (nodeF d[i].2 a b) := if_pos q2
          rw [n1, bnd_s, n2, bnd_s, bnd_s, show getN (mapTo (moveE a b) d i) i = some d[i] from mapTo_get hi, bnd_s]
          rw [show setL (mapTo (moveE a b) d i) i (nodeF d[i].1 a b, nodeF d[i].2 a b) = mapTo (moveE a b) d (i + 1) from mapTo_set hi]
          have hf : fulI 0 (lenN (mapTo (moveE a b) d i)) (lenN (mapTo (moveE a b) d (i + 1))) = some () := fulI_ok (by show (mapTo _ d i).length = (mapTo _ d (i + 1)).length; rw [mapTo_len, mapTo_len])
          simp only [hf, fulI_id, bnd_s, addN1 (show i ≤ 1048577 by omega)]
        rw [joinK_l]
        simp only [takI_id, bnd_s, mapTo_end]
        rw [subI_eq (by omega) (by omega)]
  · cases h

theorem f_impl_ContractEdge (x : (Int × List (Int × Int)) × Int) (y : (Int × List (Int × Int)) × Bool) (h : F_impl_ContractEdge x = some y) : G_impl_ContractEdge FUEL x = some y := by
  obtain ⟨⟨n, l⟩, k⟩ := x
  simp only [F_impl_ContractEdge, F_spec_ContractEdge] at h
  split at h
  · rename_i hl
    rw [← h]
    simp only [G_impl_ContractEdge]
    rw [show F_impl_DeleteEdge ((n, l), k) = some (delR n l k) from if_pos hl, bnd_s]
    unfold contR delR
    by_cases hc : graphOk n l = true ∧ 0 ≤ k ∧ k < (l.length : Int)
    rotate_left
    · rw [if_neg hc, if_neg hc]; rfl
    rw [if_pos hc, if_pos hc]
    obtain ⟨hg, hk⟩ := hc
    obtain ⟨hn, hle, he⟩ := graphOk_t hg
    simp only
    rw [cnd_f (by rfl)]
    obtain ⟨q, rfl⟩ := natI_eq hk.1
    have hq : q < l.length := by omega
    have hgk : getI l (q : Int) = some (l.getD q (0, 0)) := by rw [getI_nat, List.getElem?_eq_getElem hq]; simp [List.getD, hq]
    simp only [hgk, bnd_s, Int.toNat_natCast]
    generalize l.getD q (0, 0) = e
    have hd : ∀ e ∈ delE q l, (0 ≤ e.1 ∧ e.1 ≤ n - 1) ∧ (0 ≤ e.2 ∧ e.2 ≤ n - 1) := fun e hm => by
      rcases delE_mem (q : Int) l 0 [] e hm with h | h
      · cases h
      · exact he e h
    have hdl : (delE q l).length ≤ 10 := Nat.le_trans (delE_len _ _) hle
    generalize delE q l = d at hd hdl
    obtain ⟨e1, e2⟩ := e
    simp only [contE, minI_eqI]
    by_cases hab : minI e1 e2 = maxI e1 e2
    · rw [decide_eq_true hab, if_pos hab, cnd_true, takI_id, bnd_s]
    · rw [decide_eq_false hab, if_neg hab, cnd_false]
      generalize minI e1 e2 = a
      generalize maxI e1 e2 = b
      simp only [fulI_id, fulI_nil, bnd_s, nl]
      rw [loopT_seq (fun i => (((d.length : Int), (i : Int)), (0 : Int), subI .i64 n 1, a, b, ([] : List (Int × Int)), mapTo (moveE a b) d i)) d.length ?a1 ?a2 ?a3 (FUEL_gt (by omega))]
      case a3 => simp only [mapTo_0]; try rfl
      case a2 => simp only; rw [cnd_f (ltN_f (Nat.le_refl _))]; try (simp only [fulI_id, fulI_nil, bnd_s])
      case a1 =>
        intro i hi
        obtain ⟨q1, q2⟩ := edge_in hd hn.2 hi
        simp only
        rw [cnd_t (ltN_t hi), chkI_nat (show i < lenN (mapTo (moveE a b) d i) by show i < (mapTo _ d i).length; rw [mapTo_len]; exact hi), bnd_s]
        simp only [addN_0]
        rw [show getN (mapTo (moveE a b) d i) i = some d[i] from mapTo_get hi, bnd_s]
        have n1 : F_impl_ContractEdge_1 (d[i].1, b, a) = some (nodeF d[i].1 a b) := if_pos q1
        have n2 : F_impl_ContractEdge_1 (d[i].2, b, a) = some (nodeF d[i].2 a b) := if_pos q2
        rw [n1, bnd_s, n2, bnd_s, bnd_s, show getN (mapTo (moveE a b) d i) i = some d[i] from mapTo_get hi, bnd_s]
        rw [show setL (mapTo (moveE a b) d i) i (nodeF d[i].1 a b, nodeF d[i].2 a b) = mapTo (moveE a b) d (i + 1) from mapTo_set hi]
        have hf : fulI 0 (lenN (mapTo (moveE a b) d i)) (lenN (mapTo (moveE a b) d (i + 1))) = some () := fulI_ok (by show (mapTo _ d i).length = (mapTo _ d (i + 1)).length; rw [mapTo_len, mapTo_len])
        simp only [hf, fulI_id, bnd_s, addN1 (show i ≤ 1048577 by omega)]
      rw [joinK_l]
      simp only [takI_id, bnd_s, mapTo_end]
      rw [subI_eq (by omega) (by omega)]
  · cases h
end Go.Am
end
