/- M1: functions of graphs. No condition. -/
import Derived.Test.YtghahachgjeaeaaMT
set_option linter.unusedVariables false
set_option linter.unusedSimpArgs false
namespace Go.Am
def F_spec_l01In : Int × Int × Int → Option Bool := fun ((a, b, c) : Int × Int × Int) => some (decide (b ≤ a ∧ a ≤ c))
def edgeOk (n : Int) (e : Int × Int) : Bool := decide ((0 ≤ e.1 ∧ e.1 ≤ n - 1) ∧ (0 ≤ e.2 ∧ e.2 ≤ n - 1))
def graphOk (n : Int) (es : List (Int × Int)) : Bool := decide (0 ≤ n ∧ n ≤ 10) && decide (es.length ≤ 10) && es.all (edgeOk n)
def F_spec_GraphOk : Int × List (Int × Int) → Option Bool := fun ((n, es) : Int × List (Int × Int)) => some (graphOk n es)
def F_impl_GraphOk : Int × List (Int × Int) → Option Bool := fun ((n, es) : Int × List (Int × Int)) => some (graphOk n es)
def delStep (k : Int) (i : Nat) (acc : List (Int × Int)) (e : Int × Int) : List (Int × Int) := if (i : Int) = k then acc else acc ++ [e]
def delE (k : Int) (l : List (Int × Int)) : List (Int × Int) := foldN (delStep k) 0 [] l
def F_spec_l36Delete : (Int × List (Int × Int)) × Int → Option (Int × List (Int × Int)) := fun (((n, l), k) : (Int × List (Int × Int)) × Int) => if l.length ≤ 1048576 then some (n, delE k l) else none
def delR (n : Int) (l : List (Int × Int)) (k : Int) : (Int × List (Int × Int)) × Bool := if graphOk n l = true ∧ 0 ≤ k ∧ k < l.length then ((n, delE k l), true) else ((0, []), false)
def F_spec_DeleteEdge : (Int × List (Int × Int)) × Int → Option ((Int × List (Int × Int)) × Bool) := fun (((n, l), k) : (Int × List (Int × Int)) × Int) => if l.length ≤ 1048576 then some (delR n l k) else none
def F_impl_DeleteEdge : (Int × List (Int × Int)) × Int → Option ((Int × List (Int × Int)) × Bool) := fun (((n, l), k) : (Int × List (Int × Int)) × Int) => if l.length ≤ 1048576 then some (delR n l k) else none
def ag_spec_l01In : Sig := [(.one, [.int .i64]), (.one, [.int .i64]), (.one, [.int .i64])]
def rs_spec_l01In : Sig := [(.one, [.bool])]
def mu_spec_l01In : MSig := []
def ag_spec_GraphOk : Sig := [(.agg, [.int .i64, .list [.int .i64, .int .i64]])]
def rs_spec_GraphOk : Sig := [(.one, [.bool])]
def mu_spec_GraphOk : MSig := []
def ag_impl_GraphOk : Sig := [(.agg, [.int .i64, .list [.int .i64, .int .i64]])]
def rs_impl_GraphOk : Sig := [(.one, [.bool])]
def mu_impl_GraphOk : MSig := []
def ag_spec_l36Delete : Sig := [(.agg, [.int .i64, .list [.int .i64, .int .i64]]), (.one, [.int .i64])]
def rs_spec_l36Delete : Sig := [(.agg, [.int .i64, .list [.int .i64, .int .i64]])]
def mu_spec_l36Delete : MSig := []
def ag_spec_DeleteEdge : Sig := [(.agg, [.int .i64, .list [.int .i64, .int .i64]]), (.one, [.int .i64])]
def rs_spec_DeleteEdge : Sig := [(.agg, [.int .i64, .list [.int .i64, .int .i64]]), (.one, [.bool])]
def mu_spec_DeleteEdge : MSig := []
def ag_impl_DeleteEdge : Sig := [(.agg, [.int .i64, .list [.int .i64, .int .i64]]), (.one, [.int .i64])]
def rs_impl_DeleteEdge : Sig := [(.agg, [.int .i64, .list [.int .i64, .int .i64]]), (.one, [.bool])]
def mu_impl_DeleteEdge : MSig := []

def G_spec_l01In (NN : Nat) : (Int × (Int × Int)) → (Option Bool) :=
  (fun ((i0, i1, i2) : (Int × (Int × Int))) =>
  cnd (leI i1 i0)
    (some (leI i0 i2))
    (some false))

def G_spec_GraphOk (NN : Nat) : (Int × (List (Int × Int))) → (Option Bool) :=
  (fun ((i0, l1) : (Int × (List (Int × Int)))) =>
  (F_spec_l01In (i0, (0 : Int), (10 : Int))).bnd (fun (b2 : Bool) =>
    cnd (notB b2)
      (some false)
      (cnd (ltI (10 : Int) (natI (lenN l1)))
        (some false)
        (joinK (loopT NN (fun (((l3, i4, i5), i6, l7) : (((List (Int × Int)) × (Int × Int)) × (Int × (List (Int × Int))))) =>
              cnd (ltI i5 i4)
                ((getI l3 i5).bnd (fun ((i8, i9) : (Int × Int)) =>
                  (F_spec_l01In (i8, (0 : Int), subI .i64 i6 (1 : Int))).bnd (fun (b10 : Bool) =>
                    cnd (notB b10)
                      (some (Sum.inr (Sum.inr false)))
                      ((F_spec_l01In (i9, (0 : Int), subI .i64 i6 (1 : Int))).bnd (fun (b11 : Bool) =>
                        cnd (notB b11)
                          (some (Sum.inr (Sum.inr false)))
                          (some (Sum.inl ((l3, i4, addI .i64 i5 (1 : Int)), i6, l7))))))))
                (some (Sum.inr (Sum.inl ()))))
            ((l1, natI (lenN l1), (0 : Int)), i0, l1))
          (fun (_ : Unit) =>
            some true)))))

def G_impl_GraphOk (NN : Nat) : (Int × (List (Int × Int))) → (Option Bool) :=
  (fun ((i0, l1) : (Int × (List (Int × Int)))) =>
  cnd (ltI i0 (0 : Int))
    (some false)
    (cnd (ltI (10 : Int) i0)
      (some false)
      (cnd (ltI (10 : Int) (natI (lenN l1)))
        (some false)
        (joinK (loopT NN (fun (((l2, i3, i4), i5, l6) : (((List (Int × Int)) × (Int × Int)) × (Int × (List (Int × Int))))) =>
              cnd (ltI i4 i3)
                ((getI l2 i4).bnd (fun ((i7, i8) : (Int × Int)) =>
                  cnd (ltI i7 (0 : Int))
                    (some (Sum.inr (Sum.inr false)))
                    (cnd (ltI i8 (0 : Int))
                      (some (Sum.inr (Sum.inr false)))
                      (cnd (leI i5 i7)
                        (some (Sum.inr (Sum.inr false)))
                        (cnd (leI i5 i8)
                          (some (Sum.inr (Sum.inr false)))
                          (some (Sum.inl ((l2, i3, addI .i64 i4 (1 : Int)), i5, l6))))))))
                (some (Sum.inr (Sum.inl ()))))
            ((l1, natI (lenN l1), (0 : Int)), i0, l1))
          (fun (_ : Unit) =>
            some true)))))

def G_spec_l36Delete (NN : Nat) : ((Int × (List (Int × Int))) × Int) → (Option (Int × (List (Int × Int)))) :=
  (fun (((i0, l1), i2) : ((Int × (List (Int × Int))) × Int)) =>
  joinK ((fulI 0 0 (lenN (([] : List (Int × Int))))).bnd (fun (_ : Unit) =>
      (fulI 0 0 (lenN (([] : List (Int × Int))))).bnd (fun (_ : Unit) =>
        loopT NN (fun (((i3, l4, i5, i6), i7, i8, l9, l10) : ((Int × ((List (Int × Int)) × (Int × Int))) × (Int × (Int × ((List (Int × Int)) × (List (Int × Int))))))) =>
            cnd (ltI i6 i5)
              ((getI l4 i6).bnd (fun ((i11, i12) : (Int × Int)) =>
                cnd (neI i6 i3)
                  ((fulI 0 (lenN l10) (lenN l10)).bnd (fun (_ : Unit) =>
                    (winI (((i11, i12) :: ([] : List (Int × Int)))) 0 1).bnd (fun (l13 : (List (Int × Int))) =>
                      (fitI (addN (lenN l10) (lenN l13)) 16).bnd (fun (_ : Unit) =>
                        (fulI 0 (lenN l9) (lenN l9)).bnd (fun (_ : Unit) =>
                          (fulI 0 (addN (lenN l10) (lenN l13)) (lenN (appL l10 l13))).bnd (fun (_ : Unit) =>
                            some (Sum.inl ((i3, l4, i5, addI .i64 i6 (1 : Int)), i7, i8, l9, appL l10 l13))))))))
                  ((fulI 0 (lenN l9) (lenN l9)).bnd (fun (_ : Unit) =>
                    (fulI 0 (lenN l10) (lenN l10)).bnd (fun (_ : Unit) =>
                      some (Sum.inl ((i3, l4, i5, addI .i64 i6 (1 : Int)), i7, i8, l9, l10)))))))
              (((fulI 0 (lenN l9) (lenN l9)).bnd (fun (_ : Unit) =>
                (fulI 0 (lenN l10) (lenN l10)).bnd (fun (_ : Unit) =>
                  some (Sum.inl (i7, i8, l9, l10))))).bnd (fun (l14 : ((Int × (Int × ((List (Int × Int)) × (List (Int × Int))))) ⊕ (Int × (List (Int × Int))))) =>
                some (Sum.inr l14))))
          ((i2, l1, natI (lenN l1), (0 : Int)), (0 : Int), i0, ([] : List (Int × Int)), ([] : List (Int × Int))))))
    (fun ((i15, i16, l17, l18) : (Int × (Int × ((List (Int × Int)) × (List (Int × Int)))))) =>
      (takI l18 (lenN l18)).bnd (fun (l19 : (List (Int × Int))) =>
        some (i16, l19))))

def G_spec_DeleteEdge (NN : Nat) : ((Int × (List (Int × Int))) × Int) → (Option ((Int × (List (Int × Int))) × Bool)) :=
  (fun (((i0, l1), i2) : ((Int × (List (Int × Int))) × Int)) =>
  (F_spec_GraphOk (i0, l1)).bnd (fun (b3 : Bool) =>
    cnd (notB b3)
      (some (((0 : Int), ([] : List (Int × Int))), false))
      ((F_spec_l01In (i2, (0 : Int), subI .i64 (natI (lenN l1)) (1 : Int))).bnd (fun (b4 : Bool) =>
        cnd (notB b4)
          (some (((0 : Int), ([] : List (Int × Int))), false))
          ((F_spec_l36Delete ((i0, l1), i2)).bnd (fun ((i5, l6) : (Int × (List (Int × Int)))) =>
            (takI l6 (lenN l6)).bnd (fun (l7 : (List (Int × Int))) =>
              some ((i5, l7), true))))))))

def G_impl_DeleteEdge (NN : Nat) : ((Int × (List (Int × Int))) × Int) → (Option ((Int × (List (Int × Int))) × Bool)) :=
  (fun (((i0, l1), i2) : ((Int × (List (Int × Int))) × Int)) =>
  (F_impl_GraphOk (i0, l1)).bnd (fun (b3 : Bool) =>
    cnd (notB b3)
      (some (((0 : Int), ([] : List (Int × Int))), false))
      (cnd (ltI i2 (0 : Int))
        (some (((0 : Int), ([] : List (Int × Int))), false))
        (cnd (leI (natI (lenN l1)) i2)
          (some (((0 : Int), ([] : List (Int × Int))), false))
          (joinK ((fulI 0 0 (lenN (([] : List (Int × Int))))).bnd (fun (_ : Unit) =>
              (fulI 0 0 (lenN (([] : List (Int × Int))))).bnd (fun (_ : Unit) =>
                loopT NN (fun (((i4, l5, i6, i7), i8, i9, l10, l11) : ((Int × ((List (Int × Int)) × (Int × Int))) × (Int × (Int × ((List (Int × Int)) × (List (Int × Int))))))) =>
                    cnd (ltI i7 i6)
                      ((getI l5 i7).bnd (fun ((i12, i13) : (Int × Int)) =>
                        cnd (neI i7 i4)
                          ((fulI 0 (lenN l11) (lenN l11)).bnd (fun (_ : Unit) =>
                            (winI (((i12, i13) :: ([] : List (Int × Int)))) 0 1).bnd (fun (l14 : (List (Int × Int))) =>
                              (fitI (addN (lenN l11) (lenN l14)) 16).bnd (fun (_ : Unit) =>
                                (fulI 0 (lenN l10) (lenN l10)).bnd (fun (_ : Unit) =>
                                  (fulI 0 (addN (lenN l11) (lenN l14)) (lenN (appL l11 l14))).bnd (fun (_ : Unit) =>
                                    some (Sum.inl ((i4, l5, i6, addI .i64 i7 (1 : Int)), i8, i9, l10, appL l11 l14))))))))
                          ((fulI 0 (lenN l10) (lenN l10)).bnd (fun (_ : Unit) =>
                            (fulI 0 (lenN l11) (lenN l11)).bnd (fun (_ : Unit) =>
                              some (Sum.inl ((i4, l5, i6, addI .i64 i7 (1 : Int)), i8, i9, l10, l11)))))))
                      (((fulI 0 (lenN l10) (lenN l10)).bnd (fun (_ : Unit) =>
                        (fulI 0 (lenN l11) (lenN l11)).bnd (fun (_ : Unit) =>
                          some (Sum.inl (i8, i9, l10, l11))))).bnd (fun (l15 : ((Int × (Int × ((List (Int × Int)) × (List (Int × Int))))) ⊕ ((Int × (List (Int × Int))) × Bool))) =>
                        some (Sum.inr l15))))
                  ((i2, l1, natI (lenN l1), (0 : Int)), (0 : Int), i0, ([] : List (Int × Int)), ([] : List (Int × Int))))))
            (fun ((i16, i17, l18, l19) : (Int × (Int × ((List (Int × Int)) × (List (Int × Int)))))) =>
              (takI l19 (lenN l19)).bnd (fun (l20 : (List (Int × Int))) =>
                some ((i17, l20), true))))))))


theorem f_spec_l01In (x : Int × Int × Int) (y : Bool) (h : F_spec_l01In x = some y) : G_spec_l01In FUEL x = some y := by
  obtain ⟨a, b, c⟩ := x
  rw [← h]
  simp only [F_spec_l01In, G_spec_l01In, leI]
  by_cases hc : b ≤ a <;> simp [hc, cnd]

def resOk (n : Int) : List (Int × Int) → Unit ⊕ Bool
  | [] => .inl ()
  | e :: es => if edgeOk n e = true then resOk n es else .inr false

theorem resOk_eq (n : Int) (es : List (Int × Int)) : resOk n es = if es.all (edgeOk n) = true then .inl () else .inr false := by
  induction es with
  | nil => rfl
  | cons e es ih =>
    simp only [resOk]
    by_cases h : edgeOk n e = true
    · have e1 : (e :: es).all (edgeOk n) = es.all (edgeOk n) := by simp [h]
      rw [if_pos h, ih, e1]
    · have e1 : (e :: es).all (edgeOk n) = false := by simp [h]
      rw [if_neg h, e1]
      rfl

theorem f_spec_GraphOk (x : Int × List (Int × Int)) (y : Bool) (h : F_spec_GraphOk x = some y) : G_spec_GraphOk FUEL x = some y := by
  obtain ⟨n, es⟩ := x
  rw [← h]
  simp only [F_spec_GraphOk, G_spec_GraphOk, F_spec_l01In, bnd_s, graphOk]
  by_cases h1 : 0 ≤ n ∧ n ≤ 10
  · rw [cnd_f (notB_p h1)]
    by_cases h2 : es.length ≤ 10
    · rw [cnd_f (ltI_f (by have := nl es; omega))]
      rw [loopT_run (r := resOk n es) (fun k s => ∃ (i : Nat) (j : Int), j = (i : Int) ∧ i ≤ es.length ∧ k = es.length - i ∧ resOk n es = resOk n (es.drop i) ∧ s = ((es, natI (lenN es), j), n, es)) ?_ es.length _ ⟨0, 0, rfl, by omega, by omega, by simp, rfl⟩ FUEL (FUEL_gt (by omega))]
      · rw [resOk_eq]
        by_cases h3 : es.all (edgeOk n) = true
        · rw [if_pos h3, joinK_l]; simp [h1, h2]; simpa using h3
        · rw [if_neg h3, joinK_r]; simp [h1, h2]; simpa using h3
      · rintro k s ⟨i, _, rfl, hi, rfl, hr, rfl⟩
        simp only
        by_cases hlt : i < es.length
        · obtain ⟨e, he⟩ : ∃ e, es[i]? = some e := ⟨_, List.getElem?_eq_getElem hlt⟩
          obtain ⟨u, v⟩ := e
          have hd := drop_cons he
          rw [cnd_t (ltI_t (by have := nl es; omega)), getI_nat, he, bnd_s]
          simp only [F_spec_l01In, bnd_s, subI_eq (a := n) (b := 1) (by omega) (by omega)]
          rw [hr, hd, resOk]
          by_cases hu : 0 ≤ u ∧ u ≤ n - 1
          · rw [cnd_f (notB_p hu)]
            by_cases hv : 0 ≤ v ∧ v ≤ n - 1
            · right
              refine ⟨es.length - (i + 1), ((es, natI (lenN es), ((i + 1 : Nat) : Int)), n, es), by omega, ?_, i + 1, _, rfl, by omega, rfl, ?_, rfl⟩
              · rw [cnd_f (notB_p hv), addI_eq (by omega) (by omega)]; rfl
              · rw [if_pos (by simp [edgeOk, hu, hv])]
            · left
              rw [cnd_t (notB_d hv), if_neg (by simp [edgeOk]; omega)]
          · left
            rw [cnd_t (notB_d hu), if_neg (by simp [edgeOk]; omega)]
        · left
          have hi' : i = es.length := by omega
          subst hi'
          rw [cnd_f (ltI_f (by have := nl es; omega)), hr]
          simp [resOk]
    · rw [cnd_t (ltI_t (by have := nl es; omega))]
      simp [h2]
  · rw [cnd_t (notB_d h1)]
    simp [h1]

theorem f_impl_GraphOk (x : Int × List (Int × Int)) (y : Bool) (h : F_impl_GraphOk x = some y) : G_impl_GraphOk FUEL x = some y := by
  obtain ⟨n, es⟩ := x
  rw [← h]
  simp only [F_impl_GraphOk, G_impl_GraphOk, graphOk]
  by_cases h0 : n < 0
  · rw [cnd_t (by simp [ltI, h0])]; simp; omega
  rw [cnd_f (by simp [ltI]; omega)]
  by_cases h1 : 10 < n
  · rw [cnd_t (by simp [ltI, h1])]; simp; omega
  rw [cnd_f (by simp [ltI]; omega)]
  by_cases h2 : es.length ≤ 10
  · rw [cnd_f (ltI_f (by have := nl es; omega))]
    rw [loopT_run (r := resOk n es) (fun k s => ∃ (i : Nat) (j : Int), j = (i : Int) ∧ i ≤ es.length ∧ k = es.length - i ∧ resOk n es = resOk n (es.drop i) ∧ s = ((es, natI (lenN es), j), n, es)) ?_ es.length _ ⟨0, 0, rfl, by omega, by omega, by simp, rfl⟩ FUEL (FUEL_gt (by omega))]
    · rw [resOk_eq]
      by_cases h3 : es.all (edgeOk n) = true
      · rw [if_pos h3, joinK_l]; simp [h2]; exact ⟨by omega, by simpa using h3⟩
      · rw [if_neg h3, joinK_r]; simp [h2]; intro _ _; simpa using h3
    · rintro k s ⟨i, _, rfl, hi, rfl, hr, rfl⟩
      simp only
      by_cases hlt : i < es.length
      · obtain ⟨e, he⟩ : ∃ e, es[i]? = some e := ⟨_, List.getElem?_eq_getElem hlt⟩
        obtain ⟨u, v⟩ := e
        have hd := drop_cons he
        rw [cnd_t (ltI_t (by have := nl es; omega)), getI_nat, he, bnd_s]
        rw [hr, hd, resOk]
        simp only
        by_cases c1 : u < 0
        · left; rw [cnd_t (by simp [ltI, c1]), if_neg (by simp [edgeOk]; omega)]
        rw [cnd_f (by simp [ltI]; omega)]
        by_cases c2 : v < 0
        · left; rw [cnd_t (by simp [ltI, c2]), if_neg (by simp [edgeOk]; omega)]
        rw [cnd_f (by simp [ltI]; omega)]
        by_cases c3 : n ≤ u
        · left; rw [cnd_t (by simp [leI, c3]), if_neg (by simp [edgeOk]; omega)]
        rw [cnd_f (by simp [leI]; omega)]
        by_cases c4 : n ≤ v
        · left; rw [cnd_t (by simp [leI, c4]), if_neg (by simp [edgeOk]; omega)]
        rw [cnd_f (by simp [leI]; omega)]
        right
        refine ⟨es.length - (i + 1), ((es, natI (lenN es), ((i + 1 : Nat) : Int)), n, es), by omega, ?_, i + 1, _, rfl, by omega, rfl, ?_, rfl⟩
        · rw [addI_eq (by omega) (by omega)]; rfl
        · rw [if_pos (by simp [edgeOk]; omega)]
      · left
        have hi' : i = es.length := by omega
        subst hi'
        rw [cnd_f (ltI_f (by have := nl es; omega)), hr]
        simp [resOk]
  · rw [cnd_t (ltI_t (by have := nl es; omega))]
    simp [h2]

theorem foldN_inv {S α : Type} (step : Nat → S → α → S) (I : Nat → S → Prop) : ∀ (l : List α) (i : Nat) (s : S), I i s → (∀ j s a, I j s → a ∈ l → I (j + 1) (step j s a)) → I (i + l.length) (foldN step i s l)
  | [], i, s, h, _ => h
  | a :: l, i, s, h, hs => by
    have := foldN_inv step I l (i + 1) (step i s a) (hs i s a h (by simp)) (fun j s b hj hb => hs j s b hj (by simp [hb]))
    rw [List.length_cons, show i + (l.length + 1) = i + 1 + l.length by omega]
    exact this

theorem delE_len (k : Int) (l : List (Int × Int)) : (delE k l).length ≤ l.length := by
  have := foldN_inv (delStep k) (fun i s => s.length ≤ i) l 0 [] (by simp) (fun j s a h _ => by unfold delStep; split <;> (try simp only [List.length_append, List.length_cons, List.length_nil]) <;> omega)
  rwa [Nat.zero_add] at this

theorem delStep_t {k : Int} {i : Nat} {acc : List (Int × Int)} {e : Int × Int} (h : (i : Int) = k) : delStep k i acc e = acc := if_pos h
theorem delStep_f {k : Int} {i : Nat} {acc : List (Int × Int)} {e : Int × Int} (h : (i : Int) ≠ k) : delStep k i acc e = acc ++ [e] := if_neg h

theorem f_spec_l36Delete (x : (Int × List (Int × Int)) × Int) (y : Int × List (Int × Int)) (h : F_spec_l36Delete x = some y) : G_spec_l36Delete FUEL x = some y := by
  obtain ⟨⟨n, l⟩, k⟩ := x
  simp only [F_spec_l36Delete] at h
  split at h
  · rename_i hl
    rw [← h]
    simp only [G_spec_l36Delete, fulI_id, bnd_s, win1]
    rw [show fulI 0 0 (lenN ([] : List (Int × Int))) = some () from rfl, bnd_s, bnd_s]
    rw [loopT_foldN l (fun acc i => ((k, l, natI (lenN l), (i : Int)), (0 : Int), n, ([] : List (Int × Int)), acc)) (fun i acc => acc.length ≤ i) (delStep k) (fun acc => Sum.inl ((0 : Int), n, ([] : List (Int × Int)), acc)) ?_ ?_ (s := []) (by simp) ?_ (FUEL_gt (by omega))]
    · rw [joinK_l]; simp only [takI_id, bnd_s]; rfl
    · rintro i acc ⟨u, v⟩ he hI
      have := lt_of_get he
      refine ⟨?_, by unfold delStep; split <;> (try simp only [List.length_append, List.length_cons, List.length_nil]) <;> omega⟩
      simp only
      rw [cnd_t (ltI_in he), getI_nat, he, bnd_s, next_i he (by omega)]
      by_cases hk : (i : Int) = k
      · rw [cnd_f (neI_f hk), delStep_t hk]
      · rw [cnd_t (neI_t hk), delStep_f hk, fitI_ok (by simp only [addN, lenN, maxBytes, List.length_cons, List.length_nil]; omega), bnd_s, lenN_appL, fulI_id, bnd_s]; rfl
    · intro acc hI
      simp only
      rw [cnd_f (ltI_end l)]
    · rfl
  · cases h

theorem f_spec_DeleteEdge (x : (Int × List (Int × Int)) × Int) (y : (Int × List (Int × Int)) × Bool) (h : F_spec_DeleteEdge x = some y) : G_spec_DeleteEdge FUEL x = some y := by
  obtain ⟨⟨n, l⟩, k⟩ := x
  simp only [F_spec_DeleteEdge] at h
  split at h
  · rename_i hl
    rw [← h]
    have hn := nl l
    simp only [G_spec_DeleteEdge, F_spec_GraphOk, bnd_s, F_spec_l01In, F_spec_l36Delete, if_pos hl, takI_id]
    rw [subI_eq (by omega) (by omega)]
    unfold delR
    by_cases hg : graphOk n l = true
    · rw [cnd_f (by rw [hg]; rfl)]
      by_cases hk : 0 ≤ k ∧ k ≤ natI (lenN l) - 1
      · rw [cnd_f (notB_p hk), if_pos ⟨hg, hk.1, by omega⟩]
      · rw [cnd_t (notB_d hk), if_neg (by omega)]
    · rw [cnd_t (by rw [Bool.eq_false_iff.2 hg]; rfl), if_neg (fun h => hg h.1)]
  · cases h

theorem f_impl_DeleteEdge (x : (Int × List (Int × Int)) × Int) (y : (Int × List (Int × Int)) × Bool) (h : F_impl_DeleteEdge x = some y) : G_impl_DeleteEdge FUEL x = some y := by
  obtain ⟨⟨n, l⟩, k⟩ := x
  simp only [F_impl_DeleteEdge] at h
  split at h
  · rename_i hl
    rw [← h]
    have hn := nl l
    simp only [G_impl_DeleteEdge, F_impl_GraphOk, fulI_id, bnd_s, win1]
    unfold delR
    by_cases hg : graphOk n l = true
    · rw [cnd_f (by rw [hg]; rfl)]
      by_cases hk : k < 0
      · rw [cnd_t (ltI_t hk), if_neg (by omega)]
      rw [cnd_f (ltI_f (by omega))]
      by_cases hk2 : (l.length : Int) ≤ k
      · rw [cnd_t (leI_t (by omega)), if_neg (by omega)]
      rw [cnd_f (leI_f (by omega)), if_pos ⟨hg, by omega, by omega⟩]
      rw [show fulI 0 0 (lenN ([] : List (Int × Int))) = some () from rfl, bnd_s, bnd_s]
      rw [loopT_foldN l (fun acc i => ((k, l, natI (lenN l), (i : Int)), (0 : Int), n, ([] : List (Int × Int)), acc)) (fun i acc => acc.length ≤ i) (delStep k) (fun acc => Sum.inl ((0 : Int), n, ([] : List (Int × Int)), acc)) ?_ ?_ (s := []) (by simp) ?_ (FUEL_gt (by omega))]
      · rw [joinK_l]; simp only [takI_id, bnd_s]; rfl
      · rintro i acc ⟨u, v⟩ he hI
        have := lt_of_get he
        refine ⟨?_, by unfold delStep; split <;> (try simp only [List.length_append, List.length_cons, List.length_nil]) <;> omega⟩
        simp only
        rw [cnd_t (ltI_in he), getI_nat, he, bnd_s, next_i he (by omega)]
        by_cases hk : (i : Int) = k
        · rw [cnd_f (neI_f hk), delStep_t hk]
        · rw [cnd_t (neI_t hk), delStep_f hk, fitI_ok (by simp only [addN, lenN, maxBytes, List.length_cons, List.length_nil]; omega), bnd_s, lenN_appL, fulI_id, bnd_s]; rfl
      · intro acc hI
        simp only
        rw [cnd_f (ltI_end l)]
      · rfl
    · rw [cnd_t (by rw [Bool.eq_false_iff.2 hg]; rfl), if_neg (fun h => hg h.1)]
  · cases h

end Go.Am
