/- M1, Mx, M4, M31, M6, M7, M8, M9, Fm, M14, M15, M16, M17, M19, M33, M32, M34, M35: parts of the proof. No condition. -/
import Derived.Test.YtogffhfjcilboaaMT
set_option linter.unusedVariables false
set_option linter.unusedSimpArgs false
section
namespace Go.Am
def F_spec_l01In : Int × Int × Int → Option Bool := fun ((a, b, c) : Int × Int × Int) => some (decide (b ≤ a ∧ a ≤ c))
def edgeOk (n : Int) (e : Int × Int) : Bool := decide ((0 ≤ e.1 ∧ e.1 ≤ n - 1) ∧ (0 ≤ e.2 ∧ e.2 ≤ n - 1))
def graphOk (n : Int) (es : List (Int × Int)) : Bool := decide (0 ≤ n ∧ n ≤ 10) && decide (es.length ≤ 10) && es.all (edgeOk n)
def F_spec_GraphOk : Int × List (Int × Int) → Option Bool := fun ((n, es) : Int × List (Int × Int)) => some (graphOk n es)
def F_impl_GraphOk : Int × List (Int × Int) → Option Bool := fun ((n, es) : Int × List (Int × Int)) => some (graphOk n es)
def delStep (k : Int) (i : Nat) (acc : List (Int × Int)) (e : Int × Int) : List (Int × Int) := if (i : Int) = k then acc else acc ++ [e]
def delE (k : Int) (l : List (Int × Int)) : List (Int × Int) := foldN (delStep k) 0 [] l
def F_spec_l36Delete : (Int × List (Int × Int)) × Int → Option (Int × List (Int × Int)) := fun (((n, l), k) : (Int × List (Int × Int)) × Int) => if l.length ≤ 1048576 then some (n, delE k l) else none
def delR (n : Int) (l : List (Int × Int)) (k : Int) : (Int × List (Int × Int)) × Bool := if graphOk n l = true ∧ 0 ≤ k ∧ k < l.length then ((n, delE k l), true) else ((0, []), false)
def F_impl_DeleteEdge : (Int × List (Int × Int)) × Int → Option ((Int × List (Int × Int)) × Bool) := fun (((n, l), k) : (Int × List (Int × Int)) × Int) => if l.length ≤ 1048576 then some (delR n l k) else none
def ag_spec_l01In : Sig := [(.one, [.int .i64]), (.one, [.int .i64]), (.one, [.int .i64])]
def rs_spec_l01In : Sig := [(.one, [.bool])]
def mu_spec_l01In : MSig := []
def ag_spec_GraphOk : Sig := [(.agg, [.int .i64, .list [.int .i64, .int .i64]])]
def rs_spec_GraphOk : Sig := [(.one, [.bool])]
def mu_spec_GraphOk : MSig := []
def ag_impl_GraphOk : Sig := [(.agg, [.int .i64, .list [.int .i64, .int .i64]])]
def rs_impl_GraphOk : Sig := [(.one, [.bool])]
def mu_impl_GraphOk : MSig := []
def ag_spec_l36Delete : Sig := [(.agg, [.int .i64, .list [.int .i64, .int .i64]]), (.one, [.int .i64])]
def rs_spec_l36Delete : Sig := [(.agg, [.int .i64, .list [.int .i64, .int .i64]])]
def mu_spec_l36Delete : MSig := []
def ag_impl_DeleteEdge : Sig := [(.agg, [.int .i64, .list [.int .i64, .int .i64]]), (.one, [.int .i64])]
def rs_impl_DeleteEdge : Sig := [(.agg, [.int .i64, .list [.int .i64, .int .i64]]), (.one, [.bool])]
def mu_impl_DeleteEdge : MSig := []

def G_spec_l01In (NN : Nat) : (Int × (Int × Int)) → (Option Bool) :=
 (fun ((i0, i1, i2) : (Int × (Int × Int))) =>
 cnd (leI i1 i0)
 (some (leI i0 i2))
 (some false))

def G_spec_GraphOk (NN : Nat) : (Int × (List (Int × Int))) → (Option Bool) :=
 (fun ((i0, l1) : (Int × (List (Int × Int)))) =>
 (F_spec_l01In (i0, (0 : Int), (10 : Int))).bnd (fun b2 =>
 cnd (notB b2)
 (some false)
 (cnd (ltI (10 : Int) (natI (lenN l1)))
 (some false)
 (joinK (loopT NN (fun (((l3, i4, i5), i6, l7) : (((List (Int × Int)) × (Int × Int)) × (Int × (List (Int × Int))))) =>
 cnd (ltI i5 i4)
 ((getI l3 i5).bnd (fun (i8, i9) =>
 (F_spec_l01In (i8, (0 : Int), subI .i64 i6 1)).bnd (fun b10 =>
 cnd (notB b10)
 (some (Sum.inr (Sum.inr false)))
 ((F_spec_l01In (i9, (0 : Int), subI .i64 i6 1)).bnd (fun b11 =>
 cnd (notB b11)
 (some (Sum.inr (Sum.inr false)))
 (some (Sum.inl ((l3, i4, addI .i64 i5 1), i6, l7))))))))
 (some (Sum.inr (Sum.inl ()))))
 ((l1, natI (lenN l1), (0 : Int)), i0, l1))
 (fun _ =>
 some true)))))

def G_impl_GraphOk (NN : Nat) : (Int × (List (Int × Int))) → (Option Bool) :=
 (fun ((i0, l1) : (Int × (List (Int × Int)))) =>
 cnd (ltI i0 (0 : Int))
 (some false)
 (cnd (ltI (10 : Int) i0)
 (some false)
 (cnd (ltI (10 : Int) (natI (lenN l1)))
 (some false)
 (joinK (loopT NN (fun (((l2, i3, i4), i5, l6) : (((List (Int × Int)) × (Int × Int)) × (Int × (List (Int × Int))))) =>
 cnd (ltI i4 i3)
 ((getI l2 i4).bnd (fun (i7, i8) =>
 cnd (ltI i7 (0 : Int))
 (some (Sum.inr (Sum.inr false)))
 (cnd (ltI i8 (0 : Int))
 (some (Sum.inr (Sum.inr false)))
 (cnd (leI i5 i7)
 (some (Sum.inr (Sum.inr false)))
 (cnd (leI i5 i8)
 (some (Sum.inr (Sum.inr false)))
 (some (Sum.inl ((l2, i3, addI .i64 i4 1), i5, l6))))))))
 (some (Sum.inr (Sum.inl ()))))
 ((l1, natI (lenN l1), (0 : Int)), i0, l1))
 (fun _ =>
 some true)))))

def G_spec_l36Delete (NN : Nat) : ((Int × (List (Int × Int))) × Int) → (Option (Int × (List (Int × Int)))) :=
 (fun (((i0, l1), i2) : ((Int × (List (Int × Int))) × Int)) =>
 joinK ((fulI 0 0 (lenN (([] : List (Int × Int))))).bnd (fun _ =>
 (fulI 0 0 (lenN (([] : List (Int × Int))))).bnd (fun _ =>
 loopT NN (fun (((i3, l4, i5, i6), i7, i8, l9, l10) : ((Int × ((List (Int × Int)) × (Int × Int))) × (Int × (Int × ((List (Int × Int)) × (List (Int × Int))))))) =>
 cnd (ltI i6 i5)
 ((getI l4 i6).bnd (fun (i11, i12) =>
 cnd (neI i6 i3)
 ((fulI 0 (lenN l10) (lenN l10)).bnd (fun _ =>
 (winI (((i11, i12) :: ([] : List (Int × Int)))) 0 1).bnd (fun l13 =>
 (fitI (addN (lenN l10) (lenN l13)) 16).bnd (fun _ =>
 (fulI 0 (lenN l9) (lenN l9)).bnd (fun _ =>
 (fulI 0 (addN (lenN l10) (lenN l13)) (lenN (appL l10 l13))).bnd (fun _ =>
 some (Sum.inl ((i3, l4, i5, addI .i64 i6 1), i7, i8, l9, appL l10 l13))))))))
 ((fulI 0 (lenN l9) (lenN l9)).bnd (fun _ =>
 (fulI 0 (lenN l10) (lenN l10)).bnd (fun _ =>
 some (Sum.inl ((i3, l4, i5, addI .i64 i6 1), i7, i8, l9, l10)))))))
 (((fulI 0 (lenN l9) (lenN l9)).bnd (fun _ =>
 (fulI 0 (lenN l10) (lenN l10)).bnd (fun _ =>
 some (Sum.inl (i7, i8, l9, l10))))).bnd (fun l14 =>
 some (Sum.inr l14))))
 ((i2, l1, natI (lenN l1), (0 : Int)), (0 : Int), i0, ([] : List (Int × Int)), ([] : List (Int × Int))))))
 (fun (i15, i16, l17, l18) =>
 (takI l18 (lenN l18)).bnd (fun l19 =>
 some (i16, l19))))

def G_impl_DeleteEdge (NN : Nat) : ((Int × (List (Int × Int))) × Int) → (Option ((Int × (List (Int × Int))) × Bool)) :=
 (fun (((i0, l1), i2) : ((Int × (List (Int × Int))) × Int)) =>
 (F_impl_GraphOk (i0, l1)).bnd (fun b3 =>
 cnd (notB b3)
 (some (((0 : Int), ([] : List (Int × Int))), false))
 (cnd (ltI i2 (0 : Int))
 (some (((0 : Int), ([] : List (Int × Int))), false))
 (cnd (leI (natI (lenN l1)) i2)
 (some (((0 : Int), ([] : List (Int × Int))), false))
 (joinK ((fulI 0 0 (lenN (([] : List (Int × Int))))).bnd (fun _ =>
 (fulI 0 0 (lenN (([] : List (Int × Int))))).bnd (fun _ =>
 loopT NN (fun (((i4, l5, i6, i7), i8, i9, l10, l11) : ((Int × ((List (Int × Int)) × (Int × Int))) × (Int × (Int × ((List (Int × Int)) × (List (Int × Int))))))) =>
 cnd (ltI i7 i6)
 ((getI l5 i7).bnd (fun (i12, i13) =>
 cnd (neI i7 i4)
 ((fulI 0 (lenN l11) (lenN l11)).bnd (fun _ =>
 (winI (((i12, i13) :: ([] : List (Int × Int)))) 0 1).bnd (fun l14 =>
 (fitI (addN (lenN l11) (lenN l14)) 16).bnd (fun _ =>
 (fulI 0 (lenN l10) (lenN l10)).bnd (fun _ =>
 (fulI 0 (addN (lenN l11) (lenN l14)) (lenN (appL l11 l14))).bnd (fun _ =>
 some (Sum.inl ((i4, l5, i6, addI .i64 i7 1), i8, i9, l10, appL l11 l14))))))))
 ((fulI 0 (lenN l10) (lenN l10)).bnd (fun _ =>
 (fulI 0 (lenN l11) (lenN l11)).bnd (fun _ =>
 some (Sum.inl ((i4, l5, i6, addI .i64 i7 1), i8, i9, l10, l11)))))))
 (((fulI 0 (lenN l10) (lenN l10)).bnd (fun _ =>
 (fulI 0 (lenN l11) (lenN l11)).bnd (fun _ =>
 some (Sum.inl (i8, i9, l10, l11))))).bnd (fun l15 =>
 some (Sum.inr l15))))
 ((i2, l1, natI (lenN l1), (0 : Int)), (0 : Int), i0, ([] : List (Int × Int)), ([] : List (Int × Int))))))
 (fun (i16, i17, l18, l19) =>
 (takI l19 (lenN l19)).bnd (fun l20 =>
 some ((i17, l20), true))))))))


theorem f_spec_l01In (x : Int × Int × Int) (y : Bool) (h : F_spec_l01In x = some y) : G_spec_l01In FUEL x = some y := by
  obtain ⟨a, b, c⟩ := x
  rw [← h]
  simp only [F_spec_l01In, G_spec_l01In, leI]
  by_cases hc : b ≤ a <;> simp [hc, cnd]

def resOk (n : Int) : List (Int × Int) → Unit ⊕ Bool
  | [] => .inl ()
  | e :: es => if edgeOk n e = true then resOk n es else .inr false

theorem resOk_eq (n : Int) (es : List (Int × Int)) : resOk n es = if es.all (edgeOk n) = true then .inl () else .inr false := by
  induction es with
  | nil => rfl
  | cons e es ih =>
    simp only [resOk]
    by_cases h : edgeOk n e = true
    · have e1 : (e :: es).all (edgeOk n) = es.all (edgeOk n) := by simp [h]
      rw [if_pos h, ih, e1]
    · have e1 : (e :: es).all (edgeOk n) = false := by simp [h]
      rw [if_neg h, e1]
      rfl

theorem f_spec_GraphOk (x : Int × List (Int × Int)) (y : Bool) (h : F_spec_GraphOk x = some y) : G_spec_GraphOk FUEL x = some y := by
  obtain ⟨n, es⟩ := x
  rw [← h]
  simp only [F_spec_GraphOk, G_spec_GraphOk, F_spec_l01In, bnd_s, graphOk]
  by_cases h1 : 0 ≤ n ∧ n ≤ 10
  · rw [cnd_f (notB_p h1)]
    by_cases h2 : es.length ≤ 10
    · rw [cnd_f (ltI_f (by have := nl es; omega))]
      rw [loopT_run (r := resOk n es) (fun k s => ∃ (i : Nat) (j : Int), j = (i : Int) ∧ i ≤ es.length ∧ k = es.length - i ∧ resOk n es = resOk n (es.drop i) ∧ s = ((es, natI (lenN es), j), n, es)) ?_ es.length _ ⟨0, 0, rfl, by omega, by omega, by simp, rfl⟩ FUEL (FUEL_gt (by omega))]
      · rw [resOk_eq]
        by_cases h3 : es.all (edgeOk n) = true
        · rw [if_pos h3, joinK_l]; simp [h1, h2]; simpa using h3
        · rw [if_neg h3, joinK_r]; simp [h1, h2]; simpa using h3
      · rintro k s ⟨i, _, rfl, hi, rfl, hr, rfl⟩
        simp only
        by_cases hlt : i < es.length
        · obtain ⟨e, he⟩ : ∃ e, es[i]? = some e := ⟨_, List.getElem?_eq_getElem hlt⟩
          obtain ⟨u, v⟩ := e
          have hd := drop_cons he
          rw [cnd_t (ltI_t (by have := nl es; omega)), getI_nat, he, bnd_s]
          simp only [F_spec_l01In, bnd_s, subI_eq (a := n) (b := 1) (by omega) (by omega)]
          rw [hr, hd, resOk]
          by_cases hu : 0 ≤ u ∧ u ≤ n - 1
          · rw [cnd_f (notB_p hu)]
            by_cases hv : 0 ≤ v ∧ v ≤ n - 1
            · right
              refine ⟨es.length - (i + 1), ((es, natI (lenN es), ((i + 1 : Nat) : Int)), n, es), by omega, ?_, i + 1, _, rfl, by omega, rfl, ?_, rfl⟩
              · rw [cnd_f (notB_p hv), addI_eq (by omega) (by omega)]; rfl
              · rw [if_pos (by simp [edgeOk, hu, hv])]
            · left
              rw [cnd_t (notB_d hv), if_neg (by simp [edgeOk]; omega)]
          · left
            rw [cnd_t (notB_d hu), if_neg (by simp [edgeOk]; omega)]
        · left
          have hi' : i = es.length := by omega
          subst hi'
          rw [cnd_f (ltI_f (by have := nl es; omega)), hr]
          simp [resOk]
    · rw [cnd_t (ltI_t (by have := nl es; omega))]
      simp [h2]
  · rw [cnd_t (notB_d h1)]
    simp [h1]

theorem f_impl_GraphOk (x : Int × List (Int × Int)) (y : Bool) (h : F_impl_GraphOk x = some y) : G_impl_GraphOk FUEL x = some y := by
  obtain ⟨n, es⟩ := x
  rw [← h]
  simp only [F_impl_GraphOk, G_impl_GraphOk, graphOk]
  by_cases h0 : n < 0
  · rw [cnd_t (by simp [ltI, h0])]; simp; omega
  rw [cnd_f (by simp [ltI]; omega)]
  by_cases h1 : 10 < n
  · rw [cnd_t (by simp [ltI, h1])]; simp; omega
  rw [cnd_f (by simp [ltI]; omega)]
  by_cases h2 : es.length ≤ 10
  · rw [cnd_f (ltI_f (by have := nl es; omega))]
    rw [loopT_run (r := resOk n es) (fun k s => ∃ (i : Nat) (j : Int), j = (i : Int) ∧ i ≤ es.length ∧ k = es.length - i ∧ resOk n es = resOk n (es.drop i) ∧ s = ((es, natI (lenN es), j), n, es)) ?_ es.length _ ⟨0, 0, rfl, by omega, by omega, by simp, rfl⟩ FUEL (FUEL_gt (by omega))]
    · rw [resOk_eq]
      by_cases h3 : es.all (edgeOk n) = true
      · rw [if_pos h3, joinK_l]; simp [h2]; exact ⟨by omega, by simpa using h3⟩
      · rw [if_neg h3, joinK_r]; simp [h2]; intro _ _; simpa using h3
    · rintro k s ⟨i, _, rfl, hi, rfl, hr, rfl⟩
      simp only
      by_cases hlt : i < es.length
      · obtain ⟨e, he⟩ : ∃ e, es[i]? = some e := ⟨_, List.getElem?_eq_getElem hlt⟩
        obtain ⟨u, v⟩ := e
        have hd := drop_cons he
        rw [cnd_t (ltI_t (by have := nl es; omega)), getI_nat, he, bnd_s]
        rw [hr, hd, resOk]
        simp only
        by_cases c1 : u < 0
        · left; rw [cnd_t (by simp [ltI, c1]), if_neg (by simp [edgeOk]; omega)]
        rw [cnd_f (by simp [ltI]; omega)]
        by_cases c2 : v < 0
        · left; rw [cnd_t (by simp [ltI, c2]), if_neg (by simp [edgeOk]; omega)]
        rw [cnd_f (by simp [ltI]; omega)]
        by_cases c3 : n ≤ u
        · left; rw [cnd_t (by simp [leI, c3]), if_neg (by simp [edgeOk]; omega)]
        rw [cnd_f (by simp [leI]; omega)]
        by_cases c4 : n ≤ v
        · left; rw [cnd_t (by simp [leI, c4]), if_neg (by simp [edgeOk]; omega)]
        rw [cnd_f (by simp [leI]; omega)]
        right
        refine ⟨es.length - (i + 1), ((es, natI (lenN es), ((i + 1 : Nat) : Int)), n, es), by omega, ?_, i + 1, _, rfl, by omega, rfl, ?_, rfl⟩
        · rw [addI_eq (by omega) (by omega)]; rfl
        · rw [if_pos (by simp [edgeOk]; omega)]
      · left
        have hi' : i = es.length := by omega
        subst hi'
        rw [cnd_f (ltI_f (by have := nl es; omega)), hr]
        simp [resOk]
  · rw [cnd_t (ltI_t (by have := nl es; omega))]
    simp [h2]

theorem foldN_inv {S α : Type} (step : Nat → S → α → S) (I : Nat → S → Prop) : ∀ (l : List α) (i : Nat) (s : S), I i s → (∀ j s a, I j s → a ∈ l → I (j + 1) (step j s a)) → I (i + l.length) (foldN step i s l)
  | [], i, s, h, _ => h
  | a :: l, i, s, h, hs => by
    have := foldN_inv step I l (i + 1) (step i s a) (hs i s a h (by simp)) (fun j s b hj hb => hs j s b hj (by simp [hb]))
    rw [List.length_cons, show i + (l.length + 1) = i + 1 + l.length by omega]
    exact this

theorem delE_len (k : Int) (l : List (Int × Int)) : (delE k l).length ≤ l.length := by
  have := foldN_inv (delStep k) (fun i s => s.length ≤ i) l 0 [] (by simp) (fun j s a h _ => by unfold delStep; split <;> (try simp only [List.length_append, List.length_cons, List.length_nil]) <;> omega)
  rwa [Nat.zero_add] at this

theorem delStep_t {k : Int} {i : Nat} {acc : List (Int × Int)} {e : Int × Int} (h : (i : Int) = k) : delStep k i acc e = acc := if_pos h
theorem delStep_f {k : Int} {i : Nat} {acc : List (Int × Int)} {e : Int × Int} (h : (i : Int) ≠ k) : delStep k i acc e = acc ++ [e] := if_neg h

theorem f_spec_l36Delete (x : (Int × List (Int × Int)) × Int) (y : Int × List (Int × Int)) (h : F_spec_l36Delete x = some y) : G_spec_l36Delete FUEL x = some y := by
  obtain ⟨⟨n, l⟩, k⟩ := x
  simp only [F_spec_l36Delete] at h
  split at h
  · rename_i hl
    rw [← h]
    simp only [G_spec_l36Delete, fulI_id, bnd_s, win1]
    rw [show fulI 0 0 (lenN ([] : List (Int × Int))) = some () from rfl, bnd_s, bnd_s]
    rw [loopT_foldN l (fun acc i => ((k, l, natI (lenN l), (i : Int)), (0 : Int), n, ([] : List (Int × Int)), acc)) (fun i acc => acc.length ≤ i) (delStep k) (fun acc => Sum.inl ((0 : Int), n, ([] : List (Int × Int)), acc)) ?_ ?_ (s := []) (by simp) ?_ (FUEL_gt (by omega))]
    · rw [joinK_l]; simp only [takI_id, bnd_s]; rfl
    · rintro i acc ⟨u, v⟩ he hI
      have := lt_of_get he
      refine ⟨?_, by unfold delStep; split <;> (try simp only [List.length_append, List.length_cons, List.length_nil]) <;> omega⟩
      simp only
      rw [cnd_t (ltI_in he), getI_nat, he, bnd_s, next_i he (by omega)]
      by_cases hk : (i : Int) = k
      · rw [cnd_f (neI_f hk), delStep_t hk]
      · rw [cnd_t (neI_t hk), delStep_f hk, fitI_ok (by simp only [addN, lenN, maxBytes, List.length_cons, List.length_nil]; omega), bnd_s, lenN_appL, fulI_id, bnd_s]; rfl
    · intro acc hI
      simp only
      rw [cnd_f (ltI_end l)]
    · rfl
  · cases h

theorem f_impl_DeleteEdge (x : (Int × List (Int × Int)) × Int) (y : (Int × List (Int × Int)) × Bool) (h : F_impl_DeleteEdge x = some y) : G_impl_DeleteEdge FUEL x = some y := by
  obtain ⟨⟨n, l⟩, k⟩ := x
  simp only [F_impl_DeleteEdge] at h
  split at h
  · rename_i hl
    rw [← h]
    have hn := nl l
    simp only [G_impl_DeleteEdge, F_impl_GraphOk, fulI_id, bnd_s, win1]
    unfold delR
    by_cases hg : graphOk n l = true
    · rw [cnd_f (by rw [hg]; rfl)]
      by_cases hk : k < 0
      · rw [cnd_t (ltI_t hk), if_neg (by omega)]
      rw [cnd_f (ltI_f (by omega))]
      by_cases hk2 : (l.length : Int) ≤ k
      · rw [cnd_t (leI_t (by omega)), if_neg (by omega)]
      rw [cnd_f (leI_f (by omega)), if_pos ⟨hg, by omega, by omega⟩]
      rw [show fulI 0 0 (lenN ([] : List (Int × Int))) = some () from rfl, bnd_s, bnd_s]
      rw [loopT_foldN l (fun acc i => ((k, l, natI (lenN l), (i : Int)), (0 : Int), n, ([] : List (Int × Int)), acc)) (fun i acc => acc.length ≤ i) (delStep k) (fun acc => Sum.inl ((0 : Int), n, ([] : List (Int × Int)), acc)) ?_ ?_ (s := []) (by simp) ?_ (FUEL_gt (by omega))]
      · rw [joinK_l]; simp only [takI_id, bnd_s]; rfl
      · rintro i acc ⟨u, v⟩ he hI
        have := lt_of_get he
        refine ⟨?_, by unfold delStep; split <;> (try simp only [List.length_append, List.length_cons, List.length_nil]) <;> omega⟩
        simp only
        rw [cnd_t (ltI_in he), getI_nat, he, bnd_s, next_i he (by omega)]
        by_cases hk : (i : Int) = k
        · rw [cnd_f (neI_f hk), delStep_t hk]
        · rw [cnd_t (neI_t hk), delStep_f hk, fitI_ok (by simp only [addN, lenN, maxBytes, List.length_cons, List.length_nil]; omega), bnd_s, lenN_appL, fulI_id, bnd_s]; rfl
      · intro acc hI
        simp only
        rw [cnd_f (ltI_end l)]
      · rfl
    · rw [cnd_t (by rw [Bool.eq_false_iff.2 hg]; rfl), if_neg (fun h => hg h.1)]
  · cases h

end Go.Am
end
section
namespace Go.Am

/-! ### loops -/

/-! ### matrices -/

def genD (r c : Nat) (M : Nat → Nat → Int) : List Int := (List.range (r * c)).map fun n => M (n / c) (n % c)
def ofD (c : Nat) (l : List Int) : Nat → Nat → Int := fun i j => l.getD (i * c + j) 0
/-! ### indices as the program computes them -/

theorem ltN_t {i n : Nat} (h : i < n) : ltI (i : Int) (n : Int) = true := ltI_t (by omega)
theorem ltN_f {i n : Nat} (h : n ≤ i) : ltI (i : Int) (n : Int) = false := ltI_f (by omega)
theorem addN1 {i : Nat} (h : i ≤ 1048577) : addI .i64 (i : Int) 1 = ((i + 1 : Nat) : Int) := by rw [addI_eq (by omega) (by omega)]; omega

/-- Products modulo p. -/
def pOk (p : Int) : Prop := 2 ≤ p ∧ p ≤ 1000003
instance (p : Int) : Decidable (pOk p) := inferInstanceAs (Decidable (2 ≤ p ∧ p ≤ 1000003))
def inP (p x : Int) : Prop := 0 ≤ x ∧ x < p
instance (p x : Int) : Decidable (inP p x) := inferInstanceAs (Decidable (0 ≤ x ∧ x < p))

theorem emod_in {p : Int} (hp : pOk p) (a : Int) : inP p (a % p) := ⟨Int.emod_nonneg _ (by have := hp.1; omega), Int.emod_lt_of_pos _ (by have := hp.1; omega)⟩
theorem inP.le {p x : Int} (h : inP p x) : 0 ≤ x ∧ x ≤ p := ⟨h.1, Int.le_of_lt h.2⟩
theorem inP.s {p x : Int} (hp : pOk p) (h : inP p x) : 0 ≤ x ∧ x ≤ 1000003000000 := ⟨h.1, by have := h.2; have := hp.2; omega⟩
/-- All of a matrix's elements are modulo p. -/
def inM (p : Int) (r c : Nat) (M : Nat → Nat → Int) : Prop := ∀ i, i < r → ∀ j, j < c → inP p (M i j)

def allP (p : Int) (l : List Int) : Prop := ∀ x ∈ l, inP p x
instance (p : Int) (l : List Int) : Decidable (allP p l) := inferInstanceAs (Decidable (∀ x ∈ l, inP p x))

/-- A matrix as the program has it. -/
def mOk (x : Int × Int × List Int) : Prop := (0 ≤ x.1 ∧ x.1 ≤ 4096) ∧ (0 ≤ x.2.1 ∧ x.2.1 ≤ 4096) ∧ (x.2.2.length : Int) = x.1 * x.2.1 ∧ x.2.2.length ≤ 1048576
instance (x : Int × Int × List Int) : Decidable (mOk x) := by unfold mOk; infer_instance

end Go.Am
end
section
namespace Go.Am

/-! ### primes, rows, matrices, automata -/

def divAt (n : Int) (i : Nat) : Bool := decide ((i : Int) * i ≤ n) && decide (n % (i : Int) = 0)
def isPrimeI (n : Int) : Bool := decide (2 ≤ n ∧ n ≤ 1000003) && !((List.range' 2 999).any (divAt n))
def F_spec_IsPrime : Int → Option Bool := fun (n : Int) => some (isPrimeI n)
def F_impl_IsPrime : Int → Option Bool := fun (n : Int) => some (isPrimeI n)
def inB (m : Int) (v : Int) : Bool := decide (0 ≤ v ∧ v < m)
def rowOk (m : Int) (l : List Int) : Bool := l.all (inB m)
def matOk (m : Int) (x : Int × Int × List Int) : Bool := isPrimeI m && (decide (0 ≤ x.1 ∧ x.1 ≤ 64) && (decide (0 ≤ x.2.1 ∧ x.2.1 ≤ 64) && (decide ((x.2.2.length : Int) = x.1 * x.2.1) && rowOk m x.2.2)))
def matsOk (m n : Int) (x : Int × Int × List Int) : Bool := matOk m x && (decide (x.1 = n) && decide (x.2.1 = n))
def autOk (x : Int × Int × List Int × List (Int × Int × List Int) × List Int) : Bool := match x with
  | (m, n, a, ms, b) => isPrimeI m && (decide (0 ≤ n ∧ n ≤ 12) && ((rowOk m a && decide ((a.length : Int) = n)) && ((rowOk m b && decide ((b.length : Int) = n)) && (decide (1 ≤ ms.length ∧ ms.length ≤ 4) && ms.all (matsOk m n)))))
def ag_spec_IsPrime : Sig := [(.one, [.int .i64])]
def rs_spec_IsPrime : Sig := [(.one, [.bool])]
def mu_spec_IsPrime : MSig := []
def ag_impl_IsPrime : Sig := [(.one, [.int .i64])]
def rs_impl_IsPrime : Sig := [(.one, [.bool])]
def mu_impl_IsPrime : MSig := []
def G_spec_IsPrime (NN : Nat) : Int → (Option Bool) :=
 (fun (i0 : Int) =>
 joinK (loopT NN (fun ((i1, i2) : (Int × Int)) =>
 cnd (leI (mulI .i64 i2 i2) i1)
 (cnd (leI i1 (1000003 : Int))
 ((remI i1 i2).bnd (fun i3 =>
 cnd (eqI i3 (0 : Int))
 (some (Sum.inr (Sum.inr false)))
 (some (Sum.inl (i1, addI .i64 i2 1)))))
 (some (Sum.inr (Sum.inl i1))))
 (some (Sum.inr (Sum.inl i1))))
 (i0, (2 : Int)))
 (fun i4 =>
 (F_spec_l01In (i4, (2 : Int), (1000003 : Int))).bnd (fun b5 =>
 some b5)))

def G_impl_IsPrime (NN : Nat) : Int → (Option Bool) :=
 (fun (i0 : Int) =>
 cnd (ltI i0 (2 : Int))
 (some false)
 (cnd (ltI (1000003 : Int) i0)
 (some false)
 (joinK (loopT NN (fun ((i1, i2) : (Int × Int)) =>
 cnd (leI (mulI .i64 i2 i2) i1)
 ((remI i1 i2).bnd (fun i3 =>
 cnd (eqI i3 (0 : Int))
 (some (Sum.inr (Sum.inr false)))
 (some (Sum.inl (i1, addI .i64 i2 1)))))
 (some (Sum.inr (Sum.inl ()))))
 (i0, (2 : Int)))
 (fun _ =>
 some true))))

theorem mulI_eq {a b : Int} (h1 : -9223372036854775808 ≤ a * b) (h2 : a * b ≤ 9223372036854775807) : mulI .i64 a b = a * b := wrap_id h1 h2
theorem remI_nat {n : Int} {i : Nat} (hn : 0 ≤ n) (hi : 0 < i) : remI n (i : Int) = some (n % (i : Int)) := by
  unfold remI
  rw [if_neg (by omega), Int.tmod_eq_emod_of_nonneg hn]

theorem sq_le {i j : Nat} (h : i ≤ j) : (i : Int) * i ≤ (j : Int) * j := by
  have := Nat.mul_le_mul h h
  exact_mod_cast this

/-- The search for a divisor. -/
theorem div_loop {X Y : Type} {f : X → Option (X ⊕ (Y ⊕ Bool))} (n : Int) (mk : Nat → X) (r : Y) (hn : n ≤ 1000003)
    (h1 : ∀ i : Nat, 2 ≤ i → i ≤ 1001 → (i : Int) * i ≤ n → n % (i : Int) = 0 → f (mk i) = some (.inr (.inr false)))
    (h2 : ∀ i : Nat, 2 ≤ i → i ≤ 1001 → (i : Int) * i ≤ n → n % (i : Int) ≠ 0 → f (mk i) = some (.inl (mk (i + 1))))
    (h3 : ∀ i : Nat, 2 ≤ i → i ≤ 1001 → ¬ (i : Int) * i ≤ n → f (mk i) = some (.inr (.inl r))) {x0 : X} (hx : x0 = mk 2) :
    loopT FUEL f x0 = some (if (List.range' 2 999).any (divAt n) = true then .inr false else .inl r) := by
  subst hx
  have key : ∀ (d i : Nat), 2 ≤ i → i + d = 1001 → ∀ N, d < N → loopT N f (mk i) = some (if (List.range' i d).any (divAt n) = true then .inr false else .inl r) := by
    intro d
    induction d with
    | zero =>
      intro i hi hd N hN
      obtain ⟨N, rfl⟩ : ∃ M, N = M + 1 := ⟨N - 1, by omega⟩
      have : i = 1001 := by omega
      subst this
      rw [loopT, h3 1001 (by omega) (by omega) (by omega)]
      rfl
    | succ d ih =>
      intro i hi hd N hN
      obtain ⟨N, rfl⟩ : ∃ M, N = M + 1 := ⟨N - 1, by omega⟩
      rw [List.range'_succ, List.any_cons]
      by_cases hle : (i : Int) * i ≤ n
      · by_cases hm : n % (i : Int) = 0
        · rw [loopT, h1 i hi (by omega) hle hm]
          simp [divAt, hle, hm]
        · rw [loopT, h2 i hi (by omega) hle hm]
          simp only
          rw [ih (i + 1) (by omega) (by omega) N (by omega), show divAt n i = false by simp [divAt, hm], Bool.false_or]
      · rw [loopT, h3 i hi (by omega) hle]
        have : (List.range' (i + 1) d).any (divAt n) = false := by
          rw [List.any_eq_false]
          intro j hj
          have := (List.mem_range'_1.1 hj).1
          have := sq_le (show i ≤ j by omega)
          simp only [divAt, Bool.and_eq_true, decide_eq_true_eq, not_and]
          intro h; omega
        simp only
        rw [this]
        simp [divAt, hle]
  exact key 999 2 (by omega) (by omega) FUEL (FUEL_gt (by omega))

theorem sq_le1001 {i : Nat} (h : i ≤ 1001) : 0 ≤ (i : Int) * i ∧ (i : Int) * i ≤ 1002001 := by
  have h1 := sq_le h
  have h0 := sq_le (Nat.zero_le i)
  omega

theorem f_spec_IsPrime (x : Int) (y : Bool) (h : F_spec_IsPrime x = some y) : G_spec_IsPrime FUEL x = some y := by
  rw [← h]
  simp only [F_spec_IsPrime, G_spec_IsPrime]
  by_cases hx : x ≤ 1000003
  · rw [div_loop x (fun i => (x, (i : Int))) x hx ?_ ?_ ?_ ?_]
    · by_cases hd : (List.range' 2 999).any (divAt x) = true
      · rw [if_pos hd, joinK_r, isPrimeI, hd]
        simp
      · rw [if_neg hd, joinK_l, isPrimeI]
        simp only [F_spec_l01In, bnd_s]
        simp [hd]
    all_goals try simp only
    · intro i h2 hi hle hm
      have hs := sq_le1001 hi
      rw [mulI_eq (by omega) (by omega), cnd_t (leI_t hle), cnd_t (leI_t hx), remI_nat (by omega) (by omega), bnd_s, cnd_t (eqI_t hm)]
    · intro i h2 hi hle hm
      have hs := sq_le1001 hi
      rw [mulI_eq (by omega) (by omega), cnd_t (leI_t hle), cnd_t (leI_t hx), remI_nat (by omega) (by omega), bnd_s, cnd_f (eqI_f hm), addI_eq (by omega) (by omega)]
      rfl
    · intro i h2 hi hle
      have hs := sq_le1001 hi
      rw [mulI_eq (by omega) (by omega), cnd_f (leI_f (by omega))]
    · rfl
  · rw [loopT_seq (fun i => (x, (i : Int) + 2)) (r := Sum.inl x) 0 (fun j hj => by omega) ?_ ?_ (FUEL_gt (by omega))]
    · rw [joinK_l, isPrimeI]
      simp only [F_spec_l01In, bnd_s]
      have : ¬ (2 ≤ x ∧ x ≤ 1000003) := by omega
      simp [this]
    · simp only
      rw [cnd_t (leI_t (by rw [mulI_eq (by omega) (by omega)]; omega)), cnd_f (leI_f (by omega))]
    · rfl

theorem f_impl_IsPrime (x : Int) (y : Bool) (h : F_impl_IsPrime x = some y) : G_impl_IsPrime FUEL x = some y := by
  rw [← h]
  simp only [F_impl_IsPrime, G_impl_IsPrime]
  by_cases h2 : x < 2
  · rw [cnd_t (ltI_t h2), isPrimeI, decide_eq_false (by omega)]; rfl
  rw [cnd_f (ltI_f (by omega))]
  by_cases hx : 1000003 < x
  · rw [cnd_t (ltI_t hx), isPrimeI, decide_eq_false (by omega)]; rfl
  rw [cnd_f (ltI_f (by omega))]
  rw [div_loop x (fun i => (x, (i : Int))) () (by omega) ?_ ?_ ?_ ?_]
  · have hr : (2 ≤ x ∧ x ≤ 1000003) := by omega
    by_cases hd : (List.range' 2 999).any (divAt x) = true
    · rw [if_pos hd, joinK_r, isPrimeI, hd]
      simp
    · rw [if_neg hd, joinK_l, isPrimeI]
      simp [hd, hr]
  all_goals try simp only
  · intro i h2 hi hle hm
    have hs := sq_le1001 hi
    rw [mulI_eq (by omega) (by omega), cnd_t (leI_t hle), remI_nat (by omega) (by omega), bnd_s, cnd_t (eqI_t hm)]
  · intro i h2 hi hle hm
    have hs := sq_le1001 hi
    rw [mulI_eq (by omega) (by omega), cnd_t (leI_t hle), remI_nat (by omega) (by omega), bnd_s, cnd_f (eqI_f hm), addI_eq (by omega) (by omega)]
    rfl
  · intro i h2 hi hle
    have hs := sq_le1001 hi
    rw [mulI_eq (by omega) (by omega), cnd_f (leI_f (by omega))]
  · rfl

theorem isPrimeI_t {m : Int} (h : isPrimeI m = true) : 2 ≤ m ∧ m ≤ 1000003 := by
  simp only [isPrimeI, Bool.and_eq_true, decide_eq_true_eq] at h
  exact h.1

end Go.Am
end
section
namespace Go.Am

/-! ### rings -/

def ringOk : Int × Int × Int → Bool := fun ((k, p, n) : Int × Int × Int) =>
  if k = 1 then decide (p = 0 ∧ n = 0) else if k = 2 then isPrimeI p && decide (n = 0) else if k = 3 ∨ k = 4 ∨ k = 5 then decide ((1 ≤ p ∧ p ≤ 1000000) ∧ n = 0)
  else if k = 6 then decide (p = 0 ∧ 1 ≤ n ∧ n ≤ 20) else if k = 7 then isPrimeI p && decide (1 ≤ n ∧ n ≤ 6) else if k = 8 then isPrimeI p && decide (p ≠ 2 ∧ n = 0) else false
def widI : Int × Int × Int → Int := fun ((k, p, n) : Int × Int × Int) => if k = 7 then n else if k = 8 then 4 else 1
def widN (r : Int × Int × Int) : Nat := (widI r).toNat
def topI : Int × Int × Int → Int := fun ((k, p, n) : Int × Int × Int) => if k = 1 then 1 else if k = 3 ∨ k = 4 ∨ k = 5 then p else if k = 6 then 2 ^ n.toNat - 1 else p - 1
def inTop (t v : Int) : Bool := decide (0 ≤ v ∧ v ≤ t)
def elOk (r : Int × Int × Int) (x : List Int) : Bool := decide (x.length = widN r) && x.all (inTop (topI r))
def zeroE : Int × Int × Int → List Int := fun ((k, p, n) : Int × Int × Int) => if k = 4 then [p] else repL (widN (k, p, n)) 0
def oneE : Int × Int × Int → List Int := fun ((k, p, n) : Int × Int × Int) => setL (repL (widN (k, p, n)) 0) 0 (if k = 4 then 0 else if k = 5 ∨ k = 6 then topI (k, p, n) else 1)
def opA : Int × Int × Int → Int → Int → Int := fun ((k, p, n) : Int × Int × Int) a b =>
  if k = 1 ∨ k = 6 then ((a.toNat ||| b.toNat : Nat) : Int) else if k = 3 then min (a + b) p else if k = 4 then min a b else if k = 5 then max a b else (a + b) % p
def sm : Nat → (Nat → Int) → Int
  | 0, _ => 0
  | n + 1, f => sm n f + f n
def kW (om : Bool) (x y : Nat → Int) (t i j : Nat) : Int := if i + j = t then x i * y j else if om = true ∧ i + j = t + 4 then -(x i * y j) else 0
def tab (w : Nat) (f : Nat → Int) : List Int := (List.range w).map f
def fnL (x : List Int) : Nat → Int := fun i => x.getD i 0
def addE (r : Int × Int × Int) (x y : List Int) : List Int := tab (widN r) fun j => opA r (fnL x j) (fnL y j)
def cvE (p : Int) (om : Bool) (w : Nat) (x y : Nat → Int) : List Int := tab w fun t => sm w (fun i => sm w (fun j => kW om x y t i j)) % p
def opM : Int × Int × Int → Int → Int → Int := fun ((k, p, n) : Int × Int × Int) a b =>
  if k = 1 ∨ k = 6 then ((a.toNat &&& b.toNat : Nat) : Int) else if k = 2 then a * b % p else if k = 3 then min (a * b) p else if k = 4 then min (a + b) p else min a b
def mulE (r : Int × Int × Int) (x y : List Int) : List Int := if r.1 = 7 ∨ r.1 = 8 then cvE r.2.1 (decide (r.1 = 8)) (widN r) (fnL x) (fnL y) else [opM r (fnL x 0) (fnL y 0)]
def powE (r : Int × Int × Int) (x : List Int) : Nat → List Int
  | 0 => oneE r
  | n + 1 => mulE r (powE r x n) x
def cntV : Int × Int × Int → Int → List Int := fun ((k, p, n) : Int × Int × Int) m => if k = 3 then setL (oneE (k, p, n)) 0 (min m p) else if k = 2 ∨ k = 7 ∨ k = 8 then setL (oneE (k, p, n)) 0 (m % p) else oneE (k, p, n)
def cntE (r : Int × Int × Int) (m : Int) : List Int := if m = 0 then zeroE r else cntV r m
def cntR (r : Int × Int × Int) (m : Int) : List Int := if ringOk r = true ∧ 0 ≤ m then cntE r m else []

def F_spec_RingOk : Int × Int × Int → Option Bool := fun r => some (ringOk r)
def F_impl_RingOk : Int × Int × Int → Option Bool := fun r => some (ringOk r)
def F_spec_l02Width : Int × Int × Int → Option Int := fun r => some (widI r)
def F_impl_rawWidth : Int × Int × Int → Option Int := fun r => some (widI r)
def F_spec_l02Top : Int × Int × Int → Option Int := fun r => if ringOk r = true then some (topI r) else none
def F_impl_rawTop : Int × Int × Int → Option Int := fun r => if ringOk r = true then some (topI r) else none
def F_impl_inRing : (Int × Int × Int) × List Int → Option Bool := fun ((r, x) : (Int × Int × Int) × List Int) => if ringOk r = true ∧ x.length ≤ 9223372036854775806 then some (x.all (inTop (topI r))) else none
def F_spec_l02Elem : (Int × Int × Int) × List Int → Option Bool := fun ((r, x) : (Int × Int × Int) × List Int) => if ringOk r = true ∧ x.length ≤ 9223372036854775806 then some (elOk r x) else none
def F_spec_ElemOk : (Int × Int × Int) × List Int → Option Bool := fun ((r, x) : (Int × Int × Int) × List Int) => if x.length ≤ 9223372036854775806 then some (ringOk r && elOk r x) else none
def F_impl_ElemOk : (Int × Int × Int) × List Int → Option Bool := fun ((r, x) : (Int × Int × Int) × List Int) => if x.length ≤ 9223372036854775806 then some (ringOk r && elOk r x) else none
def F_spec_l02Zero : Int × Int × Int → Option (List Int) := fun r => if ringOk r = true then some (zeroE r) else none
def F_impl_rawZero : Int × Int × Int → Option (List Int) := fun r => if ringOk r = true then some (zeroE r) else none
def F_spec_l02One : Int × Int × Int → Option (List Int) := fun r => if ringOk r = true then some (oneE r) else none
def F_impl_rawOne : Int × Int × Int → Option (List Int) := fun r => if ringOk r = true then some (oneE r) else none
def F_spec_l02Add : (Int × Int × Int) × List Int × List Int → Option (List Int) := fun ((r, x, y) : (Int × Int × Int) × List Int × List Int) => if ringOk r = true ∧ elOk r x = true ∧ elOk r y = true then some (addE r x y) else none
def F_impl_addInto : (Int × Int × Int) × List Int × List Int → Option (List Int) := fun ((r, x, y) : (Int × Int × Int) × List Int × List Int) => if ringOk r = true ∧ elOk r x = true ∧ elOk r y = true then some (addE r x y) else none
def F_impl_mulCoefficients : (Int × Int × Int) × List Int × List Int × List Int → Option (List Int) := fun ((r, l, x, y) : (Int × Int × Int) × List Int × List Int × List Int) =>
  if (ringOk r = true ∧ (r.1 = 7 ∨ r.1 = 8)) ∧ l.length = widN r ∧ elOk r x = true ∧ elOk r y = true then some (mulE r x y) else none
def F_impl_mulInto : (Int × Int × Int) × List Int × List Int × List Int → Option (List Int) := fun ((r, l, x, y) : (Int × Int × Int) × List Int × List Int × List Int) =>
  if ringOk r = true ∧ l.length = widN r ∧ elOk r x = true ∧ elOk r y = true then some (mulE r x y) else none
def F_spec_l02Mul : (Int × Int × Int) × List Int × List Int → Option (List Int) := fun ((r, x, y) : (Int × Int × Int) × List Int × List Int) => if ringOk r = true ∧ elOk r x = true ∧ elOk r y = true then some (mulE r x y) else none
def F_impl_rawMul : (Int × Int × Int) × List Int × List Int → Option (List Int) := fun ((r, x, y) : (Int × Int × Int) × List Int × List Int) => if ringOk r = true ∧ elOk r x = true ∧ elOk r y = true then some (mulE r x y) else none
def F_impl_rawPow : (Int × Int × Int) × List Int × Int → Option (List Int) := fun ((r, x, n) : (Int × Int × Int) × List Int × Int) => if (ringOk r = true ∧ elOk r x = true) ∧ 0 ≤ n ∧ n ≤ 1048576 then some (powE r x n.toNat) else none
def F_spec_CountElem : (Int × Int × Int) × Int → Option (List Int) := fun ((r, m) : (Int × Int × Int) × Int) => some (cntR r m)
def F_impl_CountElem : (Int × Int × Int) × Int → Option (List Int) := fun ((r, m) : (Int × Int × Int) × Int) => some (cntR r m)
def F_laws_toRing : Int × Int × Int → Option (Int × Int × Int) := fun r => some r

def ag_laws_toRing : Sig := [(.agg, [.int .i64, .int .i64, .int .i64])]
def rs_laws_toRing : Sig := [(.agg, [.int .i64, .int .i64, .int .i64])]
def mu_laws_toRing : MSig := []
def ag_impl_RingOk : Sig := [(.agg, [.int .i64, .int .i64, .int .i64])]
def rs_impl_RingOk : Sig := [(.one, [.bool])]
def mu_impl_RingOk : MSig := []
def ag_spec_RingOk : Sig := [(.agg, [.int .i64, .int .i64, .int .i64])]
def rs_spec_RingOk : Sig := [(.one, [.bool])]
def mu_spec_RingOk : MSig := []
def ag_impl_rawWidth : Sig := [(.agg, [.int .i64, .int .i64, .int .i64])]
def rs_impl_rawWidth : Sig := [(.one, [.int .i64])]
def mu_impl_rawWidth : MSig := []
def ag_spec_l02Width : Sig := [(.agg, [.int .i64, .int .i64, .int .i64])]
def rs_spec_l02Width : Sig := [(.one, [.int .i64])]
def mu_spec_l02Width : MSig := []
def ag_impl_rawTop : Sig := [(.agg, [.int .i64, .int .i64, .int .i64])]
def rs_impl_rawTop : Sig := [(.one, [.int .i64])]
def mu_impl_rawTop : MSig := []
def ag_spec_l02Top : Sig := [(.agg, [.int .i64, .int .i64, .int .i64])]
def rs_spec_l02Top : Sig := [(.one, [.int .i64])]
def mu_spec_l02Top : MSig := []
def ag_impl_inRing : Sig := [(.agg, [.int .i64, .int .i64, .int .i64]), (.one, [.list [.int .i64]])]
def rs_impl_inRing : Sig := [(.one, [.bool])]
def mu_impl_inRing : MSig := []
def ag_spec_l02Elem : Sig := [(.agg, [.int .i64, .int .i64, .int .i64]), (.one, [.list [.int .i64]])]
def rs_spec_l02Elem : Sig := [(.one, [.bool])]
def mu_spec_l02Elem : MSig := []
def ag_impl_ElemOk : Sig := [(.agg, [.int .i64, .int .i64, .int .i64]), (.one, [.list [.int .i64]])]
def rs_impl_ElemOk : Sig := [(.one, [.bool])]
def mu_impl_ElemOk : MSig := []
def ag_spec_ElemOk : Sig := [(.agg, [.int .i64, .int .i64, .int .i64]), (.one, [.list [.int .i64]])]
def rs_spec_ElemOk : Sig := [(.one, [.bool])]
def mu_spec_ElemOk : MSig := []
def ag_impl_rawZero : Sig := [(.agg, [.int .i64, .int .i64, .int .i64])]
def rs_impl_rawZero : Sig := [(.one, [.list [.int .i64]])]
def mu_impl_rawZero : MSig := []
def ag_spec_l02Zero : Sig := [(.agg, [.int .i64, .int .i64, .int .i64])]
def rs_spec_l02Zero : Sig := [(.one, [.list [.int .i64]])]
def mu_spec_l02Zero : MSig := []
def ag_impl_rawOne : Sig := [(.agg, [.int .i64, .int .i64, .int .i64])]
def rs_impl_rawOne : Sig := [(.one, [.list [.int .i64]])]
def mu_impl_rawOne : MSig := []
def ag_spec_l02One : Sig := [(.agg, [.int .i64, .int .i64, .int .i64])]
def rs_spec_l02One : Sig := [(.one, [.list [.int .i64]])]
def mu_spec_l02One : MSig := []
def ag_impl_addInto : Sig := [(.agg, [.int .i64, .int .i64, .int .i64]), (.one, [.list [.int .i64]]), (.one, [.list [.int .i64]])]
def rs_impl_addInto : Sig := [(.one, [.list [.int .i64]])]
def mu_impl_addInto : MSig := [[], [some .froz]]
def ag_spec_l02Add : Sig := [(.agg, [.int .i64, .int .i64, .int .i64]), (.one, [.list [.int .i64]]), (.one, [.list [.int .i64]])]
def rs_spec_l02Add : Sig := [(.one, [.list [.int .i64]])]
def mu_spec_l02Add : MSig := []
def ag_impl_mulCoefficients : Sig := [(.agg, [.int .i64, .int .i64, .int .i64]), (.one, [.list [.int .i64]]), (.one, [.list [.int .i64]]), (.one, [.list [.int .i64]])]
def rs_impl_mulCoefficients : Sig := [(.one, [.list [.int .i64]])]
def mu_impl_mulCoefficients : MSig := [[], [some .froz]]
def ag_impl_mulInto : Sig := [(.agg, [.int .i64, .int .i64, .int .i64]), (.one, [.list [.int .i64]]), (.one, [.list [.int .i64]]), (.one, [.list [.int .i64]])]
def rs_impl_mulInto : Sig := [(.one, [.list [.int .i64]])]
def mu_impl_mulInto : MSig := [[], [some .froz]]
def ag_spec_l02Mul : Sig := [(.agg, [.int .i64, .int .i64, .int .i64]), (.one, [.list [.int .i64]]), (.one, [.list [.int .i64]])]
def rs_spec_l02Mul : Sig := [(.one, [.list [.int .i64]])]
def mu_spec_l02Mul : MSig := []
def ag_impl_rawMul : Sig := [(.agg, [.int .i64, .int .i64, .int .i64]), (.one, [.list [.int .i64]]), (.one, [.list [.int .i64]])]
def rs_impl_rawMul : Sig := [(.one, [.list [.int .i64]])]
def mu_impl_rawMul : MSig := []
def ag_impl_rawPow : Sig := [(.agg, [.int .i64, .int .i64, .int .i64]), (.one, [.list [.int .i64]]), (.one, [.int .i64])]
def rs_impl_rawPow : Sig := [(.one, [.list [.int .i64]])]
def mu_impl_rawPow : MSig := []
def ag_impl_CountElem : Sig := [(.agg, [.int .i64, .int .i64, .int .i64]), (.one, [.int .i64])]
def rs_impl_CountElem : Sig := [(.one, [.list [.int .i64]])]
def mu_impl_CountElem : MSig := []
def ag_spec_CountElem : Sig := [(.agg, [.int .i64, .int .i64, .int .i64]), (.one, [.int .i64])]
def rs_spec_CountElem : Sig := [(.one, [.list [.int .i64]])]
def mu_spec_CountElem : MSig := []

def G_laws_toRing (NN : Nat) : (Int × (Int × Int)) → (Option (Int × (Int × Int))) :=
 (fun ((i0, i1, i2) : (Int × (Int × Int))) =>
 some (i0, i1, i2))


def G_impl_RingOk (NN : Nat) : (Int × (Int × Int)) → (Option Bool) :=
 (fun ((i0, i1, i2) : (Int × (Int × Int))) =>
 cnd (eqI i0 (1 : Int))
 (cnd (eqI i1 (0 : Int))
 (some (eqI i2 (0 : Int)))
 (some false))
 (cnd (eqI i0 (2 : Int))
 ((F_impl_IsPrime i1).bnd (fun b3 =>
 cnd (b3)
 (some (eqI i2 (0 : Int)))
 (some false)))
 (joinK (cnd (eqI i0 (3 : Int))
 (some (Sum.inl ((true, i0), i0, i1, i2)))
 (cnd (eqI i0 (4 : Int))
 (some (Sum.inl ((true, i0), i0, i1, i2)))
 (some (Sum.inl ((eqI i0 (5 : Int), i0), i0, i1, i2)))))
 (fun ((b4, i5), i6, i7, i8) =>
 cnd (b4)
 (cnd (leI (1 : Int) i7)
 (cnd (leI i7 (1000000 : Int))
 (some (eqI i8 (0 : Int)))
 (some false))
 (some false))
 (cnd (eqI i5 (6 : Int))
 (cnd (eqI i7 (0 : Int))
 (cnd (leI (1 : Int) i8)
 (some (leI i8 (20 : Int)))
 (some false))
 (some false))
 (cnd (eqI i5 (7 : Int))
 ((F_impl_IsPrime i7).bnd (fun b9 =>
 cnd (b9)
 (cnd (leI (1 : Int) i8)
 (some (leI i8 (6 : Int)))
 (some false))
 (some false)))
 (cnd (eqI i5 (8 : Int))
 ((F_impl_IsPrime i7).bnd (fun b10 =>
 cnd (b10)
 (cnd (neI i7 (2 : Int))
 (some (eqI i8 (0 : Int)))
 (some false))
 (some false)))
 (some false))))))))


def G_spec_RingOk (NN : Nat) : (Int × (Int × Int)) → (Option Bool) :=
 (fun ((i0, i1, i2) : (Int × (Int × Int))) =>
 cnd (eqI i0 (1 : Int))
 (cnd (eqI i1 (0 : Int))
 (some (eqI i2 (0 : Int)))
 (some false))
 (cnd (eqI i0 (2 : Int))
 ((F_spec_IsPrime i1).bnd (fun b3 =>
 cnd (b3)
 (some (eqI i2 (0 : Int)))
 (some false)))
 (joinK (cnd (eqI i0 (3 : Int))
 (some (Sum.inl ((true, i0), i0, i1, i2)))
 (cnd (eqI i0 (4 : Int))
 (some (Sum.inl ((true, i0), i0, i1, i2)))
 (some (Sum.inl ((eqI i0 (5 : Int), i0), i0, i1, i2)))))
 (fun ((b4, i5), i6, i7, i8) =>
 cnd (b4)
 ((F_spec_l01In (i7, (1 : Int), (1000000 : Int))).bnd (fun b9 =>
 cnd (b9)
 (some (eqI i8 (0 : Int)))
 (some false)))
 (cnd (eqI i5 (6 : Int))
 (cnd (eqI i7 (0 : Int))
 ((F_spec_l01In (i8, (1 : Int), (20 : Int))).bnd (fun b10 =>
 some b10))
 (some false))
 (cnd (eqI i5 (7 : Int))
 ((F_spec_IsPrime i7).bnd (fun b11 =>
 cnd (b11)
 ((F_spec_l01In (i8, (1 : Int), (6 : Int))).bnd (fun b12 =>
 some b12))
 (some false)))
 (cnd (eqI i5 (8 : Int))
 ((F_spec_IsPrime i7).bnd (fun b13 =>
 cnd (b13)
 (cnd (ltI (2 : Int) i7)
 (some (eqI i8 (0 : Int)))
 (some false))
 (some false)))
 (some false))))))))


def G_impl_rawWidth (NN : Nat) : (Int × (Int × Int)) → (Option Int) :=
 (fun ((i0, i1, i2) : (Int × (Int × Int))) =>
 cnd (eqI i0 (7 : Int))
 (some i2)
 (cnd (eqI i0 (8 : Int))
 (some (4 : Int))
 (some (1 : Int))))


def G_spec_l02Width (NN : Nat) : (Int × (Int × Int)) → (Option Int) :=
 (fun ((i0, i1, i2) : (Int × (Int × Int))) =>
 cnd (eqI i0 (7 : Int))
 (some i2)
 (cnd (eqI i0 (8 : Int))
 (some (4 : Int))
 (some (1 : Int))))


def G_impl_rawTop (NN : Nat) : (Int × (Int × Int)) → (Option Int) :=
 (fun ((i0, i1, i2) : (Int × (Int × Int))) =>
 cnd (eqI i0 (1 : Int))
 (some (1 : Int))
 (joinK (cnd (eqI i0 (3 : Int))
 (some (Sum.inl ((true, i0), i0, i1, i2)))
 (cnd (eqI i0 (4 : Int))
 (some (Sum.inl ((true, i0), i0, i1, i2)))
 (some (Sum.inl ((eqI i0 (5 : Int), i0), i0, i1, i2)))))
 (fun ((b3, i4), i5, i6, i7) =>
 cnd (b3)
 (some i6)
 (cnd (eqI i4 (6 : Int))
 ((shlI .i64 (1 : Int) i7).bnd (fun i8 =>
 some (subI .i64 i8 1)))
 (some (subI .i64 i6 1))))))


def G_spec_l02Top (NN : Nat) : (Int × (Int × Int)) → (Option Int) :=
 (fun ((i0, i1, i2) : (Int × (Int × Int))) =>
 cnd (eqI i0 (1 : Int))
 (some (1 : Int))
 (joinK (cnd (eqI i0 (3 : Int))
 (some (Sum.inl ((true, i0), i0, i1, i2)))
 (cnd (eqI i0 (4 : Int))
 (some (Sum.inl ((true, i0), i0, i1, i2)))
 (some (Sum.inl ((eqI i0 (5 : Int), i0), i0, i1, i2)))))
 (fun ((b3, i4), i5, i6, i7) =>
 cnd (b3)
 (some i6)
 (cnd (eqI i4 (6 : Int))
 ((shlI .i64 (1 : Int) i7).bnd (fun i8 =>
 some (subI .i64 i8 1)))
 (some (subI .i64 i6 1))))))


def G_impl_inRing (NN : Nat) : ((Int × (Int × Int)) × (List Int)) → (Option Bool) :=
 (fun (((i0, i1, i2), l3) : ((Int × (Int × Int)) × (List Int))) =>
 (F_impl_rawTop (i0, i1, i2)).bnd (fun i4 =>
 joinK (loopT NN (fun ((i5, l6, i7, i8) : (Int × ((List Int) × (Int × Int)))) =>
 cnd (ltI i8 i7)
 ((getI l6 i8).bnd (fun i9 =>
 cnd (ltI i9 (0 : Int))
 (some (Sum.inr (Sum.inr false)))
 (cnd (ltI i5 i9)
 (some (Sum.inr (Sum.inr false)))
 (some (Sum.inl (i5, l6, i7, addI .i64 i8 1))))))
 (some (Sum.inr (Sum.inl ()))))
 (i4, l3, natI (lenN l3), (0 : Int)))
 (fun _ =>
 some true)))


def G_spec_l02Elem (NN : Nat) : ((Int × (Int × Int)) × (List Int)) → (Option Bool) :=
 (fun (((i0, i1, i2), l3) : ((Int × (Int × Int)) × (List Int))) =>
 joinK (loopT NN (fun (((l4, l5, i6, i7), i8, i9, i10) : (((List Int) × ((List Int) × (Int × Int))) × (Int × (Int × Int)))) =>
 cnd (ltI i7 i6)
 ((getI l5 i7).bnd (fun i11 =>
 (F_spec_l02Top (i8, i9, i10)).bnd (fun i12 =>
 (F_spec_l01In (i11, (0 : Int), i12)).bnd (fun b13 =>
 cnd (notB b13)
 (some (Sum.inr (Sum.inr false)))
 (some (Sum.inl ((l4, l5, i6, addI .i64 i7 1), i8, i9, i10)))))))
 (some (Sum.inr (Sum.inl (l4, i8, i9, i10)))))
 ((l3, l3, natI (lenN l3), (0 : Int)), i0, i1, i2))
 (fun (l14, i15, i16, i17) =>
 (F_spec_l02Width (i15, i16, i17)).bnd (fun i18 =>
 some (eqI (natI (lenN l14)) i18))))


def G_impl_ElemOk (NN : Nat) : ((Int × (Int × Int)) × (List Int)) → (Option Bool) :=
 (fun (((i0, i1, i2), l3) : ((Int × (Int × Int)) × (List Int))) =>
 (F_impl_RingOk (i0, i1, i2)).bnd (fun b4 =>
 cnd (b4)
 ((F_impl_rawWidth (i0, i1, i2)).bnd (fun i5 =>
 cnd (eqI (natI (lenN l3)) i5)
 ((F_impl_inRing ((i0, i1, i2), l3)).bnd (fun b6 =>
 some b6))
 (some false)))
 (some false)))


def G_spec_ElemOk (NN : Nat) : ((Int × (Int × Int)) × (List Int)) → (Option Bool) :=
 (fun (((i0, i1, i2), l3) : ((Int × (Int × Int)) × (List Int))) =>
 (F_spec_RingOk (i0, i1, i2)).bnd (fun b4 =>
 cnd (b4)
 ((F_spec_l02Elem ((i0, i1, i2), l3)).bnd (fun b5 =>
 some b5))
 (some false)))


def G_impl_rawZero (NN : Nat) : (Int × (Int × Int)) → (Option (List Int)) :=
 (fun ((i0, i1, i2) : (Int × (Int × Int))) =>
 (F_impl_rawWidth (i0, i1, i2)).bnd (fun i3 =>
 (mkI i3 i3 8).bnd (fun k4 =>
 joinK (cnd (eqI i0 (4 : Int))
 ((chkI (0 : Int) k4).bnd (fun k5 =>
 (getN (repL k4 (0 : Int)) (addN 0 k5)).bnd (fun i6 =>
 (fulI 0 k4 (lenN (setL (repL k4 (0 : Int)) (addN 0 k5) i1))).bnd (fun _ =>
 some (Sum.inl (setL (repL k4 (0 : Int)) (addN 0 k5) i1))))))
 ((fulI 0 k4 (lenN (repL k4 (0 : Int)))).bnd (fun _ =>
 some (Sum.inl (repL k4 (0 : Int))))))
 (fun l7 =>
 (takI l7 (lenN l7)).bnd (fun l8 =>
 some l8)))))


def G_spec_l02Zero (NN : Nat) : (Int × (Int × Int)) → (Option (List Int)) :=
 (fun ((i0, i1, i2) : (Int × (Int × Int))) =>
 (F_spec_l02Width (i0, i1, i2)).bnd (fun i3 =>
 (mkI i3 i3 8).bnd (fun k4 =>
 joinK (cnd (eqI i0 (4 : Int))
 ((chkI (0 : Int) k4).bnd (fun k5 =>
 (getN (repL k4 (0 : Int)) (addN 0 k5)).bnd (fun i6 =>
 (fulI 0 k4 (lenN (setL (repL k4 (0 : Int)) (addN 0 k5) i1))).bnd (fun _ =>
 some (Sum.inl (setL (repL k4 (0 : Int)) (addN 0 k5) i1))))))
 ((fulI 0 k4 (lenN (repL k4 (0 : Int)))).bnd (fun _ =>
 some (Sum.inl (repL k4 (0 : Int))))))
 (fun l7 =>
 (takI l7 (lenN l7)).bnd (fun l8 =>
 some l8)))))


def G_impl_rawOne (NN : Nat) : (Int × (Int × Int)) → (Option (List Int)) :=
 (fun ((i0, i1, i2) : (Int × (Int × Int))) =>
 (F_impl_rawWidth (i0, i1, i2)).bnd (fun i3 =>
 (mkI i3 i3 8).bnd (fun k4 =>
 cnd (eqI i0 (4 : Int))
 ((chkI (0 : Int) k4).bnd (fun k5 =>
 (getN (repL k4 (0 : Int)) (addN 0 k5)).bnd (fun i6 =>
 (takI (setL (repL k4 (0 : Int)) (addN 0 k5) (0 : Int)) k4).bnd (fun l7 =>
 some l7))))
 (cnd (eqI i0 (5 : Int))
 ((chkI (0 : Int) k4).bnd (fun k8 =>
 (getN (repL k4 (0 : Int)) (addN 0 k8)).bnd (fun i9 =>
 (takI (setL (repL k4 (0 : Int)) (addN 0 k8) i1) k4).bnd (fun l10 =>
 some l10))))
 (cnd (eqI i0 (6 : Int))
 ((F_impl_rawTop (i0, i1, i2)).bnd (fun i11 =>
 (chkI (0 : Int) k4).bnd (fun k12 =>
 (getN (repL k4 (0 : Int)) (addN 0 k12)).bnd (fun i13 =>
 (takI (setL (repL k4 (0 : Int)) (addN 0 k12) i11) k4).bnd (fun l14 =>
 some l14)))))
 ((chkI (0 : Int) k4).bnd (fun k15 =>
 (getN (repL k4 (0 : Int)) (addN 0 k15)).bnd (fun i16 =>
 (takI (setL (repL k4 (0 : Int)) (addN 0 k15) (1 : Int)) k4).bnd (fun l17 =>
 some l17)))))))))


def G_spec_l02One (NN : Nat) : (Int × (Int × Int)) → (Option (List Int)) :=
 (fun ((i0, i1, i2) : (Int × (Int × Int))) =>
 (F_spec_l02Width (i0, i1, i2)).bnd (fun i3 =>
 (mkI i3 i3 8).bnd (fun k4 =>
 joinK (cnd (eqI i0 (5 : Int))
 ((fulI 0 k4 (lenN (repL k4 (0 : Int)))).bnd (fun _ =>
 some (Sum.inl ((true, i0), (i0, i1, i2), repL k4 (0 : Int)))))
 ((fulI 0 k4 (lenN (repL k4 (0 : Int)))).bnd (fun _ =>
 some (Sum.inl ((eqI i0 (6 : Int), i0), (i0, i1, i2), repL k4 (0 : Int))))))
 (fun ((b5, i6), (i7, i8, i9), l10) =>
 cnd (b5)
 ((F_spec_l02Top (i7, i8, i9)).bnd (fun i11 =>
 (chkI (0 : Int) (lenN l10)).bnd (fun k12 =>
 (getN l10 (addN 0 k12)).bnd (fun i13 =>
 (takI (setL l10 (addN 0 k12) i11) (lenN l10)).bnd (fun l14 =>
 some l14)))))
 (cnd (eqI i6 (4 : Int))
 ((chkI (0 : Int) (lenN l10)).bnd (fun k15 =>
 (getN l10 (addN 0 k15)).bnd (fun i16 =>
 (takI (setL l10 (addN 0 k15) (0 : Int)) (lenN l10)).bnd (fun l17 =>
 some l17))))
 ((chkI (0 : Int) (lenN l10)).bnd (fun k18 =>
 (getN l10 (addN 0 k18)).bnd (fun i19 =>
 (takI (setL l10 (addN 0 k18) (1 : Int)) (lenN l10)).bnd (fun l20 =>
 some l20)))))))))


def G_impl_addInto (NN : Nat) : ((Int × (Int × Int)) × ((List Int) × (List Int))) → (Option (List Int)) :=
 (fun (((i0, i1, i2), l3, l4) : ((Int × (Int × Int)) × ((List Int) × (List Int)))) =>
 joinK (cnd (eqI i0 (1 : Int))
 ((fulI 0 (lenN l3) (lenN l3)).bnd (fun _ =>
 some (Sum.inl ((true, i0, l4), l3, i0, i1, i2))))
 ((fulI 0 (lenN l3) (lenN l3)).bnd (fun _ =>
 some (Sum.inl ((eqI i0 (5 : Int), i0, l4), l3, i0, i1, i2)))))
 (fun ((b5, i6, l7), l8, i9, i10, i11) =>
 cnd (b5)
 ((chkI (0 : Int) (lenN l8)).bnd (fun k12 =>
 (getN l8 (addN 0 k12)).bnd (fun i13 =>
 (getI l7 (0 : Int)).bnd (fun i14 =>
 (chkI (0 : Int) (lenN l8)).bnd (fun k15 =>
 (getN l8 (addN 0 k15)).bnd (fun i16 =>
 (samI (lenN (setL l8 (addN 0 k15) (maxI i13 i14))) (lenN l3)).bnd (fun _ =>
 some (setL l8 (addN 0 k15) (maxI i13 i14)))))))))
 (cnd (eqI i6 (3 : Int))
 ((chkI (0 : Int) (lenN l8)).bnd (fun k17 =>
 (getN l8 (addN 0 k17)).bnd (fun i18 =>
 (getI l7 (0 : Int)).bnd (fun i19 =>
 (chkI (0 : Int) (lenN l8)).bnd (fun k20 =>
 (getN l8 (addN 0 k20)).bnd (fun i21 =>
 (samI (lenN (setL l8 (addN 0 k20) (minI (addI .i64 i18 i19) i10))) (lenN l3)).bnd (fun _ =>
 some (setL l8 (addN 0 k20) (minI (addI .i64 i18 i19) i10)))))))))
 (cnd (eqI i6 (4 : Int))
 ((chkI (0 : Int) (lenN l8)).bnd (fun k22 =>
 (getN l8 (addN 0 k22)).bnd (fun i23 =>
 (getI l7 (0 : Int)).bnd (fun i24 =>
 (chkI (0 : Int) (lenN l8)).bnd (fun k25 =>
 (getN l8 (addN 0 k25)).bnd (fun i26 =>
 (samI (lenN (setL l8 (addN 0 k25) (minI i23 i24))) (lenN l3)).bnd (fun _ =>
 some (setL l8 (addN 0 k25) (minI i23 i24)))))))))
 (cnd (eqI i6 (6 : Int))
 ((chkI (0 : Int) (lenN l8)).bnd (fun k27 =>
 (getN l8 (addN 0 k27)).bnd (fun i28 =>
 (getI l7 (0 : Int)).bnd (fun i29 =>
 (chkI (0 : Int) (lenN l8)).bnd (fun k30 =>
 (getN l8 (addN 0 k30)).bnd (fun i31 =>
 (samI (lenN (setL l8 (addN 0 k30) (orI .i64 i28 i29))) (lenN l3)).bnd (fun _ =>
 some (setL l8 (addN 0 k30) (orI .i64 i28 i29)))))))))
 ((fulI 0 (lenN l8) (lenN l8)).bnd (fun _ =>
 loopT NN (fun (((l32, i33, i34), l35, i36, i37, i38) : (((List Int) × (Int × Int)) × ((List Int) × (Int × (Int × Int))))) =>
 cnd (ltI i34 i33)
 ((chkI i34 (lenN l35)).bnd (fun k39 =>
 (getN l35 (addN 0 k39)).bnd (fun i40 =>
 (getI l32 i34).bnd (fun i41 =>
 (remI (addI .i64 i40 i41) i37).bnd (fun i42 =>
 (chkI i34 (lenN l35)).bnd (fun k43 =>
 (getN l35 (addN 0 k43)).bnd (fun i44 =>
 (fulI 0 (lenN l35) (lenN (setL l35 (addN 0 k43) i42))).bnd (fun _ =>
 some (Sum.inl ((l32, i33, addI .i64 i34 1), setL l35 (addN 0 k43) i42, i36, i37, i38))))))))))
 (((samI (lenN l35) (lenN l3)).bnd (fun _ =>
 some l35)).bnd (fun l45 =>
 some (Sum.inr l45))))
 ((l7, natI (lenN l8), (0 : Int)), l8, i9, i10, i11))))))))


def G_spec_l02Add (NN : Nat) : ((Int × (Int × Int)) × ((List Int) × (List Int))) → (Option (List Int)) :=
 (fun (((i0, i1, i2), l3, l4) : ((Int × (Int × Int)) × ((List Int) × (List Int)))) =>
 (mkI (natI (lenN l3)) (natI (lenN l3)) 8).bnd (fun k5 =>
 joinK ((fulI 0 k5 (lenN (repL k5 (0 : Int)))).bnd (fun _ =>
 loopT NN (fun (((l6, l7, i8, i9), (i10, i11, i12), l13) : (((List Int) × ((List Int) × (Int × Int))) × ((Int × (Int × Int)) × (List Int)))) =>
 cnd (ltI i9 i8)
 (joinK (cnd (eqI i10 (1 : Int))
 ((fulI 0 (lenN l13) (lenN l13)).bnd (fun _ =>
 some (Sum.inl ((true, i10, i9, i9, l6, l7, i8), (i10, i11, i12), l13))))
 ((fulI 0 (lenN l13) (lenN l13)).bnd (fun _ =>
 some (Sum.inl ((eqI i10 (6 : Int), i10, i9, i9, l6, l7, i8), (i10, i11, i12), l13)))))
 (fun ((b14, i15, i16, i17, l18, l19, i20), (i21, i22, i23), l24) =>
 cnd (b14)
 ((getI l18 i16).bnd (fun i25 =>
 (getI l19 i16).bnd (fun i26 =>
 (chkI i16 (lenN l24)).bnd (fun k27 =>
 (getN l24 (addN 0 k27)).bnd (fun i28 =>
 (fulI 0 (lenN l24) (lenN (setL l24 (addN 0 k27) (orI .i64 i25 i26)))).bnd (fun _ =>
 some (Sum.inl ((l18, l19, i20, addI .i64 i17 1), (i21, i22, i23), setL l24 (addN 0 k27) (orI .i64 i25 i26)))))))))
 (cnd (eqI i15 (3 : Int))
 ((getI l18 i16).bnd (fun i29 =>
 (getI l19 i16).bnd (fun i30 =>
 (chkI i16 (lenN l24)).bnd (fun k31 =>
 (getN l24 (addN 0 k31)).bnd (fun i32 =>
 (fulI 0 (lenN l24) (lenN (setL l24 (addN 0 k31) (minI (addI .i64 i29 i30) i22)))).bnd (fun _ =>
 some (Sum.inl ((l18, l19, i20, addI .i64 i17 1), (i21, i22, i23), setL l24 (addN 0 k31) (minI (addI .i64 i29 i30) i22)))))))))
 (cnd (eqI i15 (4 : Int))
 ((getI l18 i16).bnd (fun i33 =>
 (getI l19 i16).bnd (fun i34 =>
 (chkI i16 (lenN l24)).bnd (fun k35 =>
 (getN l24 (addN 0 k35)).bnd (fun i36 =>
 (fulI 0 (lenN l24) (lenN (setL l24 (addN 0 k35) (minI i33 i34)))).bnd (fun _ =>
 some (Sum.inl ((l18, l19, i20, addI .i64 i17 1), (i21, i22, i23), setL l24 (addN 0 k35) (minI i33 i34)))))))))
 (cnd (eqI i15 (5 : Int))
 ((getI l18 i16).bnd (fun i37 =>
 (getI l19 i16).bnd (fun i38 =>
 (chkI i16 (lenN l24)).bnd (fun k39 =>
 (getN l24 (addN 0 k39)).bnd (fun i40 =>
 (fulI 0 (lenN l24) (lenN (setL l24 (addN 0 k39) (maxI i37 i38)))).bnd (fun _ =>
 some (Sum.inl ((l18, l19, i20, addI .i64 i17 1), (i21, i22, i23), setL l24 (addN 0 k39) (maxI i37 i38)))))))))
 ((getI l18 i16).bnd (fun i41 =>
 (getI l19 i16).bnd (fun i42 =>
 (remI (addI .i64 i41 i42) i22).bnd (fun i43 =>
 (chkI i16 (lenN l24)).bnd (fun k44 =>
 (getN l24 (addN 0 k44)).bnd (fun i45 =>
 (fulI 0 (lenN l24) (lenN (setL l24 (addN 0 k44) i43))).bnd (fun _ =>
 some (Sum.inl ((l18, l19, i20, addI .i64 i17 1), (i21, i22, i23), setL l24 (addN 0 k44) i43))))))))))))))
 (((fulI 0 (lenN l13) (lenN l13)).bnd (fun _ =>
 some (Sum.inl l13))).bnd (fun l46 =>
 some (Sum.inr l46))))
 ((l3, l4, natI (lenN l3), (0 : Int)), (i0, i1, i2), repL k5 (0 : Int))))
 (fun l47 =>
 (takI l47 (lenN l47)).bnd (fun l48 =>
 some l48))))


def G_impl_mulCoefficients (NN : Nat) : ((Int × (Int × Int)) × ((List Int) × ((List Int) × (List Int)))) → (Option (List Int)) :=
 (fun (((i0, i1, i2), l3, l4, l5) : ((Int × (Int × Int)) × ((List Int) × ((List Int) × (List Int))))) =>
 (cpyL l3 0 (lenN l3) (repL (lenN l3) (0 : Int))).bnd (fun l6 =>
 (fulI 0 (lenN l3) (lenN l6)).bnd (fun _ =>
 loopT NN (fun (((l7, l8, i9, i10), l11, i12, i13, i14) : (((List Int) × ((List Int) × (Int × Int))) × ((List Int) × (Int × (Int × Int))))) =>
 cnd (ltI i10 i9)
 (joinK ((fulI 0 (lenN l11) (lenN l11)).bnd (fun _ =>
 loopT NN (fun (((l15, l16, i17, i18, i19, i20, i21), l22, i23, i24, i25) : (((List Int) × ((List Int) × (Int × (Int × (Int × (Int × Int)))))) × ((List Int) × (Int × (Int × Int))))) =>
 cnd (ltI i21 i20)
 ((getI l15 i17).bnd (fun i26 =>
 (getI l16 i21).bnd (fun i27 =>
 (remI (mulI .i64 i26 i27) i24).bnd (fun i28 =>
 cnd (ltI (addI .i64 i17 i21) (natI (lenN l22)))
 ((chkI (addI .i64 i17 i21) (lenN l22)).bnd (fun k29 =>
 (getN l22 (addN 0 k29)).bnd (fun i30 =>
 (remI (addI .i64 i30 i28) i24).bnd (fun i31 =>
 (chkI (addI .i64 i17 i21) (lenN l22)).bnd (fun k32 =>
 (getN l22 (addN 0 k32)).bnd (fun i33 =>
 (fulI 0 (lenN l22) (lenN (setL l22 (addN 0 k32) i31))).bnd (fun _ =>
 some (Sum.inl ((l15, l16, i17, i18, i19, i20, addI .i64 i21 1), setL l22 (addN 0 k32) i31, i23, i24, i25)))))))))
 (cnd (eqI i23 (8 : Int))
 ((chkI (subI .i64 (addI .i64 i17 i21) (4 : Int)) (lenN l22)).bnd (fun k34 =>
 (getN l22 (addN 0 k34)).bnd (fun i35 =>
 (remI (subI .i64 (addI .i64 i35 i24) i28) i24).bnd (fun i36 =>
 (chkI (subI .i64 (addI .i64 i17 i21) (4 : Int)) (lenN l22)).bnd (fun k37 =>
 (getN l22 (addN 0 k37)).bnd (fun i38 =>
 (fulI 0 (lenN l22) (lenN (setL l22 (addN 0 k37) i36))).bnd (fun _ =>
 some (Sum.inl ((l15, l16, i17, i18, i19, i20, addI .i64 i21 1), setL l22 (addN 0 k37) i36, i23, i24, i25)))))))))
 ((fulI 0 (lenN l22) (lenN l22)).bnd (fun _ =>
 some (Sum.inl ((l15, l16, i17, i18, i19, i20, addI .i64 i21 1), l22, i23, i24, i25)))))))))
 (((fulI 0 (lenN l22) (lenN l22)).bnd (fun _ =>
 some (Sum.inl ((i19, l15, l16, i18), l22, i23, i24, i25)))).bnd (fun l39 =>
 some (Sum.inr l39))))
 ((l7, l8, i10, i9, i10, natI (lenN l8), (0 : Int)), l11, i12, i13, i14)))
 (fun ((i40, l41, l42, i43), l44, i45, i46, i47) =>
 (fulI 0 (lenN l44) (lenN l44)).bnd (fun _ =>
 some (Sum.inl ((l41, l42, i43, addI .i64 i40 1), l44, i45, i46, i47)))))
 (((samI (lenN l11) (lenN l3)).bnd (fun _ =>
 some l11)).bnd (fun l48 =>
 some (Sum.inr l48))))
 ((l4, l5, natI (lenN l4), (0 : Int)), l6, i0, i1, i2))))


def G_impl_mulInto (NN : Nat) : ((Int × (Int × Int)) × ((List Int) × ((List Int) × (List Int)))) → (Option (List Int)) :=
 (fun (((i0, i1, i2), l3, l4, l5) : ((Int × (Int × Int)) × ((List Int) × ((List Int) × (List Int))))) =>
 joinK (cnd (eqI i0 (1 : Int))
 ((fulI 0 (lenN l3) (lenN l3)).bnd (fun _ =>
 some (Sum.inl ((true, i0, l4, l5), l3, i0, i1, i2))))
 ((fulI 0 (lenN l3) (lenN l3)).bnd (fun _ =>
 some (Sum.inl ((eqI i0 (5 : Int), i0, l4, l5), l3, i0, i1, i2)))))
 (fun ((b6, i7, l8, l9), l10, i11, i12, i13) =>
 cnd (b6)
 ((getI l8 (0 : Int)).bnd (fun i14 =>
 (getI l9 (0 : Int)).bnd (fun i15 =>
 (chkI (0 : Int) (lenN l10)).bnd (fun k16 =>
 (getN l10 (addN 0 k16)).bnd (fun i17 =>
 (samI (lenN (setL l10 (addN 0 k16) (minI i14 i15))) (lenN l3)).bnd (fun _ =>
 some (setL l10 (addN 0 k16) (minI i14 i15))))))))
 (cnd (eqI i7 (2 : Int))
 ((getI l8 (0 : Int)).bnd (fun i18 =>
 (getI l9 (0 : Int)).bnd (fun i19 =>
 (remI (mulI .i64 i18 i19) i12).bnd (fun i20 =>
 (chkI (0 : Int) (lenN l10)).bnd (fun k21 =>
 (getN l10 (addN 0 k21)).bnd (fun i22 =>
 (samI (lenN (setL l10 (addN 0 k21) i20)) (lenN l3)).bnd (fun _ =>
 some (setL l10 (addN 0 k21) i20))))))))
 (cnd (eqI i7 (3 : Int))
 ((getI l8 (0 : Int)).bnd (fun i23 =>
 (getI l9 (0 : Int)).bnd (fun i24 =>
 (chkI (0 : Int) (lenN l10)).bnd (fun k25 =>
 (getN l10 (addN 0 k25)).bnd (fun i26 =>
 (samI (lenN (setL l10 (addN 0 k25) (minI (mulI .i64 i23 i24) i12))) (lenN l3)).bnd (fun _ =>
 some (setL l10 (addN 0 k25) (minI (mulI .i64 i23 i24) i12))))))))
 (cnd (eqI i7 (4 : Int))
 ((getI l8 (0 : Int)).bnd (fun i27 =>
 (getI l9 (0 : Int)).bnd (fun i28 =>
 (chkI (0 : Int) (lenN l10)).bnd (fun k29 =>
 (getN l10 (addN 0 k29)).bnd (fun i30 =>
 (samI (lenN (setL l10 (addN 0 k29) (minI (addI .i64 i27 i28) i12))) (lenN l3)).bnd (fun _ =>
 some (setL l10 (addN 0 k29) (minI (addI .i64 i27 i28) i12))))))))
 (cnd (eqI i7 (6 : Int))
 ((getI l8 (0 : Int)).bnd (fun i31 =>
 (getI l9 (0 : Int)).bnd (fun i32 =>
 (chkI (0 : Int) (lenN l10)).bnd (fun k33 =>
 (getN l10 (addN 0 k33)).bnd (fun i34 =>
 (samI (lenN (setL l10 (addN 0 k33) (andI .i64 i31 i32))) (lenN l3)).bnd (fun _ =>
 some (setL l10 (addN 0 k33) (andI .i64 i31 i32))))))))
 ((fulI 0 (lenN l10) (lenN l10)).bnd (fun _ =>
 (F_impl_mulCoefficients ((i11, i12, i13), l10, l8, l9)).bnd (fun l35 =>
 (samI (lenN l35) (lenN l3)).bnd (fun _ =>
 some l35))))))))))


def G_spec_l02Mul (NN : Nat) : ((Int × (Int × Int)) × ((List Int) × (List Int))) → (Option (List Int)) :=
 (fun (((i0, i1, i2), l3, l4) : ((Int × (Int × Int)) × ((List Int) × (List Int)))) =>
 (mkI (natI (lenN l3)) (natI (lenN l3)) 8).bnd (fun k5 =>
 joinK (joinK (cnd (eqI i0 (1 : Int))
 ((fulI 0 k5 (lenN (repL k5 (0 : Int)))).bnd (fun _ =>
 some (Sum.inl ((true, i0, l3, l4), (i0, i1, i2), repL k5 (0 : Int)))))
 ((fulI 0 k5 (lenN (repL k5 (0 : Int)))).bnd (fun _ =>
 some (Sum.inl ((eqI i0 (6 : Int), i0, l3, l4), (i0, i1, i2), repL k5 (0 : Int))))))
 (fun ((b6, i7, l8, l9), (i10, i11, i12), l13) =>
 cnd (b6)
 ((getI l8 (0 : Int)).bnd (fun i14 =>
 (getI l9 (0 : Int)).bnd (fun i15 =>
 (chkI (0 : Int) (lenN l13)).bnd (fun k16 =>
 (getN l13 (addN 0 k16)).bnd (fun i17 =>
 (fulI 0 (lenN l13) (lenN (setL l13 (addN 0 k16) (andI .i64 i14 i15)))).bnd (fun _ =>
 some (Sum.inl (setL l13 (addN 0 k16) (andI .i64 i14 i15)))))))))
 (cnd (eqI i7 (2 : Int))
 ((getI l8 (0 : Int)).bnd (fun i18 =>
 (getI l9 (0 : Int)).bnd (fun i19 =>
 (remI (mulI .i64 i18 i19) i11).bnd (fun i20 =>
 (chkI (0 : Int) (lenN l13)).bnd (fun k21 =>
 (getN l13 (addN 0 k21)).bnd (fun i22 =>
 (fulI 0 (lenN l13) (lenN (setL l13 (addN 0 k21) i20))).bnd (fun _ =>
 some (Sum.inl (setL l13 (addN 0 k21) i20)))))))))
 (cnd (eqI i7 (3 : Int))
 ((getI l8 (0 : Int)).bnd (fun i23 =>
 (getI l9 (0 : Int)).bnd (fun i24 =>
 (chkI (0 : Int) (lenN l13)).bnd (fun k25 =>
 (getN l13 (addN 0 k25)).bnd (fun i26 =>
 (fulI 0 (lenN l13) (lenN (setL l13 (addN 0 k25) (minI (mulI .i64 i23 i24) i11)))).bnd (fun _ =>
 some (Sum.inl (setL l13 (addN 0 k25) (minI (mulI .i64 i23 i24) i11)))))))))
 (cnd (eqI i7 (4 : Int))
 ((getI l8 (0 : Int)).bnd (fun i27 =>
 (getI l9 (0 : Int)).bnd (fun i28 =>
 (chkI (0 : Int) (lenN l13)).bnd (fun k29 =>
 (getN l13 (addN 0 k29)).bnd (fun i30 =>
 (fulI 0 (lenN l13) (lenN (setL l13 (addN 0 k29) (minI (addI .i64 i27 i28) i11)))).bnd (fun _ =>
 some (Sum.inl (setL l13 (addN 0 k29) (minI (addI .i64 i27 i28) i11)))))))))
 (cnd (eqI i7 (5 : Int))
 ((getI l8 (0 : Int)).bnd (fun i31 =>
 (getI l9 (0 : Int)).bnd (fun i32 =>
 (chkI (0 : Int) (lenN l13)).bnd (fun k33 =>
 (getN l13 (addN 0 k33)).bnd (fun i34 =>
 (fulI 0 (lenN l13) (lenN (setL l13 (addN 0 k33) (minI i31 i32)))).bnd (fun _ =>
 some (Sum.inl (setL l13 (addN 0 k33) (minI i31 i32)))))))))
 ((fulI 0 (lenN l13) (lenN l13)).bnd (fun _ =>
 loopT NN (fun (((l35, l36, i37, i38), (i39, i40, i41), l42) : (((List Int) × ((List Int) × (Int × Int))) × ((Int × (Int × Int)) × (List Int)))) =>
 cnd (ltI i38 i37)
 (joinK ((getI l36 i38).bnd (fun i43 =>
 (fulI 0 (lenN l42) (lenN l42)).bnd (fun _ =>
 loopT NN (fun (((l44, i45, i46, l47, i48, i49, l50, i51, i52), (i53, i54, i55), l56) : (((List Int) × (Int × (Int × ((List Int) × (Int × (Int × ((List Int) × (Int × Int)))))))) × ((Int × (Int × Int)) × (List Int)))) =>
 cnd (ltI i52 i51)
 ((getI l50 i52).bnd (fun i57 =>
 cnd (ltI (addI .i64 i45 i52) (natI (lenN l56)))
 ((chkI (addI .i64 i45 i52) (lenN l56)).bnd (fun k58 =>
 (getN l56 (addN 0 k58)).bnd (fun i59 =>
 (remI (addI .i64 i59 (mulI .i64 i46 i57)) i54).bnd (fun i60 =>
 (chkI (addI .i64 i45 i52) (lenN l56)).bnd (fun k61 =>
 (getN l56 (addN 0 k61)).bnd (fun i62 =>
 (fulI 0 (lenN l56) (lenN (setL l56 (addN 0 k61) i60))).bnd (fun _ =>
 some (Sum.inl ((l44, i45, i46, l47, i48, i49, l50, i51, addI .i64 i52 1), (i53, i54, i55), setL l56 (addN 0 k61) i60)))))))))
 (cnd (eqI i53 (8 : Int))
 ((chkI (subI .i64 (addI .i64 i45 i52) (4 : Int)) (lenN l56)).bnd (fun k63 =>
 (getN l56 (addN 0 k63)).bnd (fun i64 =>
 (remI (addI .i64 i64 (mulI .i64 (subI .i64 i54 i46) i57)) i54).bnd (fun i65 =>
 (chkI (subI .i64 (addI .i64 i45 i52) (4 : Int)) (lenN l56)).bnd (fun k66 =>
 (getN l56 (addN 0 k66)).bnd (fun i67 =>
 (fulI 0 (lenN l56) (lenN (setL l56 (addN 0 k66) i65))).bnd (fun _ =>
 some (Sum.inl ((l44, i45, i46, l47, i48, i49, l50, i51, addI .i64 i52 1), (i53, i54, i55), setL l56 (addN 0 k66) i65)))))))))
 ((fulI 0 (lenN l56) (lenN l56)).bnd (fun _ =>
 some (Sum.inl ((l44, i45, i46, l47, i48, i49, l50, i51, addI .i64 i52 1), (i53, i54, i55), l56)))))))
 (((fulI 0 (lenN l56) (lenN l56)).bnd (fun _ =>
 some (Sum.inl ((i49, l44, l47, i48), (i53, i54, i55), l56)))).bnd (fun l68 =>
 some (Sum.inr l68))))
 ((l35, i38, i43, l36, i37, i38, l35, natI (lenN l35), (0 : Int)), (i39, i40, i41), l42))))
 (fun ((i69, l70, l71, i72), (i73, i74, i75), l76) =>
 (fulI 0 (lenN l76) (lenN l76)).bnd (fun _ =>
 some (Sum.inl ((l70, l71, i72, addI .i64 i69 1), (i73, i74, i75), l76)))))
 (((fulI 0 (lenN l42) (lenN l42)).bnd (fun _ =>
 some (Sum.inl l42))).bnd (fun l77 =>
 some (Sum.inr l77))))
 ((l9, l8, natI (lenN l8), (0 : Int)), (i10, i11, i12), l13)))))))))
 (fun l78 =>
 (takI l78 (lenN l78)).bnd (fun l79 =>
 some l79))))


def G_impl_rawMul (NN : Nat) : ((Int × (Int × Int)) × ((List Int) × (List Int))) → (Option (List Int)) :=
 (fun (((i0, i1, i2), l3, l4) : ((Int × (Int × Int)) × ((List Int) × (List Int)))) =>
 (F_impl_rawWidth (i0, i1, i2)).bnd (fun i5 =>
 (mkI i5 i5 8).bnd (fun k6 =>
 (fulI 0 k6 (lenN (repL k6 (0 : Int)))).bnd (fun _ =>
 (F_impl_mulInto ((i0, i1, i2), repL k6 (0 : Int), l3, l4)).bnd (fun l7 =>
 (takI l7 k6).bnd (fun l8 =>
 some l8))))))


def G_impl_rawPow (NN : Nat) : ((Int × (Int × Int)) × ((List Int) × Int)) → (Option (List Int)) :=
 (fun (((i0, i1, i2), l3, i4) : ((Int × (Int × Int)) × ((List Int) × Int))) =>
 (F_impl_rawOne (i0, i1, i2)).bnd (fun l5 =>
 joinK ((fulI 0 (lenN l5) (lenN l5)).bnd (fun _ =>
 loopT NN (fun (((l6, i7, i8), (i9, i10, i11), l12) : (((List Int) × (Int × Int)) × ((Int × (Int × Int)) × (List Int)))) =>
 cnd (ltI i8 i7)
 ((winI l12 0 (lenN l12)).bnd (fun l13 =>
 (F_impl_rawMul ((i9, i10, i11), l13, l6)).bnd (fun l14 =>
 (fulI 0 (lenN l14) (lenN l14)).bnd (fun _ =>
 some (Sum.inl ((l6, i7, addI .i64 i8 1), (i9, i10, i11), l14))))))
 (((fulI 0 (lenN l12) (lenN l12)).bnd (fun _ =>
 some (Sum.inl l12))).bnd (fun l15 =>
 some (Sum.inr l15))))
 ((l3, i4, (0 : Int)), (i0, i1, i2), l5)))
 (fun l16 =>
 (takI l16 (lenN l16)).bnd (fun l17 =>
 some l17))))


def G_impl_CountElem (NN : Nat) : ((Int × (Int × Int)) × Int) → (Option (List Int)) :=
 (fun (((i0, i1, i2), i3) : ((Int × (Int × Int)) × Int)) =>
 (F_impl_RingOk (i0, i1, i2)).bnd (fun b4 =>
 cnd (notB b4)
 (some (([] : List Int)))
 (cnd (ltI i3 (0 : Int))
 (some (([] : List Int)))
 (cnd (eqI i3 (0 : Int))
 ((F_impl_rawZero (i0, i1, i2)).bnd (fun l5 =>
 (takI l5 (lenN l5)).bnd (fun l6 =>
 some l6)))
 ((F_impl_rawOne (i0, i1, i2)).bnd (fun l7 =>
 cnd (eqI i0 (3 : Int))
 ((chkI (0 : Int) (lenN l7)).bnd (fun k8 =>
 (getN l7 (addN 0 k8)).bnd (fun i9 =>
 (takI (setL l7 (addN 0 k8) (minI i3 i1)) (lenN l7)).bnd (fun l10 =>
 some l10))))
 (joinK (cnd (eqI i0 (2 : Int))
 ((fulI 0 (lenN l7) (lenN l7)).bnd (fun _ =>
 some (Sum.inl ((true, i3), (i0, i1, i2), l7))))
 (cnd (eqI i0 (7 : Int))
 ((fulI 0 (lenN l7) (lenN l7)).bnd (fun _ =>
 some (Sum.inl ((true, i3), (i0, i1, i2), l7))))
 ((fulI 0 (lenN l7) (lenN l7)).bnd (fun _ =>
 some (Sum.inl ((eqI i0 (8 : Int), i3), (i0, i1, i2), l7))))))
 (fun ((b11, i12), (i13, i14, i15), l16) =>
 cnd (b11)
 ((remI i12 i14).bnd (fun i17 =>
 (chkI (0 : Int) (lenN l16)).bnd (fun k18 =>
 (getN l16 (addN 0 k18)).bnd (fun i19 =>
 (takI (setL l16 (addN 0 k18) i17) (lenN l16)).bnd (fun l20 =>
 some l20)))))
 ((takI l16 (lenN l16)).bnd (fun l21 =>
 some l21))))))))))


def G_spec_CountElem (NN : Nat) : ((Int × (Int × Int)) × Int) → (Option (List Int)) :=
 (fun (((i0, i1, i2), i3) : ((Int × (Int × Int)) × Int)) =>
 (F_spec_RingOk (i0, i1, i2)).bnd (fun b4 =>
 cnd (notB b4)
 (some (([] : List Int)))
 (cnd (ltI i3 (0 : Int))
 (some (([] : List Int)))
 (cnd (eqI i3 (0 : Int))
 ((F_spec_l02Zero (i0, i1, i2)).bnd (fun l5 =>
 (takI l5 (lenN l5)).bnd (fun l6 =>
 some l6)))
 ((F_spec_l02One (i0, i1, i2)).bnd (fun l7 =>
 cnd (eqI i0 (3 : Int))
 ((chkI (0 : Int) (lenN l7)).bnd (fun k8 =>
 (getN l7 (addN 0 k8)).bnd (fun i9 =>
 (takI (setL l7 (addN 0 k8) (minI i3 i1)) (lenN l7)).bnd (fun l10 =>
 some l10))))
 (joinK (cnd (eqI i0 (2 : Int))
 ((fulI 0 (lenN l7) (lenN l7)).bnd (fun _ =>
 some (Sum.inl ((true, i3), (i0, i1, i2), l7))))
 (cnd (eqI i0 (7 : Int))
 ((fulI 0 (lenN l7) (lenN l7)).bnd (fun _ =>
 some (Sum.inl ((true, i3), (i0, i1, i2), l7))))
 ((fulI 0 (lenN l7) (lenN l7)).bnd (fun _ =>
 some (Sum.inl ((eqI i0 (8 : Int), i3), (i0, i1, i2), l7))))))
 (fun ((b11, i12), (i13, i14, i15), l16) =>
 cnd (b11)
 ((remI i12 i14).bnd (fun i17 =>
 (chkI (0 : Int) (lenN l16)).bnd (fun k18 =>
 (getN l16 (addN 0 k18)).bnd (fun i19 =>
 (takI (setL l16 (addN 0 k18) i17) (lenN l16)).bnd (fun l20 =>
 some l20)))))
 ((takI l16 (lenN l16)).bnd (fun l21 =>
 some l21))))))))))


theorem f_laws_toRing (x y : Int × Int × Int) (h : F_laws_toRing x = some y) : G_laws_toRing FUEL x = some y := h
theorem toRing_s (r : Int × Int × Int) : F_laws_toRing r = some r := rfl

theorem cnd_eqI {α : Type} (a b : Int) (x y : α) : cnd (eqI a b) x y = if a = b then x else y := by
  by_cases h : a = b
  · rw [if_pos h, cnd_t (eqI_t h)]
  · rw [if_neg h, cnd_f (eqI_f h)]
theorem eqI_d (a b : Int) : eqI a b = decide (a = b) := by by_cases h : a = b <;> simp [eqI, h]
theorem leI_d (a b : Int) : leI a b = decide (a ≤ b) := rfl
theorem ltI_d (a b : Int) : ltI a b = decide (a < b) := rfl
theorem cnd_dec {α : Type} (p : Prop) [Decidable p] (x y : α) : cnd (decide p) x y = if p then x else y := by
  by_cases h : p
  · rw [if_pos h, cnd_t (decide_eq_true h)]
  · rw [if_neg h, cnd_f (decide_eq_false h)]

theorem ring_cases {k p n : Int} (h : ringOk (k, p, n) = true) : (k = 1 ∧ p = 0 ∧ n = 0) ∨ (k = 2 ∧ isPrimeI p = true ∧ n = 0) ∨ (k = 3 ∧ (1 ≤ p ∧ p ≤ 1000000) ∧ n = 0) ∨ (k = 4 ∧ (1 ≤ p ∧ p ≤ 1000000) ∧ n = 0) ∨ (k = 5 ∧ (1 ≤ p ∧ p ≤ 1000000) ∧ n = 0) ∨
    (k = 6 ∧ p = 0 ∧ 1 ≤ n ∧ n ≤ 20) ∨ (k = 7 ∧ isPrimeI p = true ∧ 1 ≤ n ∧ n ≤ 6) ∨ (k = 8 ∧ isPrimeI p = true ∧ p ≠ 2 ∧ n = 0) := by
  simp only [ringOk] at h
  by_cases h1 : k = 1
  · rw [if_pos h1] at h; exact .inl ⟨h1, by simpa using h⟩
  rw [if_neg h1] at h
  by_cases h2 : k = 2
  · rw [if_pos h2] at h; simp at h; exact .inr (.inl ⟨h2, h⟩)
  rw [if_neg h2] at h
  by_cases h3 : k = 3 ∨ k = 4 ∨ k = 5
  · rw [if_pos h3] at h
    simp only [decide_eq_true_eq] at h
    rcases h3 with h3 | h3 | h3
    · exact .inr (.inr (.inl ⟨h3, h⟩))
    · exact .inr (.inr (.inr (.inl ⟨h3, h⟩)))
    · exact .inr (.inr (.inr (.inr (.inl ⟨h3, h⟩))))
  rw [if_neg h3] at h
  by_cases h4 : k = 6
  · rw [if_pos h4] at h; simp at h; exact .inr (.inr (.inr (.inr (.inr (.inl ⟨h4, h⟩)))))
  rw [if_neg h4] at h
  by_cases h5 : k = 7
  · rw [if_pos h5] at h; simp at h; exact .inr (.inr (.inr (.inr (.inr (.inr (.inl ⟨h5, h⟩))))))
  rw [if_neg h5] at h
  by_cases h6 : k = 8
  · rw [if_pos h6] at h; simp at h; exact .inr (.inr (.inr (.inr (.inr (.inr (.inr ⟨h6, h⟩))))))
  rw [if_neg h6] at h
  cases h

theorem f_impl_RingOk (x : Int × Int × Int) (y : Bool) (h : F_impl_RingOk x = some y) : G_impl_RingOk FUEL x = some y := by
  obtain ⟨k, p, n⟩ := x
  rw [← h]
  simp only [F_impl_RingOk, G_impl_RingOk, ringOk, F_impl_IsPrime, bnd_s, eqI_d, leI_d, cnd_dec]
  by_cases h1 : k = 1
  · rw [if_pos h1, if_pos h1]; by_cases hp : p = 0 <;> by_cases hn : n = 0 <;> simp [hp, hn]
  rw [if_neg h1, if_neg h1]
  by_cases h2 : k = 2
  · rw [if_pos h2, if_pos h2]; cases isPrimeI p <;> rfl
  rw [if_neg h2, if_neg h2]
  have hd : (if k = 3 then some (Sum.inl ((true, k), k, p, n)) else if k = 4 then some (Sum.inl ((true, k), k, p, n)) else some (Sum.inl ((decide (k = 5), k), k, p, n)) : Option (((Bool × Int) × Int × Int × Int) ⊕ Bool)) = some (Sum.inl ((decide (k = 3 ∨ k = 4 ∨ k = 5), k), k, p, n)) := by
    by_cases h3 : k = 3
    · simp [h3]
    · by_cases h4 : k = 4
      · simp [h4]
      · simp [h3, h4]
  rw [hd, joinK_l]
  simp only [cnd_dec]
  by_cases h3 : k = 3 ∨ k = 4 ∨ k = 5
  · rw [if_pos h3, if_pos h3]
    by_cases ha : 1 ≤ p
    · by_cases hb : p ≤ 1000000 <;> simp [ha, hb]
    · simp [ha]
  rw [if_neg h3, if_neg h3]
  by_cases h4 : k = 6
  · rw [if_pos h4, if_pos h4]
    by_cases ha : p = 0
    · by_cases hb : 1 ≤ n <;> simp [ha, hb]
    · simp [ha]
  rw [if_neg h4, if_neg h4]
  by_cases h5 : k = 7
  · rw [if_pos h5, if_pos h5]
    cases isPrimeI p
    · rfl
    · rw [cnd_t rfl]
      by_cases hb : 1 ≤ n <;> simp [hb]
  rw [if_neg h5, if_neg h5]
  by_cases h6 : k = 8
  · rw [if_pos h6, if_pos h6]
    cases isPrimeI p
    · rfl
    · rw [cnd_t rfl, neI_d, Bool.true_and]
      by_cases hb : p = 2 <;> simp [hb, cnd]
  rw [if_neg h6, if_neg h6]

theorem f_spec_RingOk (x : Int × Int × Int) (y : Bool) (h : F_spec_RingOk x = some y) : G_spec_RingOk FUEL x = some y := by
  obtain ⟨k, p, n⟩ := x
  rw [← h]
  simp only [F_spec_RingOk, G_spec_RingOk, ringOk, F_spec_IsPrime, F_spec_l01In, bnd_s, eqI_d, ltI_d, cnd_dec]
  by_cases h1 : k = 1
  · rw [if_pos h1, if_pos h1]; by_cases hp : p = 0 <;> by_cases hn : n = 0 <;> simp [hp, hn]
  rw [if_neg h1, if_neg h1]
  by_cases h2 : k = 2
  · rw [if_pos h2, if_pos h2]; cases isPrimeI p <;> rfl
  rw [if_neg h2, if_neg h2]
  have hd : (if k = 3 then some (Sum.inl ((true, k), k, p, n)) else if k = 4 then some (Sum.inl ((true, k), k, p, n)) else some (Sum.inl ((decide (k = 5), k), k, p, n)) : Option (((Bool × Int) × Int × Int × Int) ⊕ Bool)) = some (Sum.inl ((decide (k = 3 ∨ k = 4 ∨ k = 5), k), k, p, n)) := by
    by_cases h3 : k = 3
    · simp [h3]
    · by_cases h4 : k = 4
      · simp [h4]
      · simp [h3, h4]
  rw [hd, joinK_l]
  simp only [cnd_dec]
  by_cases h3 : k = 3 ∨ k = 4 ∨ k = 5
  · rw [if_pos h3, if_pos h3]
    by_cases ha : 1 ≤ p ∧ p ≤ 1000000 <;> simp [ha]
  rw [if_neg h3, if_neg h3]
  by_cases h4 : k = 6
  · rw [if_pos h4, if_pos h4]
    by_cases ha : p = 0 <;> simp [ha]
  rw [if_neg h4, if_neg h4]
  by_cases h5 : k = 7
  · rw [if_pos h5, if_pos h5]
    cases isPrimeI p <;> rfl
  rw [if_neg h5, if_neg h5]
  by_cases h6 : k = 8
  · rw [if_pos h6, if_pos h6]
    cases hp : isPrimeI p
    · rfl
    · have := isPrimeI_t hp
      rw [cnd_t rfl, Bool.true_and]
      by_cases hb : p = 2
      · simp [hb]
      · rw [if_pos (by omega)]; simp [hb]
  rw [if_neg h6, if_neg h6]

theorem f_impl_rawWidth (x : Int × Int × Int) (y : Int) (h : F_impl_rawWidth x = some y) : G_impl_rawWidth FUEL x = some y := by
  obtain ⟨k, p, n⟩ := x
  rw [← h]
  simp only [F_impl_rawWidth, G_impl_rawWidth, widI, cnd_eqI]
  by_cases h7 : k = 7
  · rw [if_pos h7, if_pos h7]
  · rw [if_neg h7, if_neg h7]; by_cases h8 : k = 8 <;> simp [h8]
theorem f_spec_l02Width (x : Int × Int × Int) (y : Int) (h : F_spec_l02Width x = some y) : G_spec_l02Width FUEL x = some y := f_impl_rawWidth x y h

theorem shl1 {n : Int} (h0 : 0 ≤ n) (h1 : n ≤ 60) : shlI .i64 1 n = some (2 ^ n.toNat) := by
  obtain ⟨m, rfl⟩ := natI_eq h0
  rw [shlI_one (by omega), Int.toNat_natCast]
  congr 1
theorem pow20 {n : Int} (h0 : 0 ≤ n) (h1 : n ≤ 20) : 1 ≤ (2 : Int) ^ n.toNat ∧ (2 : Int) ^ n.toNat ≤ 1048576 := by
  have a : (2 : Nat) ^ n.toNat ≤ 2 ^ 20 := Nat.pow_le_pow_right (by decide) (by omega)
  have b : 1 ≤ (2 : Nat) ^ n.toNat := Nat.one_le_two_pow
  have e : (((2 : Nat) ^ n.toNat : Nat) : Int) = (2 : Int) ^ n.toNat := by push_cast; rfl
  rw [← e]
  omega

theorem f_impl_rawTop (x : Int × Int × Int) (y : Int) (h : F_impl_rawTop x = some y) : G_impl_rawTop FUEL x = some y := by
  obtain ⟨k, p, n⟩ := x
  simp only [F_impl_rawTop] at h
  split at h
  · rename_i hr
    rw [← h]
    rcases ring_cases hr with ⟨rfl, rfl, rfl⟩ | ⟨rfl, hp, rfl⟩ | ⟨rfl, hp, rfl⟩ | ⟨rfl, hp, rfl⟩ | ⟨rfl, hp, rfl⟩ | ⟨rfl, rfl, hn⟩ | ⟨rfl, hp, hn⟩ | ⟨rfl, hp, hp2, rfl⟩
    · rfl
    · have := isPrimeI_t hp
      exact congrArg some (subI_eq (by omega) (by omega))
    · rfl
    · rfl
    · rfl
    · have h1 := pow20 (n := n) (by omega) hn.2
      show (shlI .i64 1 n).bnd _ = _
      rw [shl1 (by omega) (by omega), bnd_s, subI_eq (by omega) (by omega)]
      rfl
    · have := isPrimeI_t hp
      exact congrArg some (subI_eq (by omega) (by omega))
    · have := isPrimeI_t hp
      exact congrArg some (subI_eq (by omega) (by omega))
  · cases h
theorem f_spec_l02Top (x : Int × Int × Int) (y : Int) (h : F_spec_l02Top x = some y) : G_spec_l02Top FUEL x = some y := f_impl_rawTop x y h

theorem top_bd {r : Int × Int × Int} (h : ringOk r = true) : 0 ≤ topI r ∧ topI r ≤ 1048576 := by
  obtain ⟨k, p, n⟩ := r
  rcases ring_cases h with ⟨rfl, rfl, rfl⟩ | ⟨rfl, hp, rfl⟩ | ⟨rfl, hp, rfl⟩ | ⟨rfl, hp, rfl⟩ | ⟨rfl, hp, rfl⟩ | ⟨rfl, rfl, hn⟩ | ⟨rfl, hp, hn⟩ | ⟨rfl, hp, hp2, rfl⟩
  · simp [topI]
  · have := isPrimeI_t hp; simp [topI]; omega
  · simp [topI]; omega
  · simp [topI]; omega
  · simp [topI]; omega
  · have h1 := pow20 (n := n) (by omega) hn.2
    simp only [topI, Int.reduceEq, reduceIte, or_self]
    omega
  · have := isPrimeI_t hp; simp [topI]; omega
  · have := isPrimeI_t hp; simp [topI]; omega
theorem wid_bd {r : Int × Int × Int} (h : ringOk r = true) : widI r = (widN r : Int) ∧ 1 ≤ widN r ∧ widN r ≤ 6 := by
  obtain ⟨k, p, n⟩ := r
  rcases ring_cases h with ⟨rfl, rfl, rfl⟩ | ⟨rfl, hp, rfl⟩ | ⟨rfl, hp, rfl⟩ | ⟨rfl, hp, rfl⟩ | ⟨rfl, hp, rfl⟩ | ⟨rfl, rfl, hn⟩ | ⟨rfl, hp, hn⟩ | ⟨rfl, hp, hp2, rfl⟩
  · simp [widN, widI]
  · simp [widN, widI]
  · simp [widN, widI]
  · simp [widN, widI]
  · simp [widN, widI]
  · simp [widN, widI]
  · simp [widN, widI]; omega
  · simp [widN, widI]

theorem f_impl_inRing (x : (Int × Int × Int) × List Int) (y : Bool) (h : F_impl_inRing x = some y) : G_impl_inRing FUEL x = some y := by
  obtain ⟨⟨k, p, n⟩, l⟩ := x
  simp only [F_impl_inRing] at h
  split at h
  · rename_i hc
    obtain ⟨hr, hl⟩ := hc
    rw [← h]
    have hb := top_bd hr
    simp only [G_impl_inRing]
    rw [show F_impl_rawTop (k, p, n) = some (topI (k, p, n)) from if_pos hr, bnd_s]
    generalize topI (k, p, n) = t at hb ⊢
    rw [loopT_all l (fun i => (t, l, natI (lenN l), (i : Int))) (inTop t) (.inr false) (.inl ()) ?_ ?_ ?_ ?_ (FUEL_gt (by omega))]
    · cases l.all (inTop t) <;> rfl
    · intro i a ha hb
      rw [cnd_t (ltI_in ha), getI_nat, ha, bnd_s]
      simp only [inTop, decide_eq_true_eq] at hb
      rw [cnd_f (ltI_f hb.1), cnd_f (ltI_f hb.2), next_i ha (by omega)]
    · intro i a ha hb
      rw [cnd_t (ltI_in ha), getI_nat, ha, bnd_s]
      simp only [inTop, decide_eq_false_iff_not] at hb
      by_cases h0 : a < 0
      · rw [cnd_t (ltI_t h0)]
      · rw [cnd_f (ltI_f (by omega)), cnd_t (ltI_t (by omega))]
    · rw [cnd_f (ltI_end l)]
    · rfl
  · cases h

theorem f_impl_ElemOk (x : (Int × Int × Int) × List Int) (y : Bool) (h : F_impl_ElemOk x = some y) : G_impl_ElemOk FUEL x = some y := by
  obtain ⟨⟨k, p, n⟩, l⟩ := x
  simp only [F_impl_ElemOk] at h
  split at h
  · rename_i hl
    rw [← h]
    simp only [G_impl_ElemOk, F_impl_RingOk, F_impl_rawWidth, bnd_s]
    cases hr : ringOk (k, p, n) with
    | false => rfl
    | true =>
      have hw := wid_bd hr
      rw [cnd_t rfl, show F_impl_inRing ((k, p, n), l) = some (l.all (inTop (topI (k, p, n)))) from if_pos ⟨hr, hl⟩, bnd_s, cnd_eqI, nl, hw.1]
      by_cases hx : l.length = widN (k, p, n)
      · rw [if_pos (by rw [hx])]; simp [elOk, hx]
      · rw [if_neg (by omega)]; simp [elOk, hx]
  · cases h

theorem f_spec_l02Elem (x : (Int × Int × Int) × List Int) (y : Bool) (h : F_spec_l02Elem x = some y) : G_spec_l02Elem FUEL x = some y := by
  obtain ⟨⟨k, p, n⟩, l⟩ := x
  simp only [F_spec_l02Elem] at h
  split at h
  · rename_i hc
    obtain ⟨hr, hl⟩ := hc
    rw [← h]
    have hb := top_bd hr
    have hw := wid_bd hr
    simp only [G_spec_l02Elem, F_spec_l02Width, F_spec_l01In]
    have htop : F_spec_l02Top (k, p, n) = some (topI (k, p, n)) := if_pos hr
    rw [loopT_all l (fun i => ((l, l, natI (lenN l), (i : Int)), k, p, n)) (inTop (topI (k, p, n))) (.inr false) (.inl (l, k, p, n)) ?_ ?_ ?_ ?_ (FUEL_gt (by omega))]
    · cases ha : l.all (inTop (topI (k, p, n)))
      · rw [if_neg (by simp), joinK_r]; simp [elOk, ha]
      · rw [if_pos rfl, joinK_l, bnd_s, eqI_d, nl, hw.1]
        simp only [elOk, ha, Bool.and_true]
        congr 1
        exact decide_eq_decide.2 (by omega)
    · intro i a ha hb
      have hb' : decide (0 ≤ a ∧ a ≤ topI (k, p, n)) = true := hb
      rw [cnd_t (ltI_in ha), getI_nat, ha, bnd_s, htop, bnd_s, bnd_s, hb', cnd_f notB_t, next_i ha (by omega)]
    · intro i a ha hb
      have hb' : decide (0 ≤ a ∧ a ≤ topI (k, p, n)) = false := hb
      rw [cnd_t (ltI_in ha), getI_nat, ha, bnd_s, htop, bnd_s, bnd_s, hb', cnd_t (b := notB false) rfl]
    · rw [cnd_f (ltI_end l)]
    · rfl
  · cases h

theorem f_spec_ElemOk (x : (Int × Int × Int) × List Int) (y : Bool) (h : F_spec_ElemOk x = some y) : G_spec_ElemOk FUEL x = some y := by
  obtain ⟨⟨k, p, n⟩, l⟩ := x
  simp only [F_spec_ElemOk] at h
  split at h
  · rename_i hl
    rw [← h]
    simp only [G_spec_ElemOk, F_spec_RingOk, bnd_s]
    cases hr : ringOk (k, p, n) with
    | false => rfl
    | true =>
      rw [cnd_t rfl, show F_spec_l02Elem ((k, p, n), l) = some (elOk (k, p, n) l) from if_pos ⟨hr, hl⟩, bnd_s]
      simp
  · cases h

theorem rep_set {w : Nat} {p : Int} (h : w = 1) : setL (repL w (0 : Int)) 0 p = [p] := by subst h; rfl

theorem mkW {r : Int × Int × Int} (hr : ringOk r = true) : mkI (widI r) (widI r) 8 = some (widN r) := by
  have hw := wid_bd hr
  rw [hw.1]
  exact mkI_nat (by simp only [maxBytes]; omega)

theorem f_impl_rawZero (x : Int × Int × Int) (y : List Int) (h : F_impl_rawZero x = some y) : G_impl_rawZero FUEL x = some y := by
  obtain ⟨k, p, n⟩ := x
  simp only [F_impl_rawZero] at h
  split at h
  · rename_i hr
    rw [← h]
    simp only [G_impl_rawZero, F_impl_rawWidth, bnd_s]
    rw [mkW hr, bnd_s, cnd_eqI]
    by_cases h4 : k = 4
    · subst h4
      rw [if_pos rfl]
      rfl
    · rw [if_neg h4, lenN_repL, fulI_id, bnd_s, joinK_l, takI_id, bnd_s]
      simp only [zeroE]
      rw [if_neg h4]
  · cases h
theorem f_spec_l02Zero (x : Int × Int × Int) (y : List Int) (h : F_spec_l02Zero x = some y) : G_spec_l02Zero FUEL x = some y := f_impl_rawZero x y h

theorem repGet {w : Nat} (h : 1 ≤ w) : (chkI (0 : Int) w = some 0) ∧ getN (repL w (0 : Int)) (addN 0 0) = some 0 := by
  obtain ⟨w, rfl⟩ : ∃ v, w = v + 1 := ⟨w - 1, by omega⟩
  exact ⟨chkI_nat (i := 0) (by omega), rfl⟩
theorem takI_len {α : Type} {xs : List α} {n : Nat} (h : xs.length = n) : takI xs n = some xs := by subst h; exact takI_id xs

theorem f_impl_rawOne (x : Int × Int × Int) (y : List Int) (h : F_impl_rawOne x = some y) : G_impl_rawOne FUEL x = some y := by
  obtain ⟨k, p, n⟩ := x
  simp only [F_impl_rawOne] at h
  split at h
  · rename_i hr
    rw [← h]
    have hw := wid_bd hr
    obtain ⟨c1, c2⟩ := repGet hw.2.1
    have hlen : ∀ v : Int, (setL (repL (widN (k, p, n)) (0 : Int)) (addN 0 0) v).length = widN (k, p, n) := by intro v; simp [setL, repL]
    simp only [G_impl_rawOne, F_impl_rawWidth, bnd_s]
    rw [mkW hr, bnd_s, show F_impl_rawTop (k, p, n) = some (topI (k, p, n)) from if_pos hr]
    simp only [bnd_s, c1, c2, cnd_eqI, takI_len (hlen _), oneE]
    by_cases h4 : k = 4
    · rw [if_pos h4, if_pos h4]; rfl
    rw [if_neg h4, if_neg h4]
    by_cases h5 : k = 5
    · subst h5; rw [if_pos rfl, if_pos (.inl rfl)]; rfl
    rw [if_neg h5]
    by_cases h6 : k = 6
    · rw [if_pos h6, if_pos (.inr h6)]; rfl
    rw [if_neg h6, if_neg (by omega)]
    rfl
  · cases h
theorem f_spec_l02One (x : Int × Int × Int) (y : List Int) (h : F_spec_l02One x = some y) : G_spec_l02One FUEL x = some y := by
  obtain ⟨k, p, n⟩ := x
  simp only [F_spec_l02One] at h
  split at h
  · rename_i hr
    rw [← h]
    have hw := wid_bd hr
    obtain ⟨c1, c2⟩ := repGet hw.2.1
    have hlen : ∀ v : Int, (setL (repL (widN (k, p, n)) (0 : Int)) (addN 0 0) v).length = widN (k, p, n) := by intro v; simp [setL, repL]
    simp only [G_spec_l02One, F_spec_l02Width, bnd_s]
    rw [mkW hr, bnd_s, lenN_repL, fulI_id, bnd_s, bnd_s, cnd_eqI]
    have hd : (if k = 5 then some (Sum.inl ((true, k), (k, p, n), repL (widN (k, p, n)) (0 : Int))) else some (Sum.inl ((eqI k 6, k), (k, p, n), repL (widN (k, p, n)) 0)) : Option (((Bool × Int) × (Int × Int × Int) × List Int) ⊕ List Int)) =
        some (Sum.inl ((decide (k = 5 ∨ k = 6), k), (k, p, n), repL (widN (k, p, n)) 0)) := by
      by_cases h5 : k = 5
      · simp [h5]
      · simp [h5, eqI_d]
    rw [hd, joinK_l]
    simp only [lenN_repL, cnd_dec, cnd_eqI]
    rw [show F_spec_l02Top (k, p, n) = some (topI (k, p, n)) from if_pos hr]
    simp only [bnd_s, c1, c2, takI_len (hlen _), oneE]
    by_cases h4 : k = 4
    · subst h4; rfl
    rw [if_neg h4]
    by_cases h5 : k = 5 ∨ k = 6
    · rw [if_pos h5, if_pos h5, if_neg h4]; rfl
    rw [if_neg h5, if_neg h5, if_neg h4]
    rfl
  · cases h

/-! ### lists by their places -/

theorem tab_len (w : Nat) (f : Nat → Int) : (tab w f).length = w := by simp [tab]
theorem tab_get {w j : Nat} (f : Nat → Int) (h : j < w) : (tab w f)[j]? = some (f j) := by simp [tab, h]
theorem tab_congr {w : Nat} {f g : Nat → Int} (h : ∀ j, j < w → f j = g j) : tab w f = tab w g := List.map_congr_left fun j hj => h j (List.mem_range.1 hj)
theorem tab_set {w : Nat} (f : Nat → Int) (j : Nat) (v : Int) : (tab w f).set j v = tab w (fun i => if i = j then v else f i) := by
  apply List.ext_getElem?
  intro i
  by_cases hi : i < w
  · rw [tab_get _ hi]
    by_cases hj : j = i
    · subst hj
      rw [List.getElem?_set_self (by rw [tab_len]; exact hi), if_pos rfl]
    · rw [List.getElem?_set_ne hj, tab_get _ hi, if_neg (fun e => hj e.symm)]
  · rw [List.getElem?_eq_none (by rw [List.length_set, tab_len]; omega), List.getElem?_eq_none (by rw [tab_len]; omega)]
theorem fnL_get {x : List Int} {j : Nat} (h : j < x.length) : x[j]? = some (fnL x j) := by
  rw [List.getElem?_eq_getElem h]
  simp [fnL, List.getD_eq_getElem?_getD, List.getElem?_eq_getElem h]
theorem fnL_tab {w j : Nat} (f : Nat → Int) (h : j < w) : fnL (tab w f) j = f j := by simp [fnL, List.getD_eq_getElem?_getD, tab_get f h]
theorem tab_fnL {x : List Int} {w : Nat} (h : x.length = w) : tab w (fnL x) = x := by
  subst h
  apply List.ext_getElem?
  intro i
  by_cases hi : i < x.length
  · rw [tab_get _ hi, fnL_get hi]
  · rw [List.getElem?_eq_none (by rw [tab_len]; omega), List.getElem?_eq_none (by omega)]
theorem tab_rep (w : Nat) (c : Int) : repL w c = tab w fun _ => c := by
  apply List.ext_getElem?
  intro i
  by_cases hi : i < w
  · rw [tab_get _ hi]; simp [repL, hi]
  · rw [List.getElem?_eq_none (by simp [repL]; omega), List.getElem?_eq_none (by rw [tab_len]; omega)]
theorem lenN_tab (w : Nat) (f : Nat → Int) : lenN (tab w f) = w := tab_len w f
theorem chk_tab {w j : Nat} (f : Nat → Int) (h : j < w) : chkI (j : Int) (lenN (tab w f)) = some j := by rw [lenN_tab]; exact chkI_nat h
theorem getN_tab {w j : Nat} (f : Nat → Int) (h : j < w) : getN (tab w f) (addN 0 j) = some (f j) := by rw [addN_0]; exact tab_get f h
theorem setL_tab {w : Nat} (f : Nat → Int) (j : Nat) (v : Int) : setL (tab w f) (addN 0 j) v = tab w (fun i => if i = j then v else f i) := by rw [addN_0]; exact tab_set f j v
theorem getI_fn {x : List Int} {j : Nat} (h : j < x.length) : getI x (j : Int) = some (fnL x j) := by rw [getI_nat]; exact fnL_get h
/-- A list that is written from its begin. -/
def upTo (f g : Nat → Int) (i : Nat) : Nat → Int := fun j => if j < i then f j else g j
theorem upTo_0 (w : Nat) (f g : Nat → Int) : tab w (upTo f g 0) = tab w g := tab_congr fun j _ => if_neg (by omega)
theorem upTo_end (w : Nat) (f g : Nat → Int) : tab w (upTo f g w) = tab w f := tab_congr fun j h => if_pos h
theorem upTo_next (w : Nat) (f g : Nat → Int) (i : Nat) : setL (tab w (upTo f g i)) (addN 0 i) (f i) = tab w (upTo f g (i + 1)) := by
  rw [setL_tab]
  refine tab_congr fun j _ => ?_
  simp only [upTo]
  by_cases h : j = i
  · subst h; rw [if_pos rfl, if_pos (by omega)]
  · rw [if_neg h]
    by_cases h2 : j < i
    · rw [if_pos h2, if_pos (by omega)]
    · rw [if_neg h2, if_neg (by omega)]
theorem upTo_at (f g : Nat → Int) (i : Nat) : upTo f g i i = g i := if_neg (by omega)

/-! ### elements -/

theorem el_len {r : Int × Int × Int} {x : List Int} (h : elOk r x = true) : x.length = widN r := by
  simp only [elOk, Bool.and_eq_true, decide_eq_true_eq] at h; exact h.1
theorem el_at {r : Int × Int × Int} {x : List Int} (h : elOk r x = true) {j : Nat} (hj : j < widN r) : 0 ≤ fnL x j ∧ fnL x j ≤ topI r := by
  simp only [elOk, Bool.and_eq_true, decide_eq_true_eq] at h
  have := List.all_eq_true.1 h.2 (fnL x j) (List.mem_of_getElem? (fnL_get (by rw [h.1]; exact hj)))
  simpa [inTop] using this
theorem el_mk {r : Int × Int × Int} {f : Nat → Int} (h : ∀ j, j < widN r → 0 ≤ f j ∧ f j ≤ topI r) : elOk r (tab (widN r) f) = true := by
  simp only [elOk, Bool.and_eq_true, decide_eq_true_eq, tab_len, true_and, List.all_eq_true]
  intro v hv
  obtain ⟨j, hj, rfl⟩ := List.mem_map.1 hv
  simpa [inTop] using h j (List.mem_range.1 hj)
theorem el_one {r : Int × Int × Int} {x : List Int} (h : elOk r x = true) (hw : widN r = 1) : x = [fnL x 0] ∧ 0 ≤ fnL x 0 ∧ fnL x 0 ≤ topI r := by
  have hl := el_len h
  rw [hw] at hl
  match x, hl with
  | [a], _ => exact ⟨rfl, el_at h (j := 0) (by omega)⟩
theorem remI_pos {a p : Int} (ha : 0 ≤ a) (hp : 0 < p) : remI a p = some (a % p) := by
  obtain ⟨m, rfl⟩ := natI_eq (z := p) (by omega)
  exact remI_nat ha (by omega)

theorem max_or {a b : Int} (ha : 0 ≤ a ∧ a ≤ 1) (hb : 0 ≤ b ∧ b ≤ 1) : maxI a b = ((a.toNat ||| b.toNat : Nat) : Int) := by
  have h1 : a = 0 ∨ a = 1 := by omega
  have h2 : b = 0 ∨ b = 1 := by omega
  rcases h1 with rfl | rfl <;> rcases h2 with rfl | rfl <;> rfl
theorem min_and {a b : Int} (ha : 0 ≤ a ∧ a ≤ 1) (hb : 0 ≤ b ∧ b ≤ 1) : minI a b = ((a.toNat &&& b.toNat : Nat) : Int) := by
  have h1 : a = 0 ∨ a = 1 := by omega
  have h2 : b = 0 ∨ b = 1 := by omega
  rcases h1 with rfl | rfl <;> rcases h2 with rfl | rfl <;> rfl
theorem orI_tn {a b : Int} (ha : 0 ≤ a ∧ a ≤ 1048576) (hb : 0 ≤ b ∧ b ≤ 1048576) : orI .i64 a b = ((a.toNat ||| b.toNat : Nat) : Int) := by
  obtain ⟨m, rfl⟩ := natI_eq ha.1
  obtain ⟨n, rfl⟩ := natI_eq hb.1
  exact orI_nat (by omega) (by omega)
theorem andI_tn {a b : Int} (ha : 0 ≤ a ∧ a ≤ 1048576) (hb : 0 ≤ b ∧ b ≤ 1048576) : andI .i64 a b = ((a.toNat &&& b.toNat : Nat) : Int) := by
  obtain ⟨m, rfl⟩ := natI_eq ha.1
  obtain ⟨n, rfl⟩ := natI_eq hb.1
  exact andI_nat (by omega) (by omega)

theorem addE_1 {r : Int × Int × Int} {a b : Int} (hw : widN r = 1) : addE r [a] [b] = [opA r a b] := by simp only [addE, hw]; rfl


theorem f_impl_addInto (x : (Int × Int × Int) × List Int × List Int) (z : List Int) (h : F_impl_addInto x = some z) : G_impl_addInto FUEL x = some z := by
  obtain ⟨⟨k, p, n⟩, x, y⟩ := x
  simp only [F_impl_addInto] at h
  split at h
  · rename_i hc
    obtain ⟨hr, hx, hy⟩ := hc
    rw [← h]
    have hT := top_bd hr
    have loop : ∀ k, (k = 2 ∨ k = 7 ∨ k = 8) → isPrimeI p = true → ringOk (k, p, n) = true → elOk (k, p, n) x = true → elOk (k, p, n) y = true →
        G_impl_addInto FUEL ((k, p, n), x, y) = some (addE (k, p, n) x y) := by
      intro k hk hp hr hx hy
      have hm := isPrimeI_t hp
      have hlx := el_len hx
      have hly := el_len hy
      have hw := wid_bd hr
      have hop : ∀ a b, opA (k, p, n) a b = (a + b) % p := by
        intro a b
        simp only [opA]
        rw [if_neg (by omega), if_neg (by omega), if_neg (by omega), if_neg (by omega)]
      have htop : topI (k, p, n) = p - 1 := by
        simp only [topI]
        rw [if_neg (by omega), if_neg (by omega), if_neg (by omega)]
      simp only [G_impl_addInto, cnd_eqI]
      rw [if_neg (by omega), fulI_id, bnd_s, eqI_f (a := k) (b := 5) (by omega), joinK_l]
      simp only
      rw [cnd_f rfl, if_neg (by omega), if_neg (by omega), if_neg (by omega), fulI_id, bnd_s]
      rw [loopT_seq (fun i => ((y, natI (lenN x), (i : Int)), tab (widN (k, p, n)) (upTo (fun j => opA (k, p, n) (fnL x j) (fnL y j)) (fnL x) i), k, p, n)) (widN (k, p, n)) ?a1 ?a2 ?a3 (FUEL_gt (by omega))]
      case a3 => rw [upTo_0, tab_fnL hlx]; rfl
      case a2 =>
        simp only
        rw [cnd_f (ltI_f (by rw [nl, hlx]; omega)), upTo_end]
        rw [samI_ok (by rw [lenN_tab]; exact hlx.symm), bnd_s, bnd_s]
        rfl
      case a1 =>
        intro i hi
        have b1 := el_at hx hi
        have b2 := el_at hy hi
        simp only
        rw [cnd_t (ltI_t (by rw [nl, hlx]; omega)), chk_tab _ hi, bnd_s, getN_tab _ hi, bnd_s, getI_fn (by omega), bnd_s, upTo_at, addI_eq (by omega) (by omega), remI_pos (by omega) (by omega), bnd_s, bnd_s, getN_tab _ hi, bnd_s]
        rw [← hop, upTo_next, lenN_tab, lenN_tab, fulI_id, bnd_s, addI_eq (by omega) (by omega)]
        rfl
    rcases ring_cases hr with ⟨rfl, rfl, rfl⟩ | ⟨rfl, hp, rfl⟩ | ⟨rfl, hp, rfl⟩ | ⟨rfl, hp, rfl⟩ | ⟨rfl, hp, rfl⟩ | ⟨rfl, rfl, hn⟩ | ⟨rfl, hp, hn⟩ | ⟨rfl, hp, hp2, rfl⟩
    · obtain ⟨e1, b1⟩ := el_one hx rfl
      obtain ⟨e2, b2⟩ := el_one hy rfl
      generalize fnL x 0 = a at e1 b1
      generalize fnL y 0 = b at e2 b2
      subst e1 e2
      rw [addE_1 rfl]
      show some [maxI a b] = some [_]
      rw [max_or b1 b2]
      rfl
    · exact loop 2 (.inl rfl) hp hr hx hy
    · obtain ⟨e1, b1⟩ := el_one hx rfl
      obtain ⟨e2, b2⟩ := el_one hy rfl
      generalize fnL x 0 = a at e1 b1
      generalize fnL y 0 = b at e2 b2
      subst e1 e2
      rw [addE_1 rfl]
      show some [minI (addI .i64 a b) p] = some [min (a + b) p]
      rw [addI_eq (by omega) (by omega), minI_eq']
    · obtain ⟨e1, b1⟩ := el_one hx rfl
      obtain ⟨e2, b2⟩ := el_one hy rfl
      generalize fnL x 0 = a at e1 b1
      generalize fnL y 0 = b at e2 b2
      subst e1 e2
      rw [addE_1 rfl]
      show some [minI a b] = some [min a b]
      rw [minI_eq']
    · obtain ⟨e1, b1⟩ := el_one hx rfl
      obtain ⟨e2, b2⟩ := el_one hy rfl
      generalize fnL x 0 = a at e1 b1
      generalize fnL y 0 = b at e2 b2
      subst e1 e2
      rw [addE_1 rfl]
      show some [maxI a b] = some [max a b]
      rw [maxI_eq']
    · obtain ⟨e1, b1⟩ := el_one hx rfl
      obtain ⟨e2, b2⟩ := el_one hy rfl
      generalize fnL x 0 = a at e1 b1
      generalize fnL y 0 = b at e2 b2
      subst e1 e2
      rw [addE_1 rfl]
      show some [orI .i64 a b] = some [_]
      rw [orI_tn (by omega) (by omega)]
      rfl
    · exact loop 7 (.inr (.inl rfl)) hp hr hx hy
    · exact loop 8 (.inr (.inr rfl)) hp hr hx hy
  · cases h

theorem f_spec_l02Add (x : (Int × Int × Int) × List Int × List Int) (z : List Int) (h : F_spec_l02Add x = some z) : G_spec_l02Add FUEL x = some z := by
  obtain ⟨⟨k, p, n⟩, x, y⟩ := x
  simp only [F_spec_l02Add] at h
  split at h
  · rename_i hc
    obtain ⟨hr, hx, hy⟩ := hc
    rw [← h]
    have hT := top_bd hr
    have hw := wid_bd hr
    have hlx := el_len hx
    have hly := el_len hy
    simp only [G_spec_l02Add]
    rw [mkI_nat (n := lenN x) (by unfold lenN; rw [hlx]; simp only [maxBytes]; omega), bnd_s, lenN_repL, fulI_id, bnd_s]
    rw [show lenN x = widN (k, p, n) from hlx]
    rw [loopT_seq (fun i => ((x, y, natI (widN (k, p, n)), (i : Int)), (k, p, n), tab (widN (k, p, n)) (upTo (fun j => opA (k, p, n) (fnL x j) (fnL y j)) (fun _ => 0) i))) (r := Sum.inl (addE (k, p, n) x y)) (widN (k, p, n)) ?a1 ?a2 ?a3 (FUEL_gt (by omega))]
    · rw [joinK_l, takI_id, bnd_s]
    case a3 => rw [upTo_0, tab_rep]; rfl
    case a2 =>
      simp only
      rw [cnd_f (ltI_f (show natI (widN (k, p, n)) ≤ ((widN (k, p, n) : Nat) : Int) from Int.le_refl _)), upTo_end, fulI_id, bnd_s, bnd_s]
      rfl
    case a1 =>
      intro i hi
      have b1 := el_at hx hi
      have b2 := el_at hy hi
      have fin : ∀ v, v = opA (k, p, n) (fnL x i) (fnL y i) → (some (Sum.inl ((x, y, natI (widN (k, p, n)), addI .i64 (i : Int) 1), (k, p, n), setL (tab (widN (k, p, n)) (upTo (fun j => opA (k, p, n) (fnL x j) (fnL y j)) (fun _ => 0) i)) (addN 0 i) v)) :
          Option (((List Int × List Int × Int × Int) × (Int × Int × Int) × List Int) ⊕ (List Int ⊕ List Int))) = some (Sum.inl ((x, y, natI (widN (k, p, n)), ((i + 1 : Nat) : Int)), (k, p, n), tab (widN (k, p, n)) (upTo (fun j => opA (k, p, n) (fnL x j) (fnL y j)) (fun _ => 0) (i + 1)))) := by
        rintro v rfl
        rw [upTo_next (f := fun j => opA (k, p, n) (fnL x j) (fnL y j)), addI_eq (by omega) (by omega)]
        rfl
      have gx : getI x (i : Int) = some (fnL x i) := getI_fn (by omega)
      have gy : getI y (i : Int) = some (fnL y i) := getI_fn (by omega)
      generalize hf : upTo (fun j => opA (k, p, n) (fnL x j) (fnL y j)) (fun _ => 0) i = f at fin
      have hck : chkI (i : Int) (lenN (tab (widN (k, p, n)) f)) = some i := chk_tab _ hi
      have hgn : getN (tab (widN (k, p, n)) f) (addN 0 i) = some (f i) := getN_tab _ hi
      simp only [hf]
      rw [cnd_t (ltI_t (show (i : Int) < natI (widN (k, p, n)) by simp only [natI]; omega))]
      rcases ring_cases hr with ⟨rfl, rfl, rfl⟩ | ⟨rfl, hp, rfl⟩ | ⟨rfl, hp, rfl⟩ | ⟨rfl, hp, rfl⟩ | ⟨rfl, hp, rfl⟩ | ⟨rfl, rfl, hn⟩ | ⟨rfl, hp, hn⟩ | ⟨rfl, hp, hp2, rfl⟩ <;>
        simp only [eqI_d, Int.reduceEq, decide_true, decide_false, cnd_true, cnd_false, fulI_id, bnd_s, joinK_l, gx, gy, hck, hgn, lenN_setL]
      · exact fin _ (by rw [orI_tn (by omega) (by omega)]; rfl)
      · have := isPrimeI_t hp
        have ht : topI (2, p, 0) = p - 1 := rfl
        rw [addI_eq (by omega) (by omega), remI_pos (by omega) (by omega)]
        simp only [bnd_s, hck, hgn, lenN_setL, fulI_id]
        exact fin _ rfl
      · exact fin _ (by rw [addI_eq (by omega) (by omega), minI_eq']; rfl)
      · exact fin _ (by rw [minI_eq']; rfl)
      · exact fin _ (by rw [maxI_eq']; rfl)
      · exact fin _ (by rw [orI_tn (by omega) (by omega)]; rfl)
      · have := isPrimeI_t hp
        have ht : topI (7, p, n) = p - 1 := rfl
        rw [addI_eq (by omega) (by omega), remI_pos (by omega) (by omega)]
        simp only [bnd_s, hck, hgn, lenN_setL, fulI_id]
        exact fin _ rfl
      · have := isPrimeI_t hp
        have ht : topI (8, p, 0) = p - 1 := rfl
        rw [addI_eq (by omega) (by omega), remI_pos (by omega) (by omega)]
        simp only [bnd_s, hck, hgn, lenN_setL, fulI_id]
        exact fin _ rfl
  · cases h

/-! ### products of coefficients -/

theorem sm_congr {f g : Nat → Int} : ∀ {n : Nat}, (∀ i, i < n → f i = g i) → sm n f = sm n g
  | 0, _ => rfl
  | n + 1, h => by simp only [sm]; rw [sm_congr (n := n) (fun i hi => h i (by omega)), h n (by omega)]

/-- The sum over the pairs that came before. -/
def smT (om : Bool) (w : Nat) (x y : Nat → Int) (i j t : Nat) : Int := sm i (fun a => sm w (fun b => kW om x y t a b)) + sm j (fun b => kW om x y t i b)
def cvT (p : Int) (om : Bool) (w : Nat) (x y : Nat → Int) (i j : Nat) : List Int := tab w fun t => smT om w x y i j t % p

theorem cvT_row (p : Int) (om : Bool) (w : Nat) (x y : Nat → Int) (i : Nat) : cvT p om w x y i w = cvT p om w x y (i + 1) 0 := by
  unfold cvT
  refine tab_congr fun t _ => ?_
  simp only [smT, sm, Int.add_zero]
theorem cvT_0 (p : Int) (om : Bool) (w : Nat) (x y : Nat → Int) : cvT p om w x y 0 0 = repL w 0 := by
  rw [tab_rep]
  unfold cvT
  exact tab_congr fun t _ => by simp [smT, sm]
theorem cvT_end (p : Int) (om : Bool) (w : Nat) (x y : Nat → Int) : cvT p om w x y w 0 = cvE p om w x y := by
  unfold cvT cvE
  refine tab_congr fun t _ => ?_
  simp only [smT, sm, Int.add_zero]

theorem emod_addR (a b p : Int) : (a % p + b) % p = (a + b) % p := by rw [Int.emod_add_emod]

/-- One step: the place of a pair gets its product. -/
theorem cvT_step {p : Int} {om : Bool} {w : Nat} {x y : Nat → Int} {i j t0 : Nat} (v : Int) (hp : 0 < p) (ht : i + j = t0 ∨ om = true ∧ i + j = t0 + 4) (hw : om = true → w = 4) (hi : i < w) (hj : j < w) (h0 : t0 < w) (hv : v = (smT om w x y i j t0 + kW om x y t0 i j) % p) :
    setL (cvT p om w x y i j) (addN 0 t0) v = cvT p om w x y i (j + 1) := by
  unfold cvT
  rw [setL_tab]
  refine tab_congr fun t hlt => ?_
  by_cases e : t = t0
  · rw [if_pos e, hv, e]
    congr 1
    simp only [smT, sm]
    omega
  · rw [if_neg e]
    have hk : kW om x y t i j = 0 := by
      unfold kW
      have h3 : i + j ≠ t := by
        rcases ht with h | ⟨h1, h⟩
        · omega
        · have := hw h1; omega
      rw [if_neg h3, if_neg (fun hc => by have := hw hc.1; omega)]
    have e2 : smT om w x y i (j + 1) t = smT om w x y i j t := by
      simp only [smT, sm, hk]; omega
    rw [e2]
theorem cvT_skip {p : Int} {om : Bool} {w : Nat} {x y : Nat → Int} {i j : Nat} (h1 : w ≤ i + j) (h2 : om = false) : cvT p om w x y i j = cvT p om w x y i (j + 1) := by
  unfold cvT
  refine tab_congr fun t hlt => ?_
  have hk : kW om x y t i j = 0 := by
    unfold kW
    rw [if_neg (by omega), if_neg (by simp [h2])]
  have e2 : smT om w x y i (j + 1) t = smT om w x y i j t := by
    simp only [smT, sm, hk]; omega
  rw [e2]

theorem mulI_sm {a b : Int} (ha : 0 ≤ a ∧ a ≤ 1048576) (hb : 0 ≤ b ∧ b ≤ 1048576) : mulI .i64 a b = a * b ∧ 0 ≤ a * b ∧ a * b ≤ 1099511627776 := by
  have h0 : 0 ≤ a * b := Int.mul_nonneg ha.1 hb.1
  have h1 : a * b ≤ 1048576 * 1048576 := Int.mul_le_mul ha.2 hb.2 hb.1 (by decide)
  exact ⟨mulI_eq (by omega) (by omega), h0, by omega⟩

theorem cvT_get {p : Int} {om : Bool} {w : Nat} {x y : Nat → Int} {i j t : Nat} (h : t < w) : chkI (t : Int) (lenN (cvT p om w x y i j)) = some t ∧ getN (cvT p om w x y i j) (addN 0 t) = some (smT om w x y i j t % p) := ⟨chk_tab _ h, getN_tab _ h⟩

/-- What is asked of a ring of coefficients. -/
structure CfR (k p : Int) (w : Nat) : Prop where
  ck : k = 7 ∨ k = 8
  cp : 2 ≤ p ∧ p ≤ 1000003
  cw : 1 ≤ w ∧ w ≤ 6
  w8 : k = 8 → w = 4

theorem cf_of {k p n : Int} (h : ringOk (k, p, n) = true) (hk : k = 7 ∨ k = 8) : CfR k p (widN (k, p, n)) := by
  have hw := wid_bd h
  refine ⟨hk, ?_, hw.2, fun e => by subst e; rfl⟩
  rcases ring_cases h with ⟨rfl, rfl, rfl⟩ | ⟨rfl, hp, rfl⟩ | ⟨rfl, hp, rfl⟩ | ⟨rfl, hp, rfl⟩ | ⟨rfl, hp, rfl⟩ | ⟨rfl, rfl, hn⟩ | ⟨rfl, hp, hn⟩ | ⟨rfl, hp, hp2, rfl⟩
  all_goals first | exact isPrimeI_t hp | (exfalso; omega)

/-- A product's step where the sum stays in its place. -/
theorem cv_lo {k p a b : Int} {w i j : Nat} {x y : Nat → Int} (c : CfR k p w) (ha : 0 ≤ a ∧ a ≤ p) (hb : 0 ≤ b ∧ b ≤ p) (hxa : x i = a) (hyb : y j = b) (hi : i < w) (hj : j < w) (hlt : i + j < w) :
    ∃ v, remI (addI .i64 (smT (decide (k = 8)) w x y i j (i + j) % p) (mulI .i64 a b)) p = some v ∧ (∀ q, remI (mulI .i64 a b) p = some q → remI (addI .i64 (smT (decide (k = 8)) w x y i j (i + j) % p) q) p = some v) ∧
      setL (cvT p (decide (k = 8)) w x y i j) (addN 0 (i + j)) v = cvT p (decide (k = 8)) w x y i (j + 1) := by
  obtain ⟨hp0, hp1⟩ := c.cp
  obtain ⟨m1, m2, m3⟩ := mulI_sm (a := a) (b := b) (by omega) (by omega)
  have s0 := Int.emod_nonneg (smT (decide (k = 8)) w x y i j (i + j)) (b := p) (by omega)
  have s1 := Int.emod_lt_of_pos (smT (decide (k = 8)) w x y i j (i + j)) (b := p) (by omega)
  have hk : kW (decide (k = 8)) x y (i + j) i j = a * b := by unfold kW; rw [if_pos rfl, hxa, hyb]
  refine ⟨(smT (decide (k = 8)) w x y i j (i + j) % p + a * b) % p, ?_, fun q hq => ?_, cvT_step _ (by omega) (.inl rfl) (fun hc => c.w8 (of_decide_eq_true hc)) hi hj hlt (by rw [hk, emod_addR])⟩
  · rw [m1, addI_eq (by omega) (by omega), remI_pos (by omega) (by omega)]
  · rw [m1, remI_pos (by omega) (by omega)] at hq
    injection hq with hq
    have q0 := Int.emod_nonneg (a * b) (b := p) (by omega)
    have q1 := Int.emod_lt_of_pos (a * b) (b := p) (by omega)
    rw [← hq, addI_eq (by omega) (by omega), remI_pos (by omega) (by omega), Int.add_emod_emod]

/-- A product's step where the sum wraps around. -/
theorem cv_hi {p a b : Int} {i j : Nat} {x y : Nat → Int} (hp : 2 ≤ p ∧ p ≤ 1000003) (ha : 0 ≤ a ∧ a ≤ p) (hb : 0 ≤ b ∧ b ≤ p) (hxa : x i = a) (hyb : y j = b) (hi : i < 4) (hj : j < 4) (hlt : 4 ≤ i + j) :
    ∃ v, remI (addI .i64 (smT true 4 x y i j (i + j - 4) % p) (mulI .i64 (subI .i64 p a) b)) p = some v ∧ (∀ q, remI (mulI .i64 a b) p = some q → remI (subI .i64 (addI .i64 (smT true 4 x y i j (i + j - 4) % p) p) q) p = some v) ∧
      setL (cvT p true 4 x y i j) (addN 0 (i + j - 4)) v = cvT p true 4 x y i (j + 1) := by
  obtain ⟨hp0, hp1⟩ := hp
  have hs : subI .i64 p a = p - a := subI_eq (by omega) (by omega)
  obtain ⟨m1, m2, m3⟩ := mulI_sm (a := a) (b := b) (by omega) (by omega)
  obtain ⟨n1, n2, n3⟩ := mulI_sm (a := p - a) (b := b) (by omega) (by omega)
  have s0 := Int.emod_nonneg (smT true 4 x y i j (i + j - 4)) (b := p) (by omega)
  have s1 := Int.emod_lt_of_pos (smT true 4 x y i j (i + j - 4)) (b := p) (by omega)
  have hk : kW true x y (i + j - 4) i j = -(a * b) := by unfold kW; rw [if_neg (by omega), if_pos ⟨rfl, by omega⟩, hxa, hyb]
  have key : (smT true 4 x y i j (i + j - 4) % p + (p - a) * b) % p = (smT true 4 x y i j (i + j - 4) + -(a * b)) % p := by
    rw [emod_addR]
    rw [show smT true 4 x y i j (i + j - 4) + (p - a) * b = smT true 4 x y i j (i + j - 4) + -(a * b) + p * b by rw [Int.sub_mul]; omega, Int.add_mul_emod_self_left]
  refine ⟨(smT true 4 x y i j (i + j - 4) % p + (p - a) * b) % p, ?_, fun q hq => ?_, cvT_step _ (by omega) (.inr ⟨rfl, by omega⟩) (fun _ => rfl) hi hj (by omega) (by rw [hk, key])⟩
  · rw [hs, n1, addI_eq (by omega) (by omega), remI_pos (by omega) (by omega)]
  · rw [m1, remI_pos (by omega) (by omega)] at hq
    injection hq with hq
    have q0 := Int.emod_nonneg (a * b) (b := p) (by omega)
    have q1 := Int.emod_lt_of_pos (a * b) (b := p) (by omega)
    rw [← hq, addI_eq (by omega) (by omega), subI_eq (by omega) (by omega), remI_pos (by omega) (by omega), key]
    congr 1
    rw [show smT true 4 x y i j (i + j - 4) % p + p - a * b % p = smT true 4 x y i j (i + j - 4) % p - a * b % p + p by omega, Int.add_emod_right, ← Int.sub_eq_add_neg, Int.sub_emod_emod, Int.emod_sub_emod]

theorem f_impl_mulCoefficients (x : (Int × Int × Int) × List Int × List Int × List Int) (z : List Int) (h : F_impl_mulCoefficients x = some z) : G_impl_mulCoefficients FUEL x = some z := by
  obtain ⟨⟨k, p, n⟩, l, x, y⟩ := x
  simp only [F_impl_mulCoefficients] at h
  split at h
  · rename_i hc
    obtain ⟨⟨hr, hk⟩, hl, hx, hy⟩ := hc
    rw [← h]
    have c := cf_of hr hk
    have hlx := el_len hx
    have hly := el_len hy
    have htop : topI (k, p, n) = p - 1 := by
      simp only [topI]
      rw [if_neg (by omega), if_neg (by omega), if_neg (by omega)]
    have bx := fun j (hj : j < widN (k, p, n)) => el_at hx hj
    have by_ := fun j (hj : j < widN (k, p, n)) => el_at hy hj
    rw [htop] at bx by_
    obtain ⟨hp0, hp1⟩ := c.cp
    obtain ⟨hw0, hw1⟩ := c.cw
    have hmul : mulE (k, p, n) x y = cvE p (decide (k = 8)) (widN (k, p, n)) (fnL x) (fnL y) := by
      simp only [mulE]; rw [if_pos hk]
    rw [hmul]
    simp only [G_impl_mulCoefficients]
    have h0 : cpyL l 0 (lenN l) (repL (lenN l) (0 : Int)) = some (repL (widN (k, p, n)) 0) := by
      unfold cpyL
      rw [if_pos (by simp [lenN])]
      simp [repL, lenN, hl]
    rw [h0, bnd_s, show lenN l = widN (k, p, n) from hl, lenN_repL, fulI_id, bnd_s]
    generalize widN (k, p, n) = w at *
    rw [loopT_seq (fun i => ((x, y, natI (lenN x), (i : Int)), cvT p (decide (k = 8)) w (fnL x) (fnL y) i 0, k, p, n)) w ?a1 ?a2 ?a3 (FUEL_gt (by omega))]
    case a3 => rw [cvT_0]; rfl
    case a2 =>
      simp only
      rw [cnd_f (ltI_f (by rw [nl, hlx]; omega)), cvT_end, samI_ok (by unfold cvE; rw [lenN_tab]), bnd_s, bnd_s]
    case a1 =>
      intro i hi
      simp only
      rw [cnd_t (ltI_t (by rw [nl, hlx]; omega)), fulI_id, bnd_s]
      rw [loopT_seq (fun j => ((x, y, (i : Int), natI (lenN x), (i : Int), natI (lenN y), (j : Int)), cvT p (decide (k = 8)) w (fnL x) (fnL y) i j, k, p, n)) (r := Sum.inl (((i : Int), x, y, natI (lenN x)), cvT p (decide (k = 8)) w (fnL x) (fnL y) i w, k, p, n)) w ?b1 ?b2 ?b3 (FUEL_gt (by omega))]
      · rw [joinK_l]
        simp only
        rw [fulI_id, bnd_s, cvT_row, addI_eq (by omega) (by omega)]
        rfl
      case b3 => rfl
      case b2 =>
        simp only
        rw [cnd_f (ltI_f (by rw [nl, hly]; omega)), fulI_id, bnd_s, bnd_s]
      case b1 =>
        intro j hj
        have b1 := bx i hi
        have b2 := by_ j hj
        simp only
        rw [cnd_t (ltI_t (by rw [nl, hly]; omega)), getI_fn (by omega), bnd_s, getI_fn (by omega), bnd_s]
        obtain ⟨m1, m2, m3⟩ := mulI_sm (a := fnL x i) (b := fnL y j) (by omega) (by omega)
        obtain ⟨q, hq⟩ : ∃ q, remI (mulI .i64 (fnL x i) (fnL y j)) p = some q := ⟨_, by rw [m1, remI_pos (by omega) (by omega)]⟩
        rw [hq, bnd_s, addI_eq (a := (i : Int)) (by omega) (by omega), addI_eq (a := (j : Int)) (by omega) (by omega)]
        rw [show (i : Int) + (j : Int) = ((i + j : Nat) : Int) by omega, show (j : Int) + 1 = ((j + 1 : Nat) : Int) by omega]
        rw [show lenN (cvT p (decide (k = 8)) w (fnL x) (fnL y) i j) = w from lenN_tab _ _]
        by_cases hlt : i + j < w
        · obtain ⟨v, v1, v2, v3⟩ := cv_lo c (a := fnL x i) (b := fnL y j) (by omega) (by omega) rfl rfl hi hj hlt
          obtain ⟨g1, g2⟩ := cvT_get (p := p) (om := decide (k = 8)) (x := fnL x) (y := fnL y) (i := i) (j := j) hlt
          rw [show lenN (cvT p (decide (k = 8)) w (fnL x) (fnL y) i j) = w from lenN_tab _ _] at g1
          rw [cnd_t (ltI_t (by simp only [natI]; omega)), g1, bnd_s, g2, bnd_s, v2 q hq, bnd_s, bnd_s, g2, bnd_s, v3, show lenN (cvT p (decide (k = 8)) w (fnL x) (fnL y) i (j + 1)) = w from lenN_tab _ _, fulI_id, bnd_s]
        · rw [cnd_f (ltI_f (by simp only [natI]; omega)), cnd_eqI]
          by_cases h8 : k = 8
          · obtain rfl := c.w8 h8
            subst h8
            obtain ⟨v, v1, v2, v3⟩ := cv_hi (p := p) (a := fnL x i) (b := fnL y j) ⟨hp0, hp1⟩ (by omega) (by omega) rfl rfl hi hj (by omega)
            obtain ⟨g1, g2⟩ := cvT_get (p := p) (om := true) (w := 4) (x := fnL x) (y := fnL y) (i := i) (j := j) (t := i + j - 4) (by omega)
            rw [show lenN (cvT p true 4 (fnL x) (fnL y) i j) = 4 from lenN_tab _ _] at g1
            rw [if_pos rfl, subI_eq (a := ((i + j : Nat) : Int)) (by omega) (by omega), show ((i + j : Nat) : Int) - 4 = ((i + j - 4 : Nat) : Int) by omega]
            simp only [decide_true]
            rw [g1, bnd_s, g2, bnd_s, v2 q hq, bnd_s, bnd_s, g2, bnd_s, v3, show lenN (cvT p true 4 (fnL x) (fnL y) i (j + 1)) = 4 from lenN_tab _ _, fulI_id, bnd_s]
          · rw [if_neg h8, fulI_id, bnd_s, cvT_skip (by omega) (decide_eq_false h8)]
  · cases h

theorem mulE_1 {r : Int × Int × Int} {a b : Int} (h : ¬ (r.1 = 7 ∨ r.1 = 8)) : mulE r [a] [b] = [opM r a b] := by simp only [mulE]; rw [if_neg h]; rfl

theorem len1 {l : List Int} (h : l.length = 1) : ∃ t, l = [t] := by
  match l, h with
  | [t], _ => exact ⟨t, rfl⟩

theorem el_two {r : Int × Int × Int} {x y : List Int} (hx : elOk r x = true) (hy : elOk r y = true) (hw : widN r = 1) : ∃ a b, x = [a] ∧ y = [b] ∧ (0 ≤ a ∧ a ≤ topI r) ∧ 0 ≤ b ∧ b ≤ topI r :=
  ⟨_, _, (el_one hx hw).1, (el_one hy hw).1, (el_one hx hw).2, (el_one hy hw).2⟩

theorem f_impl_mulInto (x : (Int × Int × Int) × List Int × List Int × List Int) (z : List Int) (h : F_impl_mulInto x = some z) : G_impl_mulInto FUEL x = some z := by
  obtain ⟨⟨k, p, n⟩, l, x, y⟩ := x
  simp only [F_impl_mulInto] at h
  split at h
  · rename_i hc
    obtain ⟨hr, hl, hx, hy⟩ := hc
    rw [← h]
    have hT := top_bd hr
    rcases ring_cases hr with ⟨rfl, rfl, rfl⟩ | ⟨rfl, hp, rfl⟩ | ⟨rfl, hp, rfl⟩ | ⟨rfl, hp, rfl⟩ | ⟨rfl, hp, rfl⟩ | ⟨rfl, rfl, hn⟩ | ⟨rfl, hp, hn⟩ | ⟨rfl, hp, hp2, rfl⟩
    · obtain ⟨a, b, rfl, rfl, b1, b2⟩ := el_two hx hy rfl
      obtain ⟨t, rfl⟩ := len1 (l := l) hl
      rw [mulE_1 (by simp)]
      show some [minI a b] = some [_]
      rw [min_and b1 b2]; rfl
    · obtain ⟨a, b, rfl, rfl, b1, b2⟩ := el_two hx hy rfl
      obtain ⟨t, rfl⟩ := len1 (l := l) hl
      rw [mulE_1 (by simp)]
      have := isPrimeI_t hp
      have ht : topI (2, p, 0) = p - 1 := rfl
      obtain ⟨m1, m2, m3⟩ := mulI_sm (a := a) (b := b) (by omega) (by omega)
      show (remI (mulI .i64 a b) p).bnd (fun q => some [q]) = some [_]
      rw [m1, remI_pos (by omega) (by omega)]; rfl
    · obtain ⟨a, b, rfl, rfl, b1, b2⟩ := el_two hx hy rfl
      obtain ⟨t, rfl⟩ := len1 (l := l) hl
      rw [mulE_1 (by simp)]
      obtain ⟨m1, m2, m3⟩ := mulI_sm (a := a) (b := b) (by omega) (by omega)
      show some [minI (mulI .i64 a b) p] = some [_]
      rw [m1, minI_eq']; rfl
    · obtain ⟨a, b, rfl, rfl, b1, b2⟩ := el_two hx hy rfl
      obtain ⟨t, rfl⟩ := len1 (l := l) hl
      rw [mulE_1 (by simp)]
      show some [minI (addI .i64 a b) p] = some [_]
      rw [addI_eq (by omega) (by omega), minI_eq']; rfl
    · obtain ⟨a, b, rfl, rfl, b1, b2⟩ := el_two hx hy rfl
      obtain ⟨t, rfl⟩ := len1 (l := l) hl
      rw [mulE_1 (by simp)]
      show some [minI a b] = some [_]
      rw [minI_eq']; rfl
    · obtain ⟨a, b, rfl, rfl, b1, b2⟩ := el_two hx hy rfl
      obtain ⟨t, rfl⟩ := len1 (l := l) hl
      rw [mulE_1 (by simp)]
      show some [andI .i64 a b] = some [_]
      rw [andI_tn (by omega) (by omega)]; rfl
    · simp only [G_impl_mulInto, eqI_d, Int.reduceEq, decide_true, decide_false, cnd_true, cnd_false, fulI_id, bnd_s, joinK_l]
      rw [show F_impl_mulCoefficients ((7, p, n), l, x, y) = some (mulE (7, p, n) x y) from if_pos ⟨⟨hr, .inl rfl⟩, hl, hx, hy⟩, bnd_s, samI_ok (by rw [show lenN l = _ from hl]; exact lenN_tab _ _), bnd_s]
    · simp only [G_impl_mulInto, eqI_d, Int.reduceEq, decide_true, decide_false, cnd_true, cnd_false, fulI_id, bnd_s, joinK_l]
      rw [show F_impl_mulCoefficients ((8, p, 0), l, x, y) = some (mulE (8, p, 0) x y) from if_pos ⟨⟨hr, .inr rfl⟩, hl, hx, hy⟩, bnd_s, samI_ok (by rw [show lenN l = _ from hl]; exact lenN_tab _ _), bnd_s]
  · cases h

theorem cf_cases {k p n : Int} (h : ringOk (k, p, n) = true) (hk : k = 7 ∨ k = 8) (om : Bool) (he : om = decide (k = 8)) : eqI k 1 = false ∧ eqI k 6 = false ∧ eqI k 2 = false ∧ eqI k 3 = false ∧ eqI k 4 = false ∧ eqI k 5 = false :=
  ⟨eqI_f (by omega), eqI_f (by omega), eqI_f (by omega), eqI_f (by omega), eqI_f (by omega), eqI_f (by omega)⟩

theorem f_spec_l02Mul (x : (Int × Int × Int) × List Int × List Int) (z : List Int) (h : F_spec_l02Mul x = some z) : G_spec_l02Mul FUEL x = some z := by
  obtain ⟨⟨k, p, n⟩, x, y⟩ := x
  simp only [F_spec_l02Mul] at h
  split at h
  · rename_i hc
    obtain ⟨hr, hx, hy⟩ := hc
    rw [← h]
    have hT := top_bd hr
    by_cases hk : k = 7 ∨ k = 8
    · have c := cf_of hr hk
      have hlx := el_len hx
      have hly := el_len hy
      have htop : topI (k, p, n) = p - 1 := by
        simp only [topI]
        rw [if_neg (by omega), if_neg (by omega), if_neg (by omega)]
      have bx := fun j (hj : j < widN (k, p, n)) => el_at hx hj
      have by_ := fun j (hj : j < widN (k, p, n)) => el_at hy hj
      rw [htop] at bx by_
      obtain ⟨hp0, hp1⟩ := c.cp
      obtain ⟨hw0, hw1⟩ := c.cw
      have hmul : mulE (k, p, n) x y = cvE p (decide (k = 8)) (widN (k, p, n)) (fnL x) (fnL y) := by
        simp only [mulE]; rw [if_pos hk]
      rw [hmul]
      obtain ⟨k1, k6, k2, k3, k4, k5⟩ := cf_cases hr hk _ rfl
      simp only [G_spec_l02Mul]
      rw [mkI_nat (n := lenN x) (by unfold lenN; rw [hlx]; simp only [maxBytes]; omega), bnd_s, lenN_repL, fulI_id, bnd_s, bnd_s, k1, cnd_f rfl, joinK_l]
      simp only
      rw [k6, cnd_f rfl, k2, cnd_f rfl, k3, cnd_f rfl, k4, cnd_f rfl, k5, cnd_f rfl, lenN_repL, fulI_id, bnd_s, show lenN x = widN (k, p, n) from hlx]
      generalize widN (k, p, n) = w at *
      rw [loopT_seq (fun i => ((y, x, natI w, (i : Int)), (k, p, n), cvT p (decide (k = 8)) w (fnL x) (fnL y) i 0)) (r := Sum.inl (cvE p (decide (k = 8)) w (fnL x) (fnL y))) w ?a1 ?a2 ?a3 (FUEL_gt (by omega))]
      · rw [joinK_l, takI_id, bnd_s]
      case a3 => rw [cvT_0]; rfl
      case a2 =>
        simp only
        rw [cnd_f (ltI_f (show natI w ≤ ((w : Nat) : Int) from Int.le_refl _)), cvT_end, fulI_id, bnd_s, bnd_s]
      case a1 =>
        intro i hi
        simp only
        rw [cnd_t (ltI_t (show (i : Int) < natI w by simp only [natI]; omega)), getI_fn (by omega), bnd_s, fulI_id, bnd_s]
        rw [loopT_seq (fun j => ((y, (i : Int), fnL x i, x, natI w, (i : Int), y, natI (lenN y), (j : Int)), (k, p, n), cvT p (decide (k = 8)) w (fnL x) (fnL y) i j)) (r := Sum.inl (((i : Int), y, x, natI w), (k, p, n), cvT p (decide (k = 8)) w (fnL x) (fnL y) i w)) w ?b1 ?b2 ?b3 (FUEL_gt (by omega))]
        · rw [joinK_l]
          simp only
          rw [fulI_id, bnd_s, cvT_row, addI_eq (by omega) (by omega)]
          rfl
        case b3 => rfl
        case b2 =>
          simp only
          rw [cnd_f (ltI_f (by rw [nl, hly]; omega)), fulI_id, bnd_s, bnd_s]
        case b1 =>
          intro j hj
          have b1 := bx i hi
          have b2 := by_ j hj
          simp only
          rw [cnd_t (ltI_t (by rw [nl, hly]; omega)), getI_fn (by omega), bnd_s]
          rw [addI_eq (a := (i : Int)) (by omega) (by omega), addI_eq (a := (j : Int)) (by omega) (by omega)]
          rw [show (i : Int) + (j : Int) = ((i + j : Nat) : Int) by omega, show (j : Int) + 1 = ((j + 1 : Nat) : Int) by omega]
          rw [show lenN (cvT p (decide (k = 8)) w (fnL x) (fnL y) i j) = w from lenN_tab _ _]
          by_cases hlt : i + j < w
          · obtain ⟨v, v1, v2, v3⟩ := cv_lo c (a := fnL x i) (b := fnL y j) (by omega) (by omega) rfl rfl hi hj hlt
            obtain ⟨g1, g2⟩ := cvT_get (p := p) (om := decide (k = 8)) (x := fnL x) (y := fnL y) (i := i) (j := j) hlt
            rw [show lenN (cvT p (decide (k = 8)) w (fnL x) (fnL y) i j) = w from lenN_tab _ _] at g1
            rw [cnd_t (ltI_t (by simp only [natI]; omega)), g1, bnd_s, g2, bnd_s, v1, bnd_s, bnd_s, g2, bnd_s, v3, show lenN (cvT p (decide (k = 8)) w (fnL x) (fnL y) i (j + 1)) = w from lenN_tab _ _, fulI_id, bnd_s]
          · rw [cnd_f (ltI_f (by simp only [natI]; omega)), cnd_eqI]
            by_cases h8 : k = 8
            · obtain rfl := c.w8 h8
              subst h8
              obtain ⟨v, v1, v2, v3⟩ := cv_hi (p := p) (a := fnL x i) (b := fnL y j) ⟨hp0, hp1⟩ (by omega) (by omega) rfl rfl hi hj (by omega)
              obtain ⟨g1, g2⟩ := cvT_get (p := p) (om := true) (w := 4) (x := fnL x) (y := fnL y) (i := i) (j := j) (t := i + j - 4) (by omega)
              rw [show lenN (cvT p true 4 (fnL x) (fnL y) i j) = 4 from lenN_tab _ _] at g1
              rw [if_pos rfl, subI_eq (a := ((i + j : Nat) : Int)) (by omega) (by omega), show ((i + j : Nat) : Int) - 4 = ((i + j - 4 : Nat) : Int) by omega]
              simp only [decide_true]
              rw [g1, bnd_s, g2, bnd_s, v1, bnd_s, bnd_s, g2, bnd_s, v3, show lenN (cvT p true 4 (fnL x) (fnL y) i (j + 1)) = 4 from lenN_tab _ _, fulI_id, bnd_s]
            · rw [if_neg h8, fulI_id, bnd_s, cvT_skip (by omega) (decide_eq_false h8)]
    · rcases ring_cases hr with ⟨rfl, rfl, rfl⟩ | ⟨rfl, hp, rfl⟩ | ⟨rfl, hp, rfl⟩ | ⟨rfl, hp, rfl⟩ | ⟨rfl, hp, rfl⟩ | ⟨rfl, rfl, hn⟩ | ⟨rfl, hp, hn⟩ | ⟨rfl, hp, hp2, rfl⟩
      · obtain ⟨a, b, rfl, rfl, b1, b2⟩ := el_two hx hy rfl
        rw [mulE_1 (by simp)]
        show some [andI .i64 a b] = some [_]
        rw [andI_tn (by omega) (by omega)]; rfl
      · obtain ⟨a, b, rfl, rfl, b1, b2⟩ := el_two hx hy rfl
        rw [mulE_1 (by simp)]
        have := isPrimeI_t hp
        have ht : topI (2, p, 0) = p - 1 := rfl
        obtain ⟨m1, m2, m3⟩ := mulI_sm (a := a) (b := b) (by omega) (by omega)
        have e : remI (mulI .i64 a b) p = some (a * b % p) := by rw [m1, remI_pos (by omega) (by omega)]
        show joinK ((remI (mulI .i64 a b) p).bnd fun q => some (Sum.inl [q])) _ = some [_]
        rw [e]; rfl
      · obtain ⟨a, b, rfl, rfl, b1, b2⟩ := el_two hx hy rfl
        rw [mulE_1 (by simp)]
        obtain ⟨m1, m2, m3⟩ := mulI_sm (a := a) (b := b) (by omega) (by omega)
        show some [minI (mulI .i64 a b) p] = some [_]
        rw [m1, minI_eq']; rfl
      · obtain ⟨a, b, rfl, rfl, b1, b2⟩ := el_two hx hy rfl
        rw [mulE_1 (by simp)]
        show some [minI (addI .i64 a b) p] = some [_]
        rw [addI_eq (by omega) (by omega), minI_eq']; rfl
      · obtain ⟨a, b, rfl, rfl, b1, b2⟩ := el_two hx hy rfl
        rw [mulE_1 (by simp)]
        show some [minI a b] = some [_]
        rw [minI_eq']; rfl
      · obtain ⟨a, b, rfl, rfl, b1, b2⟩ := el_two hx hy rfl
        rw [mulE_1 (by simp)]
        show some [andI .i64 a b] = some [_]
        rw [andI_tn (by omega) (by omega)]; rfl
      · omega
      · omega
  · cases h

theorem mulE_len {r : Int × Int × Int} {x y : List Int} (hr : ringOk r = true) : (mulE r x y).length = widN r := by
  obtain ⟨k, p, n⟩ := r
  simp only [mulE]
  split
  · exact tab_len _ _
  · rename_i hk
    simp only [widN, widI]
    rw [if_neg (by omega), if_neg (by omega)]
    rfl

theorem f_impl_rawMul (x : (Int × Int × Int) × List Int × List Int) (z : List Int) (h : F_impl_rawMul x = some z) : G_impl_rawMul FUEL x = some z := by
  obtain ⟨⟨k, p, n⟩, x, y⟩ := x
  simp only [F_impl_rawMul] at h
  split at h
  · rename_i hc
    obtain ⟨hr, hx, hy⟩ := hc
    rw [← h]
    simp only [G_impl_rawMul, F_impl_rawWidth, bnd_s]
    rw [mkW hr, bnd_s, lenN_repL, fulI_id, bnd_s, show F_impl_mulInto ((k, p, n), repL (widN (k, p, n)) 0, x, y) = some (mulE (k, p, n) x y) from if_pos ⟨hr, lenN_repL _ _, hx, hy⟩, bnd_s, takI_len (mulE_len hr), bnd_s]
  · cases h

/-! ### elements stay elements -/

theorem el_zero {r : Int × Int × Int} (hr : ringOk r = true) : elOk r (zeroE r) = true := by
  have hT := top_bd hr
  obtain ⟨k, p, n⟩ := r
  simp only [zeroE]
  split
  · rename_i h4
    subst h4
    simp [elOk, widN, widI, topI, inTop]
    simp [topI] at hT
    omega
  · rw [tab_rep]
    exact el_mk fun j _ => ⟨Int.le_refl _, hT.1⟩
theorem oneE_tab (k p n : Int) : oneE (k, p, n) = tab (widN (k, p, n)) fun j => if j = 0 then (if k = 4 then 0 else if k = 5 ∨ k = 6 then topI (k, p, n) else 1) else 0 := by
  simp only [oneE]
  rw [tab_rep]
  exact tab_set _ 0 _
theorem top_1 {k p n : Int} (hr : ringOk (k, p, n) = true) : 1 ≤ topI (k, p, n) := by
  rcases ring_cases hr with ⟨rfl, rfl, rfl⟩ | ⟨rfl, hp, rfl⟩ | ⟨rfl, hp, rfl⟩ | ⟨rfl, hp, rfl⟩ | ⟨rfl, hp, rfl⟩ | ⟨rfl, rfl, hn⟩ | ⟨rfl, hp, hn⟩ | ⟨rfl, hp, hp2, rfl⟩
  · simp [topI]
  · have := isPrimeI_t hp; simp [topI]; omega
  · simp [topI]; omega
  · simp [topI]; omega
  · simp [topI]; omega
  · have a : (2 : Nat) ^ 1 ≤ 2 ^ n.toNat := Nat.pow_le_pow_right (by decide) (by omega)
    have e : (((2 : Nat) ^ n.toNat : Nat) : Int) = (2 : Int) ^ n.toNat := by push_cast; rfl
    simp only [topI, Int.reduceEq, reduceIte, or_self]
    omega
  · have := isPrimeI_t hp; simp [topI]; omega
  · have := isPrimeI_t hp; simp [topI]; omega
theorem el_oneE {r : Int × Int × Int} (hr : ringOk r = true) : elOk r (oneE r) = true := by
  obtain ⟨k, p, n⟩ := r
  have h1 := top_1 hr
  rw [oneE_tab]
  refine el_mk fun j _ => ?_
  split
  · split
    · omega
    · split <;> omega
  · omega
theorem opA_in {r : Int × Int × Int} (hr : ringOk r = true) {a b : Int} (ha : 0 ≤ a ∧ a ≤ topI r) (hb : 0 ≤ b ∧ b ≤ topI r) : 0 ≤ opA r a b ∧ opA r a b ≤ topI r := by
  have hT := top_bd hr
  obtain ⟨k, p, n⟩ := r
  have md : ∀ c : Int, 2 ≤ p → 0 ≤ c % p ∧ c % p ≤ p - 1 := fun c h => by
    have q0 := Int.emod_nonneg c (b := p) (by omega)
    have q1 := Int.emod_lt_of_pos c (b := p) (by omega)
    omega
  rcases ring_cases hr with ⟨rfl, rfl, rfl⟩ | ⟨rfl, hp, rfl⟩ | ⟨rfl, hp, rfl⟩ | ⟨rfl, hp, rfl⟩ | ⟨rfl, hp, rfl⟩ | ⟨rfl, rfl, hn⟩ | ⟨rfl, hp, hn⟩ | ⟨rfl, hp, hp2, rfl⟩
  · have e : topI (1, 0, 0) = 1 := rfl
    rw [e] at ha hb ⊢
    have h1 : a = 0 ∨ a = 1 := by omega
    have h2 : b = 0 ∨ b = 1 := by omega
    rcases h1 with rfl | rfl <;> rcases h2 with rfl | rfl <;> decide
  · exact md _ (isPrimeI_t hp).1
  · have e : topI (3, p, 0) = p := rfl
    have o : opA (3, p, 0) a b = min (a + b) p := rfl
    omega
  · have o : opA (4, p, 0) a b = min a b := rfl
    omega
  · have o : opA (5, p, 0) a b = max a b := rfl
    omega
  · have e : topI (6, 0, n) = 2 ^ n.toNat - 1 := rfl
    have o : opA (6, 0, n) a b = ((a.toNat ||| b.toNat : Nat) : Int) := rfl
    have e2 : (((2 : Nat) ^ n.toNat : Nat) : Int) = (2 : Int) ^ n.toNat := by push_cast; rfl
    have := Nat.or_lt_two_pow (n := n.toNat) (x := a.toNat) (y := b.toNat) (by omega) (by omega)
    omega
  · exact md _ (isPrimeI_t hp).1
  · exact md _ (isPrimeI_t hp).1
theorem el_add {r : Int × Int × Int} {x y : List Int} (hr : ringOk r = true) (hx : elOk r x = true) (hy : elOk r y = true) : elOk r (addE r x y) = true :=
  el_mk fun _ hj => opA_in hr (el_at hx hj) (el_at hy hj)
theorem opM_in {r : Int × Int × Int} (hr : ringOk r = true) (hk : ¬ (r.1 = 7 ∨ r.1 = 8)) {a b : Int} (ha : 0 ≤ a ∧ a ≤ topI r) (hb : 0 ≤ b ∧ b ≤ topI r) : 0 ≤ opM r a b ∧ opM r a b ≤ topI r := by
  have hT := top_bd hr
  obtain ⟨k, p, n⟩ := r
  simp only at hk
  rcases ring_cases hr with ⟨rfl, rfl, rfl⟩ | ⟨rfl, hp, rfl⟩ | ⟨rfl, hp, rfl⟩ | ⟨rfl, hp, rfl⟩ | ⟨rfl, hp, rfl⟩ | ⟨rfl, rfl, hn⟩ | ⟨rfl, hp, hn⟩ | ⟨rfl, hp, hp2, rfl⟩
  · have e : topI (1, 0, 0) = 1 := rfl
    rw [e] at ha hb ⊢
    have h1 : a = 0 ∨ a = 1 := by omega
    have h2 : b = 0 ∨ b = 1 := by omega
    rcases h1 with rfl | rfl <;> rcases h2 with rfl | rfl <;> decide
  · have := isPrimeI_t hp
    have o : opM (2, p, 0) a b = a * b % p := rfl
    have e : topI (2, p, 0) = p - 1 := rfl
    have q0 := Int.emod_nonneg (a * b) (b := p) (by omega)
    have q1 := Int.emod_lt_of_pos (a * b) (b := p) (by omega)
    omega
  · have e : topI (3, p, 0) = p := rfl
    have o : opM (3, p, 0) a b = min (a * b) p := rfl
    have := Int.mul_nonneg ha.1 hb.1
    omega
  · have o : opM (4, p, 0) a b = min (a + b) p := rfl
    have e : topI (4, p, 0) = p := rfl
    omega
  · have o : opM (5, p, 0) a b = min a b := rfl
    omega
  · have o : opM (6, 0, n) a b = ((a.toNat &&& b.toNat : Nat) : Int) := rfl
    have := Nat.and_le_left (n := a.toNat) (m := b.toNat)
    omega
  · omega
  · omega
theorem el_mul {r : Int × Int × Int} {x y : List Int} (hr : ringOk r = true) (hx : elOk r x = true) (hy : elOk r y = true) : elOk r (mulE r x y) = true := by
  by_cases hk : r.1 = 7 ∨ r.1 = 8
  · simp only [mulE]
    rw [if_pos hk]
    obtain ⟨k, p, n⟩ := r
    have c := cf_of hr hk
    have htop : topI (k, p, n) = p - 1 := by
      simp only at hk
      simp only [topI]
      rw [if_neg (by omega), if_neg (by omega), if_neg (by omega)]
    refine el_mk fun j _ => ?_
    rw [htop]
    have := c.cp
    have q0 := Int.emod_nonneg (sm (widN (k, p, n)) fun i => sm (widN (k, p, n)) fun j' => kW (decide (k = 8)) (fnL x) (fnL y) j i j') (b := p) (by omega)
    have q1 := Int.emod_lt_of_pos (sm (widN (k, p, n)) fun i => sm (widN (k, p, n)) fun j' => kW (decide (k = 8)) (fnL x) (fnL y) j i j') (b := p) (by omega)
    exact ⟨q0, Int.le_sub_one_of_lt q1⟩
  · have hw : widN r = 1 := by
      obtain ⟨k, p, n⟩ := r
      simp only at hk
      simp only [widN, widI]
      rw [if_neg (by omega), if_neg (by omega)]
      rfl
    obtain ⟨a, b, rfl, rfl, b1, b2⟩ := el_two hx hy hw
    rw [mulE_1 hk]
    have := opM_in hr hk b1 b2
    simp [elOk, hw, inTop, this]
theorem el_pow {r : Int × Int × Int} {x : List Int} (hr : ringOk r = true) (hx : elOk r x = true) : ∀ n, elOk r (powE r x n) = true
  | 0 => el_oneE hr
  | n + 1 => el_mul hr (el_pow hr hx n) hx

theorem f_impl_rawPow (x : (Int × Int × Int) × List Int × Int) (z : List Int) (h : F_impl_rawPow x = some z) : G_impl_rawPow FUEL x = some z := by
  obtain ⟨⟨k, p, n⟩, x, m⟩ := x
  simp only [F_impl_rawPow] at h
  split at h
  · rename_i hc
    obtain ⟨⟨hr, hx⟩, hm0, hm1⟩ := hc
    obtain ⟨m, rfl⟩ := natI_eq hm0
    rw [← h]
    simp only [G_impl_rawPow]
    rw [show F_impl_rawOne (k, p, n) = some (oneE (k, p, n)) from if_pos hr, bnd_s, fulI_id, bnd_s]
    rw [loopT_seq (fun i => ((x, (m : Int), (i : Int)), (k, p, n), powE (k, p, n) x i)) (r := Sum.inl (powE (k, p, n) x m)) m ?a1 ?a2 ?a3 (FUEL_gt (by omega))]
    · rw [joinK_l, takI_id, bnd_s, Int.toNat_natCast]
    case a3 => rfl
    case a2 =>
      simp only
      rw [cnd_f (ltI_f (Int.le_refl _)), fulI_id, bnd_s, bnd_s]
    case a1 =>
      intro i hi
      simp only
      rw [cnd_t (ltI_t (by omega)), winI_id, bnd_s, show F_impl_rawMul ((k, p, n), powE (k, p, n) x i, x) = some (mulE (k, p, n) (powE (k, p, n) x i) x) from if_pos ⟨hr, el_pow hr hx i, hx⟩, bnd_s, fulI_id, bnd_s, addI_eq (by omega) (by omega)]
      rfl
  · cases h

theorem f_impl_CountElem (x : (Int × Int × Int) × Int) (z : List Int) (h : F_impl_CountElem x = some z) : G_impl_CountElem FUEL x = some z := by
  obtain ⟨⟨k, p, n⟩, m⟩ := x
  rw [← h]
  simp only [F_impl_CountElem, G_impl_CountElem, F_impl_RingOk, bnd_s, cntR]
  cases hr : ringOk (k, p, n) with
  | false => rfl
  | true =>
    rw [cnd_f notB_t]
    by_cases hm : m < 0
    · rw [cnd_t (ltI_t hm), if_neg (by omega)]
    rw [cnd_f (ltI_f (by omega)), if_pos ⟨rfl, by omega⟩, cnd_eqI]
    by_cases h0 : m = 0
    · rw [if_pos h0, show F_impl_rawZero (k, p, n) = some (zeroE (k, p, n)) from if_pos hr, bnd_s, takI_id, bnd_s, cntE, if_pos h0]
    rw [if_neg h0, show F_impl_rawOne (k, p, n) = some (oneE (k, p, n)) from if_pos hr, bnd_s, cntE, if_neg h0]
    simp only [cntV]
    have hw := wid_bd hr
    have hc : ∀ v, chkI (0 : Int) (lenN (oneE (k, p, n))) = some 0 ∧ getN (oneE (k, p, n)) (addN 0 0) = some (fnL (oneE (k, p, n)) 0) ∧ takI (setL (oneE (k, p, n)) (addN 0 0) v) (lenN (oneE (k, p, n))) = some (setL (oneE (k, p, n)) 0 v) := by
      intro v
      have hl : (oneE (k, p, n)).length = widN (k, p, n) := el_len (el_oneE hr)
      refine ⟨chkI_nat (i := 0) (by unfold lenN; omega), fnL_get (j := 0) (by omega), takI_len (by simp [setL, lenN, addN])⟩
    by_cases h3 : k = 3
    · rw [if_pos h3, cnd_t (eqI_t h3)]
      simp only [(hc (min m p)).1, (hc (min m p)).2.1, (hc (min m p)).2.2, bnd_s, minI_eq']
    rw [if_neg h3, cnd_f (eqI_f h3)]
    have hd : cnd (eqI k 2) ((fulI 0 (lenN (oneE (k, p, n))) (lenN (oneE (k, p, n)))).bnd fun _ => some (Sum.inl ((true, m), (k, p, n), oneE (k, p, n)))) (cnd (eqI k 7) ((fulI 0 (lenN (oneE (k, p, n))) (lenN (oneE (k, p, n)))).bnd fun _ => some (Sum.inl ((true, m), (k, p, n), oneE (k, p, n)))) ((fulI 0 (lenN (oneE (k, p, n))) (lenN (oneE (k, p, n)))).bnd fun _ => some (Sum.inl ((eqI k 8, m), (k, p, n), oneE (k, p, n)))) : Option (((Bool × Int) × (Int × Int × Int) × List Int) ⊕ List Int)) =
        some (Sum.inl ((decide (k = 2 ∨ k = 7 ∨ k = 8), m), (k, p, n), oneE (k, p, n))) := by
      rw [fulI_id]
      simp only [bnd_s, eqI_d, cnd_dec]
      by_cases h2 : k = 2
      · simp [h2]
      · by_cases h7 : k = 7
        · simp [h7]
        · simp [h2, h7]
    rw [hd, joinK_l]
    simp only [cnd_dec]
    by_cases h2 : k = 2 ∨ k = 7 ∨ k = 8
    · rw [if_pos h2, if_pos h2]
      have hp : 2 ≤ p := by
        rcases ring_cases hr with ⟨rfl, rfl, rfl⟩ | ⟨rfl, hp, rfl⟩ | ⟨rfl, hp, rfl⟩ | ⟨rfl, hp, rfl⟩ | ⟨rfl, hp, rfl⟩ | ⟨rfl, rfl, hn⟩ | ⟨rfl, hp, hn⟩ | ⟨rfl, hp, hp2, rfl⟩
        all_goals first | exact (isPrimeI_t hp).1 | (exfalso; omega)
      rw [remI_pos (by omega) (by omega), bnd_s]
      simp only [(hc (m % p)).1, (hc (m % p)).2.1, (hc (m % p)).2.2, bnd_s]
    · rw [if_neg h2, if_neg h2, takI_id, bnd_s]
theorem f_spec_CountElem (x : (Int × Int × Int) × Int) (z : List Int) (h : F_spec_CountElem x = some z) : G_spec_CountElem FUEL x = some z := f_impl_CountElem x z h
end Go.Am
end
section
namespace Go.Am
def newOk (x : Int × Int) : Prop := (0 ≤ x.1 ∧ x.1 ≤ 4096) ∧ (0 ≤ x.2 ∧ x.2 ≤ 4096) ∧ x.1 * x.2 ≤ 1048576
instance (x : Int × Int) : Decidable (newOk x) := by unfold newOk; infer_instance
def swapF (M : Nat → Nat → Int) (a b : Nat) : Nat → Nat → Int := fun i j => if i = a then M b j else if i = b then M a j else M i j
def pivF (M : Nat → Nat → Int) (j : Nat) : Nat → Nat → Option Nat
  | 0, _ => none
  | d + 1, k => if M k j = 0 then pivF M j d (k + 1) else some k
def invG (p out x : Int) (n : Nat) : Int := if h : n = 0 then out else invG p (if n % 2 = 1 then out * x % p else out) (x * x % p) (n / 2)
termination_by n
decreasing_by omega
def mulOk (x : Int × (Int × Int × List Int) × (Int × Int × List Int)) : Prop := pOk x.1 ∧ mOk x.2.1 ∧ mOk x.2.2 ∧ x.2.1.2.1 = x.2.2.1 ∧ x.2.1.1 * x.2.2.2.1 ≤ 1048576 ∧ allP x.1 x.2.1.2.2 ∧ allP x.1 x.2.2.2.2
instance (x : Int × (Int × Int × List Int) × (Int × Int × List Int)) : Decidable (mulOk x) := by unfold mulOk; infer_instance
/-! ### rows -/

/-! ### pivots, inverses -/

theorem pivF_lt {M : Nat → Nat → Int} {j q : Nat} : ∀ {d k : Nat}, pivF M j d k = some q → k ≤ q ∧ q < k + d ∧ M q j ≠ 0
  | 0, k, h => by cases h
  | d + 1, k, h => by
    simp only [pivF] at h
    split at h
    · have := pivF_lt h
      exact ⟨by omega, by omega, this.2.2⟩
    · rename_i h0
      injection h with h
      subst h
      exact ⟨by omega, by omega, h0⟩

theorem invG_0 (p out x : Int) : invG p out x 0 = out := by rw [invG]; rfl
theorem invG_s {n : Nat} (h : n ≠ 0) (p out x : Int) : invG p out x n = invG p (if n % 2 = 1 then out * x % p else out) (x * x % p) (n / 2) := by
  rw [invG, dif_neg h]
/-! ### transposed -/

/-! ### products -/

end Go.Am
end
section
namespace Go.Am
/-! ### transposes, products and swaps of good matrices -/

def sopOk (x : Int × Int × Int) : Prop := isPrimeI x.1 = true ∧ (1 ≤ x.2.1 ∧ x.2.1 ≤ 8) ∧ (1 ≤ x.2.2 ∧ x.2.2 ≤ 8)
instance (x : Int × Int × Int) : Decidable (sopOk x) := by unfold sopOk; infer_instance
/-! ### the swap operator -/

end Go.Am
end
section
namespace Go.Am
/-! ### reduced forms -/

abbrev Mat := Nat → Nat → Int
def sclF (p inv : Int) (M : Mat) (t : Nat) : Mat := fun a b => if a = t then M t b * inv % p else M a b
def clrF (p : Int) (M : Mat) (t j n : Nat) : Mat := fun a b => if a < n ∧ a ≠ t then (M a b + (p - M a j) * M t b) % p else M a b
def pivS (p : Int) (M : Mat) (t j k : Nat) : Mat := sclF p (invG p 1 (swapF M t k t j) (p - 2).toNat) (swapF M t k) t
def redD (p : Int) (M : Mat) (t j k : Nat) (d : Int) : Int := (if k = t then d else (p - d) % p) * swapF M t k t j % p
def redS (p : Int) (r : Nat) (s : Mat × List Int × Int) (j : Nat) : Mat × List Int × Int :=
  if s.2.1.length < r then
    match pivF s.1 j (r - s.2.1.length) s.2.1.length with
    | none => s
    | some k => (clrF p (pivS p s.1 s.2.1.length j k) s.2.1.length j r, s.2.1 ++ [(j : Int)], redD p s.1 s.2.1.length j k s.2.2)
  else s
def redN (p : Int) (r : Nat) (M : Mat) : Nat → Mat × List Int × Int
  | 0 => (M, [], 1)
  | j + 1 => redS p r (redN p r M j) j
def redOk (x : Int × Int × Int × List Int) : Prop := pOk x.1 ∧ mOk x.2 ∧ allP x.1 x.2.2.2
instance (x : Int × Int × Int × List Int) : Decidable (redOk x) := by unfold redOk; infer_instance
theorem swapF_in {p : Int} {r c : Nat} {M : Mat} (hM : inM p r c M) {a b : Nat} (ha : a < r) (hb : b < r) : inM p r c (swapF M a b) := by
  intro i hi j hj
  unfold swapF
  split
  · exact hM b hb j hj
  · split
    · exact hM a ha j hj
    · exact hM i hi j hj
theorem sclF_in {p inv : Int} {r c : Nat} {M : Mat} (hp : pOk p) (hM : inM p r c M) (t : Nat) : inM p r c (sclF p inv M t) := by
  intro i hi j hj
  unfold sclF
  split
  · exact emod_in hp _
  · exact hM i hi j hj
theorem clrF_in {p : Int} {r c : Nat} {M : Mat} (hp : pOk p) (hM : inM p r c M) (t k n : Nat) : inM p r c (clrF p M t k n) := by
  intro i hi j hj
  unfold clrF
  split
  · exact emod_in hp _
  · exact hM i hi j hj
theorem pivS_in {p : Int} {r c : Nat} {M : Mat} (hp : pOk p) (hM : inM p r c M) {t k : Nat} (ht : t < r) (hk : k < r) (j : Nat) : inM p r c (pivS p M t j k) := sclF_in hp (swapF_in hM ht hk) t

structure RI (p : Int) (r c : Nat) (s : Mat × List Int × Int) (j : Nat) : Prop where
  m : inM p r c s.1
  l : s.2.1.length ≤ r
  lj : s.2.1.length ≤ j
  d : inP p s.2.2
  e : ∀ x ∈ s.2.1, 0 ≤ x ∧ x < (j : Int)
theorem RI.step {p : Int} {r c : Nat} {s : Mat × List Int × Int} {j : Nat} (hp : pOk p) (h : RI p r c s j) : RI p r c (redS p r s j) (j + 1) := by
  have keep : RI p r c s (j + 1) := ⟨h.m, h.l, by have := h.lj; omega, h.d, fun x hx => by have := h.e x hx; omega⟩
  unfold redS
  split
  · rename_i hl
    split
    · exact keep
    · rename_i k hk
      have hq := pivF_lt hk
      refine ⟨clrF_in hp (pivS_in hp h.m hl (by omega) j) _ _ _, ?_, ?_, emod_in hp _, ?_⟩
      · simp only [List.length_append, List.length_cons, List.length_nil]; omega
      · have := h.lj
        simp only [List.length_append, List.length_cons, List.length_nil]; omega
      · intro x hx
        simp only [List.mem_append, List.mem_singleton] at hx
        rcases hx with hx | rfl
        · have := h.e x hx; omega
        · omega
  · exact keep
theorem clrF_0 {p : Int} (M : Mat) (t j : Nat) : clrF p M t j 0 = M := by funext a b; exact if_neg (by omega)
theorem clrF_old {p : Int} (M : Mat) (t j n b : Nat) : clrF p M t j n n b = M n b := if_neg (by omega)
theorem clrF_t {p : Int} (M : Mat) (t j n b : Nat) : clrF p M t j n t b = M t b := if_neg (by omega)
theorem clrF_skip {p : Int} (M : Mat) (t j : Nat) : clrF p M t j (t + 1) = clrF p M t j t := by
  funext a b
  unfold clrF
  by_cases h : a < t
  · rw [if_pos (by omega), if_pos (by omega)]
  · rw [if_neg (by omega), if_neg (by omega)]
theorem pivF_none {M : Mat} {j : Nat} : ∀ {d k : Nat}, pivF M j d k = none → ∀ i, k ≤ i → i < k + d → M i j = 0
  | 0, k, _, i, h1, h2 => by omega
  | d + 1, k, h, i, h1, h2 => by
    simp only [pivF] at h
    split at h
    · rename_i h0
      by_cases hi : i = k
      · rw [hi]; exact h0
      · exact pivF_none h i (by omega) (by omega)
    · cases h
theorem redS_n {p : Int} {r : Nat} {s : Mat × List Int × Int} {j : Nat} (hl : s.2.1.length < r) (h : pivF s.1 j (r - s.2.1.length) s.2.1.length = none) : redS p r s j = s := by
  unfold redS
  rw [if_pos hl, h]
theorem redS_s {p : Int} {r : Nat} {s : Mat × List Int × Int} {j k : Nat} (hl : s.2.1.length < r) (h : pivF s.1 j (r - s.2.1.length) s.2.1.length = some k) :
    redS p r s j = (clrF p (pivS p s.1 s.2.1.length j k) s.2.1.length j r, s.2.1 ++ [(j : Int)], redD p s.1 s.2.1.length j k s.2.2) := by
  unfold redS
  rw [if_pos hl, h]
/-! ### the walk of the spec's reduction -/

section
variable {p : Int} {r c : Nat} {M0 : Mat}

end
/-! ### the walk of the program's reduction -/

section
variable {p : Int} {r c : Nat} {M0 : Mat}

end

end Go.Am
end
section
namespace Go.Am
/-! ### ranks, reduced forms and factors of good matrices -/

/-! ### factors -/

section
variable {p : Int} {r c : Nat} {M R : Mat} {L : List Int}

end

end Go.Am
end
section
namespace Go.Am

def ch : Nat → Nat → Nat
  | _, 0 => 1
  | 0, _ + 1 => 0
  | n + 1, k + 1 => ch n k + ch n (k + 1)

theorem ch_gt : ∀ {n k : Nat}, n < k → ch n k = 0
  | 0, k + 1, _ => by simp [ch]
  | n + 1, k + 1, h => by simp [ch, ch_gt (show n < k by omega), ch_gt (show n < k + 1 by omega)]
theorem ch_0 (n : Nat) : ch n 0 = 1 := by cases n <;> rfl
theorem ch_self : ∀ n, ch n n = 1
  | 0 => rfl
  | n + 1 => by simp [ch, ch_self n, ch_gt (Nat.lt_succ_self n)]

theorem ch_mul : ∀ (n k : Nat), (k + 1) * ch (n + 1) (k + 1) = (n + 1) * ch n k
  | 0, 0 => by simp [ch]
  | 0, k + 1 => by simp [ch]
  | n + 1, 0 => by
    have h := ch_mul n 0
    simp only [ch_0] at h ⊢
    have e : ch (n + 1 + 1) (0 + 1) = ch (n + 1) 0 + ch (n + 1) (0 + 1) := rfl
    rw [e, ch_0]
    omega
  | n + 1, k + 1 => by
    have h1 := ch_mul n k
    have h2 := ch_mul n (k + 1)
    have e1 : ch (n + 1 + 1) (k + 1 + 1) = ch (n + 1) (k + 1) + ch (n + 1) (k + 1 + 1) := rfl
    have e2 : ch (n + 1) (k + 1) = ch n k + ch n (k + 1) := rfl
    rw [e1]
    generalize ch (n + 1) (k + 1 + 1) = B at *
    generalize ch (n + 1) (k + 1) = A at *
    generalize ch n k = u at *
    generalize ch n (k + 1) = v at *
    subst e2
    grind

def sumF (f : Nat → Nat) : Nat → Nat
  | 0 => 0
  | m + 1 => sumF f m + f m

theorem sum_step (n a : Nat) : ∀ m, sumF (fun k => ch (n + 1) k * a ^ k) (m + 1) = sumF (fun k => ch n k * a ^ k) (m + 1) + a * sumF (fun k => ch n k * a ^ k) m
  | 0 => by simp [sumF, ch_0]
  | m + 1 => by
    have h := sum_step n a m
    simp only [sumF] at h ⊢
    have e : ch (n + 1) (m + 1) = ch n m + ch n (m + 1) := rfl
    rw [h, e, Nat.pow_succ]
    grind

theorem binom (a : Nat) : ∀ n, (a + 1) ^ n = sumF (fun k => ch n k * a ^ k) (n + 1)
  | 0 => by simp [sumF, ch_0]
  | n + 1 => by
    rw [sum_step]
    have e : sumF (fun k => ch n k * a ^ k) (n + 1 + 1) = sumF (fun k => ch n k * a ^ k) (n + 1) := by
      show sumF _ (n + 1) + ch n (n + 1) * a ^ (n + 1) = _
      rw [ch_gt (Nat.lt_succ_self n)]; simp
    rw [e, ← binom a n, Nat.pow_succ]
    grind

theorem sum_mod {p : Nat} {f : Nat → Nat} : ∀ m, (∀ k, 0 < k → k ≤ m → p ∣ f k) → sumF f (m + 1) % p = f 0 % p
  | 0, h => by simp [sumF]
  | m + 1, h => by
    have i := sum_mod m fun k h1 h2 => h k h1 (by omega)
    obtain ⟨c, hc⟩ := h (m + 1) (by omega) (Nat.le_refl _)
    show (sumF f (m + 1) + f (m + 1)) % p = _
    rw [hc, Nat.add_mul_mod_self_left, i]

def PrimeN (p : Nat) : Prop := 2 ≤ p ∧ ∀ d, d ∣ p → d = 1 ∨ d = p

theorem PrimeN.cop {p a : Nat} (hp : PrimeN p) (h : ¬ p ∣ a) : Nat.Coprime p a := by
  have := hp.2 (Nat.gcd p a) (Nat.gcd_dvd_left p a)
  rcases this with h1 | h1
  · exact h1
  · exact absurd (h1 ▸ Nat.gcd_dvd_right p a) h

theorem PrimeN.ch {p k : Nat} (hp : PrimeN p) (h1 : 0 < k) (h2 : k < p) : p ∣ ch p k := by
  obtain ⟨q, rfl⟩ : ∃ q, p = q + 1 := ⟨p - 1, by omega⟩
  obtain ⟨j, rfl⟩ : ∃ j, k = j + 1 := ⟨k - 1, by omega⟩
  have hm := ch_mul q j
  have hd : (q + 1) ∣ (j + 1) * Go.Am.ch (q + 1) (j + 1) := ⟨Go.Am.ch q j, hm⟩
  exact (hp.cop fun h => absurd (Nat.le_of_dvd (by omega) h) (by omega)).dvd_of_dvd_mul_left hd

theorem fermat0 {p : Nat} (hp : PrimeN p) : ∀ a, a ^ p % p = a % p
  | 0 => by rw [Nat.zero_pow (by have := hp.1; omega)]
  | a + 1 => by
    rw [binom]
    show (sumF _ p + Go.Am.ch p p * a ^ p) % p = _
    obtain ⟨q, rfl⟩ : ∃ q, p = q + 1 := ⟨p - 1, by have := hp.1; omega⟩
    have h := sum_mod (p := q + 1) (f := fun k => Go.Am.ch (q + 1) k * a ^ k) q fun k h1 h2 => Nat.dvd_trans (hp.ch h1 (by omega)) (Nat.dvd_mul_right _ _)
    rw [ch_self, Nat.one_mul, Nat.add_mod, h, fermat0 hp a]
    simp only [ch_0, Nat.pow_zero, Nat.mul_one]
    rw [← Nat.add_mod, Nat.add_comm]

theorem fermat {p a : Nat} (hp : PrimeN p) (ha : ¬ p ∣ a) : a * a ^ (p - 2) % p = 1 := by
  have h2 := hp.1
  have h := fermat0 hp a
  have e : a ^ p = a * (a * a ^ (p - 2)) := by
    obtain ⟨q, rfl⟩ : ∃ q, p = q + 2 := ⟨p - 2, by omega⟩
    rw [Nat.pow_succ, Nat.pow_succ, Nat.add_sub_cancel]
    rw [Nat.mul_comm a (a ^ q), Nat.mul_comm a (a ^ q * a)]
  rw [e] at h
  have ha0 : 0 < a := by
    rcases Nat.eq_zero_or_pos a with h | h
    · subst h; exact absurd ⟨0, by simp⟩ ha
    · exact h
  have hz : 0 < a * a ^ (p - 2) := Nat.mul_pos ha0 (Nat.pow_pos ha0)
  generalize a * a ^ (p - 2) = z at h hz ⊢
  obtain ⟨y, rfl⟩ : ∃ y, z = y + 1 := ⟨z - 1, by omega⟩
  have hd : p ∣ a * y := by
    have e : a * (y + 1) = a * y + a := by rw [Nat.mul_add, Nat.mul_one]
    rw [e] at h
    have : (a * y + a - a) % p = 0 := Nat.sub_mod_eq_zero_of_mod_eq h
    rw [Nat.add_sub_cancel] at this
    exact Nat.dvd_of_mod_eq_zero this
  obtain ⟨c, rfl⟩ := (hp.cop ha).dvd_of_dvd_mul_left hd
  rw [Nat.add_comm, Nat.add_mul_mod_self_left]
  exact Nat.mod_eq_of_lt (by omega)

end Go.Am
end
section
namespace Go.Am

/-! ### inverses modulo p -/

theorem isPrimeI_N {p : Int} (h : isPrimeI p = true) : PrimeN p.toNat := by
  have hp := isPrimeI_t h
  obtain ⟨n, rfl⟩ := natI_eq (show 0 ≤ p by omega)
  simp only [Int.toNat_natCast]
  refine ⟨by omega, fun d hd => ?_⟩
  rcases Nat.lt_or_ge d 2 with h2 | h2
  · rcases Nat.eq_zero_or_pos d with h0 | h0
    · subst h0
      have := Nat.eq_zero_of_zero_dvd hd
      omega
    · exact .inl (by omega)
  · obtain ⟨e, he⟩ := hd
    simp only [isPrimeI, Bool.and_eq_true, decide_eq_true_eq, Bool.not_eq_true', List.any_eq_false] at h
    have key : ∀ a b : Nat, 2 ≤ a → 2 ≤ b → a ≤ b → n ≠ a * b := by
      intro a b ha hb hab e
      have h1 : a * a ≤ n := by rw [e]; exact Nat.mul_le_mul_left _ hab
      have h3 : a < 1001 := by
        rcases Nat.lt_or_ge a 1001 with h | h
        · exact h
        · have := Nat.mul_le_mul h h; omega
      refine h.2 a (by simp; omega) ?_
      unfold divAt
      have ea : ((a : Int)) * (a : Int) = ((a * a : Nat) : Int) := by norm_cast
      simp only [Bool.and_eq_true, decide_eq_true_eq]
      constructor
      · rw [ea]; omega
      · rw [e]; push_cast; exact Int.mul_emod_right _ _
    right
    rcases Nat.lt_or_ge e 2 with h3 | h3
    · have : e = 1 := by
        rcases Nat.eq_zero_or_pos e with h0 | h0
        · subst h0; simp at he; omega
        · omega
      subst this; omega
    · exfalso
      rcases Nat.le_total d e with hde | hde
      · exact key d e h2 h3 hde he
      · exact key e d h3 h2 hde (by rw [he, Nat.mul_comm])

theorem pow_sq (x : Int) (b : Nat) : ∀ m : Nat, (x * x) ^ m * x ^ b = x ^ (2 * m + b)
  | 0 => by simp
  | m + 1 => by
    have ih := pow_sq x b m
    rw [show 2 * (m + 1) + b = 2 * m + b + 1 + 1 by omega, Int.pow_succ, Int.pow_succ (n := 2 * m + b + 1), Int.pow_succ (n := 2 * m + b), ← ih]
    grind

theorem invG_pow {p : Int} (hp : pOk p) : ∀ (n : Nat) (out x : Int), invG p out x n % p = out * x ^ n % p := by
  intro n
  induction n using Nat.strongRecOn with
  | ind n ih =>
    intro out x
    by_cases h0 : n = 0
    · subst h0; rw [invG_0]; simp
    · rw [invG_s h0, ih (n / 2) (by omega)]
      have e : x ^ n = (x * x) ^ (n / 2) * x ^ (n % 2) := by
        rw [pow_sq, Nat.div_add_mod]
      rw [e]
      have h1 : ((x * x % p) ^ (n / 2)) % p = ((x * x) ^ (n / 2)) % p := by
        have : ∀ k : Nat, ((x * x % p) ^ k) % p = ((x * x) ^ k) % p := by
          intro k
          induction k with
          | zero => simp
          | succ k ih => rw [Int.pow_succ, Int.pow_succ, Int.mul_emod, ih, Int.emod_emod, ← Int.mul_emod]
        exact this _
      by_cases hb : n % 2 = 1
      · rw [if_pos hb, hb, Int.mul_emod, h1, Int.emod_emod, ← Int.mul_emod]
        congr 1
        grind
      · rw [if_neg hb, show n % 2 = 0 by omega, Int.mul_emod, h1, ← Int.mul_emod]
        congr 1
        grind

theorem inv_one {p x : Int} (hpr : isPrimeI p = true) (hx : inP p x) (h0 : x ≠ 0) : x * invG p 1 x (p - 2).toNat % p = 1 := by
  have hp := isPrimeI_t hpr
  have hp' : pOk p := ⟨hp.1, hp.2⟩
  obtain ⟨n, rfl⟩ := natI_eq (show 0 ≤ p by omega)
  obtain ⟨a, rfl⟩ := natI_eq hx.1
  have hN := isPrimeI_N hpr
  simp only [Int.toNat_natCast] at hN
  have ha : ¬ n ∣ a := fun h => by
    have := Nat.le_of_dvd (by omega) h
    have := hx.2
    omega
  have hf := fermat hN ha
  have e : (((n : Int)) - 2).toNat = n - 2 := by omega
  rw [Int.mul_emod, invG_pow hp', e, Int.one_mul, ← Int.mul_emod]
  exact_mod_cast hf

/-! ### sums -/

def sumD (f g : Nat → Int) : Nat → Int
  | 0 => 0
  | n + 1 => sumD f g n + f n * g n

theorem sumD_mod {p : Int} {f f' g : Nat → Int} : ∀ n, (∀ k, k < n → ∃ q, f k = f' k + p * q) → ∃ q, sumD f g n = sumD f' g n + p * q
  | 0, _ => ⟨0, by simp [sumD]⟩
  | n + 1, h => by
    obtain ⟨q, hq⟩ := sumD_mod (g := g) n fun k hk => h k (by omega)
    obtain ⟨q', hq'⟩ := h n (by omega)
    exact ⟨q + q' * g n, by simp only [sumD, hq, hq']; grind⟩
theorem sumD_l (f f2 g : Nat → Int) (c : Int) : ∀ n, sumD (fun k => f k + c * f2 k) g n = sumD f g n + c * sumD f2 g n
  | 0 => by simp [sumD]
  | n + 1 => by simp only [sumD, sumD_l f f2 g c n]; grind
theorem sumD_r (f g g2 : Nat → Int) (c : Int) : ∀ n, sumD f (fun k => g k - c * g2 k) n = sumD f g n - c * sumD f g2 n
  | 0 => by simp [sumD]
  | n + 1 => by simp only [sumD, sumD_r f g g2 c n]; grind
theorem sumD_sl (f g : Nat → Int) (c : Int) : ∀ n, sumD (fun k => f k * c) g n = sumD f g n * c
  | 0 => by simp [sumD]
  | n + 1 => by simp only [sumD, sumD_sl f g c n]; grind
theorem sumD_sr (f g : Nat → Int) (c : Int) : ∀ n, sumD f (fun k => g k * c) n = sumD f g n * c
  | 0 => by simp [sumD]
  | n + 1 => by simp only [sumD, sumD_sr f g c n]; grind
/-! ### a right inverse is kept by row operations -/

def dl (a b : Nat) : Int := if a = b then 1 else 0

def RInv (p : Int) (n : Nat) (E X : Mat) : Prop := ∀ a, a < n → ∀ b, b < n → ∃ q, sumD (E a) (fun k => X k b) n = dl a b + p * q

theorem RInv.congr {p : Int} {n : Nat} {E E' X : Mat} (h : RInv p n E X) (he : ∀ a, a < n → ∀ k, k < n → ∃ q, E' a k = E a k + p * q) : RInv p n E' X := by
  intro a ha b hb
  obtain ⟨q, hq⟩ := h a ha b hb
  obtain ⟨q', hq'⟩ := sumD_mod (p := p) (f := E' a) (f' := E a) (g := fun k => X k b) n (he a ha)
  exact ⟨q + q', by rw [hq', hq]; grind⟩

theorem RInv.swap {p : Int} {n : Nat} {E X : Mat} (h : RInv p n E X) {s t : Nat} (hs : s < n) (ht : t < n) : ∃ X', RInv p n (swapF E s t) X' := by
  let sw : Nat → Nat := fun i => if i = s then t else if i = t then s else i
  have hsw : ∀ i, i < n → sw i < n := by
    intro i hi
    show (if i = s then t else if i = t then s else i) < n
    split
    · exact ht
    · split
      · exact hs
      · exact hi
  have hinj : ∀ i j, sw i = sw j → i = j := by
    intro i j
    show (if i = s then t else if i = t then s else i) = (if j = s then t else if j = t then s else j) → i = j
    intro h
    repeat' split at h
    all_goals omega
  refine ⟨fun k b => X k (sw b), fun a ha b hb => ?_⟩
  obtain ⟨q, hq⟩ := h (sw a) (hsw a ha) (sw b) (hsw b hb)
  refine ⟨q, ?_⟩
  have e : swapF E s t a = E (sw a) := by
    funext k
    show (if a = s then E t k else if a = t then E s k else E a k) = E (if a = s then t else if a = t then s else a) k
    split
    · rfl
    · split <;> rfl
  rw [e, hq]
  congr 1
  unfold dl
  by_cases hab : a = b
  · subst hab; simp
  · rw [if_neg hab, if_neg fun h => hab (hinj _ _ h)]

theorem RInv.scale {p inv u : Int} {n : Nat} {E X : Mat} (h : RInv p n E X) {t : Nat} (ht : t < n) (hu : u * inv % p = 1) : ∃ X', RInv p n (sclF p inv E t) X' := by
  have hu' : ∃ z, u * inv = 1 + p * z := ⟨u * inv / p, by have := Int.emod_add_mul_ediv (u * inv) p; omega⟩
  obtain ⟨z, hz⟩ := hu'
  refine ⟨fun k b => if b = t then X k t * u else X k b, RInv.congr (E := fun a k => if a = t then E t k * inv else E a k) (fun a ha b hb => ?_) (fun a ha k hk => ?_)⟩
  · obtain ⟨q, hq⟩ := h a ha b hb
    by_cases hat : a = t
    · subst hat
      by_cases hbt : b = a
      · subst hbt
        refine ⟨z + q * inv * u, ?_⟩
        simp only [if_true]
        rw [sumD_sl, sumD_sr, hq, dl, if_pos rfl]
        grind
      · refine ⟨q * inv, ?_⟩
        simp only [if_true, if_neg hbt]
        rw [sumD_sl, hq, dl, if_neg (Ne.symm hbt)]
        grind
    · by_cases hbt : b = t
      · subst hbt
        refine ⟨q * u, ?_⟩
        simp only [if_neg hat, if_true]
        rw [sumD_sr]
        have : sumD (fun k => E a k) (fun k => X k b) n = dl a b + p * q := hq
        rw [this, dl, if_neg hat]
        grind
      · refine ⟨q, ?_⟩
        simp only [if_neg hat, if_neg hbt]
        exact hq
  · unfold sclF
    by_cases hat : a = t
    · simp only [hat, if_true]
      refine ⟨-(E t k * inv / p), ?_⟩
      have := Int.emod_add_mul_ediv (E t k * inv) p
      have e : p * -(E t k * inv / p) = -(p * (E t k * inv / p)) := Int.mul_neg _ _
      omega
    · simp only [hat, if_false]
      exact ⟨0, by simp⟩

theorem RInv.add {p f : Int} {n : Nat} {E E' X : Mat} (h : RInv p n E X) {m t : Nat} (hm : m < n) (ht : t < n) (hmt : m ≠ t) (he : ∀ a, a < n → ∀ k, k < n → ∃ q, E' a k = (if a = m then E m k + f * E t k else E a k) + p * q) : ∃ X', RInv p n E' X' := by
  refine ⟨fun k b => if b = t then X k t - f * X k m else X k b, RInv.congr (E := fun a k => if a = m then E m k + f * E t k else E a k) (fun a ha b hb => ?_) he⟩
  obtain ⟨q1, h1⟩ := h a ha b hb
  obtain ⟨q2, h2⟩ := h t ht b hb
  obtain ⟨q3, h3⟩ := h a ha m hm
  obtain ⟨q4, h4⟩ := h t ht m hm
  have h1' : sumD (fun k => E a k) (fun k => X k b) n = dl a b + p * q1 := h1
  have h2' : sumD (fun k => E t k) (fun k => X k b) n = dl t b + p * q2 := h2
  have h3' : sumD (fun k => E a k) (fun k => X k m) n = dl a m + p * q3 := h3
  have h4' : sumD (fun k => E t k) (fun k => X k m) n = dl t m + p * q4 := h4
  have d1 : dl t m = 0 := if_neg (Ne.symm hmt)
  by_cases ham : a = m
  · subst ham
    have d2 : dl a a = 1 := if_pos rfl
    by_cases hbt : b = t
    · subst hbt
      have d3 : dl a b = 0 := if_neg hmt
      have d4 : dl b b = 1 := if_pos rfl
      refine ⟨q1 + f * q2 - f * q3 - f * f * q4, ?_⟩
      simp only [if_true]
      rw [sumD_l, sumD_r, sumD_r, h1', h2', h3', h4', d1, d2, d3, d4]
      grind
    · refine ⟨q1 + f * q2, ?_⟩
      have d3 : dl t b = 0 := if_neg (Ne.symm hbt)
      simp only [if_true, if_neg hbt]
      rw [sumD_l, h1', h2', d3]
      grind
  · by_cases hbt : b = t
    · subst hbt
      have d3 : dl a m = 0 := if_neg ham
      refine ⟨q1 - f * q3, ?_⟩
      simp only [if_neg ham, if_true]
      rw [sumD_r, h1', h3', d3]
      grind
    · refine ⟨q1, ?_⟩
      simp only [if_neg ham, if_neg hbt]
      exact h1'

/-! ### the reduction -/

/-- The rows behind the rank are zero in the columns that are done; the right half has a right inverse. -/
def RK (p : Int) (n : Nat) (s : Mat × List Int × Int) (j : Nat) : Prop :=
  (∃ X, RInv p n (fun a k => s.1 a (n + k)) X) ∧ ∀ b, b < j → ∀ i, s.2.1.length ≤ i → i < n → s.1 i b = 0

theorem RK.step {p : Int} {n : Nat} {s : Mat × List Int × Int} {j : Nat} (hpr : isPrimeI p = true) (hj : j < 2 * n) (I : RI p n (2 * n) s j) (h : RK p n s j) : RK p n (redS p n s j) (j + 1) := by
  have hp : pOk p := isPrimeI_t hpr
  obtain ⟨⟨X, hX⟩, hz⟩ := h
  obtain ⟨M, L, d⟩ := s
  simp only at hX hz
  by_cases hl : L.length < n
  · cases hk : pivF M j (n - L.length) L.length with
    | none =>
      rw [redS_n (s := (M, L, d)) hl hk]
      refine ⟨⟨X, hX⟩, fun b hb i h1 h2 => ?_⟩
      by_cases hbj : b = j
      · subst hbj; exact pivF_none hk i h1 (by simp only at h1; omega)
      · exact hz b (by omega) i h1 h2
    | some k =>
      rw [redS_s (s := (M, L, d)) hl hk]
      simp only
      have hq := pivF_lt hk
      have hkn : k < n := by omega
      have hM : inM p n (2 * n) M := I.m
      have hx : inP p (M k j) := hM k hkn j hj
      have hsw : swapF M L.length k L.length j = M k j := if_pos rfl
      have hi := inv_one hpr hx hq.2.2
      generalize hinv : invG p 1 (M k j) (p - 2).toNat = inv at hi
      have hpiv : pivS p M L.length j k = sclF p inv (swapF M L.length k) L.length := by unfold pivS; rw [hsw, hinv]
      rw [hpiv]
      have hS : inM p n (2 * n) (swapF M L.length k) := swapF_in hM hl hkn
      generalize hM2 : sclF p inv (swapF M L.length k) L.length = M2
      have hM2i : inM p n (2 * n) M2 := by rw [← hM2]; exact sclF_in hp hS _
      constructor
      · obtain ⟨X1, hX1⟩ := hX.swap (s := L.length) (t := k) hl hkn
        obtain ⟨X2, hX2⟩ := hX1.scale (inv := inv) (u := M k j) hl hi
        have base : RInv p n (fun a b => clrF p M2 L.length j 0 a (n + b)) X2 := by
          rw [clrF_0, ← hM2]; exact hX2
        have key : ∀ m, m ≤ n → ∃ X', RInv p n (fun a b => clrF p M2 L.length j m a (n + b)) X' := by
          intro m
          induction m with
          | zero => intro _; exact ⟨X2, base⟩
          | succ m ih =>
            intro hm
            obtain ⟨X', hX'⟩ := ih (by omega)
            by_cases hmt : m = L.length
            · subst hmt
              rw [clrF_skip]; exact ⟨X', hX'⟩
            · refine hX'.add (f := p - M2 m j) (m := m) (t := L.length) (by omega) hl hmt fun a ha b hb => ?_
              show ∃ q, clrF p M2 L.length j (m + 1) a (n + b) = _
              by_cases ham : a = m
              · subst ham
                rw [if_pos rfl]
                show ∃ q, clrF p M2 L.length j (a + 1) a (n + b) = (clrF p M2 L.length j a a (n + b) + (p - M2 a j) * clrF p M2 L.length j a L.length (n + b)) + p * q
                rw [clrF_old, clrF_t]
                unfold clrF
                rw [if_pos ⟨by omega, hmt⟩]
                refine ⟨-((M2 a (n + b) + (p - M2 a j) * M2 L.length (n + b)) / p), ?_⟩
                have e1 := Int.emod_add_mul_ediv (M2 a (n + b) + (p - M2 a j) * M2 L.length (n + b)) p
                have e2 := Int.mul_neg p ((M2 a (n + b) + (p - M2 a j) * M2 L.length (n + b)) / p)
                omega
              · rw [if_neg ham]
                refine ⟨0, ?_⟩
                show clrF p M2 L.length j (m + 1) a (n + b) = clrF p M2 L.length j m a (n + b) + p * 0
                unfold clrF
                by_cases hc : a < m ∧ a ≠ L.length
                · rw [if_pos hc, if_pos ⟨by omega, hc.2⟩]; simp
                · rw [if_neg hc, if_neg (by omega)]; simp
        exact key n (Nat.le_refl _)
      · intro b hb i h1 h2
        simp only [List.length_append, List.length_cons, List.length_nil] at h1
        show clrF p M2 L.length j n i b = 0
        unfold clrF
        rw [if_pos ⟨h2, by omega⟩]
        have e2 : ∀ c, M2 i c = swapF M L.length k i c := fun c => by rw [← hM2]; exact if_neg (by omega)
        have e3 : ∀ c, M2 L.length c = M k c * inv % p := fun c => by rw [← hM2]; show (if L.length = L.length then _ else _) = _; rw [if_pos rfl]; congr 2; exact if_pos rfl
        by_cases hbj : b = j
        · subst hbj
          rw [e3 b, hi]
          have : M2 i b + (p - M2 i b) * 1 = p := by omega
          rw [this]; exact Int.emod_self
        · have hbj' : b < j := by omega
          rw [e3 b, hz b hbj' k hq.1 hkn, e2 b]
          have : swapF M L.length k i b = 0 := by
            unfold swapF
            rw [if_neg (by omega)]
            split
            · exact hz b hbj' L.length (Nat.le_refl _) hl
            · exact hz b hbj' i (by omega) h2
          rw [this]; simp
  · unfold redS
    rw [if_neg hl]
    exact ⟨⟨X, hX⟩, fun b hb i h1 h2 => by simp only at h1; omega⟩

end Go.Am
end
section
namespace Go.Am
def wideF (n : Nat) (M : Mat) : Mat := fun a b => if b < n then M a b else dl a (b - n)
def wideM (n : Nat) (M : Mat) : Mat := ofD (2 * n) (genD n (2 * n) (wideF n M))
def invX (p : Int) (n : Nat) (M : Mat) : Mat × List Int × Int := redN p n (wideM n M) (2 * n)
def invOk (p : Int) (n : Nat) (M : Mat) : Prop := ∀ i, i < n → (invX p n M).2.1.getD i 0 = (i : Int)
instance (p : Int) (n : Nat) (M : Mat) : Decidable (invOk p n M) := inferInstanceAs (Decidable (∀ i, i < n → (invX p n M).2.1.getD i 0 = (i : Int)))
section
variable {p : Int} {n : Nat} {M R : Mat} {L : List Int}

end
section
variable {p : Int} {n : Nat} {M R : Mat} {L : List Int}
end

end Go.Am
end
section
namespace Go.Am
abbrev Mx3 := Int × Int × List Int
abbrev Aut := Int × Int × List Int × List (Int × Int × List Int) × List Int
def wOk (k : Nat) (w : List Int) : Prop := ∀ c ∈ w, 0 ≤ c ∧ c < (k : Int)
instance (k : Nat) (w : List Int) : Decidable (wOk k w) := inferInstanceAs (Decidable (∀ c ∈ w, 0 ≤ c ∧ c < (k : Int)))
def reachOk (x : Aut × List Int) : Prop := autOk x.1 = true ∧ wOk x.1.2.2.2.1.length x.2 ∧ x.2.length ≤ 1048576
instance (x : Aut × List Int) : Decidable (reachOk x) := by unfold reachOk; infer_instance
/-! ### good automata -/

structure AutOk (p : Int) (n : Nat) (a : List Int) (ms : List Mx3) (b : List Int) : Prop where
  pr : isPrimeI p = true
  hn : n ≤ 12
  al : a.length = n
  ap : allP p a
  bl : b.length = n
  bp : allP p b
  l1 : 1 ≤ ms.length
  l4 : ms.length ≤ 4
  hm : ∀ x ∈ ms, ∃ M : Mat, x = ((n : Int), (n : Int), genD n n M) ∧ inM p n n M

theorem AutOk.p {p : Int} {n : Nat} {a b : List Int} {ms : List Mx3} (h : AutOk p n a ms b) : pOk p := isPrimeI_t h.pr

section
variable {p : Int} {n : Nat} {a b : List Int} {ms : List Mx3}

end

end Go.Am
end
section
namespace Go.Am
/-! ### sums of automata -/

theorem fulI_nil {α : Type} : fulI 0 0 (lenN ([] : List α)) = some () := rfl
section
variable {p : Int} {n m : Nat} {a b a2 b2 : List Int} {ms ms2 : List Mx3}

end

section
variable {p sg : Int} {n m : Nat} {a b a2 b2 : List Int} {ms ms2 : List Mx3}

end

end Go.Am
end
section
namespace Go.Am
def nodeF (x a b : Int) : Int := if x = b then a else if b < x then x - 1 else x
def F_spec_l36Node : Int × Int × Int → Option Int := fun (x : Int × Int × Int) => if 0 ≤ x.1 ∧ x.1 ≤ 1048576 then some (nodeF x.1 x.2.1 x.2.2) else none
def F_impl_ContractEdge_1 : Int × Int × Int → Option Int := fun (x : Int × Int × Int) => if 0 ≤ x.1 ∧ x.1 ≤ 1048576 then some (nodeF x.1 x.2.2 x.2.1) else none
def moveE (a b : Int) (e : Int × Int) : Int × Int := (nodeF e.1 a b, nodeF e.2 a b)
def contE (n : Int) (d : List (Int × Int)) (e : Int × Int) : (Int × List (Int × Int)) × Bool :=
  if minI e.1 e.2 = maxI e.1 e.2 then ((n, d), true) else ((n - 1, d.map (moveE (minI e.1 e.2) (maxI e.1 e.2))), true)
def contR (n : Int) (l : List (Int × Int)) (k : Int) : (Int × List (Int × Int)) × Bool := if graphOk n l = true ∧ 0 ≤ k ∧ k < l.length then contE n (delE k l) (l.getD k.toNat (0, 0)) else ((0, []), false)
def F_spec_ContractEdge : (Int × List (Int × Int)) × Int → Option ((Int × List (Int × Int)) × Bool) := fun (x : (Int × List (Int × Int)) × Int) => if x.1.2.length ≤ 1048576 then some (contR x.1.1 x.1.2 x.2) else none
def F_impl_ContractEdge : (Int × List (Int × Int)) × Int → Option ((Int × List (Int × Int)) × Bool) := F_spec_ContractEdge

def ag_spec_l36Node : Sig := [(.one, [.int .i64]), (.one, [.int .i64]), (.one, [.int .i64])]
def rs_spec_l36Node : Sig := [(.one, [.int .i64])]
def mu_spec_l36Node : MSig := []
def ag_impl_ContractEdge_1 : Sig := [(.one, [.int .i64]), (.ptr, [.int .i64]), (.ptr, [.int .i64])]
def rs_impl_ContractEdge_1 : Sig := [(.one, [.int .i64])]
def mu_impl_ContractEdge_1 : MSig := []
def ag_spec_ContractEdge : Sig := [(.agg, [.int .i64, .list [.int .i64, .int .i64]]), (.one, [.int .i64])]
def rs_spec_ContractEdge : Sig := [(.agg, [.int .i64, .list [.int .i64, .int .i64]]), (.one, [.bool])]
def mu_spec_ContractEdge : MSig := []
def ag_impl_ContractEdge : Sig := [(.agg, [.int .i64, .list [.int .i64, .int .i64]]), (.one, [.int .i64])]
def rs_impl_ContractEdge : Sig := [(.agg, [.int .i64, .list [.int .i64, .int .i64]]), (.one, [.bool])]
def mu_impl_ContractEdge : MSig := []

def G_spec_l36Node (NN : Nat) : (Int × (Int × Int)) → (Option Int) :=
 (fun ((i0, i1, i2) : (Int × (Int × Int))) =>
 cnd (eqI i0 i2)
 (some i1)
 (cnd (ltI i2 i0)
 (some (subI .i64 i0 1))
 (some i0)))


def G_impl_ContractEdge_1 (NN : Nat) : (Int × (Int × Int)) → (Option Int) :=
 (fun ((i0, i1, i2) : (Int × (Int × Int))) =>
 cnd (eqI i0 i1)
 (some i2)
 (cnd (ltI i1 i0)
 (some (subI .i64 i0 1))
 (some i0)))


def G_spec_ContractEdge (NN : Nat) : ((Int × (List (Int × Int))) × Int) → (Option ((Int × (List (Int × Int))) × Bool)) :=
 (fun (((i0, l1), i2) : ((Int × (List (Int × Int))) × Int)) =>
 (F_spec_GraphOk (i0, l1)).bnd (fun b3 =>
 cnd (notB b3)
 (some (((0 : Int), ([] : List (Int × Int))), false))
 ((F_spec_l01In (i2, (0 : Int), subI .i64 (natI (lenN l1)) (1 : Int))).bnd (fun b4 =>
 cnd (notB b4)
 (some (((0 : Int), ([] : List (Int × Int))), false))
 ((getI l1 i2).bnd (fun (i5, i6) =>
 (getI l1 i2).bnd (fun (i7, i8) =>
 (getI l1 i2).bnd (fun (i9, i10) =>
 (getI l1 i2).bnd (fun (i11, i12) =>
 (F_spec_l36Delete ((i0, l1), i2)).bnd (fun (i13, l14) =>
 cnd (eqI (minI i5 i8) (maxI i9 i12))
 ((takI l14 (lenN l14)).bnd (fun l15 =>
 some ((i13, l15), true)))
 (joinK ((fulI 0 (lenN l14) (lenN l14)).bnd (fun _ =>
 (fulI 0 0 (lenN (([] : List (Int × Int))))).bnd (fun _ =>
 (fulI 0 (lenN l14) (lenN l14)).bnd (fun _ =>
 loopT NN (fun (((i16, i17, i18, i19), i20, i21, l22, l23) : ((Int × (Int × (Int × Int))) × (Int × (Int × ((List (Int × Int)) × (List (Int × Int))))))) =>
 cnd (ltI i19 i18)
 ((chkI i19 (lenN l23)).bnd (fun k24 =>
 (getN l23 (addN 0 k24)).bnd (fun (i25, i26) =>
 (F_spec_l36Node (i25, i16, i17)).bnd (fun i27 =>
 (F_spec_l36Node (i26, i16, i17)).bnd (fun i28 =>
 (chkI i19 (lenN l23)).bnd (fun k29 =>
 (getN l23 (addN 0 k29)).bnd (fun (i30, i31) =>
 (fulI 0 (lenN l23) (lenN (setL l23 (addN 0 k29) (i27, i28)))).bnd (fun _ =>
 (fulI 0 (lenN l22) (lenN l22)).bnd (fun _ =>
 (fulI 0 (lenN l23) (lenN (setL l23 (addN 0 k29) (i27, i28)))).bnd (fun _ =>
 some (Sum.inl ((i16, i17, i18, addI .i64 i19 1), i20, i21, l22, setL l23 (addN 0 k29) (i27, i28)))))))))))))
 (((fulI 0 (lenN l22) (lenN l22)).bnd (fun _ =>
 (fulI 0 (lenN l23) (lenN l23)).bnd (fun _ =>
 some (Sum.inl (i20, i21, l22, l23))))).bnd (fun l32 =>
 some (Sum.inr l32))))
 ((minI i5 i8, maxI i9 i12, natI (lenN l14), (0 : Int)), (0 : Int), subI .i64 i0 1, ([] : List (Int × Int)), l14)))))
 (fun (i33, i34, l35, l36) =>
 (takI l36 (lenN l36)).bnd (fun l37 =>
 some ((i34, l37), true))))))))))))))


def G_impl_ContractEdge (NN : Nat) : ((Int × (List (Int × Int))) × Int) → (Option ((Int × (List (Int × Int))) × Bool)) :=
 (fun (((i0, l1), i2) : ((Int × (List (Int × Int))) × Int)) =>
 (F_impl_DeleteEdge ((i0, l1), i2)).bnd (fun ((i3, l4), b5) =>
 cnd (notB b5)
 (some (((0 : Int), ([] : List (Int × Int))), false))
 ((getI l1 i2).bnd (fun (i6, i7) =>
 (getI l1 i2).bnd (fun (i8, i9) =>
 (getI l1 i2).bnd (fun (i10, i11) =>
 (getI l1 i2).bnd (fun (i12, i13) =>
 cnd (eqI (minI i6 i9) (maxI i10 i13))
 ((takI l4 (lenN l4)).bnd (fun l14 =>
 some ((i3, l14), true)))
 (joinK ((fulI 0 (lenN l4) (lenN l4)).bnd (fun _ =>
 (fulI 0 0 (lenN (([] : List (Int × Int))))).bnd (fun _ =>
 (fulI 0 (lenN l4) (lenN l4)).bnd (fun _ =>
 loopT NN (fun (((i15, i16), i17, i18, i19, i20, l21, l22) : ((Int × Int) × (Int × (Int × (Int × (Int × ((List (Int × Int)) × (List (Int × Int))))))))) =>
 cnd (ltI i16 i15)
 ((chkI i16 (lenN l22)).bnd (fun k23 =>
 (getN l22 (addN 0 k23)).bnd (fun (i24, i25) =>
 (F_impl_ContractEdge_1 (i24, i20, i19)).bnd (fun i26 =>
 (F_impl_ContractEdge_1 (i25, i20, i19)).bnd (fun i27 =>
 (chkI i16 (lenN l22)).bnd (fun k28 =>
 (getN l22 (addN 0 k28)).bnd (fun (i29, i30) =>
 (fulI 0 (lenN l22) (lenN (setL l22 (addN 0 k28) (i26, i27)))).bnd (fun _ =>
 (fulI 0 (lenN l21) (lenN l21)).bnd (fun _ =>
 (fulI 0 (lenN l22) (lenN (setL l22 (addN 0 k28) (i26, i27)))).bnd (fun _ =>
 some (Sum.inl ((i15, addI .i64 i16 1), i17, i18, i19, i20, l21, setL l22 (addN 0 k28) (i26, i27)))))))))))))
 (((fulI 0 (lenN l21) (lenN l21)).bnd (fun _ =>
 (fulI 0 (lenN l22) (lenN l22)).bnd (fun _ =>
 some (Sum.inl (i17, i18, l21, l22))))).bnd (fun l31 =>
 some (Sum.inr l31))))
 ((natI (lenN l4), (0 : Int)), (0 : Int), subI .i64 i3 1, minI i6 i9, maxI i10 i13, ([] : List (Int × Int)), l4)))))
 (fun (i32, i33, l34, l35) =>
 (takI l35 (lenN l35)).bnd (fun l36 =>
 some ((i33, l36), true)))))))))))


theorem graphOk_t {n : Int} {es : List (Int × Int)} (h : graphOk n es = true) : (0 ≤ n ∧ n ≤ 10) ∧ es.length ≤ 10 ∧ ∀ e ∈ es, (0 ≤ e.1 ∧ e.1 ≤ n - 1) ∧ (0 ≤ e.2 ∧ e.2 ≤ n - 1) := by
  simp only [graphOk, Bool.and_eq_true, decide_eq_true_eq, List.all_eq_true, edgeOk] at h
  exact ⟨h.1.1, h.1.2, h.2⟩

/-! ### contracted edges -/

theorem f_spec_l36Node (x : Int × Int × Int) (y : Int) (h : F_spec_l36Node x = some y) : G_spec_l36Node FUEL x = some y := by
  obtain ⟨x, a, b⟩ := x
  simp only [F_spec_l36Node] at h
  split at h
  · rename_i hc
    rw [← h]
    simp only [G_spec_l36Node, nodeF]
    by_cases h1 : x = b
    · rw [cnd_t (by simp [eqI, h1]), if_pos h1]
    · rw [cnd_f (by simp [eqI, h1]), if_neg h1]
      by_cases h2 : b < x
      · rw [cnd_t (ltI_t h2), if_pos h2, subI_eq (by omega) (by omega)]
      · rw [cnd_f (ltI_f (by omega)), if_neg h2]
  · cases h
theorem f_impl_ContractEdge_1 (x : Int × Int × Int) (y : Int) (h : F_impl_ContractEdge_1 x = some y) : G_impl_ContractEdge_1 FUEL x = some y := by
  obtain ⟨x, b, a⟩ := x
  simp only [F_impl_ContractEdge_1] at h
  split at h
  · rename_i hc
    rw [← h]
    simp only [G_impl_ContractEdge_1, nodeF]
    by_cases h1 : x = b
    · rw [cnd_t (by simp [eqI, h1]), if_pos h1]
    · rw [cnd_f (by simp [eqI, h1]), if_neg h1]
      by_cases h2 : b < x
      · rw [cnd_t (ltI_t h2), if_pos h2, subI_eq (by omega) (by omega)]
      · rw [cnd_f (ltI_f (by omega)), if_neg h2]
  · cases h

def mapTo {α : Type} (f : α → α) (d : List α) (i : Nat) : List α := (d.take i).map f ++ d.drop i
theorem mapTo_0 {α : Type} (f : α → α) (d : List α) : mapTo f d 0 = d := by simp [mapTo]
theorem mapTo_end {α : Type} (f : α → α) (d : List α) : mapTo f d d.length = d.map f := by simp [mapTo]
theorem mapTo_len {α : Type} (f : α → α) (d : List α) (i : Nat) : (mapTo f d i).length = d.length := by
  simp [mapTo]; omega
theorem mapTo_get {α : Type} {f : α → α} {d : List α} {i : Nat} (h : i < d.length) : (mapTo f d i)[i]? = some d[i] := by
  unfold mapTo
  rw [List.getElem?_append_right (by simp; omega)]
  simp only [List.length_map, List.length_take, Nat.min_eq_left (show i ≤ d.length by omega), Nat.sub_self]
  rw [List.drop_eq_getElem_cons h]
  rfl
theorem mapTo_set {α : Type} {f : α → α} {d : List α} {i : Nat} (h : i < d.length) : (mapTo f d i).set i (f d[i]) = mapTo f d (i + 1) := by
  unfold mapTo
  have hl : ((d.take i).map f).length = i := by simp; omega
  rw [List.set_append_right _ _ (by rw [hl]; exact Nat.le_refl i), hl, Nat.sub_self, List.drop_eq_getElem_cons h, List.set_cons_zero, List.take_add_one, List.getElem?_eq_getElem h, List.map_append]
  simp

theorem delE_mem (k : Int) : ∀ (l : List (Int × Int)) (i : Nat) (acc : List (Int × Int)) (e : Int × Int), e ∈ foldN (delStep k) i acc l → e ∈ acc ∨ e ∈ l
  | [], i, acc, e, h => .inl h
  | x :: l, i, acc, e, h => by
    have h' : e ∈ foldN (delStep k) (i + 1) (delStep k i acc x) l := h
    rcases delE_mem k l (i + 1) (delStep k i acc x) e h' with h1 | h1
    · unfold delStep at h1
      split at h1
      · exact .inl h1
      · rcases List.mem_append.1 h1 with h1 | h1
        · exact .inl h1
        · simp at h1; exact .inr (by simp [h1])
    · exact .inr (by simp [h1])

theorem minI_eqI (a b : Int) : eqI a b = decide (a = b) := by
  unfold eqI
  cases h : decide (a = b) with
  | true => simp at h; simp [h]
  | false => simp at h; simp [h]

section
variable {n : Int} {d : List (Int × Int)} {a b : Int}
theorem edge_in (hd : ∀ e ∈ d, (0 ≤ e.1 ∧ e.1 ≤ n - 1) ∧ (0 ≤ e.2 ∧ e.2 ≤ n - 1)) (hn : n ≤ 10) {i : Nat} (hi : i < d.length) : (0 ≤ d[i].1 ∧ d[i].1 ≤ 1048576) ∧ (0 ≤ d[i].2 ∧ d[i].2 ≤ 1048576) := by
  have := hd d[i] (List.getElem_mem hi)
  omega
end

theorem f_spec_ContractEdge (x : (Int × List (Int × Int)) × Int) (y : (Int × List (Int × Int)) × Bool) (h : F_spec_ContractEdge x = some y) : G_spec_ContractEdge FUEL x = some y := by
  obtain ⟨⟨n, l⟩, k⟩ := x
  simp only [F_spec_ContractEdge] at h
  split at h
  · rename_i hl
    rw [← h]
    simp only [G_spec_ContractEdge, F_spec_GraphOk, F_spec_l01In, bnd_s]
    unfold contR
    cases hg : graphOk n l with
    | false => rw [if_neg (by simp)]; rfl
    | true =>
      obtain ⟨hn, hle, he⟩ := graphOk_t hg
      rw [cnd_f (by rfl), nl, subI_eq (by omega) (by omega)]
      by_cases hk : 0 ≤ k ∧ k < (l.length : Int)
      rotate_left
      · rw [decide_eq_false (show ¬ (0 ≤ k ∧ k ≤ (l.length : Int) - 1) by omega), cnd_t (by rfl), if_neg (fun h => hk h.2)]
      rw [decide_eq_true (show 0 ≤ k ∧ k ≤ (l.length : Int) - 1 by omega), cnd_f (by rfl), if_pos ⟨rfl, hk⟩]
      obtain ⟨q, rfl⟩ := natI_eq hk.1
      have hq : q < l.length := by omega
      have hgk : getI l (q : Int) = some (l.getD q (0, 0)) := by rw [getI_nat, List.getElem?_eq_getElem hq]; simp [List.getD, hq]
      simp only [hgk, bnd_s, Int.toNat_natCast]
      generalize l.getD q (0, 0) = e
      rw [show F_spec_l36Delete ((n, l), (q : Int)) = some (n, delE q l) from if_pos (by omega), bnd_s]
      have hd : ∀ e ∈ delE q l, (0 ≤ e.1 ∧ e.1 ≤ n - 1) ∧ (0 ≤ e.2 ∧ e.2 ≤ n - 1) := fun e hm => by
        rcases delE_mem (q : Int) l 0 [] e hm with h | h
        · cases h
        · exact he e h
      have hdl : (delE q l).length ≤ 10 := Nat.le_trans (delE_len _ _) hle
      generalize delE q l = d at hd hdl
      obtain ⟨e1, e2⟩ := e
      simp only [contE, minI_eqI]
      by_cases hab : minI e1 e2 = maxI e1 e2
      · rw [decide_eq_true hab, if_pos hab, cnd_true, takI_id, bnd_s]
      · rw [decide_eq_false hab, if_neg hab, cnd_false]
        generalize minI e1 e2 = a
        generalize maxI e1 e2 = b
        simp only [fulI_id, fulI_nil, bnd_s, nl]
        rw [loopT_seq (fun i => ((a, b, (d.length : Int), (i : Int)), (0 : Int), subI .i64 n 1, ([] : List (Int × Int)), mapTo (moveE a b) d i)) d.length ?a1 ?a2 ?a3 (FUEL_gt (by omega))]
        case a3 => simp only [mapTo_0]; try rfl
        case a2 => simp only; rw [cnd_f (ltN_f (Nat.le_refl _))]; try (simp only [fulI_id, fulI_nil, bnd_s])
        case a1 =>
          intro i hi
          obtain ⟨q1, q2⟩ := edge_in hd hn.2 hi
          simp only
          rw [cnd_t (ltN_t hi), chkI_nat (show i < lenN (mapTo (moveE a b) d i) by show i < (mapTo _ d i).length; rw [mapTo_len]; exact hi), bnd_s]
          simp only [addN_0]
          rw [show getN (mapTo (moveE a b) d i) i = some d[i] from mapTo_get hi, bnd_s]
          have n1 : F_spec_l36Node (d[i].1, a, b) = some (nodeF d[i].1 a b) := if_pos q1
          have n2 : F_spec_l36Node (d[i].2, a, b) = some (nodeF d[i].2 a b) := if_pos q2
          rw [n1, bnd_s, n2, bnd_s, bnd_s, show getN (mapTo (moveE a b) d i) i = some d[i] from mapTo_get hi, bnd_s]
          rw [show setL (mapTo (moveE a b) d i) i (nodeF d[i].1 a b, nodeF d[i].2 a b) = mapTo (moveE a b) d (i + 1) from mapTo_set hi]
          have hf : fulI 0 (lenN (mapTo (moveE a b) d i)) (lenN (mapTo (moveE a b) d (i + 1))) = some () := fulI_ok (by show (mapTo _ d i).length = (mapTo _ d (i + 1)).length; rw [mapTo_len, mapTo_len])
          simp only [hf, fulI_id, bnd_s, addN1 (show i ≤ 1048577 by omega)]
        rw [joinK_l]
        simp only [takI_id, bnd_s, mapTo_end]
        rw [subI_eq (by omega) (by omega)]
  · cases h

theorem f_impl_ContractEdge (x : (Int × List (Int × Int)) × Int) (y : (Int × List (Int × Int)) × Bool) (h : F_impl_ContractEdge x = some y) : G_impl_ContractEdge FUEL x = some y := by
  obtain ⟨⟨n, l⟩, k⟩ := x
  simp only [F_impl_ContractEdge, F_spec_ContractEdge] at h
  split at h
  · rename_i hl
    rw [← h]
    simp only [G_impl_ContractEdge]
    rw [show F_impl_DeleteEdge ((n, l), k) = some (delR n l k) from if_pos hl, bnd_s]
    unfold contR delR
    by_cases hc : graphOk n l = true ∧ 0 ≤ k ∧ k < (l.length : Int)
    rotate_left
    · rw [if_neg hc, if_neg hc]; rfl
    rw [if_pos hc, if_pos hc]
    obtain ⟨hg, hk⟩ := hc
    obtain ⟨hn, hle, he⟩ := graphOk_t hg
    simp only
    rw [cnd_f (by rfl)]
    obtain ⟨q, rfl⟩ := natI_eq hk.1
    have hq : q < l.length := by omega
    have hgk : getI l (q : Int) = some (l.getD q (0, 0)) := by rw [getI_nat, List.getElem?_eq_getElem hq]; simp [List.getD, hq]
    simp only [hgk, bnd_s, Int.toNat_natCast]
    generalize l.getD q (0, 0) = e
    have hd : ∀ e ∈ delE q l, (0 ≤ e.1 ∧ e.1 ≤ n - 1) ∧ (0 ≤ e.2 ∧ e.2 ≤ n - 1) := fun e hm => by
      rcases delE_mem (q : Int) l 0 [] e hm with h | h
      · cases h
      · exact he e h
    have hdl : (delE q l).length ≤ 10 := Nat.le_trans (delE_len _ _) hle
    generalize delE q l = d at hd hdl
    obtain ⟨e1, e2⟩ := e
    simp only [contE, minI_eqI]
    by_cases hab : minI e1 e2 = maxI e1 e2
    · rw [decide_eq_true hab, if_pos hab, cnd_true, takI_id, bnd_s]
    · rw [decide_eq_false hab, if_neg hab, cnd_false]
      generalize minI e1 e2 = a
      generalize maxI e1 e2 = b
      simp only [fulI_id, fulI_nil, bnd_s, nl]
      rw [loopT_seq (fun i => (((d.length : Int), (i : Int)), (0 : Int), subI .i64 n 1, a, b, ([] : List (Int × Int)), mapTo (moveE a b) d i)) d.length ?a1 ?a2 ?a3 (FUEL_gt (by omega))]
      case a3 => simp only [mapTo_0]; try rfl
      case a2 => simp only; rw [cnd_f (ltN_f (Nat.le_refl _))]; try (simp only [fulI_id, fulI_nil, bnd_s])
      case a1 =>
        intro i hi
        obtain ⟨q1, q2⟩ := edge_in hd hn.2 hi
        simp only
        rw [cnd_t (ltN_t hi), chkI_nat (show i < lenN (mapTo (moveE a b) d i) by show i < (mapTo _ d i).length; rw [mapTo_len]; exact hi), bnd_s]
        simp only [addN_0]
        rw [show getN (mapTo (moveE a b) d i) i = some d[i] from mapTo_get hi, bnd_s]
        have n1 : F_impl_ContractEdge_1 (d[i].1, b, a) = some (nodeF d[i].1 a b) := if_pos q1
        have n2 : F_impl_ContractEdge_1 (d[i].2, b, a) = some (nodeF d[i].2 a b) := if_pos q2
        rw [n1, bnd_s, n2, bnd_s, bnd_s, show getN (mapTo (moveE a b) d i) i = some d[i] from mapTo_get hi, bnd_s]
        rw [show setL (mapTo (moveE a b) d i) i (nodeF d[i].1 a b, nodeF d[i].2 a b) = mapTo (moveE a b) d (i + 1) from mapTo_set hi]
        have hf : fulI 0 (lenN (mapTo (moveE a b) d i)) (lenN (mapTo (moveE a b) d (i + 1))) = some () := fulI_ok (by show (mapTo _ d i).length = (mapTo _ d (i + 1)).length; rw [mapTo_len, mapTo_len])
        simp only [hf, fulI_id, bnd_s, addN1 (show i ≤ 1048577 by omega)]
      rw [joinK_l]
      simp only [takI_id, bnd_s, mapTo_end]
      rw [subI_eq (by omega) (by omega)]
  · cases h
end Go.Am
end
section
namespace Go.Am
/-! ### the functions -/

def relab (b a : Int) (l : List Int) : List Int := l.map fun x => if x = b then a else x
def atI (l : List Int) (i : Int) : Int := l.getD i.toNat 0
def iotaI (n : Nat) : List Int := (List.range n).map fun i => ((i : Nat) : Int)
/-- The reference: the number of parts that are left, and each node's part. -/
def partStep (s : Nat) (i : Nat) (st : Int × List Int) (e : Int × Int) : Int × List Int :=
  if s.testBit i = true ∧ atI st.2 e.1 ≠ atI st.2 e.2 then (st.1 - 1, relab (atI st.2 e.2) (atI st.2 e.1) st.2) else st
def parts (n : Int) (es : List (Int × Int)) (s : Int) : Int × List Int := foldN (partStep s.toNat) 0 (n, iotaI n.toNat) es
def leastStep (s : Nat) (i : Nat) (l : List Int) (e : Int × Int) : List Int :=
  if s.testBit i = true then relab (max (atI l e.1) (atI l e.2)) (min (atI l e.1) (atI l e.2)) l else l
def fixes (l : List Int) : Int := ((List.range l.length).countP fun i => l.getD i 0 == (i : Int) : Nat)
/-! ### the functions do so -/

/-! ### parts -/

theorem iotaI_len (n : Nat) : (iotaI n).length = n := by simp [iotaI]
theorem relab_len (b a : Int) (l : List Int) : (relab b a l).length = l.length := by simp [relab]
theorem countP_succ (p : Nat → Bool) (j : Nat) : (List.range (j + 1)).countP p = (List.range j).countP p + (if p j = true then 1 else 0) := by
  rw [List.range_succ, List.countP_append, List.countP_singleton]

/-! ### the parts have as many as the fixed points -/

theorem countP_one (p q : Nat → Bool) (k : Nat) : ∀ n, k < n → (∀ i, i < n → i ≠ k → p i = q i) → p k = true → q k = false → (List.range n).countP p = (List.range n).countP q + 1
  | 0, h, _, _, _ => by omega
  | n + 1, h, hpq, h1, h2 => by
    rw [countP_succ, countP_succ]
    by_cases hk : k = n
    · subst hk
      rw [h1, h2]
      have : (List.range k).countP p = (List.range k).countP q := List.countP_congr fun i hi => by
        have := List.mem_range.1 hi
        rw [hpq i (by omega) (by omega)]
      rw [this]
      simp
    · rw [countP_one p q k n (by omega) (fun i hi => hpq i (by omega)) h1 h2, hpq n (by omega) (by omega)]
      omega

structure PInv (m : Nat) (l : List Int) (c : Int) (q : List Int) : Prop where
  ll : l.length = m
  lq : q.length = m
  same : ∀ i j : Nat, i < m → j < m → (l.getD i 0 = l.getD j 0 ↔ q.getD i 0 = q.getD j 0)
  low : ∀ i : Nat, i < m → 0 ≤ l.getD i 0 ∧ l.getD i 0 ≤ (i : Int) ∧ l.getD (l.getD i 0).toNat 0 = l.getD i 0
  cnt : fixes l = c

theorem relab_getD {b a : Int} {l : List Int} {i : Nat} (h : i < l.length) : (relab b a l).getD i 0 = if l.getD i 0 = b then a else l.getD i 0 := by
  simp [relab, List.getD, List.getElem?_map, List.getElem?_eq_getElem h]

theorem relab_self (b : Int) (l : List Int) : relab b b l = l := by
  unfold relab
  conv => rhs; rw [← List.map_id l]
  refine List.map_congr_left fun x _ => ?_
  split
  · rename_i h; exact h.symm
  · rfl

theorem merge_eq {b a x y : Int} : ((if x = b then a else x) = (if y = b then a else y)) ↔ (x = y ∨ ((x = b ∨ x = a) ∧ (y = b ∨ y = a))) := by
  constructor
  · intro h; split at h <;> split at h <;> omega
  · intro h; split <;> split <;> omega

theorem PInv.step {m : Nat} {l : List Int} {c : Int} {q : List Int} (h : PInv m l c q) {u v : Nat} (hu : u < m) (hv : v < m) {s i : Nat} :
    PInv m (leastStep s i l ((u : Int), (v : Int))) (partStep s i (c, q) ((u : Int), (v : Int))).1 (partStep s i (c, q) ((u : Int), (v : Int))).2 := by
  cases hb : s.testBit i with
  | false =>
    have e1 : leastStep s i l ((u : Int), (v : Int)) = l := if_neg (by rw [hb]; decide)
    have e2 : partStep s i (c, q) ((u : Int), (v : Int)) = (c, q) := if_neg (fun hh => by rw [hb] at hh; exact absurd hh.1 (by decide))
    rw [e1, e2]
    exact h
  | true =>
    have ep : q.getD u 0 = q.getD v 0 → partStep s i (c, q) ((u : Int), (v : Int)) = (c, q) := fun h => if_neg (fun hh => hh.2 h)
    have en : q.getD u 0 ≠ q.getD v 0 → partStep s i (c, q) ((u : Int), (v : Int)) = (c - 1, relab (q.getD v 0) (q.getD u 0) q) := fun h => if_pos ⟨hb, h⟩
    have el : leastStep s i l ((u : Int), (v : Int)) = relab (max (l.getD u 0) (l.getD v 0)) (min (l.getD u 0) (l.getD v 0)) l := if_pos hb
    obtain ⟨ll, lq, same, low, cnt⟩ := h
    by_cases hq : q.getD u 0 = q.getD v 0
    · have hl := (same u v hu hv).2 hq
      rw [ep hq, el, hl, Int.max_self, Int.min_self, relab_self]
      exact ⟨ll, lq, same, low, cnt⟩
    · have hl : l.getD u 0 ≠ l.getD v 0 := fun e => hq ((same u v hu hv).1 e)
      rw [en hq, el]
      obtain ⟨lu0, lu1, lu2⟩ := low u hu
      obtain ⟨lv0, lv1, lv2⟩ := low v hv
      -- lo and hi
      obtain ⟨lo, hi, e1, e2, hlt, hset, hlo0, hlo, hhi, hhim⟩ : ∃ lo hi : Nat, min (l.getD u 0) (l.getD v 0) = (lo : Int) ∧ max (l.getD u 0) (l.getD v 0) = (hi : Int) ∧ lo < hi ∧
          (∀ x : Int, (x = (hi : Int) ∨ x = (lo : Int)) ↔ (x = l.getD v 0 ∨ x = l.getD u 0)) ∧ lo < m ∧ l.getD lo 0 = (lo : Int) ∧ l.getD hi 0 = (hi : Int) ∧ hi < m := by
        obtain ⟨a, ha⟩ := natI_eq lu0
        obtain ⟨b, hb⟩ := natI_eq lv0
        rw [ha, Int.toNat_natCast] at lu2
        rw [hb, Int.toNat_natCast] at lv2
        rw [ha] at lu1 hl
        rw [hb] at lv1 hl
        rw [ha, hb]
        rcases Nat.lt_or_ge a b with hab | hab
        · exact ⟨a, b, by omega, by omega, hab, fun x => by omega, by omega, lu2, lv2, by omega⟩
        · exact ⟨b, a, by omega, by omega, by omega, fun x => by omega, by omega, lv2, lu2, by omega⟩
      rw [e1, e2]
      have gl : ∀ j, j < m → (relab (hi : Int) (lo : Int) l).getD j 0 = if l.getD j 0 = (hi : Int) then (lo : Int) else l.getD j 0 := fun j hj => relab_getD (by omega)
      have gq : ∀ j, j < m → (relab (q.getD v 0) (q.getD u 0) q).getD j 0 = if q.getD j 0 = q.getD v 0 then q.getD u 0 else q.getD j 0 := fun j hj => relab_getD (by omega)
      refine ⟨by rw [relab_len]; exact ll, by rw [relab_len]; exact lq, ?_, ?_, ?_⟩
      · intro x y hx hy
        rw [gl x hx, gl y hy, gq x hx, gq y hy, merge_eq, merge_eq, hset, hset, same x y hx hy, same x u hx hu, same x v hx hv, same y u hy hu, same y v hy hv]
      · intro x hx
        obtain ⟨h0, h1, h2⟩ := low x hx
        rw [gl x hx]
        by_cases hxh : l.getD x 0 = (hi : Int)
        · rw [if_pos hxh]
          refine ⟨by omega, by omega, ?_⟩
          rw [Int.toNat_natCast, gl lo hlo0, hlo, if_neg (by omega)]
        · rw [if_neg hxh]
          refine ⟨h0, h1, ?_⟩
          rw [gl _ (by omega), h2, if_neg hxh]
      · have hc := countP_one (fun j => l.getD j 0 == (j : Int)) (fun j => (relab (hi : Int) (lo : Int) l).getD j 0 == (j : Int)) hi m hhim ?_ (by rw [hhi]; simp) (by rw [gl hi hhim, if_pos hhi]; simp; omega)
        · unfold fixes at cnt ⊢
          rw [relab_len, ll]
          rw [ll, hc] at cnt
          omega
        · intro j hj hne
          rw [gl j hj]
          by_cases hjh : l.getD j 0 = (hi : Int)
          · rw [if_pos hjh, hjh, Bool.eq_iff_iff]
            simp only [beq_iff_eq]
            constructor
            · intro h; omega
            · intro h
              have : lo = j := by omega
              subst this
              omega
          · rw [if_neg hjh]

theorem iotaI_getD {m i : Nat} (h : i < m) : (iotaI m).getD i 0 = (i : Int) := by
  simp [iotaI, List.getD, List.getElem?_map, List.getElem?_range h]

theorem PInv.init (m : Nat) : PInv m (iotaI m) (m : Int) (iotaI m) := by
  refine ⟨iotaI_len m, iotaI_len m, fun _ _ _ _ => Iff.rfl, fun i hi => ?_, ?_⟩
  · rw [iotaI_getD hi, Int.toNat_natCast, iotaI_getD hi]
    omega
  · unfold fixes
    rw [iotaI_len]
    have : (List.range m).countP (fun i => (iotaI m).getD i 0 == (i : Int)) = (List.range m).length := by
      rw [List.countP_eq_length]
      intro i hi
      rw [iotaI_getD (List.mem_range.1 hi)]
      simp
    rw [this, List.length_range]

end Go.Am
end
section
namespace Go.Am

/-! ### sums over sets -/

def coverOk (r : Int × Int × Int) (g : Int × List (Int × Int)) (x : List Int) : Bool := ringOk r && (graphOk g.1 g.2 && elOk r x)
def spinOk (r : Int × Int × Int) (g : Int × List (Int × Int)) (q : Int) (x : List Int) : Bool := coverOk r g x && decide (1 ≤ q ∧ q ≤ 4)
def F_spec_l36Power : Int × Int → Option Int := fun ((q, n) : Int × Int) => if (0 ≤ q ∧ q ≤ 4) ∧ 0 ≤ n ∧ n ≤ 10 then some (q ^ n.toNat) else none
def F_impl_spinArgumentsOk : (Int × Int × Int) × (Int × List (Int × Int)) × Int × List Int → Option Bool := fun ((r, g, q, x) : (Int × Int × Int) × (Int × List (Int × Int)) × Int × List Int) => if x.length ≤ 9223372036854775806 then some (spinOk r g q x) else none
def F_spec_l36Fits : (Int × Int × Int) × (Int × List (Int × Int)) × Int × List Int → Option Bool := fun ((r, g, q, x) : (Int × Int × Int) × (Int × List (Int × Int)) × Int × List Int) => if x.length ≤ 9223372036854775806 then some (spinOk r g q x) else none
def ag_spec_l36Power : Sig := [(.one, [.int .i64]), (.one, [.int .i64])]
def rs_spec_l36Power : Sig := [(.one, [.int .i64])]
def mu_spec_l36Power : MSig := []
def ag_impl_spinArgumentsOk : Sig := [(.agg, [.int .i64, .int .i64, .int .i64]), (.agg, [.int .i64, .list [.int .i64, .int .i64]]), (.one, [.int .i64]), (.one, [.list [.int .i64]])]
def rs_impl_spinArgumentsOk : Sig := [(.one, [.bool])]
def mu_impl_spinArgumentsOk : MSig := []
def ag_spec_l36Fits : Sig := [(.agg, [.int .i64, .int .i64, .int .i64]), (.agg, [.int .i64, .list [.int .i64, .int .i64]]), (.one, [.int .i64]), (.one, [.list [.int .i64]])]
def rs_spec_l36Fits : Sig := [(.one, [.bool])]
def mu_spec_l36Fits : MSig := []
def G_spec_l36Power (NN : Nat) : (Int × Int) → (Option Int) :=
 (fun ((i0, i1) : (Int × Int)) =>
 joinK (loopT NN (fun ((i2, i3, i4) : (Int × (Int × Int))) =>
 cnd (ltI (0 : Int) i3)
 (some (Sum.inl (i2, subI .i64 i3 1, mulI .i64 i4 i2)))
 (some (Sum.inr (Sum.inl i4))))
 (i0, i1, (1 : Int)))
 (fun i5 =>
 some i5))


def G_impl_spinArgumentsOk (NN : Nat) : ((Int × (Int × Int)) × ((Int × (List (Int × Int))) × (Int × (List Int)))) → (Option Bool) :=
 (fun (((i0, i1, i2), (i3, l4), i5, l6) : ((Int × (Int × Int)) × ((Int × (List (Int × Int))) × (Int × (List Int))))) =>
 (F_impl_RingOk (i0, i1, i2)).bnd (fun b7 =>
 cnd (b7)
 ((F_impl_GraphOk (i3, l4)).bnd (fun b8 =>
 cnd (b8)
 ((F_impl_ElemOk ((i0, i1, i2), l6)).bnd (fun b9 =>
 cnd (b9)
 (cnd (leI (1 : Int) i5)
 (some (leI i5 (4 : Int)))
 (some false))
 (some false)))
 (some false)))
 (some false)))


def G_spec_l36Fits (NN : Nat) : ((Int × (Int × Int)) × ((Int × (List (Int × Int))) × (Int × (List Int)))) → (Option Bool) :=
 (fun (((i0, i1, i2), (i3, l4), i5, l6) : ((Int × (Int × Int)) × ((Int × (List (Int × Int))) × (Int × (List Int))))) =>
 (F_spec_ElemOk ((i0, i1, i2), l6)).bnd (fun b7 =>
 cnd (b7)
 ((F_spec_GraphOk (i3, l4)).bnd (fun b8 =>
 cnd (b8)
 ((F_spec_l01In (i5, (1 : Int), (4 : Int))).bnd (fun b9 =>
 some b9))
 (some false)))
 (some false)))


/-! ### numbers of members -/

theorem f_spec_l36Power (x : Int × Int) (z : Int) (h : F_spec_l36Power x = some z) : G_spec_l36Power FUEL x = some z := by
  obtain ⟨q, n⟩ := x
  simp only [F_spec_l36Power] at h
  split at h
  · rename_i hc
    obtain ⟨hq, hn⟩ := hc
    obtain ⟨n, rfl⟩ := natI_eq hn.1
    rw [← h]
    have hb : ∀ i, i ≤ 10 → 0 ≤ q ^ i ∧ q ^ i ≤ 1048576 := by
      intro i hi
      obtain ⟨m, rfl⟩ := natI_eq hq.1
      have h1 : m ^ i ≤ 4 ^ i := Nat.pow_le_pow_left (by omega) i
      have h2 : 4 ^ i ≤ 4 ^ 10 := Nat.pow_le_pow_right (by decide) hi
      have e : ((m ^ i : Nat) : Int) = (m : Int) ^ i := by push_cast; rfl
      rw [← e]
      omega
    simp only [G_spec_l36Power, Int.toNat_natCast]
    rw [loopT_seq (fun i => (q, ((n - i : Nat) : Int), q ^ i)) (r := Sum.inl (q ^ n)) n ?a1 ?a2 ?a3 (FUEL_gt (by omega))]
    · rw [joinK_l]
    case a3 => rw [Nat.sub_zero, Int.pow_zero]
    case a2 =>
      simp only
      rw [cnd_f (ltI_f (by omega))]
    case a1 =>
      intro i hi
      have b1 := hb i (by omega)
      have b2 := hb (i + 1) (by omega)
      rw [Int.pow_succ] at b2
      simp only
      rw [cnd_t (ltI_t (by omega)), subI_eq (by omega) (by omega), mulI_eq (by omega) (by omega), Int.pow_succ, show ((n - i : Nat) : Int) - 1 = ((n - (i + 1) : Nat) : Int) by omega]
  · cases h

theorem f_impl_spinArgumentsOk (x : (Int × Int × Int) × (Int × List (Int × Int)) × Int × List Int) (z : Bool) (h : F_impl_spinArgumentsOk x = some z) : G_impl_spinArgumentsOk FUEL x = some z := by
  obtain ⟨⟨k, p, n⟩, ⟨gn, es⟩, q, x⟩ := x
  simp only [F_impl_spinArgumentsOk] at h
  split at h
  · rename_i hl
    rw [← h]
    simp only [G_impl_spinArgumentsOk, F_impl_RingOk, F_impl_GraphOk, bnd_s, spinOk, coverOk, leI_d, cnd_dec]
    rw [show F_impl_ElemOk ((k, p, n), x) = some (ringOk (k, p, n) && elOk (k, p, n) x) from if_pos hl, bnd_s]
    have e : (if 1 ≤ q then some (decide (q ≤ 4)) else some false) = some (decide (1 ≤ q ∧ q ≤ 4)) := by
      by_cases h1 : 1 ≤ q <;> simp [h1]
    rw [e]
    cases ringOk (k, p, n) <;> cases graphOk gn es <;> cases elOk (k, p, n) x <;> rfl
  · cases h
theorem f_spec_l36Fits (x : (Int × Int × Int) × (Int × List (Int × Int)) × Int × List Int) (z : Bool) (h : F_spec_l36Fits x = some z) : G_spec_l36Fits FUEL x = some z := by
  obtain ⟨⟨k, p, n⟩, ⟨gn, es⟩, q, x⟩ := x
  simp only [F_spec_l36Fits] at h
  split at h
  · rename_i hl
    rw [← h]
    simp only [G_spec_l36Fits, F_spec_GraphOk, F_spec_l01In, bnd_s, spinOk, coverOk]
    rw [show F_spec_ElemOk ((k, p, n), x) = some (ringOk (k, p, n) && elOk (k, p, n) x) from if_pos hl, bnd_s]
    cases ringOk (k, p, n) <;> cases graphOk gn es <;> cases elOk (k, p, n) x <;> rfl
  · cases h

theorem cover_t {r : Int × Int × Int} {g : Int × List (Int × Int)} {x : List Int} (h : coverOk r g x = true) : ringOk r = true ∧ graphOk g.1 g.2 = true ∧ elOk r x = true := by
  simpa [coverOk] using h
end Go.Am
end
section
namespace Go.Am

/-! ### the laws of rings -/


def cS (om : Bool) (w : Nat) (x y : Nat → Int) (t : Nat) : Int := sm w (fun i => sm w (fun j => kW om x y t i j))
def pc (x y : Nat → Int) (t : Nat) : Int := sm (t + 1) (fun i => x i * y (t - i))

theorem sm_zero : ∀ (n : Nat) {f : Nat → Int}, (∀ i, i < n → f i = 0) → sm n f = 0
  | 0, _, _ => rfl
  | n + 1, f, h => by simp only [sm]; rw [sm_zero n (fun i hi => h i (by omega)), h n (by omega)]; rfl
theorem sm_at {a : Nat} {f : Nat → Int} : ∀ (n : Nat), a < n → (∀ i, i < n → i ≠ a → f i = 0) → sm n f = f a
  | 0, h, _ => by omega
  | n + 1, h, hf => by
    simp only [sm]
    by_cases e : a = n
    · subst e
      rw [sm_zero a (fun i hi => hf i (by omega) (by omega))]; omega
    · rw [sm_at n (by omega) (fun i hi hne => hf i (by omega) hne), hf n (by omega) (by omega)]; omega
theorem sm_cut {m : Nat} {f : Nat → Int} : ∀ (n : Nat), m ≤ n → (∀ i, i < n → m ≤ i → f i = 0) → sm n f = sm m f
  | 0, h, _ => by rw [show m = 0 by omega]
  | n + 1, h, hf => by
    by_cases e : m = n + 1
    · rw [e]
    · simp only [sm]
      rw [sm_cut n (by omega) (fun i hi hm => hf i (by omega) hm), hf n (by omega) (by omega)]; omega
theorem cS_pc {w t : Nat} (x y : Nat → Int) (h : t < w) : cS false w x y t = pc x y t := by
  have hin : ∀ i, i < w → sm w (fun j => kW false x y t i j) = if i ≤ t then x i * y (t - i) else 0 := by
    intro i hi
    split
    · rename_i hit
      rw [sm_at (a := t - i) w (by omega) (fun j hj hne => by unfold kW; rw [if_neg (by omega), if_neg (by simp)])]
      unfold kW
      rw [if_pos (by omega)]
    · exact sm_zero w fun j hj => by unfold kW; rw [if_neg (by omega), if_neg (by simp)]
  unfold cS pc
  rw [sm_congr hin, sm_cut (m := t + 1) w (by omega) (fun i hi hm => if_neg (by omega))]
  exact sm_congr fun i hi => if_pos (by omega)

theorem cS_congr {om : Bool} {w t : Nat} {x x' y y' : Nat → Int} (hx : ∀ i, i < w → x i = x' i) (hy : ∀ i, i < w → y i = y' i) : cS om w x y t = cS om w x' y' t :=
  sm_congr fun i hi => sm_congr fun j hj => by unfold kW; rw [hx i hi, hy j hj]

theorem co_0 (x y : Nat → Int) : cS true 4 x y 0 = x 0 * y 0 - x 1 * y 3 - x 2 * y 2 - x 3 * y 1 := by simp [cS, sm, kW]; grind
theorem co_1 (x y : Nat → Int) : cS true 4 x y 1 = x 0 * y 1 + x 1 * y 0 - x 2 * y 3 - x 3 * y 2 := by simp [cS, sm, kW]; grind
theorem co_2 (x y : Nat → Int) : cS true 4 x y 2 = x 0 * y 2 + x 1 * y 1 + x 2 * y 0 - x 3 * y 3 := by simp [cS, sm, kW]; grind
theorem co_3 (x y : Nat → Int) : cS true 4 x y 3 = x 0 * y 3 + x 1 * y 2 + x 2 * y 1 + x 3 * y 0 := by simp [cS, sm, kW]
theorem cvE_eq (p : Int) (om : Bool) (w : Nat) (x y : Nat → Int) : cvE p om w x y = tab w fun t => cS om w x y t % p := rfl
theorem cv_of {r : Int × Int × Int} (h : r.1 = 7 ∨ r.1 = 8) (x y : List Int) : mulE r x y = cvE r.2.1 (decide (r.1 = 8)) (widN r) (fnL x) (fnL y) := if_pos h

theorem min_mul {a b c p : Int} (hp : 0 ≤ p) (ha : 0 ≤ a) (hb : 0 ≤ b) (hc : 0 ≤ c) : min (min (a * b) p * c) p = min (a * b * c) p := by
  generalize hm : a * b = m
  by_cases h : m ≤ p
  · rw [show min m p = m by omega]
  · rw [show min m p = p by omega]
    by_cases h0 : c = 0
    · subst h0; simp
    · have h1 : p * 1 ≤ p * c := Int.mul_le_mul_of_nonneg_left (by omega) hp
      have h2 : p * c ≤ m * c := Int.mul_le_mul_of_nonneg_right (by omega) hc
      omega

theorem wid1 {r : Int × Int × Int} (hk : ¬ (r.1 = 7 ∨ r.1 = 8)) : widN r = 1 := by
  obtain ⟨k, p, n⟩ := r
  simp only at hk
  simp only [widN, widI]
  rw [if_neg (by omega), if_neg (by omega)]
  rfl

theorem fnL_one {k p n : Int} (hk : k = 7 ∨ k = 8) {j : Nat} (hj : j < widN (k, p, n)) : fnL (oneE (k, p, n)) j = if j = 0 then 1 else 0 := by
  rw [oneE_tab, fnL_tab _ hj, if_neg (show ¬ k = 4 by omega), if_neg (show ¬ (k = 5 ∨ k = 6) by omega)]

theorem cS_0 {k p : Int} {w : Nat} (c : CfR k p w) (u : Nat → Int) (v : Int) {t : Nat} (h : t < w) : cS (decide (k = 8)) w u (fun j => if j = 0 then v else 0) t = u t * v := by
  by_cases h8 : k = 8
  · obtain rfl := c.w8 h8
    rw [decide_eq_true h8]
    match t, h with
    | 0, _ => rw [co_0]; simp
    | 1, _ => rw [co_1]; simp
    | 2, _ => rw [co_2]; simp
    | 3, _ => rw [co_3]; simp
  · rw [decide_eq_false h8, cS_pc _ _ h]
    unfold pc
    rw [sm_at (a := t) (t + 1) (by omega) (fun i hi hne => by simp only; rw [if_neg (by omega), Int.mul_zero])]
    simp only
    rw [if_pos (by omega)]

theorem opM_one {k p n : Int} (hr : ringOk (k, p, n) = true) (hk : ¬ (k = 7 ∨ k = 8)) {a : Int} (ha : 0 ≤ a ∧ a ≤ topI (k, p, n)) : opM (k, p, n) a (if k = 4 then 0 else if k = 5 ∨ k = 6 then topI (k, p, n) else 1) = a := by
  rcases ring_cases hr with ⟨rfl, rfl, rfl⟩ | ⟨rfl, hp, rfl⟩ | ⟨rfl, hp, rfl⟩ | ⟨rfl, hp, rfl⟩ | ⟨rfl, hp, rfl⟩ | ⟨rfl, rfl, hn⟩ | ⟨rfl, hp, hn⟩ | ⟨rfl, hp, hp2, rfl⟩
  · have e : topI (1, 0, 0) = 1 := rfl
    have h1 : a = 0 ∨ a = 1 := by omega
    rcases h1 with rfl | rfl <;> decide
  · have e : topI (2, p, 0) = p - 1 := rfl
    have := isPrimeI_t hp
    show a * 1 % p = a
    rw [Int.mul_one, Int.emod_eq_of_lt (by omega) (by omega)]
  · have e : topI (3, p, 0) = p := rfl
    show min (a * 1) p = a
    omega
  · have e : topI (4, p, 0) = p := rfl
    show min (a + 0) p = a
    omega
  · have e : topI (5, p, 0) = p := rfl
    show min a p = a
    omega
  · have e : topI (6, 0, n) = 2 ^ n.toNat - 1 := rfl
    have e2 : (((2 : Nat) ^ n.toNat : Nat) : Int) = (2 : Int) ^ n.toNat := by push_cast; rfl
    show ((a.toNat &&& (2 ^ n.toNat - 1 : Int).toNat : Nat) : Int) = a
    rw [show (2 ^ n.toNat - 1 : Int).toNat = 2 ^ n.toNat - 1 by omega, Nat.and_two_pow_sub_one_eq_mod, Nat.mod_eq_of_lt (by omega)]
    omega
  · omega
  · omega

theorem mul_one {r : Int × Int × Int} {x : List Int} (hr : ringOk r = true) (hx : elOk r x = true) : mulE r x (oneE r) = x := by
  obtain ⟨k, p, n⟩ := r
  by_cases hk : k = 7 ∨ k = 8
  · have c := cf_of hr hk
    rw [cv_of hk, cvE_eq]
    simp only
    have hT : topI (k, p, n) = p - 1 := by
      simp only [topI]
      rw [if_neg (by omega), if_neg (by omega), if_neg (by omega)]
    refine (tab_congr fun t ht => ?_).trans (tab_fnL (el_len hx))
    rw [cS_congr (x' := fnL x) (y' := fun j => if j = 0 then 1 else 0) (fun _ _ => rfl) (fun i hi => fnL_one hk hi), cS_0 c _ _ ht, Int.mul_one]
    have := el_at hx ht
    rw [hT] at this
    exact Int.emod_eq_of_lt this.1 (by omega)
  · have hw := wid1 (r := (k, p, n)) hk
    obtain ⟨e, ha⟩ := el_one hx hw
    have e1 : oneE (k, p, n) = [if k = 4 then 0 else if k = 5 ∨ k = 6 then topI (k, p, n) else 1] := by simp only [oneE]; exact rep_set hw
    rw [e, e1, mulE_1 hk, opM_one hr hk ha]

/-! ### numbers as elements -/

theorem cntV_tab {k p n : Int} (hk : k = 7 ∨ k = 8) (m : Int) : cntV (k, p, n) m = tab (widN (k, p, n)) fun j => if j = 0 then m % p else 0 := by
  simp only [cntV]
  rw [if_neg (by omega), if_pos (by omega), oneE_tab, show setL (tab (widN (k, p, n)) _) 0 (m % p) = _ from tab_set _ 0 _]
  refine tab_congr fun j _ => ?_
  by_cases h : j = 0
  · rw [if_pos h, if_pos h]
  · rw [if_neg h, if_neg h, if_neg h]
def cntW : Int × Int × Int → Int → Int := fun ((k, p, n) : Int × Int × Int) m => if k = 3 then min m p else if k = 2 then m % p else if k = 4 then 0 else if k = 5 ∨ k = 6 then topI (k, p, n) else 1
theorem cntV_1 {k p n : Int} (hk : ¬ (k = 7 ∨ k = 8)) (m : Int) : cntV (k, p, n) m = [cntW (k, p, n) m] := by
  have hw := wid1 (r := (k, p, n)) hk
  have e1 : oneE (k, p, n) = [if k = 4 then 0 else if k = 5 ∨ k = 6 then topI (k, p, n) else 1] := by simp only [oneE]; exact rep_set hw
  simp only [cntV, cntW, e1]
  by_cases h3 : k = 3
  · rw [if_pos h3, if_pos h3]; rfl
  rw [if_neg h3, if_neg h3]
  by_cases h2 : k = 2
  · rw [if_pos (.inl h2), if_pos h2]; rfl
  rw [if_neg (by omega), if_neg h2]

theorem cntW_in {k p n : Int} (hr : ringOk (k, p, n) = true) (hk : ¬ (k = 7 ∨ k = 8)) {m : Int} (hm : 0 ≤ m) : 0 ≤ cntW (k, p, n) m ∧ cntW (k, p, n) m ≤ topI (k, p, n) := by
  have h1 := top_1 hr
  rcases ring_cases hr with ⟨rfl, rfl, rfl⟩ | ⟨rfl, hp, rfl⟩ | ⟨rfl, hp, rfl⟩ | ⟨rfl, hp, rfl⟩ | ⟨rfl, hp, rfl⟩ | ⟨rfl, rfl, hn⟩ | ⟨rfl, hp, hn⟩ | ⟨rfl, hp, hp2, rfl⟩
  · have o : cntW (1, 0, 0) m = 1 := rfl
    have e : topI (1, 0, 0) = 1 := rfl
    omega
  · have e : topI (2, p, 0) = p - 1 := rfl
    have := isPrimeI_t hp
    have q0 := Int.emod_nonneg m (b := p) (by omega)
    have q1 := Int.emod_lt_of_pos m (b := p) (by omega)
    have o : cntW (2, p, 0) m = m % p := rfl
    omega
  · have e : topI (3, p, 0) = p := rfl
    have o : cntW (3, p, 0) m = min m p := rfl
    omega
  · have e : topI (4, p, 0) = p := rfl
    have o : cntW (4, p, 0) m = 0 := rfl
    omega
  · have o : cntW (5, p, 0) m = topI (5, p, 0) := rfl
    omega
  · have o : cntW (6, 0, n) m = topI (6, 0, n) := rfl
    omega
  · omega
  · omega
theorem el_cntV {r : Int × Int × Int} (hr : ringOk r = true) {m : Int} (hm : 0 ≤ m) : elOk r (cntV r m) = true := by
  obtain ⟨k, p, n⟩ := r
  by_cases hk : k = 7 ∨ k = 8
  · rw [cntV_tab hk]
    have hp := (cf_of hr hk).cp
    have hT : topI (k, p, n) = p - 1 := by
      simp only [topI]
      rw [if_neg (by omega), if_neg (by omega), if_neg (by omega)]
    refine el_mk fun j _ => ?_
    rw [hT]
    have q0 := Int.emod_nonneg m (b := p) (by omega)
    have q1 := Int.emod_lt_of_pos m (b := p) (by omega)
    split <;> omega
  · rw [cntV_1 hk]
    have := cntW_in hr hk hm
    simp [elOk, wid1 (r := (k, p, n)) hk, inTop, this]
theorem el_cntE {r : Int × Int × Int} (hr : ringOk r = true) {m : Int} (hm : 0 ≤ m) : elOk r (cntE r m) = true := by
  unfold cntE
  split
  · exact el_zero hr
  · exact el_cntV hr hm

theorem cntW_mul {k p n : Int} (hr : ringOk (k, p, n) = true) (hk : ¬ (k = 7 ∨ k = 8)) {a b : Int} (ha : 1 ≤ a) (hb : 1 ≤ b) : opM (k, p, n) (cntW (k, p, n) a) (cntW (k, p, n) b) = cntW (k, p, n) (a * b) := by
  rcases ring_cases hr with ⟨rfl, rfl, rfl⟩ | ⟨rfl, hp, rfl⟩ | ⟨rfl, hp, rfl⟩ | ⟨rfl, hp, rfl⟩ | ⟨rfl, hp, rfl⟩ | ⟨rfl, rfl, hn⟩ | ⟨rfl, hp, hn⟩ | ⟨rfl, hp, hp2, rfl⟩
  · have o : ∀ m, cntW (1, 0, 0) m = 1 := fun _ => rfl
    rw [o, o, o]; rfl
  · show (a % p) * (b % p) % p = a * b % p
    rw [← Int.mul_emod]
  · show min (min a p * min b p) p = min (a * b) p
    have h1 := min_mul (a := a) (b := 1) (c := min b p) (p := p) (by omega) (by omega) (by omega) (by omega)
    have h2 := min_mul (a := b) (b := 1) (c := a) (p := p) (by omega) (by omega) (by omega) (by omega)
    rw [Int.mul_one] at h1 h2
    rw [h1, Int.mul_comm a (min b p), h2, Int.mul_comm b a]
  · show min (0 + 0) p = 0
    omega
  · show min p p = p
    omega
  · show (((topI (6, 0, n)).toNat &&& (topI (6, 0, n)).toNat : Nat) : Int) = topI (6, 0, n)
    have := top_bd hr
    rw [Nat.and_self]; omega
  · omega
  · omega
theorem cntV_mul {r : Int × Int × Int} (hr : ringOk r = true) {a b : Int} (ha : 1 ≤ a) (hb : 1 ≤ b) : mulE r (cntV r a) (cntV r b) = cntV r (a * b) := by
  obtain ⟨k, p, n⟩ := r
  by_cases hk : k = 7 ∨ k = 8
  · have c := cf_of hr hk
    rw [cv_of hk, cvE_eq, cntV_tab hk, cntV_tab hk, cntV_tab hk]
    simp only
    refine tab_congr fun t ht => ?_
    rw [cS_congr (x' := fun j => if j = 0 then a % p else 0) (y' := fun j => if j = 0 then b % p else 0) (fun i hi => fnL_tab _ hi) (fun i hi => fnL_tab _ hi), cS_0 c _ _ ht]
    by_cases h : t = 0
    · rw [if_pos h, if_pos h, ← Int.mul_emod]
    · rw [if_neg h, if_neg h, Int.zero_mul]; rfl
  · rw [cntV_1 hk, cntV_1 hk, cntV_1 hk, mulE_1 hk, cntW_mul hr hk ha hb]
theorem cntV_one {r : Int × Int × Int} (hr : ringOk r = true) : oneE r = cntV r 1 := by
  obtain ⟨k, p, n⟩ := r
  by_cases hk : k = 7 ∨ k = 8
  · have hp := (cf_of hr hk).cp
    rw [cntV_tab hk, oneE_tab]
    refine tab_congr fun j _ => ?_
    rw [if_neg (show ¬ k = 4 by omega), if_neg (show ¬ (k = 5 ∨ k = 6) by omega), Int.emod_eq_of_lt (by omega) (by omega)]
  · rw [cntV_1 hk]
    have hw := wid1 (r := (k, p, n)) hk
    have e1 : oneE (k, p, n) = [if k = 4 then 0 else if k = 5 ∨ k = 6 then topI (k, p, n) else 1] := by simp only [oneE]; exact rep_set hw
    rw [e1]
    congr 1
    rcases ring_cases hr with ⟨rfl, rfl, rfl⟩ | ⟨rfl, hp, rfl⟩ | ⟨rfl, hp, rfl⟩ | ⟨rfl, hp, rfl⟩ | ⟨rfl, hp, rfl⟩ | ⟨rfl, rfl, hn⟩ | ⟨rfl, hp, hn⟩ | ⟨rfl, hp, hp2, rfl⟩
    · rfl
    · have := isPrimeI_t hp
      show (1 : Int) = 1 % p
      rw [Int.emod_eq_of_lt (by omega) (by omega)]
    · show (1 : Int) = min 1 p
      omega
    · rfl
    · rfl
    · rfl
    · omega
    · omega
theorem cnt_pow {r : Int × Int × Int} (hr : ringOk r = true) {q : Int} (hq : 1 ≤ q) : ∀ m : Nat, powE r (cntE r q) m = cntV r (q ^ m) ∧ 1 ≤ q ^ m
  | 0 => ⟨by rw [Int.pow_zero]; exact cntV_one hr, by rw [Int.pow_zero]; omega⟩
  | m + 1 => by
    obtain ⟨h1, h2⟩ := cnt_pow hr hq m
    rw [powE, h1, cntE, if_neg (by omega), cntV_mul hr h2 hq, ← Int.pow_succ]
    refine ⟨rfl, ?_⟩
    rw [Int.pow_succ]
    have := Int.mul_le_mul (a := 1) (b := 1) (c := q ^ m) (d := q) h2 hq (by omega) (by omega)
    omega

/-! ### sums over sets of edges -/

theorem spin_t {r : Int × Int × Int} {g : Int × List (Int × Int)} {q : Int} {x : List Int} (h : spinOk r g q x = true) : ringOk r = true ∧ graphOk g.1 g.2 = true ∧ elOk r x = true ∧ 1 ≤ q ∧ q ≤ 4 := by
  simp only [spinOk, Bool.and_eq_true, decide_eq_true_eq] at h
  exact ⟨(cover_t h.1).1, (cover_t h.1).2.1, (cover_t h.1).2.2, h.2⟩
end Go.Am
end
section
namespace Go.Am

/-! ### the sum by edges -/

def remG (g : Int × List (Int × Int)) : Int × List (Int × Int) := (g.1, delE ((g.2.length - 1 : Nat) : Int) g.2)
def conG (g : Int × List (Int × Int)) : Int × List (Int × Int) := (contE g.1 (delE ((g.2.length - 1 : Nat) : Int) g.2) (g.2.getD (g.2.length - 1) (0, 0))).1
def spinTo (r : Int × Int × Int) (q : Int) (x : List Int) : Nat → Int × List (Int × Int) → List Int
  | 0, g => powE r (cntE r q) g.1.toNat
  | m + 1, g => if g.2.length = 0 then powE r (cntE r q) g.1.toNat else addE r (spinTo r q x m (remG g)) (mulE r x (spinTo r q x m (conG g)))
def spinE (r : Int × Int × Int) (g : Int × List (Int × Int)) (q : Int) (x : List Int) : List Int := if spinOk r g q x = true then spinTo r q x g.2.length g else []
def Fr_impl_SpinByEdges (k : Nat) : (Int × Int × Int) × (Int × List (Int × Int)) × Int × List Int → Option (List Int) := fun ((r, g, q, x) : (Int × Int × Int) × (Int × List (Int × Int)) × Int × List Int) => if 1 ≤ k ∧ x.length ≤ 9223372036854775806 ∧ g.2.length ≤ 1048576 ∧ (spinOk r g q x = true → g.2.length < k) then some (spinE r g q x) else none
def Fr_spec_SpinByEdges (k : Nat) : (Int × Int × Int) × (Int × List (Int × Int)) × Int × List Int → Option (List Int) := Fr_impl_SpinByEdges k
def F_impl_SpinByEdges : (Int × Int × Int) × (Int × List (Int × Int)) × Int × List Int → Option (List Int) := Fr_impl_SpinByEdges 12
def F_spec_SpinByEdges : (Int × Int × Int) × (Int × List (Int × Int)) × Int × List Int → Option (List Int) := Fr_spec_SpinByEdges 12

def ag_impl_SpinByEdges : Sig := [(.agg, [.int .i64, .int .i64, .int .i64]), (.agg, [.int .i64, .list [.int .i64, .int .i64]]), (.one, [.int .i64]), (.one, [.list [.int .i64]])]
def rs_impl_SpinByEdges : Sig := [(.one, [.list [.int .i64]])]
def mu_impl_SpinByEdges : MSig := []
def ag_spec_SpinByEdges : Sig := [(.agg, [.int .i64, .int .i64, .int .i64]), (.agg, [.int .i64, .list [.int .i64, .int .i64]]), (.one, [.int .i64]), (.one, [.list [.int .i64]])]
def rs_spec_SpinByEdges : Sig := [(.one, [.list [.int .i64]])]
def mu_spec_SpinByEdges : MSig := []

def G_impl_SpinByEdges (k NN : Nat) : ((Int × (Int × Int)) × ((Int × (List (Int × Int))) × (Int × (List Int)))) → (Option (List Int)) :=
 (fun (((i0, i1, i2), (i3, l4), i5, l6) : ((Int × (Int × Int)) × ((Int × (List (Int × Int))) × (Int × (List Int))))) =>
 (F_impl_spinArgumentsOk ((i0, i1, i2), (i3, l4), i5, l6)).bnd (fun b7 =>
 cnd (notB b7)
 (some (([] : List Int)))
 (cnd (eqI (natI (lenN l4)) (0 : Int))
 ((F_impl_CountElem ((i0, i1, i2), i5)).bnd (fun l8 =>
 (winI l8 0 (lenN l8)).bnd (fun l9 =>
 (F_impl_rawPow ((i0, i1, i2), l9, i3)).bnd (fun l10 =>
 (takI l10 (lenN l10)).bnd (fun l11 =>
 some l11)))))
 ((F_impl_DeleteEdge ((i3, l4), subI .i64 (natI (lenN l4)) (1 : Int))).bnd (fun ((i12, l13), b14) =>
 (F_impl_ContractEdge ((i3, l4), subI .i64 (natI (lenN l4)) (1 : Int))).bnd (fun ((i15, l16), b17) =>
 (winI l13 0 (lenN l13)).bnd (fun l18 =>
 (Fr_impl_SpinByEdges k ((i0, i1, i2), (i12, l18), i5, l6)).bnd (fun l19 =>
 (winI l16 0 (lenN l16)).bnd (fun l20 =>
 (Fr_impl_SpinByEdges k ((i0, i1, i2), (i15, l20), i5, l6)).bnd (fun l21 =>
 (winI l21 0 (lenN l21)).bnd (fun l22 =>
 (F_impl_rawMul ((i0, i1, i2), l6, l22)).bnd (fun l23 =>
 (fulI 0 (lenN l19) (lenN l19)).bnd (fun _ =>
 (winI l23 0 (lenN l23)).bnd (fun l24 =>
 (F_impl_addInto ((i0, i1, i2), l19, l24)).bnd (fun l25 =>
 (takI l25 (lenN l19)).bnd (fun l26 =>
 some l26))))))))))))))))


def G_spec_SpinByEdges (k NN : Nat) : ((Int × (Int × Int)) × ((Int × (List (Int × Int))) × (Int × (List Int)))) → (Option (List Int)) :=
 (fun (((i0, i1, i2), (i3, l4), i5, l6) : ((Int × (Int × Int)) × ((Int × (List (Int × Int))) × (Int × (List Int))))) =>
 (F_spec_l36Fits ((i0, i1, i2), (i3, l4), i5, l6)).bnd (fun b7 =>
 cnd (notB b7)
 (some (([] : List Int)))
 (cnd (ltI (subI .i64 (natI (lenN l4)) (1 : Int)) (0 : Int))
 ((F_spec_l36Power (i5, i3)).bnd (fun i8 =>
 (F_spec_CountElem ((i0, i1, i2), i8)).bnd (fun l9 =>
 (takI l9 (lenN l9)).bnd (fun l10 =>
 some l10))))
 ((F_spec_ContractEdge ((i3, l4), subI .i64 (natI (lenN l4)) (1 : Int))).bnd (fun ((i11, l12), b13) =>
 (F_spec_l36Delete ((i3, l4), subI .i64 (natI (lenN l4)) (1 : Int))).bnd (fun (i14, l15) =>
 (winI l15 0 (lenN l15)).bnd (fun l16 =>
 (Fr_spec_SpinByEdges k ((i0, i1, i2), (i14, l16), i5, l6)).bnd (fun l17 =>
 (winI l12 0 (lenN l12)).bnd (fun l18 =>
 (Fr_spec_SpinByEdges k ((i0, i1, i2), (i11, l18), i5, l6)).bnd (fun l19 =>
 (winI l19 0 (lenN l19)).bnd (fun l20 =>
 (F_spec_l02Mul ((i0, i1, i2), l6, l20)).bnd (fun l21 =>
 (winI l17 0 (lenN l17)).bnd (fun l22 =>
 (winI l21 0 (lenN l21)).bnd (fun l23 =>
 (F_spec_l02Add ((i0, i1, i2), l22, l23)).bnd (fun l24 =>
 (takI l24 (lenN l24)).bnd (fun l25 =>
 some l25))))))))))))))))


theorem delE_go (k : Nat) : ∀ (l : List (Int × Int)) (i : Nat) (acc : List (Int × Int)), foldN (delStep (k : Int)) i acc l = acc ++ (if i ≤ k then l.eraseIdx (k - i) else l)
  | [], i, acc => by simp [foldN]
  | e :: l, i, acc => by
    rw [foldN, delE_go k l (i + 1)]
    by_cases h : i = k
    · subst h
      rw [delStep_t rfl, if_neg (by omega), if_pos (Nat.le_refl _), Nat.sub_self]
      rfl
    · rw [delStep_f (by omega)]
      by_cases h2 : i ≤ k
      · rw [if_pos (by omega), if_pos h2, show k - i = (k - (i + 1)) + 1 by omega]
        simp
      · rw [if_neg (by omega), if_neg h2]
        simp
theorem delE_last {l : List (Int × Int)} (h : l.length ≠ 0) : (delE ((l.length - 1 : Nat) : Int) l).length = l.length - 1 ∧ ∀ e ∈ delE ((l.length - 1 : Nat) : Int) l, e ∈ l := by
  have e : delE ((l.length - 1 : Nat) : Int) l = l.eraseIdx (l.length - 1) := by
    unfold delE
    rw [delE_go, if_pos (Nat.zero_le _), Nat.sub_zero]
    rfl
  rw [e]
  refine ⟨?_, fun e he => List.mem_of_mem_eraseIdx he⟩
  rw [List.length_eraseIdx_of_lt (by omega)]

theorem graphOk_mk {n : Int} {es : List (Int × Int)} (h1 : 0 ≤ n ∧ n ≤ 10) (h2 : es.length ≤ 10) (h3 : ∀ e ∈ es, (0 ≤ e.1 ∧ e.1 ≤ n - 1) ∧ (0 ≤ e.2 ∧ e.2 ≤ n - 1)) : graphOk n es = true := by
  simp only [graphOk, Bool.and_eq_true, decide_eq_true_eq, List.all_eq_true, edgeOk]
  exact ⟨⟨h1, h2⟩, h3⟩

theorem remG_ok {g : Int × List (Int × Int)} (h : graphOk g.1 g.2 = true) (h0 : g.2.length ≠ 0) : graphOk (remG g).1 (remG g).2 = true ∧ (remG g).2.length = g.2.length - 1 := by
  obtain ⟨a, b, c⟩ := graphOk_t h
  obtain ⟨d1, d2⟩ := delE_last h0
  refine ⟨graphOk_mk a ?_ fun e he => c e (d2 e he), d1⟩
  show (delE _ _).length ≤ 10
  omega

theorem nodeF_in {x a b n : Int} (hx : 0 ≤ x ∧ x ≤ n - 1) (ha : 0 ≤ a) (hab : a < b) (hb : b ≤ n - 1) : 0 ≤ nodeF x a b ∧ nodeF x a b ≤ n - 1 - 1 := by
  unfold nodeF
  split
  · omega
  · split <;> omega

theorem conG_ok {g : Int × List (Int × Int)} (h : graphOk g.1 g.2 = true) (h0 : g.2.length ≠ 0) : graphOk (conG g).1 (conG g).2 = true ∧ (conG g).2.length = g.2.length - 1 := by
  obtain ⟨a, b, c⟩ := graphOk_t h
  obtain ⟨d1, d2⟩ := delE_last h0
  obtain ⟨e0, he0⟩ : ∃ e, g.2[g.2.length - 1]? = some e := ⟨_, List.getElem?_eq_getElem (by omega)⟩
  have hg : g.2.getD (g.2.length - 1) (0, 0) = e0 := by rw [List.getD_eq_getElem?_getD, he0]; rfl
  have hm := c e0 (List.mem_of_getElem? he0)
  unfold conG contE
  rw [hg]
  split
  · exact ⟨graphOk_mk a (by simp only; omega) fun e he => c e (d2 e he), d1⟩
  · rename_i hne
    rw [minI_eq', maxI_eq'] at hne ⊢
    refine ⟨graphOk_mk (by simp only; omega) (by simp only [List.length_map]; omega) fun e he => ?_, by simp only [List.length_map]; exact d1⟩
    simp only [List.mem_map] at he
    obtain ⟨e', he', rfl⟩ := he
    have hm' := c e' (d2 e' he')
    exact ⟨nodeF_in hm'.1 (by omega) (by omega) (by omega), nodeF_in hm'.2 (by omega) (by omega) (by omega)⟩

theorem spinOk_sub {r : Int × Int × Int} {g g' : Int × List (Int × Int)} {q : Int} {x : List Int} (h : spinOk r g q x = true) (hg : graphOk g'.1 g'.2 = true) : spinOk r g' q x = true := by
  obtain ⟨h1, h2, h3, h4⟩ := spin_t h
  simp [spinOk, coverOk, h1, hg, h3, h4]

theorem el_spinTo {r : Int × Int × Int} {q : Int} {x : List Int} (hr : ringOk r = true) (hx : elOk r x = true) (hq : 1 ≤ q) : ∀ (m : Nat) (g : Int × List (Int × Int)), elOk r (spinTo r q x m g) = true
  | 0, g => el_pow hr (el_cntE hr (by omega)) _
  | m + 1, g => by
    rw [spinTo]
    split
    · exact el_pow hr (el_cntE hr (by omega)) _
    · exact el_add hr (el_spinTo hr hx hq m _) (el_mul hr hx (el_spinTo hr hx hq m _))

theorem spinE_step {r : Int × Int × Int} {g : Int × List (Int × Int)} {q : Int} {x : List Int} (h : spinOk r g q x = true) (h0 : g.2.length ≠ 0) : spinE r g q x = addE r (spinE r (remG g) q x) (mulE r x (spinE r (conG g) q x)) := by
  obtain ⟨h1, h2, h3, h4⟩ := spin_t h
  obtain ⟨a1, a2⟩ := remG_ok h2 h0
  obtain ⟨b1, b2⟩ := conG_ok h2 h0
  unfold spinE
  rw [if_pos h, if_pos (spinOk_sub h a1), if_pos (spinOk_sub h b1), a2, b2]
  obtain ⟨m, hm⟩ : ∃ m, g.2.length = m + 1 := ⟨g.2.length - 1, by omega⟩
  rw [hm, spinTo, if_neg h0, Nat.add_sub_cancel]
theorem spinE_base {r : Int × Int × Int} {g : Int × List (Int × Int)} {q : Int} {x : List Int} (h : spinOk r g q x = true) (h0 : g.2.length = 0) : spinE r g q x = powE r (cntE r q) g.1.toNat := by
  unfold spinE
  rw [if_pos h, h0]
  rfl
theorem el_spinE {r : Int × Int × Int} {g : Int × List (Int × Int)} {q : Int} {x : List Int} (h : spinOk r g q x = true) : elOk r (spinE r g q x) = true := by
  obtain ⟨h1, h2, h3, h4, _⟩ := spin_t h
  unfold spinE
  rw [if_pos h]
  exact el_spinTo h1 h3 h4 _ _

theorem contR_last {g : Int × List (Int × Int)} (h : graphOk g.1 g.2 = true) (h0 : g.2.length ≠ 0) : contR g.1 g.2 ((g.2.length - 1 : Nat) : Int) = (conG g, true) := by
  unfold contR conG
  rw [if_pos ⟨h, by omega, by omega⟩, Int.toNat_natCast]
  unfold contE
  split <;> rfl
theorem delR_last {g : Int × List (Int × Int)} (h : graphOk g.1 g.2 = true) (h0 : g.2.length ≠ 0) : delR g.1 g.2 ((g.2.length - 1 : Nat) : Int) = (remG g, true) := by
  unfold delR remG
  rw [if_pos ⟨h, by omega, by omega⟩]

theorem f_impl_SpinByEdges (k : Nat) (x : (Int × Int × Int) × (Int × List (Int × Int)) × Int × List Int) (z : List Int) (h : Fr_impl_SpinByEdges (k + 1) x = some z) : G_impl_SpinByEdges k FUEL x = some z := by
  obtain ⟨⟨kk, p, n⟩, ⟨gn, es⟩, q, x⟩ := x
  simp only [Fr_impl_SpinByEdges] at h
  split at h
  · rename_i hl
    obtain ⟨_, hl, hl2, hk⟩ := hl
    rw [← h]
    simp only [G_impl_SpinByEdges]
    rw [show F_impl_spinArgumentsOk ((kk, p, n), (gn, es), q, x) = some (spinOk (kk, p, n) (gn, es) q x) from if_pos hl, bnd_s]
    cases hc : spinOk (kk, p, n) (gn, es) q x with
    | false => rw [cnd_t (b := notB false) rfl, spinE, if_neg (by rw [hc]; simp)]
    | true =>
      have hk := hk hc
      obtain ⟨hr, hg, hx, hq, hq4⟩ := spin_t hc
      simp only at hg
      obtain ⟨hn, hes, _⟩ := graphOk_t hg
      rw [cnd_f notB_t, cnd_eqI, nl]
      by_cases h0 : es.length = 0
      · rw [if_pos (by omega), spinE_base hc h0, show F_impl_CountElem ((kk, p, n), q) = some (cntE (kk, p, n) q) from congrArg some (if_pos ⟨hr, by omega⟩), bnd_s, winI_id, bnd_s]
        rw [show F_impl_rawPow ((kk, p, n), cntE (kk, p, n) q, gn) = some (powE (kk, p, n) (cntE (kk, p, n) q) gn.toNat) from if_pos ⟨⟨hr, el_cntE hr (by omega)⟩, hn.1, by omega⟩, bnd_s, takI_id, bnd_s]
      · rw [if_neg (by omega), subI_eq (by omega) (by omega), show (es.length : Int) - 1 = ((es.length - 1 : Nat) : Int) by omega]
        rw [show F_impl_DeleteEdge ((gn, es), ((es.length - 1 : Nat) : Int)) = some (remG (gn, es), true) from (if_pos hl2).trans (congrArg some (delR_last (g := (gn, es)) hg h0)), bnd_s]
        rw [show F_impl_ContractEdge ((gn, es), ((es.length - 1 : Nat) : Int)) = some (conG (gn, es), true) from (if_pos (c := es.length ≤ 1048576) hl2).trans (congrArg some (contR_last (g := (gn, es)) hg h0)), bnd_s]
        simp only
        obtain ⟨a1, a2⟩ := remG_ok (g := (gn, es)) hg h0
        obtain ⟨b1, b2⟩ := conG_ok (g := (gn, es)) hg h0
        have ha := spinOk_sub hc a1
        have hb := spinOk_sub hc b1
        simp only at a2 b2 hk
        rw [winI_id, bnd_s, show Fr_impl_SpinByEdges k ((kk, p, n), ((remG (gn, es)).1, (remG (gn, es)).2), q, x) = some (spinE (kk, p, n) (remG (gn, es)) q x) from if_pos ⟨by omega, hl, by simp only; omega, fun _ => by simp only; omega⟩, bnd_s]
        rw [winI_id, bnd_s, show Fr_impl_SpinByEdges k ((kk, p, n), ((conG (gn, es)).1, (conG (gn, es)).2), q, x) = some (spinE (kk, p, n) (conG (gn, es)) q x) from if_pos ⟨by omega, hl, by simp only; omega, fun _ => by simp only; omega⟩, bnd_s]
        have e1 := el_spinE ha
        have e2 := el_spinE hb
        have em := el_mul hr hx e2
        rw [winI_id, bnd_s, show F_impl_rawMul ((kk, p, n), x, spinE (kk, p, n) (conG (gn, es)) q x) = some (mulE (kk, p, n) x (spinE (kk, p, n) (conG (gn, es)) q x)) from if_pos ⟨hr, hx, e2⟩, bnd_s, fulI_id, bnd_s, winI_id, bnd_s]
        rw [show F_impl_addInto ((kk, p, n), spinE (kk, p, n) (remG (gn, es)) q x, mulE (kk, p, n) x (spinE (kk, p, n) (conG (gn, es)) q x)) = some (spinE (kk, p, n) (gn, es) q x) from (if_pos ⟨hr, e1, em⟩).trans (congrArg some (spinE_step hc h0).symm), bnd_s]
        rw [takI_len (by rw [el_len (el_spinE hc)]; exact (el_len e1).symm), bnd_s]
  · cases h

theorem f_spec_SpinByEdges (k : Nat) (x : (Int × Int × Int) × (Int × List (Int × Int)) × Int × List Int) (z : List Int) (h : Fr_spec_SpinByEdges (k + 1) x = some z) : G_spec_SpinByEdges k FUEL x = some z := by
  obtain ⟨⟨kk, p, n⟩, ⟨gn, es⟩, q, x⟩ := x
  simp only [Fr_spec_SpinByEdges, Fr_impl_SpinByEdges] at h
  split at h
  · rename_i hl
    obtain ⟨_, hl, hl2, hk⟩ := hl
    rw [← h]
    simp only [G_spec_SpinByEdges]
    rw [show F_spec_l36Fits ((kk, p, n), (gn, es), q, x) = some (spinOk (kk, p, n) (gn, es) q x) from if_pos hl, bnd_s]
    cases hc : spinOk (kk, p, n) (gn, es) q x with
    | false => rw [cnd_t (b := notB false) rfl, spinE, if_neg (by rw [hc]; simp)]
    | true =>
      have hk := hk hc
      obtain ⟨hr, hg, hx, hq, hq4⟩ := spin_t hc
      simp only at hg
      obtain ⟨hn, hes, _⟩ := graphOk_t hg
      rw [cnd_f notB_t, nl, subI_eq (by omega) (by omega)]
      by_cases h0 : es.length = 0
      · obtain ⟨c1, c2⟩ := cnt_pow hr hq gn.toNat
        rw [cnd_t (ltI_t (by omega)), spinE_base hc h0, show F_spec_l36Power (q, gn) = some (q ^ gn.toNat) from if_pos ⟨⟨by omega, hq4⟩, hn⟩, bnd_s]
        rw [show F_spec_CountElem ((kk, p, n), q ^ gn.toNat) = some (cntE (kk, p, n) (q ^ gn.toNat)) from congrArg some (if_pos ⟨hr, by omega⟩), bnd_s, takI_id, bnd_s, c1, cntE, if_neg (by omega)]
      · rw [cnd_f (ltI_f (by omega)), show (es.length : Int) - 1 = ((es.length - 1 : Nat) : Int) by omega]
        rw [show F_spec_ContractEdge ((gn, es), ((es.length - 1 : Nat) : Int)) = some (conG (gn, es), true) from (if_pos (c := es.length ≤ 1048576) hl2).trans (congrArg some (contR_last (g := (gn, es)) hg h0)), bnd_s]
        rw [show F_spec_l36Delete ((gn, es), ((es.length - 1 : Nat) : Int)) = some (remG (gn, es)) from if_pos hl2, bnd_s]
        simp only
        obtain ⟨a1, a2⟩ := remG_ok (g := (gn, es)) hg h0
        obtain ⟨b1, b2⟩ := conG_ok (g := (gn, es)) hg h0
        have ha := spinOk_sub hc a1
        have hb := spinOk_sub hc b1
        simp only at a2 b2 hk
        rw [winI_id, bnd_s, show Fr_spec_SpinByEdges k ((kk, p, n), ((remG (gn, es)).1, (remG (gn, es)).2), q, x) = some (spinE (kk, p, n) (remG (gn, es)) q x) from if_pos ⟨by omega, hl, by simp only; omega, fun _ => by simp only; omega⟩, bnd_s]
        rw [winI_id, bnd_s, show Fr_spec_SpinByEdges k ((kk, p, n), ((conG (gn, es)).1, (conG (gn, es)).2), q, x) = some (spinE (kk, p, n) (conG (gn, es)) q x) from if_pos ⟨by omega, hl, by simp only; omega, fun _ => by simp only; omega⟩, bnd_s]
        have e1 := el_spinE ha
        have e2 := el_spinE hb
        have em := el_mul hr hx e2
        rw [winI_id, bnd_s, show F_spec_l02Mul ((kk, p, n), x, spinE (kk, p, n) (conG (gn, es)) q x) = some (mulE (kk, p, n) x (spinE (kk, p, n) (conG (gn, es)) q x)) from if_pos ⟨hr, hx, e2⟩, bnd_s, winI_id, bnd_s, winI_id, bnd_s]
        rw [show F_spec_l02Add ((kk, p, n), spinE (kk, p, n) (remG (gn, es)) q x, mulE (kk, p, n) x (spinE (kk, p, n) (conG (gn, es)) q x)) = some (spinE (kk, p, n) (gn, es) q x) from (if_pos ⟨hr, e1, em⟩).trans (congrArg some (spinE_step hc h0).symm), bnd_s]
        rw [takI_id, bnd_s]
  · cases h

theorem fz_impl_SpinByEdges (x : (Int × Int × Int) × (Int × List (Int × Int)) × Int × List Int) (z : List Int) : ¬ Fr_impl_SpinByEdges 0 x = some z := by
  intro h
  simp only [Fr_impl_SpinByEdges] at h
  rw [if_neg (fun hc => by have := hc.1; omega)] at h
  cases h
theorem fz_spec_SpinByEdges (x : (Int × Int × Int) × (Int × List (Int × Int)) × Int × List Int) (z : List Int) : ¬ Fr_spec_SpinByEdges 0 x = some z := fz_impl_SpinByEdges x z
end Go.Am
end
