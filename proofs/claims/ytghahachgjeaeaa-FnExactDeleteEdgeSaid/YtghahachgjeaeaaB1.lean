/- B1: sizes, copies and comparisons of the laws' data. No condition. -/
import Derived.Test.YtghahachgjeaeaaB0
set_option linter.unusedVariables false
set_option linter.unusedSimpArgs false
namespace Go.Am

theorem lenN_setL {α : Type} (l : List α) (k : Nat) (x : α) : lenN (setL l k x) = lenN l := by simp [lenN, setL]
theorem lenN_appL {α : Type} (l r : List α) : lenN (appL l r) = addN (lenN l) (lenN r) := by simp [lenN, appL, addN]
theorem lenN_repL {α : Type} (n : Nat) (x : α) : lenN (repL n x) = n := by simp [lenN, repL]
theorem fitI_ok {n k : Nat} (h : n * k ≤ maxBytes) : fitI n k = some () := if_pos h
theorem addN_0 (k : Nat) : addN 0 k = k := by simp [addN]
theorem win1 {α : Type} (x : α) : winI [x] 0 1 = some [x] := rfl
theorem chkI_len {α : Type} {l : List α} {i : Nat} {a : α} (h : l[i]? = some a) : chkI (i : Int) (lenN l) = some i := chkI_nat (lt_of_get h)

theorem minI_eq' (a b : Int) : minI a b = min a b := by unfold minI; split <;> omega
theorem maxI_eq' (a b : Int) : maxI a b = max a b := by unfold maxI; split <;> omega
theorem neI_d (a b : Int) : neI a b = !decide (a = b) := by by_cases h : a = b <;> simp [neI, h]
theorem le_sum_mem {n : Nat} : ∀ {l : List Nat}, n ∈ l → n ≤ l.sum
  | [], h => by cases h
  | a :: l, h => by
    rw [List.sum_cons]
    rcases List.mem_cons.1 h with rfl | h
    · omega
    · have := le_sum_mem h; omega

/-! ### sizes -/

def szR (s : Nat) (k : Int) : Int := if (s : Int) ≤ k then k - s else -1
theorem szR_t {s : Nat} {k : Int} (h : (s : Int) ≤ k) : szR s k = k - s := if_pos h
theorem szR_f {s : Nat} {k : Int} (h : ¬ (s : Int) ≤ k) : szR s k = -1 := if_neg h
def kOk (k : Int) : Prop := 0 ≤ k ∧ k ≤ 1048576
instance (k : Int) : Decidable (kOk k) := inferInstanceAs (Decidable (0 ≤ k ∧ k ≤ 1048576))

theorem szK {o : Option Int} {s : Nat} {k : Int} {f : Int → Option Int} (ho : o = some (szR s k)) : o.bnd (fun i => cnd (ltI i 0) (some (-1)) (f i)) = if (s : Int) ≤ k then f (k - s) else some (-1) := by
  rw [ho, bnd_s]
  unfold szR
  by_cases h : (s : Int) ≤ k
  · rw [if_pos h, if_pos h, cnd_f (ltI_f (by omega))]
  · rw [if_neg h, if_neg h, cnd_t (ltI_t (by omega))]

theorem sz_fold {α : Type} (sz : α → Nat) : ∀ (l : List α) (i : Nat) (k : Int), 0 ≤ k → (match foldO (fun _ (k : Int) e => if (sz e : Int) ≤ k then some (k - sz e) else none) i k l with | some k' => k' | none => -1) = szR (l.map sz).sum k
  | [], i, k, hk => by simp [foldO, szR, hk]
  | e :: l, i, k, hk => by
    rw [foldO]
    by_cases h : (sz e : Int) ≤ k
    · rw [if_pos h]
      simp only
      rw [sz_fold sz l (i + 1) (k - sz e) (by omega)]
      simp only [szR, List.map_cons, List.sum_cons]
      by_cases h2 : ((l.map sz).sum : Int) ≤ k - sz e
      · rw [if_pos h2, if_pos (by omega)]; omega
      · rw [if_neg h2, if_neg (by omega)]
    · rw [if_neg h]
      simp only [szR, List.map_cons, List.sum_cons]
      rw [if_neg (by omega)]

theorem sz_loop {α : Type} (F : α × Int → Option Int) (sz : α → Nat) (l : List α) (hl : l.length ≤ 9223372036854775807) (hF : ∀ e ∈ l, ∀ k, kOk k → F (e, k) = some (szR (sz e) k)) (k : Int) (hk : kOk k) :
    cnd (ltI (subI .i64 k (natI (lenN l))) 0) (some (-1)) (joinK (loopT FUEL (fun (s : List α × Int × Int) => cnd (ltI s.2.2 (natI (lenN s.1))) ((getI s.1 s.2.2).bnd fun e => (F (e, s.2.1)).bnd fun i => cnd (ltI i 0) (some (.inr (.inr (-1)))) (some (.inl (s.1, i, addI .i64 s.2.2 1)))) (some (.inr (.inl s.2.1)))) (l, subI .i64 k (natI (lenN l)), 0)) (fun i => some i)) = some (szR (l.length + (l.map sz).sum) k) := by
  obtain ⟨k0, k1⟩ := hk
  have hn := nl l
  rw [subI_eq (by omega) (by omega)]
  by_cases h : k < l.length
  · rw [cnd_t (ltI_t (by omega)), szR, if_neg (by omega)]
  rw [cnd_f (ltI_f (by omega))]
  rw [loopT_foldO l (fun (r : Int) i => (l, r, (i : Int))) (fun _ r => kOk r) (fun _ (k : Int) e => if (sz e : Int) ≤ k then some (k - sz e) else none) (Sum.inr (-1)) (fun r => Sum.inl r) ?_ ?_ ?_ (s := k - natI (lenN l)) ⟨by omega, by omega⟩ ?_ (FUEL_gt (by omega))]
  · have := sz_fold sz l 0 (k - natI (lenN l)) (by omega)
    have e : szR (l.length + (l.map sz).sum) k = szR (l.map sz).sum (k - natI (lenN l)) := by
      simp only [szR]
      by_cases h2 : ((l.map sz).sum : Int) ≤ k - natI (lenN l)
      · rw [if_pos h2, if_pos (by omega)]; omega
      · rw [if_neg h2, if_neg (by omega)]
    rw [e, ← this]
    cases foldO (fun _ (k : Int) e => if (sz e : Int) ≤ k then some (k - sz e) else none) 0 (k - natI (lenN l)) l <;> rfl
  · intro i r e r' ha hr hs
    split at hs
    · rename_i hle
      injection hs with hs
      subst hs
      simp only
      rw [cnd_t (ltI_in ha), getI_nat, ha, bnd_s, hF e (List.mem_of_getElem? ha) r hr, bnd_s, szR, if_pos hle, cnd_f (ltI_f (by omega)), next_i ha (by omega)]
      exact ⟨rfl, by have := hr.1; have := hr.2; constructor <;> omega⟩
    · cases hs
  · intro i r e ha hr hs
    split at hs
    · cases hs
    · rename_i hle
      simp only
      rw [cnd_t (ltI_in ha), getI_nat, ha, bnd_s, hF e (List.mem_of_getElem? ha) r hr, bnd_s, szR, if_neg hle, cnd_t (ltI_t (by omega))]
  · intro r _
    simp only
    rw [cnd_f (ltI_end l)]
  · rfl

/-! ### copies -/

def fillTo {α : Type} (z : α) (l : List α) (i : Nat) : List α := l.take i ++ List.replicate (l.length - i) z

theorem fill_loop {α Y : Type} {f : (List α × Int) × List α → Option (((List α × Int) × List α) ⊕ Y)} (l : List α) (z : α) {r : Y}
    (h1 : ∀ (i : Nat) e ys, l[i]? = some e → ys.length = l.length → ys[i]? = some z → f ((l, (i : Int)), ys) = some (.inl ((l, ((i + 1 : Nat) : Int)), ys.set i e)))
    (h2 : f ((l, (l.length : Int)), l) = some (.inr r)) (hl : l.length < 18446744073709551616) : loopT FUEL f ((l, 0), repL (lenN l) z) = some r := by
  refine loopT_seq (fun i => ((l, (i : Int)), fillTo z l i)) l.length ?_ ?_ ?_ (FUEL_gt hl)
  · intro j hj
    obtain ⟨e, he⟩ : ∃ e, l[j]? = some e := ⟨_, List.getElem?_eq_getElem hj⟩
    rw [h1 j e _ he (by simp [fillTo]; omega)]
    · have : (fillTo z l j).set j e = fillTo z l (j + 1) := by
        unfold fillTo
        rw [List.set_append_right _ _ (by simp; omega), List.take_add_one, he, show l.length - j = (l.length - (j + 1)) + 1 by omega, List.replicate_succ]
        simp only [List.length_take, show j - min j l.length = 0 by omega, List.set_cons_zero, Option.toList_some, List.append_assoc, List.cons_append, List.nil_append]
      rw [this]
    · unfold fillTo
      rw [List.getElem?_append_right (by simp; omega)]
      simp only [List.length_take, show j - min j l.length = 0 by omega]
      rw [List.getElem?_replicate, if_pos (by omega)]
  · have : fillTo z l l.length = l := by simp [fillTo]
    rw [this]
    exact h2
  · simp [fillTo, repL, lenN]

/-! ### comparisons -/

theorem eq_loop {α : Type} [DecidableEq α] (E : α × α → Option Bool) (l r : List α) (hE : ∀ a ∈ l, ∀ b, E (a, b) = some (decide (a = b))) (hl : l.length ≤ 4611686018427387904) :
    cnd (neI (natI (lenN l)) (natI (lenN r))) (some false) (joinK (loopT FUEL (fun s : List α × List α × Int => cnd (ltI s.2.2 (natI (lenN s.1))) ((getI s.1 s.2.2).bnd fun a => (getI s.2.1 s.2.2).bnd fun b => (E (a, b)).bnd fun c => cnd (notB c) (some (.inr (.inr false))) (some (.inl (s.1, s.2.1, addI .i64 s.2.2 1)))) (some (.inr (.inl ())))) (l, r, 0)) fun _ => some true) = some (decide (l = r)) := by
  by_cases hlr : l.length = r.length
  · rw [cnd_f (neI_f (by have := nl l; have := nl r; omega))]
    have hz : (l.zip r).length = l.length := by simp; omega
    rw [loopT_all (l.zip r) (fun i => (l, r, (i : Int))) (fun p => decide (p.1 = p.2)) (Sum.inr false) (Sum.inl ()) ?_ ?_ ?_ ?_ (FUEL_gt (by omega))]
    · have : ((l.zip r).all fun p => decide (p.1 = p.2)) = decide (l = r) := by
        clear hE hl hz
        induction l generalizing r with
        | nil => cases r with
          | nil => rfl
          | cons b r => cases hlr
        | cons a l ih => cases r with
          | nil => cases hlr
          | cons b r =>
            simp only [List.zip_cons_cons, List.all_cons]
            rw [ih r (by simpa using hlr)]
            simp only [List.cons.injEq, Bool.decide_and]
      rw [this]
      by_cases h : l = r <;> simp [h, joinK]
    · rintro i ⟨a, b⟩ ha hp
      obtain ⟨h1, h2⟩ := List.getElem?_zip_eq_some.1 ha
      simp only at h1 h2 hp ⊢
      rw [cnd_t (ltI_in h1), getI_nat, h1, bnd_s, getI_nat, h2, bnd_s, hE a (List.mem_of_getElem? h1), bnd_s, cnd_f (by rw [hp]; rfl), next_i h1 (by omega)]
    · rintro i ⟨a, b⟩ ha hp
      obtain ⟨h1, h2⟩ := List.getElem?_zip_eq_some.1 ha
      simp only at h1 h2 hp ⊢
      rw [cnd_t (ltI_in h1), getI_nat, h1, bnd_s, getI_nat, h2, bnd_s, hE a (List.mem_of_getElem? h1), bnd_s, cnd_t (by rw [hp]; rfl)]
    · simp only
      rw [hz, cnd_f (ltI_end l)]
    · rfl
  · rw [cnd_t (neI_t (by have := nl l; have := nl r; omega)), decide_eq_false (fun h => hlr (by rw [h]))]

/-- The same, for elements that are compared in place. -/
theorem eq_loopI (l r : List Int) (hl : l.length ≤ 4611686018427387904) :
    cnd (neI (natI (lenN l)) (natI (lenN r))) (some false) (joinK (loopT FUEL (fun s : List Int × List Int × Int => cnd (ltI s.2.2 (natI (lenN s.1))) ((getI s.1 s.2.2).bnd fun a => (getI s.2.1 s.2.2).bnd fun b => cnd (neI a b) (some (.inr (.inr false))) (some (.inl (s.1, s.2.1, addI .i64 s.2.2 1)))) (some (.inr (.inl ())))) (l, r, 0)) fun _ => some true) = some (decide (l = r)) := by
  have := eq_loop (fun p : Int × Int => some (decide (p.1 = p.2))) l r (fun _ _ _ => rfl) hl
  refine Eq.trans ?_ this
  congr 3

end Go.Am
