/- B2: marks on lists, and looks at them. No condition. -/
import Derived.Test.YtghahachgjeaeaaB1
set_option linter.unusedVariables false
set_option linter.unusedSimpArgs false
namespace Go.Am

/-- The elements of a list, marked with numbers from k on. -/
def mkL {α : Type} (cnt : α → Nat) (mk : α → Int → α) : List α → Int → List α
  | [], _ => []
  | e :: l, k => mk e k :: mkL cnt mk l (k + cnt e)

def cntL {α : Type} (cnt : α → Nat) (l : List α) : Nat := (l.map cnt).sum

theorem cntL_nil {α : Type} (cnt : α → Nat) : cntL cnt [] = 0 := rfl
theorem cntL_cons {α : Type} (cnt : α → Nat) (e : α) (l : List α) : cntL cnt (e :: l) = cnt e + cntL cnt l := by simp [cntL]
theorem cntL_append {α : Type} (cnt : α → Nat) (l r : List α) : cntL cnt (l ++ r) = cntL cnt l + cntL cnt r := by simp [cntL]
theorem mkL_length {α : Type} (cnt : α → Nat) (mk : α → Int → α) : ∀ (l : List α) (k : Int), (mkL cnt mk l k).length = l.length
  | [], _ => rfl
  | e :: l, k => by simp [mkL, mkL_length cnt mk l]
theorem mkL_append {α : Type} (cnt : α → Nat) (mk : α → Int → α) : ∀ (l r : List α) (k : Int), mkL cnt mk (l ++ r) k = mkL cnt mk l k ++ mkL cnt mk r (k + cntL cnt l)
  | [], r, k => by simp [mkL, cntL]
  | e :: l, r, k => by
    simp only [List.cons_append, mkL, mkL_append cnt mk l r, cntL_cons]
    rw [show k + (cnt e : Int) + (cntL cnt l : Nat) = k + ((cnt e + cntL cnt l : Nat) : Int) by omega]

theorem sum_map_mkL {α : Type} (cnt : α → Nat) (mk : α → Int → α) (f : α → Nat) (hf : ∀ e k, f (mk e k) = f e) : ∀ (l : List α) (k : Int), ((mkL cnt mk l k).map f).sum = (l.map f).sum
  | [], _ => rfl
  | e :: l, k => by simp [mkL, hf, sum_map_mkL cnt mk f hf l]

theorem mkL_mkL {α : Type} (cnt : α → Nat) (mk : α → Int → α) (hc : ∀ e k, cnt (mk e k) = cnt e) (hm : ∀ e k, mk (mk e k) k = mk e k) : ∀ (l : List α) (k : Int), mkL cnt mk (mkL cnt mk l k) k = mkL cnt mk l k
  | [], _ => rfl
  | e :: l, k => by simp only [mkL, hm, hc, mkL_mkL cnt mk hc hm l]

theorem cntL_le {α : Type} (cnt sz : α → Nat) (hc : ∀ e, cnt e ≤ 4 * (1 + sz e)) : ∀ l : List α, cntL cnt l ≤ 4 * (l.length + (l.map sz).sum)
  | [] => by simp [cntL]
  | e :: l => by
    have := cntL_le cnt sz hc l
    have := hc e
    simp only [cntL_cons, List.length_cons, List.map_cons, List.sum_cons]
    omega

theorem mark_loop {α Y : Type} {f : (Int × Int) × List α → Option (((Int × Int) × List α) ⊕ Y)} (l : List α) (cnt sz : α → Nat) (mk : α → Int → α) (k : Int) {r : Y} (hc : ∀ e, cnt e ≤ 4 * (1 + sz e))
    (hk : 0 ≤ k) (hb : k + 4 * (l.length + (l.map sz).sum : Nat) ≤ 1099511627776)
    (h1 : ∀ (i : Nat) e ys (k' : Int), l[i]? = some e → ys.length = l.length → ys[i]? = some e → 0 ≤ k' → k' + 4 * (1 + sz e : Nat) ≤ 1099511627776 → f ((k', (i : Int)), ys) = some (.inl ((k' + cnt e, ((i + 1 : Nat) : Int)), ys.set i (mk e k'))))
    (h2 : f ((k + cntL cnt l, (l.length : Int)), mkL cnt mk l k) = some (.inr r)) : loopT FUEL f ((k, 0), l) = some r := by
  refine loopT_seq (fun i => ((k + (cntL cnt (l.take i) : Nat), (i : Int)), mkL cnt mk (l.take i) k ++ l.drop i)) l.length ?_ ?_ ?_ (FUEL_gt (by omega))
  · intro j hj
    obtain ⟨e, he⟩ : ∃ e, l[j]? = some e := ⟨_, List.getElem?_eq_getElem hj⟩
    have hlen : (mkL cnt mk (l.take j) k).length = j := by rw [mkL_length, List.length_take]; omega
    have hsum : (l.map sz).sum = ((l.take j).map sz).sum + (sz e + ((l.drop (j + 1)).map sz).sum) := by
      conv => lhs; rw [← List.take_append_drop j l, drop_cons he]
      rw [List.map_append, List.sum_append, List.map_cons, List.sum_cons]
    have hct := cntL_le cnt sz hc (l.take j)
    rw [List.length_take] at hct
    rw [h1 j e _ _ he (by rw [List.length_append, hlen, List.length_drop]; omega) (by rw [List.getElem?_append_right (by omega), hlen, Nat.sub_self, List.getElem?_drop]; simpa using he) (by omega) (by omega)]
    have e1 : l.take (j + 1) = l.take j ++ [e] := by rw [List.take_add_one, he]; rfl
    have e2 : (mkL cnt mk (l.take j) k ++ l.drop j).set j (mk e (k + (cntL cnt (l.take j) : Nat))) = mkL cnt mk (l.take (j + 1)) k ++ l.drop (j + 1) := by
      rw [e1, mkL_append, drop_cons he, List.set_append_right _ _ (by omega), hlen, Nat.sub_self, List.set_cons_zero, List.append_assoc]
      rfl
    rw [e2, e1, cntL_append, cntL_cons, cntL_nil, show k + (cntL cnt (l.take j) : Nat) + (cnt e : Nat) = k + ((cntL cnt (l.take j) + (cnt e + 0) : Nat) : Int) by omega]
  · simp only [List.take_length, List.drop_length, List.append_nil]
    exact h2
  · simp [cntL, mkL]

theorem held_fold {α : Type} [DecidableEq α] (cnt : α → Nat) (mk : α → Int → α) : ∀ (l : List α) (i : Nat) (k : Int),
    foldO (fun _ (k : Int) e => if e = mk e k then some (k + (cnt e : Int)) else none) i k l = if l = mkL cnt mk l k then some (k + (cntL cnt l : Int)) else none
  | [], i, k => by simp [foldO, mkL, cntL]
  | e :: l, i, k => by
    simp only [foldO, mkL, cntL_cons]
    by_cases h : e = mk e k
    · rw [if_pos h]
      simp only
      rw [held_fold cnt mk l]
      by_cases h2 : l = mkL cnt mk l (k + cnt e)
      · rw [if_pos h2, if_pos (by rw [← h, ← h2])]
        congr 1; omega
      · rw [if_neg h2, if_neg (fun h3 => h2 (List.cons.inj h3).2)]
    · rw [if_neg h, if_neg (fun h3 => h (List.cons.inj h3).1)]

theorem held_loop {α : Type} [DecidableEq α] {f : List α × Int × Int → Option ((List α × Int × Int) ⊕ (Int ⊕ Int))} (l : List α) (cnt sz : α → Nat) (mk : α → Int → α) (k : Int) (hc : ∀ e, cnt e ≤ 4 * (1 + sz e))
    (hk : 0 ≤ k) (hb : k + 4 * (l.length + (l.map sz).sum : Nat) ≤ 1099511627776)
    (h1 : ∀ (i : Nat) e (k' : Int), l[i]? = some e → 0 ≤ k' → k' + 4 * (1 + sz e : Nat) ≤ 1099511627776 → f (l, k', (i : Int)) = if e = mk e k' then some (.inl (l, k' + (cnt e : Int), ((i + 1 : Nat) : Int))) else some (.inr (.inr (-1))))
    (h2 : ∀ k', f (l, k', (l.length : Int)) = some (.inr (.inl k'))) : loopT FUEL f (l, k, 0) = some (if l = mkL cnt mk l k then .inl (k + (cntL cnt l : Int)) else .inr (-1)) := by
  rw [loopT_foldO l (fun (k : Int) i => (l, k, (i : Int))) (fun i k' => 0 ≤ k' ∧ k' + 4 * ((l.drop i).length + ((l.drop i).map sz).sum : Nat) ≤ 1099511627776) (fun _ (k : Int) e => if e = mk e k then some (k + (cnt e : Int)) else none) (Sum.inr (-1)) (fun k => Sum.inl k) ?_ ?_ ?_ (s := k) ⟨hk, by simpa using hb⟩ ?_ (FUEL_gt (by omega))]
  · rw [held_fold]
    by_cases h : l = mkL cnt mk l k
    · rw [if_pos h, if_pos h]
    · rw [if_neg h, if_neg h]
  · intro i k' e s' he hI hs
    rw [drop_cons he] at hI
    simp only [List.length_cons, List.map_cons, List.sum_cons] at hI
    split at hs
    · rename_i hm
      injection hs with hs
      subst hs
      have hce := hc e
      exact ⟨by rw [h1 i e k' he hI.1 (by omega), if_pos hm], by omega, by omega⟩
    · cases hs
  · intro i k' e he hI hs
    rw [drop_cons he] at hI
    simp only [List.length_cons, List.map_cons, List.sum_cons] at hI
    split at hs
    · cases hs
    · rename_i hm
      rw [h1 i e k' he hI.1 (by omega), if_neg hm]
  · intro k' _
    exact h2 k'
  · rfl

theorem heldK {o : Option Int} {p : Prop} [Decidable p] {k : Int} {Y : Type} {f : Int → Option Y} {y : Option Y} (hk : 0 ≤ k) (ho : o = some (if p then k else -1)) :
    o.bnd (fun i => cnd (ltI i 0) y (f i)) = if p then f k else y := by
  rw [ho, bnd_s]
  by_cases h : p
  · rw [if_pos h, if_pos h, cnd_f (ltI_f hk)]
  · rw [if_neg h, if_neg h, cnd_t (ltI_t (by omega))]

theorem sum0 {α : Type} : ∀ l : List α, (l.map fun _ => 0).sum = 0
  | [] => rfl
  | _ :: l => by simp [sum0 l]

theorem szKB {o : Option Int} {s : Nat} {k : Int} {f : Int → Option Bool} (ho : o = some (szR s k)) : o.bnd (fun i => cnd (ltI i 0) (some true) (f i)) = if (s : Int) ≤ k then f (k - s) else some true := by
  rw [ho, bnd_s]
  unfold szR
  by_cases h : (s : Int) ≤ k
  · rw [if_pos h, if_pos h, cnd_f (ltI_f (by omega))]
  · rw [if_neg h, if_neg h, cnd_t (ltI_t (by omega))]
theorem neB_self (b : Bool) : neB b b = false := by cases b <;> rfl
theorem neI_self (a : Int) : neI a a = false := neI_f rfl
theorem notB_t : notB true = false := rfl
theorem winI_len {α : Type} {xs : List α} {n : Nat} (h : xs.length = n) : winI xs 0 n = some xs := by subst h; exact winI_id xs

theorem samI_ok {a b : Nat} (h : a = b) : samI a b = some () := if_pos h
theorem fulI_ok {n m : Nat} (h : n = m) : fulI 0 n m = some () := by subst h; exact fulI_id n
theorem get_set_self {α : Type} {l : List α} {i : Nat} {a b : α} (h : l[i]? = some a) : (l.set i b)[i]? = some b := List.getElem?_set_self (lt_of_get h)
theorem getN_set {α : Type} {l : List α} {i : Nat} {a b : α} (h : l[i]? = some a) : getN (setL l i b) i = some b := get_set_self h
theorem setL_setL {α : Type} (l : List α) (i : Nat) (a b : α) : setL (setL l i a) i b = setL l i b := by simp [setL, List.set_set]

end Go.Am
