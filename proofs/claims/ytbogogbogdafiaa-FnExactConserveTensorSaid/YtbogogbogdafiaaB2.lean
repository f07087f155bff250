/- MB, B0, B1, B2: parts of the proof. No condition. -/
import Derived.Test.YtbogogbogdafiaaS7
import Derived.Laws.BitsLemmas
set_option linter.unusedVariables false
set_option linter.unusedSimpArgs false
section
namespace Go.Am
theorem getI_nat {α : Type} (xs : List α) (i : Nat) : getI xs (i : Int) = xs[i]? := by simp [getI]
theorem wrap_id {n : Int} (h1 : -9223372036854775808 ≤ n) (h2 : n ≤ 9223372036854775807) : IntKind.wrap .i64 n = n := by rw [IntKind.wrap_i64]; omega
theorem addI_eq {a b : Int} (h1 : -9223372036854775808 ≤ a + b) (h2 : a + b ≤ 9223372036854775807) : addI .i64 a b = a + b := wrap_id h1 h2
theorem subI_eq {a b : Int} (h1 : -9223372036854775808 ≤ a - b) (h2 : a - b ≤ 9223372036854775807) : subI .i64 a b = a - b := wrap_id h1 h2
theorem bnd_s {α β : Type} (x : α) (f : α → Option β) : (some x).bnd f = f x := rfl
theorem joinK_l {X ρ : Type} (x : X) (k : X → Option ρ) : joinK (some (.inl x)) k = k x := rfl
theorem joinK_r {X ρ : Type} (x : ρ) (k : X → Option ρ) : joinK (some (.inr x) : Option (X ⊕ ρ)) k = some x := rfl
theorem cnd_t {α : Type} {b : Bool} (h : b = true) (x y : α) : cnd b x y = x := by rw [h]; rfl
theorem cnd_f {α : Type} {b : Bool} (h : b = false) (x y : α) : cnd b x y = y := by rw [h]; rfl
theorem nl {α : Type} (l : List α) : natI (lenN l) = (l.length : Int) := rfl
theorem ltI_t {a b : Int} (h : a < b) : ltI a b = true := decide_eq_true h
theorem ltI_f {a b : Int} (h : b ≤ a) : ltI a b = false := decide_eq_false (Int.not_lt.2 h)
theorem leI_t {a b : Int} (h : a ≤ b) : leI a b = true := decide_eq_true h
theorem leI_f {a b : Int} (h : b < a) : leI a b = false := decide_eq_false (Int.not_le.2 h)
theorem eqI_t {a b : Int} (h : a = b) : eqI a b = true := by simp [eqI, h]
theorem eqI_f {a b : Int} (h : a ≠ b) : eqI a b = false := by simp [eqI, h]
theorem neI_t {a b : Int} (h : a ≠ b) : neI a b = true := by simp [neI, h]
theorem neI_f {a b : Int} (h : a = b) : neI a b = false := by simp [neI, h]
theorem notB_d {p : Prop} [Decidable p] (h : ¬ p) : notB (decide p) = true := by simp [notB, h]
theorem notB_p {p : Prop} [Decidable p] (h : p) : notB (decide p) = false := by simp [notB, h]
theorem fulI_id (n : Nat) : fulI 0 n n = some () := by simp [fulI]
theorem takI_id {α : Type} (xs : List α) : takI xs (lenN xs) = some xs := by simp [takI, lenN]
theorem winI_id {α : Type} (xs : List α) : winI xs 0 (lenN xs) = some xs := by simp [winI, lenN]
theorem mkI_nat {n by_ : Nat} (h : n * by_ ≤ maxBytes) : mkI (natI n) (natI n) by_ = some n := by simp [mkI, natI, h]
theorem chkI_nat {i n : Nat} (h : i < n) : chkI (i : Int) n = some i := by simp [chkI]; omega
theorem FUEL_gt {n : Nat} (h : n < 18446744073709551616) : n < FUEL := h
theorem drop_cons {α : Type} {xs : List α} {i : Nat} {x : α} (h : xs[i]? = some x) : xs.drop i = x :: xs.drop (i + 1) := by
 obtain ⟨h1, h2⟩ := List.getElem?_eq_some_iff.1 h
 rw [List.drop_eq_getElem_cons h1, h2]
end Go.Am
end
section
namespace Go.Am
theorem loopT_go {X Y : Type} {f : X → Option (X ⊕ Y)} (st : Nat → X) {r : Y} : ∀ (n i : Nat), (∀ j, i ≤ j → j < i + n → f (st j) = some (.inl (st (j + 1)))) → f (st (i + n)) = some (.inr r) → ∀ N, n < N → loopT N f (st i) = some r
 | 0, i, _, h2, N + 1, _ => by
  have h2 : f (st i) = some (.inr r) := h2
  simp only [loopT, h2]
 | n + 1, i, h1, h2, N + 1, hN => by
  simp only [loopT, h1 i (Nat.le_refl i) (by omega)]
  exact loopT_go st n (i + 1) (fun j h3 h4 => h1 j (by omega) (by omega)) (by rw [show i + 1 + n = i + (n + 1) by omega]; exact h2) N (by omega)
 | _, _, _, _, 0, h => by omega
theorem loopT_seq {X Y : Type} {f : X → Option (X ⊕ Y)} (st : Nat → X) {r : Y} (n : Nat) (h1 : ∀ j, j < n → f (st j) = some (.inl (st (j + 1)))) (h2 : f (st n) = some (.inr r)) {x0 : X} (h0 : x0 = st 0) {N : Nat} (hN : n < N) : loopT N f x0 = some r := by
 subst h0
 exact loopT_go st n 0 (fun j _ h => h1 j (by omega)) (by rw [Nat.zero_add]; exact h2) N hN
theorem loopT_all {X Y α : Type} {f : X → Option (X ⊕ Y)} (es : List α) (mk : Nat → X) (p : α → Bool) (bad good : Y)
  (h1 : ∀ i a, es[i]? = some a → p a = true → f (mk i) = some (.inl (mk (i + 1)))) (h2 : ∀ i a, es[i]? = some a → p a = false → f (mk i) = some (.inr bad)) (h3 : f (mk es.length) = some (.inr good)) {x0 : X} (h0 : x0 = mk 0) {N : Nat} (hN : es.length < N) :
  loopT N f x0 = some (if es.all p = true then good else bad) := by
 subst h0
 have key : ∀ (k : Nat) (i : Nat), i + k = es.length → ∀ N, k < N → loopT N f (mk i) = some (if (es.drop i).all p = true then good else bad) := by
  intro k
  induction k with
  | zero =>
   intro i hi N hN
   obtain ⟨N, rfl⟩ : ∃ M, N = M + 1 := ⟨N - 1, by omega⟩
   have : i = es.length := by omega
   subst this
   simp only [loopT, h3, List.drop_length, List.all_nil, if_true]
  | succ k ih =>
   intro i hi N hN
   obtain ⟨N, rfl⟩ : ∃ M, N = M + 1 := ⟨N - 1, by omega⟩
   obtain ⟨a, ha⟩ : ∃ a, es[i]? = some a := ⟨_, List.getElem?_eq_getElem (by omega)⟩
   rw [drop_cons ha]
   cases hp : p a with
   | true =>
    simp only [loopT, h1 i a ha hp, List.all_cons, hp, Bool.true_and]
    exact ih (i + 1) (by omega) N (by omega)
   | false => simp only [loopT, h2 i a ha hp, List.all_cons, hp, Bool.false_and, Bool.false_eq_true, if_false]
 exact key es.length 0 (by omega) N hN
def foldO {S α : Type} (step : Nat → S → α → Option S) : Nat → S → List α → Option S
 | _, s, [] => some s
 | i, s, a :: as => match step i s a with
  | some s' => foldO step (i + 1) s' as
  | none => none
theorem loopT_foldO {X Y α S : Type} {f : X → Option (X ⊕ Y)} (es : List α) (mk : S → Nat → X) (I : Nat → S → Prop) (step : Nat → S → α → Option S) (bad : Y) (good : S → Y)
  (h1 : ∀ i s a s', es[i]? = some a → I i s → step i s a = some s' → f (mk s i) = some (.inl (mk s' (i + 1))) ∧ I (i + 1) s')
  (h2 : ∀ i s a, es[i]? = some a → I i s → step i s a = none → f (mk s i) = some (.inr bad))
  (h3 : ∀ s, I es.length s → f (mk s es.length) = some (.inr (good s))) {s : S} (h0 : I 0 s) {x0 : X} (hx : x0 = mk s 0) {N : Nat} (hN : es.length < N) :
  loopT N f x0 = some (match foldO step 0 s es with | some s' => good s' | none => bad) := by
 subst hx
 have key : ∀ (k : Nat) (i : Nat) (s : S), I i s → i + k = es.length → ∀ N, k < N → loopT N f (mk s i) = some (match foldO step i s (es.drop i) with | some s' => good s' | none => bad) := by
  intro k
  induction k with
  | zero =>
   intro i s hs hi N hN
   obtain ⟨N, rfl⟩ : ∃ M, N = M + 1 := ⟨N - 1, by omega⟩
   have : i = es.length := by omega
   subst this
   simp only [loopT, h3 s hs, List.drop_length, foldO]
  | succ k ih =>
   intro i s hs hi N hN
   obtain ⟨N, rfl⟩ : ∃ M, N = M + 1 := ⟨N - 1, by omega⟩
   obtain ⟨a, ha⟩ : ∃ a, es[i]? = some a := ⟨_, List.getElem?_eq_getElem (by omega)⟩
   rw [drop_cons ha]
   cases hp : step i s a with
   | some s' =>
    obtain ⟨h4, h5⟩ := h1 i s a s' ha hs hp
    simp only [loopT, h4, foldO, hp]
    exact ih (i + 1) s' h5 (by omega) N (by omega)
   | none => simp only [loopT, h2 i s a ha hs hp, foldO, hp]
 exact key es.length 0 s h0 (by omega) N hN
def foldN {S α : Type} (step : Nat → S → α → S) : Nat → S → List α → S
 | _, s, [] => s
 | i, s, a :: as => foldN step (i + 1) (step i s a) as
theorem loopT_foldN {X Y α S : Type} {f : X → Option (X ⊕ Y)} (es : List α) (mk : S → Nat → X) (I : Nat → S → Prop) (step : Nat → S → α → S) (good : S → Y)
  (h1 : ∀ i s a, es[i]? = some a → I i s → f (mk s i) = some (.inl (mk (step i s a) (i + 1))) ∧ I (i + 1) (step i s a))
  (h3 : ∀ s, I es.length s → f (mk s es.length) = some (.inr (good s))) {s : S} (h0 : I 0 s) {x0 : X} (hx : x0 = mk s 0) {N : Nat} (hN : es.length < N) :
  loopT N f x0 = some (good (foldN step 0 s es)) := by
 subst hx
 have key : ∀ (k : Nat) (i : Nat) (s : S), I i s → i + k = es.length → ∀ N, k < N → loopT N f (mk s i) = some (good (foldN step i s (es.drop i))) := by
  intro k
  induction k with
  | zero =>
   intro i s hs hi N hN
   obtain ⟨N, rfl⟩ : ∃ M, N = M + 1 := ⟨N - 1, by omega⟩
   have : i = es.length := by omega
   subst this
   simp only [loopT, h3 s hs, List.drop_length, foldN]
  | succ k ih =>
   intro i s hs hi N hN
   obtain ⟨N, rfl⟩ : ∃ M, N = M + 1 := ⟨N - 1, by omega⟩
   obtain ⟨a, ha⟩ : ∃ a, es[i]? = some a := ⟨_, List.getElem?_eq_getElem (by omega)⟩
   rw [drop_cons ha]
   obtain ⟨h4, h5⟩ := h1 i s a ha hs
   simp only [loopT, h4, foldN]
   exact ih (i + 1) _ h5 (by omega) N (by omega)
 exact key es.length 0 s h0 (by omega) N hN
theorem ltI_in {α : Type} {es : List α} {i : Nat} {a : α} (h : es[i]? = some a) : ltI (i : Int) (natI (lenN es)) = true := by
 have := (List.getElem?_eq_some_iff.1 h).1
 exact ltI_t (by have := nl es; omega)
theorem ltI_end {α : Type} (es : List α) : ltI ((es.length : Nat) : Int) (natI (lenN es)) = false := ltI_f (by have := nl es; omega)
theorem next_i {α : Type} {es : List α} {i : Nat} {a : α} (h : es[i]? = some a) (hl : es.length ≤ 9223372036854775807) : addI .i64 (i : Int) 1 = ((i + 1 : Nat) : Int) := by
 have := (List.getElem?_eq_some_iff.1 h).1
 rw [addI_eq (by omega) (by omega)]; omega
theorem lt_of_get {α : Type} {es : List α} {i : Nat} {a : α} (h : es[i]? = some a) : i < es.length := (List.getElem?_eq_some_iff.1 h).1
theorem wraps_i64 (n : Int) (h₀ : 0 ≤ n) (h₁ : n < 2 ^ 63) : IntKind.i64.wrap n = n := by rw [IntKind.wrap_i64]; omega
theorem shlI_one {k : Nat} (hk : k < 63) : shlI .i64 1 (k : Int) = some ((2 ^ k : Nat) : Int) := by
 unfold shlI
 rw [if_neg (by omega)]
 congr 1
 rw [Int.toNat_natCast, show min k (IntKind.bits .i64) = k from Nat.min_eq_left (by simp [IntKind.bits]; omega), Int.one_mul]
 have : (2 : Int) ^ k = ((2 ^ k : Nat) : Int) := by norm_cast
 rw [this]
 refine wraps_i64 _ (Int.natCast_nonneg _) ?_
 have := Nat.pow_lt_pow_right (a := 2) (by decide) hk
 exact_mod_cast this
theorem natI_eq {z : Int} (h : 0 ≤ z) : ∃ n : Nat, z = (n : Int) := ⟨z.toNat, by omega⟩
end Go.Am
end
section
namespace Go.Am
theorem lenN_setL {α : Type} (l : List α) (k : Nat) (x : α) : lenN (setL l k x) = lenN l := by simp [lenN, setL]
theorem lenN_repL {α : Type} (n : Nat) (x : α) : lenN (repL n x) = n := by simp [lenN, repL]
theorem fitI_ok {n k : Nat} (h : n * k ≤ maxBytes) : fitI n k = some () := if_pos h
theorem addN_0 (k : Nat) : addN 0 k = k := by simp [addN]
theorem chkI_len {α : Type} {l : List α} {i : Nat} {a : α} (h : l[i]? = some a) : chkI (i : Int) (lenN l) = some i := chkI_nat (lt_of_get h)
theorem minI_eq' (a b : Int) : minI a b = min a b := by unfold minI; split <;> omega
theorem neI_d (a b : Int) : neI a b = !decide (a = b) := by by_cases h : a = b <;> simp [neI, h]
theorem le_sum_mem {n : Nat} : ∀ {l : List Nat}, n ∈ l → n ≤ l.sum
 | [], h => by cases h
 | a :: l, h => by
  rw [List.sum_cons]
  rcases List.mem_cons.1 h with rfl | h
  ·omega
  ·have := le_sum_mem h; omega
def szR (s : Nat) (k : Int) : Int := if (s : Int) ≤ k then k - s else -1
theorem szR_t {s : Nat} {k : Int} (h : (s : Int) ≤ k) : szR s k = k - s := if_pos h
theorem szR_f {s : Nat} {k : Int} (h : ¬ (s : Int) ≤ k) : szR s k = -1 := if_neg h
def kOk (k : Int) : Prop := 0 ≤ k ∧ k ≤ 1048576
instance (k : Int) : Decidable (kOk k) := inferInstanceAs (Decidable (0 ≤ k ∧ k ≤ 1048576))
theorem szK {o : Option Int} {s : Nat} {k : Int} {f : Int → Option Int} (ho : o = some (szR s k)) : o.bnd (fun i => cnd (ltI i 0) (some (-1)) (f i)) = if (s : Int) ≤ k then f (k - s) else some (-1) := by
 rw [ho, bnd_s]
 unfold szR
 by_cases h : (s : Int) ≤ k
 ·rw [if_pos h, if_pos h, cnd_f (ltI_f (by omega))]
 ·rw [if_neg h, if_neg h, cnd_t (ltI_t (by omega))]
theorem sz_fold {α : Type} (sz : α → Nat) : ∀ (l : List α) (i : Nat) (k : Int), 0 ≤ k → (match foldO (fun _ (k : Int) e => if (sz e : Int) ≤ k then some (k - sz e) else none) i k l with | some k' => k' | none => -1) = szR (l.map sz).sum k
 | [], i, k, hk => by simp [foldO, szR, hk]
 | e :: l, i, k, hk => by
  rw [foldO]
  by_cases h : (sz e : Int) ≤ k
  ·rw [if_pos h]
   simp only
   rw [sz_fold sz l (i + 1) (k - sz e) (by omega)]
   simp only [szR, List.map_cons, List.sum_cons]
   by_cases h2 : ((l.map sz).sum : Int) ≤ k - sz e
   ·rw [if_pos h2, if_pos (by omega)]; omega
   ·rw [if_neg h2, if_neg (by omega)]
  ·rw [if_neg h]
   simp only [szR, List.map_cons, List.sum_cons]
   rw [if_neg (by omega)]
theorem sz_loop {α : Type} (F : α × Int → Option Int) (sz : α → Nat) (l : List α) (hl : l.length ≤ 9223372036854775807) (hF : ∀ e ∈ l, ∀ k, kOk k → F (e, k) = some (szR (sz e) k)) (k : Int) (hk : kOk k) :
  cnd (ltI (subI .i64 k (natI (lenN l))) 0) (some (-1)) (joinK (loopT FUEL (fun (s : List α × Int × Int) => cnd (ltI s.2.2 (natI (lenN s.1))) ((getI s.1 s.2.2).bnd fun e => (F (e, s.2.1)).bnd fun i => cnd (ltI i 0) (some (.inr (.inr (-1)))) (some (.inl (s.1, i, addI .i64 s.2.2 1)))) (some (.inr (.inl s.2.1)))) (l, subI .i64 k (natI (lenN l)), 0)) (fun i => some i)) = some (szR (l.length + (l.map sz).sum) k) := by
 obtain ⟨k0, k1⟩ := hk
 have hn := nl l
 rw [subI_eq (by omega) (by omega)]
 by_cases h : k < l.length
 ·rw [cnd_t (ltI_t (by omega)), szR, if_neg (by omega)]
 rw [cnd_f (ltI_f (by omega))]
 rw [loopT_foldO l (fun (r : Int) i => (l, r, (i : Int))) (fun _ r => kOk r) (fun _ (k : Int) e => if (sz e : Int) ≤ k then some (k - sz e) else none) (Sum.inr (-1)) (fun r => Sum.inl r) ?_ ?_ ?_ (s := k - natI (lenN l)) ⟨by omega, by omega⟩ ?_ (FUEL_gt (by omega))]
 ·have := sz_fold sz l 0 (k - natI (lenN l)) (by omega)
  have e : szR (l.length + (l.map sz).sum) k = szR (l.map sz).sum (k - natI (lenN l)) := by
   simp only [szR]
   by_cases h2 : ((l.map sz).sum : Int) ≤ k - natI (lenN l)
   ·rw [if_pos h2, if_pos (by omega)]; omega
   ·rw [if_neg h2, if_neg (by omega)]
  rw [e, ← this]
  cases foldO (fun _ (k : Int) e => if (sz e : Int) ≤ k then some (k - sz e) else none) 0 (k - natI (lenN l)) l <;> rfl
 ·intro i r e r' ha hr hs
  split at hs
  ·rename_i hle
   injection hs with hs
   subst hs
   simp only
   rw [cnd_t (ltI_in ha), getI_nat, ha, bnd_s, hF e (List.mem_of_getElem? ha) r hr, bnd_s, szR, if_pos hle, cnd_f (ltI_f (by omega)), next_i ha (by omega)]
   exact ⟨rfl, by have := hr.1; have := hr.2; constructor <;> omega⟩
  ·cases hs
 ·intro i r e ha hr hs
  split at hs
  ·cases hs
  ·rename_i hle
   simp only
   rw [cnd_t (ltI_in ha), getI_nat, ha, bnd_s, hF e (List.mem_of_getElem? ha) r hr, bnd_s, szR, if_neg hle, cnd_t (ltI_t (by omega))]
 ·intro r _
  simp only
  rw [cnd_f (ltI_end l)]
 ·rfl
def fillTo {α : Type} (z : α) (l : List α) (i : Nat) : List α := l.take i ++ List.replicate (l.length - i) z
theorem fill_loop {α Y : Type} {f : (List α × Int) × List α → Option (((List α × Int) × List α) ⊕ Y)} (l : List α) (z : α) {r : Y}
  (h1 : ∀ (i : Nat) e ys, l[i]? = some e → ys.length = l.length → ys[i]? = some z → f ((l, (i : Int)), ys) = some (.inl ((l, ((i + 1 : Nat) : Int)), ys.set i e)))
  (h2 : f ((l, (l.length : Int)), l) = some (.inr r)) (hl : l.length < 18446744073709551616) : loopT FUEL f ((l, 0), repL (lenN l) z) = some r := by
 refine loopT_seq (fun i => ((l, (i : Int)), fillTo z l i)) l.length ?_ ?_ ?_ (FUEL_gt hl)
 ·intro j hj
  obtain ⟨e, he⟩ : ∃ e, l[j]? = some e := ⟨_, List.getElem?_eq_getElem hj⟩
  rw [h1 j e _ he (by simp [fillTo]; omega)]
  ·have : (fillTo z l j).set j e = fillTo z l (j + 1) := by
    unfold fillTo
    rw [List.set_append_right _ _ (by simp; omega), List.take_add_one, he, show l.length - j = (l.length - (j + 1)) + 1 by omega, List.replicate_succ]
    simp only [List.length_take, show j - min j l.length = 0 by omega, List.set_cons_zero, Option.toList_some, List.append_assoc, List.cons_append, List.nil_append]
   rw [this]
  ·unfold fillTo
   rw [List.getElem?_append_right (by simp; omega)]
   simp only [List.length_take, show j - min j l.length = 0 by omega]
   rw [List.getElem?_replicate, if_pos (by omega)]
 ·have : fillTo z l l.length = l := by simp [fillTo]
  rw [this]
  exact h2
 ·simp [fillTo, repL, lenN]
theorem eq_loop {α : Type} [DecidableEq α] (E : α × α → Option Bool) (l r : List α) (hE : ∀ a ∈ l, ∀ b, E (a, b) = some (decide (a = b))) (hl : l.length ≤ 4611686018427387904) :
  cnd (neI (natI (lenN l)) (natI (lenN r))) (some false) (joinK (loopT FUEL (fun s : List α × List α × Int => cnd (ltI s.2.2 (natI (lenN s.1))) ((getI s.1 s.2.2).bnd fun a => (getI s.2.1 s.2.2).bnd fun b => (E (a, b)).bnd fun c => cnd (notB c) (some (.inr (.inr false))) (some (.inl (s.1, s.2.1, addI .i64 s.2.2 1)))) (some (.inr (.inl ())))) (l, r, 0)) fun _ => some true) = some (decide (l = r)) := by
 by_cases hlr : l.length = r.length
 ·rw [cnd_f (neI_f (by have := nl l; have := nl r; omega))]
  have hz : (l.zip r).length = l.length := by simp; omega
  rw [loopT_all (l.zip r) (fun i => (l, r, (i : Int))) (fun p => decide (p.1 = p.2)) (Sum.inr false) (Sum.inl ()) ?_ ?_ ?_ ?_ (FUEL_gt (by omega))]
  ·have : ((l.zip r).all fun p => decide (p.1 = p.2)) = decide (l = r) := by
    clear hE hl hz
    induction l generalizing r with
    | nil => cases r with
     | nil => rfl
     | cons b r => cases hlr
    | cons a l ih => cases r with
     | nil => cases hlr
     | cons b r =>
      simp only [List.zip_cons_cons, List.all_cons]
      rw [ih r (by simpa using hlr)]
      simp only [List.cons.injEq, Bool.decide_and]
   rw [this]
   by_cases h : l = r <;> simp [h, joinK]
  ·rintro i ⟨a, b⟩ ha hp
   obtain ⟨h1, h2⟩ := List.getElem?_zip_eq_some.1 ha
   simp only at h1 h2 hp ⊢
   rw [cnd_t (ltI_in h1), getI_nat, h1, bnd_s, getI_nat, h2, bnd_s, hE a (List.mem_of_getElem? h1), bnd_s, cnd_f (by rw [hp]; rfl), next_i h1 (by omega)]
  ·rintro i ⟨a, b⟩ ha hp
   obtain ⟨h1, h2⟩ := List.getElem?_zip_eq_some.1 ha
   simp only at h1 h2 hp ⊢
   rw [cnd_t (ltI_in h1), getI_nat, h1, bnd_s, getI_nat, h2, bnd_s, hE a (List.mem_of_getElem? h1), bnd_s, cnd_t (by rw [hp]; rfl)]
  ·simp only
   rw [hz, cnd_f (ltI_end l)]
  ·rfl
 ·rw [cnd_t (neI_t (by have := nl l; have := nl r; omega)), decide_eq_false (fun h => hlr (by rw [h]))]
theorem eq_loopI (l r : List Int) (hl : l.length ≤ 4611686018427387904) :
  cnd (neI (natI (lenN l)) (natI (lenN r))) (some false) (joinK (loopT FUEL (fun s : List Int × List Int × Int => cnd (ltI s.2.2 (natI (lenN s.1))) ((getI s.1 s.2.2).bnd fun a => (getI s.2.1 s.2.2).bnd fun b => cnd (neI a b) (some (.inr (.inr false))) (some (.inl (s.1, s.2.1, addI .i64 s.2.2 1)))) (some (.inr (.inl ())))) (l, r, 0)) fun _ => some true) = some (decide (l = r)) := by
 have := eq_loop (fun p : Int × Int => some (decide (p.1 = p.2))) l r (fun _ _ _ => rfl) hl
 refine Eq.trans ?_ this
 congr 3
end Go.Am
end
section
namespace Go.Am
def mkL {α : Type} (cnt : α → Nat) (mk : α → Int → α) : List α → Int → List α
 | [], _ => []
 | e :: l, k => mk e k :: mkL cnt mk l (k + cnt e)
def cntL {α : Type} (cnt : α → Nat) (l : List α) : Nat := (l.map cnt).sum
theorem cntL_nil {α : Type} (cnt : α → Nat) : cntL cnt [] = 0 := rfl
theorem cntL_cons {α : Type} (cnt : α → Nat) (e : α) (l : List α) : cntL cnt (e :: l) = cnt e + cntL cnt l := by simp [cntL]
theorem cntL_append {α : Type} (cnt : α → Nat) (l r : List α) : cntL cnt (l ++ r) = cntL cnt l + cntL cnt r := by simp [cntL]
theorem mkL_length {α : Type} (cnt : α → Nat) (mk : α → Int → α) : ∀ (l : List α) (k : Int), (mkL cnt mk l k).length = l.length
 | [], _ => rfl
 | e :: l, k => by simp [mkL, mkL_length cnt mk l]
theorem mkL_append {α : Type} (cnt : α → Nat) (mk : α → Int → α) : ∀ (l r : List α) (k : Int), mkL cnt mk (l ++ r) k = mkL cnt mk l k ++ mkL cnt mk r (k + cntL cnt l)
 | [], r, k => by simp [mkL, cntL]
 | e :: l, r, k => by
  simp only [List.cons_append, mkL, mkL_append cnt mk l r, cntL_cons]
  rw [show k + (cnt e : Int) + (cntL cnt l : Nat) = k + ((cnt e + cntL cnt l : Nat) : Int) by omega]
theorem sum_map_mkL {α : Type} (cnt : α → Nat) (mk : α → Int → α) (f : α → Nat) (hf : ∀ e k, f (mk e k) = f e) : ∀ (l : List α) (k : Int), ((mkL cnt mk l k).map f).sum = (l.map f).sum
 | [], _ => rfl
 | e :: l, k => by simp [mkL, hf, sum_map_mkL cnt mk f hf l]
theorem mkL_mkL {α : Type} (cnt : α → Nat) (mk : α → Int → α) (hc : ∀ e k, cnt (mk e k) = cnt e) (hm : ∀ e k, mk (mk e k) k = mk e k) : ∀ (l : List α) (k : Int), mkL cnt mk (mkL cnt mk l k) k = mkL cnt mk l k
 | [], _ => rfl
 | e :: l, k => by simp only [mkL, hm, hc, mkL_mkL cnt mk hc hm l]
theorem cntL_le {α : Type} (cnt sz : α → Nat) (hc : ∀ e, cnt e ≤ 4 * (1 + sz e)) : ∀ l : List α, cntL cnt l ≤ 4 * (l.length + (l.map sz).sum)
 | [] => by simp [cntL]
 | e :: l => by
  have := cntL_le cnt sz hc l
  have := hc e
  simp only [cntL_cons, List.length_cons, List.map_cons, List.sum_cons]
  omega
theorem mark_loop {α Y : Type} {f : (Int × Int) × List α → Option (((Int × Int) × List α) ⊕ Y)} (l : List α) (cnt sz : α → Nat) (mk : α → Int → α) (k : Int) {r : Y} (hc : ∀ e, cnt e ≤ 4 * (1 + sz e))
  (hk : 0 ≤ k) (hb : k + 4 * (l.length + (l.map sz).sum : Nat) ≤ 1099511627776)
  (h1 : ∀ (i : Nat) e ys (k' : Int), l[i]? = some e → ys.length = l.length → ys[i]? = some e → 0 ≤ k' → k' + 4 * (1 + sz e : Nat) ≤ 1099511627776 → f ((k', (i : Int)), ys) = some (.inl ((k' + cnt e, ((i + 1 : Nat) : Int)), ys.set i (mk e k'))))
  (h2 : f ((k + cntL cnt l, (l.length : Int)), mkL cnt mk l k) = some (.inr r)) : loopT FUEL f ((k, 0), l) = some r := by
 refine loopT_seq (fun i => ((k + (cntL cnt (l.take i) : Nat), (i : Int)), mkL cnt mk (l.take i) k ++ l.drop i)) l.length ?_ ?_ ?_ (FUEL_gt (by omega))
 ·intro j hj
  obtain ⟨e, he⟩ : ∃ e, l[j]? = some e := ⟨_, List.getElem?_eq_getElem hj⟩
  have hlen : (mkL cnt mk (l.take j) k).length = j := by rw [mkL_length, List.length_take]; omega
  have hsum : (l.map sz).sum = ((l.take j).map sz).sum + (sz e + ((l.drop (j + 1)).map sz).sum) := by
   conv => lhs; rw [← List.take_append_drop j l, drop_cons he]
   rw [List.map_append, List.sum_append, List.map_cons, List.sum_cons]
  have hct := cntL_le cnt sz hc (l.take j)
  rw [List.length_take] at hct
  rw [h1 j e _ _ he (by rw [List.length_append, hlen, List.length_drop]; omega) (by rw [List.getElem?_append_right (by omega), hlen, Nat.sub_self, List.getElem?_drop]; simpa using he) (by omega) (by omega)]
  have e1 : l.take (j + 1) = l.take j ++ [e] := by rw [List.take_add_one, he]; rfl
  have e2 : (mkL cnt mk (l.take j) k ++ l.drop j).set j (mk e (k + (cntL cnt (l.take j) : Nat))) = mkL cnt mk (l.take (j + 1)) k ++ l.drop (j + 1) := by
   rw [e1, mkL_append, drop_cons he, List.set_append_right _ _ (by omega), hlen, Nat.sub_self, List.set_cons_zero, List.append_assoc]
   rfl
  rw [e2, e1, cntL_append, cntL_cons, cntL_nil, show k + (cntL cnt (l.take j) : Nat) + (cnt e : Nat) = k + ((cntL cnt (l.take j) + (cnt e + 0) : Nat) : Int) by omega]
 ·simp only [List.take_length, List.drop_length, List.append_nil]
  exact h2
 ·simp [cntL, mkL]
theorem held_fold {α : Type} [DecidableEq α] (cnt : α → Nat) (mk : α → Int → α) : ∀ (l : List α) (i : Nat) (k : Int),
  foldO (fun _ (k : Int) e => if e = mk e k then some (k + (cnt e : Int)) else none) i k l = if l = mkL cnt mk l k then some (k + (cntL cnt l : Int)) else none
 | [], i, k => by simp [foldO, mkL, cntL]
 | e :: l, i, k => by
  simp only [foldO, mkL, cntL_cons]
  by_cases h : e = mk e k
  ·rw [if_pos h]
   simp only
   rw [held_fold cnt mk l]
   by_cases h2 : l = mkL cnt mk l (k + cnt e)
   ·rw [if_pos h2, if_pos (by rw [← h, ← h2])]
    congr 1; omega
   ·rw [if_neg h2, if_neg (fun h3 => h2 (List.cons.inj h3).2)]
  ·rw [if_neg h, if_neg (fun h3 => h (List.cons.inj h3).1)]
theorem held_loop {α : Type} [DecidableEq α] {f : List α × Int × Int → Option ((List α × Int × Int) ⊕ (Int ⊕ Int))} (l : List α) (cnt sz : α → Nat) (mk : α → Int → α) (k : Int) (hc : ∀ e, cnt e ≤ 4 * (1 + sz e))
  (hk : 0 ≤ k) (hb : k + 4 * (l.length + (l.map sz).sum : Nat) ≤ 1099511627776)
  (h1 : ∀ (i : Nat) e (k' : Int), l[i]? = some e → 0 ≤ k' → k' + 4 * (1 + sz e : Nat) ≤ 1099511627776 → f (l, k', (i : Int)) = if e = mk e k' then some (.inl (l, k' + (cnt e : Int), ((i + 1 : Nat) : Int))) else some (.inr (.inr (-1))))
  (h2 : ∀ k', f (l, k', (l.length : Int)) = some (.inr (.inl k'))) : loopT FUEL f (l, k, 0) = some (if l = mkL cnt mk l k then .inl (k + (cntL cnt l : Int)) else .inr (-1)) := by
 rw [loopT_foldO l (fun (k : Int) i => (l, k, (i : Int))) (fun i k' => 0 ≤ k' ∧ k' + 4 * ((l.drop i).length + ((l.drop i).map sz).sum : Nat) ≤ 1099511627776) (fun _ (k : Int) e => if e = mk e k then some (k + (cnt e : Int)) else none) (Sum.inr (-1)) (fun k => Sum.inl k) ?_ ?_ ?_ (s := k) ⟨hk, by simpa using hb⟩ ?_ (FUEL_gt (by omega))]
 ·rw [held_fold]
  by_cases h : l = mkL cnt mk l k
  ·rw [if_pos h, if_pos h]
  ·rw [if_neg h, if_neg h]
 ·intro i k' e s' he hI hs
  rw [drop_cons he] at hI
  simp only [List.length_cons, List.map_cons, List.sum_cons] at hI
  split at hs
  ·rename_i hm
   injection hs with hs
   subst hs
   have hce := hc e
   exact ⟨by rw [h1 i e k' he hI.1 (by omega), if_pos hm], by omega, by omega⟩
  ·cases hs
 ·intro i k' e he hI hs
  rw [drop_cons he] at hI
  simp only [List.length_cons, List.map_cons, List.sum_cons] at hI
  split at hs
  ·cases hs
  ·rename_i hm
   rw [h1 i e k' he hI.1 (by omega), if_neg hm]
 ·intro k' _
  exact h2 k'
 ·rfl
theorem heldK {o : Option Int} {p : Prop} [Decidable p] {k : Int} {Y : Type} {f : Int → Option Y} {y : Option Y} (hk : 0 ≤ k) (ho : o = some (if p then k else -1)) :
  o.bnd (fun i => cnd (ltI i 0) y (f i)) = if p then f k else y := by
 rw [ho, bnd_s]
 by_cases h : p
 ·rw [if_pos h, if_pos h, cnd_f (ltI_f hk)]
 ·rw [if_neg h, if_neg h, cnd_t (ltI_t (by omega))]
theorem sum0 {α : Type} : ∀ l : List α, (l.map fun _ => 0).sum = 0
 | [] => rfl
 | _ :: l => by simp [sum0 l]
theorem szKB {o : Option Int} {s : Nat} {k : Int} {f : Int → Option Bool} (ho : o = some (szR s k)) : o.bnd (fun i => cnd (ltI i 0) (some true) (f i)) = if (s : Int) ≤ k then f (k - s) else some true := by
 rw [ho, bnd_s]
 unfold szR
 by_cases h : (s : Int) ≤ k
 ·rw [if_pos h, if_pos h, cnd_f (ltI_f (by omega))]
 ·rw [if_neg h, if_neg h, cnd_t (ltI_t (by omega))]
theorem neB_self (b : Bool) : neB b b = false := by cases b <;> rfl
theorem neI_self (a : Int) : neI a a = false := neI_f rfl
theorem notB_t : notB true = false := rfl
theorem winI_len {α : Type} {xs : List α} {n : Nat} (h : xs.length = n) : winI xs 0 n = some xs := by subst h; exact winI_id xs
theorem samI_ok {a b : Nat} (h : a = b) : samI a b = some () := if_pos h
theorem fulI_ok {n m : Nat} (h : n = m) : fulI 0 n m = some () := by subst h; exact fulI_id n
theorem get_set_self {α : Type} {l : List α} {i : Nat} {a b : α} (h : l[i]? = some a) : (l.set i b)[i]? = some b := List.getElem?_set_self (lt_of_get h)
theorem getN_set {α : Type} {l : List α} {i : Nat} {a b : α} (h : l[i]? = some a) : getN (setL l i b) i = some b := get_set_self h
theorem setL_setL {α : Type} (l : List α) (i : Nat) (a b : α) : setL (setL l i a) i b = setL l i b := by simp [setL, List.set_set]
end Go.Am
end
