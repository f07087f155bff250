/- M1, Mx, M4, M31, M6, M7, M8, M9, Fm, M14, M15, M16, M17, M19, M33, M36, M32, M34, M35, M39: parts of the proof. No condition. -/
import Derived.Test.YtdbokcfhhdkhiaaMT
set_option linter.unusedVariables false
set_option linter.unusedSimpArgs false
section
namespace Go.Am
def edgeOk (n : Int) (e : Int × Int) : Bool := decide ((0 ≤ e.1 ∧ e.1 ≤ n - 1) ∧ (0 ≤ e.2 ∧ e.2 ≤ n - 1))
def graphOk (n : Int) (es : List (Int × Int)) : Bool := decide (0 ≤ n ∧ n ≤ 10) && decide (es.length ≤ 10) && es.all (edgeOk n)
def F_impl_GraphOk : Int × List (Int × Int) → Option Bool := fun ((n, es) : Int × List (Int × Int)) => some (graphOk n es)
def delStep (k : Int) (i : Nat) (acc : List (Int × Int)) (e : Int × Int) : List (Int × Int) := if (i : Int) = k then acc else acc ++ [e]
def delE (k : Int) (l : List (Int × Int)) : List (Int × Int) := foldN (delStep k) 0 [] l
def delR (n : Int) (l : List (Int × Int)) (k : Int) : (Int × List (Int × Int)) × Bool := if graphOk n l = true ∧ 0 ≤ k ∧ k < l.length then ((n, delE k l), true) else ((0, []), false)
def F_impl_DeleteEdge : (Int × List (Int × Int)) × Int → Option ((Int × List (Int × Int)) × Bool) := fun (((n, l), k) : (Int × List (Int × Int)) × Int) => if l.length ≤ 1048576 then some (delR n l k) else none
def ag_impl_GraphOk : Sig := [(.agg, [.int .i64, .list [.int .i64, .int .i64]])]
def rs_impl_GraphOk : Sig := [(.one, [.bool])]
def mu_impl_GraphOk : MSig := []
def ag_impl_DeleteEdge : Sig := [(.agg, [.int .i64, .list [.int .i64, .int .i64]]), (.one, [.int .i64])]
def rs_impl_DeleteEdge : Sig := [(.agg, [.int .i64, .list [.int .i64, .int .i64]]), (.one, [.bool])]
def mu_impl_DeleteEdge : MSig := []

def G_impl_GraphOk (NN : Nat) : (Int × (List (Int × Int))) → (Option Bool) :=
 (fun ((i0, l1) : (Int × (List (Int × Int)))) =>
 cnd (ltI i0 (0 : Int))
 (some false)
 (cnd (ltI (10 : Int) i0)
 (some false)
 (cnd (ltI (10 : Int) (natI (lenN l1)))
 (some false)
 (joinK (loopT NN (fun (((l2, i3, i4), i5, l6) : (((List (Int × Int)) × (Int × Int)) × (Int × (List (Int × Int))))) =>
 cnd (ltI i4 i3)
 ((getI l2 i4).bnd (fun (i7, i8) =>
 cnd (ltI i7 (0 : Int))
 (some (Sum.inr (Sum.inr false)))
 (cnd (ltI i8 (0 : Int))
 (some (Sum.inr (Sum.inr false)))
 (cnd (leI i5 i7)
 (some (Sum.inr (Sum.inr false)))
 (cnd (leI i5 i8)
 (some (Sum.inr (Sum.inr false)))
 (some (Sum.inl ((l2, i3, addI .i64 i4 1), i5, l6))))))))
 (some (Sum.inr (Sum.inl ()))))
 ((l1, natI (lenN l1), (0 : Int)), i0, l1))
 (fun _ =>
 some true)))))

def G_impl_DeleteEdge (NN : Nat) : ((Int × (List (Int × Int))) × Int) → (Option ((Int × (List (Int × Int))) × Bool)) :=
 (fun (((i0, l1), i2) : ((Int × (List (Int × Int))) × Int)) =>
 (F_impl_GraphOk (i0, l1)).bnd (fun b3 =>
 cnd (notB b3)
 (some (((0 : Int), ([] : List (Int × Int))), false))
 (cnd (ltI i2 (0 : Int))
 (some (((0 : Int), ([] : List (Int × Int))), false))
 (cnd (leI (natI (lenN l1)) i2)
 (some (((0 : Int), ([] : List (Int × Int))), false))
 (joinK ((fulI 0 0 (lenN (([] : List (Int × Int))))).bnd (fun _ =>
 (fulI 0 0 (lenN (([] : List (Int × Int))))).bnd (fun _ =>
 loopT NN (fun (((i4, l5, i6, i7), i8, i9, l10, l11) : ((Int × ((List (Int × Int)) × (Int × Int))) × (Int × (Int × ((List (Int × Int)) × (List (Int × Int))))))) =>
 cnd (ltI i7 i6)
 ((getI l5 i7).bnd (fun (i12, i13) =>
 cnd (neI i7 i4)
 ((fulI 0 (lenN l11) (lenN l11)).bnd (fun _ =>
 (winI (((i12, i13) :: ([] : List (Int × Int)))) 0 1).bnd (fun l14 =>
 (fitI (addN (lenN l11) (lenN l14)) 16).bnd (fun _ =>
 (fulI 0 (lenN l10) (lenN l10)).bnd (fun _ =>
 (fulI 0 (addN (lenN l11) (lenN l14)) (lenN (appL l11 l14))).bnd (fun _ =>
 some (Sum.inl ((i4, l5, i6, addI .i64 i7 1), i8, i9, l10, appL l11 l14))))))))
 ((fulI 0 (lenN l10) (lenN l10)).bnd (fun _ =>
 (fulI 0 (lenN l11) (lenN l11)).bnd (fun _ =>
 some (Sum.inl ((i4, l5, i6, addI .i64 i7 1), i8, i9, l10, l11)))))))
 (((fulI 0 (lenN l10) (lenN l10)).bnd (fun _ =>
 (fulI 0 (lenN l11) (lenN l11)).bnd (fun _ =>
 some (Sum.inl (i8, i9, l10, l11))))).bnd (fun l15 =>
 some (Sum.inr l15))))
 ((i2, l1, natI (lenN l1), (0 : Int)), (0 : Int), i0, ([] : List (Int × Int)), ([] : List (Int × Int))))))
 (fun (i16, i17, l18, l19) =>
 (takI l19 (lenN l19)).bnd (fun l20 =>
 some ((i17, l20), true))))))))


def resOk (n : Int) : List (Int × Int) → Unit ⊕ Bool
  | [] => .inl ()
  | e :: es => if edgeOk n e = true then resOk n es else .inr false

theorem resOk_eq (n : Int) (es : List (Int × Int)) : resOk n es = if es.all (edgeOk n) = true then .inl () else .inr false := by
  induction es with
  | nil => rfl
  | cons e es ih =>
    simp only [resOk]
    by_cases h : edgeOk n e = true
    · have e1 : (e :: es).all (edgeOk n) = es.all (edgeOk n) := by simp [h]
      rw [if_pos h, ih, e1]
    · have e1 : (e :: es).all (edgeOk n) = false := by simp [h]
      rw [if_neg h, e1]
      rfl

theorem f_impl_GraphOk (x : Int × List (Int × Int)) (y : Bool) (h : F_impl_GraphOk x = some y) : G_impl_GraphOk FUEL x = some y := by
  obtain ⟨n, es⟩ := x
  rw [← h]
  simp only [F_impl_GraphOk, G_impl_GraphOk, graphOk]
  by_cases h0 : n < 0
  · rw [cnd_t (by simp [ltI, h0])]; simp; omega
  rw [cnd_f (by simp [ltI]; omega)]
  by_cases h1 : 10 < n
  · rw [cnd_t (by simp [ltI, h1])]; simp; omega
  rw [cnd_f (by simp [ltI]; omega)]
  by_cases h2 : es.length ≤ 10
  · rw [cnd_f (ltI_f (by have := nl es; omega))]
    rw [loopT_run (r := resOk n es) (fun k s => ∃ (i : Nat) (j : Int), j = (i : Int) ∧ i ≤ es.length ∧ k = es.length - i ∧ resOk n es = resOk n (es.drop i) ∧ s = ((es, natI (lenN es), j), n, es)) ?_ es.length _ ⟨0, 0, rfl, by omega, by omega, by simp, rfl⟩ FUEL (FUEL_gt (by omega))]
    · rw [resOk_eq]
      by_cases h3 : es.all (edgeOk n) = true
      · rw [if_pos h3, joinK_l]; simp [h2]; exact ⟨by omega, by simpa using h3⟩
      · rw [if_neg h3, joinK_r]; simp [h2]; intro _ _; simpa using h3
    · rintro k s ⟨i, _, rfl, hi, rfl, hr, rfl⟩
      simp only
      by_cases hlt : i < es.length
      · obtain ⟨e, he⟩ : ∃ e, es[i]? = some e := ⟨_, List.getElem?_eq_getElem hlt⟩
        obtain ⟨u, v⟩ := e
        have hd := drop_cons he
        rw [cnd_t (ltI_t (by have := nl es; omega)), getI_nat, he, bnd_s]
        rw [hr, hd, resOk]
        simp only
        by_cases c1 : u < 0
        · left; rw [cnd_t (by simp [ltI, c1]), if_neg (by simp [edgeOk]; omega)]
        rw [cnd_f (by simp [ltI]; omega)]
        by_cases c2 : v < 0
        · left; rw [cnd_t (by simp [ltI, c2]), if_neg (by simp [edgeOk]; omega)]
        rw [cnd_f (by simp [ltI]; omega)]
        by_cases c3 : n ≤ u
        · left; rw [cnd_t (by simp [leI, c3]), if_neg (by simp [edgeOk]; omega)]
        rw [cnd_f (by simp [leI]; omega)]
        by_cases c4 : n ≤ v
        · left; rw [cnd_t (by simp [leI, c4]), if_neg (by simp [edgeOk]; omega)]
        rw [cnd_f (by simp [leI]; omega)]
        right
        refine ⟨es.length - (i + 1), ((es, natI (lenN es), ((i + 1 : Nat) : Int)), n, es), by omega, ?_, i + 1, _, rfl, by omega, rfl, ?_, rfl⟩
        · rw [addI_eq (by omega) (by omega)]; rfl
        · rw [if_pos (by simp [edgeOk]; omega)]
      · left
        have hi' : i = es.length := by omega
        subst hi'
        rw [cnd_f (ltI_f (by have := nl es; omega)), hr]
        simp [resOk]
  · rw [cnd_t (ltI_t (by have := nl es; omega))]
    simp [h2]

theorem foldN_inv {S α : Type} (step : Nat → S → α → S) (I : Nat → S → Prop) : ∀ (l : List α) (i : Nat) (s : S), I i s → (∀ j s a, I j s → a ∈ l → I (j + 1) (step j s a)) → I (i + l.length) (foldN step i s l)
  | [], i, s, h, _ => h
  | a :: l, i, s, h, hs => by
    have := foldN_inv step I l (i + 1) (step i s a) (hs i s a h (by simp)) (fun j s b hj hb => hs j s b hj (by simp [hb]))
    rw [List.length_cons, show i + (l.length + 1) = i + 1 + l.length by omega]
    exact this

theorem delE_len (k : Int) (l : List (Int × Int)) : (delE k l).length ≤ l.length := by
  have := foldN_inv (delStep k) (fun i s => s.length ≤ i) l 0 [] (by simp) (fun j s a h _ => by unfold delStep; split <;> (try simp only [List.length_append, List.length_cons, List.length_nil]) <;> omega)
  rwa [Nat.zero_add] at this

theorem delStep_t {k : Int} {i : Nat} {acc : List (Int × Int)} {e : Int × Int} (h : (i : Int) = k) : delStep k i acc e = acc := if_pos h
theorem delStep_f {k : Int} {i : Nat} {acc : List (Int × Int)} {e : Int × Int} (h : (i : Int) ≠ k) : delStep k i acc e = acc ++ [e] := if_neg h

theorem f_impl_DeleteEdge (x : (Int × List (Int × Int)) × Int) (y : (Int × List (Int × Int)) × Bool) (h : F_impl_DeleteEdge x = some y) : G_impl_DeleteEdge FUEL x = some y := by
  obtain ⟨⟨n, l⟩, k⟩ := x
  simp only [F_impl_DeleteEdge] at h
  split at h
  · rename_i hl
    rw [← h]
    have hn := nl l
    simp only [G_impl_DeleteEdge, F_impl_GraphOk, fulI_id, bnd_s, win1]
    unfold delR
    by_cases hg : graphOk n l = true
    · rw [cnd_f (by rw [hg]; rfl)]
      by_cases hk : k < 0
      · rw [cnd_t (ltI_t hk), if_neg (by omega)]
      rw [cnd_f (ltI_f (by omega))]
      by_cases hk2 : (l.length : Int) ≤ k
      · rw [cnd_t (leI_t (by omega)), if_neg (by omega)]
      rw [cnd_f (leI_f (by omega)), if_pos ⟨hg, by omega, by omega⟩]
      rw [show fulI 0 0 (lenN ([] : List (Int × Int))) = some () from rfl, bnd_s, bnd_s]
      rw [loopT_foldN l (fun acc i => ((k, l, natI (lenN l), (i : Int)), (0 : Int), n, ([] : List (Int × Int)), acc)) (fun i acc => acc.length ≤ i) (delStep k) (fun acc => Sum.inl ((0 : Int), n, ([] : List (Int × Int)), acc)) ?_ ?_ (s := []) (by simp) ?_ (FUEL_gt (by omega))]
      · rw [joinK_l]; simp only [takI_id, bnd_s]; rfl
      · rintro i acc ⟨u, v⟩ he hI
        have := lt_of_get he
        refine ⟨?_, by unfold delStep; split <;> (try simp only [List.length_append, List.length_cons, List.length_nil]) <;> omega⟩
        simp only
        rw [cnd_t (ltI_in he), getI_nat, he, bnd_s, next_i he (by omega)]
        by_cases hk : (i : Int) = k
        · rw [cnd_f (neI_f hk), delStep_t hk]
        · rw [cnd_t (neI_t hk), delStep_f hk, fitI_ok (by simp only [addN, lenN, maxBytes, List.length_cons, List.length_nil]; omega), bnd_s, lenN_appL, fulI_id, bnd_s]; rfl
      · intro acc hI
        simp only
        rw [cnd_f (ltI_end l)]
      · rfl
    · rw [cnd_t (by rw [Bool.eq_false_iff.2 hg]; rfl), if_neg (fun h => hg h.1)]
  · cases h

end Go.Am
end
section
namespace Go.Am

/-! ### loops -/

/-! ### matrices -/

def genD (r c : Nat) (M : Nat → Nat → Int) : List Int := (List.range (r * c)).map fun n => M (n / c) (n % c)
def ofD (c : Nat) (l : List Int) : Nat → Nat → Int := fun i j => l.getD (i * c + j) 0
/-! ### indices as the program computes them -/

theorem ltN_t {i n : Nat} (h : i < n) : ltI (i : Int) (n : Int) = true := ltI_t (by omega)
theorem ltN_f {i n : Nat} (h : n ≤ i) : ltI (i : Int) (n : Int) = false := ltI_f (by omega)
theorem addN1 {i : Nat} (h : i ≤ 1048577) : addI .i64 (i : Int) 1 = ((i + 1 : Nat) : Int) := by rw [addI_eq (by omega) (by omega)]; omega

/-- Products modulo p. -/
def pOk (p : Int) : Prop := 2 ≤ p ∧ p ≤ 1000003
instance (p : Int) : Decidable (pOk p) := inferInstanceAs (Decidable (2 ≤ p ∧ p ≤ 1000003))
def inP (p x : Int) : Prop := 0 ≤ x ∧ x < p
instance (p x : Int) : Decidable (inP p x) := inferInstanceAs (Decidable (0 ≤ x ∧ x < p))

theorem emod_in {p : Int} (hp : pOk p) (a : Int) : inP p (a % p) := ⟨Int.emod_nonneg _ (by have := hp.1; omega), Int.emod_lt_of_pos _ (by have := hp.1; omega)⟩
theorem inP.le {p x : Int} (h : inP p x) : 0 ≤ x ∧ x ≤ p := ⟨h.1, Int.le_of_lt h.2⟩
theorem inP.s {p x : Int} (hp : pOk p) (h : inP p x) : 0 ≤ x ∧ x ≤ 1000003000000 := ⟨h.1, by have := h.2; have := hp.2; omega⟩
/-- All of a matrix's elements are modulo p. -/
def inM (p : Int) (r c : Nat) (M : Nat → Nat → Int) : Prop := ∀ i, i < r → ∀ j, j < c → inP p (M i j)

def allP (p : Int) (l : List Int) : Prop := ∀ x ∈ l, inP p x
instance (p : Int) (l : List Int) : Decidable (allP p l) := inferInstanceAs (Decidable (∀ x ∈ l, inP p x))

/-- A matrix as the program has it. -/
def mOk (x : Int × Int × List Int) : Prop := (0 ≤ x.1 ∧ x.1 ≤ 4096) ∧ (0 ≤ x.2.1 ∧ x.2.1 ≤ 4096) ∧ (x.2.2.length : Int) = x.1 * x.2.1 ∧ x.2.2.length ≤ 1048576
instance (x : Int × Int × List Int) : Decidable (mOk x) := by unfold mOk; infer_instance

end Go.Am
end
section
namespace Go.Am

/-! ### primes, rows, matrices, automata -/

def divAt (n : Int) (i : Nat) : Bool := decide ((i : Int) * i ≤ n) && decide (n % (i : Int) = 0)
def isPrimeI (n : Int) : Bool := decide (2 ≤ n ∧ n ≤ 1000003) && !((List.range' 2 999).any (divAt n))
def inB (m : Int) (v : Int) : Bool := decide (0 ≤ v ∧ v < m)
def rowOk (m : Int) (l : List Int) : Bool := l.all (inB m)
def matOk (m : Int) (x : Int × Int × List Int) : Bool := isPrimeI m && (decide (0 ≤ x.1 ∧ x.1 ≤ 64) && (decide (0 ≤ x.2.1 ∧ x.2.1 ≤ 64) && (decide ((x.2.2.length : Int) = x.1 * x.2.1) && rowOk m x.2.2)))
def matsOk (m n : Int) (x : Int × Int × List Int) : Bool := matOk m x && (decide (x.1 = n) && decide (x.2.1 = n))
def autOk (x : Int × Int × List Int × List (Int × Int × List Int) × List Int) : Bool := match x with
  | (m, n, a, ms, b) => isPrimeI m && (decide (0 ≤ n ∧ n ≤ 12) && ((rowOk m a && decide ((a.length : Int) = n)) && ((rowOk m b && decide ((b.length : Int) = n)) && (decide (1 ≤ ms.length ∧ ms.length ≤ 4) && ms.all (matsOk m n)))))
theorem mulI_eq {a b : Int} (h1 : -9223372036854775808 ≤ a * b) (h2 : a * b ≤ 9223372036854775807) : mulI .i64 a b = a * b := wrap_id h1 h2
theorem remI_nat {n : Int} {i : Nat} (hn : 0 ≤ n) (hi : 0 < i) : remI n (i : Int) = some (n % (i : Int)) := by
  unfold remI
  rw [if_neg (by omega), Int.tmod_eq_emod_of_nonneg hn]

theorem isPrimeI_t {m : Int} (h : isPrimeI m = true) : 2 ≤ m ∧ m ≤ 1000003 := by
  simp only [isPrimeI, Bool.and_eq_true, decide_eq_true_eq] at h
  exact h.1

end Go.Am
end
section
namespace Go.Am

/-! ### rings -/

def ringOk : Int × Int × Int → Bool := fun ((k, p, n) : Int × Int × Int) =>
  if k = 1 then decide (p = 0 ∧ n = 0) else if k = 2 then isPrimeI p && decide (n = 0) else if k = 3 ∨ k = 4 ∨ k = 5 then decide ((1 ≤ p ∧ p ≤ 1000000) ∧ n = 0)
  else if k = 6 then decide (p = 0 ∧ 1 ≤ n ∧ n ≤ 20) else if k = 7 then isPrimeI p && decide (1 ≤ n ∧ n ≤ 6) else if k = 8 then isPrimeI p && decide (p ≠ 2 ∧ n = 0) else false
def widI : Int × Int × Int → Int := fun ((k, p, n) : Int × Int × Int) => if k = 7 then n else if k = 8 then 4 else 1
def widN (r : Int × Int × Int) : Nat := (widI r).toNat
def topI : Int × Int × Int → Int := fun ((k, p, n) : Int × Int × Int) => if k = 1 then 1 else if k = 3 ∨ k = 4 ∨ k = 5 then p else if k = 6 then 2 ^ n.toNat - 1 else p - 1
def inTop (t v : Int) : Bool := decide (0 ≤ v ∧ v ≤ t)
def elOk (r : Int × Int × Int) (x : List Int) : Bool := decide (x.length = widN r) && x.all (inTop (topI r))
def oneE : Int × Int × Int → List Int := fun ((k, p, n) : Int × Int × Int) => setL (repL (widN (k, p, n)) 0) 0 (if k = 4 then 0 else if k = 5 ∨ k = 6 then topI (k, p, n) else 1)
def sm : Nat → (Nat → Int) → Int
  | 0, _ => 0
  | n + 1, f => sm n f + f n
def kW (om : Bool) (x y : Nat → Int) (t i j : Nat) : Int := if i + j = t then x i * y j else if om = true ∧ i + j = t + 4 then -(x i * y j) else 0
def tab (w : Nat) (f : Nat → Int) : List Int := (List.range w).map f
def fnL (x : List Int) : Nat → Int := fun i => x.getD i 0
def cvE (p : Int) (om : Bool) (w : Nat) (x y : Nat → Int) : List Int := tab w fun t => sm w (fun i => sm w (fun j => kW om x y t i j)) % p
def opM : Int × Int × Int → Int → Int → Int := fun ((k, p, n) : Int × Int × Int) a b =>
  if k = 1 ∨ k = 6 then ((a.toNat &&& b.toNat : Nat) : Int) else if k = 2 then a * b % p else if k = 3 then min (a * b) p else if k = 4 then min (a + b) p else min a b
def mulE (r : Int × Int × Int) (x y : List Int) : List Int := if r.1 = 7 ∨ r.1 = 8 then cvE r.2.1 (decide (r.1 = 8)) (widN r) (fnL x) (fnL y) else [opM r (fnL x 0) (fnL y 0)]
theorem cnd_eqI {α : Type} (a b : Int) (x y : α) : cnd (eqI a b) x y = if a = b then x else y := by
  by_cases h : a = b
  · rw [if_pos h, cnd_t (eqI_t h)]
  · rw [if_neg h, cnd_f (eqI_f h)]
theorem ring_cases {k p n : Int} (h : ringOk (k, p, n) = true) : (k = 1 ∧ p = 0 ∧ n = 0) ∨ (k = 2 ∧ isPrimeI p = true ∧ n = 0) ∨ (k = 3 ∧ (1 ≤ p ∧ p ≤ 1000000) ∧ n = 0) ∨ (k = 4 ∧ (1 ≤ p ∧ p ≤ 1000000) ∧ n = 0) ∨ (k = 5 ∧ (1 ≤ p ∧ p ≤ 1000000) ∧ n = 0) ∨
    (k = 6 ∧ p = 0 ∧ 1 ≤ n ∧ n ≤ 20) ∨ (k = 7 ∧ isPrimeI p = true ∧ 1 ≤ n ∧ n ≤ 6) ∨ (k = 8 ∧ isPrimeI p = true ∧ p ≠ 2 ∧ n = 0) := by
  simp only [ringOk] at h
  by_cases h1 : k = 1
  · rw [if_pos h1] at h; exact .inl ⟨h1, by simpa using h⟩
  rw [if_neg h1] at h
  by_cases h2 : k = 2
  · rw [if_pos h2] at h; simp at h; exact .inr (.inl ⟨h2, h⟩)
  rw [if_neg h2] at h
  by_cases h3 : k = 3 ∨ k = 4 ∨ k = 5
  · rw [if_pos h3] at h
    simp only [decide_eq_true_eq] at h
    rcases h3 with h3 | h3 | h3
    · exact .inr (.inr (.inl ⟨h3, h⟩))
    · exact .inr (.inr (.inr (.inl ⟨h3, h⟩)))
    · exact .inr (.inr (.inr (.inr (.inl ⟨h3, h⟩))))
  rw [if_neg h3] at h
  by_cases h4 : k = 6
  · rw [if_pos h4] at h; simp at h; exact .inr (.inr (.inr (.inr (.inr (.inl ⟨h4, h⟩)))))
  rw [if_neg h4] at h
  by_cases h5 : k = 7
  · rw [if_pos h5] at h; simp at h; exact .inr (.inr (.inr (.inr (.inr (.inr (.inl ⟨h5, h⟩))))))
  rw [if_neg h5] at h
  by_cases h6 : k = 8
  · rw [if_pos h6] at h; simp at h; exact .inr (.inr (.inr (.inr (.inr (.inr (.inr ⟨h6, h⟩))))))
  rw [if_neg h6] at h
  cases h

theorem wid_bd {r : Int × Int × Int} (h : ringOk r = true) : widI r = (widN r : Int) ∧ 1 ≤ widN r ∧ widN r ≤ 6 := by
  obtain ⟨k, p, n⟩ := r
  rcases ring_cases h with ⟨rfl, rfl, rfl⟩ | ⟨rfl, hp, rfl⟩ | ⟨rfl, hp, rfl⟩ | ⟨rfl, hp, rfl⟩ | ⟨rfl, hp, rfl⟩ | ⟨rfl, rfl, hn⟩ | ⟨rfl, hp, hn⟩ | ⟨rfl, hp, hp2, rfl⟩
  · simp [widN, widI]
  · simp [widN, widI]
  · simp [widN, widI]
  · simp [widN, widI]
  · simp [widN, widI]
  · simp [widN, widI]
  · simp [widN, widI]; omega
  · simp [widN, widI]

theorem rep_set {w : Nat} {p : Int} (h : w = 1) : setL (repL w (0 : Int)) 0 p = [p] := by subst h; rfl

/-! ### lists by their places -/

theorem tab_len (w : Nat) (f : Nat → Int) : (tab w f).length = w := by simp [tab]
theorem tab_get {w j : Nat} (f : Nat → Int) (h : j < w) : (tab w f)[j]? = some (f j) := by simp [tab, h]
theorem tab_congr {w : Nat} {f g : Nat → Int} (h : ∀ j, j < w → f j = g j) : tab w f = tab w g := List.map_congr_left fun j hj => h j (List.mem_range.1 hj)
theorem tab_set {w : Nat} (f : Nat → Int) (j : Nat) (v : Int) : (tab w f).set j v = tab w (fun i => if i = j then v else f i) := by
  apply List.ext_getElem?
  intro i
  by_cases hi : i < w
  · rw [tab_get _ hi]
    by_cases hj : j = i
    · subst hj
      rw [List.getElem?_set_self (by rw [tab_len]; exact hi), if_pos rfl]
    · rw [List.getElem?_set_ne hj, tab_get _ hi, if_neg (fun e => hj e.symm)]
  · rw [List.getElem?_eq_none (by rw [List.length_set, tab_len]; omega), List.getElem?_eq_none (by rw [tab_len]; omega)]
theorem fnL_get {x : List Int} {j : Nat} (h : j < x.length) : x[j]? = some (fnL x j) := by
  rw [List.getElem?_eq_getElem h]
  simp [fnL, List.getD_eq_getElem?_getD, List.getElem?_eq_getElem h]
theorem fnL_tab {w j : Nat} (f : Nat → Int) (h : j < w) : fnL (tab w f) j = f j := by simp [fnL, List.getD_eq_getElem?_getD, tab_get f h]
theorem tab_fnL {x : List Int} {w : Nat} (h : x.length = w) : tab w (fnL x) = x := by
  subst h
  apply List.ext_getElem?
  intro i
  by_cases hi : i < x.length
  · rw [tab_get _ hi, fnL_get hi]
  · rw [List.getElem?_eq_none (by rw [tab_len]; omega), List.getElem?_eq_none (by omega)]
theorem tab_rep (w : Nat) (c : Int) : repL w c = tab w fun _ => c := by
  apply List.ext_getElem?
  intro i
  by_cases hi : i < w
  · rw [tab_get _ hi]; simp [repL, hi]
  · rw [List.getElem?_eq_none (by simp [repL]; omega), List.getElem?_eq_none (by rw [tab_len]; omega)]
/-! ### elements -/

theorem el_len {r : Int × Int × Int} {x : List Int} (h : elOk r x = true) : x.length = widN r := by
  simp only [elOk, Bool.and_eq_true, decide_eq_true_eq] at h; exact h.1
theorem el_at {r : Int × Int × Int} {x : List Int} (h : elOk r x = true) {j : Nat} (hj : j < widN r) : 0 ≤ fnL x j ∧ fnL x j ≤ topI r := by
  simp only [elOk, Bool.and_eq_true, decide_eq_true_eq] at h
  have := List.all_eq_true.1 h.2 (fnL x j) (List.mem_of_getElem? (fnL_get (by rw [h.1]; exact hj)))
  simpa [inTop] using this
theorem el_one {r : Int × Int × Int} {x : List Int} (h : elOk r x = true) (hw : widN r = 1) : x = [fnL x 0] ∧ 0 ≤ fnL x 0 ∧ fnL x 0 ≤ topI r := by
  have hl := el_len h
  rw [hw] at hl
  match x, hl with
  | [a], _ => exact ⟨rfl, el_at h (j := 0) (by omega)⟩
theorem remI_pos {a p : Int} (ha : 0 ≤ a) (hp : 0 < p) : remI a p = some (a % p) := by
  obtain ⟨m, rfl⟩ := natI_eq (z := p) (by omega)
  exact remI_nat ha (by omega)

/-! ### products of coefficients -/

theorem sm_congr {f g : Nat → Int} : ∀ {n : Nat}, (∀ i, i < n → f i = g i) → sm n f = sm n g
  | 0, _ => rfl
  | n + 1, h => by simp only [sm]; rw [sm_congr (n := n) (fun i hi => h i (by omega)), h n (by omega)]

/-- What is asked of a ring of coefficients. -/
structure CfR (k p : Int) (w : Nat) : Prop where
  ck : k = 7 ∨ k = 8
  cp : 2 ≤ p ∧ p ≤ 1000003
  cw : 1 ≤ w ∧ w ≤ 6
  w8 : k = 8 → w = 4

theorem cf_of {k p n : Int} (h : ringOk (k, p, n) = true) (hk : k = 7 ∨ k = 8) : CfR k p (widN (k, p, n)) := by
  have hw := wid_bd h
  refine ⟨hk, ?_, hw.2, fun e => by subst e; rfl⟩
  rcases ring_cases h with ⟨rfl, rfl, rfl⟩ | ⟨rfl, hp, rfl⟩ | ⟨rfl, hp, rfl⟩ | ⟨rfl, hp, rfl⟩ | ⟨rfl, hp, rfl⟩ | ⟨rfl, rfl, hn⟩ | ⟨rfl, hp, hn⟩ | ⟨rfl, hp, hp2, rfl⟩
  all_goals first | exact isPrimeI_t hp | (exfalso; omega)

theorem mulE_1 {r : Int × Int × Int} {a b : Int} (h : ¬ (r.1 = 7 ∨ r.1 = 8)) : mulE r [a] [b] = [opM r a b] := by simp only [mulE]; rw [if_neg h]; rfl

/-! ### elements stay elements -/

theorem oneE_tab (k p n : Int) : oneE (k, p, n) = tab (widN (k, p, n)) fun j => if j = 0 then (if k = 4 then 0 else if k = 5 ∨ k = 6 then topI (k, p, n) else 1) else 0 := by
  simp only [oneE]
  rw [tab_rep]
  exact tab_set _ 0 _
end Go.Am
end
section
namespace Go.Am
def newOk (x : Int × Int) : Prop := (0 ≤ x.1 ∧ x.1 ≤ 4096) ∧ (0 ≤ x.2 ∧ x.2 ≤ 4096) ∧ x.1 * x.2 ≤ 1048576
instance (x : Int × Int) : Decidable (newOk x) := by unfold newOk; infer_instance
def swapF (M : Nat → Nat → Int) (a b : Nat) : Nat → Nat → Int := fun i j => if i = a then M b j else if i = b then M a j else M i j
def pivF (M : Nat → Nat → Int) (j : Nat) : Nat → Nat → Option Nat
  | 0, _ => none
  | d + 1, k => if M k j = 0 then pivF M j d (k + 1) else some k
def invG (p out x : Int) (n : Nat) : Int := if h : n = 0 then out else invG p (if n % 2 = 1 then out * x % p else out) (x * x % p) (n / 2)
termination_by n
decreasing_by omega
def mulOk (x : Int × (Int × Int × List Int) × (Int × Int × List Int)) : Prop := pOk x.1 ∧ mOk x.2.1 ∧ mOk x.2.2 ∧ x.2.1.2.1 = x.2.2.1 ∧ x.2.1.1 * x.2.2.2.1 ≤ 1048576 ∧ allP x.1 x.2.1.2.2 ∧ allP x.1 x.2.2.2.2
instance (x : Int × (Int × Int × List Int) × (Int × Int × List Int)) : Decidable (mulOk x) := by unfold mulOk; infer_instance
/-! ### rows -/

/-! ### pivots, inverses -/

theorem pivF_lt {M : Nat → Nat → Int} {j q : Nat} : ∀ {d k : Nat}, pivF M j d k = some q → k ≤ q ∧ q < k + d ∧ M q j ≠ 0
  | 0, k, h => by cases h
  | d + 1, k, h => by
    simp only [pivF] at h
    split at h
    · have := pivF_lt h
      exact ⟨by omega, by omega, this.2.2⟩
    · rename_i h0
      injection h with h
      subst h
      exact ⟨by omega, by omega, h0⟩

theorem invG_0 (p out x : Int) : invG p out x 0 = out := by rw [invG]; rfl
theorem invG_s {n : Nat} (h : n ≠ 0) (p out x : Int) : invG p out x n = invG p (if n % 2 = 1 then out * x % p else out) (x * x % p) (n / 2) := by
  rw [invG, dif_neg h]
/-! ### transposed -/

/-! ### products -/

end Go.Am
end
section
namespace Go.Am
/-! ### transposes, products and swaps of good matrices -/

def sopOk (x : Int × Int × Int) : Prop := isPrimeI x.1 = true ∧ (1 ≤ x.2.1 ∧ x.2.1 ≤ 8) ∧ (1 ≤ x.2.2 ∧ x.2.2 ≤ 8)
instance (x : Int × Int × Int) : Decidable (sopOk x) := by unfold sopOk; infer_instance
/-! ### the swap operator -/

end Go.Am
end
section
namespace Go.Am
/-! ### reduced forms -/

abbrev Mat := Nat → Nat → Int
def sclF (p inv : Int) (M : Mat) (t : Nat) : Mat := fun a b => if a = t then M t b * inv % p else M a b
def clrF (p : Int) (M : Mat) (t j n : Nat) : Mat := fun a b => if a < n ∧ a ≠ t then (M a b + (p - M a j) * M t b) % p else M a b
def pivS (p : Int) (M : Mat) (t j k : Nat) : Mat := sclF p (invG p 1 (swapF M t k t j) (p - 2).toNat) (swapF M t k) t
def redD (p : Int) (M : Mat) (t j k : Nat) (d : Int) : Int := (if k = t then d else (p - d) % p) * swapF M t k t j % p
def redS (p : Int) (r : Nat) (s : Mat × List Int × Int) (j : Nat) : Mat × List Int × Int :=
  if s.2.1.length < r then
    match pivF s.1 j (r - s.2.1.length) s.2.1.length with
    | none => s
    | some k => (clrF p (pivS p s.1 s.2.1.length j k) s.2.1.length j r, s.2.1 ++ [(j : Int)], redD p s.1 s.2.1.length j k s.2.2)
  else s
def redN (p : Int) (r : Nat) (M : Mat) : Nat → Mat × List Int × Int
  | 0 => (M, [], 1)
  | j + 1 => redS p r (redN p r M j) j
def redOk (x : Int × Int × Int × List Int) : Prop := pOk x.1 ∧ mOk x.2 ∧ allP x.1 x.2.2.2
instance (x : Int × Int × Int × List Int) : Decidable (redOk x) := by unfold redOk; infer_instance
theorem swapF_in {p : Int} {r c : Nat} {M : Mat} (hM : inM p r c M) {a b : Nat} (ha : a < r) (hb : b < r) : inM p r c (swapF M a b) := by
  intro i hi j hj
  unfold swapF
  split
  · exact hM b hb j hj
  · split
    · exact hM a ha j hj
    · exact hM i hi j hj
theorem sclF_in {p inv : Int} {r c : Nat} {M : Mat} (hp : pOk p) (hM : inM p r c M) (t : Nat) : inM p r c (sclF p inv M t) := by
  intro i hi j hj
  unfold sclF
  split
  · exact emod_in hp _
  · exact hM i hi j hj
theorem clrF_in {p : Int} {r c : Nat} {M : Mat} (hp : pOk p) (hM : inM p r c M) (t k n : Nat) : inM p r c (clrF p M t k n) := by
  intro i hi j hj
  unfold clrF
  split
  · exact emod_in hp _
  · exact hM i hi j hj
theorem pivS_in {p : Int} {r c : Nat} {M : Mat} (hp : pOk p) (hM : inM p r c M) {t k : Nat} (ht : t < r) (hk : k < r) (j : Nat) : inM p r c (pivS p M t j k) := sclF_in hp (swapF_in hM ht hk) t

structure RI (p : Int) (r c : Nat) (s : Mat × List Int × Int) (j : Nat) : Prop where
  m : inM p r c s.1
  l : s.2.1.length ≤ r
  lj : s.2.1.length ≤ j
  d : inP p s.2.2
  e : ∀ x ∈ s.2.1, 0 ≤ x ∧ x < (j : Int)
theorem RI.step {p : Int} {r c : Nat} {s : Mat × List Int × Int} {j : Nat} (hp : pOk p) (h : RI p r c s j) : RI p r c (redS p r s j) (j + 1) := by
  have keep : RI p r c s (j + 1) := ⟨h.m, h.l, by have := h.lj; omega, h.d, fun x hx => by have := h.e x hx; omega⟩
  unfold redS
  split
  · rename_i hl
    split
    · exact keep
    · rename_i k hk
      have hq := pivF_lt hk
      refine ⟨clrF_in hp (pivS_in hp h.m hl (by omega) j) _ _ _, ?_, ?_, emod_in hp _, ?_⟩
      · simp only [List.length_append, List.length_cons, List.length_nil]; omega
      · have := h.lj
        simp only [List.length_append, List.length_cons, List.length_nil]; omega
      · intro x hx
        simp only [List.mem_append, List.mem_singleton] at hx
        rcases hx with hx | rfl
        · have := h.e x hx; omega
        · omega
  · exact keep
theorem clrF_0 {p : Int} (M : Mat) (t j : Nat) : clrF p M t j 0 = M := by funext a b; exact if_neg (by omega)
theorem clrF_old {p : Int} (M : Mat) (t j n b : Nat) : clrF p M t j n n b = M n b := if_neg (by omega)
theorem clrF_t {p : Int} (M : Mat) (t j n b : Nat) : clrF p M t j n t b = M t b := if_neg (by omega)
theorem clrF_skip {p : Int} (M : Mat) (t j : Nat) : clrF p M t j (t + 1) = clrF p M t j t := by
  funext a b
  unfold clrF
  by_cases h : a < t
  · rw [if_pos (by omega), if_pos (by omega)]
  · rw [if_neg (by omega), if_neg (by omega)]
theorem pivF_none {M : Mat} {j : Nat} : ∀ {d k : Nat}, pivF M j d k = none → ∀ i, k ≤ i → i < k + d → M i j = 0
  | 0, k, _, i, h1, h2 => by omega
  | d + 1, k, h, i, h1, h2 => by
    simp only [pivF] at h
    split at h
    · rename_i h0
      by_cases hi : i = k
      · rw [hi]; exact h0
      · exact pivF_none h i (by omega) (by omega)
    · cases h
theorem redS_n {p : Int} {r : Nat} {s : Mat × List Int × Int} {j : Nat} (hl : s.2.1.length < r) (h : pivF s.1 j (r - s.2.1.length) s.2.1.length = none) : redS p r s j = s := by
  unfold redS
  rw [if_pos hl, h]
theorem redS_s {p : Int} {r : Nat} {s : Mat × List Int × Int} {j k : Nat} (hl : s.2.1.length < r) (h : pivF s.1 j (r - s.2.1.length) s.2.1.length = some k) :
    redS p r s j = (clrF p (pivS p s.1 s.2.1.length j k) s.2.1.length j r, s.2.1 ++ [(j : Int)], redD p s.1 s.2.1.length j k s.2.2) := by
  unfold redS
  rw [if_pos hl, h]
/-! ### the walk of the spec's reduction -/

section
variable {p : Int} {r c : Nat} {M0 : Mat}

end
/-! ### the walk of the program's reduction -/

section
variable {p : Int} {r c : Nat} {M0 : Mat}

end

end Go.Am
end
section
namespace Go.Am
/-! ### ranks, reduced forms and factors of good matrices -/

/-! ### factors -/

section
variable {p : Int} {r c : Nat} {M R : Mat} {L : List Int}

end

end Go.Am
end
section
namespace Go.Am

def ch : Nat → Nat → Nat
  | _, 0 => 1
  | 0, _ + 1 => 0
  | n + 1, k + 1 => ch n k + ch n (k + 1)

theorem ch_gt : ∀ {n k : Nat}, n < k → ch n k = 0
  | 0, k + 1, _ => by simp [ch]
  | n + 1, k + 1, h => by simp [ch, ch_gt (show n < k by omega), ch_gt (show n < k + 1 by omega)]
theorem ch_0 (n : Nat) : ch n 0 = 1 := by cases n <;> rfl
theorem ch_self : ∀ n, ch n n = 1
  | 0 => rfl
  | n + 1 => by simp [ch, ch_self n, ch_gt (Nat.lt_succ_self n)]

theorem ch_mul : ∀ (n k : Nat), (k + 1) * ch (n + 1) (k + 1) = (n + 1) * ch n k
  | 0, 0 => by simp [ch]
  | 0, k + 1 => by simp [ch]
  | n + 1, 0 => by
    have h := ch_mul n 0
    simp only [ch_0] at h ⊢
    have e : ch (n + 1 + 1) (0 + 1) = ch (n + 1) 0 + ch (n + 1) (0 + 1) := rfl
    rw [e, ch_0]
    omega
  | n + 1, k + 1 => by
    have h1 := ch_mul n k
    have h2 := ch_mul n (k + 1)
    have e1 : ch (n + 1 + 1) (k + 1 + 1) = ch (n + 1) (k + 1) + ch (n + 1) (k + 1 + 1) := rfl
    have e2 : ch (n + 1) (k + 1) = ch n k + ch n (k + 1) := rfl
    rw [e1]
    generalize ch (n + 1) (k + 1 + 1) = B at *
    generalize ch (n + 1) (k + 1) = A at *
    generalize ch n k = u at *
    generalize ch n (k + 1) = v at *
    subst e2
    grind

def sumF (f : Nat → Nat) : Nat → Nat
  | 0 => 0
  | m + 1 => sumF f m + f m

theorem sum_step (n a : Nat) : ∀ m, sumF (fun k => ch (n + 1) k * a ^ k) (m + 1) = sumF (fun k => ch n k * a ^ k) (m + 1) + a * sumF (fun k => ch n k * a ^ k) m
  | 0 => by simp [sumF, ch_0]
  | m + 1 => by
    have h := sum_step n a m
    simp only [sumF] at h ⊢
    have e : ch (n + 1) (m + 1) = ch n m + ch n (m + 1) := rfl
    rw [h, e, Nat.pow_succ]
    grind

theorem binom (a : Nat) : ∀ n, (a + 1) ^ n = sumF (fun k => ch n k * a ^ k) (n + 1)
  | 0 => by simp [sumF, ch_0]
  | n + 1 => by
    rw [sum_step]
    have e : sumF (fun k => ch n k * a ^ k) (n + 1 + 1) = sumF (fun k => ch n k * a ^ k) (n + 1) := by
      show sumF _ (n + 1) + ch n (n + 1) * a ^ (n + 1) = _
      rw [ch_gt (Nat.lt_succ_self n)]; simp
    rw [e, ← binom a n, Nat.pow_succ]
    grind

theorem sum_mod {p : Nat} {f : Nat → Nat} : ∀ m, (∀ k, 0 < k → k ≤ m → p ∣ f k) → sumF f (m + 1) % p = f 0 % p
  | 0, h => by simp [sumF]
  | m + 1, h => by
    have i := sum_mod m fun k h1 h2 => h k h1 (by omega)
    obtain ⟨c, hc⟩ := h (m + 1) (by omega) (Nat.le_refl _)
    show (sumF f (m + 1) + f (m + 1)) % p = _
    rw [hc, Nat.add_mul_mod_self_left, i]

def PrimeN (p : Nat) : Prop := 2 ≤ p ∧ ∀ d, d ∣ p → d = 1 ∨ d = p

theorem PrimeN.cop {p a : Nat} (hp : PrimeN p) (h : ¬ p ∣ a) : Nat.Coprime p a := by
  have := hp.2 (Nat.gcd p a) (Nat.gcd_dvd_left p a)
  rcases this with h1 | h1
  · exact h1
  · exact absurd (h1 ▸ Nat.gcd_dvd_right p a) h

theorem PrimeN.ch {p k : Nat} (hp : PrimeN p) (h1 : 0 < k) (h2 : k < p) : p ∣ ch p k := by
  obtain ⟨q, rfl⟩ : ∃ q, p = q + 1 := ⟨p - 1, by omega⟩
  obtain ⟨j, rfl⟩ : ∃ j, k = j + 1 := ⟨k - 1, by omega⟩
  have hm := ch_mul q j
  have hd : (q + 1) ∣ (j + 1) * Go.Am.ch (q + 1) (j + 1) := ⟨Go.Am.ch q j, hm⟩
  exact (hp.cop fun h => absurd (Nat.le_of_dvd (by omega) h) (by omega)).dvd_of_dvd_mul_left hd

theorem fermat0 {p : Nat} (hp : PrimeN p) : ∀ a, a ^ p % p = a % p
  | 0 => by rw [Nat.zero_pow (by have := hp.1; omega)]
  | a + 1 => by
    rw [binom]
    show (sumF _ p + Go.Am.ch p p * a ^ p) % p = _
    obtain ⟨q, rfl⟩ : ∃ q, p = q + 1 := ⟨p - 1, by have := hp.1; omega⟩
    have h := sum_mod (p := q + 1) (f := fun k => Go.Am.ch (q + 1) k * a ^ k) q fun k h1 h2 => Nat.dvd_trans (hp.ch h1 (by omega)) (Nat.dvd_mul_right _ _)
    rw [ch_self, Nat.one_mul, Nat.add_mod, h, fermat0 hp a]
    simp only [ch_0, Nat.pow_zero, Nat.mul_one]
    rw [← Nat.add_mod, Nat.add_comm]

theorem fermat {p a : Nat} (hp : PrimeN p) (ha : ¬ p ∣ a) : a * a ^ (p - 2) % p = 1 := by
  have h2 := hp.1
  have h := fermat0 hp a
  have e : a ^ p = a * (a * a ^ (p - 2)) := by
    obtain ⟨q, rfl⟩ : ∃ q, p = q + 2 := ⟨p - 2, by omega⟩
    rw [Nat.pow_succ, Nat.pow_succ, Nat.add_sub_cancel]
    rw [Nat.mul_comm a (a ^ q), Nat.mul_comm a (a ^ q * a)]
  rw [e] at h
  have ha0 : 0 < a := by
    rcases Nat.eq_zero_or_pos a with h | h
    · subst h; exact absurd ⟨0, by simp⟩ ha
    · exact h
  have hz : 0 < a * a ^ (p - 2) := Nat.mul_pos ha0 (Nat.pow_pos ha0)
  generalize a * a ^ (p - 2) = z at h hz ⊢
  obtain ⟨y, rfl⟩ : ∃ y, z = y + 1 := ⟨z - 1, by omega⟩
  have hd : p ∣ a * y := by
    have e : a * (y + 1) = a * y + a := by rw [Nat.mul_add, Nat.mul_one]
    rw [e] at h
    have : (a * y + a - a) % p = 0 := Nat.sub_mod_eq_zero_of_mod_eq h
    rw [Nat.add_sub_cancel] at this
    exact Nat.dvd_of_mod_eq_zero this
  obtain ⟨c, rfl⟩ := (hp.cop ha).dvd_of_dvd_mul_left hd
  rw [Nat.add_comm, Nat.add_mul_mod_self_left]
  exact Nat.mod_eq_of_lt (by omega)

end Go.Am
end
section
namespace Go.Am

/-! ### inverses modulo p -/

theorem isPrimeI_N {p : Int} (h : isPrimeI p = true) : PrimeN p.toNat := by
  have hp := isPrimeI_t h
  obtain ⟨n, rfl⟩ := natI_eq (show 0 ≤ p by omega)
  simp only [Int.toNat_natCast]
  refine ⟨by omega, fun d hd => ?_⟩
  rcases Nat.lt_or_ge d 2 with h2 | h2
  · rcases Nat.eq_zero_or_pos d with h0 | h0
    · subst h0
      have := Nat.eq_zero_of_zero_dvd hd
      omega
    · exact .inl (by omega)
  · obtain ⟨e, he⟩ := hd
    simp only [isPrimeI, Bool.and_eq_true, decide_eq_true_eq, Bool.not_eq_true', List.any_eq_false] at h
    have key : ∀ a b : Nat, 2 ≤ a → 2 ≤ b → a ≤ b → n ≠ a * b := by
      intro a b ha hb hab e
      have h1 : a * a ≤ n := by rw [e]; exact Nat.mul_le_mul_left _ hab
      have h3 : a < 1001 := by
        rcases Nat.lt_or_ge a 1001 with h | h
        · exact h
        · have := Nat.mul_le_mul h h; omega
      refine h.2 a (by simp; omega) ?_
      unfold divAt
      have ea : ((a : Int)) * (a : Int) = ((a * a : Nat) : Int) := by norm_cast
      simp only [Bool.and_eq_true, decide_eq_true_eq]
      constructor
      · rw [ea]; omega
      · rw [e]; push_cast; exact Int.mul_emod_right _ _
    right
    rcases Nat.lt_or_ge e 2 with h3 | h3
    · have : e = 1 := by
        rcases Nat.eq_zero_or_pos e with h0 | h0
        · subst h0; simp at he; omega
        · omega
      subst this; omega
    · exfalso
      rcases Nat.le_total d e with hde | hde
      · exact key d e h2 h3 hde he
      · exact key e d h3 h2 hde (by rw [he, Nat.mul_comm])

theorem pow_sq (x : Int) (b : Nat) : ∀ m : Nat, (x * x) ^ m * x ^ b = x ^ (2 * m + b)
  | 0 => by simp
  | m + 1 => by
    have ih := pow_sq x b m
    rw [show 2 * (m + 1) + b = 2 * m + b + 1 + 1 by omega, Int.pow_succ, Int.pow_succ (n := 2 * m + b + 1), Int.pow_succ (n := 2 * m + b), ← ih]
    grind

theorem invG_pow {p : Int} (hp : pOk p) : ∀ (n : Nat) (out x : Int), invG p out x n % p = out * x ^ n % p := by
  intro n
  induction n using Nat.strongRecOn with
  | ind n ih =>
    intro out x
    by_cases h0 : n = 0
    · subst h0; rw [invG_0]; simp
    · rw [invG_s h0, ih (n / 2) (by omega)]
      have e : x ^ n = (x * x) ^ (n / 2) * x ^ (n % 2) := by
        rw [pow_sq, Nat.div_add_mod]
      rw [e]
      have h1 : ((x * x % p) ^ (n / 2)) % p = ((x * x) ^ (n / 2)) % p := by
        have : ∀ k : Nat, ((x * x % p) ^ k) % p = ((x * x) ^ k) % p := by
          intro k
          induction k with
          | zero => simp
          | succ k ih => rw [Int.pow_succ, Int.pow_succ, Int.mul_emod, ih, Int.emod_emod, ← Int.mul_emod]
        exact this _
      by_cases hb : n % 2 = 1
      · rw [if_pos hb, hb, Int.mul_emod, h1, Int.emod_emod, ← Int.mul_emod]
        congr 1
        grind
      · rw [if_neg hb, show n % 2 = 0 by omega, Int.mul_emod, h1, ← Int.mul_emod]
        congr 1
        grind

theorem inv_one {p x : Int} (hpr : isPrimeI p = true) (hx : inP p x) (h0 : x ≠ 0) : x * invG p 1 x (p - 2).toNat % p = 1 := by
  have hp := isPrimeI_t hpr
  have hp' : pOk p := ⟨hp.1, hp.2⟩
  obtain ⟨n, rfl⟩ := natI_eq (show 0 ≤ p by omega)
  obtain ⟨a, rfl⟩ := natI_eq hx.1
  have hN := isPrimeI_N hpr
  simp only [Int.toNat_natCast] at hN
  have ha : ¬ n ∣ a := fun h => by
    have := Nat.le_of_dvd (by omega) h
    have := hx.2
    omega
  have hf := fermat hN ha
  have e : (((n : Int)) - 2).toNat = n - 2 := by omega
  rw [Int.mul_emod, invG_pow hp', e, Int.one_mul, ← Int.mul_emod]
  exact_mod_cast hf

/-! ### sums -/

def sumD (f g : Nat → Int) : Nat → Int
  | 0 => 0
  | n + 1 => sumD f g n + f n * g n

theorem sumD_mod {p : Int} {f f' g : Nat → Int} : ∀ n, (∀ k, k < n → ∃ q, f k = f' k + p * q) → ∃ q, sumD f g n = sumD f' g n + p * q
  | 0, _ => ⟨0, by simp [sumD]⟩
  | n + 1, h => by
    obtain ⟨q, hq⟩ := sumD_mod (g := g) n fun k hk => h k (by omega)
    obtain ⟨q', hq'⟩ := h n (by omega)
    exact ⟨q + q' * g n, by simp only [sumD, hq, hq']; grind⟩
theorem sumD_l (f f2 g : Nat → Int) (c : Int) : ∀ n, sumD (fun k => f k + c * f2 k) g n = sumD f g n + c * sumD f2 g n
  | 0 => by simp [sumD]
  | n + 1 => by simp only [sumD, sumD_l f f2 g c n]; grind
theorem sumD_r (f g g2 : Nat → Int) (c : Int) : ∀ n, sumD f (fun k => g k - c * g2 k) n = sumD f g n - c * sumD f g2 n
  | 0 => by simp [sumD]
  | n + 1 => by simp only [sumD, sumD_r f g g2 c n]; grind
theorem sumD_sl (f g : Nat → Int) (c : Int) : ∀ n, sumD (fun k => f k * c) g n = sumD f g n * c
  | 0 => by simp [sumD]
  | n + 1 => by simp only [sumD, sumD_sl f g c n]; grind
theorem sumD_sr (f g : Nat → Int) (c : Int) : ∀ n, sumD f (fun k => g k * c) n = sumD f g n * c
  | 0 => by simp [sumD]
  | n + 1 => by simp only [sumD, sumD_sr f g c n]; grind
/-! ### a right inverse is kept by row operations -/

def dl (a b : Nat) : Int := if a = b then 1 else 0

def RInv (p : Int) (n : Nat) (E X : Mat) : Prop := ∀ a, a < n → ∀ b, b < n → ∃ q, sumD (E a) (fun k => X k b) n = dl a b + p * q

theorem RInv.congr {p : Int} {n : Nat} {E E' X : Mat} (h : RInv p n E X) (he : ∀ a, a < n → ∀ k, k < n → ∃ q, E' a k = E a k + p * q) : RInv p n E' X := by
  intro a ha b hb
  obtain ⟨q, hq⟩ := h a ha b hb
  obtain ⟨q', hq'⟩ := sumD_mod (p := p) (f := E' a) (f' := E a) (g := fun k => X k b) n (he a ha)
  exact ⟨q + q', by rw [hq', hq]; grind⟩

theorem RInv.swap {p : Int} {n : Nat} {E X : Mat} (h : RInv p n E X) {s t : Nat} (hs : s < n) (ht : t < n) : ∃ X', RInv p n (swapF E s t) X' := by
  let sw : Nat → Nat := fun i => if i = s then t else if i = t then s else i
  have hsw : ∀ i, i < n → sw i < n := by
    intro i hi
    show (if i = s then t else if i = t then s else i) < n
    split
    · exact ht
    · split
      · exact hs
      · exact hi
  have hinj : ∀ i j, sw i = sw j → i = j := by
    intro i j
    show (if i = s then t else if i = t then s else i) = (if j = s then t else if j = t then s else j) → i = j
    intro h
    repeat' split at h
    all_goals omega
  refine ⟨fun k b => X k (sw b), fun a ha b hb => ?_⟩
  obtain ⟨q, hq⟩ := h (sw a) (hsw a ha) (sw b) (hsw b hb)
  refine ⟨q, ?_⟩
  have e : swapF E s t a = E (sw a) := by
    funext k
    show (if a = s then E t k else if a = t then E s k else E a k) = E (if a = s then t else if a = t then s else a) k
    split
    · rfl
    · split <;> rfl
  rw [e, hq]
  congr 1
  unfold dl
  by_cases hab : a = b
  · subst hab; simp
  · rw [if_neg hab, if_neg fun h => hab (hinj _ _ h)]

theorem RInv.scale {p inv u : Int} {n : Nat} {E X : Mat} (h : RInv p n E X) {t : Nat} (ht : t < n) (hu : u * inv % p = 1) : ∃ X', RInv p n (sclF p inv E t) X' := by
  have hu' : ∃ z, u * inv = 1 + p * z := ⟨u * inv / p, by have := Int.emod_add_mul_ediv (u * inv) p; omega⟩
  obtain ⟨z, hz⟩ := hu'
  refine ⟨fun k b => if b = t then X k t * u else X k b, RInv.congr (E := fun a k => if a = t then E t k * inv else E a k) (fun a ha b hb => ?_) (fun a ha k hk => ?_)⟩
  · obtain ⟨q, hq⟩ := h a ha b hb
    by_cases hat : a = t
    · subst hat
      by_cases hbt : b = a
      · subst hbt
        refine ⟨z + q * inv * u, ?_⟩
        simp only [if_true]
        rw [sumD_sl, sumD_sr, hq, dl, if_pos rfl]
        grind
      · refine ⟨q * inv, ?_⟩
        simp only [if_true, if_neg hbt]
        rw [sumD_sl, hq, dl, if_neg (Ne.symm hbt)]
        grind
    · by_cases hbt : b = t
      · subst hbt
        refine ⟨q * u, ?_⟩
        simp only [if_neg hat, if_true]
        rw [sumD_sr]
        have : sumD (fun k => E a k) (fun k => X k b) n = dl a b + p * q := hq
        rw [this, dl, if_neg hat]
        grind
      · refine ⟨q, ?_⟩
        simp only [if_neg hat, if_neg hbt]
        exact hq
  · unfold sclF
    by_cases hat : a = t
    · simp only [hat, if_true]
      refine ⟨-(E t k * inv / p), ?_⟩
      have := Int.emod_add_mul_ediv (E t k * inv) p
      have e : p * -(E t k * inv / p) = -(p * (E t k * inv / p)) := Int.mul_neg _ _
      omega
    · simp only [hat, if_false]
      exact ⟨0, by simp⟩

theorem RInv.add {p f : Int} {n : Nat} {E E' X : Mat} (h : RInv p n E X) {m t : Nat} (hm : m < n) (ht : t < n) (hmt : m ≠ t) (he : ∀ a, a < n → ∀ k, k < n → ∃ q, E' a k = (if a = m then E m k + f * E t k else E a k) + p * q) : ∃ X', RInv p n E' X' := by
  refine ⟨fun k b => if b = t then X k t - f * X k m else X k b, RInv.congr (E := fun a k => if a = m then E m k + f * E t k else E a k) (fun a ha b hb => ?_) he⟩
  obtain ⟨q1, h1⟩ := h a ha b hb
  obtain ⟨q2, h2⟩ := h t ht b hb
  obtain ⟨q3, h3⟩ := h a ha m hm
  obtain ⟨q4, h4⟩ := h t ht m hm
  have h1' : sumD (fun k => E a k) (fun k => X k b) n = dl a b + p * q1 := h1
  have h2' : sumD (fun k => E t k) (fun k => X k b) n = dl t b + p * q2 := h2
  have h3' : sumD (fun k => E a k) (fun k => X k m) n = dl a m + p * q3 := h3
  have h4' : sumD (fun k => E t k) (fun k => X k m) n = dl t m + p * q4 := h4
  have d1 : dl t m = 0 := if_neg (Ne.symm hmt)
  by_cases ham : a = m
  · subst ham
    have d2 : dl a a = 1 := if_pos rfl
    by_cases hbt : b = t
    · subst hbt
      have d3 : dl a b = 0 := if_neg hmt
      have d4 : dl b b = 1 := if_pos rfl
      refine ⟨q1 + f * q2 - f * q3 - f * f * q4, ?_⟩
      simp only [if_true]
      rw [sumD_l, sumD_r, sumD_r, h1', h2', h3', h4', d1, d2, d3, d4]
      grind
    · refine ⟨q1 + f * q2, ?_⟩
      have d3 : dl t b = 0 := if_neg (Ne.symm hbt)
      simp only [if_true, if_neg hbt]
      rw [sumD_l, h1', h2', d3]
      grind
  · by_cases hbt : b = t
    · subst hbt
      have d3 : dl a m = 0 := if_neg ham
      refine ⟨q1 - f * q3, ?_⟩
      simp only [if_neg ham, if_true]
      rw [sumD_r, h1', h3', d3]
      grind
    · refine ⟨q1, ?_⟩
      simp only [if_neg ham, if_neg hbt]
      exact h1'

/-! ### the reduction -/

/-- The rows behind the rank are zero in the columns that are done; the right half has a right inverse. -/
def RK (p : Int) (n : Nat) (s : Mat × List Int × Int) (j : Nat) : Prop :=
  (∃ X, RInv p n (fun a k => s.1 a (n + k)) X) ∧ ∀ b, b < j → ∀ i, s.2.1.length ≤ i → i < n → s.1 i b = 0

theorem RK.step {p : Int} {n : Nat} {s : Mat × List Int × Int} {j : Nat} (hpr : isPrimeI p = true) (hj : j < 2 * n) (I : RI p n (2 * n) s j) (h : RK p n s j) : RK p n (redS p n s j) (j + 1) := by
  have hp : pOk p := isPrimeI_t hpr
  obtain ⟨⟨X, hX⟩, hz⟩ := h
  obtain ⟨M, L, d⟩ := s
  simp only at hX hz
  by_cases hl : L.length < n
  · cases hk : pivF M j (n - L.length) L.length with
    | none =>
      rw [redS_n (s := (M, L, d)) hl hk]
      refine ⟨⟨X, hX⟩, fun b hb i h1 h2 => ?_⟩
      by_cases hbj : b = j
      · subst hbj; exact pivF_none hk i h1 (by simp only at h1; omega)
      · exact hz b (by omega) i h1 h2
    | some k =>
      rw [redS_s (s := (M, L, d)) hl hk]
      simp only
      have hq := pivF_lt hk
      have hkn : k < n := by omega
      have hM : inM p n (2 * n) M := I.m
      have hx : inP p (M k j) := hM k hkn j hj
      have hsw : swapF M L.length k L.length j = M k j := if_pos rfl
      have hi := inv_one hpr hx hq.2.2
      generalize hinv : invG p 1 (M k j) (p - 2).toNat = inv at hi
      have hpiv : pivS p M L.length j k = sclF p inv (swapF M L.length k) L.length := by unfold pivS; rw [hsw, hinv]
      rw [hpiv]
      have hS : inM p n (2 * n) (swapF M L.length k) := swapF_in hM hl hkn
      generalize hM2 : sclF p inv (swapF M L.length k) L.length = M2
      have hM2i : inM p n (2 * n) M2 := by rw [← hM2]; exact sclF_in hp hS _
      constructor
      · obtain ⟨X1, hX1⟩ := hX.swap (s := L.length) (t := k) hl hkn
        obtain ⟨X2, hX2⟩ := hX1.scale (inv := inv) (u := M k j) hl hi
        have base : RInv p n (fun a b => clrF p M2 L.length j 0 a (n + b)) X2 := by
          rw [clrF_0, ← hM2]; exact hX2
        have key : ∀ m, m ≤ n → ∃ X', RInv p n (fun a b => clrF p M2 L.length j m a (n + b)) X' := by
          intro m
          induction m with
          | zero => intro _; exact ⟨X2, base⟩
          | succ m ih =>
            intro hm
            obtain ⟨X', hX'⟩ := ih (by omega)
            by_cases hmt : m = L.length
            · subst hmt
              rw [clrF_skip]; exact ⟨X', hX'⟩
            · refine hX'.add (f := p - M2 m j) (m := m) (t := L.length) (by omega) hl hmt fun a ha b hb => ?_
              show ∃ q, clrF p M2 L.length j (m + 1) a (n + b) = _
              by_cases ham : a = m
              · subst ham
                rw [if_pos rfl]
                show ∃ q, clrF p M2 L.length j (a + 1) a (n + b) = (clrF p M2 L.length j a a (n + b) + (p - M2 a j) * clrF p M2 L.length j a L.length (n + b)) + p * q
                rw [clrF_old, clrF_t]
                unfold clrF
                rw [if_pos ⟨by omega, hmt⟩]
                refine ⟨-((M2 a (n + b) + (p - M2 a j) * M2 L.length (n + b)) / p), ?_⟩
                have e1 := Int.emod_add_mul_ediv (M2 a (n + b) + (p - M2 a j) * M2 L.length (n + b)) p
                have e2 := Int.mul_neg p ((M2 a (n + b) + (p - M2 a j) * M2 L.length (n + b)) / p)
                omega
              · rw [if_neg ham]
                refine ⟨0, ?_⟩
                show clrF p M2 L.length j (m + 1) a (n + b) = clrF p M2 L.length j m a (n + b) + p * 0
                unfold clrF
                by_cases hc : a < m ∧ a ≠ L.length
                · rw [if_pos hc, if_pos ⟨by omega, hc.2⟩]; simp
                · rw [if_neg hc, if_neg (by omega)]; simp
        exact key n (Nat.le_refl _)
      · intro b hb i h1 h2
        simp only [List.length_append, List.length_cons, List.length_nil] at h1
        show clrF p M2 L.length j n i b = 0
        unfold clrF
        rw [if_pos ⟨h2, by omega⟩]
        have e2 : ∀ c, M2 i c = swapF M L.length k i c := fun c => by rw [← hM2]; exact if_neg (by omega)
        have e3 : ∀ c, M2 L.length c = M k c * inv % p := fun c => by rw [← hM2]; show (if L.length = L.length then _ else _) = _; rw [if_pos rfl]; congr 2; exact if_pos rfl
        by_cases hbj : b = j
        · subst hbj
          rw [e3 b, hi]
          have : M2 i b + (p - M2 i b) * 1 = p := by omega
          rw [this]; exact Int.emod_self
        · have hbj' : b < j := by omega
          rw [e3 b, hz b hbj' k hq.1 hkn, e2 b]
          have : swapF M L.length k i b = 0 := by
            unfold swapF
            rw [if_neg (by omega)]
            split
            · exact hz b hbj' L.length (Nat.le_refl _) hl
            · exact hz b hbj' i (by omega) h2
          rw [this]; simp
  · unfold redS
    rw [if_neg hl]
    exact ⟨⟨X, hX⟩, fun b hb i h1 h2 => by simp only at h1; omega⟩

end Go.Am
end
section
namespace Go.Am
def wideF (n : Nat) (M : Mat) : Mat := fun a b => if b < n then M a b else dl a (b - n)
def wideM (n : Nat) (M : Mat) : Mat := ofD (2 * n) (genD n (2 * n) (wideF n M))
def invX (p : Int) (n : Nat) (M : Mat) : Mat × List Int × Int := redN p n (wideM n M) (2 * n)
def invOk (p : Int) (n : Nat) (M : Mat) : Prop := ∀ i, i < n → (invX p n M).2.1.getD i 0 = (i : Int)
instance (p : Int) (n : Nat) (M : Mat) : Decidable (invOk p n M) := inferInstanceAs (Decidable (∀ i, i < n → (invX p n M).2.1.getD i 0 = (i : Int)))
section
variable {p : Int} {n : Nat} {M R : Mat} {L : List Int}

end
section
variable {p : Int} {n : Nat} {M R : Mat} {L : List Int}
end

end Go.Am
end
section
namespace Go.Am
abbrev Mx3 := Int × Int × List Int
abbrev Aut := Int × Int × List Int × List (Int × Int × List Int) × List Int
def wOk (k : Nat) (w : List Int) : Prop := ∀ c ∈ w, 0 ≤ c ∧ c < (k : Int)
instance (k : Nat) (w : List Int) : Decidable (wOk k w) := inferInstanceAs (Decidable (∀ c ∈ w, 0 ≤ c ∧ c < (k : Int)))
def reachOk (x : Aut × List Int) : Prop := autOk x.1 = true ∧ wOk x.1.2.2.2.1.length x.2 ∧ x.2.length ≤ 1048576
instance (x : Aut × List Int) : Decidable (reachOk x) := by unfold reachOk; infer_instance
/-! ### good automata -/

structure AutOk (p : Int) (n : Nat) (a : List Int) (ms : List Mx3) (b : List Int) : Prop where
  pr : isPrimeI p = true
  hn : n ≤ 12
  al : a.length = n
  ap : allP p a
  bl : b.length = n
  bp : allP p b
  l1 : 1 ≤ ms.length
  l4 : ms.length ≤ 4
  hm : ∀ x ∈ ms, ∃ M : Mat, x = ((n : Int), (n : Int), genD n n M) ∧ inM p n n M

theorem AutOk.p {p : Int} {n : Nat} {a b : List Int} {ms : List Mx3} (h : AutOk p n a ms b) : pOk p := isPrimeI_t h.pr

section
variable {p : Int} {n : Nat} {a b : List Int} {ms : List Mx3}

end

end Go.Am
end
section
namespace Go.Am
/-! ### sums of automata -/

theorem fulI_nil {α : Type} : fulI 0 0 (lenN ([] : List α)) = some () := rfl
section
variable {p : Int} {n m : Nat} {a b a2 b2 : List Int} {ms ms2 : List Mx3}

end

section
variable {p sg : Int} {n m : Nat} {a b a2 b2 : List Int} {ms ms2 : List Mx3}

end

end Go.Am
end
section
namespace Go.Am
def nodeF (x a b : Int) : Int := if x = b then a else if b < x then x - 1 else x
def F_impl_ContractEdge_1 : Int × Int × Int → Option Int := fun (x : Int × Int × Int) => if 0 ≤ x.1 ∧ x.1 ≤ 1048576 then some (nodeF x.1 x.2.2 x.2.1) else none
def moveE (a b : Int) (e : Int × Int) : Int × Int := (nodeF e.1 a b, nodeF e.2 a b)
def contE (n : Int) (d : List (Int × Int)) (e : Int × Int) : (Int × List (Int × Int)) × Bool :=
  if minI e.1 e.2 = maxI e.1 e.2 then ((n, d), true) else ((n - 1, d.map (moveE (minI e.1 e.2) (maxI e.1 e.2))), true)
def contR (n : Int) (l : List (Int × Int)) (k : Int) : (Int × List (Int × Int)) × Bool := if graphOk n l = true ∧ 0 ≤ k ∧ k < l.length then contE n (delE k l) (l.getD k.toNat (0, 0)) else ((0, []), false)
def F_spec_ContractEdge : (Int × List (Int × Int)) × Int → Option ((Int × List (Int × Int)) × Bool) := fun (x : (Int × List (Int × Int)) × Int) => if x.1.2.length ≤ 1048576 then some (contR x.1.1 x.1.2 x.2) else none
def F_impl_ContractEdge : (Int × List (Int × Int)) × Int → Option ((Int × List (Int × Int)) × Bool) := F_spec_ContractEdge

def ag_impl_ContractEdge_1 : Sig := [(.one, [.int .i64]), (.ptr, [.int .i64]), (.ptr, [.int .i64])]
def rs_impl_ContractEdge_1 : Sig := [(.one, [.int .i64])]
def mu_impl_ContractEdge_1 : MSig := []
def ag_impl_ContractEdge : Sig := [(.agg, [.int .i64, .list [.int .i64, .int .i64]]), (.one, [.int .i64])]
def rs_impl_ContractEdge : Sig := [(.agg, [.int .i64, .list [.int .i64, .int .i64]]), (.one, [.bool])]
def mu_impl_ContractEdge : MSig := []

def G_impl_ContractEdge_1 (NN : Nat) : (Int × (Int × Int)) → (Option Int) :=
 (fun ((i0, i1, i2) : (Int × (Int × Int))) =>
 cnd (eqI i0 i1)
 (some i2)
 (cnd (ltI i1 i0)
 (some (subI .i64 i0 1))
 (some i0)))


def G_impl_ContractEdge (NN : Nat) : ((Int × (List (Int × Int))) × Int) → (Option ((Int × (List (Int × Int))) × Bool)) :=
 (fun (((i0, l1), i2) : ((Int × (List (Int × Int))) × Int)) =>
 (F_impl_DeleteEdge ((i0, l1), i2)).bnd (fun ((i3, l4), b5) =>
 cnd (notB b5)
 (some (((0 : Int), ([] : List (Int × Int))), false))
 ((getI l1 i2).bnd (fun (i6, i7) =>
 (getI l1 i2).bnd (fun (i8, i9) =>
 (getI l1 i2).bnd (fun (i10, i11) =>
 (getI l1 i2).bnd (fun (i12, i13) =>
 cnd (eqI (minI i6 i9) (maxI i10 i13))
 ((takI l4 (lenN l4)).bnd (fun l14 =>
 some ((i3, l14), true)))
 (joinK ((fulI 0 (lenN l4) (lenN l4)).bnd (fun _ =>
 (fulI 0 0 (lenN (([] : List (Int × Int))))).bnd (fun _ =>
 (fulI 0 (lenN l4) (lenN l4)).bnd (fun _ =>
 loopT NN (fun (((i15, i16), i17, i18, i19, i20, l21, l22) : ((Int × Int) × (Int × (Int × (Int × (Int × ((List (Int × Int)) × (List (Int × Int))))))))) =>
 cnd (ltI i16 i15)
 ((chkI i16 (lenN l22)).bnd (fun k23 =>
 (getN l22 (addN 0 k23)).bnd (fun (i24, i25) =>
 (F_impl_ContractEdge_1 (i24, i20, i19)).bnd (fun i26 =>
 (F_impl_ContractEdge_1 (i25, i20, i19)).bnd (fun i27 =>
 (chkI i16 (lenN l22)).bnd (fun k28 =>
 (getN l22 (addN 0 k28)).bnd (fun (i29, i30) =>
 (fulI 0 (lenN l22) (lenN (setL l22 (addN 0 k28) (i26, i27)))).bnd (fun _ =>
 (fulI 0 (lenN l21) (lenN l21)).bnd (fun _ =>
 (fulI 0 (lenN l22) (lenN (setL l22 (addN 0 k28) (i26, i27)))).bnd (fun _ =>
 some (Sum.inl ((i15, addI .i64 i16 1), i17, i18, i19, i20, l21, setL l22 (addN 0 k28) (i26, i27)))))))))))))
 (((fulI 0 (lenN l21) (lenN l21)).bnd (fun _ =>
 (fulI 0 (lenN l22) (lenN l22)).bnd (fun _ =>
 some (Sum.inl (i17, i18, l21, l22))))).bnd (fun l31 =>
 some (Sum.inr l31))))
 ((natI (lenN l4), (0 : Int)), (0 : Int), subI .i64 i3 1, minI i6 i9, maxI i10 i13, ([] : List (Int × Int)), l4)))))
 (fun (i32, i33, l34, l35) =>
 (takI l35 (lenN l35)).bnd (fun l36 =>
 some ((i33, l36), true)))))))))))


theorem graphOk_t {n : Int} {es : List (Int × Int)} (h : graphOk n es = true) : (0 ≤ n ∧ n ≤ 10) ∧ es.length ≤ 10 ∧ ∀ e ∈ es, (0 ≤ e.1 ∧ e.1 ≤ n - 1) ∧ (0 ≤ e.2 ∧ e.2 ≤ n - 1) := by
  simp only [graphOk, Bool.and_eq_true, decide_eq_true_eq, List.all_eq_true, edgeOk] at h
  exact ⟨h.1.1, h.1.2, h.2⟩

/-! ### contracted edges -/

theorem f_impl_ContractEdge_1 (x : Int × Int × Int) (y : Int) (h : F_impl_ContractEdge_1 x = some y) : G_impl_ContractEdge_1 FUEL x = some y := by
  obtain ⟨x, b, a⟩ := x
  simp only [F_impl_ContractEdge_1] at h
  split at h
  · rename_i hc
    rw [← h]
    simp only [G_impl_ContractEdge_1, nodeF]
    by_cases h1 : x = b
    · rw [cnd_t (by simp [eqI, h1]), if_pos h1]
    · rw [cnd_f (by simp [eqI, h1]), if_neg h1]
      by_cases h2 : b < x
      · rw [cnd_t (ltI_t h2), if_pos h2, subI_eq (by omega) (by omega)]
      · rw [cnd_f (ltI_f (by omega)), if_neg h2]
  · cases h

def mapTo {α : Type} (f : α → α) (d : List α) (i : Nat) : List α := (d.take i).map f ++ d.drop i
theorem mapTo_0 {α : Type} (f : α → α) (d : List α) : mapTo f d 0 = d := by simp [mapTo]
theorem mapTo_end {α : Type} (f : α → α) (d : List α) : mapTo f d d.length = d.map f := by simp [mapTo]
theorem mapTo_len {α : Type} (f : α → α) (d : List α) (i : Nat) : (mapTo f d i).length = d.length := by
  simp [mapTo]; omega
theorem mapTo_get {α : Type} {f : α → α} {d : List α} {i : Nat} (h : i < d.length) : (mapTo f d i)[i]? = some d[i] := by
  unfold mapTo
  rw [List.getElem?_append_right (by simp; omega)]
  simp only [List.length_map, List.length_take, Nat.min_eq_left (show i ≤ d.length by omega), Nat.sub_self]
  rw [List.drop_eq_getElem_cons h]
  rfl
theorem mapTo_set {α : Type} {f : α → α} {d : List α} {i : Nat} (h : i < d.length) : (mapTo f d i).set i (f d[i]) = mapTo f d (i + 1) := by
  unfold mapTo
  have hl : ((d.take i).map f).length = i := by simp; omega
  rw [List.set_append_right _ _ (by rw [hl]; exact Nat.le_refl i), hl, Nat.sub_self, List.drop_eq_getElem_cons h, List.set_cons_zero, List.take_add_one, List.getElem?_eq_getElem h, List.map_append]
  simp

theorem delE_mem (k : Int) : ∀ (l : List (Int × Int)) (i : Nat) (acc : List (Int × Int)) (e : Int × Int), e ∈ foldN (delStep k) i acc l → e ∈ acc ∨ e ∈ l
  | [], i, acc, e, h => .inl h
  | x :: l, i, acc, e, h => by
    have h' : e ∈ foldN (delStep k) (i + 1) (delStep k i acc x) l := h
    rcases delE_mem k l (i + 1) (delStep k i acc x) e h' with h1 | h1
    · unfold delStep at h1
      split at h1
      · exact .inl h1
      · rcases List.mem_append.1 h1 with h1 | h1
        · exact .inl h1
        · simp at h1; exact .inr (by simp [h1])
    · exact .inr (by simp [h1])

theorem minI_eqI (a b : Int) : eqI a b = decide (a = b) := by
  unfold eqI
  cases h : decide (a = b) with
  | true => simp at h; simp [h]
  | false => simp at h; simp [h]

section
variable {n : Int} {d : List (Int × Int)} {a b : Int}
theorem edge_in (hd : ∀ e ∈ d, (0 ≤ e.1 ∧ e.1 ≤ n - 1) ∧ (0 ≤ e.2 ∧ e.2 ≤ n - 1)) (hn : n ≤ 10) {i : Nat} (hi : i < d.length) : (0 ≤ d[i].1 ∧ d[i].1 ≤ 1048576) ∧ (0 ≤ d[i].2 ∧ d[i].2 ≤ 1048576) := by
  have := hd d[i] (List.getElem_mem hi)
  omega
end

theorem f_impl_ContractEdge (x : (Int × List (Int × Int)) × Int) (y : (Int × List (Int × Int)) × Bool) (h : F_impl_ContractEdge x = some y) : G_impl_ContractEdge FUEL x = some y := by
  obtain ⟨⟨n, l⟩, k⟩ := x
  simp only [F_impl_ContractEdge, F_spec_ContractEdge] at h
  split at h
  · rename_i hl
    rw [← h]
    simp only [G_impl_ContractEdge]
    rw [show F_impl_DeleteEdge ((n, l), k) = some (delR n l k) from if_pos hl, bnd_s]
    unfold contR delR
    by_cases hc : graphOk n l = true ∧ 0 ≤ k ∧ k < (l.length : Int)
    rotate_left
    · rw [if_neg hc, if_neg hc]; rfl
    rw [if_pos hc, if_pos hc]
    obtain ⟨hg, hk⟩ := hc
    obtain ⟨hn, hle, he⟩ := graphOk_t hg
    simp only
    rw [cnd_f (by rfl)]
    obtain ⟨q, rfl⟩ := natI_eq hk.1
    have hq : q < l.length := by omega
    have hgk : getI l (q : Int) = some (l.getD q (0, 0)) := by rw [getI_nat, List.getElem?_eq_getElem hq]; simp [List.getD, hq]
    simp only [hgk, bnd_s, Int.toNat_natCast]
    generalize l.getD q (0, 0) = e
    have hd : ∀ e ∈ delE q l, (0 ≤ e.1 ∧ e.1 ≤ n - 1) ∧ (0 ≤ e.2 ∧ e.2 ≤ n - 1) := fun e hm => by
      rcases delE_mem (q : Int) l 0 [] e hm with h | h
      · cases h
      · exact he e h
    have hdl : (delE q l).length ≤ 10 := Nat.le_trans (delE_len _ _) hle
    generalize delE q l = d at hd hdl
    obtain ⟨e1, e2⟩ := e
    simp only [contE, minI_eqI]
    by_cases hab : minI e1 e2 = maxI e1 e2
    · rw [decide_eq_true hab, if_pos hab, cnd_true, takI_id, bnd_s]
    · rw [decide_eq_false hab, if_neg hab, cnd_false]
      generalize minI e1 e2 = a
      generalize maxI e1 e2 = b
      simp only [fulI_id, fulI_nil, bnd_s, nl]
      rw [loopT_seq (fun i => (((d.length : Int), (i : Int)), (0 : Int), subI .i64 n 1, a, b, ([] : List (Int × Int)), mapTo (moveE a b) d i)) d.length ?a1 ?a2 ?a3 (FUEL_gt (by omega))]
      case a3 => simp only [mapTo_0]; try rfl
      case a2 => simp only; rw [cnd_f (ltN_f (Nat.le_refl _))]; try (simp only [fulI_id, fulI_nil, bnd_s])
      case a1 =>
        intro i hi
        obtain ⟨q1, q2⟩ := edge_in hd hn.2 hi
        simp only
        rw [cnd_t (ltN_t hi), chkI_nat (show i < lenN (mapTo (moveE a b) d i) by show i < (mapTo _ d i).length; rw [mapTo_len]; exact hi), bnd_s]
        simp only [addN_0]
        rw [show getN (mapTo (moveE a b) d i) i = some d[i] from mapTo_get hi, bnd_s]
        have n1 : F_impl_ContractEdge_1 (d[i].1, b, a) = some (nodeF d[i].1 a b) := if_pos q1
        have n2 : F_impl_ContractEdge_1 (d[i].2, b, a) = some (nodeF d[i].2 a b) := if_pos q2
        rw [n1, bnd_s, n2, bnd_s, bnd_s, show getN (mapTo (moveE a b) d i) i = some d[i] from mapTo_get hi, bnd_s]
        rw [show setL (mapTo (moveE a b) d i) i (nodeF d[i].1 a b, nodeF d[i].2 a b) = mapTo (moveE a b) d (i + 1) from mapTo_set hi]
        have hf : fulI 0 (lenN (mapTo (moveE a b) d i)) (lenN (mapTo (moveE a b) d (i + 1))) = some () := fulI_ok (by show (mapTo _ d i).length = (mapTo _ d (i + 1)).length; rw [mapTo_len, mapTo_len])
        simp only [hf, fulI_id, bnd_s, addN1 (show i ≤ 1048577 by omega)]
      rw [joinK_l]
      simp only [takI_id, bnd_s, mapTo_end]
      rw [subI_eq (by omega) (by omega)]
  · cases h
end Go.Am
end
section
namespace Go.Am
def mu_impl_componentsOf : MSig := []
def mu_impl_rawComponentCount : MSig := []
def ag_impl_componentsOf : Sig := [(.agg, [.int .i64, .list [.int .i64, .int .i64]]), (.one, [.int .i64])]
def rs_impl_componentsOf : Sig := [(.one, [.list [.int .i64]])]

def ag_impl_rawComponentCount : Sig := [(.agg, [.int .i64, .list [.int .i64, .int .i64]]), (.one, [.int .i64])]
def rs_impl_rawComponentCount : Sig := [(.one, [.int .i64])]

/-! ### the functions -/

def relab (b a : Int) (l : List Int) : List Int := l.map fun x => if x = b then a else x
def atI (l : List Int) (i : Int) : Int := l.getD i.toNat 0
def iotaI (n : Nat) : List Int := (List.range n).map fun i => ((i : Nat) : Int)
/-- The reference: the number of parts that are left, and each node's part. -/
def partStep (s : Nat) (i : Nat) (st : Int × List Int) (e : Int × Int) : Int × List Int :=
  if s.testBit i = true ∧ atI st.2 e.1 ≠ atI st.2 e.2 then (st.1 - 1, relab (atI st.2 e.2) (atI st.2 e.1) st.2) else st
def parts (n : Int) (es : List (Int × Int)) (s : Int) : Int × List Int := foldN (partStep s.toNat) 0 (n, iotaI n.toNat) es
def leastStep (s : Nat) (i : Nat) (l : List Int) (e : Int × Int) : List Int :=
  if s.testBit i = true then relab (max (atI l e.1) (atI l e.2)) (min (atI l e.1) (atI l e.2)) l else l
def leasts (n : Int) (es : List (Int × Int)) (s : Int) : List Int := foldN (leastStep s.toNat) 0 (iotaI n.toNat) es
def fixes (l : List Int) : Int := ((List.range l.length).countP fun i => l.getD i 0 == (i : Int) : Nat)
def setOk (es : List (Int × Int)) (s : Int) : Bool := decide (0 ≤ s ∧ s < 2 ^ es.length)

def F_impl_componentsOf : (Int × List (Int × Int)) × Int → Option (List Int) :=
  fun (((n, es), s) : (Int × List (Int × Int)) × Int) => if graphOk n es = true ∧ setOk es s = true then some (leasts n es s) else none
def F_impl_rawComponentCount : (Int × List (Int × Int)) × Int → Option Int :=
  fun (((n, es), s) : (Int × List (Int × Int)) × Int) => if graphOk n es = true ∧ setOk es s = true then some (fixes (leasts n es s)) else none
def G_impl_componentsOf (NN : Nat) : ((Int × (List (Int × Int))) × Int) → (Option (List Int)) :=
 (fun (((i0, l1), i2) : ((Int × (List (Int × Int))) × Int)) =>
 (mkI i0 i0 8).bnd (fun k3 =>
 joinK ((fulI 0 k3 (lenN (repL k3 (0 : Int)))).bnd (fun _ =>
 loopT NN (fun (((i4, i5, i6), (i7, l8), l9) : ((Int × (Int × Int)) × ((Int × (List (Int × Int))) × (List Int)))) =>
 cnd (ltI i6 i5)
 ((chkI i6 (lenN l9)).bnd (fun k10 =>
 (getN l9 (addN 0 k10)).bnd (fun i11 =>
 (fulI 0 (lenN l9) (lenN (setL l9 (addN 0 k10) i6))).bnd (fun _ =>
 some (Sum.inl ((i4, i5, addI .i64 i6 1), (i7, l8), setL l9 (addN 0 k10) i6))))))
 (((fulI 0 (lenN l9) (lenN l9)).bnd (fun _ =>
 some (Sum.inl (i4, (i7, l8), l9)))).bnd (fun l12 =>
 some (Sum.inr l12))))
 ((i2, natI k3, (0 : Int)), (i0, l1), repL k3 (0 : Int))))
 (fun (i13, (i14, l15), l16) =>
 joinK ((fulI 0 (lenN l16) (lenN l16)).bnd (fun _ =>
 loopT NN (fun (((i17, l18, i19, i20), l21) : ((Int × ((List (Int × Int)) × (Int × Int))) × (List Int))) =>
 cnd (ltI i20 i19)
 (joinK ((getI l18 i20).bnd (fun (i22, i23) =>
 (shrI .i64 i17 i20).bnd (fun i24 =>
 cnd (eqI (andI .i64 i24 (1 : Int)) (0 : Int))
 ((fulI 0 (lenN l21) (lenN l21)).bnd (fun _ =>
 some (Sum.inl ((i20, i17, l18, i19), l21))))
 ((chkI i22 (lenN l21)).bnd (fun k25 =>
 (getN l21 (addN 0 k25)).bnd (fun i26 =>
 (chkI i23 (lenN l21)).bnd (fun k27 =>
 (getN l21 (addN 0 k27)).bnd (fun i28 =>
 (chkI i22 (lenN l21)).bnd (fun k29 =>
 (getN l21 (addN 0 k29)).bnd (fun i30 =>
 (chkI i23 (lenN l21)).bnd (fun k31 =>
 (getN l21 (addN 0 k31)).bnd (fun i32 =>
 (fulI 0 (lenN l21) (lenN l21)).bnd (fun _ =>
 loopT NN (fun (((i33, i34, i35, l36, i37, i38, i39, i40), l41) : ((Int × (Int × (Int × ((List (Int × Int)) × (Int × (Int × (Int × Int))))))) × (List Int))) =>
 cnd (ltI i40 i39)
 ((chkI i40 (lenN l41)).bnd (fun k42 =>
 (getN l41 (addN 0 k42)).bnd (fun i43 =>
 cnd (eqI i43 i35)
 ((chkI i40 (lenN l41)).bnd (fun k44 =>
 (getN l41 (addN 0 k44)).bnd (fun i45 =>
 (fulI 0 (lenN l41) (lenN (setL l41 (addN 0 k44) i34))).bnd (fun _ =>
 some (Sum.inl ((i33, i34, i35, l36, i37, i38, i39, addI .i64 i40 1), setL l41 (addN 0 k44) i34))))))
 ((fulI 0 (lenN l41) (lenN l41)).bnd (fun _ =>
 some (Sum.inl ((i33, i34, i35, l36, i37, i38, i39, addI .i64 i40 1), l41)))))))
 (((fulI 0 (lenN l41) (lenN l41)).bnd (fun _ =>
 some (Sum.inl ((i38, i33, l36, i37), l41)))).bnd (fun l46 =>
 some (Sum.inr l46))))
 ((i17, minI i26 i28, maxI i30 i32, l18, i19, i20, natI (lenN l21), (0 : Int)), l21))))))))))))))
 (fun ((i47, i48, l49, i50), l51) =>
 (fulI 0 (lenN l51) (lenN l51)).bnd (fun _ =>
 some (Sum.inl ((i48, l49, i50, addI .i64 i47 1), l51)))))
 (((fulI 0 (lenN l21) (lenN l21)).bnd (fun _ =>
 some (Sum.inl l21))).bnd (fun l52 =>
 some (Sum.inr l52))))
 ((i13, l15, natI (lenN l15), (0 : Int)), l16)))
 (fun l53 =>
 (takI l53 (lenN l53)).bnd (fun l54 =>
 some l54)))))

def G_impl_rawComponentCount (NN : Nat) : ((Int × (List (Int × Int))) × Int) → (Option Int) :=
 (fun (((i0, l1), i2) : ((Int × (List (Int × Int))) × Int)) =>
 (F_impl_componentsOf ((i0, l1), i2)).bnd (fun l3 =>
 joinK ((fulI 0 (lenN l3) (lenN l3)).bnd (fun _ =>
 loopT NN (fun (((i4, i5, i6), l7) : ((Int × (Int × Int)) × (List Int))) =>
 cnd (ltI i6 i5)
 ((chkI i6 (lenN l7)).bnd (fun k8 =>
 (getN l7 (addN 0 k8)).bnd (fun i9 =>
 cnd (eqI i6 i9)
 ((fulI 0 (lenN l7) (lenN l7)).bnd (fun _ =>
 some (Sum.inl ((addI .i64 i4 1, i5, addI .i64 i6 1), l7))))
 ((fulI 0 (lenN l7) (lenN l7)).bnd (fun _ =>
 some (Sum.inl ((i4, i5, addI .i64 i6 1), l7)))))))
 (some (Sum.inr (Sum.inl i4))))
 (((0 : Int), natI (lenN l3), (0 : Int)), l3)))
 (fun i10 =>
 some i10)))

/-! ### the functions do so -/

theorem pow_cast (k : Nat) : ((2 ^ k : Nat) : Int) = 2 ^ k := by norm_cast

theorem pow_lt63 {s k : Nat} (h : s < 2 ^ k) (hk : k < 63) : s < 2 ^ 63 := Nat.lt_trans h (Nat.pow_lt_pow_right (by decide) hk)

/-! ### parts -/

def mapG {α : Type} (g : α → α) (l : List α) (j : Nat) : List α := (l.take j).map g ++ l.drop j
theorem mapG_0 {α : Type} (g : α → α) (l : List α) : mapG g l 0 = l := by simp [mapG]
theorem mapG_all {α : Type} (g : α → α) (l : List α) : mapG g l l.length = l.map g := by simp [mapG]
theorem mapG_len {α : Type} (g : α → α) (l : List α) (j : Nat) : (mapG g l j).length = l.length := by simp [mapG]; omega
theorem mapG_get {α : Type} {g : α → α} {l : List α} {j : Nat} {x : α} (h : l[j]? = some x) : (mapG g l j)[j]? = some x := by
  have := lt_of_get h
  unfold mapG
  rw [List.getElem?_append_right (by simp; omega)]
  simp only [List.length_map, List.length_take, List.getElem?_drop]
  rw [show j + (j - min j l.length) = j by omega, h]
theorem mapG_next {α : Type} {g : α → α} {l : List α} {j : Nat} {x : α} (h : l[j]? = some x) : (mapG g l j).set j (g x) = mapG g l (j + 1) := by
  have := lt_of_get h
  unfold mapG
  rw [List.set_append_right _ _ (by simp; omega), List.take_add_one, h, drop_cons h]
  simp only [List.length_map, List.length_take]
  rw [show j - min j l.length = 0 by omega]
  simp
theorem mapG_same {α : Type} {g : α → α} {l : List α} {j : Nat} {x : α} (h : l[j]? = some x) (hg : g x = x) : mapG g l (j + 1) = mapG g l j := by
  rw [← mapG_next h, hg]
  obtain ⟨h1, h2⟩ := List.getElem?_eq_some_iff.1 (mapG_get (g := g) h)
  have h3 := List.set_getElem_self h1
  rw [h2] at h3
  exact h3

theorem iotaI_len (n : Nat) : (iotaI n).length = n := by simp [iotaI]
theorem iotaI_succ (n : Nat) : appL (iotaI n) [(n : Int)] = iotaI (n + 1) := by simp [iotaI, appL, List.range_succ]
theorem relab_len (b a : Int) (l : List Int) : (relab b a l).length = l.length := by simp [relab]
theorem atI_get {l : List Int} {u : Nat} (h : u < l.length) : l[u]? = some (atI l (u : Int)) := by
  simp [atI, List.getD, List.getElem?_eq_getElem h]

def relG (b a : Int) (x : Int) : Int := if x = b then a else x

theorem leastStep_len {s i : Nat} {l : List Int} {e : Int × Int} : (leastStep s i l e).length = l.length := by
  unfold leastStep
  split
  · exact relab_len _ _ _
  · rfl

theorem minI_eq (a b : Int) : minI a b = min a b := by unfold minI; split <;> omega
theorem maxI_eq (a b : Int) : maxI a b = max a b := by unfold maxI; split <;> omega

theorem f_impl_componentsOf (x : (Int × List (Int × Int)) × Int) (y : List Int) (h : F_impl_componentsOf x = some y) : G_impl_componentsOf FUEL x = some y := by
  obtain ⟨⟨n, es⟩, s⟩ := x
  simp only [F_impl_componentsOf] at h
  split at h
  · rename_i hc
    obtain ⟨hg, hs⟩ := hc
    injection h with h
    subst h
    obtain ⟨⟨hn0, hn⟩, hl, he⟩ := graphOk_t hg
    obtain ⟨m, rfl⟩ := natI_eq hn0
    have hs := of_decide_eq_true hs
    obtain ⟨k, rfl⟩ := natI_eq hs.1
    have hk : k < 2 ^ 63 := pow_lt63 (k := es.length) (by exact_mod_cast hs.2) (by omega)
    simp only [G_impl_componentsOf]
    have hm : mkI (m : Int) (m : Int) 8 = some m := mkI_nat (n := m) (by simp only [maxBytes]; omega)
    have hr : lenN (repL m (0 : Int)) = m := by simp [lenN, repL]
    rw [hm, bnd_s, hr, fulI_id, bnd_s]
    rw [loopT_seq (fun j => (((k : Int), natI m, (j : Int)), ((m : Int), es), iotaI j ++ List.replicate (m - j) (0 : Int))) (r := Sum.inl ((k : Int), ((m : Int), es), iotaI m)) m ?_ ?_ ?_ (FUEL_gt (by omega))]
    · rw [joinK_l]
      simp only [fulI_id, bnd_s]
      rw [loopT_foldN es (fun (l : List Int) i => (((k : Int), es, natI (lenN es), (i : Int)), l)) (fun i l => l.length = m) (leastStep k) (fun l => Sum.inl l) ?_ ?_ (s := iotaI m) (iotaI_len m) ?_ (lt_FUEL hl (by decide))]
      · rw [joinK_l, takI_id]
        rfl
      all_goals try simp only
      · rintro i l ⟨u, v⟩ ha h1
        refine ⟨?_, leastStep_len.trans h1⟩
        obtain ⟨⟨hu, hu'⟩, hv, hv'⟩ := he _ (List.mem_of_getElem? ha)
        obtain ⟨u, rfl⟩ := natI_eq hu
        obtain ⟨v, rfl⟩ := natI_eq hv
        simp only at hu' hv'
        have hi := lt_of_get ha
        have gu := atI_get (l := l) (u := u) (by omega)
        have gv := atI_get (l := l) (u := v) (by omega)
        rw [cnd_t (ltI_in ha), getI_nat, ha, bnd_s]
        simp only [chkI_nat (i := u) (n := lenN l) (by simp only [lenN]; omega), chkI_nat (i := v) (n := lenN l) (by simp only [lenN]; omega), bnd_s, addN_0, getN, gu, gv, shrI_nat hk, bit_f hk]
        unfold leastStep
        simp only
        cases hb : k.testBit i with
        | false => rw [cnd_t (by rfl), joinK_l, next_i ha (by omega)]; rfl
        | true =>
          rw [cnd_f (by rfl), if_pos rfl, minI_eq, maxI_eq]
          generalize min (atI l (u : Int)) (atI l (v : Int)) = lo
          generalize max (atI l (u : Int)) (atI l (v : Int)) = hi'
          rw [loopT_seq (fun j => (((k : Int), lo, hi', es, natI (lenN es), (i : Int), natI (lenN l), (j : Int)), mapG (relG hi' lo) l j))
            (r := Sum.inl (((i : Int), (k : Int), es, natI (lenN es)), relab hi' lo l)) l.length ?_ ?_ ?_ (FUEL_gt (by omega))]
          · rw [joinK_l, next_i ha (by omega)]
          all_goals try simp only
          · intro j hj
            obtain ⟨x, hx⟩ : ∃ x, l[j]? = some x := ⟨_, List.getElem?_eq_getElem hj⟩
            have hl1 : lenN (mapG (relG hi' lo) l j) = l.length := mapG_len _ _ _
            rw [cnd_t (ltI_in hx)]
            simp only [lenN_setL, hl1, chkI_nat hj, bnd_s, addN_0, getN, mapG_get hx, fulI_id, next_i hx (by omega)]
            by_cases hxb : x = hi'
            · rw [cnd_t (eqI_t hxb), ← mapG_next hx, relG, if_pos hxb]; rfl
            · rw [cnd_f (eqI_f hxb), mapG_same hx (by rw [relG, if_neg hxb])]
          · rw [cnd_f (ltI_end l), mapG_all]
            rfl
          · rw [mapG_0]; rfl
      · rintro l _
        rw [cnd_f (ltI_end es)]
      · rfl
    all_goals try simp only
    · intro j hj
      rw [cnd_t (ltI_t (by simp only [natI]; omega))]
      have h1 : lenN (iotaI j ++ List.replicate (m - j) (0 : Int)) = m := by simp [lenN, iotaI_len]; omega
      have h2 : (iotaI j ++ List.replicate (m - j) (0 : Int))[j]? = some 0 := by
        rw [List.getElem?_append_right (by rw [iotaI_len]; omega), iotaI_len, Nat.sub_self, List.getElem?_replicate, if_pos (by omega)]
      have h3 : setL (iotaI j ++ List.replicate (m - j) (0 : Int)) j (j : Int) = iotaI (j + 1) ++ List.replicate (m - (j + 1)) (0 : Int) := by
        rw [← iotaI_succ, setL, List.set_append_right _ _ (by rw [iotaI_len]; omega), iotaI_len, Nat.sub_self, show m - j = (m - (j + 1)) + 1 by omega, List.replicate_succ]
        simp [appL]
      simp only [lenN_setL, h1, chkI_nat hj, bnd_s, addN_0, getN, h2, fulI_id, h3]
      rw [addI_eq (by omega) (by omega)]
      rfl
    · rw [cnd_f (ltI_f (by simp only [natI]; omega)), fulI_id, Nat.sub_self]
      simp
      rfl
    · simp [iotaI, repL]
  · cases h

theorem leasts_len {n : Int} {es : List (Int × Int)} {s : Int} : (leasts n es s).length = n.toNat := by
  unfold leasts
  generalize hl : iotaI n.toNat = l
  have h0 : l.length = n.toNat := by rw [← hl, iotaI_len]
  clear hl
  rw [← h0]
  clear h0
  generalize 0 = i
  induction es generalizing l i with
  | nil => rfl
  | cons e es ih => rw [foldN, ih, leastStep_len]

theorem countP_succ (p : Nat → Bool) (j : Nat) : (List.range (j + 1)).countP p = (List.range j).countP p + (if p j = true then 1 else 0) := by
  rw [List.range_succ, List.countP_append, List.countP_singleton]

theorem countP_le (p : Nat → Bool) (j : Nat) : (List.range j).countP p ≤ j := by
  have := List.countP_le_length (p := p) (l := List.range j)
  rwa [List.length_range] at this

theorem f_impl_rawComponentCount (x : (Int × List (Int × Int)) × Int) (y : Int) (h : F_impl_rawComponentCount x = some y) : G_impl_rawComponentCount FUEL x = some y := by
  obtain ⟨⟨n, es⟩, s⟩ := x
  simp only [F_impl_rawComponentCount] at h
  split at h
  · rename_i hc
    injection h with h
    subst h
    obtain ⟨⟨hn0, hn⟩, hl, he⟩ := graphOk_t hc.1
    simp only [G_impl_rawComponentCount, F_impl_componentsOf, if_pos hc, bnd_s]
    have hlen := leasts_len (n := n) (es := es) (s := s)
    generalize leasts n es s = l at *
    simp only [fulI_id, bnd_s]
    rw [loopT_seq (fun j => ((((List.countP (fun i => l.getD i 0 == (i : Int)) (List.range j) : Nat) : Int), natI (lenN l), (j : Int)), l)) (r := Sum.inl (fixes l)) l.length ?_ ?_ ?_ (FUEL_gt (by omega))]
    · rfl
    all_goals try simp only
    · intro j hj
      obtain ⟨x, hx⟩ : ∃ x, l[j]? = some x := ⟨_, List.getElem?_eq_getElem hj⟩
      rw [cnd_t (ltI_in hx)]
      simp only [chkI_nat (i := j) (n := lenN l) hj, bnd_s, addN_0, getN, hx]
      have hle := countP_le (fun i => l.getD i 0 == (i : Int)) j
      rw [countP_succ, next_i hx (by omega), addI_eq (by omega) (by omega)]
      by_cases hxj : (j : Int) = x
      · rw [cnd_t (eqI_t hxj), if_pos (by simp [List.getD, hx, hxj])]; rfl
      · rw [cnd_f (eqI_f hxj), if_neg (by simp [List.getD, hx]; omega)]; rfl
    · rw [cnd_f (ltI_end l)]
      rfl
    · rfl
  · cases h

/-! ### the parts have as many as the fixed points -/

theorem countP_one (p q : Nat → Bool) (k : Nat) : ∀ n, k < n → (∀ i, i < n → i ≠ k → p i = q i) → p k = true → q k = false → (List.range n).countP p = (List.range n).countP q + 1
  | 0, h, _, _, _ => by omega
  | n + 1, h, hpq, h1, h2 => by
    rw [countP_succ, countP_succ]
    by_cases hk : k = n
    · subst hk
      rw [h1, h2]
      have : (List.range k).countP p = (List.range k).countP q := List.countP_congr fun i hi => by
        have := List.mem_range.1 hi
        rw [hpq i (by omega) (by omega)]
      rw [this]
      simp
    · rw [countP_one p q k n (by omega) (fun i hi => hpq i (by omega)) h1 h2, hpq n (by omega) (by omega)]
      omega

structure PInv (m : Nat) (l : List Int) (c : Int) (q : List Int) : Prop where
  ll : l.length = m
  lq : q.length = m
  same : ∀ i j : Nat, i < m → j < m → (l.getD i 0 = l.getD j 0 ↔ q.getD i 0 = q.getD j 0)
  low : ∀ i : Nat, i < m → 0 ≤ l.getD i 0 ∧ l.getD i 0 ≤ (i : Int) ∧ l.getD (l.getD i 0).toNat 0 = l.getD i 0
  cnt : fixes l = c

theorem relab_getD {b a : Int} {l : List Int} {i : Nat} (h : i < l.length) : (relab b a l).getD i 0 = if l.getD i 0 = b then a else l.getD i 0 := by
  simp [relab, List.getD, List.getElem?_map, List.getElem?_eq_getElem h]

theorem relab_self (b : Int) (l : List Int) : relab b b l = l := by
  unfold relab
  conv => rhs; rw [← List.map_id l]
  refine List.map_congr_left fun x _ => ?_
  split
  · rename_i h; exact h.symm
  · rfl

theorem merge_eq {b a x y : Int} : ((if x = b then a else x) = (if y = b then a else y)) ↔ (x = y ∨ ((x = b ∨ x = a) ∧ (y = b ∨ y = a))) := by
  constructor
  · intro h; split at h <;> split at h <;> omega
  · intro h; split <;> split <;> omega

theorem PInv.step {m : Nat} {l : List Int} {c : Int} {q : List Int} (h : PInv m l c q) {u v : Nat} (hu : u < m) (hv : v < m) {s i : Nat} :
    PInv m (leastStep s i l ((u : Int), (v : Int))) (partStep s i (c, q) ((u : Int), (v : Int))).1 (partStep s i (c, q) ((u : Int), (v : Int))).2 := by
  cases hb : s.testBit i with
  | false =>
    have e1 : leastStep s i l ((u : Int), (v : Int)) = l := if_neg (by rw [hb]; decide)
    have e2 : partStep s i (c, q) ((u : Int), (v : Int)) = (c, q) := if_neg (fun hh => by rw [hb] at hh; exact absurd hh.1 (by decide))
    rw [e1, e2]
    exact h
  | true =>
    have ep : q.getD u 0 = q.getD v 0 → partStep s i (c, q) ((u : Int), (v : Int)) = (c, q) := fun h => if_neg (fun hh => hh.2 h)
    have en : q.getD u 0 ≠ q.getD v 0 → partStep s i (c, q) ((u : Int), (v : Int)) = (c - 1, relab (q.getD v 0) (q.getD u 0) q) := fun h => if_pos ⟨hb, h⟩
    have el : leastStep s i l ((u : Int), (v : Int)) = relab (max (l.getD u 0) (l.getD v 0)) (min (l.getD u 0) (l.getD v 0)) l := if_pos hb
    obtain ⟨ll, lq, same, low, cnt⟩ := h
    by_cases hq : q.getD u 0 = q.getD v 0
    · have hl := (same u v hu hv).2 hq
      rw [ep hq, el, hl, Int.max_self, Int.min_self, relab_self]
      exact ⟨ll, lq, same, low, cnt⟩
    · have hl : l.getD u 0 ≠ l.getD v 0 := fun e => hq ((same u v hu hv).1 e)
      rw [en hq, el]
      obtain ⟨lu0, lu1, lu2⟩ := low u hu
      obtain ⟨lv0, lv1, lv2⟩ := low v hv
      -- lo and hi
      obtain ⟨lo, hi, e1, e2, hlt, hset, hlo0, hlo, hhi, hhim⟩ : ∃ lo hi : Nat, min (l.getD u 0) (l.getD v 0) = (lo : Int) ∧ max (l.getD u 0) (l.getD v 0) = (hi : Int) ∧ lo < hi ∧
          (∀ x : Int, (x = (hi : Int) ∨ x = (lo : Int)) ↔ (x = l.getD v 0 ∨ x = l.getD u 0)) ∧ lo < m ∧ l.getD lo 0 = (lo : Int) ∧ l.getD hi 0 = (hi : Int) ∧ hi < m := by
        obtain ⟨a, ha⟩ := natI_eq lu0
        obtain ⟨b, hb⟩ := natI_eq lv0
        rw [ha, Int.toNat_natCast] at lu2
        rw [hb, Int.toNat_natCast] at lv2
        rw [ha] at lu1 hl
        rw [hb] at lv1 hl
        rw [ha, hb]
        rcases Nat.lt_or_ge a b with hab | hab
        · exact ⟨a, b, by omega, by omega, hab, fun x => by omega, by omega, lu2, lv2, by omega⟩
        · exact ⟨b, a, by omega, by omega, by omega, fun x => by omega, by omega, lv2, lu2, by omega⟩
      rw [e1, e2]
      have gl : ∀ j, j < m → (relab (hi : Int) (lo : Int) l).getD j 0 = if l.getD j 0 = (hi : Int) then (lo : Int) else l.getD j 0 := fun j hj => relab_getD (by omega)
      have gq : ∀ j, j < m → (relab (q.getD v 0) (q.getD u 0) q).getD j 0 = if q.getD j 0 = q.getD v 0 then q.getD u 0 else q.getD j 0 := fun j hj => relab_getD (by omega)
      refine ⟨by rw [relab_len]; exact ll, by rw [relab_len]; exact lq, ?_, ?_, ?_⟩
      · intro x y hx hy
        rw [gl x hx, gl y hy, gq x hx, gq y hy, merge_eq, merge_eq, hset, hset, same x y hx hy, same x u hx hu, same x v hx hv, same y u hy hu, same y v hy hv]
      · intro x hx
        obtain ⟨h0, h1, h2⟩ := low x hx
        rw [gl x hx]
        by_cases hxh : l.getD x 0 = (hi : Int)
        · rw [if_pos hxh]
          refine ⟨by omega, by omega, ?_⟩
          rw [Int.toNat_natCast, gl lo hlo0, hlo, if_neg (by omega)]
        · rw [if_neg hxh]
          refine ⟨h0, h1, ?_⟩
          rw [gl _ (by omega), h2, if_neg hxh]
      · have hc := countP_one (fun j => l.getD j 0 == (j : Int)) (fun j => (relab (hi : Int) (lo : Int) l).getD j 0 == (j : Int)) hi m hhim ?_ (by rw [hhi]; simp) (by rw [gl hi hhim, if_pos hhi]; simp; omega)
        · unfold fixes at cnt ⊢
          rw [relab_len, ll]
          rw [ll, hc] at cnt
          omega
        · intro j hj hne
          rw [gl j hj]
          by_cases hjh : l.getD j 0 = (hi : Int)
          · rw [if_pos hjh, hjh, Bool.eq_iff_iff]
            simp only [beq_iff_eq]
            constructor
            · intro h; omega
            · intro h
              have : lo = j := by omega
              subst this
              omega
          · rw [if_neg hjh]

theorem PInv.fold {m s : Nat} : ∀ (es : List (Int × Int)) (i : Nat) {l : List Int} {st : Int × List Int}, PInv m l st.1 st.2 → (∀ e ∈ es, (0 ≤ e.1 ∧ e.1 ≤ (m : Int) - 1) ∧ (0 ≤ e.2 ∧ e.2 ≤ (m : Int) - 1)) →
    PInv m (foldN (leastStep s) i l es) (foldN (partStep s) i st es).1 (foldN (partStep s) i st es).2
  | [], _, _, _, h, _ => h
  | (u, v) :: es, i, l, (c, q), h, he => by
    obtain ⟨⟨hu, hu'⟩, hv, hv'⟩ := he _ List.mem_cons_self
    obtain ⟨u, rfl⟩ := natI_eq hu
    obtain ⟨v, rfl⟩ := natI_eq hv
    simp only at hu' hv'
    exact PInv.fold es (i + 1) (h.step (by omega) (by omega)) (fun e h => he e (List.mem_cons_of_mem _ h))

theorem iotaI_getD {m i : Nat} (h : i < m) : (iotaI m).getD i 0 = (i : Int) := by
  simp [iotaI, List.getD, List.getElem?_map, List.getElem?_range h]

theorem PInv.init (m : Nat) : PInv m (iotaI m) (m : Int) (iotaI m) := by
  refine ⟨iotaI_len m, iotaI_len m, fun _ _ _ _ => Iff.rfl, fun i hi => ?_, ?_⟩
  · rw [iotaI_getD hi, Int.toNat_natCast, iotaI_getD hi]
    omega
  · unfold fixes
    rw [iotaI_len]
    have : (List.range m).countP (fun i => (iotaI m).getD i 0 == (i : Int)) = (List.range m).length := by
      rw [List.countP_eq_length]
      intro i hi
      rw [iotaI_getD (List.mem_range.1 hi)]
      simp
    rw [this, List.length_range]

end Go.Am
end
section
namespace Go.Am

/-! ### loops by an invariant -/

theorem loopT_ex {X Y : Type} {f : X → Option (X ⊕ Y)} (n : Nat) (I : Nat → X → Prop) (Q : Y → Prop)
    (h1 : ∀ i x, i < n → I i x → ∃ x', f x = some (.inl x') ∧ I (i + 1) x') (h2 : ∀ x, I n x → ∃ r, f x = some (.inr r) ∧ Q r) {x0 : X} (h0 : I 0 x0) {N : Nat} (hN : n < N) : ∃ r, loopT N f x0 = some r ∧ Q r := by
  have key : ∀ (k i : Nat) (x : X), i + k = n → I i x → ∀ N, k < N → ∃ r, loopT N f x = some r ∧ Q r := by
    intro k
    induction k with
    | zero =>
      intro i x hi hx N hN
      obtain ⟨N, rfl⟩ : ∃ M, N = M + 1 := ⟨N - 1, by omega⟩
      have : i = n := by omega
      subst this
      obtain ⟨r, e, q⟩ := h2 x hx
      exact ⟨r, by simp only [loopT, e], q⟩
    | succ k ih =>
      intro i x hi hx N hN
      obtain ⟨N, rfl⟩ : ∃ M, N = M + 1 := ⟨N - 1, by omega⟩
      obtain ⟨x', e, hx'⟩ := h1 i x (by omega) hx
      obtain ⟨r, e', q⟩ := ih (i + 1) x' (by omega) hx' N (by omega)
      exact ⟨r, by simp only [loopT, e]; exact e', q⟩
  exact key n 0 x0 (by omega) h0 N hN

/-! ### cursors -/

abbrev Cu : Type := List Int × Int × Int
def CuOk (c : Cu) : Prop := 0 ≤ c.2.1 ∧ c.1.length ≤ 1048576

theorem and_bits (a : Int) : 0 ≤ andI .i64 a 255 ∧ andI .i64 a 255 ≤ 255 := by
  have e : andI .i64 a 255 = IntKind.wrap .i64 (((BitVec.ofInt 64 a &&& BitVec.ofInt 64 255).toNat : Nat) : Int) := rfl
  have h : (BitVec.ofInt 64 a &&& BitVec.ofInt 64 255).toNat ≤ 255 := by
    rw [BitVec.toNat_and]
    exact Nat.le_trans Nat.and_le_right (by decide)
  rw [e]
  generalize (BitVec.ofInt 64 a &&& BitVec.ofInt 64 255).toNat = m at h
  rw [wraps_i64 _ (by omega) (by omega)]
  omega
theorem fulI_nil0 {α : Type} : fulI 0 0 (lenN ([] : List α)) = some () := rfl
theorem fulI_app1 {α : Type} (l : List α) (x : α) : fulI 0 (addN (lenN l) (lenN [x])) (lenN (appL l [x])) = some () := by
  rw [show lenN (appL l [x]) = addN (lenN l) (lenN [x]) by simp [addN, lenN, appL]]; exact fulI_id _

def ag_spec_l01New : Sig := [(.one, [.list [.int .u8]])]
def rs_spec_l01New : Sig := [(.ptr, [.list [.int .u8], .int .i64, .int .i64])]
def mu_spec_l01New : MSig := [[some .bor]]

def G_spec_l01New (NN : Nat) : (List Int) → (Option ((List Int) × (Int × Int))) :=
 (fun (l0 : (List Int)) =>
 joinK (loopT NN (fun ((l1, i2, i3) : ((List Int) × (Int × Int))) =>
 cnd (ltI i3 (natI (lenN l1)))
 (cnd (ltI i3 (4000 : Int))
 ((getI l1 i3).bnd (fun i4 =>
 some (Sum.inl (l1, andI .i64 (addI .i64 (addI .i64 (mulI .i64 i2 131) (convI .i64 i4)) (7 : Int)) (1073741823 : Int), addI .i64 i3 1))))
 (some (Sum.inr (Sum.inl (l1, i2)))))
 (some (Sum.inr (Sum.inl (l1, i2)))))
 (l0, addI .i64 (55127 : Int) (natI (lenN l0)), (0 : Int)))
 (fun (l5, i6) =>
 some (l5, (0 : Int), i6)))

def F_spec_l01New : (List Int) → (Option ((List Int) × (Int × Int))) := G_spec_l01New FUEL
theorem f_spec_l01New (x : (List Int)) (z : ((List Int) × (Int × Int))) (h : F_spec_l01New x = some z) : G_spec_l01New FUEL x = some z := h

def ag_spec_l45At : Sig := [(.one, [.list [.int .u8]]), (.one, [.int .i64])]
def rs_spec_l45At : Sig := [(.ptr, [.list [.int .u8], .int .i64, .int .i64])]
def mu_spec_l45At : MSig := [[some .bor]]

def G_spec_l45At (NN : Nat) : ((List Int) × Int) → (Option ((List Int) × (Int × Int))) :=
 (fun ((l0, i1) : ((List Int) × Int)) =>
 (F_spec_l01New l0).bnd (fun (l2, i3, i4) =>
 some (l2, minI i1 (natI (lenN l0)), andI .i64 (addI .i64 (addI .i64 (mulI .i64 i4 31) (mulI .i64 i1 7919)) (1 : Int)) (1073741823 : Int))))

def F_spec_l45At : ((List Int) × Int) → (Option ((List Int) × (Int × Int))) := G_spec_l45At FUEL
theorem f_spec_l45At (x : ((List Int) × Int)) (z : ((List Int) × (Int × Int))) (h : F_spec_l45At x = some z) : G_spec_l45At FUEL x = some z := h

def ag_spec_l01Byte : Sig := [(.ptr, [.list [.int .u8], .int .i64, .int .i64])]
def rs_spec_l01Byte : Sig := [(.one, [.int .i64]), (.ptr, [.list [.int .u8], .int .i64, .int .i64])]
def mu_spec_l01Byte : MSig := [[some .bor]]

def G_spec_l01Byte (NN : Nat) : ((List Int) × (Int × Int)) → (Option (Int × ((List Int) × (Int × Int)))) :=
 (fun ((l0, i1, i2) : ((List Int) × (Int × Int))) =>
 (shrI .i64 (addI .i64 (mulI .i64 i2 6364136223846793005) (1442695040888963407 : Int)) (33 : Int)).bnd (fun i3 =>
 (shrI .i64 (addI .i64 (mulI .i64 i2 6364136223846793005) (1442695040888963407 : Int)) (45 : Int)).bnd (fun i4 =>
 joinK (cnd (ltI i1 (natI (lenN l0)))
 ((getI l0 i1).bnd (fun i5 =>
 some (Sum.inl (andI .i64 (addI .i64 (andI .i64 (xorI .i64 i3 i4) (255 : Int)) (convI .i64 i5)) (255 : Int), l0, addI .i64 i1 1, addI .i64 (mulI .i64 i2 6364136223846793005) (1442695040888963407 : Int)))))
 (some (Sum.inl (andI .i64 (xorI .i64 i3 i4) (255 : Int), l0, i1, addI .i64 (mulI .i64 i2 6364136223846793005) (1442695040888963407 : Int)))))
 (fun (i6, l7, i8, i9) =>
 some (i6, l7, i8, i9)))))

def F_spec_l01Byte : ((List Int) × (Int × Int)) → (Option (Int × ((List Int) × (Int × Int)))) := G_spec_l01Byte FUEL
theorem f_spec_l01Byte (x : ((List Int) × (Int × Int))) (z : (Int × ((List Int) × (Int × Int)))) (h : F_spec_l01Byte x = some z) : G_spec_l01Byte FUEL x = some z := h

def ag_spec_l01Below : Sig := [(.ptr, [.list [.int .u8], .int .i64, .int .i64]), (.one, [.int .i64])]
def rs_spec_l01Below : Sig := [(.one, [.int .i64]), (.ptr, [.list [.int .u8], .int .i64, .int .i64])]
def mu_spec_l01Below : MSig := [[some .bor]]

def G_spec_l01Below (NN : Nat) : (((List Int) × (Int × Int)) × Int) → (Option (Int × ((List Int) × (Int × Int)))) :=
 (fun (((l0, i1, i2), i3) : (((List Int) × (Int × Int)) × Int)) =>
 cnd (leI i3 (0 : Int))
 (some ((0 : Int), l0, i1, i2))
 ((F_spec_l01Byte (l0, i1, i2)).bnd (fun (i4, l5, i6, i7) =>
 (remI i4 i3).bnd (fun i8 =>
 some (i8, l5, i6, i7)))))

def F_spec_l01Below : (((List Int) × (Int × Int)) × Int) → (Option (Int × ((List Int) × (Int × Int)))) := G_spec_l01Below FUEL
theorem f_spec_l01Below (x : (((List Int) × (Int × Int)) × Int)) (z : (Int × ((List Int) × (Int × Int)))) (h : F_spec_l01Below x = some z) : G_spec_l01Below FUEL x = some z := h

def ag_spec_MakeNum : Sig := [(.one, [.list [.int .u8]]), (.one, [.int .i64])]
def rs_spec_MakeNum : Sig := [(.one, [.int .i64])]
def mu_spec_MakeNum : MSig := [[some .bor]]

def G_spec_MakeNum (NN : Nat) : ((List Int) × Int) → (Option Int) :=
 (fun ((l0, i1) : ((List Int) × Int)) =>
 (F_spec_l45At (l0, i1)).bnd (fun (l2, i3, i4) =>
 (F_spec_l01Byte (l2, i3, i4)).bnd (fun (i5, l6, i7, i8) =>
 (F_spec_l01Byte (l6, i7, i8)).bnd (fun (i9, l10, i11, i12) =>
 some (addI .i64 (mulI .i64 (256 : Int) i5) i9)))))

def F_spec_MakeNum : ((List Int) × Int) → (Option Int) := G_spec_MakeNum FUEL
theorem f_spec_MakeNum (x : ((List Int) × Int)) (z : Int) (h : F_spec_MakeNum x = some z) : G_spec_MakeNum FUEL x = some z := h

def ag_spec_MakeSize : Sig := [(.one, [.list [.int .u8]]), (.one, [.int .i64]), (.one, [.int .i64]), (.one, [.int .i64])]
def rs_spec_MakeSize : Sig := [(.one, [.int .i64])]
def mu_spec_MakeSize : MSig := [[some .bor]]

def G_spec_MakeSize (NN : Nat) : ((List Int) × (Int × (Int × Int))) → (Option Int) :=
 (fun ((l0, i1, i2, i3) : ((List Int) × (Int × (Int × Int)))) =>
 (F_spec_MakeNum (l0, i1)).bnd (fun i4 =>
 (remI i4 (addI .i64 (subI .i64 i3 i2) (1 : Int))).bnd (fun i5 =>
 some (addI .i64 i2 i5))))

def F_spec_MakeSize : ((List Int) × (Int × (Int × Int))) → (Option Int) := G_spec_MakeSize FUEL
theorem f_spec_MakeSize (x : ((List Int) × (Int × (Int × Int)))) (z : Int) (h : F_spec_MakeSize x = some z) : G_spec_MakeSize FUEL x = some z := h

def ag_spec_l36Draw : Sig := [(.ptr, [.list [.int .u8], .int .i64, .int .i64]), (.one, [.int .i64]), (.one, [.int .i64])]
def rs_spec_l36Draw : Sig := [(.agg, [.int .i64, .list [.int .i64, .int .i64]]), (.ptr, [.list [.int .u8], .int .i64, .int .i64])]
def mu_spec_l36Draw : MSig := [[some .bor]]

def G_spec_l36Draw (NN : Nat) : (((List Int) × (Int × Int)) × (Int × Int)) → (Option ((Int × (List (Int × Int))) × ((List Int) × (Int × Int)))) :=
 (fun (((l0, i1, i2), i3, i4) : (((List Int) × (Int × Int)) × (Int × Int))) =>
 (F_spec_l01Below ((l0, i1, i2), i3)).bnd (fun (i5, l6, i7, i8) =>
 (F_spec_l01Below ((l6, i7, i8), addI .i64 i4 1)).bnd (fun (i9, l10, i11, i12) =>
 joinK ((fulI 0 0 (lenN (([] : List (Int × Int))))).bnd (fun _ =>
 (fulI 0 0 (lenN (([] : List (Int × Int))))).bnd (fun _ =>
 loopT NN (fun ((i13, (l14, i15, i16), i17, i18, l19, l20) : (Int × (((List Int) × (Int × Int)) × (Int × (Int × ((List (Int × Int)) × (List (Int × Int)))))))) =>
 cnd (ltI (0 : Int) i13)
 ((F_spec_l01Below ((l14, i15, i16), i18)).bnd (fun (i21, l22, i23, i24) =>
 (F_spec_l01Below ((l22, i23, i24), i18)).bnd (fun (i25, l26, i27, i28) =>
 (fulI 0 (lenN l20) (lenN l20)).bnd (fun _ =>
 (winI (((i21, i25) :: ([] : List (Int × Int)))) 0 1).bnd (fun l29 =>
 (fitI (addN (lenN l20) (lenN l29)) 16).bnd (fun _ =>
 (fulI 0 (lenN l19) (lenN l19)).bnd (fun _ =>
 (fulI 0 (addN (lenN l20) (lenN l29)) (lenN (appL l20 l29))).bnd (fun _ =>
 some (Sum.inl (subI .i64 i13 1, (l26, i27, i28), i17, i18, l19, appL l20 l29))))))))))
 (((fulI 0 (lenN l19) (lenN l19)).bnd (fun _ =>
 (fulI 0 (lenN l20) (lenN l20)).bnd (fun _ =>
 some (Sum.inl ((l14, i15, i16), i17, i18, l19, l20))))).bnd (fun l30 =>
 some (Sum.inr l30))))
 (i9, (l10, i11, i12), (0 : Int), addI .i64 (1 : Int) i5, ([] : List (Int × Int)), ([] : List (Int × Int))))))
 (fun ((l31, i32, i33), i34, i35, l36, l37) =>
 (winI l37 0 (lenN l37)).bnd (fun l38 =>
 some ((i35, l38), l31, i32, i33))))))

def F_spec_l36Draw : (((List Int) × (Int × Int)) × (Int × Int)) → (Option ((Int × (List (Int × Int))) × ((List Int) × (Int × Int)))) := G_spec_l36Draw FUEL
theorem f_spec_l36Draw (x : (((List Int) × (Int × Int)) × (Int × Int))) (z : ((Int × (List (Int × Int))) × ((List Int) × (Int × Int)))) (h : F_spec_l36Draw x = some z) : G_spec_l36Draw FUEL x = some z := h

def ag_spec_MakeGraph : Sig := [(.one, [.list [.int .u8]]), (.one, [.int .i64])]
def rs_spec_MakeGraph : Sig := [(.agg, [.int .i64, .list [.int .i64, .int .i64]])]
def mu_spec_MakeGraph : MSig := [[some .bor]]

def G_spec_MakeGraph (NN : Nat) : ((List Int) × Int) → (Option (Int × (List (Int × Int)))) :=
 (fun ((l0, i1) : ((List Int) × Int)) =>
 (F_spec_l45At (l0, i1)).bnd (fun (l2, i3, i4) =>
 (F_spec_l36Draw ((l2, i3, i4), (5 : Int), (6 : Int))).bnd (fun ((i5, l6), l7, i8, i9) =>
 some (i5, l6))))

def F_spec_MakeGraph : ((List Int) × Int) → (Option (Int × (List (Int × Int)))) := G_spec_MakeGraph FUEL
theorem f_spec_MakeGraph (x : ((List Int) × Int)) (z : (Int × (List (Int × Int)))) (h : F_spec_MakeGraph x = some z) : G_spec_MakeGraph FUEL x = some z := h

theorem byte_ok (c : Cu) (h : CuOk c) : ∃ x c', F_spec_l01Byte c = some (x, c') ∧ (0 ≤ x ∧ x ≤ 255) ∧ CuOk c' := by
  obtain ⟨l, i, k⟩ := c
  obtain ⟨h0, h1⟩ := h
  dsimp only at h0 h1
  obtain ⟨i, rfl⟩ := natI_eq h0
  obtain ⟨s1, e1⟩ : ∃ s, shrI .i64 (addI .i64 (mulI .i64 k (6364136223846793005 : Int)) (1442695040888963407 : Int)) (33 : Int) = some s := ⟨_, if_neg (by decide)⟩
  obtain ⟨s2, e2⟩ : ∃ s, shrI .i64 (addI .i64 (mulI .i64 k (6364136223846793005 : Int)) (1442695040888963407 : Int)) (45 : Int) = some s := ⟨_, if_neg (by decide)⟩
  simp only [F_spec_l01Byte, G_spec_l01Byte]
  rw [e1, e2]
  simp only [Option.bnd, Option.bind]
  by_cases hc : i < l.length
  · rw [cnd_t (ltI_t (by unfold natI lenN; omega))]
    rw [getI_nat, List.getElem?_eq_getElem hc]
    simp only [joinK, Option.bind]
    refine ⟨_, _, rfl, and_bits _, ?_, h1⟩
    dsimp only
    rw [addI_eq (by omega) (by omega)]
    omega
  · rw [cnd_f (ltI_f (by unfold natI lenN; omega))]
    simp only [joinK, Option.bind]
    exact ⟨_, _, rfl, and_bits _, h0, h1⟩

theorem below_ok (c : Cu) (n : Int) (h : CuOk c) (hn : 1 ≤ n) : ∃ x c', F_spec_l01Below (c, n) = some (x, c') ∧ (0 ≤ x ∧ x < n) ∧ x ≤ 255 ∧ CuOk c' := by
  obtain ⟨l, i, k⟩ := c
  obtain ⟨x, ⟨l', i', k'⟩, e, hx, hc⟩ := byte_ok _ h
  simp only [F_spec_l01Below, G_spec_l01Below]
  rw [cnd_f (leI_f (by omega)), e]
  simp only [Option.bnd, Option.bind]
  rw [remI_pos hx.1 (by omega)]
  refine ⟨_, _, rfl, ⟨Int.emod_nonneg _ (by omega), Int.emod_lt_of_pos _ (by omega)⟩, ?_, hc⟩
  have := Int.emod_lt_of_pos x (show 0 < n by omega)
  by_cases hl : x < n
  · rw [Int.emod_eq_of_lt hx.1 hl]; omega
  · omega

theorem new_ok (l : List Int) (h : l.length ≤ 1048576) : ∃ c, F_spec_l01New l = some c ∧ CuOk c := by
  simp only [F_spec_l01New, G_spec_l01New]
  generalize hL : loopT FUEL _ _ = o
  obtain ⟨r, rfl, z, rfl⟩ : ∃ r, o = some r ∧ ∃ z, r = Sum.inl (l, z) := by
    rw [← hL]
    refine loopT_ex (min l.length 4000) (fun i (x : List Int × Int × Int) => x.1 = l ∧ x.2.2 = (i : Int)) _ ?_ ?_ ⟨rfl, rfl⟩ (FUEL_gt (by omega))
    · intro i x hi hx
      obtain ⟨l1, i2, i3⟩ := x
      dsimp only at hx ⊢
      obtain ⟨rfl, rfl⟩ := hx
      rw [cnd_t (ltI_t (by unfold natI lenN; omega)), cnd_t (ltI_t (by omega)), getI_nat, List.getElem?_eq_getElem (by omega)]
      exact ⟨_, rfl, rfl, addI_eq (by omega) (by omega)⟩
    · intro x hx
      obtain ⟨l1, i2, i3⟩ := x
      dsimp only at hx ⊢
      obtain ⟨rfl, rfl⟩ := hx
      by_cases hc : l1.length ≤ 4000
      · rw [cnd_f (ltI_f (by unfold natI lenN; omega))]
        exact ⟨_, rfl, _, rfl⟩
      · rw [cnd_t (ltI_t (by unfold natI lenN; omega)), cnd_f (ltI_f (by omega))]
        exact ⟨_, rfl, _, rfl⟩
  exact ⟨_, rfl, Int.le_refl _, h⟩

theorem at_ok (l : List Int) (n : Int) (h : l.length ≤ 1048576) (hn : 0 ≤ n) : ∃ c, F_spec_l45At (l, n) = some c ∧ CuOk c := by
  obtain ⟨⟨l', i', k'⟩, e, hc⟩ := new_ok l h
  simp only [F_spec_l45At, G_spec_l45At]
  rw [e]
  refine ⟨_, rfl, ?_, hc.2⟩
  dsimp only
  rw [minI_eq]
  unfold natI lenN
  omega

theorem num_ok (l : List Int) (n : Int) (h : l.length ≤ 1048576) (hn : 0 ≤ n) : ∃ x, F_spec_MakeNum (l, n) = some x ∧ (0 ≤ x ∧ x ≤ 65535) := by
  obtain ⟨⟨l', i', k'⟩, e, hc⟩ := at_ok l n h hn
  obtain ⟨x, ⟨l1, i1, k1⟩, e1, hx, hc⟩ := byte_ok _ hc
  obtain ⟨y, ⟨l2, i2, k2⟩, e2, hy, hc⟩ := byte_ok _ hc
  simp only [F_spec_MakeNum, G_spec_MakeNum]
  rw [e]
  simp only [Option.bnd, Option.bind]
  rw [e1]
  simp only [Option.bind]
  rw [e2]
  refine ⟨_, rfl, ?_⟩
  rw [mulI_eq (by omega) (by omega), addI_eq (by omega) (by omega)]
  omega

theorem size_ok (l : List Int) (n lo hi : Int) (h : l.length ≤ 1048576) (hn : 0 ≤ n) (h0 : 0 ≤ lo) (h1 : lo ≤ hi) (h2 : hi ≤ 1048576) : ∃ x, F_spec_MakeSize (l, n, lo, hi) = some x ∧ (lo ≤ x ∧ x ≤ hi) := by
  obtain ⟨x, e, hx⟩ := num_ok l n h hn
  simp only [F_spec_MakeSize, G_spec_MakeSize]
  rw [e]
  simp only [Option.bnd, Option.bind]
  rw [subI_eq (by omega) (by omega), addI_eq (by omega) (by omega), remI_pos hx.1 (by omega)]
  have a := Int.emod_nonneg x (show hi - lo + 1 ≠ 0 by omega)
  have b := Int.emod_lt_of_pos x (show 0 < hi - lo + 1 by omega)
  refine ⟨_, rfl, ?_⟩
  rw [addI_eq (by omega) (by omega)]
  omega

def edgesIn (n : Int) (l : List (Int × Int)) : Prop := ∀ e ∈ l, (0 ≤ e.1 ∧ e.1 < n) ∧ 0 ≤ e.2 ∧ e.2 < n
theorem graph_ok (c : Cu) (n m : Int) (h : CuOk c) (hn : 1 ≤ n ∧ n ≤ 100) (hm : 0 ≤ m ∧ m ≤ 100) : ∃ g c', F_spec_l36Draw (c, n, m) = some (g, c') ∧ (1 ≤ g.1 ∧ g.1 ≤ n) ∧ (g.2.length : Int) ≤ m ∧ edgesIn g.1 g.2 ∧ CuOk c' := by
  obtain ⟨x, ⟨l1, i1, k1⟩, e1, hx, _, hc⟩ := below_ok _ n h hn.1
  obtain ⟨y, ⟨l2, i2, k2⟩, e2, hy, _, hc⟩ := below_ok (l1, i1, k1) (m + 1) hc (by omega)
  obtain ⟨l, i, k⟩ := c
  simp only [F_spec_l36Draw, G_spec_l36Draw]
  rw [e1]
  simp only [bnd_s]
  rw [addI_eq (by omega) (by omega), e2]
  simp only [bnd_s, fulI_nil0, fulI_id]
  rw [addI_eq (by omega) (by omega)]
  obtain ⟨y, rfl⟩ := natI_eq hy.1
  generalize hL : loopT FUEL _ _ = o
  obtain ⟨r, rfl, c', L, u, v, rfl, hc', hL, hI⟩ : ∃ r, o = some r ∧ ∃ c' L u v, r = Sum.inl (c', u, 1 + x, v, L) ∧ CuOk c' ∧ L.length = y ∧ edgesIn (1 + x) L := by
    rw [← hL]
    refine loopT_ex y (fun j (s : (Int × (((List Int) × (Int × Int)) × (Int × (Int × ((List (Int × Int)) × (List (Int × Int)))))))) => s.1 = (y : Int) - j ∧ CuOk s.2.1 ∧ s.2.2.2.1 = 1 + x ∧ s.2.2.2.2.2.length = j ∧ edgesIn (1 + x) s.2.2.2.2.2) _ ?_ ?_ ⟨by simp, hc, rfl, rfl, fun e he => absurd he (by simp)⟩ (FUEL_gt (by omega))
    · intro j s hj hs
      obtain ⟨i13, ⟨l14, i15, i16⟩, i17, i18, l19, l20⟩ := s
      dsimp only at hs ⊢
      obtain ⟨rfl, hc, rfl, hl, hI⟩ := hs
      rw [cnd_t (ltI_t (by omega))]
      obtain ⟨a, ⟨la, ia, ka⟩, ea, ha, _, hc⟩ := below_ok _ (1 + x) hc (by omega)
      obtain ⟨b, ⟨lb, ib, kb⟩, eb, hb, _, hc⟩ := below_ok _ (1 + x) hc (by omega)
      rw [ea]
      simp only [bnd_s]
      rw [eb]
      simp only [bnd_s, fulI_id, winI_len (xs := [(a, b)]) (n := 1) rfl, fulI_app1]
      rw [fitI_ok (by simp only [addN, lenN, List.length_cons, List.length_nil]; rw [hl]; have : maxBytes = 140737488355328 := rfl; omega)]
      refine ⟨_, rfl, ?_, hc, rfl, ?_, ?_⟩
      · dsimp only; rw [subI_eq (by omega) (by omega)]; omega
      · dsimp only; simp [appL, hl]
      · dsimp only
        intro e he
        rcases List.mem_append.1 he with h | h
        · exact hI e h
        · rw [List.mem_singleton] at h; subst h; exact ⟨ha, hb⟩
    · intro s hs
      obtain ⟨i13, ⟨l14, i15, i16⟩, i17, i18, l19, l20⟩ := s
      dsimp only at hs ⊢
      obtain ⟨rfl, hc, rfl, hl, hI⟩ := hs
      rw [cnd_f (ltI_f (by omega))]
      exact ⟨_, rfl, _, _, _, _, rfl, hc, hl, hI⟩
  obtain ⟨l3, i3, k3⟩ := c'
  simp only [joinK, Option.bind, winI_id, bnd_s]
  exact ⟨_, _, rfl, by dsimp only; omega, by dsimp only; omega, hI, hc'⟩

theorem MakeGraph_ok (l : List Int) (n : Int) (h : l.length ≤ 1048576) (hn : 0 ≤ n) : ∃ g, F_spec_MakeGraph (l, n) = some g ∧ (1 ≤ g.1 ∧ g.1 ≤ 5) ∧ g.2.length ≤ 6 ∧ edgesIn g.1 g.2 := by
  obtain ⟨⟨l', i', k'⟩, e, hc⟩ := at_ok l n h hn
  obtain ⟨g, ⟨l1, i1, k1⟩, e1, hg, hl, hI, _⟩ := graph_ok _ 5 6 hc (by decide) (by decide)
  obtain ⟨g1, g2⟩ := g
  dsimp only at hg hl hI
  simp only [F_spec_MakeGraph, G_spec_MakeGraph]
  rw [e]
  simp only [Option.bnd, Option.bind]
  rw [e1]
  exact ⟨_, rfl, hg, by dsimp only; omega, hI⟩
end Go.Am
end
section
namespace Go.Am

/-! ### sums over sets -/

/-! ### numbers of members -/

end Go.Am
end
section
namespace Go.Am

/-! ### the laws of rings -/


def cS (om : Bool) (w : Nat) (x y : Nat → Int) (t : Nat) : Int := sm w (fun i => sm w (fun j => kW om x y t i j))
def pc (x y : Nat → Int) (t : Nat) : Int := sm (t + 1) (fun i => x i * y (t - i))

theorem sm_zero : ∀ (n : Nat) {f : Nat → Int}, (∀ i, i < n → f i = 0) → sm n f = 0
  | 0, _, _ => rfl
  | n + 1, f, h => by simp only [sm]; rw [sm_zero n (fun i hi => h i (by omega)), h n (by omega)]; rfl
theorem sm_at {a : Nat} {f : Nat → Int} : ∀ (n : Nat), a < n → (∀ i, i < n → i ≠ a → f i = 0) → sm n f = f a
  | 0, h, _ => by omega
  | n + 1, h, hf => by
    simp only [sm]
    by_cases e : a = n
    · subst e
      rw [sm_zero a (fun i hi => hf i (by omega) (by omega))]; omega
    · rw [sm_at n (by omega) (fun i hi hne => hf i (by omega) hne), hf n (by omega) (by omega)]; omega
theorem sm_cut {m : Nat} {f : Nat → Int} : ∀ (n : Nat), m ≤ n → (∀ i, i < n → m ≤ i → f i = 0) → sm n f = sm m f
  | 0, h, _ => by rw [show m = 0 by omega]
  | n + 1, h, hf => by
    by_cases e : m = n + 1
    · rw [e]
    · simp only [sm]
      rw [sm_cut n (by omega) (fun i hi hm => hf i (by omega) hm), hf n (by omega) (by omega)]; omega
theorem cS_pc {w t : Nat} (x y : Nat → Int) (h : t < w) : cS false w x y t = pc x y t := by
  have hin : ∀ i, i < w → sm w (fun j => kW false x y t i j) = if i ≤ t then x i * y (t - i) else 0 := by
    intro i hi
    split
    · rename_i hit
      rw [sm_at (a := t - i) w (by omega) (fun j hj hne => by unfold kW; rw [if_neg (by omega), if_neg (by simp)])]
      unfold kW
      rw [if_pos (by omega)]
    · exact sm_zero w fun j hj => by unfold kW; rw [if_neg (by omega), if_neg (by simp)]
  unfold cS pc
  rw [sm_congr hin, sm_cut (m := t + 1) w (by omega) (fun i hi hm => if_neg (by omega))]
  exact sm_congr fun i hi => if_pos (by omega)

theorem cS_congr {om : Bool} {w t : Nat} {x x' y y' : Nat → Int} (hx : ∀ i, i < w → x i = x' i) (hy : ∀ i, i < w → y i = y' i) : cS om w x y t = cS om w x' y' t :=
  sm_congr fun i hi => sm_congr fun j hj => by unfold kW; rw [hx i hi, hy j hj]

theorem co_0 (x y : Nat → Int) : cS true 4 x y 0 = x 0 * y 0 - x 1 * y 3 - x 2 * y 2 - x 3 * y 1 := by simp [cS, sm, kW]; grind
theorem co_1 (x y : Nat → Int) : cS true 4 x y 1 = x 0 * y 1 + x 1 * y 0 - x 2 * y 3 - x 3 * y 2 := by simp [cS, sm, kW]; grind
theorem co_2 (x y : Nat → Int) : cS true 4 x y 2 = x 0 * y 2 + x 1 * y 1 + x 2 * y 0 - x 3 * y 3 := by simp [cS, sm, kW]; grind
theorem co_3 (x y : Nat → Int) : cS true 4 x y 3 = x 0 * y 3 + x 1 * y 2 + x 2 * y 1 + x 3 * y 0 := by simp [cS, sm, kW]
theorem cvE_eq (p : Int) (om : Bool) (w : Nat) (x y : Nat → Int) : cvE p om w x y = tab w fun t => cS om w x y t % p := rfl
theorem cv_of {r : Int × Int × Int} (h : r.1 = 7 ∨ r.1 = 8) (x y : List Int) : mulE r x y = cvE r.2.1 (decide (r.1 = 8)) (widN r) (fnL x) (fnL y) := if_pos h

theorem wid1 {r : Int × Int × Int} (hk : ¬ (r.1 = 7 ∨ r.1 = 8)) : widN r = 1 := by
  obtain ⟨k, p, n⟩ := r
  simp only at hk
  simp only [widN, widI]
  rw [if_neg (by omega), if_neg (by omega)]
  rfl

theorem fnL_one {k p n : Int} (hk : k = 7 ∨ k = 8) {j : Nat} (hj : j < widN (k, p, n)) : fnL (oneE (k, p, n)) j = if j = 0 then 1 else 0 := by
  rw [oneE_tab, fnL_tab _ hj, if_neg (show ¬ k = 4 by omega), if_neg (show ¬ (k = 5 ∨ k = 6) by omega)]

theorem cS_0 {k p : Int} {w : Nat} (c : CfR k p w) (u : Nat → Int) (v : Int) {t : Nat} (h : t < w) : cS (decide (k = 8)) w u (fun j => if j = 0 then v else 0) t = u t * v := by
  by_cases h8 : k = 8
  · obtain rfl := c.w8 h8
    rw [decide_eq_true h8]
    match t, h with
    | 0, _ => rw [co_0]; simp
    | 1, _ => rw [co_1]; simp
    | 2, _ => rw [co_2]; simp
    | 3, _ => rw [co_3]; simp
  · rw [decide_eq_false h8, cS_pc _ _ h]
    unfold pc
    rw [sm_at (a := t) (t + 1) (by omega) (fun i hi hne => by simp only; rw [if_neg (by omega), Int.mul_zero])]
    simp only
    rw [if_pos (by omega)]

theorem opM_one {k p n : Int} (hr : ringOk (k, p, n) = true) (hk : ¬ (k = 7 ∨ k = 8)) {a : Int} (ha : 0 ≤ a ∧ a ≤ topI (k, p, n)) : opM (k, p, n) a (if k = 4 then 0 else if k = 5 ∨ k = 6 then topI (k, p, n) else 1) = a := by
  rcases ring_cases hr with ⟨rfl, rfl, rfl⟩ | ⟨rfl, hp, rfl⟩ | ⟨rfl, hp, rfl⟩ | ⟨rfl, hp, rfl⟩ | ⟨rfl, hp, rfl⟩ | ⟨rfl, rfl, hn⟩ | ⟨rfl, hp, hn⟩ | ⟨rfl, hp, hp2, rfl⟩
  · have e : topI (1, 0, 0) = 1 := rfl
    have h1 : a = 0 ∨ a = 1 := by omega
    rcases h1 with rfl | rfl <;> decide
  · have e : topI (2, p, 0) = p - 1 := rfl
    have := isPrimeI_t hp
    show a * 1 % p = a
    rw [Int.mul_one, Int.emod_eq_of_lt (by omega) (by omega)]
  · have e : topI (3, p, 0) = p := rfl
    show min (a * 1) p = a
    omega
  · have e : topI (4, p, 0) = p := rfl
    show min (a + 0) p = a
    omega
  · have e : topI (5, p, 0) = p := rfl
    show min a p = a
    omega
  · have e : topI (6, 0, n) = 2 ^ n.toNat - 1 := rfl
    have e2 : (((2 : Nat) ^ n.toNat : Nat) : Int) = (2 : Int) ^ n.toNat := by push_cast; rfl
    show ((a.toNat &&& (2 ^ n.toNat - 1 : Int).toNat : Nat) : Int) = a
    rw [show (2 ^ n.toNat - 1 : Int).toNat = 2 ^ n.toNat - 1 by omega, Nat.and_two_pow_sub_one_eq_mod, Nat.mod_eq_of_lt (by omega)]
    omega
  · omega
  · omega

theorem mul_one {r : Int × Int × Int} {x : List Int} (hr : ringOk r = true) (hx : elOk r x = true) : mulE r x (oneE r) = x := by
  obtain ⟨k, p, n⟩ := r
  by_cases hk : k = 7 ∨ k = 8
  · have c := cf_of hr hk
    rw [cv_of hk, cvE_eq]
    simp only
    have hT : topI (k, p, n) = p - 1 := by
      simp only [topI]
      rw [if_neg (by omega), if_neg (by omega), if_neg (by omega)]
    refine (tab_congr fun t ht => ?_).trans (tab_fnL (el_len hx))
    rw [cS_congr (x' := fnL x) (y' := fun j => if j = 0 then 1 else 0) (fun _ _ => rfl) (fun i hi => fnL_one hk hi), cS_0 c _ _ ht, Int.mul_one]
    have := el_at hx ht
    rw [hT] at this
    exact Int.emod_eq_of_lt this.1 (by omega)
  · have hw := wid1 (r := (k, p, n)) hk
    obtain ⟨e, ha⟩ := el_one hx hw
    have e1 : oneE (k, p, n) = [if k = 4 then 0 else if k = 5 ∨ k = 6 then topI (k, p, n) else 1] := by simp only [oneE]; exact rep_set hw
    rw [e, e1, mulE_1 hk, opM_one hr hk ha]

/-! ### numbers as elements -/

/-! ### sums over sets of edges -/

end Go.Am
end
section
namespace Go.Am

/-! ### the sum by edges -/

theorem delE_go (k : Nat) : ∀ (l : List (Int × Int)) (i : Nat) (acc : List (Int × Int)), foldN (delStep (k : Int)) i acc l = acc ++ (if i ≤ k then l.eraseIdx (k - i) else l)
  | [], i, acc => by simp [foldN]
  | e :: l, i, acc => by
    rw [foldN, delE_go k l (i + 1)]
    by_cases h : i = k
    · subst h
      rw [delStep_t rfl, if_neg (by omega), if_pos (Nat.le_refl _), Nat.sub_self]
      rfl
    · rw [delStep_f (by omega)]
      by_cases h2 : i ≤ k
      · rw [if_pos (by omega), if_pos h2, show k - i = (k - (i + 1)) + 1 by omega]
        simp
      · rw [if_neg (by omega), if_neg h2]
        simp
theorem graphOk_mk {n : Int} {es : List (Int × Int)} (h1 : 0 ≤ n ∧ n ≤ 10) (h2 : es.length ≤ 10) (h3 : ∀ e ∈ es, (0 ≤ e.1 ∧ e.1 ≤ n - 1) ∧ (0 ≤ e.2 ∧ e.2 ≤ n - 1)) : graphOk n es = true := by
  simp only [graphOk, Bool.and_eq_true, decide_eq_true_eq, List.all_eq_true, edgeOk]
  exact ⟨⟨h1, h2⟩, h3⟩

theorem nodeF_in {x a b n : Int} (hx : 0 ≤ x ∧ x ≤ n - 1) (ha : 0 ≤ a) (hab : a < b) (hb : b ≤ n - 1) : 0 ≤ nodeF x a b ∧ nodeF x a b ≤ n - 1 - 1 := by
  unfold nodeF
  split
  · omega
  · split <;> omega

end Go.Am
end
section
namespace Go.Am

def ag_impl_ComponentCount : Sig := [(.agg, [.int .i64, .list [.int .i64, .int .i64]]), (.one, [.int .i64])]
def rs_impl_ComponentCount : Sig := [(.one, [.int .i64])]
def mu_impl_ComponentCount : MSig := []

def G_impl_ComponentCount (NN : Nat) : ((Int × (List (Int × Int))) × Int) → (Option Int) :=
 (fun (((i0, l1), i2) : ((Int × (List (Int × Int))) × Int)) =>
 (F_impl_GraphOk (i0, l1)).bnd (fun b3 =>
 cnd (notB b3)
 (some ((-1 : Int)))
 (cnd (ltI i2 (0 : Int))
 (some ((-1 : Int)))
 ((shlI .i64 (1 : Int) (natI (lenN l1))).bnd (fun i4 =>
 cnd (leI i4 i2)
 (some ((-1 : Int)))
 ((F_impl_rawComponentCount ((i0, l1), i2)).bnd (fun i5 =>
 some i5)))))))

def F_impl_ComponentCount : ((Int × (List (Int × Int))) × Int) → (Option Int) := G_impl_ComponentCount FUEL
theorem f_impl_ComponentCount (x : ((Int × (List (Int × Int))) × Int)) (z : Int) (h : F_impl_ComponentCount x = some z) : G_impl_ComponentCount FUEL x = some z := h

/-! ### components as classes -/

/-- An edge that the set s has. -/
def Sel (s : Nat) (es : List (Int × Int)) (e : Int × Int) : Prop := ∃ i : Nat, es[i]? = some e ∧ s.testBit i = true
/-- Two nodes that every labelling constant on some edges has alike. -/
def CnR (P : Int × Int → Prop) (x y : Int) : Prop := ∀ c : Int → Int, (∀ e, P e → c e.1 = c e.2) → c x = c y

structure LInv (m : Nat) (P : Int × Int → Prop) (l : List Int) : Prop where
  ll : l.length = m
  pin : ∀ e, P e → (0 ≤ e.1 ∧ e.1 < (m : Int)) ∧ (0 ≤ e.2 ∧ e.2 < (m : Int))
  same : ∀ i j : Nat, i < m → j < m → (l.getD i 0 = l.getD j 0 ↔ CnR P (i : Int) (j : Int))

theorem LInv.step {m : Nat} {P : Int × Int → Prop} {l : List Int} (h : LInv m P l) {u v : Nat} (hu : u < m) (hv : v < m) {s i : Nat} :
    LInv m (fun e => P e ∨ (e = ((u : Int), (v : Int)) ∧ s.testBit i = true)) (leastStep s i l ((u : Int), (v : Int))) := by
  obtain ⟨ll, pin, same⟩ := h
  cases hb : s.testBit i with
  | false =>
    have e1 : leastStep s i l ((u : Int), (v : Int)) = l := if_neg (by rw [hb]; decide)
    rw [e1]
    have e2 : (fun e => P e ∨ (e = ((u : Int), (v : Int)) ∧ false = true)) = P := by funext e; simp
    rw [e2]
    exact ⟨ll, pin, same⟩
  | true =>
    have el : leastStep s i l ((u : Int), (v : Int)) = relab (max (l.getD u 0) (l.getD v 0)) (min (l.getD u 0) (l.getD v 0)) l := if_pos hb
    have gl : ∀ j, j < m → (relab (max (l.getD u 0) (l.getD v 0)) (min (l.getD u 0) (l.getD v 0)) l).getD j 0 = if l.getD j 0 = max (l.getD u 0) (l.getD v 0) then min (l.getD u 0) (l.getD v 0) else l.getD j 0 := fun j hj => relab_getD (by omega)
    rw [el]
    have pin' : ∀ e, (P e ∨ (e = ((u : Int), (v : Int)) ∧ true = true)) → (0 ≤ e.1 ∧ e.1 < (m : Int)) ∧ (0 ≤ e.2 ∧ e.2 < (m : Int)) := by
      intro e he
      rcases he with he | ⟨rfl, _⟩
      · exact pin e he
      · exact ⟨⟨by omega, by omega⟩, by omega, by omega⟩
    refine ⟨by rw [relab_len]; exact ll, pin', ?_⟩
    intro x y hx hy
    rw [gl x hx, gl y hy, merge_eq]
    constructor
    · intro hh c hc
      have hc1 : ∀ e, P e → c e.1 = c e.2 := fun e he => hc e (.inl he)
      have huv : c u = c v := hc _ (.inr ⟨rfl, rfl⟩)
      rcases hh with hh | ⟨hh1, hh2⟩
      · exact (same x y hx hy).1 hh c hc1
      · have key : ∀ z : Nat, z < m → (l.getD z 0 = max (l.getD u 0) (l.getD v 0) ∨ l.getD z 0 = min (l.getD u 0) (l.getD v 0)) → c z = c u := by
          intro z hz hh
          have : l.getD z 0 = l.getD u 0 ∨ l.getD z 0 = l.getD v 0 := by omega
          rcases this with h | h
          · exact (same z u hz hu).1 h c hc1
          · rw [(same z v hz hv).1 h c hc1, huv]
        rw [key x hx hh1, key y hy hh2]
    · intro hh
      rw [← merge_eq]
      have := hh (fun z => (relab (max (l.getD u 0) (l.getD v 0)) (min (l.getD u 0) (l.getD v 0)) l).getD z.toNat 0) (by
        intro e he
        obtain ⟨⟨h1, h2⟩, h3, h4⟩ := pin' e he
        obtain ⟨e1, e2⟩ := e
        dsimp only at h1 h2 h3 h4 ⊢
        obtain ⟨e1, rfl⟩ := natI_eq h1
        obtain ⟨e2, rfl⟩ := natI_eq h3
        rw [Int.toNat_natCast, Int.toNat_natCast, gl _ (by omega), gl _ (by omega), merge_eq]
        rcases he with he | ⟨he, _⟩
        · exact .inl ((same e1 e2 (by omega) (by omega)).2 fun c hc => hc _ he)
        · injection he with he1 he2
          have he1 : e1 = u := by omega
          have he2 : e2 = v := by omega
          subst he1 he2
          exact .inr ⟨by omega, by omega⟩)
      rw [Int.toNat_natCast, Int.toNat_natCast, gl x hx, gl y hy] at this
      exact this

theorem LInv.fold {m s : Nat} : ∀ (es : List (Int × Int)) (i : Nat) {P : Int × Int → Prop} {l : List Int}, LInv m P l → (∀ e ∈ es, (0 ≤ e.1 ∧ e.1 ≤ (m : Int) - 1) ∧ (0 ≤ e.2 ∧ e.2 ≤ (m : Int) - 1)) →
    LInv m (fun e => P e ∨ ∃ j : Nat, es[j]? = some e ∧ s.testBit (i + j) = true) (foldN (leastStep s) i l es)
  | [], i, P, l, h, _ => by
    have : (fun e => P e ∨ ∃ j : Nat, ([] : List (Int × Int))[j]? = some e ∧ s.testBit (i + j) = true) = P := by funext e; simp
    rw [this]
    exact h
  | (u, v) :: es, i, P, l, h, he => by
    obtain ⟨⟨hu, hu'⟩, hv, hv'⟩ := he _ List.mem_cons_self
    obtain ⟨u, rfl⟩ := natI_eq hu
    obtain ⟨v, rfl⟩ := natI_eq hv
    simp only at hu' hv'
    have := LInv.fold (s := s) es (i + 1) (h.step (show u < m by omega) (show v < m by omega) (s := s) (i := i)) (fun e h => he e (List.mem_cons_of_mem _ h))
    have eq : (fun e => P e ∨ ∃ j : Nat, (((u : Int), (v : Int)) :: es)[j]? = some e ∧ s.testBit (i + j) = true) = (fun e => (P e ∨ (e = ((u : Int), (v : Int)) ∧ s.testBit i = true)) ∨ ∃ j : Nat, es[j]? = some e ∧ s.testBit (i + 1 + j) = true) := by
      funext e
      apply propext
      constructor
      · rintro (h | ⟨j, h1, h2⟩)
        · exact .inl (.inl h)
        · cases j with
          | zero => exact .inl (.inr ⟨by simpa using h1.symm, h2⟩)
          | succ j => exact .inr ⟨j, by simpa using h1, by rw [show i + 1 + j = i + (j + 1) by omega]; exact h2⟩
      · rintro ((h | ⟨h1, h2⟩) | ⟨j, h1, h2⟩)
        · exact .inl h
        · exact .inr ⟨0, by simp [h1], h2⟩
        · exact .inr ⟨j + 1, by simpa using h1, by rw [show i + (j + 1) = i + 1 + j by omega]; exact h2⟩
    rw [eq]
    exact this

theorem LInv.init (m : Nat) : LInv m (fun _ => False) (iotaI m) := by
  refine ⟨iotaI_len m, fun e h => h.elim, fun i j hi hj => ?_⟩
  rw [iotaI_getD hi, iotaI_getD hj]
  constructor
  · intro h c _; rw [h]
  · intro h; exact h (fun z => z) fun e he => he.elim

/-- What the labels say. -/
theorem leasts_ok {m : Nat} {es : List (Int × Int)} {s : Nat} (h : graphOk (m : Int) es = true) :
    (leasts (m : Int) es (s : Int)).length = m ∧ (∀ i j : Nat, i < m → j < m → ((leasts (m : Int) es (s : Int)).getD i 0 = (leasts (m : Int) es (s : Int)).getD j 0 ↔ CnR (Sel s es) (i : Int) (j : Int))) ∧
      ∀ i : Nat, i < m → 0 ≤ (leasts (m : Int) es (s : Int)).getD i 0 ∧ (leasts (m : Int) es (s : Int)).getD i 0 ≤ (i : Int) ∧ (leasts (m : Int) es (s : Int)).getD ((leasts (m : Int) es (s : Int)).getD i 0).toNat 0 = (leasts (m : Int) es (s : Int)).getD i 0 := by
  obtain ⟨⟨hn0, hn⟩, hl, he⟩ := graphOk_t h
  have h1 := PInv.fold (s := s) es 0 (st := ((m : Int), iotaI m)) (PInv.init m) he
  have h2 := LInv.fold (s := s) es 0 (LInv.init m) he
  have e : leasts (m : Int) es (s : Int) = foldN (leastStep s) 0 (iotaI m) es := by unfold leasts; rw [Int.toNat_natCast, Int.toNat_natCast]
  rw [e]
  refine ⟨h1.ll, fun i j hi hj => ?_, h1.low⟩
  rw [h2.same i j hi hj]
  have : (fun e => False ∨ ∃ j : Nat, es[j]? = some e ∧ s.testBit (0 + j) = true) = Sel s es := by
    funext e
    apply propext
    simp only [Sel, false_or, Nat.zero_add]
  rw [this]

/-- A node is its own label iff it is the least of its class. -/
theorem least_iff {m : Nat} {es : List (Int × Int)} {s : Nat} (h : graphOk (m : Int) es = true) {i : Nat} (hi : i < m) :
    (leasts (m : Int) es (s : Int)).getD i 0 = (i : Int) ↔ ∀ j, j < i → ¬ CnR (Sel s es) (i : Int) (j : Int) := by
  obtain ⟨_, hs, hl⟩ := leasts_ok (s := s) h
  constructor
  · intro h1 j hj hc
    have := (hs i j hi (by omega)).2 hc
    have := (hl j (by omega)).2.1
    omega
  · intro h1
    obtain ⟨a, b, c⟩ := hl i hi
    obtain ⟨t, ht⟩ := natI_eq a
    rw [ht] at b c ⊢
    rw [Int.toNat_natCast] at c
    by_cases hti : t = i
    · rw [hti]
    · exact absurd ((hs i t hi (by omega)).1 (by rw [ht, c])) (h1 t (by omega))

/-! ### the counts -/

theorem fixes_congr {m : Nat} {es es' : List (Int × Int)} {s s' : Nat} (h : graphOk (m : Int) es = true) (h' : graphOk (m : Int) es' = true) (hc : ∀ x y : Int, CnR (Sel s es) x y ↔ CnR (Sel s' es') x y) :
    fixes (leasts (m : Int) es (s : Int)) = fixes (leasts (m : Int) es' (s' : Int)) := by
  unfold fixes
  rw [(leasts_ok (s := s) h).1, (leasts_ok (s := s') h').1]
  congr 1
  refine List.countP_congr fun i hi => ?_
  have hi := List.mem_range.1 hi
  simp only [beq_iff_eq]
  rw [least_iff h hi, least_iff h' hi]
  constructor
  · intro hh j hj hcc; exact hh j hj ((hc _ _).2 hcc)
  · intro hh j hj hcc; exact hh j hj ((hc _ _).1 hcc)

theorem countP_skip (P : Nat → Bool) (b : Nat) : ∀ n, b ≤ n → P b = false → (List.range (n + 1)).countP P = (List.range n).countP (fun y => P (if y < b then y else y + 1))
  | n, hb, hP => by
    by_cases h : b = n
    · subst h
      rw [countP_succ, hP]
      simp only [Bool.false_eq_true, if_false, Nat.add_zero]
      exact List.countP_congr fun i hi => by rw [if_pos (List.mem_range.1 hi)]
    · obtain ⟨n, rfl⟩ : ∃ k, n = k + 1 := ⟨n - 1, by omega⟩
      rw [countP_succ P (n + 1), countP_skip P b n (by omega) hP, countP_succ (fun y => P (if y < b then y else y + 1)) n, if_neg (show ¬ n < b by omega)]

/-- A contracted edge keeps the count of the sets that have it. -/
theorem fixes_contract {m : Nat} {es es' : List (Int × Int)} {s s' a b : Nat} (hab : a < b) (hb : b ≤ m) (h : graphOk ((m + 1 : Nat) : Int) es = true) (h' : graphOk (m : Int) es' = true)
    (h1 : ∀ e, Sel s' es' e ↔ ∃ f, Sel s es f ∧ e = moveE (a : Int) (b : Int) f) (h2 : CnR (Sel s es) (a : Int) (b : Int)) :
    fixes (leasts ((m + 1 : Nat) : Int) es (s : Int)) = fixes (leasts (m : Int) es' (s' : Int)) := by
  let g : Int → Int := fun y => if y < (b : Int) then y else y + 1
  have gf : ∀ x : Int, g (nodeF x a b) = if x = (b : Int) then (a : Int) else x := by
    intro x
    show (if nodeF x a b < (b : Int) then nodeF x a b else nodeF x a b + 1) = _
    unfold nodeF
    by_cases hx : x = (b : Int)
    · rw [if_pos hx, if_pos hx, if_pos (by omega)]
    · rw [if_neg hx, if_neg hx]
      by_cases hx2 : (b : Int) < x
      · rw [if_pos hx2, if_neg (by omega)]; omega
      · rw [if_neg hx2, if_pos (by omega)]
  have fg : ∀ y : Int, nodeF (g y) a b = y := by
    intro y
    show nodeF (if y < (b : Int) then y else y + 1) a b = y
    unfold nodeF
    by_cases hy : y < (b : Int)
    · rw [if_pos hy, if_neg (by omega), if_neg (by omega)]
    · rw [if_neg hy, if_neg (by omega), if_pos (by omega)]; omega
  have key : ∀ x y : Int, CnR (Sel s' es') (nodeF x a b) (nodeF y a b) ↔ CnR (Sel s es) x y := by
    intro x y
    constructor
    · intro hh c hc
      have hcab : c a = c b := h2 c hc
      have ce : ∀ z : Int, c (g (nodeF z a b)) = c z := by
        intro z
        rw [gf]
        by_cases hz : z = (b : Int)
        · rw [if_pos hz, hcab, hz]
        · rw [if_neg hz]
      have := hh (fun z => c (g z)) (by
        intro e he
        obtain ⟨f, hf, rfl⟩ := (h1 e).1 he
        show c (g (nodeF f.1 a b)) = c (g (nodeF f.2 a b))
        rw [ce, ce]
        exact hc f hf)
      rw [ce, ce] at this
      exact this
    · intro hh c hc
      exact hh (fun z => c (nodeF z a b)) fun f hf => hc _ ((h1 _).2 ⟨f, hf, rfl⟩)
  unfold fixes
  rw [(leasts_ok (s := s) h).1, (leasts_ok (s := s') h').1]
  rw [countP_skip _ b m hb (by
    rw [beq_eq_false_iff_ne]
    intro hh
    exact (least_iff h (show b < m + 1 by omega)).1 hh a hab fun c hc => (h2 c hc).symm)]
  congr 1
  refine List.countP_congr fun y hy => ?_
  have hy := List.mem_range.1 hy
  simp only [beq_iff_eq]
  have hgy : (((if y < b then y else y + 1 : Nat)) : Int) = g (y : Int) := by
    show _ = if (y : Int) < (b : Int) then (y : Int) else (y : Int) + 1
    split <;> split <;> omega
  have hne : g (y : Int) ≠ (b : Int) := by
    show (if (y : Int) < (b : Int) then (y : Int) else (y : Int) + 1) ≠ _
    split <;> omega
  rw [least_iff h (show (if y < b then y else y + 1) < m + 1 by split <;> omega), least_iff h' hy]
  constructor
  · intro hh j hj hc
    refine hh (if j < b then j else j + 1) (by split <;> split <;> omega) ?_
    rw [hgy, show (((if j < b then j else j + 1 : Nat)) : Int) = g (j : Int) by show _ = if (j : Int) < (b : Int) then (j : Int) else (j : Int) + 1; split <;> split <;> omega]
    rw [← key, fg, fg]
    exact hc
  · intro hh j hj hc
    rw [hgy] at hc
    have hc' := (key _ _).2 hc
    rw [fg] at hc'
    by_cases hjb : j = b
    · subst hjb
      have e : nodeF (j : Int) a j = (a : Int) := by unfold nodeF; rw [if_pos rfl]
      rw [e] at hc'
      refine hh a ?_ hc'
      split at hj <;> omega
    · have e : nodeF (j : Int) a b = ((if b < j then j - 1 else j : Nat) : Int) := by
        unfold nodeF
        rw [if_neg (by omega)]
        split <;> split <;> omega
      rw [e] at hc'
      refine hh _ ?_ hc'
      split at hj <;> split <;> omega

/-! ### sets of edges without one, and with one -/

theorem bits_gap {k t q r i : Nat} (hr : r < 2 ^ k) (ht : t < 2) : (2 ^ k * (2 * q + t) + r).testBit i = if i < k then r.testBit i else if i = k then decide (t = 1) else q.testBit (i - k - 1) := by
  rw [Nat.testBit_two_pow_mul_add _ hr]
  by_cases h : i < k
  · rw [if_pos h, if_pos h]
  · rw [if_neg h, if_neg h]
    by_cases hk : i = k
    · rw [if_pos hk, hk, Nat.sub_self, Nat.testBit_zero]
      rw [show (2 * q + t) % 2 = t by omega]
    · rw [if_neg hk]
      obtain ⟨j, hj⟩ : ∃ j, i - k = j + 1 := ⟨i - k - 1, by omega⟩
      rw [hj, Nat.testBit_succ, show (2 * q + t) / 2 = q by omega]
      rfl
theorem bits_split {k s i : Nat} : s.testBit i = if i < k then (s % 2 ^ k).testBit i else (s / 2 ^ k).testBit (i - k) := by
  have h := Nat.testBit_two_pow_mul_add (s / 2 ^ k) (Nat.mod_lt s (Nat.two_pow_pos k)) i
  rw [Nat.div_add_mod] at h
  exact h
theorem erase_get {l : List (Int × Int)} {k i : Nat} : (l.eraseIdx k)[i]? = if i < k then l[i]? else l[i + 1]? := List.getElem?_eraseIdx
theorem sel_gap {l : List (Int × Int)} {k s t : Nat} (ht : t < 2) (e : Int × Int) :
    Sel (2 ^ k * (2 * (s / 2 ^ k) + t) + s % 2 ^ k) l e ↔ Sel s (l.eraseIdx k) e ∨ (t = 1 ∧ l[k]? = some e) := by
  have hr := Nat.mod_lt s (Nat.two_pow_pos k)
  constructor
  · rintro ⟨i, h1, h2⟩
    rw [bits_gap hr ht] at h2
    by_cases h : i < k
    · rw [if_pos h] at h2
      exact .inl ⟨i, by rw [erase_get, if_pos h]; exact h1, by rw [bits_split (k := k), if_pos h]; exact h2⟩
    · rw [if_neg h] at h2
      by_cases hk : i = k
      · rw [if_pos hk] at h2
        exact .inr ⟨of_decide_eq_true h2, by rw [← hk]; exact h1⟩
      · rw [if_neg hk] at h2
        refine .inl ⟨i - 1, ?_, ?_⟩
        · rw [erase_get, if_neg (by omega), show i - 1 + 1 = i by omega]; exact h1
        · rw [bits_split (k := k), if_neg (by omega), show i - 1 - k = i - k - 1 by omega]; exact h2
  · rintro (⟨i, h1, h2⟩ | ⟨h1, h2⟩)
    · rw [erase_get] at h1
      rw [bits_split (k := k)] at h2
      by_cases h : i < k
      · rw [if_pos h] at h1 h2
        exact ⟨i, h1, by rw [bits_gap hr ht, if_pos h]; exact h2⟩
      · rw [if_neg h] at h1 h2
        exact ⟨i + 1, h1, by rw [bits_gap hr ht, if_neg (by omega), if_neg (by omega), show i + 1 - k - 1 = i - k by omega]; exact h2⟩
    · exact ⟨k, h2, by rw [bits_gap hr ht, if_neg (by omega), if_pos rfl]; exact decide_eq_true h1⟩
theorem sel_map {l : List (Int × Int)} {s : Nat} {f : Int × Int → Int × Int} (e : Int × Int) : Sel s (l.map f) e ↔ ∃ d, Sel s l d ∧ e = f d := by
  constructor
  · rintro ⟨i, h1, h2⟩
    rw [List.getElem?_map] at h1
    cases hd : l[i]? with
    | none => rw [hd] at h1; cases h1
    | some d => rw [hd] at h1; injection h1 with h1; exact ⟨d, ⟨i, hd, h2⟩, h1.symm⟩
  · rintro ⟨d, ⟨i, h1, h2⟩, rfl⟩
    exact ⟨i, by rw [List.getElem?_map, h1]; rfl, h2⟩
theorem CnR_congr {P Q : Int × Int → Prop} (h : ∀ e, P e ↔ Q e) (x y : Int) : CnR P x y ↔ CnR Q x y := by
  have : P = Q := funext fun e => propext (h e)
  rw [this]
theorem delE_erase (k : Nat) (l : List (Int × Int)) : delE (k : Int) l = l.eraseIdx k := by
  unfold delE
  rw [delE_go, if_pos (Nat.zero_le _), Nat.sub_zero]
  rfl
theorem erase_ok {n : Int} {l : List (Int × Int)} {k : Nat} (h : graphOk n l = true) : graphOk n (l.eraseIdx k) = true := by
  obtain ⟨h1, h2, h3⟩ := graphOk_t h
  exact graphOk_mk h1 (Nat.le_trans (List.length_eraseIdx_le l k) h2) fun e he => h3 e (List.mem_of_mem_eraseIdx he)
/-- The set s without edge k. -/
theorem count_del {m : Nat} {l : List (Int × Int)} {k s : Nat} (h : graphOk (m : Int) l = true) :
    fixes (leasts (m : Int) (l.eraseIdx k) (s : Int)) = fixes (leasts (m : Int) l ((2 ^ k * (2 * (s / 2 ^ k) + 0) + s % 2 ^ k : Nat) : Int)) :=
  fixes_congr (erase_ok h) h fun x y => CnR_congr (fun e => by rw [sel_gap (by decide)]; simp) x y
/-- The set s with edge k, a loop. -/
theorem count_loop {m : Nat} {l : List (Int × Int)} {k s : Nat} {a : Int} (h : graphOk (m : Int) l = true) (hk : l[k]? = some (a, a)) :
    fixes (leasts (m : Int) (l.eraseIdx k) (s : Int)) = fixes (leasts (m : Int) l ((2 ^ k * (2 * (s / 2 ^ k) + 1) + s % 2 ^ k : Nat) : Int)) := by
  refine fixes_congr (erase_ok h) h fun x y => ?_
  constructor
  · intro hh c hc
    exact hh c fun e he => hc e ((sel_gap (by decide) e).2 (.inl he))
  · intro hh c hc
    refine hh c fun e he => ?_
    rcases (sel_gap (by decide) e).1 he with h1 | ⟨_, h2⟩
    · exact hc e h1
    · rw [hk] at h2
      injection h2 with h2
      subst h2
      rfl
/-- The set s with edge k, contracted. -/
theorem count_cont {m : Nat} {l : List (Int × Int)} {k s a b : Nat} {e : Int × Int} (hab : a < b) (hb : b ≤ m) (h : graphOk ((m + 1 : Nat) : Int) l = true) (hk : l[k]? = some e) (he : (a : Int) = min e.1 e.2 ∧ (b : Int) = max e.1 e.2)
    (h' : graphOk (m : Int) ((l.eraseIdx k).map (moveE (a : Int) (b : Int))) = true) :
    fixes (leasts (m : Int) ((l.eraseIdx k).map (moveE (a : Int) (b : Int))) (s : Int)) = fixes (leasts ((m + 1 : Nat) : Int) l ((2 ^ k * (2 * (s / 2 ^ k) + 1) + s % 2 ^ k : Nat) : Int)) := by
  have hse : Sel (2 ^ k * (2 * (s / 2 ^ k) + 1) + s % 2 ^ k) l e := (sel_gap (by decide) e).2 (.inr ⟨rfl, hk⟩)
  have hcn : CnR (Sel (2 ^ k * (2 * (s / 2 ^ k) + 1) + s % 2 ^ k) l) (a : Int) (b : Int) := by
    intro c hc
    have := hc e hse
    rcases Int.le_total e.1 e.2 with h | h
    · rw [show (a : Int) = e.1 by omega, show (b : Int) = e.2 by omega]; exact this
    · rw [show (a : Int) = e.2 by omega, show (b : Int) = e.1 by omega]; exact this.symm
  have hm : ((l.eraseIdx k).map (moveE (a : Int) (b : Int))) = (l.eraseIdx k).map (moveE (a : Int) (b : Int)) := rfl
  -- the edge itself is moved to a loop: it changes nothing
  have hmv : moveE (a : Int) (b : Int) e = ((a : Int), (a : Int)) := by
    unfold moveE nodeF
    rcases Int.lt_or_le e.1 e.2 with h | h
    · rw [if_neg (by omega), if_neg (by omega), if_pos (by omega), show e.1 = (a : Int) by omega]
    · rw [if_pos (by omega), if_neg (by omega), if_neg (by omega), show e.2 = (a : Int) by omega]
  symm
  have h2 : graphOk (m : Int) (l.map (moveE (a : Int) (b : Int))) = true := by
    obtain ⟨g1, g2, g3⟩ := graphOk_t h'
    obtain ⟨_, g4, _⟩ := graphOk_t h
    refine graphOk_mk g1 (by rw [List.length_map]; exact g4) fun d hd => ?_
    obtain ⟨f, hf, rfl⟩ := List.mem_map.1 hd
    obtain ⟨i, hi⟩ := List.getElem?_of_mem hf
    by_cases hik : i = k
    · rw [hik, hk] at hi
      injection hi with hi
      rw [← hi, hmv]
      exact ⟨⟨by omega, by dsimp only; omega⟩, by omega, by dsimp only; omega⟩
    · refine g3 _ (List.mem_map_of_mem ?_)
      refine List.mem_of_getElem? (i := if i < k then i else i - 1) ?_
      rw [erase_get]
      by_cases h : i < k
      · rw [if_pos h, if_pos h]; exact hi
      · rw [if_neg h, if_neg (by omega), show i - 1 + 1 = i by omega]; exact hi
  rw [fixes_contract (es' := l.map (moveE (a : Int) (b : Int))) hab hb h h2 (fun d => sel_map d) hcn]
  refine fixes_congr h2 h' fun x y => ?_
  constructor
  · intro hh c hc
    refine hh c fun d hd => ?_
    obtain ⟨f, hf, rfl⟩ := (sel_map d).1 hd
    rcases (sel_gap (by decide) f).1 hf with h1 | ⟨_, h2⟩
    · exact hc _ ((sel_map _).2 ⟨f, h1, rfl⟩)
    · rw [hk] at h2
      injection h2 with h2
      rw [← h2, hmv]
  · intro hh c hc
    refine hh c fun d hd => ?_
    obtain ⟨f, hf, rfl⟩ := (sel_map d).1 hd
    exact hc _ ((sel_map _).2 ⟨f, (sel_gap (by decide) f).2 (.inl hf), rfl⟩)
end Go.Am
end
