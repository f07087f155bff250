/- M34, M38, M40: parts of the proof. No condition. -/
import Derived.Test.YtdbokcfhhdkhiaaM32
set_option linter.unusedVariables false
set_option linter.unusedSimpArgs false
section
namespace Go.Am

/-! ### the laws of rings -/


def cS (om : Bool) (w : Nat) (x y : Nat → Int) (t : Nat) : Int := sm w (fun i => sm w (fun j => kW om x y t i j))
def pc (x y : Nat → Int) (t : Nat) : Int := sm (t + 1) (fun i => x i * y (t - i))

theorem sm_zero : ∀ (n : Nat) {f : Nat → Int}, (∀ i, i < n → f i = 0) → sm n f = 0
  | 0, _, _ => rfl
  | n + 1, f, h => by simp only [sm]; rw [sm_zero n (fun i hi => h i (by omega)), h n (by omega)]; rfl
theorem sm_at {a : Nat} {f : Nat → Int} : ∀ (n : Nat), a < n → (∀ i, i < n → i ≠ a → f i = 0) → sm n f = f a
  | 0, h, _ => by omega
  | n + 1, h, hf => by
    simp only [sm]
    by_cases e : a = n
    · subst e
      rw [sm_zero a (fun i hi => hf i (by omega) (by omega))]; omega
    · rw [sm_at n (by omega) (fun i hi hne => hf i (by omega) hne), hf n (by omega) (by omega)]; omega
theorem sm_cut {m : Nat} {f : Nat → Int} : ∀ (n : Nat), m ≤ n → (∀ i, i < n → m ≤ i → f i = 0) → sm n f = sm m f
  | 0, h, _ => by rw [show m = 0 by omega]
  | n + 1, h, hf => by
    by_cases e : m = n + 1
    · rw [e]
    · simp only [sm]
      rw [sm_cut n (by omega) (fun i hi hm => hf i (by omega) hm), hf n (by omega) (by omega)]; omega
theorem sm_mod {p : Int} {f g : Nat → Int} : ∀ {n : Nat}, (∀ i, i < n → f i % p = g i % p) → sm n f % p = sm n g % p
  | 0, _ => rfl
  | n + 1, h => by simp only [sm]; rw [Int.add_emod, sm_mod (n := n) (fun i hi => h i (by omega)), h n (by omega), ← Int.add_emod]

theorem cS_pc {w t : Nat} (x y : Nat → Int) (h : t < w) : cS false w x y t = pc x y t := by
  have hin : ∀ i, i < w → sm w (fun j => kW false x y t i j) = if i ≤ t then x i * y (t - i) else 0 := by
    intro i hi
    split
    · rename_i hit
      rw [sm_at (a := t - i) w (by omega) (fun j hj hne => by unfold kW; rw [if_neg (by omega), if_neg (by simp)])]
      unfold kW
      rw [if_pos (by omega)]
    · exact sm_zero w fun j hj => by unfold kW; rw [if_neg (by omega), if_neg (by simp)]
  unfold cS pc
  rw [sm_congr hin, sm_cut (m := t + 1) w (by omega) (fun i hi hm => if_neg (by omega))]
  exact sm_congr fun i hi => if_pos (by omega)

theorem neg_mod {p a b : Int} (hab : a % p = b % p) : (-a) % p = (-b) % p := by
  have : (0 - a) % p = (0 - b) % p := by rw [Int.sub_emod, hab, ← Int.sub_emod]
  simpa using this
theorem cS_mod {om : Bool} {w t : Nat} {p : Int} {x x' y y' : Nat → Int} (hx : ∀ i, i < w → x i % p = x' i % p) (hy : ∀ i, i < w → y i % p = y' i % p) : cS om w x y t % p = cS om w x' y' t % p := by
  refine sm_mod fun i hi => sm_mod fun j hj => ?_
  have hm : (x i * y j) % p = (x' i * y' j) % p := by rw [Int.mul_emod, hx i hi, hy j hj, ← Int.mul_emod]
  unfold kW
  split
  · exact hm
  · split
    · exact neg_mod hm
    · rfl
theorem cS_congr {om : Bool} {w t : Nat} {x x' y y' : Nat → Int} (hx : ∀ i, i < w → x i = x' i) (hy : ∀ i, i < w → y i = y' i) : cS om w x y t = cS om w x' y' t :=
  sm_congr fun i hi => sm_congr fun j hj => by unfold kW; rw [hx i hi, hy j hj]

theorem pc_assoc (x y z : Nat → Int) {t : Nat} (h : t < 6) : pc (pc x y) z t = pc x (pc y z) t := by
  match t, h with
  | 0, _ => simp only [pc, sm, Nat.reduceSub, Nat.reduceAdd, Nat.zero_add]; try grind
  | 1, _ => simp only [pc, sm, Nat.reduceSub, Nat.reduceAdd, Nat.zero_add]; try grind
  | 2, _ => simp only [pc, sm, Nat.reduceSub, Nat.reduceAdd, Nat.zero_add]; try grind
  | 3, _ => simp only [pc, sm, Nat.reduceSub, Nat.reduceAdd, Nat.zero_add]; try grind
  | 4, _ => simp only [pc, sm, Nat.reduceSub, Nat.reduceAdd, Nat.zero_add]; try grind
  | 5, _ => simp only [pc, sm, Nat.reduceSub, Nat.reduceAdd, Nat.zero_add]; try grind

theorem co_0 (x y : Nat → Int) : cS true 4 x y 0 = x 0 * y 0 - x 1 * y 3 - x 2 * y 2 - x 3 * y 1 := by simp [cS, sm, kW]; grind
theorem co_1 (x y : Nat → Int) : cS true 4 x y 1 = x 0 * y 1 + x 1 * y 0 - x 2 * y 3 - x 3 * y 2 := by simp [cS, sm, kW]; grind
theorem co_2 (x y : Nat → Int) : cS true 4 x y 2 = x 0 * y 2 + x 1 * y 1 + x 2 * y 0 - x 3 * y 3 := by simp [cS, sm, kW]; grind
theorem co_3 (x y : Nat → Int) : cS true 4 x y 3 = x 0 * y 3 + x 1 * y 2 + x 2 * y 1 + x 3 * y 0 := by simp [cS, sm, kW]
theorem co_assoc (x y z : Nat → Int) {t : Nat} (h : t < 4) : cS true 4 (cS true 4 x y) z t = cS true 4 x (cS true 4 y z) t := by
  match t, h with
  | 0, _ => rw [co_0, co_0]; simp only [co_0, co_1, co_2, co_3]; grind
  | 1, _ => rw [co_1, co_1]; simp only [co_0, co_1, co_2, co_3]; grind
  | 2, _ => rw [co_2, co_2]; simp only [co_0, co_1, co_2, co_3]; grind
  | 3, _ => rw [co_3, co_3]; simp only [co_0, co_1, co_2, co_3]; grind

theorem cS_assoc {k p : Int} {w : Nat} (c : CfR k p w) (x y z : Nat → Int) {t : Nat} (h : t < w) : cS (decide (k = 8)) w (cS (decide (k = 8)) w x y) z t = cS (decide (k = 8)) w x (cS (decide (k = 8)) w y z) t := by
  by_cases h8 : k = 8
  · obtain rfl := c.w8 h8
    rw [decide_eq_true h8]
    exact co_assoc x y z h
  · rw [decide_eq_false h8]
    have h6 := c.cw
    rw [cS_congr (x' := pc x y) (y' := z) (fun i hi => cS_pc x y hi) (fun _ _ => rfl), cS_pc _ _ h, cS_congr (x' := x) (y' := pc y z) (fun _ _ => rfl) (fun i hi => cS_pc y z hi), cS_pc _ _ h]
    exact pc_assoc x y z (by omega)

theorem cvE_eq (p : Int) (om : Bool) (w : Nat) (x y : Nat → Int) : cvE p om w x y = tab w fun t => cS om w x y t % p := rfl
theorem cv_of {r : Int × Int × Int} (h : r.1 = 7 ∨ r.1 = 8) (x y : List Int) : mulE r x y = cvE r.2.1 (decide (r.1 = 8)) (widN r) (fnL x) (fnL y) := if_pos h

theorem min_mul {a b c p : Int} (hp : 0 ≤ p) (ha : 0 ≤ a) (hb : 0 ≤ b) (hc : 0 ≤ c) : min (min (a * b) p * c) p = min (a * b * c) p := by
  generalize hm : a * b = m
  by_cases h : m ≤ p
  · rw [show min m p = m by omega]
  · rw [show min m p = p by omega]
    by_cases h0 : c = 0
    · subst h0; simp
    · have h1 : p * 1 ≤ p * c := Int.mul_le_mul_of_nonneg_left (by omega) hp
      have h2 : p * c ≤ m * c := Int.mul_le_mul_of_nonneg_right (by omega) hc
      omega

theorem wid1 {r : Int × Int × Int} (hk : ¬ (r.1 = 7 ∨ r.1 = 8)) : widN r = 1 := by
  obtain ⟨k, p, n⟩ := r
  simp only at hk
  simp only [widN, widI]
  rw [if_neg (by omega), if_neg (by omega)]
  rfl

theorem opM_assoc {r : Int × Int × Int} (hr : ringOk r = true) (hk : ¬ (r.1 = 7 ∨ r.1 = 8)) {a b c : Int} (ha : 0 ≤ a ∧ a ≤ topI r) (hb : 0 ≤ b ∧ b ≤ topI r) (hc : 0 ≤ c ∧ c ≤ topI r) : opM r (opM r a b) c = opM r a (opM r b c) := by
  obtain ⟨k, p, n⟩ := r
  simp only at hk
  rcases ring_cases hr with ⟨rfl, rfl, rfl⟩ | ⟨rfl, hp, rfl⟩ | ⟨rfl, hp, rfl⟩ | ⟨rfl, hp, rfl⟩ | ⟨rfl, hp, rfl⟩ | ⟨rfl, rfl, hn⟩ | ⟨rfl, hp, hn⟩ | ⟨rfl, hp, hp2, rfl⟩
  · have o : ∀ u v, opM (1, 0, 0) u v = ((u.toNat &&& v.toNat : Nat) : Int) := fun _ _ => rfl
    rw [o, o, o, o, Int.toNat_natCast, Int.toNat_natCast, Nat.and_assoc]
  · have o : ∀ u v, opM (2, p, 0) u v = u * v % p := fun _ _ => rfl
    rw [o, o, o, o, Int.mul_emod, Int.emod_emod, ← Int.mul_emod, Int.mul_emod a, Int.emod_emod, ← Int.mul_emod, Int.mul_assoc]
  · have o : ∀ u v, opM (3, p, 0) u v = min (u * v) p := fun _ _ => rfl
    rw [o, o, o, o, min_mul (by omega) ha.1 hb.1 hc.1, Int.mul_comm a (min _ _), min_mul (by omega) hb.1 hc.1 ha.1, Int.mul_assoc a b c, Int.mul_comm a]
  · have o : ∀ u v, opM (4, p, 0) u v = min (u + v) p := fun _ _ => rfl
    rw [o, o, o, o]; omega
  · have o : ∀ u v, opM (5, p, 0) u v = min u v := fun _ _ => rfl
    rw [o, o, o, o]; omega
  · have o : ∀ u v, opM (6, 0, n) u v = ((u.toNat &&& v.toNat : Nat) : Int) := fun _ _ => rfl
    rw [o, o, o, o, Int.toNat_natCast, Int.toNat_natCast, Nat.and_assoc]
  · omega
  · omega

theorem mul_assoc {r : Int × Int × Int} {x y z : List Int} (hr : ringOk r = true) (hx : elOk r x = true) (hy : elOk r y = true) (hz : elOk r z = true) : mulE r (mulE r x y) z = mulE r x (mulE r y z) := by
  by_cases hk : r.1 = 7 ∨ r.1 = 8
  · obtain ⟨k, p, n⟩ := r
    have c := cf_of hr hk
    rw [cv_of hk, cv_of hk, cv_of hk, cv_of hk]
    simp only
    refine tab_congr fun t ht => ?_
    show cS (decide (k = 8)) (widN (k, p, n)) (fnL (cvE p (decide (k = 8)) (widN (k, p, n)) (fnL x) (fnL y))) (fnL z) t % p = cS (decide (k = 8)) (widN (k, p, n)) (fnL x) (fnL (cvE p (decide (k = 8)) (widN (k, p, n)) (fnL y) (fnL z))) t % p
    have e1 : cS (decide (k = 8)) (widN (k, p, n)) (fnL (cvE p (decide (k = 8)) (widN (k, p, n)) (fnL x) (fnL y))) (fnL z) t % p = cS (decide (k = 8)) (widN (k, p, n)) (cS (decide (k = 8)) (widN (k, p, n)) (fnL x) (fnL y)) (fnL z) t % p :=
      cS_mod (fun i hi => by rw [cvE_eq, fnL_tab _ hi, Int.emod_emod]) (fun _ _ => rfl)
    have e2 : cS (decide (k = 8)) (widN (k, p, n)) (fnL x) (fnL (cvE p (decide (k = 8)) (widN (k, p, n)) (fnL y) (fnL z))) t % p = cS (decide (k = 8)) (widN (k, p, n)) (fnL x) (cS (decide (k = 8)) (widN (k, p, n)) (fnL y) (fnL z)) t % p :=
      cS_mod (fun _ _ => rfl) (fun i hi => by rw [cvE_eq, fnL_tab _ hi, Int.emod_emod])
    rw [e1, e2, cS_assoc c _ _ _ ht]
  · have hw := wid1 hk
    obtain ⟨a, b, rfl, rfl, ha, hb⟩ := el_two hx hy hw
    obtain ⟨_, c, e, rfl, _, hc⟩ := el_two hx hz hw
    rw [mulE_1 hk, mulE_1 hk, mulE_1 hk, mulE_1 hk, opM_assoc hr hk ha hb hc]

theorem fnL_one {k p n : Int} (hk : k = 7 ∨ k = 8) {j : Nat} (hj : j < widN (k, p, n)) : fnL (oneE (k, p, n)) j = if j = 0 then 1 else 0 := by
  rw [oneE_tab, fnL_tab _ hj, if_neg (show ¬ k = 4 by omega), if_neg (show ¬ (k = 5 ∨ k = 6) by omega)]

theorem cS_0 {k p : Int} {w : Nat} (c : CfR k p w) (u : Nat → Int) (v : Int) {t : Nat} (h : t < w) : cS (decide (k = 8)) w u (fun j => if j = 0 then v else 0) t = u t * v := by
  by_cases h8 : k = 8
  · obtain rfl := c.w8 h8
    rw [decide_eq_true h8]
    match t, h with
    | 0, _ => rw [co_0]; simp
    | 1, _ => rw [co_1]; simp
    | 2, _ => rw [co_2]; simp
    | 3, _ => rw [co_3]; simp
  · rw [decide_eq_false h8, cS_pc _ _ h]
    unfold pc
    rw [sm_at (a := t) (t + 1) (by omega) (fun i hi hne => by simp only; rw [if_neg (by omega), Int.mul_zero])]
    simp only
    rw [if_pos (by omega)]

theorem opM_one {k p n : Int} (hr : ringOk (k, p, n) = true) (hk : ¬ (k = 7 ∨ k = 8)) {a : Int} (ha : 0 ≤ a ∧ a ≤ topI (k, p, n)) : opM (k, p, n) a (if k = 4 then 0 else if k = 5 ∨ k = 6 then topI (k, p, n) else 1) = a := by
  rcases ring_cases hr with ⟨rfl, rfl, rfl⟩ | ⟨rfl, hp, rfl⟩ | ⟨rfl, hp, rfl⟩ | ⟨rfl, hp, rfl⟩ | ⟨rfl, hp, rfl⟩ | ⟨rfl, rfl, hn⟩ | ⟨rfl, hp, hn⟩ | ⟨rfl, hp, hp2, rfl⟩
  · have e : topI (1, 0, 0) = 1 := rfl
    have h1 : a = 0 ∨ a = 1 := by omega
    rcases h1 with rfl | rfl <;> decide
  · have e : topI (2, p, 0) = p - 1 := rfl
    have := isPrimeI_t hp
    show a * 1 % p = a
    rw [Int.mul_one, Int.emod_eq_of_lt (by omega) (by omega)]
  · have e : topI (3, p, 0) = p := rfl
    show min (a * 1) p = a
    omega
  · have e : topI (4, p, 0) = p := rfl
    show min (a + 0) p = a
    omega
  · have e : topI (5, p, 0) = p := rfl
    show min a p = a
    omega
  · have e : topI (6, 0, n) = 2 ^ n.toNat - 1 := rfl
    have e2 : (((2 : Nat) ^ n.toNat : Nat) : Int) = (2 : Int) ^ n.toNat := by push_cast; rfl
    show ((a.toNat &&& (2 ^ n.toNat - 1 : Int).toNat : Nat) : Int) = a
    rw [show (2 ^ n.toNat - 1 : Int).toNat = 2 ^ n.toNat - 1 by omega, Nat.and_two_pow_sub_one_eq_mod, Nat.mod_eq_of_lt (by omega)]
    omega
  · omega
  · omega

theorem mul_one {r : Int × Int × Int} {x : List Int} (hr : ringOk r = true) (hx : elOk r x = true) : mulE r x (oneE r) = x := by
  obtain ⟨k, p, n⟩ := r
  by_cases hk : k = 7 ∨ k = 8
  · have c := cf_of hr hk
    rw [cv_of hk, cvE_eq]
    simp only
    have hT : topI (k, p, n) = p - 1 := by
      simp only [topI]
      rw [if_neg (by omega), if_neg (by omega), if_neg (by omega)]
    refine (tab_congr fun t ht => ?_).trans (tab_fnL (el_len hx))
    rw [cS_congr (x' := fnL x) (y' := fun j => if j = 0 then 1 else 0) (fun _ _ => rfl) (fun i hi => fnL_one hk hi), cS_0 c _ _ ht, Int.mul_one]
    have := el_at hx ht
    rw [hT] at this
    exact Int.emod_eq_of_lt this.1 (by omega)
  · have hw := wid1 (r := (k, p, n)) hk
    obtain ⟨e, ha⟩ := el_one hx hw
    have e1 : oneE (k, p, n) = [if k = 4 then 0 else if k = 5 ∨ k = 6 then topI (k, p, n) else 1] := by simp only [oneE]; exact rep_set hw
    rw [e, e1, mulE_1 hk, opM_one hr hk ha]

/-! ### numbers as elements -/

/-! ### sums over sets of edges -/

end Go.Am
end
section
namespace Go.Am

/-! ### sums -/

theorem dot_sm (p : Int) (f g : Nat → Int) : ∀ n, dotF p f g n = sm n (fun t => f t * g t) % p
  | 0 => by simp [dotF, sm]
  | n + 1 => by simp only [dotF, sm]; rw [dot_sm p f g n, Int.emod_add_emod]
theorem sm_mulL (c : Int) (f : Nat → Int) : ∀ n, sm n (fun t => c * f t) = c * sm n f
  | 0 => by simp [sm]
  | n + 1 => by simp only [sm]; rw [sm_mulL c f n, Int.mul_add]
theorem sm_mulR (c : Int) (f : Nat → Int) (n : Nat) : sm n (fun t => f t * c) = sm n f * c := by
  rw [Int.mul_comm, ← sm_mulL]
  exact sm_congr fun i _ => Int.mul_comm _ _
theorem sm_addF (f g : Nat → Int) : ∀ n, sm n (fun t => f t + g t) = sm n f + sm n g
  | 0 => by simp [sm]
  | n + 1 => by simp only [sm]; rw [sm_addF f g n]; omega
theorem sm_swap (f : Nat → Nat → Int) (m : Nat) : ∀ n, sm n (fun i => sm m (fun j => f i j)) = sm m (fun j => sm n (fun i => f i j))
  | 0 => by simp only [sm]; exact (sm_zero m fun _ _ => rfl).symm
  | n + 1 => by simp only [sm]; rw [sm_swap f m n, ← sm_addF]
/-! ### rows as tables -/

theorem stepR_tab (p : Int) (n : Nat) (ms : List Mx3) (v : List Int) (c : Int) : stepR p n ms v c = tab n (fun j => sm n (fun t => fnL v t * stM n ms c.toNat t j) % p) := by
  unfold stepR genD tab
  rw [Nat.one_mul]
  refine List.map_congr_left fun j hj => ?_
  have hj := List.mem_range.1 hj
  rw [Nat.div_eq_of_lt hj, Nat.mod_eq_of_lt hj]
  unfold mulF
  rw [dot_sm]
  congr 1
  refine sm_congr fun t _ => ?_
  unfold ofD fnL stM ofD
  rw [Nat.zero_mul, Nat.zero_add]
theorem fnL_tab1 {n j : Nat} (f : Nat → Int) (h : j < n) : fnL (tab n f) j = f j := by
  unfold fnL tab
  rw [List.getD_eq_getElem?_getD, List.getElem?_map, List.getElem?_range h]
  rfl
theorem dotL_sm (p : Int) (x y : List Int) : dotL p x y = sm x.length (fun t => fnL x t * fnL y t) % p := by
  unfold dotL
  rw [dot_sm]
  rfl
/-! ### products -/

/-! ### sizes -/

theorem autOk_mk {p : Int} {n : Nat} {a b : List Int} {ms : List Mx3} (H : AutOk p n a ms b) : autOk (p, (n : Int), a, ms, b) = true := by
  have hp := H.p
  have hn := H.hn
  simp only [autOk, Bool.and_eq_true, decide_eq_true_eq]
  refine ⟨H.pr, ⟨by omega, by omega⟩, ⟨rowOk_P.2 H.ap, by rw [H.al]⟩, ⟨rowOk_P.2 H.bp, by rw [H.bl]⟩, ⟨H.l1, H.l4⟩, List.all_eq_true.2 fun x hx => ?_⟩
  obtain ⟨M, rfl, hM⟩ := H.hm x hx
  simp only [matsOk, matOk, Bool.and_eq_true, decide_eq_true_eq]
  exact ⟨⟨H.pr, ⟨by omega, by omega⟩, ⟨by omega, by omega⟩, by rw [genD_len]; push_cast; rfl, rowOk_P.2 (allP_gen.2 hM)⟩, trivial, trivial⟩
theorem sum_le_len {α : Type} (f : α → Nat) (B : Nat) : ∀ (l : List α), (∀ x ∈ l, f x ≤ B) → (l.map f).sum ≤ B * l.length
  | [], _ => by simp
  | x :: l, h => by
    rw [List.map_cons, List.sum_cons, List.length_cons, Nat.mul_succ]
    have := h x (by simp)
    have := sum_le_len f B l fun y hy => h y (by simp [hy])
    omega
theorem aut_sz {p : Int} {n : Nat} {a b : List Int} {ms : List Mx3} (H : AutOk p n a ms b) : sz_Automaton (p, (n : Int), a, ms, b) ≤ 1000 := by
  have h1 : sz_MatrixS ms ≤ 4 + 144 * 4 := by
    unfold sz_MatrixS
    have := sum_le_len sz_Matrix 144 ms fun x hx => by
      obtain ⟨M, rfl, _⟩ := H.hm x hx
      show (genD n n M).length ≤ 144
      rw [genD_len]
      exact Nat.mul_le_mul H.hn H.hn
    have := H.l4
    have : 144 * ms.length ≤ 144 * 4 := Nat.mul_le_mul_left _ H.l4
    omega
  show a.length + sz_MatrixS ms + b.length ≤ 1000
  have := H.al
  have := H.bl
  have := H.hn
  omega
theorem weight_ok {p : Int} {n : Nat} {a b : List Int} {ms : List Mx3} (H : AutOk p n a ms b) {w : List Int} (hl : w.length ≤ 24) (hw : wOk ms.length w) : F_impl_WordWeight ((p, (n : Int), a, ms, b), w) = some (weightL ((p, (n : Int), a, ms, b), w)) := by
  have h := aut_sz H
  simp only [F_impl_WordWeight, F_spec_WordWeight]
  rw [if_pos ⟨by omega, by omega⟩, if_pos ⟨autOk_mk H, hl, hw⟩]
end Go.Am
end
section
namespace Go.Am

/-! ### the chain of an automaton is a chain -/
section
variable {p : Int} {n : Nat} {a b : List Int} {ms : List Mx3} {N : Nat}

theorem acM_ok (H : AutOk p n a ms b) {k v : Nat} (hv : v < ms.length) : (acM p n a ms b N k v).length = acL n k * acR n N k ∧ allP p (acM p n a ms b N k v) := by
  obtain ⟨d, e1, e2, e3, e4⟩ := ms_at H hv
  unfold acM
  rw [e2]
  have h := acA_facts (N := N) (k := k) H e3 e4
  exact ⟨h.2.2.2.2.1, h.2.2.2.2.2.1⟩

theorem acS_ok (H : AutOk p n a ms b) (k : Nat) : siteOk p (acS p n a ms b N k) = true := by
  have hn := H.hn
  have hL : acL n k ≤ 12 := by unfold acL; split <;> omega
  have hR : acR n N k ≤ 12 := by unfold acR; split <;> omega
  have h1 := H.l1
  have h4 := H.l4
  unfold siteOk acS
  simp only [Bool.and_eq_true, decide_eq_true_eq]
  refine ⟨⟨by omega, by omega⟩, ⟨by omega, by omega⟩, ⟨by omega, by omega⟩, by rw [genD_len]; push_cast; rfl, rowOk_P.2 (allP_gen.2 ?_)⟩
  intro I hI J hJ
  have hK : 0 < ms.length := by omega
  have hv := Nat.mod_lt I hK
  obtain ⟨hl, hp⟩ := acM_ok (N := N) (k := k) H hv
  unfold acF
  exact ofD_in hl hp (I / ms.length) ((Nat.div_lt_iff_lt_mul hK).2 hI) J hJ

theorem acC_fold (H : AutOk p n a ms b) : ∀ (t s i : Nat), s + t = N → foldO (chStep p) i (acL n s : Int) ((List.range' s t).map (acS p n a ms b N)) = some (if t = 0 then (acL n s : Int) else 1)
  | 0, s, i, _ => rfl
  | t + 1, s, i, h => by
    rw [List.range'_succ, List.map_cons]
    have e : chStep p i (acL n s : Int) (acS p n a ms b N s) = some (acR n N s : Int) := by
      unfold chStep
      rw [if_pos ⟨acS_ok H s, rfl⟩]
      rfl
    simp only [foldO, e]
    by_cases ht : t = 0
    · subst ht
      simp only [List.range'_zero, List.map_nil, foldO]
      unfold acR
      rw [if_pos (by omega)]
      rfl
    · have e2 : (acR n N s : Int) = (acL n (s + 1) : Int) := by unfold acR acL; rw [if_neg (by omega), if_neg (by omega)]
      rw [e2, acC_fold H t (s + 1) (i + 1) (by omega), if_neg ht, if_neg (by omega)]

theorem dims_acC (p : Int) (n : Nat) (a b : List Int) (ms : List Mx3) (N k : Nat) : dimsOf (acC p n a ms b N k) = List.replicate k (ms.length : Int) := by
  unfold dimsOf acC
  rw [List.map_map, List.eq_replicate_iff]
  refine ⟨by simp, fun x hx => ?_⟩
  obtain ⟨k, _, rfl⟩ := List.mem_map.1 hx
  rfl
theorem prodI_rep (x : Int) : ∀ k : Nat, prodI (List.replicate k x) = x ^ k
  | 0 => by simp [prodI]
  | k + 1 => by rw [List.replicate_succ, Int.pow_succ, Int.mul_comm, ← prodI_rep x k]; rfl

theorem chain_ok (H : AutOk p n a ms b) (hN : 1 ≤ N) (h8 : N ≤ 8) (hd : ms.length ^ N ≤ 4096) : chainOk (p, acC p n a ms b N N) = true := by
  have hl : (acC p n a ms b N N).length = N := by simp [acC]
  simp only [chainOk, Bool.and_eq_true, decide_eq_true_eq]
  refine ⟨H.pr, by rw [hl]; exact ⟨hN, h8⟩, ?_⟩
  have hf := acC_fold (N := N) H N 0 0 (by omega)
  rw [if_neg (by omega)] at hf
  have e : foldO (chStep p) 0 1 (acC p n a ms b N N) = some 1 := by
    unfold acC
    rw [List.range_eq_range']
    exact hf
  rw [e]
  simp only [decide_true, Bool.true_and, decide_eq_true_eq]
  rw [dims_acC, prodI_rep]
  have : (ms.length : Int) ^ N = ((ms.length ^ N : Nat) : Int) := by push_cast; rfl
  rw [this]
  omega
end

/-! ### its elements are the weights -/
section
variable {p : Int} {n : Nat} {a b : List Int} {ms : List Mx3} {N : Nat}

theorem siteV_ac {k v t j : Nat} (hv : v < ms.length) (ht : t < acL n k) (hj : j < acR n N k) : siteV (acS p n a ms b N k) v t j = ofD (acR n N k) (acM p n a ms b N k v) t j := by
  unfold siteV siteM acS
  simp only [Int.toNat_natCast]
  have hi : t * ms.length + v < acL n k * ms.length := idx_lt ht hv
  rw [ofD_gen _ hi hj]
  exact acF_at hv

/-- One step behind the row R: the automaton's own step, before the last site's end is put in. -/
theorem tk_eq (H : AutOk p n a ms b) {k v : Nat} {w : List Int} {R : Nat → Int} {d : List Int} (hd : (ms.getD v (0, 0, [])).2.2 = d) (hl : d.length = n * n)
    (h0 : k = 0 → w = [] ∧ R = fun _ => 1) (h1 : k ≠ 0 → ∀ t, t < n → R t = fnL (reachL p n ms a w) t) {j : Nat} (hj : j < n) :
    sm (acL n k) (fun t => R t * ofD n (acA p n a k d) t j) % p = fnL (stepR p n ms (reachL p n ms a w) (v : Int)) j := by
  rw [stepR_tab, fnL_tab1 _ hj, Int.toNat_natCast]
  have est : ∀ t, stM n ms v t j = ofD n d t j := fun t => by unfold stM; rw [hd]
  by_cases hk : k = 0
  · obtain ⟨rfl, rfl⟩ := h0 hk
    unfold acL acA
    rw [if_pos hk, if_pos hk]
    simp only [sm, Int.zero_add, Int.one_mul]
    unfold mulD
    rw [ofD_gen _ (show 0 < 1 by decide) hj]
    unfold mulF
    rw [dot_sm, Int.emod_emod_of_dvd _ (Int.dvd_refl p)]
    congr 1
    refine sm_congr fun t _ => ?_
    rw [est]
    unfold ofD fnL reachL
    rw [Nat.zero_mul, Nat.zero_add]
    rfl
  · unfold acL acA
    rw [if_neg hk, if_neg hk]
    congr 1
    refine sm_congr fun t ht => ?_
    rw [est, h1 hk t ht]

theorem reach_take {w : List Int} {k : Nat} (hk : k < w.length) : reachL p n ms a (w.take (k + 1)) = stepR p n ms (reachL p n ms a (w.take k)) (w.getD k 0) := by
  rw [List.take_add_one]
  have : w[k]?.toList = [w.getD k 0] := by
    rw [List.getD_eq_getElem?_getD, List.getElem?_eq_getElem hk]
    rfl
  rw [this]
  unfold reachL
  rw [List.foldl_append]
  rfl

theorem acC_get {k : Nat} (hk : k < N) : (acC p n a ms b N N).getD k site0 = acS p n a ms b N k := by
  unfold acC
  rw [List.getD_eq_getElem?_getD, List.getElem?_map, List.getElem?_range hk]
  rfl

theorem rowN_ac (H : AutOk p n a ms b) {w : List Int} (hw : wOk ms.length w) (hl : w.length = N) : ∀ k, k < N → (k = 0 → rowN p (acC p n a ms b N N) w k = fun _ => 1) ∧ (k ≠ 0 → ∀ t, t < n → rowN p (acC p n a ms b N N) w k t = fnL (reachL p n ms a (w.take k)) t)
  | 0, _ => ⟨fun _ => rfl, fun h => absurd rfl h⟩
  | k + 1, hk => by
    refine ⟨fun h => by omega, fun _ t ht => ?_⟩
    obtain ⟨i0, i1⟩ := rowN_ac H hw hl k (by omega)
    show rowS p (rowN p (acC p n a ms b N N) w k) ((acC p n a ms b N N).getD k site0) (w.getD k 0).toNat t = _
    rw [acC_get (by omega)]
    have hc := hw (w.getD k 0) (by rw [List.getD_eq_getElem?_getD, List.getElem?_eq_getElem (show k < w.length by omega)]; exact List.getElem_mem _)
    obtain ⟨v, hv⟩ := natI_eq hc.1
    obtain ⟨d, e1, e2, e3, e4⟩ := ms_at H (show v < ms.length by omega)
    have hR : acR n N k = n := by unfold acR; rw [if_neg (by omega)]
    rw [reach_take (by omega), hv, Int.toNat_natCast]
    unfold rowS
    rw [dot_sm]
    have eL : (acS p n a ms b N k).1.toNat = acL n k := by unfold acS; exact Int.toNat_natCast _
    rw [eL, ← tk_eq H (v := v) (w := w.take k) e2 e3 (fun h => ⟨by rw [h]; exact List.take_zero, i0 h⟩) i1 ht]
    congr 1
    refine sm_congr fun u hu => ?_
    rw [siteV_ac (by omega) hu (by rw [hR]; exact ht), hR]
    unfold acM
    rw [e2]
    unfold acX
    rw [if_neg (by omega)]

theorem chainAt_ac (H : AutOk p n a ms b) {w : List Int} (hw : wOk ms.length w) (hl : w.length = N) (hN : 1 ≤ N) : chainAt p (acC p n a ms b N N) w = weightL ((p, (n : Int), a, ms, b), w) := by
  obtain ⟨k, rfl⟩ : ∃ k, N = k + 1 := ⟨N - 1, by omega⟩
  obtain ⟨i0, i1⟩ := rowN_ac H hw hl k (by omega)
  unfold chainAt
  rw [show (acC p n a ms b (k + 1) (k + 1)).length = k + 1 by simp [acC]]
  show rowS p (rowN p (acC p n a ms b (k + 1) (k + 1)) w k) ((acC p n a ms b (k + 1) (k + 1)).getD k site0) (w.getD k 0).toNat 0 = _
  rw [acC_get (by omega)]
  have hc := hw (w.getD k 0) (by rw [List.getD_eq_getElem?_getD, List.getElem?_eq_getElem (show k < w.length by omega)]; exact List.getElem_mem _)
  obtain ⟨v, hv⟩ := natI_eq hc.1
  obtain ⟨d, e1, e2, e3, e4⟩ := ms_at H (show v < ms.length by omega)
  have hR : acR n (k + 1) k = 1 := by unfold acR; rw [if_pos rfl]
  have hwk : w.take (k + 1) = w := List.take_of_length_le (by omega)
  unfold weightL
  simp only [Int.toNat_natCast]
  have hrl : (reachL p n ms a w).length = n := (reachL_I H.p w a H.al H.ap).1
  rw [dotL_sm, hrl]
  conv => rhs; rw [← hwk, reach_take (show k < w.length by omega)]
  rw [hv, Int.toNat_natCast]
  unfold rowS
  rw [dot_sm]
  have eL : (acS p n a ms b (k + 1) k).1.toNat = acL n k := by unfold acS; exact Int.toNat_natCast _
  rw [eL]
  -- the last site's matrix is the product with the end
  have e5 : sm (acL n k) (fun t => rowN p (acC p n a ms b (k + 1) (k + 1)) w k t * siteV (acS p n a ms b (k + 1) k) v t 0) % p =
      sm (acL n k) (fun t => sm n fun s => rowN p (acC p n a ms b (k + 1) (k + 1)) w k t * ofD n (acA p n a k d) t s * fnL b s) % p := by
    refine sm_mod fun t ht => ?_
    rw [siteV_ac (by omega) ht (by rw [hR]; decide), hR]
    unfold acM
    rw [e2]
    unfold acX
    rw [if_pos rfl]
    unfold mulD
    rw [ofD_gen _ ht (show 0 < 1 by decide)]
    unfold mulF
    rw [dot_sm, Int.mul_emod, Int.emod_emod_of_dvd _ (Int.dvd_refl p), ← Int.mul_emod, ← sm_mulL]
    congr 1
    refine sm_congr fun s _ => ?_
    rw [Int.mul_assoc]
    congr 1
    unfold ofD fnL
    rw [Nat.mul_one, Nat.add_zero]
  rw [e5, sm_swap]
  refine sm_mod fun s hs => ?_
  rw [sm_mulR, Int.mul_emod, tk_eq H (v := v) (w := w.take k) e2 e3 (fun h => ⟨by rw [h]; exact List.take_zero, i0 h⟩) i1 hs, Int.mul_emod _ (fnL b s % p), Int.emod_emod_of_dvd _ (Int.dvd_refl p), ← Int.mul_emod]
end
end Go.Am
end
