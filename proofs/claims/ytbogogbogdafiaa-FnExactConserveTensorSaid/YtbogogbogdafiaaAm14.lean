/- Am14: append. No condition. -/
import Derived.Test.YtbogogbogdafiaaAm13
set_option linter.unusedVariables false
namespace Go.Am
theorem at_append {α : Type} {px py : List (List α)} {k j : Nat} {c : α} (h : At (px ++ py) k j c) : (k < px.length ∧ At px k j c) ∨ (px.length ≤ k ∧ At py (k - px.length) j c) := by
 obtain ⟨e, he, hj⟩ := h
 rcases Nat.lt_or_ge k px.length with hk | hk
 ·rw [List.getElem?_append_left hk] at he; exact .inl ⟨hk, e, he, hj⟩
 ·rw [List.getElem?_append_right hk] at he; exact .inr ⟨hk, e, he, hj⟩
theorem rowF_append {b : Nat} {px py : List (List PC)} (h : RowF b (px ++ py)) : RowF b px ∨ RowF b py := by
 obtain ⟨k, j, c, hk, hb⟩ := h
 rcases at_append hk with ⟨_, h1⟩ | ⟨_, h1⟩
 ·exact .inl ⟨_, _, _, h1, hb⟩
 ·exact .inr ⟨_, _, _, h1, hb⟩
theorem rowSep_append {px py : List (List PC)} (h1 : RowSep px) (h2 : RowSep py) (h3 : ∀ b, RowF b px → ¬ RowF b py) : RowSep (px ++ py) := by
 refine ⟨fun k j c hk => ?_, fun k j c k' j' c' b hk hk' hne hb hb' => ?_⟩
 ·rcases at_append hk with ⟨_, h⟩ | ⟨_, h⟩
  ·exact h1.1 _ _ _ h
  ·exact h2.1 _ _ _ h
 ·rcases at_append hk with ⟨q, h⟩ | ⟨q, h⟩ <;> rcases at_append hk' with ⟨q', h'⟩ | ⟨q', h'⟩
  ·exact h1.2 _ _ _ _ _ _ b h h' hne hb hb'
  ·exact h3 b ⟨_, _, _, h, hb⟩ ⟨_, _, _, h', hb'⟩
  ·exact h3 b ⟨_, _, _, h', hb'⟩ ⟨_, _, _, h, hb⟩
  ·refine h2.2 _ _ _ _ _ _ b h h' (fun e => hne ?_) hb hb'
   injection e with e1 e2
   rw [show k = k' by omega, e2]
section
variable {B : Nat} {E : Ex} {w0 w w' : World} {G G' : Gh} {h h' : Nat → Option Blk} {used used' : Nat → Bool} {tk : List PC} {N : Nat}
variable {P : Program} {o : Oper} {a : Act} {σ σ' : St} {Q : Exit → Act → World → Prop}
theorem scalRow {py : List (List PC)} (hs : scalLL (py.map fun e => e.map PC.er) = true) (b : Nat) : ¬ RowF b py := by
 rintro ⟨k, j, c, ⟨e, he, hj⟩, hb⟩
 have h1 : e.map PC.er ∈ py.map fun e => e.map PC.er := List.mem_map_of_mem (f := fun e => e.map PC.er) (List.mem_of_getElem? he)
 have h2 := List.all_eq_true.1 hs _ h1
 have h3 := List.all_eq_true.1 h2 c.er (List.mem_map_of_mem (List.mem_of_getElem? hj))
 exact (Sep.of_scal (pc := c) h3).2 b hb
structure Free (B : Nat) (E : Ex) (w : World) (G : Gh) (h : Nat → Option Blk) (sz : Nat) (m : Mode) (px : List (List PC)) : Prop where
 len : ∀ e ∈ px, e.length = sz
 good : ∀ k j c, At px k j c → Good w c
 mode : ModeOk B E w G px m
 cross : m ≠ .bor → ∀ n gr m' sz' xs', h n = some (.row gr m' sz' xs') → m' ≠ .bor → ∀ b, RowF b px → ¬ RowF b (G.g n).px
 live : m = .live → ∀ b, RowF b px → ∀ n, h n ≠ none → (G.g n).nl = false → b ≠ (G.g n).b
theorem Free.append_noF {m : Mode} {sz : Nat} {px py : List (List PC)} (F : Free B E w G h sz m px) (hl : ∀ e ∈ py, e.length = sz) (hg : ∀ k j c, At py k j c → Good w c) (hno : ∀ b, ¬ RowF b py) : Free B E w G h sz m (px ++ py) := by
 have hsub : ∀ b, RowF b (px ++ py) → RowF b px := fun b hb => (rowF_append hb).resolve_right (hno b)
 refine ⟨fun e he => (List.mem_append.1 he).elim (F.len e) (hl e), fun k j c hk => ?_, ?_, fun hm n gr m' sz' xs' hn hm' b hb => F.cross hm n gr m' sz' xs' hn hm' b (hsub b hb), fun hm b hb => F.live hm b (hsub b hb)⟩
 ·rcases at_append hk with ⟨_, h⟩ | ⟨_, h⟩
  ·exact F.good _ _ _ h
  ·exact hg _ _ _ h
 ·have hsep : RowSep py := ⟨fun k j c hk => Sep.of_noF (fun b hb => hno b ⟨k, j, c, hk, hb⟩) (hg k j c hk), fun k j c k' j' c' b hk _ _ hb => absurd ⟨k, j, c, hk, hb⟩ (hno b)⟩
  have hm := F.mode
  cases m with
  | bor => exact fun b hb => hm b (hsub b hb)
  | froz => exact ⟨fun b hb => hm.1 b (hsub b hb), rowSep_append hm.2 hsep (fun b _ => hno b)⟩
  | live => exact ⟨fun b hb => hm.1 b (hsub b hb), rowSep_append hm.2 hsep (fun b _ => hno b)⟩
theorem Free.of_row (H : HR B E w G h used []) {n : Nat} {gr : Bool} {m : Mode} {sz : Nat} {xs : List (List C)} (hn : h n = some (.row gr m sz xs)) : Free B E w G (upd h n none) sz m (G.g n).px := by
 have hr := H.row n gr m sz xs hn
 have hnl : (G.g n).px ≠ [] → (G.g n).nl = false := fun hne => by
  cases hq : (G.g n).nl with
  | false => rfl
  | true => exact absurd (hr.nl hq).1 hne
 refine ⟨fun e he => (hr.lies (hnl (List.ne_nil_of_mem he))).2.1.1 e he, fun k j c hk => ?_, hr.mode, fun hm q gr' m' sz' xs' hq hm' b hb => ?_, fun hm b hb q hq hl => ?_⟩
 ·have hne : (G.g n).px ≠ [] := by obtain ⟨e, he, _⟩ := hk; exact List.ne_nil_of_mem (List.mem_of_getElem? he)
  exact (hr.lies (hnl hne)).2.1.2.2 k j c hk
 ·obtain ⟨q1, q2⟩ := del_some hq
  exact H.cross n q gr m sz xs gr' m' sz' xs' hn q1 hm hm' (Ne.symm q2) b hb
 ·subst hm
  obtain ⟨q1, q2⟩ := del_ne hq
  exact H.live n gr sz xs hn b hb q q1 hl
theorem Free.del {m : Mode} {sz : Nat} {px : List (List PC)} (F : Free B E w G h sz m px) (n : Nat) : Free B E w G (upd h n none) sz m px :=
 ⟨F.len, F.good, F.mode, fun hm q gr m' sz' xs' hq hm' => F.cross hm q gr m' sz' xs' (del_some hq).1 hm', fun hm b hb q hq => F.live hm b hb q (del_ne hq).1⟩
theorem Free.toBor {m : Mode} {sz : Nat} {px : List (List PC)} (F : Free B E w G h sz m px) (hm : m ≠ .live) : ∀ b, RowF b px → G.Im b := by
 intro b hb
 have := F.mode
 cases m with
 | bor => exact this b hb
 | froz => exact (this.1 b hb).1
 | live => exact absurd rfl hm
def LeftV (B : Nat) (E : Ex) (w : World) (G : Gh) (h : Nat → Option Blk) (sz : Nat) (m : Mode) (px : List (List PC)) (v : Value) : Prop :=
 (∃ a, v = .slice a 0 0 ∧ px = []) ∨
 ∃ b o cap cur e, v = .slice (some (ad b o)) px.length cap ∧ w.heap[b]? = some (.cells cur e (0, 0)) ∧ cur.size = o + cap * sz ∧ cap ≤ maxLen ∧ px.length ≤ cap ∧ RowAt w b o sz px ∧
  Lone G h b ∧ (B ≤ b ∨ E b) ∧ (∀ b', RowF b' px → b' ≠ b)
theorem LeftV.del {m : Mode} {sz : Nat} {px : List (List PC)} {v : Value} (L : LeftV B E w G h sz m px v) (n : Nat) : LeftV B E w G (upd h n none) sz m px v := by
 rcases L with h1 | ⟨b, o, cap, cur, e, a1, a2, a3, a4, a5, a6, ⟨l1, l2, l3⟩, a8, a9⟩
 ·exact .inl h1
 ·exact .inr ⟨b, o, cap, cur, e, a1, a2, a3, a4, a5, a6, ⟨l1, fun q hq => l2 q (del_ne hq).1, fun q gr m sz xs hq => l3 q gr m sz xs (del_some hq).1⟩, a8, a9⟩
theorem flat_len {px : List (List PC)} {sz : Nat} (hl : ∀ e ∈ px, e.length = sz) : (px.flatten.map PC.val).length = px.length * sz := by
 induction px with
 | nil => simp
 | cons e px ih =>
  have := ih (fun e he => hl e (by simp [he]))
  simp only [List.flatten_cons, List.map_append, List.length_append, List.length_cons, Nat.add_mul, this, List.length_map] at *
  rw [hl e (by simp)]
  omega
theorem flat_at {α : Type} {sz : Nat} (hsz : 0 < sz) : ∀ {px : List (List α)} (_ : ∀ e ∈ px, e.length = sz) {i : Nat} {c : α}, px.flatten[i]? = some c → ∃ k j, At px k j c ∧ i = k * sz + j
 | [], _, i, c, hi => by simp at hi
 | e :: px, hl, i, c, hi => by
  have h0 := hl e (by simp)
  simp only [List.flatten_cons] at hi
  rcases Nat.lt_or_ge i e.length with hlt | hge
  ·rw [List.getElem?_append_left hlt] at hi
   exact ⟨0, i, ⟨e, rfl, hi⟩, by omega⟩
  ·rw [List.getElem?_append_right hge] at hi
   obtain ⟨k, j, ⟨e', he, hj⟩, hk⟩ := flat_at hsz (px := px) (fun e he => hl e (by simp [he])) hi
   exact ⟨k + 1, j, ⟨e', by simpa using he, hj⟩, by rw [Nat.add_mul]; omega⟩
theorem run_append_room' {t ty e e' : TypeId} {i : TypeInfo} (ht : P.underlying t = some (.slice e)) (hi : P.info? e = some i)
  (g og sLen sCap : Nat) (cur : Array Value) (hg : w.heap[g]? = some (.cells cur e' (0, 0)))
  (a : Addr) (m c : Nat) (news : List Value) (hl : news.length = m * i.size) (hnews : ∀ j u, news[j]? = some u → w.cell? (a.add j) = some u) (h1 : ∀ u ∈ news, u.oneCell' = true)
  (hroom : sLen + m ≤ sCap) (hfit : og + sLen * i.size + news.length ≤ cur.size) :
  (Builtin.append_ #[t, t] ty #[.slice (some (ad g og)) sLen sCap, .slice (some a) m c]).run P w = .ok (.slice (some (ad g og)) (sLen + m) sCap) (wSet w g (og + sLen * i.size) news cur) := by
 have hf := run_firstCells_some (P := P) w i.size m a m c news hl hnews
 have hst := run_storeCells_at P g (og + sLen * i.size) e' news 0 cur w hg (by simpa using hfit) h1
 simp only [Nat.add_zero] at hst
 have ha : (ad g og).add (sLen * i.size) = ⟨g, og + sLen * i.size, none⟩ := by rw [ad_add]; simp [ad]
 simp [Builtin.append_, run_underlying ht, sizeOf, typeInfo, hi, Builtin.lenOf, hroom, hf, ha, hst, wSet]
theorem run_append_any (w : World) {t e : TypeId} {i : TypeInfo} {z : Value} {ty : TypeId} {sz by_ : Nat} (ht : P.underlying t = some (.slice e)) (hi : P.info? e = some i) (hz : i.zero = some z) (hsz : i.size = sz) (hsz0 : 0 < sz) (hby : i.bytes = by_) (hby0 : 0 < by_)
  {m : Mode} {px : List (List PC)} {v : Value} (hpl : ∀ e ∈ px, e.length = sz) (L : LeftV B E w G h sz m px v) {news : List Value} {k c : Nat} {ya : Option Addr} (hnl : news.length = k * sz)
  (hy : (ya = none ∧ k = 0) ∨ ∃ ay, ya = some ay ∧ ∀ (j : Nat) (u : Value), news[j]? = some u → w.cell? (ay.add j) = some u) (h1 : ∀ u ∈ news, u.oneCell' = true) (hb : (px.length + k) * by_ ≤ maxBytes) :
  (∃ a, k = 0 ∧ v = .slice a 0 0 ∧ px = [] ∧ (Builtin.append_ #[t, t] ty #[v, .slice ya k c]).run P w = .ok (.slice a 0 0) w) ∨
  (∃ b o cap cur e', v = .slice (some (ad b o)) px.length cap ∧ w.heap[b]? = some (.cells cur e' (0, 0)) ∧ cur.size = o + cap * sz ∧ cap ≤ maxLen ∧ px.length + k ≤ cap ∧ RowAt w b o sz px ∧ Lone G h b ∧ (B ≤ b ∨ E b) ∧ (∀ b', RowF b' px → b' ≠ b) ∧
   (Builtin.append_ #[t, t] ty #[v, .slice ya k c]).run P w = .ok (.slice (some (ad b o)) (px.length + k) cap) (wSet w b (o + px.length * sz) news cur)) ∨
  (∃ (cap : Nat) (arr : Array Value), px.length + k ≤ cap ∧ cap ≤ maxLen ∧ arr.size = cap * z.cells.size + (px.length + k) * sz - (px.length + k) * z.cells.size ∧ (∀ (q : Nat) (u : Value), (px.flatten.map PC.val ++ news)[q]? = some u → arr[q]? = some u) ∧
   (Builtin.append_ #[t, t] ty #[v, .slice ya k c]).run P w = .ok (.slice (some (ad w.heap.size 0)) (px.length + k) cap) (w.drew.alloc (.cells arr e))) := by
 have hmax : px.length + k ≤ maxBytes := Nat.le_trans (Nat.le_mul_of_pos_right _ hby0) hb
 have hmb : (maxBytes : Nat) = 140737488355328 := rfl
 have hcapm : ∀ old, grownCap w (px.length + k) old e ≤ maxLen := fun old => grownCap_le_maxLen w _ old e (by simp only [maxLen]; omega)
 have hol := flat_len hpl
 have harr : ∀ old, ((px.flatten.map PC.val).toArray ++ news.toArray ++ Builtin.zeroCells z.cells (grownCap w (px.length + k) old e - (px.length + k))).size = grownCap w (px.length + k) old e * z.cells.size + (px.length + k) * sz - (px.length + k) * z.cells.size := by
  intro old
  have hge := grownCap_ge w (px.length + k) old e
  have h2 : (px.length + k) * z.cells.size ≤ grownCap w (px.length + k) old e * z.cells.size := Nat.mul_le_mul_right _ hge
  simp only [Array.size_append, List.size_toArray, size_zeroCells, hol, hnl, Nat.sub_mul, Nat.add_mul] at *
  omega
 have hget : ∀ old (q : Nat) (u : Value), (px.flatten.map PC.val ++ news)[q]? = some u → ((px.flatten.map PC.val).toArray ++ news.toArray ++ Builtin.zeroCells z.cells (grownCap w (px.length + k) old e - (px.length + k)))[q]? = some u := by
  intro old q u hq
  have hql := (List.getElem?_eq_some_iff.1 hq).1
  rw [Array.getElem?_append_left (by simp only [Array.size_append, List.size_toArray]; simpa using hql)]
  simpa using hq
 rcases L with ⟨a, rfl, rfl⟩ | ⟨b, o, cap, cur, e', rfl, a2, a3, a4, a5, a6, a7, a8, a9⟩
 ·by_cases hk : k = 0
  ·subst hk
   left
   have hn : news = [] := List.eq_nil_of_length_eq_zero (by simpa using hnl)
   refine ⟨a, rfl, rfl, rfl, ?_⟩
   cases ya <;> cases a <;> simp [Builtin.append_, run_underlying ht, sizeOf, typeInfo, hi, Builtin.lenOf, Builtin.firstCells, loadCells, loadCellsFrom, storeCells]
  ·rcases hy with ⟨_, h0⟩ | ⟨ay, rfl, hnews⟩
   ·exact absurd h0 hk
   right; right
   cases a with
   | none =>
    have hr := run_append_nil (P := P) w t ty e i z ht hi hz ay k c news (by rw [hsz]; exact hnl) hnews (by omega) (by simp only [List.length_nil, Nat.zero_add] at hmax; omega) (by rw [hby]; simp only [List.length_nil, Nat.zero_add] at hb; omega)
    have h3 := harr 0
    have h4 := hget 0
    have h5 := hcapm 0
    simp only [List.length_nil, Nat.zero_add, List.flatten_nil, List.map_nil, List.nil_append] at h3 h4 h5 ⊢
    exact ⟨grownCap w k 0 e, news.toArray ++ Builtin.zeroCells z.cells (grownCap w k 0 e - k), grownCap_ge w k 0 e, h5, by simpa using h3, fun q u hq => by simpa using h4 q u hq, hr⟩
   | some a =>
    have hr := run_append_grow (P := P) w t ty e i z ht hi hz a 0 0 [] (by simp) (fun q u hq => by simp at hq) ay k c news (by rw [hsz]; exact hnl) hnews (by omega) (by simp only [List.length_nil, Nat.zero_add] at hmax; omega) (growslice_fits (by simp only [List.length_nil, Nat.zero_add] at hmax; omega) (by rw [hby, Nat.zero_add]; rw [List.length_nil, Nat.zero_add] at hb; exact hb))
    have h3 := harr 0
    have h4 := hget 0
    have h5 := hcapm 0
    simp only [List.length_nil, Nat.zero_add, List.flatten_nil, List.map_nil, List.nil_append] at h3 h4 h5 hr ⊢
    exact ⟨_, _, grownCap_ge w k 0 e, h5, by simpa using h3, fun q u hq => by simpa using h4 q u hq, hr⟩
 ·by_cases hroom : px.length + k ≤ cap
  ·right; left
   refine ⟨b, o, cap, cur, e', rfl, a2, a3, a4, hroom, a6, a7, a8, a9, ?_⟩
   rcases hy with ⟨rfl, rfl⟩ | ⟨ay, rfl, hnews⟩
   ·have hn : news = [] := List.eq_nil_of_length_eq_zero (by simpa using hnl)
    subst hn
    have hself : wSet w b (o + px.length * sz) [] cur = w := by
     unfold wSet
     simp only [List.append_nil, List.length_nil, Nat.add_zero, List.take_append_drop, Array.toArray_toList]
     exact setRow_self w b cur e' (0, 0) a2
    rw [hself]
    simp [Builtin.append_, run_underlying ht, sizeOf, typeInfo, hi, Builtin.lenOf, Builtin.firstCells, a5, storeCells]
   ·have hr := run_append_room' (P := P) (w := w) (ty := ty) ht hi b o px.length cap cur a2 ay k c news (by rw [hsz]; exact hnl) hnews h1 hroom (by
     rw [hsz, hnl, a3, Nat.add_assoc, ← Nat.add_mul]; exact Nat.add_le_add_left (Nat.mul_le_mul_right _ hroom) _)
    rw [hsz] at hr
    exact hr
  ·rcases hy with ⟨_, rfl⟩ | ⟨ay, rfl, hnews⟩
   ·omega
   right; right
   have hr := run_append_grow (P := P) w t ty e i z ht hi hz (ad b o) px.length cap (px.flatten.map PC.val) (by rw [hsz]; exact hol) (fun q u hq => by
    rw [List.getElem?_map] at hq
    cases hf : px.flatten[q]? with
    | none => rw [hf] at hq; cases hq
    | some pc =>
     rw [hf] at hq
     simp at hq
     subst hq
     obtain ⟨k', j', hkj, rfl⟩ := flat_at hsz0 hpl hf
     rw [ad_add, ← Nat.add_assoc]
     exact a6.2.1 k' j' pc hkj) ay k c news (by rw [hsz]; exact hnl) hnews (by omega) (by omega) (growslice_fits (by omega) (by rw [hby]; exact hb))
   exact ⟨_, _, grownCap_ge w _ _ _, hcapm _, harr _, hget _, hr⟩
def RightV (w : World) (sz : Nat) (py : List (List PC)) (v : Value) : Prop :=
 (∀ e ∈ py, e.length = sz) ∧ (∀ k j c, At py k j c → Good w c) ∧
 ∃ ya c, v = .slice ya py.length c ∧ ((ya = none ∧ py.length = 0) ∨ ∃ ay, ya = some ay ∧ ∀ (j : Nat) (u : Value), (py.flatten.map PC.val)[j]? = some u → w.cell? (ay.add j) = some u)
theorem RightV.of_good {sz : Nat} {ya : Option Addr} {c : Nat} {py : List (List PC)} (hg : Good w (.list sz ya c py)) : RightV w sz py (.slice ya py.length c) := by
 cases hg with
 | nil _ _ _ h =>
  refine ⟨by simp, by rintro k j c ⟨e, he, _⟩; simp at he, ya, c, rfl, ?_⟩
  cases ya with
  | none => exact .inl ⟨rfl, rfl⟩
  | some ay => exact .inr ⟨ay, rfl, by simp⟩
 | cons _ b o _ _ h1 h2 h3 h4 h5 h6 =>
  refine ⟨h4, h6, _, c, rfl, .inr ⟨_, rfl, fun j u hj => ?_⟩⟩
  rw [List.getElem?_map] at hj
  cases hf : py.flatten[j]? with
  | none => rw [hf] at hj; cases hj
  | some pc =>
   rw [hf] at hj
   simp at hj
   subst hj
   obtain ⟨k', j', hkj, rfl⟩ := flat_at h3 h4 hf
   rw [ad_add, ← Nat.add_assoc]
   exact h5 k' j' pc hkj
theorem R.appendNew (r : R B E w0 N σ a w G) {σ2 : St} (henv : σ2.env = σ.env) (hus : σ2.used = σ.used) (H : HR B E w G σ2.h σ.used []) (K : Keep w G σ.h (fun n => σ.used n = true) w G σ2.h)
  {n : Nat} {sz by_ : Nat} {m m2 : Mode} {px py : List (List PC)} {v yv : Value} (hn : σ.used n = false) (hsz0 : 0 < sz) (F : Free B E w G σ2.h sz m2 (px ++ py)) (hpl : ∀ e ∈ px, e.length = sz) (L : LeftV B E w G σ2.h sz m px v) (Ry : RightV w sz py yv)
  (hnest : ∀ b, RowF b py → ∀ b' o cap, 0 < cap → v = .slice (some (ad b' o)) px.length cap → Lone G σ2.h b' → b ≠ b')
  {t e : TypeId} {i : TypeInfo} {z : Value} {ty : TypeId} (ht : P.underlying t = some (.slice e)) (hi : P.info? e = some i) (hz : i.zero = some z) (hsz : i.size = sz) (hby : i.bytes = by_) (hby0 : 0 < by_) (hzs : z.cells.size = sz)
  (hb : (px.length + py.length) * by_ ≤ maxBytes) :
  ∃ u w' G', (Builtin.append_ #[t, t] ty #[v, yv]).run P w = .ok u w' ∧
   R B E w0 N { σ2 with h := upd σ2.h n (some (.row true m2 sz ((px ++ py).map fun e => e.map PC.er))), used := upd σ2.used n true } a w' G' ∧
   RA w' G' (upd σ2.h n (some (.row true m2 sz ((px ++ py).map fun e => e.map PC.er)))) (.one (.sl n sz 0 (px.length + py.length))) u := by
 obtain ⟨r1, r2, ya, c, rfl, r3⟩ := Ry
 have hnl : (py.flatten.map PC.val).length = py.length * sz := flat_len r1
 have h1 : ∀ u ∈ py.flatten.map PC.val, u.oneCell' = true := fun u hu => by obtain ⟨pc, _, rfl⟩ := List.mem_map.1 hu; exact PC.val_oneCell pc
 have hB := r.fr.size
 have hlenall : (px ++ py).length = px.length + py.length := by simp
 have hdom : σ2.h n = none := by
  cases hh : σ2.h n with
  | none => rfl
  | some b => have := H.dom n (by rw [hh]; simp); rw [hn] at this; cases this
 have ne : ∀ q, σ.used q = true → q ≠ n := fun q hq e => by subst e; rw [hn] at hq; cases hq
 have hne : ∀ q, σ2.h q ≠ none → q ≠ n := fun q hq e => by subst e; exact hq hdom
 rcases run_append_any (P := P) w (ty := ty) ht hi hz hsz hsz0 hby hby0 hpl L hnl r3 h1 hb with ⟨a0, k0, rfl, rfl, hrun⟩ | ⟨b, ob, cap, cur, e', rfl, b2, b3, b4, b5, b6, b7, b8, b9, hrun⟩ | ⟨cap, arr, c1, c2, c3, c4, hrun⟩
 ·-- nothing appended to nil
  have hpy : py = [] := List.eq_nil_of_length_eq_zero k0
  subst hpy
  refine ⟨_, w, ⟨G.Im, upd G.g n ⟨true, 0, 0, 0, [], a0⟩⟩, hrun, ?_, ?_⟩
  ·refine r.step (σ' := _) henv (fun q hq => by show upd σ2.used n true q = true; rw [hus]; exact upd_used n q hq) (Keep.trans (u2 := fun n => σ.used n = true) (fun _ h => h) K (Keep.insert H (blk := .row true m2 sz []) (p := ⟨true, 0, 0, 0, [], a0⟩) hn (fun _ _ => rfl))) ?_ r.fr
   show HR B E w _ (upd σ2.h n (some (.row true m2 sz []))) (upd σ2.used n true) []
   rw [hus]
   have hno : ∀ b, ¬ RowF b ([] : List (List PC)) := by rintro b ⟨k, j, c, ⟨e, he, _⟩, _⟩; simp at he
   refine H.insert (p := ⟨true, 0, 0, 0, [], a0⟩) hn (fun _ _ => rfl) (Nat.le_refl _) (fun h => by cases h) (fun cs c m hb => by cases hb) ⟨hsz0, rfl, fun _ => ⟨rfl, fun _ => rfl⟩, (fun h => by cases h), (fun h => by cases h), ?_⟩
    (fun gr m sz xs _ _ n' gr' m' sz' xs' _ _ b hb => absurd hb (hno b)) (fun gr sz xs _ b hb => absurd hb (hno b)) (fun gr m sz xs _ _ i pc b hi => by simp at hi)
   have hm := F.mode
   simp only [List.append_nil] at hm
   exact hm
  ·refine RA.of_one rfl fun _ => .inl ?_
   simp [upd_same]
 ·-- in place
  have hnlen : (ob + px.length * sz) + (py.flatten.map PC.val).length ≤ cur.size := by rw [hnl, b3, Nat.add_assoc, ← Nat.add_mul]; exact Nat.add_le_add_left (Nat.mul_le_mul_right _ b5) _
  let w2 := wSet w b (ob + px.length * sz) (py.flatten.map PC.val) cur
  have hwo : ∀ x, x ≠ b → w2.heap[x]? = w.heap[x]? := fun x hx => wSet_other x hx
  have hImne : ∀ x, G.Im x → x ≠ b := fun x hx he => b7.1 (he ▸ hx)
  have hunf2 : ∀ x, Unf w x → Unf w2 x := fun x hx => wSet_unf b2 hnlen x hx
  have hnestall : ∀ x, RowF x (px ++ py) → x ≠ b := fun x hx => (rowF_append hx).elim (b9 x) (fun h => hnest x h b ob cap (by obtain ⟨k, j, c, ⟨e, he, _⟩, _⟩ := h; have := (List.getElem?_eq_some_iff.1 he).1; omega) rfl b7)
  let p : PB := ⟨false, b, ob, cap, px ++ py, none⟩
  have K2 : Keep w G σ2.h (fun n => σ.used n = true) w2 ⟨G.Im, upd G.g n p⟩ (upd σ2.h n (some (.row true m2 sz ((px ++ py).map fun e => e.map PC.er)))) := by
   refine ⟨fun _ h => h, fun x hx o => cell_congr (hwo x (hImne x hx)) o, fun q hq h0 => ?_, fun q gr sz' xs' hq h0 => ?_⟩
   ·rw [upd_ne _ _ _ _ (ne q hq)] at h0
    simp only [upd_ne _ _ _ _ (ne q hq)]
    exact ⟨h0, trivial, trivial, trivial, trivial, trivial⟩
   ·rw [upd_ne _ _ _ _ (ne q hq)] at h0
    simp only [upd_ne _ _ _ _ (ne q hq)]
    exact ⟨⟨gr, xs', h0⟩, fun k j pc h1 h2 => ⟨pc, h1, rfl, h2⟩⟩
  have hbsz : b < w.heap.size := (Array.getElem?_eq_some_iff.1 b2).1
  have Hn : HR B E w2 ⟨G.Im, upd G.g n p⟩ (upd σ2.h n (some (.row true m2 sz ((px ++ py).map fun e => e.map PC.er)))) (upd σ.used n true) [] := by
   refine H.put (p := p) (fun x _ hx => hwo x (hx rfl)) (by show w.heap.size ≤ w2.heap.size; rw [wSet_size]; exact Nat.le_refl _) (fun x _ hx => hunf2 x hx) (fun q hq => upd_used n q hq) (upd_same _ _ _)
    (fun _ => ⟨b7.1, b8, by show b < w2.heap.size; rw [wSet_size]; exact hbsz⟩) (fun _ q hq h0 hl => b7.2.1 q h0 hl) (fun _ q gr sz' xs' hq h0 x hx he => b7.2.2 q gr .live sz' xs' h0 (by have he' : x = b := he; rw [← he']; exact hx))
    (fun cs c q hb => by cases hb) K2 ?_ ?_ ?_ (fun gr m sz xs _ _ i pc b hi => by simp at hi) (fun _ _ x hx he => by obtain ⟨q, gr, mo, sz', xs', _, h0, hxF⟩ := hx; exact b7.2.2 q gr mo sz' xs' h0 (by have he' : x = b := he; rw [← he']; exact hxF))
   ·refine ⟨hsz0, rfl, (fun h => by cases h), fun _ => ⟨hunf2 b ⟨cur, e', b2⟩, ⟨F.len, fun k j c hk => ?_, fun k j c hk => ?_⟩, by show (px ++ py).length ≤ cap; rw [hlenall]; exact b5⟩, fun _ _ => ?_, ?_⟩
    ·show w2.cell? (ad b (ob + k * sz + j)) = some c.val
     rw [wSet_cell b2 hnlen]
     have hf := at_flat F.len hk
     rw [List.flatten_append] at hf
     have hfl : px.flatten.length = px.length * sz := by have := flat_len hpl; rwa [List.length_map] at this
     rcases at_append hk with ⟨hkl, hk'⟩ | ⟨hkl, hk'⟩
     ·rw [if_neg ?_]
      ·exact b6.2.1 k j c hk'
      ·rintro ⟨q1, _⟩
       have hj : j < sz := by obtain ⟨e1, he, hj⟩ := hk'; rw [← hpl e1 (List.mem_of_getElem? he)]; exact (List.getElem?_eq_some_iff.1 hj).1
       have : (k + 1) * sz ≤ px.length * sz := Nat.mul_le_mul_right _ hkl
       rw [Nat.add_mul] at this
       omega
     ·have hge : px.length * sz ≤ k * sz + j := Nat.le_trans (Nat.mul_le_mul_right _ hkl) (Nat.le_add_right _ _)
      have hlt := (List.getElem?_eq_some_iff.1 hf).1
      rw [List.length_append, hfl] at hlt
      rw [List.getElem?_append_right (by rw [hfl]; exact hge), hfl] at hf
      rw [if_pos ⟨by omega, by simp only [List.length_map]; omega⟩]
      rw [List.getElem?_map, show ob + k * sz + j - (ob + px.length * sz) = k * sz + j - px.length * sz by omega, hf]
      rfl
    ·exact (F.good k j c hk).congr fun x hx o => cell_congr (hwo x (hnestall x ⟨k, j, c, hk, hx⟩)) o
    ·obtain ⟨cur', q1, q2⟩ := wSet_heap (vs := py.flatten.map PC.val) (o := ob + px.length * sz) b2 hnlen
     exact ⟨b4, cur', e', q1, by rw [q2, b3]⟩
    ·have hm := F.mode
     cases m2 with
     | bor => exact hm
     | froz => exact ⟨fun x hx => ⟨(hm.1 x hx).1, hunf2 x (hm.1 x hx).2.1, (hm.1 x hx).2.2⟩, hm.2⟩
     | live => exact ⟨fun x hx => ⟨(hm.1 x hx).1, hunf2 x (hm.1 x hx).2.1, (hm.1 x hx).2.2⟩, hm.2⟩
   ·intro gr m' sz' xs' hb hmb q gr' mo sz2 xs2 hqn h0 hmo x hx
    injection hb with _ hb _ _
    subst hb
    exact F.cross hmb q gr' mo sz2 xs2 h0 hmo x hx
   ·intro gr sz' xs' hb x hx
    injection hb with _ hb _ _
    exact ⟨fun _ => hnestall x hx, fun q _ h0 hl => F.live hb x hx q h0 hl⟩
  refine ⟨_, w2, ⟨G.Im, upd G.g n p⟩, hrun, ?_, ?_⟩
  ·exact r.step (σ' := _) henv (fun q hq => by show upd σ2.used n true q = true; rw [hus]; exact upd_used n q hq) (Keep.trans (u2 := fun n => σ.used n = true) (fun _ h => h) K K2)
    (by show HR B E w2 _ _ (upd σ2.used n true) []; rw [hus]; exact Hn) (r.fr.one b8 (fun x hx hxb => hwo x hxb) (by show w.heap.size ≤ w2.heap.size; rw [wSet_size]; exact Nat.le_refl _) (wSet_cz b2 hnlen) rfl rfl rfl)
  ·refine RA.of_one rfl fun _ => .inr ⟨by simp [upd_same, p], some (ad b ob), ?_, ?_, ?_⟩
   ·simp [upd_same, p]
   ·simp [upd_same, p]; exact b5
   ·simp [upd_same, p]
 ·-- a new array
  let w1 := w.drew
  have hd : ∀ x : Nat, x < w.heap.size → (w.drew.alloc (.cells arr e)).heap[x]? = w.heap[x]? := fun x hx => heap_alloc_old w.drew _ x hx
  have H1 : HR B E w.drew G σ2.h σ.used [] := H.grow (w' := w.drew) (fun _ _ => rfl) (Nat.le_refl _)
  have r1 : R B E w0 N σ a w.drew G := r.step (w' := w.drew) rfl (fun _ h => h) (Keep.world (w := w) (w' := w.drew) (fun _ _ => rfl) _) (r.hr.grow (w' := w.drew) (fun _ _ => rfl) (Nat.le_refl _)) (r.fr.grow (w' := w.drew) (fun _ _ => rfl) (Nat.le_refl _) rfl rfl rfl)
  have K1 : Keep w.drew G σ.h (fun n => σ.used n = true) w.drew G σ2.h := ⟨K.im, fun _ _ _ => rfl, K.name, K.live⟩
  have hgood : ∀ k j c, At (px ++ py) k j c → Good w.drew c := fun k j c hk => (F.good k j c hk).congr fun _ _ _ => rfl
  have harr : ∀ k j c, At (px ++ py) k j c → arr[k * sz + j]? = some c.val := fun k j c hk => by
   have hf := at_flat F.len hk
   refine c4 _ _ ?_
   rw [← List.map_append, ← List.flatten_append, List.getElem?_map, hf]
   rfl
  have hsize : arr.size = cap * sz := by rw [c3, hzs]; omega
  have hB2 := r1.fr.size
  let p : PB := ⟨false, w.heap.size, 0, cap, px ++ py, none⟩
  have hw : ∀ x : Nat, x < w.drew.heap.size → (w.drew.alloc (.cells arr e)).heap[x]? = w.drew.heap[x]? := hd
  have Hn : HR B E (w.drew.alloc (.cells arr e)) ⟨G.Im, upd G.g n p⟩ (upd σ2.h n (some (.row true m2 sz ((px ++ py).map fun e => e.map PC.er)))) (upd σ.used n true) [] := by
   refine H1.insert (p := p) hn hw (by simp) (fun _ => ⟨H1.lone_new, .inl hB, by simp [p]⟩) (fun cs c m hb => by cases hb) ?_ ?_ ?_ (fun gr m sz xs _ _ i pc b hi => by simp at hi)
   ·refine ⟨hsz0, rfl, (fun h => by cases h), fun _ => ⟨Unf.alloc _ _ _, ⟨F.len, fun k j c hk => ?_, fun k j c hk => ?_⟩, by show (px ++ py).length ≤ cap; rw [hlenall]; exact c1⟩, fun _ _ => ⟨c2, arr, e, heap_alloc_new w.drew _, (Nat.zero_add _).symm ▸ hsize⟩, ?_⟩
    ·show (w.drew.alloc (.cells arr e)).cell? (ad w.drew.heap.size (0 + k * sz + j)) = some c.val
     simp only [Nat.zero_add]
     unfold ad
     rw [World.cell?_alloc_new]
     exact harr k j c hk
    ·exact (hgood k j c hk).congr fun x hx o => cell_congr (hw x ((hgood k j c hk).lt hx)) o
    ·have hm := F.mode
     have hu : ∀ x, Unf w x → Unf (w.drew.alloc (.cells arr e)) x := fun x hx => hx.congr (hd x hx.lt)
     cases m2 with
     | bor => exact hm
     | froz => exact ⟨fun x hx => ⟨(hm.1 x hx).1, hu x (hm.1 x hx).2.1, (hm.1 x hx).2.2⟩, hm.2⟩
     | live => exact ⟨fun x hx => ⟨(hm.1 x hx).1, hu x (hm.1 x hx).2.1, (hm.1 x hx).2.2⟩, hm.2⟩
   ·intro gr m' sz' xs' hb hmb q gr' mo sz2 xs2 h0 hmo x hx
    injection hb with _ hb _ _
    subst hb
    exact F.cross hmb q gr' mo sz2 xs2 h0 hmo x hx
   ·intro gr sz' xs' hb x hx
    injection hb with _ hb _ _
    refine ⟨fun _ => ?_, fun q h0 hl => F.live hb x hx q h0 hl⟩
    obtain ⟨k, j, c, hk, hxc⟩ := hx
    have := (F.good k j c hk).lt hxc
    show x ≠ w.heap.size
    omega
  refine ⟨_, _, ⟨G.Im, upd G.g n p⟩, hrun, ?_, ?_⟩
  ·exact r1.step (σ' := _) henv (fun q hq => by show upd σ2.used n true q = true; rw [hus]; exact upd_used n q hq) (Keep.trans (u2 := fun n => σ.used n = true) (fun _ h => h) K1 (Keep.insert H1 hn hw))
    (by show HR B E _ _ _ (upd σ2.used n true) []; rw [hus]; exact Hn) (r1.fr.grow hw (by simp) rfl rfl rfl)
  ·refine RA.of_one rfl fun _ => .inr ⟨by simp [upd_same, p], some (ad w.heap.size 0), ?_, ?_, ?_⟩
   ·simp [upd_same, p]
   ·simp [upd_same, p]; exact c1
   ·simp [upd_same, p]
theorem left_ok (r : R B E w0 N σ a w G) {sz : Nat} {x : AVal} {v : Value} {xs : List (List C)} {m : Mode} {σ1 : St} (hv : RA w G σ.h x v) (hx : appLeft σ sz x = some (xs, m, σ1)) :
  ∃ px : List (List PC), xs = px.map (fun e => e.map PC.er) ∧ Free B E w G σ1.h sz m px ∧ LeftV B E w G σ1.h sz m px v ∧ HR B E w G σ1.h σ.used [] ∧ Keep w G σ.h (fun n => σ.used n = true) w G σ1.h ∧ σ1.env = σ.env ∧ σ1.used = σ.used ∧
   (∀ n b, σ1.h n = some b → σ.h n = some b) := by
 unfold appLeft at hx
 split at hx
 ·rename_i s
  injection hx with hx
  injection hx with h1 h2
  injection h2 with h2 h3
  subst h1 h2 h3
  have hv' : v = .slice none 0 0 := (hv.oneRC (by simp)).1
  have hno : ∀ b, ¬ RowF b ([] : List (List PC)) := by rintro b ⟨k, j, c, ⟨e, he, _⟩, _⟩; simp at he
  exact ⟨[], rfl, ⟨by simp, by rintro k j c ⟨e, he, _⟩; simp at he, ⟨fun b hb => absurd hb (hno b), (by rintro k j c ⟨e, he, _⟩; simp at he), (by rintro k j c k' j' c' b ⟨e, he, _⟩; simp at he)⟩, fun _ _ _ _ _ _ _ _ b hb => absurd hb (hno b), fun _ b hb => absurd hb (hno b)⟩,
   .inl ⟨none, hv', rfl⟩, r.hr, Keep.refl _ _ _ _, rfl, rfl, fun _ _ h => h⟩
 ·rename_i n s len
  split at hx
  ·rename_i m0 rs xs0 hn
   split at hx
   ·rename_i hc
    obtain ⟨rfl, rfl, rfl⟩ := hc
    injection hx with hx
    injection hx with h1 h2
    injection h2 with h2 h3
    subst h1 h2 h3
    have H := r.hr
    have hn0 : σ.h n ≠ none := by rw [hn]; simp
    have hr := H.row n true m0 s xs0 hn
    have hsl : SlOk (G.g n) s 0 xs0.length v := (hv.oneRC (by simp)).1 hn0
    have hxl : xs0.length = (G.g n).px.length := by rw [hr.er]; simp
    refine ⟨(G.g n).px, hr.er, Free.of_row H hn, ?_, H.del n, Keep.del n _, rfl, rfl, fun q b hq => (del_some hq).1⟩
    rcases hsl with ⟨hnl, hv', _, _⟩ | ⟨hnl, a', hv', hcap, ha⟩
    ·have g2 := (hr.nl hnl).2 rfl
     exact .inl ⟨(G.g n).na, by rw [hv', g2], (hr.nl hnl).1⟩
    ·right
     obtain ⟨r2, cur, e, r3, r4⟩ := hr.room hnl rfl
     obtain ⟨l1, l2, l3⟩ := hr.lies hnl
     obtain ⟨o1, o2, o3⟩ := H.own n hn0 hnl
     have hae := ha (.inr rfl)
     refine ⟨(G.g n).b, (G.g n).o, (G.g n).cap, cur, e, ?_, r3, r4, r2, l3, l2, ⟨o1, fun q hq hl => ?_, fun q gr m' sz' xs' hq hb => ?_⟩, o2, fun b hb => H.foot_ne hn0 hnl hn hb⟩
     ·rw [hv', hae, hxl]; simp
     ·obtain ⟨q1, q2⟩ := del_ne hq
      exact H.inj q n q1 hn0 q2 hl hnl
     ·exact H.foot_ne hn0 hnl (del_some hq).1 hb rfl
   ·cases hx
  ·cases hx
 ·cases hx
theorem right_ok {fl : Bool} {sz : Nat} {x : AVal} {v : Value} {ys : List (List C)} {m m2 : Mode} {σ1 σ2 : St} {px : List (List PC)} (hsz0 : 0 < sz) (H : HR B E w G σ1.h σ1.used []) (F : Free B E w G σ1.h sz m px) (hv : RA w G σ1.h x v)
  (hx : appRight fl σ1 sz m x = some (ys, m2, σ2)) :
  ∃ py : List (List PC), ys = py.map (fun e => e.map PC.er) ∧ RightV w sz py v ∧ Free B E w G σ2.h sz m2 (px ++ py) ∧ HR B E w G σ2.h σ1.used [] ∧ Keep w G σ1.h (fun n => σ1.used n = true) w G σ2.h ∧ σ2.env = σ1.env ∧ σ2.used = σ1.used ∧
   (∀ n b, σ2.h n = some b → σ1.h n = some b) ∧ (∀ b, RowF b py → ∀ b', ¬ G.Im b' → (∀ q gr mo sz' xs', σ1.h q = some (.row gr mo sz' xs') → ¬ RowF b' (G.g q).px) → b ≠ b') := by
 unfold appRight at hx
 have hno0 : ∀ b, ¬ RowF b ([] : List (List PC)) := by rintro b ⟨k, j, c, ⟨e, he, _⟩, _⟩; simp at he
 split at hx
 ·rename_i s
  injection hx with hx
  injection hx with h1 h2
  injection h2 with h2 h3
  subst h1 h2 h3
  have hv' : v = .slice none 0 0 := (hv.oneRC (by simp)).1
  subst hv'
  exact ⟨[], rfl, ⟨by simp, by rintro k j c ⟨e, he, _⟩; simp at he, none, 0, rfl, .inl ⟨rfl, rfl⟩⟩, by simpa using F, H, Keep.refl _ _ _ _, rfl, rfl, fun _ _ h => h, fun b hb => absurd hb (hno0 b)⟩
 ·rename_i s ys0
  split at hx
  ·rename_i hs
   subst hs
   obtain ⟨pc, e1, e2, e3, e4⟩ := hv.c
   have hpc : ∃ ya c py, pc = .list s ya c py ∧ py.map (fun e => e.map PC.er) = ys0 := by
    cases pc with
    | int k n => simp [PC.er] at e1
    | bool b => simp [PC.er] at e1
    | list s' ya c py => rw [PC.er_list] at e1; injection e1 with e1 e5; subst e1; exact ⟨ya, c, py, rfl, e5⟩
   obtain ⟨ya, c, py, rfl, e5⟩ := hpc
   have hR : RightV w s py v := by rw [← e2]; exact RightV.of_good e3
   have hIm : ∀ b, RowF b py → G.Im b := fun b ⟨k, j, c, hk, hb⟩ => e4 b (.there _ _ _ _ k j c hk hb)
   have hdis : ∀ b, RowF b py → ∀ b', ¬ G.Im b' → (∀ q gr mo sz' xs', σ1.h q = some (.row gr mo sz' xs') → ¬ RowF b' (G.g q).px) → b ≠ b' := fun b hb b' hb' _ he => hb' (he ▸ hIm b hb)
   split at hx
   ·rename_i hsc
    injection hx with hx
    injection hx with h1 h2
    injection h2 with h2 h3
    subst h1 h2 h3
    replace hsc := (Bool.and_eq_true _ _ ▸ hsc).2
    rw [← e5] at hsc
    exact ⟨py, e5.symm, hR, F.append_noF hR.1 hR.2.1 (scalRow hsc), H, Keep.refl _ _ _ _, rfl, rfl, fun _ _ h => h, hdis⟩
   ·split at hx
    ·cases hx
    ·rename_i hlive
     injection hx with hx
     injection hx with h1 h2
     injection h2 with h2 h3
     subst h1 h2 h3
     refine ⟨py, e5.symm, hR, ⟨fun e he => (List.mem_append.1 he).elim (F.len e) (hR.1 e), fun k j c hk => ?_, fun b hb => (rowF_append hb).elim (F.toBor hlive b) (hIm b), fun h => absurd rfl h, fun h => by cases h⟩, H, Keep.refl _ _ _ _, rfl, rfl, fun _ _ h => h, hdis⟩
     rcases at_append hk with ⟨_, h⟩ | ⟨_, h⟩
     ·exact F.good _ _ _ h
     ·exact hR.2.1 _ _ _ h
  ·cases hx
 ·rename_i n s lo len
  split at hx
  ·rename_i gr m' rs ys0 hn
   split at hx
   ·rename_i hc
    obtain ⟨rfl, rfl, hl⟩ := hc
    have hn0 : σ1.h n ≠ none := by rw [hn]; simp
    have hr := H.row n gr m' s ys0 hn
    have hsl : SlOk (G.g n) s lo len v := (hv.oneRC (by simp)).1 hn0
    obtain ⟨q1, q2, q3, q4⟩ := slPC_ok hr hsl hl
    have hform : ∃ ya c, slPC (G.g n) s lo len v = .list s ya c (((G.g n).px.drop lo).take len) := by
     rcases hsl with ⟨_, rfl, _, _⟩ | ⟨_, a', rfl, _, _⟩ <;> exact ⟨_, _, rfl⟩
    obtain ⟨ya, c, hform⟩ := hform
    rw [hform] at q1 q2 q3 q4
    have hR : RightV w s (((G.g n).px.drop lo).take len) v := by rw [← q2]; exact RightV.of_good q3
    have hys : (ys0.drop lo).take len = (((G.g n).px.drop lo).take len).map (fun e => e.map PC.er) := by rw [PC.er_list] at q1; injection q1 with _ q1; exact q1.symm
    have hdis : ∀ b, RowF b (((G.g n).px.drop lo).take len) → ∀ b', ¬ G.Im b' → (∀ q gr mo sz' xs', σ1.h q = some (.row gr mo sz' xs') → ¬ RowF b' (G.g q).px) → b ≠ b' := by
     rintro b ⟨k, j, c, hk, hb⟩ b' _ hb' rfl
     exact hb' n gr m' s ys0 hn ⟨_, _, _, (at_sub hk).1, hb⟩
    split at hx
    ·rename_i hsc
     injection hx with hx
     injection hx with h1 h2
     injection h2 with h2 h3
     subst h1 h2 h3
     have hsc' := (Bool.and_eq_true _ _ ▸ hsc).2
     rw [hys] at hsc'
     exact ⟨_, hys, hR, F.append_noF hR.1 hR.2.1 (scalRow hsc'), H, Keep.refl _ _ _ _, rfl, rfl, fun _ _ h => h, hdis⟩
    ·split at hx
     ·rename_i hfull
      obtain ⟨rfl, rfl⟩ := hfull
      have hpx : ((G.g n).px.drop 0).take ys0.length = (G.g n).px := by
       have : ys0.length = (G.g n).px.length := by rw [hr.er]; simp
       rw [this]; simp
      rw [hpx] at hR hdis
      have F2 := Free.of_row H hn
      have F1 := F.del n
      have hgood : ∀ k j c, At (px ++ (G.g n).px) k j c → Good w c := fun k j c hk => by
       rcases at_append hk with ⟨_, h⟩ | ⟨_, h⟩
       ·exact F.good _ _ _ h
       ·exact F2.good _ _ _ h
      have hlen : ∀ e ∈ px ++ (G.g n).px, e.length = s := fun e he => (List.mem_append.1 he).elim (F.len e) (F2.len e)
      split at hx
      ·rename_i hmm
       subst hmm
       injection hx with hx
       injection hx with h1 h2
       injection h2 with h2 h3
       subst h1 h2 h3
       refine ⟨(G.g n).px, hr.er, hR, ⟨hlen, hgood, ?_, fun hm q gr' mo sz' xs' hq hmo b hb => ?_, fun hm b hb q hq hl => ?_⟩, H.del n, Keep.del n _, rfl, rfl, fun q b hq => (del_some hq).1, hdis⟩
       ·have m1 := F.mode
        have m3 := F2.mode
        cases m with
        | bor => exact fun b hb => (rowF_append hb).elim (m1 b) (m3 b)
        | froz => exact ⟨fun b hb => (rowF_append hb).elim (m1.1 b) (m3.1 b), rowSep_append m1.2 m3.2 (fun b hb => F.cross (by simp) n gr .froz s ys0 hn (by simp) b hb)⟩
        | live => exact ⟨fun b hb => (rowF_append hb).elim (m1.1 b) (m3.1 b), rowSep_append m1.2 m3.2 (fun b hb => F.cross (by simp) n gr .live s ys0 hn (by simp) b hb)⟩
       ·exact (rowF_append hb).elim (F1.cross hm q gr' mo sz' xs' hq hmo b) (F2.cross hm q gr' mo sz' xs' hq hmo b)
       ·exact (rowF_append hb).elim (fun h => F1.live hm b h q hq hl) (fun h => F2.live hm b h q hq hl)
      ·split at hx
       ·cases hx
       ·rename_i hnl
        injection hx with hx
        injection hx with h1 h2
        injection h2 with h2 h3
        subst h1 h2 h3
        refine ⟨(G.g n).px, hr.er, hR, ⟨hlen, hgood, fun b hb => (rowF_append hb).elim (F.toBor (fun h => hnl (.inl h)) b) (F2.toBor (fun h => hnl (.inr h)) b), fun h => absurd rfl h, fun h => by cases h⟩, H.del n, Keep.del n _, rfl, rfl, fun q b hq => (del_some hq).1, hdis⟩
     ·cases hx
   ·cases hx
  ·cases hx
 ·cases hx
theorem ex_append (r : R B E w0 N σ a w G) {n : Nat} {t e : TypeId} {i : TypeInfo} {z : Value} {x y : Operand} {mx my : MO} {fl : Bool} {sz by_ : Nat} {xs ys : List (List C)} {m m2 : Mode} {σ1 σ2 σ3 : St}
  (ho : o.op = .call { callee := .builtin .append, args := #[x, y], argTypes := #[t, t] }) (hd : o.dst = some n) (hN : n < N) (hm1 : chkMO x mx = true) (hm2 : chkMO y my = true)
  (ht : P.underlying t = some (.slice e)) (hi : P.info? e = some i) (hz : i.zero = some z) (hsz : i.size = sz) (hsz0 : 0 < sz) (hby : i.bytes = by_) (hby0 : 0 < by_) (hzs : z.cells.size = sz)
  (hl : appLeft σ sz (σ.ev mx) = some (xs, m, σ1)) (hr : appRight fl σ1 sz m (σ.ev my) = some (ys, m2, σ2)) (hb : (xs.length + ys.length) * by_ ≤ maxBytes)
  (hx : σ2.ins n (.row true m2 sz (xs ++ ys)) = some σ3) :
  o.wp P a w (Nx B E w0 N (σ3.put o.dst (.one (.sl n sz 0 (xs.length + ys.length))))) Q := by
 obtain ⟨hn, rfl⟩ := ins_some hx
 obtain ⟨x1, x2⟩ := r.ev hm1
 obtain ⟨y1, y2⟩ := r.ev hm2
 obtain ⟨px, e1, F1, L1, H1, K1, q1, q2, q3⟩ := left_ok r x1 hl
 have y1' : RA w G σ1.h (σ.ev my) (a.eval y) := y1.keep K1 y2
 rw [← q2] at H1
 obtain ⟨py, e2, R2, F2, H2, K2, p1, p2, p3, hdis⟩ := right_ok hsz0 H1 F1 y1' hr
 rw [q2] at H2
 have hxl : xs.length = px.length := by rw [e1]; simp
 have hyl : ys.length = py.length := by rw [e2]; simp
 have L2 : LeftV B E w G σ2.h sz m px (a.eval x) := by
  rcases L1 with h | ⟨b, o, cap, cur, e', b1, b2, b3, b4, b5, b6, ⟨l1, l2, l3⟩, b8, b9⟩
  ·exact .inl h
  ·refine .inr ⟨b, o, cap, cur, e', b1, b2, b3, b4, b5, b6, ⟨l1, fun q hq => ?_, fun q gr mo sz' xs' hq => l3 q gr mo sz' xs' (p3 q _ hq)⟩, b8, b9⟩
   cases hh : σ2.h q with
   | none => exact absurd hh hq
   | some bb => exact l2 q (by rw [p3 q bb hh]; simp)
 obtain ⟨u, w', G', hrun, r', hv⟩ := r.appendNew (P := P) (σ2 := σ2) (n := n) (m := m) (m2 := m2) (px := px) (py := py) (ty := o.type) (p1.trans q1) (p2.trans q2) H2 (Keep.trans (u2 := fun n => σ1.used n = true) (fun q hq => by rw [q2]; exact hq) K1 K2)
  (by rw [← q2, ← p2]; exact hn) hsz0 F2 F1.len L2 R2 (fun b hbF b' o' cap hc0 hvv hlone => by
   rcases L1 with ⟨_, h, _⟩ | ⟨b0, o0, cap0, cur, e', b1, b2, b3, b4, b5, b6, ⟨l1, l2, l3⟩, b8, b9⟩
   ·rw [h] at hvv; injection hvv with _ _ hvv; omega
   ·rw [b1] at hvv
    injection hvv with hvv
    injection hvv with hvv
    have hbb := (ad_inj hvv).1
    subst hbb
    exact hdis b hbF b0 l1 l3) ht hi hz hsz hby hby0 hzs (by rw [← hxl, ← hyl]; exact hb)
 have hmap : (px ++ py).map (fun e => e.map PC.er) = xs ++ ys := by rw [List.map_append, ← e1, ← e2]
 rw [hmap] at r' hv
 rw [← hxl, ← hyl] at hv
 refine wp_value (v := u) (w' := w') ?_ ⟨G', r'.put hv (fun q hq => by have hq' : q = n := hq; subst hq'; exact upd_same _ _ _) (fun q hq => by rw [hd] at hq; injection hq with hq; omega)⟩
 simp [execOp, ho, resolve, invoke, builtin, hrun]
end
end Go.Am