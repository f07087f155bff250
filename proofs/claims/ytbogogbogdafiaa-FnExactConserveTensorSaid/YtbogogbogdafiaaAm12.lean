/- Am12: stores. No condition. -/
import Derived.Test.YtbogogbogdafiaaAm11
set_option linter.unusedVariables false
namespace Go.Am
theorem splice_length {α : Type} {l vs : List α} {off : Nat} (h : off + vs.length ≤ l.length) : (splice l off vs).length = l.length := by
 simp [splice]; omega
theorem splice_get {α : Type} {l vs : List α} {off j : Nat} (h : off + vs.length ≤ l.length) : (splice l off vs)[j]? = if off ≤ j ∧ j < off + vs.length then vs[j - off]? else l[j]? := by
 unfold splice
 have ht : (l.take off).length = off := by simp; omega
 by_cases h1 : j < off
 ·rw [if_neg (by omega), List.append_assoc, List.getElem?_append_left (by omega), List.getElem?_take_of_lt h1]
 ·by_cases h2 : j < off + vs.length
  ·rw [if_pos ⟨by omega, h2⟩, List.append_assoc, List.getElem?_append_right (by omega), List.getElem?_append_left (by omega), ht]
  ·rw [if_neg (by omega), List.getElem?_append_right (by simp; omega), List.getElem?_drop]
   congr 1
   simp
   omega
theorem splice_map {α β : Type} (f : α → β) (l vs : List α) (off : Nat) : (splice l off vs).map f = splice (l.map f) off (vs.map f) := by
 simp [splice, List.map_take, List.map_drop]
def wSet (w : World) (b o : Nat) (vs : List Value) (cur : Array Value) : World := w.setRow b (cur.toList.take o ++ vs ++ cur.toList.drop (o + vs.length)).toArray
section
variable {w : World} {b o : Nat} {vs : List Value} {cur : Array Value} {e : TypeId}
theorem wSet_cell (hg : w.heap[b]? = some (.cells cur e (0, 0))) (hl : o + vs.length ≤ cur.size) (x : Nat) :
  (wSet w b o vs cur).cell? (ad b x) = if o ≤ x ∧ x < o + vs.length then vs[x - o]? else w.cell? (ad b x) := by
 unfold wSet ad
 rw [cell_setRow_same w b x cur _ e (0, 0) hg]
 have h1 := splice_get (l := cur.toList) (vs := vs) (off := o) (j := x) (by simpa using hl)
 simp only [splice] at h1
 rw [List.getElem?_toArray, h1]
 have h2 : w.cell? ⟨b, x, none⟩ = cur[x]? := by simp [World.cell?, hg]
 rw [h2]
 simp
theorem wSet_other (k : Nat) (hk : k ≠ b) : (wSet w b o vs cur).heap[k]? = w.heap[k]? := setRow_other w b k _ hk
theorem wSet_size : (wSet w b o vs cur).heap.size = w.heap.size := setRow_size _ _ _
theorem wSet_heap (hg : w.heap[b]? = some (.cells cur e (0, 0))) (hl : o + vs.length ≤ cur.size) : ∃ cur', (wSet w b o vs cur).heap[b]? = some (.cells cur' e (0, 0)) ∧ cur'.size = cur.size := by
 refine ⟨_, setRow_heap w b cur _ e (0, 0) hg, ?_⟩
 simp
 omega
theorem wSet_cz (hg : w.heap[b]? = some (.cells cur e (0, 0))) (hl : o + vs.length ≤ cur.size) : Cz w (wSet w b o vs cur) b := by
 intro arr e' h
 obtain ⟨cur', h1, h2⟩ := wSet_heap (vs := vs) (o := o) hg hl
 rw [hg] at h
 injection h with h
 injection h with ha hb
 subst ha hb
 exact ⟨cur', h1, h2⟩
theorem wSet_unf (hg : w.heap[b]? = some (.cells cur e (0, 0))) (hl : o + vs.length ≤ cur.size) (k : Nat) (hk : Unf w k) : Unf (wSet w b o vs cur) k := by
 by_cases hkb : k = b
 ·subst hkb
  obtain ⟨cur', h1, _⟩ := wSet_heap (vs := vs) (o := o) hg hl
  exact ⟨cur', e, h1⟩
 ·exact hk.congr (wSet_other k hkb)
end
section
variable {B : Nat} {E : Ex} {w0 w w' : World} {G G' : Gh} {h h' : Nat → Option Blk} {used used' : Nat → Bool} {tk : List PC} {N : Nat}
variable {P : Program} {o : Oper} {a : Act} {σ σ' : St} {Q : Exit → Act → World → Prop}
theorem upd_self {α : Type} (f : Nat → α) (n : Nat) : upd f n (f n) = f := by
 funext m; simp only [upd_def]; split
 ·rename_i h; rw [h]
 ·rfl
theorem run_storeVar {t : TypeId} {i : TypeInfo} {b off : Nat} {v : Value} {cur : Array Value} {e : TypeId} (hi : P.info? t = some i) (hsz : v.cells.size = i.size) (hg : w.heap[b]? = some (.cells cur e (0, 0)))
  (hl : off + v.cells.size ≤ cur.size) (h1 : ∀ u ∈ v.cells.toList, u.oneCell' = true) :
  (storeVar t (ad b off) v).run P w = .ok () (wSet w b off v.cells.toList cur) := by
 have hst := run_storeCells_at P b off e v.cells.toList 0 cur w hg (by simpa using hl) h1
 simp only [Nat.add_zero] at hst
 simp [storeVar, sizeOf, typeInfo, hi, hsz, ad, hst, wSet]
theorem HR.foot_ne (H : HR B E w G h used tk) {n m : Nat} {gr : Bool} {mo : Mode} {sz : Nat} {xs : List (List C)} (hn : h n ≠ none) (hl : (G.g n).nl = false) (hm : h m = some (.row gr mo sz xs)) {b : Nat} (hb : RowF b (G.g m).px) : b ≠ (G.g n).b := by
 have hmm := (H.row m gr mo sz xs hm).mode
 cases mo with
 | bor => rintro rfl; exact (H.own n hn hl).1 (hmm _ hb)
 | froz => rintro rfl; exact (H.own n hn hl).1 (hmm.1 _ hb).1
 | live => exact H.live m gr sz xs hm b hb n hn hl
theorem R.storeBox (r : R B E w0 N σ a w G) {n : Nat} {cs : List ACell} {vs : List ACell} {us : List Value} {off : Nat} (hn : σ.h n = some (.box cs)) (hv : RCl w G σ.h vs us) (href : ∀ c ∈ vs, ∀ m, c.ref m → σ.used m = true)
  (hl : off + vs.length ≤ cs.length) {cur : Array Value} {e : TypeId} (hg : w.heap[(G.g n).b]? = some (.cells cur e (0, 0))) (hfit : (G.g n).o + off + us.length ≤ cur.size) :
  R B E w0 N (σ.setB n (.box (splice cs off vs))) a (wSet w (G.g n).b ((G.g n).o + off) us cur) G := by
 have H := r.hr
 have hn0 : σ.h n ≠ none := by rw [hn]; simp
 obtain ⟨hnl, hunf, hcell⟩ := H.box n cs hn
 obtain ⟨ho1, ho2, ho3⟩ := H.own n hn0 hnl
 have huse := H.dom n hn0
 have hG : (⟨G.Im, upd G.g n (G.g n)⟩ : Gh) = G := by rw [upd_self]
 have hlen : us.length = vs.length := hv.1
 have hwo : ∀ b, b < w.heap.size → b ≠ (G.g n).b → (wSet w (G.g n).b ((G.g n).o + off) us cur).heap[b]? = w.heap[b]? := fun b _ hb => wSet_other b hb
 have K : Keep w G σ.h (fun n => σ.used n = true) (wSet w (G.g n).b ((G.g n).o + off) us cur) G (upd σ.h n (some (.box (splice cs off vs)))) := by
  refine ⟨fun _ h => h, fun b hb x => cell_congr (hwo b (H.imlt b hb) (fun he => ho1 (he ▸ hb))) x, fun m hm h0 => ?_, fun m gr sz xs hm h0 => ?_⟩
  ·by_cases hmn : m = n
   ·subst hmn; exact ⟨hn0, rfl, rfl, rfl, rfl, rfl⟩
   ·rw [upd_ne _ _ _ _ hmn] at h0; exact ⟨h0, rfl, rfl, rfl, rfl, rfl⟩
  ·by_cases hmn : m = n
   ·subst hmn; rw [upd_same] at h0; cases h0
   ·rw [upd_ne _ _ _ _ hmn] at h0; exact ⟨⟨gr, xs, h0⟩, fun k j pc h1 h2 => ⟨pc, h1, rfl, h2⟩⟩
 have Hn : HR B E (wSet w (G.g n).b ((G.g n).o + off) us cur) ⟨G.Im, upd G.g n (G.g n)⟩ (upd σ.h n (some (.box (splice cs off vs)))) σ.used [] := by
  refine H.put (fun b hb hne => hwo b hb (hne hnl)) (by rw [wSet_size]; exact Nat.le_refl _) (fun b _ hb => wSet_unf hg hfit b hb) (fun _ h => h) huse (fun _ => ⟨ho1, ho2, by rw [wSet_size]; exact ho3⟩)
   (fun _ m hm h0 hl0 => (H.inj m n h0 hn0 hm hl0 hnl)) (fun _ m gr sz xs hm h0 b hb => H.live m gr sz xs h0 b hb n hn0 hnl) ?_ (by rw [hG]; exact K) ?_
   (fun gr m sz xs hb => by cases hb) (fun gr sz xs hb => by cases hb) (fun gr m sz xs hb => by cases hb) ?_
  ·intro cs' c m hb hc hm
   injection hb with hb
   subst hb
   simp only [splice, List.mem_append] at hc
   rcases hc with (hc | hc) | hc
   ·exact H.wfh n cs c m hn (List.mem_of_mem_take hc) hm
   ·exact href c hc m hm
   ·exact H.wfh n cs c m hn (List.mem_of_mem_drop hc) hm
  ·rw [hG]
   refine ⟨hnl, wSet_unf hg hfit _ hunf, fun j c hj => ?_⟩
   rw [splice_get hl] at hj
   rw [wSet_cell hg hfit]
   by_cases hin : off ≤ j ∧ j < off + vs.length
   ·rw [if_pos hin] at hj
    rw [if_pos (by omega)]
    have hjl : j - off < us.length := by omega
    have hu : us[j - off]? = some (us[j - off]'hjl) := List.getElem?_eq_getElem hjl
    obtain ⟨q1, q2⟩ := hv.2 _ _ _ hj hu
    refine ⟨_, by rw [← hu]; congr 1; omega, q1, q2.keep K (href c (List.mem_of_getElem? hj))⟩
   ·rw [if_neg hin] at hj
    rw [if_neg (by omega)]
    obtain ⟨v, v1, v2, v3⟩ := hcell j c hj
    exact ⟨v, v1, v2, v3.keep K (fun m hm => H.wfh n cs c m hn (List.mem_of_getElem? hj) hm)⟩
  ·intro _ _ b hb
   obtain ⟨m, gr, mo, sz, xs, hm, h0, hbF⟩ := hb
   exact H.foot_ne hn0 hnl h0 hbF
 rw [hG] at Hn
 exact r.step (σ' := σ.setB n (.box (splice cs off vs))) rfl (fun _ h => h) K Hn (r.fr.one ho2 (fun b hb hne => hwo b hb hne) (by rw [wSet_size]; exact Nat.le_refl _) (wSet_cz hg hfit) rfl rfl rfl)
theorem at_set {α : Type} {px : List (List α)} {k k' j : Nat} {pe : List α} {c : α} (hk : k < px.length) (h : At (px.set k pe) k' j c) : (k' = k ∧ pe[j]? = some c) ∨ (k' ≠ k ∧ At px k' j c) := by
 obtain ⟨e, he, hj⟩ := h
 by_cases hkk : k' = k
 ·subst hkk
  rw [List.getElem?_set_self hk] at he
  injection he with he
  subst he
  exact .inl ⟨rfl, hj⟩
 ·rw [List.getElem?_set_ne (Ne.symm hkk)] at he
  exact .inr ⟨hkk, e, he, hj⟩
theorem PC.isL_scal {pc : PC} (h : pc.isL = true) : pc.er.scal = false := by
 cases pc <;> simp [PC.isL] at h
 simp [PC.er_list, C.scal]
theorem R.storeRow (r : R B E w0 N σ a w G) {n : Nat} {gr : Bool} {m : Mode} {rs : Nat} {xs : List (List C)} {k off : Nat} {e : List C} {vs : List ACell} {us : List Value} {σ2 : St}
  (hn : σ.h n = some (.row gr m rs xs)) (hnl : (G.g n).nl = false) (hk : xs[k]? = some e) (hv : RCl w G σ.h vs us) (href : ∀ c ∈ vs, ∀ m, c.ref m → σ.used m = true)
  (hx : Am.storeRow σ n gr m rs xs k off e vs = some σ2) {cur : Array Value} {et : TypeId} (hg : w.heap[(G.g n).b]? = some (.cells cur et (0, 0))) (hfit : (G.g n).o + k * rs + off + us.length ≤ cur.size) :
  ∃ G', R B E w0 N σ2 a (wSet w (G.g n).b ((G.g n).o + k * rs + off) us cur) G' := by
 unfold Am.storeRow at hx
 split at hx
 ·cases hx
 rename_i old hsub
 obtain ⟨s1, s2, s3⟩ := sub_some hsub
 split at hx
 ·cases hx
 rename_i cs ow σ1 htake
 obtain ⟨Im', pcs, a1, a2, a3, a4, a5, a6, a7, a8⟩ := HR.takeL r.hr htake hv href
 simp only [List.nil_append] at a4
 have H0 : HR B E w ⟨Im', G.g⟩ σ1.h σ.used [] := by
  cases ow
  ·simpa using a4
  ·have a4' : HR B E w ⟨Im', G.g⟩ σ1.h σ.used ([] ++ pcs) := by simpa using a4
   exact a4'.tkTake
 have hlen : us.length = vs.length := hv.1
 have hpl : pcs.length = vs.length := by have := congrArg List.length a2; simp at this; omega
 -- what is left of the two ways
 have hcase : (σ1.h n).isSome = true ∧ ∃ m', σ2 = σ1.setB n (.row gr m' rs (xs.set k (splice e off cs))) ∧
   ((m = .live ∧ m' = .live ∧ scalL cs = true ∧ scalL old = true) ∨ (m ≠ .live ∧ m' = if ow = true then m else .bor)) := by
  split at hx
  ·rename_i hm
   split at hx
   ·rename_i hc
    injection hx with hx
    exact ⟨hc.2.2, m, by rw [← hx], .inl ⟨hm, hm, hc.1, hc.2.1⟩⟩
   ·cases hx
  ·rename_i hm
   split at hx
   ·rename_i hs
    injection hx with hx
    exact ⟨hs, _, hx.symm, .inr ⟨hm, rfl⟩⟩
   ·cases hx
 obtain ⟨hsome, m', rfl, hmode⟩ := hcase
 have hn1 : σ1.h n = some (.row gr m rs xs) := by
  cases hh : σ1.h n with
  | none => rw [hh] at hsome; cases hsome
  | some b => rw [← a8 n b hh, hn]
 have hn0 : σ1.h n ≠ none := by rw [hn1]; simp
 have hr := H0.row n gr m rs xs hn1
 obtain ⟨ho1, ho2, ho3⟩ := H0.own n hn0 hnl
 have huse := H0.dom n hn0
 obtain ⟨l1, l2, l3⟩ := hr.lies hnl
 have hpe : ∃ pe, (G.g n).px[k]? = some pe ∧ pe.map PC.er = e := by
  have her := hr.er
  rw [her, List.getElem?_map] at hk
  cases hp : (G.g n).px[k]? with
  | none => rw [hp] at hk; cases hk
  | some pe => rw [hp] at hk; simp at hk; exact ⟨pe, rfl, hk⟩
 obtain ⟨pe, hpe1, hpe2⟩ := hpe
 have hkl : k < (G.g n).px.length := (List.getElem?_eq_some_iff.1 hpe1).1
 have hpel : pe.length = rs := l2.1 pe (List.mem_of_getElem? hpe1)
 have hoff : off + pcs.length ≤ pe.length := by rw [← hpe2] at s1; simp at s1; omega
 let pe' := splice pe off pcs
 let px' := (G.g n).px.set k pe'
 let w2 := wSet w (G.g n).b ((G.g n).o + k * rs + off) us cur
 let p' : PB := ⟨false, (G.g n).b, (G.g n).o, (G.g n).cap, px', (G.g n).na⟩
 have hpe'l : pe'.length = rs := by show (splice pe off pcs).length = rs; rw [splice_length hoff, hpel]
 -- a cell of the new row: new, or an old one
 have hat : ∀ k' j c, At px' k' j c → (k' = k ∧ off ≤ j ∧ j < off + pcs.length ∧ pcs[j - off]? = some c) ∨ ((k' ≠ k ∨ ¬ (off ≤ j ∧ j < off + pcs.length)) ∧ At (G.g n).px k' j c) := by
  intro k' j c h
  rcases at_set hkl h with ⟨rfl, hj⟩ | ⟨hne, h⟩
  ·rw [splice_get hoff] at hj
   by_cases hin : off ≤ j ∧ j < off + pcs.length
   ·rw [if_pos hin] at hj; exact .inl ⟨rfl, hin.1, hin.2, hj⟩
   ·rw [if_neg hin] at hj; exact .inr ⟨.inr hin, pe, hpe1, hj⟩
  ·exact .inr ⟨.inl hne, h⟩
 have hatk : ∀ k' j c, At px' k' j c → j < rs := by
  intro k' j c h
  obtain ⟨e1, he, hj⟩ := h
  have : e1.length = rs := by
   rcases List.mem_or_eq_of_mem_set (List.mem_of_getElem? he) with h1 | h1
   ·exact l2.1 e1 h1
   ·rw [h1]; exact hpe'l
  rw [← this]
  exact (List.getElem?_eq_some_iff.1 hj).1
 have hfoot : ∀ b, RowF b px' → RowF b (G.g n).px ∨ ∃ (i : Nat) (c : PC), pcs[i]? = some c ∧ InF b c := by
  rintro b ⟨k', j, c, hkj, hb⟩
  rcases hat k' j c hkj with ⟨_, _, _, hp⟩ | ⟨_, hp⟩
  ·exact .inr ⟨_, c, hp, hb⟩
  ·exact .inl ⟨k', j, c, hp, hb⟩
 have hwo : ∀ b, b ≠ (G.g n).b → w2.heap[b]? = w.heap[b]? := fun b hb => wSet_other b hb
 have hpcIm : ∀ (i : Nat) (c : PC) (b : Nat), pcs[i]? = some c → InF b c → Im' b := fun i c b hi hb => (a3 c (List.mem_of_getElem? hi)).2 b hb
 have hImne : ∀ b, Im' b → b ≠ (G.g n).b := fun b hb he => ho1 (he ▸ hb)
 have hnest : ∀ b, RowF b (G.g n).px → b ≠ (G.g n).b := fun b hb => H0.foot_ne hn0 hnl hn1 hb
 have hrow : RowAt w2 (G.g n).b (G.g n).o rs px' := by
  refine ⟨fun e1 he => ?_, fun k' j c hkj => ?_, fun k' j c hkj => ?_⟩
  ·rcases List.mem_or_eq_of_mem_set he with h1 | h1
   ·exact l2.1 e1 h1
   ·rw [h1]; exact hpe'l
  ·have hj := hatk k' j c hkj
   show w2.cell? _ = _
   rw [wSet_cell hg hfit]
   rcases hat k' j c hkj with ⟨rfl, h1, h2, hp⟩ | ⟨hne, hp⟩
   ·rw [if_pos (by omega)]
    have hu : us[j - off]? = some c.val := by rw [← a2, List.getElem?_map, hp]; rfl
    rw [← hu]
    congr 1
    omega
   ·rw [if_neg ?_]
    ·exact l2.2.1 k' j c hp
    ·rintro ⟨q1, q2⟩
     rcases hne with hne | hne
     ·rcases Nat.lt_or_gt_of_ne hne with hlt | hgt
      ·have : (k' + 1) * rs ≤ k * rs := Nat.mul_le_mul_right _ hlt
       rw [Nat.add_mul] at this
       omega
      ·have : (k + 1) * rs ≤ k' * rs := Nat.mul_le_mul_right _ hgt
       rw [Nat.add_mul] at this
       omega
     ·have : k' = k := by
       rcases Nat.lt_trichotomy k' k with hlt | heq | hgt
       ·have : (k' + 1) * rs ≤ k * rs := Nat.mul_le_mul_right _ hlt
        rw [Nat.add_mul] at this
        omega
       ·exact heq
       ·have : (k + 1) * rs ≤ k' * rs := Nat.mul_le_mul_right _ hgt
        rw [Nat.add_mul] at this
        omega
      subst this
      omega
  ·rcases hat k' j c hkj with ⟨_, _, _, hp⟩ | ⟨_, hp⟩
   ·exact (a3 c (List.mem_of_getElem? hp)).1.congr fun b hb x => cell_congr (hwo b (hImne b (hpcIm _ c b hp hb))) x
   ·exact (l2.2.2 k' j c hp).congr fun b hb x => cell_congr (hwo b (hnest b ⟨k', j, c, hp, hb⟩)) x
 have hfit' : (G.g n).o + k * rs + off + us.length ≤ cur.size := hfit
 have hscal : scalL cs = true → ∀ (i : Nat) (c : PC) (b : Nat), pcs[i]? = some c → ¬ InF b c := by
  intro hs i c b hi
  have hc : c.er ∈ cs := by rw [← a1]; exact List.mem_map_of_mem (List.mem_of_getElem? hi)
  exact (Sep.of_scal (pc := c) (List.all_eq_true.1 hs _ hc)).2 b
 have hold : scalL old = true → ∀ j c, off ≤ j → j < off + pcs.length → pe[j]? = some c → c.er.scal = true := by
  intro hs j c h1 h2 hj
  have : c.er ∈ old := by
   have h3 : old[j - off]? = some c.er := by
    have e0 : old[j - off]? = ((e.drop off).take vs.length)[j - off]? := congrArg (fun q : List C => q[j - off]?) s2
    rw [e0, sub_get (by omega), ← hpe2, List.getElem?_map, show off + (j - off) = j by omega, hj]
    rfl
   exact List.mem_of_getElem? h3
  exact List.all_eq_true.1 hs _ this
 have K2 : Keep w ⟨Im', G.g⟩ σ1.h (fun n => σ.used n = true) w2 ⟨Im', upd G.g n p'⟩ (upd σ1.h n (some (.row gr m' rs (xs.set k (splice e off cs))))) := by
  refine ⟨fun _ h => h, fun b hb x => cell_congr (hwo b (hImne b hb)) x, fun q hq h0 => ?_, fun q gr' sz' xs' hq h0 => ?_⟩
  ·by_cases hqn : q = n
   ·subst hqn
    refine ⟨hn0, ?_⟩
    simp only [upd_same]
    exact ⟨hnl.symm, rfl, rfl, rfl, rfl⟩
   ·rw [upd_ne _ _ _ _ hqn] at h0
    simp only [upd_ne _ _ _ _ hqn]
    exact ⟨h0, trivial, trivial, trivial, trivial, trivial⟩
  ·by_cases hqn : q = n
   ·subst hqn
    rw [upd_same] at h0
    injection h0 with h0
    injection h0 with e1 e2 e3 e4
    subst e1; subst e2; subst e3
    rcases hmode with ⟨hm, _, hs, hso⟩ | ⟨hm, hm'⟩
    ·subst hm
     refine ⟨⟨gr, xs, hn1⟩, fun k' j pc hkj hL => ?_⟩
     simp only [upd_same]
     refine ⟨pc, ?_, rfl, hL⟩
     obtain ⟨e1, he, hj⟩ := hkj
     by_cases hkk : k' = k
     ·subst hkk
      rw [hpe1] at he
      injection he with he
      subst he
      refine ⟨pe', List.getElem?_set_self hkl, ?_⟩
      show (splice pe off pcs)[j]? = some pc
      rw [splice_get hoff]
      rw [if_neg ?_]
      ·exact hj
      ·rintro ⟨q1, q2⟩
       have := hold hso j pc q1 q2 hj
       rw [PC.isL_scal hL] at this
       cases this
     ·exact ⟨e1, by show ((G.g q).px.set k pe')[k']? = some e1; rw [List.getElem?_set_ne (Ne.symm hkk)]; exact he, hj⟩
    ·cases ow
     ·simp at hm'
     ·simp at hm'; exact absurd hm'.symm hm
   ·rw [upd_ne _ _ _ _ hqn] at h0
    simp only [upd_ne _ _ _ _ hqn]
    exact ⟨⟨gr', xs', h0⟩, fun k j pc h1 h2 => ⟨pc, h1, rfl, h2⟩⟩
 have hunf2 : ∀ b, Unf w b → Unf w2 b := fun b hb => wSet_unf hg hfit b hb
 -- the new row's facts where it is owned
 have howned : m' ≠ .bor → (∀ b, RowF b px' → Unf w b ∧ (B ≤ b ∨ E b)) ∧ RowSep px' ∧ (m' = .froz → ∀ b, RowF b px' → Im' b) ∧ (m' = .live → ∀ b, RowF b px' → RowF b (G.g n).px) ∧
   (∀ q gr' mo sz' xs', q ≠ n → σ1.h q = some (.row gr' mo sz' xs') → mo ≠ .bor → ∀ b, RowF b px' → ¬ RowF b (G.g q).px) := by
  intro hmb
  have hmm := hr.mode
  rcases hmode with ⟨rfl, rfl, hs, hso⟩ | ⟨hm, hm'⟩
  ·have hsub : ∀ b, RowF b px' → RowF b (G.g n).px := fun b hb => (hfoot b hb).resolve_right (fun ⟨i, c, hi, hb⟩ => hscal hs i c b hi hb)
   refine ⟨fun b hb => (hmm.1 b (hsub b hb)).2, ⟨fun k' j c hkj => ?_, fun k1 j1 c1 k2 j2 c2 b h1 h2 hne hb => ?_⟩, (fun h => by cases h), fun _ => hsub, fun q gr' mo sz' xs' hqn hq hmo b hb => H0.cross n q gr .live rs xs gr' mo sz' xs' hn1 hq (by simp) hmo (Ne.symm hqn) b (hsub b hb)⟩
   ·rcases hat k' j c hkj with ⟨_, _, _, hp⟩ | ⟨_, hp⟩
    ·exact Sep.of_noF (fun b hb => hscal hs _ c b hp hb) (a3 c (List.mem_of_getElem? hp)).1
    ·exact hmm.2.1 k' j c hp
   ·rcases hat k1 j1 c1 h1 with ⟨_, _, _, hp⟩ | ⟨_, hp⟩
    ·exact absurd hb (hscal hs _ c1 b hp)
    ·rcases hat k2 j2 c2 h2 with ⟨_, _, _, hp'⟩ | ⟨_, hp'⟩
     ·exact hscal hs _ c2 b hp'
     ·exact hmm.2.2 k1 j1 c1 k2 j2 c2 b hp hp' hne hb
  ·cases ow
   ·simp at hm'; exact absurd hm' hmb
   ·simp only [if_true] at hm' a4
    subst hm'
    have hfz : m' = .froz := by cases m' <;> first | rfl | exact absurd rfl hm | exact absurd rfl hmb
    subst hfz
    refine ⟨fun b hb => ?_, ⟨fun k' j c hkj => ?_, fun k1 j1 c1 k2 j2 c2 b h1 h2 hne hb => ?_⟩, fun _ b hb => ?_, (fun h => by cases h), fun q gr' mo sz' xs' hqn hq hmo b hb => ?_⟩
    ·rcases hfoot b hb with h1 | ⟨i, c, hi, h1⟩
     ·exact (hmm.1 b h1).2
     ·exact ((a4.tkok i c hi).2 b h1).2
    ·rcases hat k' j c hkj with ⟨_, _, _, hp⟩ | ⟨_, hp⟩
     ·exact (a4.tkok _ c hp).1
     ·exact hmm.2.1 k' j c hp
    ·rcases hat k1 j1 c1 h1 with ⟨e1, q1, q2, hp⟩ | ⟨_, hp⟩
     ·rcases hat k2 j2 c2 h2 with ⟨e2, q3, q4, hp'⟩ | ⟨_, hp'⟩
      ·have hij : j1 - off ≠ j2 - off := fun hh => hne (by rw [e1, e2, show j1 = j2 by omega])
       exact a4.tkdis _ _ c1 c2 b hij hp hp' hb
      ·exact fun hb' => a4.tkrow _ c1 n gr .froz rs xs b hp hn1 (by simp) hb ⟨k2, j2, c2, hp', hb'⟩
     ·rcases hat k2 j2 c2 h2 with ⟨e2, q3, q4, hp'⟩ | ⟨_, hp'⟩
      ·exact fun hb' => a4.tkrow _ c2 n gr .froz rs xs b hp' hn1 (by simp) hb' ⟨k1, j1, c1, hp, hb⟩
      ·exact hmm.2.2 k1 j1 c1 k2 j2 c2 b hp hp' hne hb
    ·rcases hfoot b hb with h1 | ⟨i, c, hi, h1⟩
     ·exact (hmm.1 b h1).1
     ·exact hpcIm i c b hi h1
    ·rcases hfoot b hb with h1 | ⟨i, c, hi, h1⟩
     ·exact H0.cross n q gr .froz rs xs gr' mo sz' xs' hn1 hq (by simp) hmo (Ne.symm hqn) b h1
     ·exact a4.tkrow i c q gr' mo sz' xs' b hi hq hmo h1
 have Hn : HR B E w2 ⟨Im', upd G.g n p'⟩ (upd σ1.h n (some (.row gr m' rs (xs.set k (splice e off cs))))) σ.used [] := by
  refine H0.put (p := p') (fun b hb hne => hwo b (hne rfl)) (by show w.heap.size ≤ w2.heap.size; rw [wSet_size]; exact Nat.le_refl _) (fun b _ hb => hunf2 b hb) (fun _ h => h) huse
   (fun _ => ⟨ho1, ho2, by show _ < w2.heap.size; rw [wSet_size]; exact ho3⟩)
   (fun _ q hq h0 hl0 => (H0.inj q n h0 hn0 hq hl0 hnl)) (fun _ q gr' sz' xs' hq h0 b hb => H0.live q gr' sz' xs' h0 b hb n hn0 hnl) (fun cs c q hb => by cases hb) K2 ?_ ?_ ?_ (fun gr m sz xs _ _ i pc b hi => by simp at hi) ?_
  ·refine ⟨hr.pos, ?_, (fun hl => by cases hl), fun _ => ⟨hunf2 _ l1, hrow, by show ((G.g n).px.set k pe').length ≤ _; simpa using l3⟩, fun _ hgr => ?_, ?_⟩
   ·show xs.set k (splice e off cs) = ((G.g n).px.set k pe').map _
    rw [List.map_set, ← hr.er]
    congr 1
    show splice e off cs = (splice pe off pcs).map PC.er
    rw [splice_map, hpe2, a1]
   ·obtain ⟨r2, cur', e', r3, r4⟩ := hr.room hnl hgr
    rw [hg] at r3
    injection r3 with r3
    injection r3 with r3 _ _
    subst r3
    obtain ⟨cur2, c1, c2⟩ := wSet_heap (vs := us) (o := (G.g n).o + k * rs + off) hg hfit
    exact ⟨r2, cur2, et, c1, by rw [c2]; exact r4⟩
   ·show ModeOk B E w2 ⟨Im', _⟩ px' m'
    by_cases hmb : m' = .bor
    ·rw [hmb]
     intro b hb
     rcases hfoot b hb with h1 | ⟨i, c, hi, h1⟩
     ·have hmm := hr.mode
      rcases hmode with ⟨_, h2, _⟩ | ⟨hm, _⟩
      ·rw [hmb] at h2; cases h2
      ·cases m with
       | bor => exact hmm b h1
       | froz => exact (hmm.1 b h1).1
       | live => exact absurd rfl hm
     ·exact hpcIm i c b hi h1
    ·obtain ⟨o1, o2, o3, o4, o5⟩ := howned hmb
     cases m' with
     | bor => exact absurd rfl hmb
     | froz => exact ⟨fun b hb => ⟨o3 rfl b hb, hunf2 b (o1 b hb).1, (o1 b hb).2⟩, o2⟩
     | live =>
      refine ⟨fun b hb => ⟨?_, hunf2 b (o1 b hb).1, (o1 b hb).2⟩, o2⟩
      have hmm := hr.mode
      rcases hmode with ⟨hm, _, _⟩ | ⟨hm, hm'⟩
      ·subst hm; exact (hmm.1 b (o4 rfl b hb)).1
      ·cases ow
       ·simp at hm'
       ·simp at hm'; exact absurd hm'.symm hm
  ·intro gr' m2 sz' xs' hb hmb q gr2 mo sz2 xs2 hqn hq hmo b hbF
   injection hb with _ hb _ _
   subst hb
   exact (howned hmb).2.2.2.2 q gr2 mo sz2 xs2 hqn hq hmo b hbF
  ·intro gr' sz' xs' hb b hbF
   injection hb with _ hb _ _
   subst hb
   have hsub := (howned (by simp)).2.2.2.1 rfl b hbF
   have hm : m = .live := by
    rcases hmode with ⟨hm, _, _⟩ | ⟨hm, hm'⟩
    ·exact hm
    ·cases ow
     ·simp at hm'
     ·simp at hm'; exact absurd hm'.symm hm
   subst hm
   exact ⟨fun _ => H0.live n gr rs xs hn1 b hsub n hn0 hnl, fun q hqn hq hql => H0.live n gr rs xs hn1 b hsub q hq hql⟩
  ·intro _ _ b hb
   obtain ⟨q, gr', mo, sz', xs', hq, h0, hbF⟩ := hb
   exact H0.foot_ne hn0 hnl h0 hbF
 refine ⟨⟨Im', upd G.g n p'⟩, ?_⟩
 exact r.step (σ' := σ1.setB n (.row gr m' rs (xs.set k (splice e off cs)))) a6 (fun q hq => by show σ1.used q = true; rw [a7]; exact hq)
  (Keep.trans (u2 := fun n => σ.used n = true) (fun _ h => h) a5 K2) (by show HR B E w2 _ (upd σ1.h n _) σ1.used []; rw [a7]; exact Hn) (r.fr.one ho2 (fun b hb hne => hwo b hne) (by show w.heap.size ≤ w2.heap.size; rw [wSet_size]; exact Nat.le_refl _) (wSet_cz hg hfit) rfl rfl rfl)
end
end Go.Am