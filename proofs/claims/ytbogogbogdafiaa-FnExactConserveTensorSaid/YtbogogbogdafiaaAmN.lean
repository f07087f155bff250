/- AmN: calls that change lists of their arguments: what becomes of the caller's names. No condition. -/
import Derived.Test.YtbogogbogdafiaaAmM
set_option linter.unusedVariables false
namespace Go.Am
section
variable {B : Nat} {E : Ex} {w0 w w' : World} {G G' : Gh} {N : Nat} {h h' : Nat → Option Blk} {used : Nat → Bool}
variable {P : Program} {o : Oper} {a : Act} {σ σ' : St} {Q : Exit → Act → World → Prop}
structure Chg (w' : World) (p p' : PB) (gr : Bool) (m : Mode) (sz : Nat) (xs' : List (List C)) : Prop where
 m1 : m ≠ .bor
 fl : (∀ b, ¬ RowF b p.px) ∨ m = .live
 nl : p'.nl = p.nl
 b : p'.b = p.b
 o : p'.o = p.o
 cap : p'.cap = p.cap
 na : p'.na = p.na
 er : xs' = p'.px.map (fun e => e.map PC.er)
 nlx : p.nl = true → p'.px = []
 lies : p.nl = false → RowAt w' p.b p.o sz p'.px ∧ p'.px.length ≤ p.cap
 sep : RowSep p'.px
 sub : ∀ b, RowF b p'.px → RowF b p.px
 live : m = .live → ∀ k j pc, At p.px k j pc → pc.isL = true → ∃ pc', At p'.px k j pc' ∧ pc'.val = pc.val ∧ pc'.isL = true
theorem HR.mutate (H : HR B E w G h used []) {S : Nat → Prop} (hsz : w.heap.size ≤ w'.heap.size)
  (hw : ∀ b, b < w.heap.size → (∀ n, S n → ¬ ftN G n b) → w'.heap[b]? = w.heap[b]?) (hcz : ∀ b, b < w.heap.size → Cz w w' b) (hIm : G'.Im = G.Im)
  (hS : ∀ n, S n → ∃ gr m sz xs xs', h n = some (.row gr m sz xs) ∧ h' n = some (.row gr m sz xs') ∧ Chg w' (G.g n) (G'.g n) gr m sz xs')
  (hN : ∀ n, ¬ S n → h' n = h n ∧ G'.g n = G.g n) : HR B E w' G' h' used [] ∧ Keep w G h (fun n => used n = true) w' G' h' ∧ ∀ n b, RowF b (G'.g n).px → RowF b (G.g n).px := by
 have ne : ∀ n, h' n ≠ none → h n ≠ none := by
  intro n hn
  by_cases hs : S n
  ·obtain ⟨gr, m, sz, xs, xs', e1, e2, _⟩ := hS n hs
   rw [e1]; simp
  ·rwa [(hN n hs).1] at hn
 have same : ∀ n, (G'.g n).nl = (G.g n).nl ∧ (G'.g n).b = (G.g n).b ∧ (G'.g n).o = (G.g n).o ∧ (G'.g n).cap = (G.g n).cap ∧ (G'.g n).na = (G.g n).na := by
  intro n
  by_cases hs : S n
  ·obtain ⟨gr, m, sz, xs, xs', e1, e2, c⟩ := hS n hs
   exact ⟨c.nl, c.b, c.o, c.cap, c.na⟩
  ·rw [(hN n hs).2]; exact ⟨rfl, rfl, rfl, rfl, rfl⟩
 have sub : ∀ n b, RowF b (G'.g n).px → RowF b (G.g n).px := by
  intro n b hb
  by_cases hs : S n
  ·obtain ⟨gr, m, sz, xs, xs', e1, e2, c⟩ := hS n hs
   exact c.sub b hb
  ·rwa [(hN n hs).2] at hb
 have rowOf : ∀ n gr m sz xs', h' n = some (.row gr m sz xs') → ∃ xs, h n = some (.row gr m sz xs) := by
  intro n gr m sz xs' hn
  by_cases hs : S n
  ·obtain ⟨gr1, m1, sz1, xs, xs1, e1, e2, _⟩ := hS n hs
   rw [e2] at hn
   injection hn with hn
   injection hn with a1 a2 a3 a4
   subst a1 a2 a3
   exact ⟨xs, e1⟩
  ·rw [(hN n hs).1] at hn; exact ⟨xs', hn⟩
 have boxOf : ∀ n cs, h' n = some (.box cs) → h n = some (.box cs) ∧ ¬ S n := by
  intro n cs hn
  by_cases hs : S n
  ·obtain ⟨gr1, m1, sz1, xs, xs1, e1, e2, _⟩ := hS n hs
   rw [e2] at hn; cases hn
  ·rw [(hN n hs).1] at hn; exact ⟨hn, hs⟩
 -- what stays
 have keepIm : ∀ b, G.Im b → w'.heap[b]? = w.heap[b]? := by
  intro b hb
  refine hw b (H.imlt b hb) fun n hs hf => ?_
  obtain ⟨gr, m, sz, xs, xs', e1, e2, c⟩ := hS n hs
  rcases hf with ⟨hl, rfl⟩ | hF
  ·exact (H.own n (by rw [e1]; simp) hl).1 hb
  ·rcases c.fl with c1 | rfl
   ·exact c1 b hF
   ·exact ((H.row n gr .live sz xs e1).mode.1 b hF).1 hb
 have keepOwn : ∀ n, ¬ S n → h n ≠ none → (G.g n).nl = false → w'.heap[(G.g n).b]? = w.heap[(G.g n).b]? := by
  intro n hs hn hl
  refine hw _ (H.own n hn hl).2.2 fun q hq hf => ?_
  obtain ⟨gr, m, sz, xs, xs', e1, e2, c⟩ := hS q hq
  have hne : n ≠ q := fun e => hs (e ▸ hq)
  rcases hf with ⟨hl2, hb⟩ | hF
  ·exact H.inj n q hn (by rw [e1]; simp) hne hl hl2 hb
  ·rcases c.fl with c1 | rfl
   ·exact c1 _ hF
   ·exact H.live q gr sz xs e1 _ hF n hn hl rfl
 have keepRow : ∀ n gr m sz xs, ¬ S n → h n = some (.row gr m sz xs) → ∀ b, RowF b (G.g n).px → w'.heap[b]? = w.heap[b]? := by
  intro n gr m sz xs hs hn b hb
  refine hw _ (H.rowF_lt hn hb) fun q hq hf => ?_
  obtain ⟨gr', m', sz', xs1, xs1', e1, e2, c⟩ := hS q hq
  have hne : n ≠ q := fun e => hs (e ▸ hq)
  exact H.ft_dis hne hn e1 c.fl (.inr hb) hf
 have K : Keep w G h (fun n => used n = true) w' G' h' := by
  refine ⟨fun b hb => by rw [hIm]; exact hb, fun b hb o => cell_congr (keepIm b hb) o, fun n _ hn => ⟨ne n hn, same n⟩, fun n gr sz xs' _ hn => ?_⟩
  obtain ⟨xs, e⟩ := rowOf n gr .live sz xs' hn
  refine ⟨⟨gr, xs, e⟩, fun k j pc hk hL => ?_⟩
  by_cases hs : S n
  ·obtain ⟨gr1, m1, sz1, xs1, xs1', e1, e2, c⟩ := hS n hs
   rw [e] at e1
   injection e1 with e1
   injection e1 with _ e1 _ _
   exact c.live e1.symm k j pc hk hL
  ·rw [(hN n hs).2]; exact ⟨pc, hk, rfl, hL⟩
 refine ⟨⟨fun n hn => H.dom n (ne n hn), fun m cs c n hm => H.wfh m cs c n (boxOf m cs hm).1, fun n cs hn => ?_, fun n gr m sz xs' hn => ?_, fun n hn hl => ?_, fun n n' hn hn' hne hl hl' => ?_,
  fun b hb => ?_, fun b hb => H.img b (by rw [hIm] at hb; exact hb), fun n n' gr m sz xs gr' m' sz' xs' hn hn' hm hm' hne b hb hb' => ?_, fun n gr sz xs hn b hb n' hn' hl => ?_, ?_, ?_, ?_⟩, K, sub⟩
 ·obtain ⟨h1, hs⟩ := boxOf n cs hn
  obtain ⟨a1, a2, a3⟩ := H.box n cs h1
  have hb := keepOwn n hs (by rw [h1]; simp) a1
  rw [(hN n hs).2]
  refine ⟨a1, a2.congr hb, fun j c hj => ?_⟩
  obtain ⟨v, v1, v2, v3⟩ := a3 j c hj
  exact ⟨v, (cell_congr hb _).trans v1, v2, v3.keep K fun q hq => H.wfh n cs c q h1 (List.mem_of_getElem? hj) hq⟩
 ·by_cases hs : S n
  ·obtain ⟨gr1, m1, sz1, xs1, xs1', e1, e2, c⟩ := hS n hs
   rw [e2] at hn
   injection hn with hn
   injection hn with q1 q2 q3 q4
   subst q1 q2 q3 q4
   have hr := H.row n gr1 m1 sz1 xs1 e1
   refine ⟨hr.pos, c.er, fun hl => ?_, fun hl => ?_, fun hl hg => ?_, ?_⟩
   ·rw [c.nl] at hl
    refine ⟨c.nlx hl, fun hg => ?_⟩
    rw [c.cap]
    exact (hr.nl hl).2 hg
   ·rw [c.nl] at hl
    obtain ⟨l1, l2, l3⟩ := hr.lies hl
    obtain ⟨c1, c2⟩ := c.lies hl
    rw [c.b, c.o, c.cap]
    exact ⟨(hcz _ l1.lt).unf l1, c1, c2⟩
   ·rw [c.nl] at hl
    obtain ⟨r2, cur, e, r3, r4⟩ := hr.room hl hg
    obtain ⟨cur', s1, s2⟩ := hcz (G.g n).b (H.own n (by rw [e1]; simp) hl).2.2 cur e r3
    unfold Room
    rw [c.b, c.o, c.cap]
    exact ⟨r2, cur', e, s1, s2.trans r4⟩
   ·have hm := hr.mode
    cases m1 with
    | bor => exact absurd rfl c.m1
    | froz => exact ⟨fun b hb => by
      have hb' := c.sub b hb
      have := hm.1 b hb'
      exact ⟨by rw [hIm]; exact this.1, (hcz b this.2.1.lt).unf this.2.1, this.2.2⟩, c.sep⟩
    | live => exact ⟨fun b hb => by
      have hb' := c.sub b hb
      have := hm.1 b hb'
      exact ⟨by rw [hIm]; exact this.1, (hcz b this.2.1.lt).unf this.2.1, this.2.2⟩, c.sep⟩
  ·rw [(hN n hs).1] at hn
   rw [(hN n hs).2]
   have hr := H.row n gr m sz xs' hn
   have hrow := keepRow n gr m sz xs' hs hn
   refine ⟨hr.pos, hr.er, hr.nl, fun hl => ?_, fun hl hg => ?_, ?_⟩
   ·obtain ⟨l1, l2, l3⟩ := hr.lies hl
    have hb := keepOwn n hs (by rw [hn]; simp) hl
    exact ⟨l1.congr hb, l2.congr (fun o => cell_congr hb o) (fun b' hb' o => cell_congr (hrow b' hb') o), l3⟩
   ·obtain ⟨r2, cur, e, r3, r4⟩ := hr.room hl hg
    exact ⟨r2, cur, e, (keepOwn n hs (by rw [hn]; simp) hl).trans r3, r4⟩
   ·have hm := hr.mode
    cases m with
    | bor => exact fun b hb => by rw [hIm]; exact hm b hb
    | froz => exact ⟨fun b hb => ⟨by rw [hIm]; exact (hm.1 b hb).1, (hm.1 b hb).2.1.congr (hrow b hb), (hm.1 b hb).2.2⟩, hm.2⟩
    | live => exact ⟨fun b hb => ⟨by rw [hIm]; exact (hm.1 b hb).1, (hm.1 b hb).2.1.congr (hrow b hb), (hm.1 b hb).2.2⟩, hm.2⟩
 ·obtain ⟨s1, s2, s3, s4, s5⟩ := same n
  rw [s1] at hl
  rw [s2]
  obtain ⟨o1, o2, o3⟩ := H.own n (ne n hn) hl
  exact ⟨by rw [hIm]; exact o1, o2, Nat.lt_of_lt_of_le o3 hsz⟩
 ·rw [(same n).1] at hl
  rw [(same n').1] at hl'
  rw [(same n).2.1, (same n').2.1]
  exact H.inj n n' (ne n hn) (ne n' hn') hne hl hl'
 ·rw [hIm] at hb
  exact Nat.lt_of_lt_of_le (H.imlt b hb) hsz
 ·obtain ⟨x1, e1⟩ := rowOf n gr m sz xs hn
  obtain ⟨x2, e2⟩ := rowOf n' gr' m' sz' xs' hn'
  exact H.cross n n' gr m sz x1 gr' m' sz' x2 e1 e2 hm hm' hne b (sub n b hb) (sub n' b hb')
 ·obtain ⟨x1, e1⟩ := rowOf n gr .live sz xs hn
  rw [(same n').1] at hl
  rw [(same n').2.1]
  exact H.live n gr sz x1 e1 b (sub n b hb) n' (ne n' hn') hl
 ·intro i pc hi; simp at hi
 ·intro i j pc pc' b _ hi; simp at hi
 ·intro i pc n gr m sz xs b hi; simp at hi
def OutAt (σ σ1 : St) (it : MIt) (x : C) : Prop :=
 match it with
 | .nil _ => True
 | .row n => ∃ gr m rs xs xs', σ.h n = some (.row gr m rs xs) ∧ x = .list rs xs' ∧ σ1.h n = some (.row gr m rs xs')
 | .nest n k off => ∃ gr m rs xs e, σ.h n = some (.row gr m rs xs) ∧ xs[k]? = some e ∧ σ1.h n = some (.row gr m rs (xs.set k (e.set off x)))
theorem putOut_ok {it : MIt} {x : C} {σ1 : St} (hx : σ.putOut it x = some σ1) : σ1.env = σ.env ∧ σ1.used = σ.used ∧ (∀ n, it.name? ≠ some n → σ1.h n = σ.h n) ∧ OutAt σ σ1 it x := by
 cases it with
 | nil sz => simp only [St.putOut] at hx; injection hx with hx; subst hx; exact ⟨rfl, rfl, fun _ _ => rfl, trivial⟩
 | row n =>
  cases x with
  | int k i => simp [St.putOut] at hx
  | bool b => simp [St.putOut] at hx
  | list sz xs =>
   simp only [St.putOut] at hx
   split at hx
   ·rename_i gr m rs xs0 hn
    split at hx
    ·rename_i e
     injection hx with hx
     subst hx
     subst e
     exact ⟨rfl, rfl, fun q hq => upd_ne _ _ _ _ (fun e => hq (by rw [e]; rfl)), gr, m, rs, xs0, xs, hn, rfl, upd_same _ _ _⟩
    ·cases hx
   ·cases hx
 | nest n k off =>
  simp only [St.putOut] at hx
  split at hx
  ·rename_i gr m rs xs hn
   split at hx
   ·rename_i e he
    injection hx with hx
    subst hx
    exact ⟨rfl, rfl, fun q hq => upd_ne _ _ _ _ (fun e => hq (by rw [e]; rfl)), gr, m, rs, xs, e, hn, he, upd_same _ _ _⟩
   ·cases hx
  ·cases hx
theorem OutAt.congr {σ σ1 τ τ1 : St} {it : MIt} {x : C} (hx : OutAt σ σ1 it x) (h1 : ∀ n, it.name? = some n → τ.h n = σ.h n) (h2 : ∀ n, it.name? = some n → τ1.h n = σ1.h n) : OutAt τ τ1 it x := by
 cases it with
 | nil sz => trivial
 | row n => obtain ⟨gr, m, rs, xs, xs', e1, e2, e3⟩ := hx; exact ⟨gr, m, rs, xs, xs', (h1 n rfl).trans e1, e2, (h2 n rfl).trans e3⟩
 | nest n k off => obtain ⟨gr, m, rs, xs, e, e1, e2, e3⟩ := hx; exact ⟨gr, m, rs, xs, e, (h1 n rfl).trans e1, e2, (h2 n rfl).trans e3⟩
theorem fm_none {it : MIt × Mode} {its : List (MIt × Mode)} (h : it.1.name? = none) : (it :: its).filterMap (·.1.name?) = its.filterMap (·.1.name?) := List.filterMap_cons_none h
theorem fm_some {it : MIt × Mode} {its : List (MIt × Mode)} {n : Nat} (h : it.1.name? = some n) : (it :: its).filterMap (·.1.name?) = n :: its.filterMap (·.1.name?) := List.filterMap_cons_some h
theorem putOuts_ok : ∀ {its : List (MIt × Mode)} {outs : List C} {σ σ1 : St}, σ.putOuts its outs = some σ1 → (its.filterMap (·.1.name?)).Nodup → σ1.env = σ.env ∧ σ1.used = σ.used ∧
  (∀ n, n ∉ its.filterMap (·.1.name?) → σ1.h n = σ.h n) ∧ ∀ (i : Nat) (it : MIt × Mode) (x : C), its[i]? = some it → outs[i]? = some x → OutAt σ σ1 it.1 x
 | [], [], σ, σ1, hx, hnd => by
  simp only [St.putOuts] at hx
  injection hx with hx
  subst hx
  exact ⟨rfl, rfl, fun _ _ => rfl, by intro i it x h; simp at h⟩
 | it :: its, x :: outs, σ, σ2, hx, hnd => by
  simp only [St.putOuts] at hx
  split at hx
  ·rename_i σ1 e1
   obtain ⟨p1, p2, p3, p4⟩ := putOut_ok e1
   have hnd' : (its.filterMap (·.1.name?)).Nodup := by
    cases hn : it.1.name? with
    | none => rw [fm_none hn] at hnd; exact hnd
    | some n => rw [fm_some hn] at hnd; exact (List.nodup_cons.1 hnd).2
   have hnot : ∀ n, it.1.name? = some n → n ∉ its.filterMap (·.1.name?) := by
    intro n hn
    rw [fm_some hn] at hnd
    exact (List.nodup_cons.1 hnd).1
   obtain ⟨q1, q2, q3, q4⟩ := putOuts_ok hx hnd'
   refine ⟨q1.trans p1, q2.trans p2, fun n hn => ?_, fun i it' x' hi hx' => ?_⟩
   ·have h1 : it.1.name? ≠ some n := by
     intro e
     rw [fm_some e] at hn
     exact hn (by simp)
    have h2 : n ∉ its.filterMap (·.1.name?) := by
     intro hm
     apply hn
     cases hq : it.1.name? with
     | none => rw [fm_none hq]; exact hm
     | some q => rw [fm_some hq]; exact List.mem_cons_of_mem _ hm
    exact (q3 n h2).trans (p3 n h1)
   ·cases i with
    | zero =>
     simp at hi hx'
     subst hi
     subst hx'
     exact p4.congr (fun _ _ => rfl) (fun n hn => q3 n (hnot n hn))
    | succ i =>
     have hi' : its[i]? = some it' := by simpa using hi
     refine (q4 i it' x' hi' (by simpa using hx')).congr (fun n hn => ?_) (fun _ _ => rfl)
     refine (p3 n ?_).symm
     intro e
     refine hnot n e ?_
     rw [List.mem_filterMap]
     exact ⟨it', List.mem_of_getElem? hi', hn⟩
  ·cases hx
 | [], _ :: _, σ, σ1, hx, _ => by simp [St.putOuts] at hx
 | _ :: _, [], σ, σ1, hx, _ => by simp [St.putOuts] at hx
theorem name_inj : ∀ {its : List (MIt × Mode)}, (its.filterMap (·.1.name?)).Nodup → ∀ {i j : Nat} {x y : MIt × Mode} {n : Nat}, its[i]? = some x → its[j]? = some y → x.1.name? = some n → y.1.name? = some n → i = j
 | [], _, i, j, x, y, n, hi, _, _, _ => by simp at hi
 | it :: its, hnd, i, j, x, y, n, hi, hj, hx, hy => by
  have hnd' : (its.filterMap (·.1.name?)).Nodup := by
   cases hn : it.1.name? with
   | none => rw [fm_none hn] at hnd; exact hnd
   | some n => rw [fm_some hn] at hnd; exact (List.nodup_cons.1 hnd).2
  have hnot : ∀ n, it.1.name? = some n → ∀ (k : Nat) (z : MIt × Mode), its[k]? = some z → z.1.name? ≠ some n := by
   intro n hn k z hk e
   rw [fm_some hn] at hnd
   exact (List.nodup_cons.1 hnd).1 (List.mem_filterMap.2 ⟨z, List.mem_of_getElem? hk, e⟩)
  cases i with
  | zero =>
   cases j with
   | zero => rfl
   | succ j =>
    simp at hi hj
    subst hi
    exact absurd hy (hnot n hx j y hj)
  | succ i =>
   cases j with
   | zero =>
    simp at hi hj
    subst hj
    exact absurd hx (hnot n hy i x hi)
   | succ j => exact congrArg (· + 1) (name_inj hnd' (i := i) (j := j) (by simpa using hi) (by simpa using hj) hx hy)
end
end Go.Am