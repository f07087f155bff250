/- Am30: functions that change lists of their arguments: the end of a call. No condition. -/
import Derived.Test.YtbogogbogdafiaaAm29
set_option linter.unusedVariables false
namespace Go.Am
section
variable {B : Nat} {E : Ex} {w0 w w' : World} {G G' : Gh} {N : Nat} {h h' : Nat → Option Blk} {used : Nat → Bool}
variable {P : Program} {T : Tab} {a : Act} {σ σ' : St} {Q : Exit → Act → World → Prop}
theorem noPin_some {n : Nat} {b : Blk} (hn : σ.noPin.h n = some b) : ¬ PIN ≤ n ∧ σ.h n = some b := by
 unfold St.noPin at hn
 simp only at hn
 split at hn
 ·cases hn
 ·rename_i h; exact ⟨h, hn⟩
theorem noPin_ne {n : Nat} (hn : σ.noPin.h n ≠ none) : ¬ PIN ≤ n ∧ σ.h n ≠ none := by
 cases h : σ.noPin.h n with
 | none => exact absurd h hn
 | some b => obtain ⟨a, e⟩ := noPin_some h; exact ⟨a, by rw [e]; simp⟩
theorem Keep.noPin (u : Nat → Prop) : Keep w G σ.h u w G σ.noPin.h :=
 ⟨fun _ h => h, fun _ _ _ => rfl, fun n _ hn => ⟨(noPin_ne hn).2, rfl, rfl, rfl, rfl, rfl⟩, fun n gr sz xs _ hn => ⟨⟨gr, xs, (noPin_some hn).2⟩, fun k j pc h1 h2 => ⟨pc, h1, rfl, h2⟩⟩⟩
theorem R.noPin (r : R B E w0 N σ a w G) (hE : ∀ b, E b → ∃ n gr m sz xs, PIN ≤ n ∧ σ.h n = some (.row gr m sz xs) ∧ m ≠ .bor ∧ foot G n b ∧ (m = .froz → ¬ RowF b (G.g n).px)) :
  R B Ex.no w N σ.noPin a w G := by
 have H := r.hr
 have K : Keep w G σ.h (fun n => σ.used n = true) w G σ.noPin.h := Keep.noPin _
 have big : ∀ n, ¬ PIN ≤ n → σ.h n ≠ none → (G.g n).nl = false → ¬ E (G.g n).b := by
  intro n hn h0 hl hb
  obtain ⟨q, gr, m, sz, xs, hq, h1, h2, h3, h4⟩ := hE _ hb
  have hne : n ≠ q := fun e => hn (e ▸ hq)
  have hq0 : σ.h q ≠ none := by rw [h1]; simp
  rcases h3 with ⟨l, e⟩ | h3
  ·exact H.inj n q h0 hq0 hne hl l e
  ·cases m with
   | bor => exact h2 rfl
   | froz => exact h4 rfl h3
   | live => exact H.live q gr sz xs h1 _ h3 n h0 hl rfl
 have bigF : ∀ n gr m sz xs, ¬ PIN ≤ n → σ.h n = some (.row gr m sz xs) → m ≠ .bor → ∀ b, RowF b (G.g n).px → ¬ E b := by
  intro n gr m sz xs hn h0 hm b hb he
  obtain ⟨q, gr', m', sz', xs', hq, h1, h2, h3, h4⟩ := hE _ he
  have hne : n ≠ q := fun e => hn (e ▸ hq)
  exact H.foot_dis hne h0 h1 hm h2 (.inr hb) h3
 refine ⟨r.defers, r.size, fun s => (r.env s).keep K fun m hm => r.wfe s m hm, r.wfe, ?_, Fr.refl _ _ _ r.fr.size, fun n p b hp => (by cases hp), r.pinu⟩
 refine ⟨fun n hn => H.dom n (noPin_ne hn).2, fun m cs c n hm hc hr => H.wfh m cs c n (noPin_some hm).2 hc hr, fun n cs hn => ?_, fun n gr m sz xs hn => ?_, fun n hn hl => ?_, fun n n' hn hn' => H.inj n n' (noPin_ne hn).2 (noPin_ne hn').2,
  H.imlt, fun b _ => .inr (.inr trivial), fun n n' gr m sz xs gr' m' sz' xs' hn hn' => H.cross n n' gr m sz xs gr' m' sz' xs' (noPin_some hn).2 (noPin_some hn').2, fun n gr sz xs hn b hb n' hn' => H.live n gr sz xs (noPin_some hn).2 b hb n' (noPin_ne hn').2, ?_, ?_, ?_⟩
 ·obtain ⟨a1, a2, a3⟩ := H.box n cs (noPin_some hn).2
  refine ⟨a1, a2, fun j c hj => ?_⟩
  obtain ⟨v, b1, b2, b3⟩ := a3 j c hj
  exact ⟨v, b1, b2, b3.keep K fun q hq => H.wfh n cs c q (noPin_some hn).2 (List.mem_of_getElem? hj) hq⟩
 ·obtain ⟨hp, h0⟩ := noPin_some hn
  have hr := H.row n gr m sz xs h0
  refine ⟨hr.pos, hr.er, hr.nl, hr.lies, hr.room, ?_⟩
  have hm := hr.mode
  cases m with
  | bor => exact hm
  | froz => exact ⟨fun b hb => ⟨(hm.1 b hb).1, (hm.1 b hb).2.1, (hm.1 b hb).2.2.imp id fun he => absurd he (bigF n gr .froz sz xs hp h0 (by simp) b hb)⟩, hm.2⟩
  | live => exact ⟨fun b hb => ⟨(hm.1 b hb).1, (hm.1 b hb).2.1, (hm.1 b hb).2.2.imp id fun he => absurd he (bigF n gr .live sz xs hp h0 (by simp) b hb)⟩, hm.2⟩
 ·obtain ⟨hp, h0⟩ := noPin_ne hn
  obtain ⟨o1, o2, o3⟩ := H.own n h0 hl
  exact ⟨o1, o2.imp id fun he => absurd he (big n hp h0 hl), o3⟩
 ·intro i pc hi; simp at hi
 ·intro i j pc pc' b _ hi; simp at hi
 ·intro i pc n gr m sz xs b hi; simp at hi
theorem flatOk_froz {m : Mode} {px : List (List PC)} (hf : flatOk m (px.map fun e => e.map PC.er) = true) : (m = .froz → ∀ b, ¬ RowF b px) ∧ m ≠ .bor ∧ (m = .live → (px.map fun e => e.map PC.er).all (fun e => e.all C.dep2) = true) := by
 cases m with
 | bor => cases hf
 | froz => exact ⟨fun _ b => scalRow hf b, (by simp), fun h => (by cases h)⟩
 | live => exact ⟨fun h => (by cases h), (by simp), fun _ => hf⟩
theorem after_ok {fl : List (Mode × PC)} (hok : ∀ x ∈ fl, MOk w0 x.1 x.2) (hg : ∀ x ∈ fl, Good w0 x.2) (r : R B (exM fl) w0 N σ a w G) {outs : List C} (ho : outAll σ 0 (fl.map fun x => (x.1, x.2.er)) = some outs)
  {i : Nat} {x : Mode × PC} (hx : fl[i]? = some x) : ∃ q o, outs[i]? = some o ∧ q.er = o ∧ MAfter w x.1 x.2 q ∧
   ∃ gr sz xs, σ.h (PIN + i) = some (.row gr x.1 sz xs) ∧ (∀ b, InF b x.2 → foot G (PIN + i) b) ∧ (x.1 = .froz → ∀ b, ¬ RowF b (G.g (PIN + i)).px) ∧ x.1 ≠ .bor := by
 obtain ⟨m, pc⟩ := x
 have hmem := List.mem_of_getElem? hx
 obtain ⟨o1, o2⟩ := outAll_get ho
 obtain ⟨o, e1, e2⟩ := o2 i (m, pc.er) (by rw [List.getElem?_map, hx]; rfl)
 rw [Nat.zero_add] at e2
 obtain ⟨sz, xs, gr, xs', f1, f2, f3, f4, f5, rfl⟩ := outOne_some e2
 have ok := hok _ hmem
 have hgood0 := hg _ hmem
 obtain ⟨sz0, a0, cap, px0, rfl, hpos, hnot, hflat⟩ := ok.lies
 simp only [PC.er_list] at f1
 injection f1 with f1a f1b
 subst f1a
 subst f1b
 have hr := r.hr.row _ gr m sz0 xs' f2
 have hpin : (exM fl).pin (PIN + i) = some (pbOf (.list sz0 a0 cap px0)) := by
  show (if PIN ≤ PIN + i then (fl[PIN + i - PIN]?).map (fun x => pbOf x.2) else none) = _
  rw [if_pos (Nat.le_add_right _ _), Nat.add_sub_cancel_left, hx]
  rfl
 obtain ⟨p1, p2, p3, p4, p6, p5⟩ := r.pin _ _ _ hpin f2
 have herx : xs' = (G.g (PIN + i)).px.map fun e => e.map PC.er := hr.er
 have f4' := f4
 simp only at f4'
 rw [herx] at f4'
 obtain ⟨q1, q2, q3⟩ := flatOk_froz f4'
 have hlen : (G.g (PIN + i)).px.length = px0.length := by
  have := f3
  rw [herx] at this
  simpa using this
 have hrowsep : RowSep (G.g (PIN + i)).px := by
  have hm := hr.mode
  cases m with
  | bor => exact absurd rfl q2
  | froz => exact hm.2
  | live => exact hm.2
 have hne : σ.h (PIN + i) ≠ none := by rw [f2]; simp
 rcases hgood0.cases with rfl | ⟨hpx, hcap, b, o, rfl⟩
 ·have hpx0 : (G.g (PIN + i)).px = [] := List.eq_nil_of_length_eq_zero (by rw [hlen]; rfl)
  refine ⟨.list sz0 a0 cap [], _, e1, (by rw [PC.er_list, herx, hpx0]), ⟨rfl, .nil _ _ _ hpos, ok.sep, fun _ h => h, ?_, ?_⟩, gr, sz0, xs', f2, fun b' hb' => ?_, fun hm b' hb' => q1 hm b' hb', q2⟩
  ·simp only [PC.er_list]
   rw [herx, hpx0] at f4
   exact f4
  ·intro sz a cap xs sz' a' cap' xs2 he1 he2
   have he2 := he1.symm.trans he2
   injection he2 with h1 h2 h3 h4
   refine ⟨h1.symm, h2.symm, h3.symm, by rw [h4], fun _ k j c hk hL => ?_⟩
   injection he1 with _ _ _ h5
   subst h5
   obtain ⟨e, he, _⟩ := hk
   simp at he
  ·rw [InF.list_iff] at hb'
   rcases hb' with ⟨hb', _⟩ | ⟨k, j, c, ⟨e, he, _⟩, _⟩
   ·exact absurd rfl hb'
   ·simp at he
 ·have hlv : m = .live → ∀ k j c, At px0 k j c → c.isL = true → ∃ c', At (G.g (PIN + i)).px k j c' ∧ c'.val = c.val ∧ c'.isL = true := by
   rintro rfl k j c hk hL
   rw [pbOf_cons hpx] at p5
   exact p5 gr sz0 xs' rfl k j c hk hL
  rw [pbOf_cons hpx] at p1 p2 p3 p4
  simp only at p1 p2 p3 p4
  obtain ⟨l1, l2, l3⟩ := hr.lies p1
  rw [p2] at l1 l2
  rw [p3] at l2
  rw [p4] at l3
  have hpx1 : (G.g (PIN + i)).px ≠ [] := by
   intro h0
   rw [h0] at hlen
   exact hpx (List.eq_nil_of_length_eq_zero hlen.symm)
  have hgood : Good w (.list sz0 (some (ad b o)) cap (G.g (PIN + i)).px) := .cons _ _ _ _ _ hpx1 l3 hpos l2.1 l2.2.1 l2.2.2
  have htopnot : ¬ RowF b (G.g (PIN + i)).px := by
   intro hb
   cases m with
   | bor => exact q2 rfl
   | froz => exact q1 rfl b hb
   | live => exact r.hr.live _ gr sz0 xs' f2 b hb _ hne p1 p2.symm
  have hback : m = .live → ∀ b', RowF b' (G.g (PIN + i)).px → RowF b' px0 := by
   rintro rfl b' hb'
   refine live_foot (px' := px0) (q3 rfl) (fun k j c hk hL => ?_) hb'
   rw [herx] at f5
   obtain ⟨c0, hk0, hL0⟩ := shape_at f5 hk
   rw [hL] at hL0
   obtain ⟨c1, hk1, hv1, hL1⟩ := hlv rfl k j c0 hk0 hL0
   rw [At.inj hk1 hk] at hv1
   exact ⟨c0, hk0, hv1.symm, hL0⟩
  refine ⟨.list sz0 (some (ad b o)) cap (G.g (PIN + i)).px, _, e1, by rw [PC.er_list, herx], ⟨by simp only [PC.val, hlen], hgood, .list _ _ _ _ hrowsep.1 (fun b1 o1 k j c he hk hb1 => ?_) hrowsep.2, fun b' hb' => ?_, ?_, ?_⟩, gr, sz0, xs', f2, fun b' hb' => ?_, q1, q2⟩
  ·injection he with he
   obtain ⟨rfl, _⟩ := ad_inj he
   exact htopnot ⟨k, j, c, hk, hb1⟩
  ·rw [InF.list_iff] at hb'
   rcases hb' with ⟨_, o', ho'⟩ | hF
   ·injection ho' with ho'
    rw [← (ad_inj ho').1]
    exact .here _ _ _ _ hpx
   ·cases m with
    | bor => exact absurd rfl q2
    | froz => exact absurd hF (q1 rfl b')
    | live =>
     obtain ⟨k, j, c, hk, hc⟩ := hback rfl b' hF
     exact .there _ _ _ _ k j c hk hc
  ·simp only [PC.er_list]
   exact f4'
  ·intro sz a cap' xs sz' a' cap'' xs2 he1 he2
   injection he1 with h1 h2 h3 h4
   injection he2 with g1 g2 g3 g4
   subst h1 h2 h3 h4 g1 g2 g3 g4
   exact ⟨rfl, rfl, rfl, hlen, hlv⟩
  ·rw [InF.list_iff] at hb'
   rcases hb' with ⟨_, o', ho'⟩ | hF
   ·injection ho' with ho'
    exact .inl ⟨p1, by rw [p2]; exact (ad_inj ho').1.symm⟩
   ·cases m with
    | bor => exact absurd rfl q2
    | froz => exact absurd hF (scalRow hflat b')
    | live => exact .inr (live_foot hflat (hlv rfl) hF)
theorem mut_of_den (hT : TOk P T) (hm : P.follows .mixedOrders = true) {f : FuncId} {fn : Func} {c : Code} {mc : MCode} {ms : List MRes} {sig : MSig} {M : List Dv → Option (List Dv × List C)} (hf : P.funcs[f]? = some fn) (hb : fn.body = some c)
  (hc : chkCode P fn.ntmps c mc = true) (hr : chkRes P fn.results.toList ms = true) (hM : ∀ ds rs outs, M ds = some (rs, outs) → ds.length ≤ fn.ntmps ∧ runM T mc ms sig ds = some (rs, outs)) : MutSpec P f sig M := by
 intro ds rs outs hds w vals pas ha
 obtain ⟨hN, hrun⟩ := hM ds rs outs hds
 refine calls_of_wp hf hb ?_
 have r0 := R.initM (N := fn.ntmps) ha hN
 have hps : ∀ p ∈ pas, ∀ pc ∈ p.ps, Good w pc := by
  intro p hp pc hpc
  obtain ⟨i, hi, rfl⟩ := List.getElem_of_mem hp
  have hd : ds[i]? = some (ds[i]'(by rw [← ha.l2]; exact hi)) := List.getElem?_eq_getElem _
  have hv : vals[i]? = some (vals[i]'(by rw [ha.l1, ← ha.l2]; exact hi)) := List.getElem?_eq_getElem _
  exact (ha.at_ i _ _ _ hd hv (List.getElem?_eq_getElem hi)).2.1 pc hpc
 have hg : ∀ x ∈ fArgs sig (pas.map (·.ps)), Good w x.2 := by
  intro x hx
  obtain ⟨l, hl, hxl⟩ := fArgs_mem hx
  obtain ⟨p, hp, rfl⟩ := List.mem_map.1 hl
  exact hps p hp _ hxl
 have hds2 : ds.map (·.2) = (pas.map (·.ps)).map fun l => l.map PC.er := by
  apply List.ext_getElem?
  intro i
  simp only [List.getElem?_map]
  cases hd : ds[i]? with
  | none =>
   have : ds.length ≤ i := List.getElem?_eq_none_iff.1 hd
   rw [List.getElem?_eq_none (by rw [ha.l2]; exact this)]
   rfl
  | some d =>
   have hi := (List.getElem?_eq_some_iff.1 hd).1
   have hv : vals[i]? = some (vals[i]'(by rw [ha.l1]; exact hi)) := List.getElem?_eq_getElem _
   have hp : pas[i]? = some (pas[i]'(by rw [ha.l2]; exact hi)) := List.getElem?_eq_getElem _
   have := (ha.at_ i d _ _ hd hv hp).1
   rw [hp]
   simp only [Option.map_some]
   rw [this]
 unfold runM at hrun
 rw [hds2, fArgs_map] at hrun
 generalize hfl : fArgs sig (pas.map (·.ps)) = fl at hrun r0 hg
 have hok := ha.ok
 rw [hfl] at hok
 have fin : ∀ {σ : St} {a : Act} {w' : World} {G : Gh}, σ.retM ms (fl.map fun x => (x.1, x.2.er)) = some (rs, outs) → R w.heap.size (exM fl) w fn.ntmps σ a w' G → a.defers = [] ∧ ∃ v, (results fn a.tmps).run P w' = .ok v w' ∧
   ∃ prs : List (K × List PC), prs.map (fun p => (p.1, p.2.map PC.er)) = rs ∧ (Ending.returned v) = .returned (retVal prs) ∧ (∀ p ∈ prs, p.1 ≠ .ptr ∧ (p.1 = .one → p.2.length = 1)) ∧
   RetAll w' w.heap.size (prs.flatMap (·.2)) ∧ Fr w.heap.size (exF fl) w w' ∧
   ∃ qs : List PC, qs.map PC.er = outs ∧ qs.length = fl.length ∧ ∀ (i : Nat) (x : Mode × PC) (q : PC), fl[i]? = some x → qs[i]? = some q → MAfter w' x.1 x.2 q := by
  intro σ a w' G hx r
  unfold St.retM at hx
  split at hx
  ·rename_i rs' outs' e1 e2
   injection hx with hx
   injection hx with hx1 hx2
   subst hx1 hx2
   have hE : ∀ b, (exM fl) b → ∃ n gr m sz xs, PIN ≤ n ∧ σ.h n = some (.row gr m sz xs) ∧ m ≠ .bor ∧ foot G n b ∧ (m = .froz → ¬ RowF b (G.g n).px) := by
    rintro b ⟨x, hxm, hxb⟩
    obtain ⟨i, hi⟩ := List.getElem?_of_mem hxm
    obtain ⟨q, o, _, _, _, gr, sz, xs, k1, k2, k3, k4⟩ := after_ok hok hg r e2 hi
    exact ⟨PIN + i, gr, x.1, sz, xs, Nat.le_add_right _ _, k1, k4, k2 b hxb, fun hm => k3 hm b⟩
   obtain ⟨prs, p1, p2, p3, p4⟩ := ret_ok (r.noPin hE) hr e1
   obtain ⟨ol, _⟩ := outAll_get e2
   have hq : ∀ i : Fin fl.length, ∃ q, outs'[i.1]? = some (PC.er q) ∧ MAfter w' (fl[i.1]).1 (fl[i.1]).2 q := by
    intro i
    obtain ⟨q, o, k1, k2, k3, _⟩ := after_ok hok hg r e2 (List.getElem?_eq_getElem i.2)
    exact ⟨q, by rw [k1, k2], k3⟩
   refine ⟨r.defers, _, p2, prs, p1, rfl, p3, p4, ⟨r.fr.os, r.fr.tape, r.fr.output, r.fr.size, r.fr.block, r.fr.unf⟩, List.ofFn fun i => Classical.choose (hq i), ?_, by simp, fun i x q hi hqi => ?_⟩
   ·apply List.ext_getElem?
    intro i
    simp only [List.getElem?_map]
    by_cases hi : i < fl.length
    ·rw [List.getElem?_ofFn, dif_pos hi]
     exact (Classical.choose_spec (hq ⟨i, hi⟩)).1.symm
    ·rw [List.getElem?_eq_none (by simp; omega), List.getElem?_eq_none (by rw [ol]; simp; omega)]
     rfl
   ·obtain ⟨hl, e⟩ := List.getElem?_eq_some_iff.1 hi
    rw [List.getElem?_ofFn, dif_pos hl] at hqi
    injection hqi with hqi
    subst hqi
    subst e
    exact (Classical.choose_spec (hq ⟨i, hl⟩)).2
  ·cases hx
 split at hrun
 ·rename_i σ e
  exact den_sound hT hm mc hc e r0 fun a w' G r => fin hrun r
 ·rename_i σ e
  exact den_sound hT hm mc hc e r0 fun a w' G r => fin hrun r
 ·cases hrun
end
end Go.Am