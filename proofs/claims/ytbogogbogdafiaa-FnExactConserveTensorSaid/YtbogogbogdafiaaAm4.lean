/- Am4: what becomes of the relation when the world or the heap of names changes. No condition. -/
import Derived.Test.YtbogogbogdafiaaAm3
set_option linter.unusedVariables false
namespace Go.Am
section
variable {B : Nat} {E : Ex} {w0 w w' : World} {G G' : Gh} {h h' : Nat → Option Blk} {used used' : Nat → Bool} {tk : List PC}
theorem Keep.refl (w : World) (G : Gh) (h : Nat → Option Blk) (u : Nat → Prop) : Keep w G h u w G h :=
 ⟨fun _ h => h, fun _ _ _ => rfl, fun _ _ h => ⟨h, rfl, rfl, rfl, rfl, rfl⟩, fun n gr sz xs _ hn => ⟨⟨gr, xs, hn⟩, fun k j pc h1 h2 => ⟨pc, h1, rfl, h2⟩⟩⟩
theorem Keep.trans {w1 w2 w3 : World} {G1 G2 G3 : Gh} {h1 h2 h3 : Nat → Option Blk} {u u2 : Nat → Prop} (hu : ∀ n, u n → u2 n)
  (a : Keep w1 G1 h1 u w2 G2 h2) (b : Keep w2 G2 h2 u2 w3 G3 h3) : Keep w1 G1 h1 u w3 G3 h3 := by
 refine ⟨fun x hx => b.im x (a.im x hx), fun x hx o => (b.cell x (a.im x hx) o).trans (a.cell x hx o), fun n hn h => ?_, fun n gr sz xs hn h => ?_⟩
 ·obtain ⟨c0, c1, c2, c3, c4, c5⟩ := b.name n (hu n hn) h
  obtain ⟨d0, d1, d2, d3, d4, d5⟩ := a.name n hn c0
  exact ⟨d0, c1.trans d1, c2.trans d2, c3.trans d3, c4.trans d4, c5.trans d5⟩
 ·obtain ⟨⟨gr2, xs2, e2⟩, l2⟩ := b.live n gr sz xs (hu n hn) h
  obtain ⟨e1, l1⟩ := a.live n gr2 sz xs2 hn e2
  refine ⟨e1, fun k j pc p1 p2 => ?_⟩
  obtain ⟨q, q1, q2, q3⟩ := l1 k j pc p1 p2
  obtain ⟨r, r1, r2, r3⟩ := l2 k j q q1 q3
  exact ⟨r, r1, r2.trans q2, r3⟩
theorem Keep.world (hIm : ∀ b, G.Im b → w'.heap[b]? = w.heap[b]?) (u : Nat → Prop) : Keep w G h u w' G h :=
 ⟨fun _ h => h, fun b hb o => cell_congr (hIm b hb) o, fun _ _ h => ⟨h, rfl, rfl, rfl, rfl, rfl⟩, fun n gr sz xs _ hn => ⟨⟨gr, xs, hn⟩, fun k j pc h1 h2 => ⟨pc, h1, rfl, h2⟩⟩⟩
theorem HR.rowF_lt (H : HR B E w G h used tk) {n : Nat} {gr : Bool} {m : Mode} {sz : Nat} {xs : List (List C)} (hn : h n = some (.row gr m sz xs)) {b : Nat} (hb : RowF b (G.g n).px) : b < w.heap.size := by
 have hr := H.row n gr m sz xs hn
 cases hnl : (G.g n).nl with
 | true => obtain ⟨k, j, c, ⟨e, he, _⟩, _⟩ := hb; rw [(hr.nl hnl).1] at he; simp at he
 | false => exact (hr.lies hnl).2.1.lt hb
theorem HR.grow (H : HR B E w G h used tk) (hw : ∀ b, b < w.heap.size → w'.heap[b]? = w.heap[b]?) (hsz : w.heap.size ≤ w'.heap.size) : HR B E w' G h used tk := by
 have K : Keep w G h (fun n => used n = true) w' G h := Keep.world (fun b hb => hw b (H.imlt b hb)) _
 have hunf : ∀ b, Unf w b → Unf w' b := fun b hb => hb.congr (hw b hb.lt)
 refine ⟨H.dom, H.wfh, fun n cs hn => ?_, fun n gr m sz xs hn => ?_, fun n hn hl => ?_, H.inj, fun b hb => Nat.lt_of_lt_of_le (H.imlt b hb) hsz, H.img, H.cross, H.live, fun i pc hi => ?_, H.tkdis, H.tkrow⟩
 ·obtain ⟨h1, h2, h3⟩ := H.box n cs hn
  refine ⟨h1, hunf _ h2, fun j c hj => ?_⟩
  obtain ⟨v, a1, a2, a3⟩ := h3 j c hj
  exact ⟨v, (cell_congr (hw _ h2.lt) _).trans a1, a2, a3.keep K fun m hm => H.wfh n cs c m hn (List.mem_of_getElem? hj) hm⟩
 ·have hr := H.row n gr m sz xs hn
  refine ⟨hr.pos, hr.er, hr.nl, fun hl => ?_, fun hl hg => ?_, ?_⟩
  ·obtain ⟨a1, a2, a3⟩ := hr.lies hl
   exact ⟨hunf _ a1, a2.congr (fun o => cell_congr (hw _ a1.lt) o) (fun b' hb' o => cell_congr (hw _ (a2.lt hb')) o), a3⟩
  ·obtain ⟨r2, cur, e, r3, r4⟩ := hr.room hl hg
   exact ⟨r2, cur, e, (hw _ (hr.lies hl).1.lt).trans r3, r4⟩
  ·have hm := hr.mode
   cases m with
   | bor => exact hm
   | froz => exact ⟨fun b hb => ⟨(hm.1 b hb).1, hunf _ (hm.1 b hb).2.1, (hm.1 b hb).2.2⟩, hm.2⟩
   | live => exact ⟨fun b hb => ⟨(hm.1 b hb).1, hunf _ (hm.1 b hb).2.1, (hm.1 b hb).2.2⟩, hm.2⟩
 ·obtain ⟨a1, a2, a3⟩ := H.own n hn hl
  exact ⟨a1, a2, Nat.lt_of_lt_of_le a3 hsz⟩
 ·obtain ⟨a1, a2⟩ := H.tkok i pc hi
  exact ⟨a1, fun b hb => ⟨(a2 b hb).1, hunf _ (a2 b hb).2.1, (a2 b hb).2.2⟩⟩
theorem Fr.refl (B : Nat) (E : Ex) (w0 : World) (hB : B ≤ w0.heap.size) : Fr B E w0 w0 :=
 ⟨rfl, rfl, rfl, hB, fun _ _ _ => rfl, fun _ _ => Cz.refl _ _⟩
theorem Fr.grow (F : Fr B E w0 w) (hw : ∀ b, b < w.heap.size → w'.heap[b]? = w.heap[b]?) (hsz : w.heap.size ≤ w'.heap.size) (ho : w'.os = w.os) (ht : w'.tape = w.tape) (hp : w'.output = w.output) : Fr B E w0 w' :=
 ⟨ho.trans F.os, ht.trans F.tape, hp.trans F.output, Nat.le_trans F.size hsz, fun b hb he => (hw b (Nat.lt_of_lt_of_le hb F.size)).trans (F.block b hb he),
  fun b hb => (F.unf b hb).trans (Cz.of_eq (hw b (Nat.lt_of_lt_of_le hb F.size)))⟩
theorem Fr.one (F : Fr B E w0 w) {b0 : Nat} (hb0 : B ≤ b0 ∨ E b0) (hw : ∀ b, b < w.heap.size → b ≠ b0 → w'.heap[b]? = w.heap[b]?) (hsz : w.heap.size ≤ w'.heap.size)
  (hu : Cz w w' b0) (ho : w'.os = w.os) (ht : w'.tape = w.tape) (hp : w'.output = w.output) : Fr B E w0 w' := by
 refine ⟨ho.trans F.os, ht.trans F.tape, hp.trans F.output, Nat.le_trans F.size hsz, fun b hb he => ?_, fun b hb => ?_⟩
 ·refine (hw b (Nat.lt_of_lt_of_le hb F.size) ?_).trans (F.block b hb he)
  rintro rfl
  rcases hb0 with h1 | h1
  ·omega
  ·exact he h1
 ·by_cases hbb : b = b0
  ·subst hbb; exact (F.unf b hb).trans hu
  ·exact (F.unf b hb).trans (Cz.of_eq (hw b (Nat.lt_of_lt_of_le hb F.size) hbb))
def BlkOk (B : Nat) (E : Ex) (w : World) (G : Gh) (h : Nat → Option Blk) (p : PB) : Blk → Prop
 | .box cs => p.nl = false ∧ Unf w p.b ∧ ∀ (j : Nat) (c : ACell), cs[j]? = some c → ∃ v, w.cell? (ad p.b (p.o + j)) = some v ∧ v.oneCell' = true ∧ RC w G h c v
 | .row gr m sz xs => RowOk B E w G gr m sz xs p
theorem HR.put (H : HR B E w G h used tk) {n : Nat} {blk : Blk} {p : PB}
  (hw : ∀ b, b < w.heap.size → (p.nl = false → b ≠ p.b) → w'.heap[b]? = w.heap[b]?) (hsz : w.heap.size ≤ w'.heap.size)
  (hun : ∀ b, b < w.heap.size → Unf w b → Unf w' b)
  (hu : ∀ m, used m = true → used' m = true) (hun' : used' n = true)
  (hown : p.nl = false → ¬ G.Im p.b ∧ (B ≤ p.b ∨ E p.b) ∧ p.b < w'.heap.size)
  (hinj : p.nl = false → ∀ m, m ≠ n → h m ≠ none → (G.g m).nl = false → (G.g m).b ≠ p.b)
  (hliv : p.nl = false → ∀ m gr sz xs, m ≠ n → h m = some (.row gr .live sz xs) → ∀ b, RowF b (G.g m).px → b ≠ p.b)
  (hwf : ∀ cs c m, blk = .box cs → c ∈ cs → c.ref m → used' m = true)
  (K : Keep w G h (fun n => used n = true) w' ⟨G.Im, upd G.g n p⟩ (upd h n (some blk)))
  (hblk : BlkOk B E w' ⟨G.Im, upd G.g n p⟩ (upd h n (some blk)) p blk)
  (hcross : ∀ gr m sz xs, blk = .row gr m sz xs → m ≠ .bor → ∀ n' gr' m' sz' xs', n' ≠ n → h n' = some (.row gr' m' sz' xs') → m' ≠ .bor → ∀ b, RowF b p.px → ¬ RowF b (G.g n').px)
  (hlive : ∀ gr sz xs, blk = .row gr .live sz xs → ∀ b, RowF b p.px → (p.nl = false → b ≠ p.b) ∧ ∀ n', n' ≠ n → h n' ≠ none → (G.g n').nl = false → b ≠ (G.g n').b)
  (htk : ∀ gr m sz xs, blk = .row gr m sz xs → m ≠ .bor → ∀ (i : Nat) (pc : PC) (b : Nat), tk[i]? = some pc → InF b pc → ¬ RowF b p.px)
  (hIm : p.nl = false → p.b < w.heap.size → ∀ b, (∃ m gr mo sz xs, m ≠ n ∧ h m = some (.row gr mo sz xs) ∧ RowF b (G.g m).px) → b ≠ p.b) :
  HR B E w' ⟨G.Im, upd G.g n p⟩ (upd h n (some blk)) used' tk := by
 have e1 : ∀ m, m ≠ n → upd h n (some blk) m = h m := fun m hm => upd_ne _ _ _ _ hm
 have e2 : ∀ m, m ≠ n → upd G.g n p m = G.g m := fun m hm => upd_ne _ _ _ _ hm
 have hsame : ∀ m, m ≠ n → h m ≠ none → (G.g m).nl = false → w'.heap[(G.g m).b]? = w.heap[(G.g m).b]? := fun m hm h0 hl =>
  hw _ (H.own m h0 hl).2.2 (fun hp => hinj hp m hm h0 hl)
 refine ⟨?_, ?_, ?_, ?_, ?_, ?_, ?_, H.img, ?_, ?_, ?_, ?_, ?_⟩
 ·intro m hm
  by_cases hmn : m = n
  ·subst hmn; exact hun'
  ·rw [e1 m hmn] at hm; exact hu m (H.dom m hm)
 ·intro m cs c q hm hc hr
  by_cases hmn : m = n
  ·subst hmn
   rw [upd_same] at hm
   injection hm with hm
   exact hwf cs c q hm hc hr
  ·rw [e1 m hmn] at hm; exact hu q (H.wfh m cs c q hm hc hr)
 ·intro m cs hm
  by_cases hmn : m = n
  ·subst hmn
   rw [upd_same] at hm
   injection hm with hm
   subst hm
   simp only [upd_same]
   exact hblk
  ·rw [e1 m hmn] at hm
   simp only [e2 m hmn]
   obtain ⟨a1, a2, a3⟩ := H.box m cs hm
   have hs := hsame m hmn (by rw [hm]; simp) a1
   refine ⟨a1, a2.congr hs, fun j c hj => ?_⟩
   obtain ⟨v, b1, b2, b3⟩ := a3 j c hj
   exact ⟨v, (cell_congr hs _).trans b1, b2, b3.keep K fun q hq => H.wfh m cs c q hm (List.mem_of_getElem? hj) hq⟩
 ·intro m gr mo sz xs hm
  by_cases hmn : m = n
  ·subst hmn
   rw [upd_same] at hm
   injection hm with hm
   subst hm
   simp only [upd_same]
   exact hblk
  ·rw [e1 m hmn] at hm
   simp only [e2 m hmn]
   have hr := H.row m gr mo sz xs hm
   have hf : ∀ b, RowF b (G.g m).px → w'.heap[b]? = w.heap[b]? := fun b hb =>
    hw b (H.rowF_lt hm hb) (fun hp heq => by
     by_cases hlt : p.b < w.heap.size
     ·exact hIm hp hlt b ⟨m, gr, mo, sz, xs, hmn, hm, hb⟩ heq
     ·have := H.rowF_lt hm hb; omega)
   refine ⟨hr.pos, hr.er, hr.nl, fun hl => ?_, fun hl hg => ?_, ?_⟩
   ·have hs := hsame m hmn (by rw [hm]; simp) hl
    obtain ⟨a1, a2, a3⟩ := hr.lies hl
    exact ⟨a1.congr hs, a2.congr (fun o => cell_congr hs o) (fun b' hb' o => cell_congr (hf b' hb') o), a3⟩
   ·have hs := hsame m hmn (by rw [hm]; simp) hl
    obtain ⟨r2, cur, e, r3, r4⟩ := hr.room hl hg
    exact ⟨r2, cur, e, hs.trans r3, r4⟩
   ·have hmm := hr.mode
    cases mo with
    | bor => exact hmm
    | froz => exact ⟨fun b hb => ⟨(hmm.1 b hb).1, (hmm.1 b hb).2.1.congr (hf b hb), (hmm.1 b hb).2.2⟩, hmm.2⟩
    | live => exact ⟨fun b hb => ⟨(hmm.1 b hb).1, (hmm.1 b hb).2.1.congr (hf b hb), (hmm.1 b hb).2.2⟩, hmm.2⟩
 ·intro m hm hl
  by_cases hmn : m = n
  ·subst hmn
   simp only [upd_same] at hl ⊢
   exact hown hl
  ·rw [e1 m hmn] at hm
   simp only [e2 m hmn] at hl ⊢
   obtain ⟨a1, a2, a3⟩ := H.own m hm hl
   exact ⟨a1, a2, Nat.lt_of_lt_of_le a3 hsz⟩
 ·intro m m' hm hm' hne hl hl'
  by_cases hmn : m = n
  ·subst hmn
   have hmn' : m' ≠ m := fun e => hne e.symm
   rw [e1 m' hmn'] at hm'
   simp only [upd_same, e2 m' hmn'] at hl hl' ⊢
   exact fun e => hinj hl m' hmn' hm' hl' e.symm
  ·rw [e1 m hmn] at hm
   by_cases hmn' : m' = n
   ·subst hmn'
    simp only [upd_same, e2 m hmn] at hl hl' ⊢
    exact hinj hl' m hmn hm hl
   ·rw [e1 m' hmn'] at hm'
    simp only [e2 m hmn, e2 m' hmn'] at hl hl' ⊢
    exact H.inj m m' hm hm' hne hl hl'
 ·exact fun b hb => Nat.lt_of_lt_of_le (H.imlt b hb) hsz
 ·intro m m' gr mo sz xs gr' mo' sz' xs' hm hm' hb hb' hne b hbF
  by_cases hmn : m = n
  ·subst hmn
   have hmn' : m' ≠ m := fun e => hne e.symm
   rw [e1 m' hmn'] at hm'
   rw [upd_same] at hm
   injection hm with hm
   simp only [upd_same, e2 m' hmn'] at hbF ⊢
   exact hcross gr mo sz xs hm hb m' gr' mo' sz' xs' hmn' hm' hb' b hbF
  ·rw [e1 m hmn] at hm
   by_cases hmn' : m' = n
   ·subst hmn'
    rw [upd_same] at hm'
    injection hm' with hm'
    simp only [upd_same, e2 m hmn] at hbF ⊢
    exact fun hb2 => hcross gr' mo' sz' xs' hm' hb' m gr mo sz xs hmn hm hb b hb2 hbF
   ·rw [e1 m' hmn'] at hm'
    simp only [e2 m hmn, e2 m' hmn'] at hbF ⊢
    exact H.cross m m' gr mo sz xs gr' mo' sz' xs' hm hm' hb hb' hne b hbF
 ·intro m gr sz xs hm b hb m' hm' hl'
  by_cases hmn : m = n
  ·subst hmn
   rw [upd_same] at hm
   injection hm with hm
   simp only [upd_same] at hb
   have := hlive gr sz xs hm b hb
   by_cases hmn' : m' = m
   ·subst hmn'; simp only [upd_same] at hl' ⊢; exact this.1 hl'
   ·rw [e1 m' hmn'] at hm'
    simp only [e2 m' hmn'] at hl' ⊢
    exact this.2 m' hmn' hm' hl'
  ·rw [e1 m hmn] at hm
   simp only [e2 m hmn] at hb
   by_cases hmn' : m' = n
   ·subst hmn'
    simp only [upd_same] at hl' ⊢
    exact hliv hl' m gr sz xs hmn hm b hb
   ·rw [e1 m' hmn'] at hm'
    simp only [e2 m' hmn'] at hl' ⊢
    exact H.live m gr sz xs hm b hb m' hm' hl'
 ·intro i pc hi
  obtain ⟨a1, a2⟩ := H.tkok i pc hi
  exact ⟨a1, fun b hb => ⟨(a2 b hb).1, hun b (H.imlt b (a2 b hb).1) (a2 b hb).2.1, (a2 b hb).2.2⟩⟩
 ·exact H.tkdis
 ·intro i pc m gr mo sz xs b hi hm hmo hb
  by_cases hmn : m = n
  ·subst hmn
   rw [upd_same] at hm
   injection hm with hm
   simp only [upd_same]
   exact htk gr mo sz xs hm hmo i pc b hi hb
  ·rw [e1 m hmn] at hm
   simp only [e2 m hmn]
   exact H.tkrow i pc m gr mo sz xs b hi hm hmo hb
theorem HR.del (H : HR B E w G h used tk) (n : Nat) : HR B E w G (upd h n none) used tk := by
 have e0 : ∀ m b, upd h n none m = some b → h m = some b ∧ m ≠ n := fun m b hm => by
  by_cases hmn : m = n
  ·subst hmn; rw [upd_same] at hm; cases hm
  ·rw [upd_ne _ _ _ _ hmn] at hm; exact ⟨hm, hmn⟩
 have e1 : ∀ m, upd h n none m ≠ none → h m ≠ none := fun m hm => by
  by_cases hmn : m = n
  ·subst hmn; rw [upd_same] at hm; exact absurd rfl hm
  ·rwa [upd_ne _ _ _ _ hmn] at hm
 have K : Keep w G h (fun n => used n = true) w G (upd h n none) :=
  ⟨fun _ h => h, fun _ _ _ => rfl, fun m _ hm => ⟨e1 m hm, rfl, rfl, rfl, rfl, rfl⟩, fun m gr sz xs _ hm => ⟨⟨gr, xs, (e0 m _ hm).1⟩, fun k j pc h1 h2 => ⟨pc, h1, rfl, h2⟩⟩⟩
 refine ⟨fun m hm => H.dom m (e1 m hm), fun m cs c q hm => H.wfh m cs c q (e0 m _ hm).1, fun m cs hm => ?_, fun m gr mo sz xs hm => H.row m gr mo sz xs (e0 m _ hm).1,
  fun m hm => H.own m (e1 m hm), fun m m' hm hm' => H.inj m m' (e1 m hm) (e1 m' hm'), H.imlt, H.img, fun m m' gr mo sz xs gr' mo' sz' xs' hm hm' => H.cross m m' gr mo sz xs gr' mo' sz' xs' (e0 m _ hm).1 (e0 m' _ hm').1,
  fun m gr sz xs hm b hb m' hm' => H.live m gr sz xs (e0 m _ hm).1 b hb m' (e1 m' hm'), H.tkok, H.tkdis, fun i pc m gr mo sz xs b hi hm => H.tkrow i pc m gr mo sz xs b hi (e0 m _ hm).1⟩
 obtain ⟨a1, a2, a3⟩ := H.box m cs (e0 m _ hm).1
 refine ⟨a1, a2, fun j c hj => ?_⟩
 obtain ⟨v, b1, b2, b3⟩ := a3 j c hj
 exact ⟨v, b1, b2, b3.keep K fun q hq => H.wfh m cs c q (e0 m _ hm).1 (List.mem_of_getElem? hj) hq⟩
theorem Keep.del (n : Nat) (u : Nat → Prop) : Keep w G h u w G (upd h n none) := by
 have e1 : ∀ m b, upd h n none m = some b → h m = some b := fun m b hm => by
  by_cases hmn : m = n
  ·subst hmn; rw [upd_same] at hm; cases hm
  ·rwa [upd_ne _ _ _ _ hmn] at hm
 refine ⟨fun _ h => h, fun _ _ _ => rfl, fun m _ hm => ?_, fun m gr sz xs _ hm => ⟨⟨gr, xs, e1 m _ hm⟩, fun k j pc h1 h2 => ⟨pc, h1, rfl, h2⟩⟩⟩
 cases hh : upd h n none m with
 | none => exact absurd hh hm
 | some b => rw [e1 m b hh]; exact ⟨by simp, rfl, rfl, rfl, rfl, rfl⟩
end
end Go.Am