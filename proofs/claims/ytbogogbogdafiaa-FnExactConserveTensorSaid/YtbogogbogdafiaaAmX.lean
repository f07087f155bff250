/- AmX: functions that give a window of a list of their arguments: what is said of them, and the caller's side of a call. No condition. -/
import Derived.Test.YtbogogbogdafiaaAmV
set_option linter.unusedVariables false
namespace Go.Am
def WSpec (P : Program) (f : FuncId) (sig : MSig) (M : List Dv → Option (Nat × Nat)) : Prop :=
 ∀ ds lo len, M ds = some (lo, len) → ∀ (w : World) (vals : List Value) (pas : List PA), MArgs w sig ds vals pas → Calls P f vals.toArray w fun e w' =>
  ∃ (m : Mode) (sz cap : Nat) (a : Option Addr) (xs : List (List PC)) (v : Value), fArgs sig (pas.map (·.ps)) = [(m, .list sz a cap xs)] ∧ e = .returned v ∧ xs ≠ [] ∧
   (∃ (b o : Nat) (a' : Option Addr), a = some (ad b o) ∧ v = .slice a' len (cap - lo) ∧ lo + len ≤ cap ∧ ((lo < cap ∨ lo = 0) → a' = some (ad b (o + lo * sz)))) ∧
   Fr w.heap.size (exF [(m, .list sz a cap xs)]) w w' ∧ ∃ q : PC, q.er = (PC.list sz a cap xs).er ∧ MAfter w' m (.list sz a cap xs) q
def TabOkW (P : Program) (T : Tab) : Prop := ∀ f sig M, Tab.findW T.ws f = some (sig, M) → WSpec P f sig M
section
variable {B : Nat} {E : Ex} {w0 w w' : World} {G G' : Gh} {N : Nat} {h h' : Nat → Option Blk} {used used' : Nat → Bool} {tk : List PC}
variable {P : Program} {o : Oper} {a : Act} {σ σ' : St} {Q : Exit → Act → World → Prop}
theorem ex_doCallW (r : R B E w0 N σ a w G) {T : Tab} (hT : TabOkW P T) {f : FuncId} {as : List AVal} {vals : List Value} {v0 : AVal} (hN : ∀ n, o.dst = some n → n < N)
  (hrun : (execOp a.eval o).run P w = .ok (.enter f vals.toArray) w) (hl : vals.length = as.length)
  (has : ∀ (j : Nat) (x : AVal) (v : Value), as[j]? = some x → vals[j]? = some v → RA w G σ.h x v)
  (hx : doCallW T f as σ.h = some v0) : o.wp P a w (Nx B E w0 N (σ.put o.dst v0)) Q := by
 have H := r.hr
 unfold doCallW at hx
 split at hx
 ·rename_i sig M cas hM hcas
  split at hx
  ·rename_i n0 hnames
   split at hx
   ·rename_i ds n md hv
    split at hx
    ·rename_i he
     subst he
     split at hx
     ·rename_i gr mo sz xs lo len hrow hM'
      injection hx with hx
      subst hx
      obtain ⟨hl2, has2⟩ := mArgs_ok hcas hl has
      obtain ⟨pas, q1, q2, q3, q4, q5, q6, q7⟩ := H.mviews hv hl2 has2
      have hnd' : ([((MIt.row n : MIt), md)].filterMap (·.1.name?)).Nodup := by simp [MIt.name?]
      generalize hflE : fArgs sig (pas.map (·.ps)) = fl at q5
      obtain ⟨x, rfl⟩ : ∃ x, fl = [x] := by
       match fl, q5.len with
       | [x], _ => exact ⟨x, rfl⟩
      obtain ⟨hmd, hit⟩ := q5.at_ 0 _ x rfl rfl
      have hat := hit.at_
      obtain ⟨gr', mo', sz', xs', e1, e2, e3, e4, e5⟩ := hat
      rw [hrow] at e1
      injection e1 with e1
      injection e1 with a1 a2 a3 a4
      subst a1 a2 a3 a4
      have hn0 : σ.h n ≠ none := by rw [hrow]; simp
      have hr := H.row n gr mo sz xs hrow
      have hfoot : ∀ b, InF b x.2 → ftN G n b ∧ ((∀ b, ¬ RowF b (G.g n).px) ∨ mo = .live) := by
       intro b hb
       obtain ⟨n', gr', m', sz', xs', f1, f2, f3, f4, f5⟩ := hit.foot H hb
       have : n' = n := by injection f1 with f1; exact f1.symm
       subst this
       rw [hrow] at f2
       injection f2 with f2
       injection f2 with _ f2 _ _
       subst f2
       exact ⟨f4, f5⟩
      have margs : MArgs w sig ds vals pas := by
       refine ⟨q2, q1, q3, fun y hy => ?_, ?_, fun pc hpc y hy b hb hb' => ?_, fun p hp hk => absurd hk (q4 p hp), fun i p s hp _ hk => absurd hk (q4 p (List.mem_of_getElem? hp))⟩
       ·rw [hflE, List.mem_singleton] at hy
        subst hy
        exact hit.ok
       ·rw [hflE]; simp
       ·rw [hflE, List.mem_singleton] at hy
        subst hy
        obtain ⟨f4, f5⟩ := hfoot b hb'
        rcases q7 pc hpc b hb with hi | ⟨n', gr', m', sz', xs', hn', e2', e4'⟩
        ·rcases f4 with ⟨hnl, rfl⟩ | hF
         ·exact (H.own n hn0 hnl).1 hi
         ·rcases f5 with f5 | rfl
          ·exact f5 b hF
          ·exact (hr.mode.1 b hF).1 hi
        ·have hne : n' ≠ n := fun e => hn' (by rw [e]; simp)
         exact H.ft_dis hne e2' hrow f5 e4' f4
      unfold Oper.wp
      rw [hrun]
      refine (hT f sig M hM ds lo len hM' w vals pas margs).mono fun e w' ⟨m1, sz1, cap1, ad1, xs1, v, p1, p2, p3, ⟨lb, lo1, la, l1, l2, l3, l4⟩, p4, q, p5, p6⟩ => ?_
      subst p2
      rw [hflE] at p1
      injection p1 with p1 _
      subst p1
      dsimp only at e4
      have hex : ∀ b, exF [(m1, PC.list sz1 ad1 cap1 xs1)] b → (B ≤ b ∨ E b) := by
       rintro b ⟨y, hy, hb⟩
       rw [List.mem_singleton] at hy
       subst hy
       rcases (hfoot b hb).1 with ⟨hnl, rfl⟩ | hF
       ·exact (H.own n hn0 hnl).2.1
       ·have hmode := hr.mode
        cases mo with
        | bor => exact absurd rfl e2
        | froz => exact (hmode.1 b hF).2.2
        | live => exact (hmode.1 b hF).2.2
      have hgat : (ghostO G [((MIt.row n : MIt), md)] [q]).g n = newPB (G.g n) (.row n) q := ghostO_at hnd' (i := 0) (it := (.row n, md)) rfl rfl rfl
      have hqe : q.er = .list sz xs := by rw [p5, e4]; exact rowPC_er hr
      have p6' := p6
      rw [e4] at p6
      obtain ⟨HR', K, _⟩ := H.mutate (G' := ghostO G [((MIt.row n : MIt), md)] [q]) (h' := σ.h) (w' := w') (S := fun k => k = n) p4.size (fun b hb hno => p4.block b hb (by
        rintro ⟨y, hy, hby⟩
        rw [List.mem_singleton] at hy
        subst hy
        exact hno n rfl (hfoot b hby).1)) (fun b hb => p4.unf b hb) rfl (fun k hk => by
        subst hk
        exact ⟨gr, mo, sz, xs, xs, hrow, hrow, by rw [hgat]; exact chg_row H hrow e2 e3 e5 p6 hqe⟩)
       (fun k hk => ⟨rfl, ghostO_not (by simp [MIt.name?]; exact hk)⟩)
      have hfr : Fr B E w0 w' := by
       refine ⟨p4.os.trans r.fr.os, p4.tape.trans r.fr.tape, p4.output.trans r.fr.output, Nat.le_trans r.fr.size p4.size, fun b hb he => ?_, fun b hb => ?_⟩
       ·refine (p4.block b (Nat.lt_of_lt_of_le hb r.fr.size) fun hx => ?_).trans (r.fr.block b hb he)
        rcases hex b hx with h1 | h1
        ·omega
        ·exact he h1
       ·exact (r.fr.unf b hb).trans (p4.unf b (Nat.lt_of_lt_of_le hb r.fr.size))
      have r2 : R B E w0 N σ a w' (ghostO G [((MIt.row n : MIt), md)] [q]) := r.step rfl (fun _ h => h) K HR' hfr
      refine ⟨_, r2.put (RA.of_one ?_ ?_) (fun k hk => ?_) hN⟩
      ·rw [l2]; rfl
      ·show σ.h n ≠ none → SlOk _ sz lo len v
       intro _
       have hq : PC.list sz1 ad1 cap1 xs1 = rowPC sz (G.g n) := e4
       unfold rowPC at hq
       injection hq with g1 g2 g3 g4
       subst g1 g3 g4
       have hnl : (G.g n).nl = false := by
        cases h0 : (G.g n).nl with
        | false => rfl
        | true => exact absurd (hr.nl h0).1 p3
       rw [hnl] at g2
       have g2 : ad1 = some (ad (G.g n).b (G.g n).o) := g2
       rw [l1] at g2
       injection g2 with g2
       obtain ⟨rfl, rfl⟩ := ad_inj g2
       obtain ⟨sz2, ad2, cap2, px2, rfl⟩ := PC.list_of_val p6.val rfl
       rw [hgat]
       exact .inr ⟨hnl, la, l2, l3, l4⟩
      ·have hk' : k = n := hk
       subst hk'
       exact r.hr.dom k hn0
     ·cases hx
    ·cases hx
   ·cases hx
  ·cases hx
 ·cases hx
theorem ex_callw (r : R B E w0 N σ a w G) {T : Tab} (hT : TabOkW P T) {f : FuncId} {xs : Array Operand} {ms : List MO} {ts : Array TypeId} {v0 : AVal} (hN : ∀ n, o.dst = some n → n < N)
  (ho : o.op = .call { callee := .value (.func f), args := xs, argTypes := ts }) (hf : chkFun P f = true) (hm : chkMOs xs.toList ms = true)
  (hx : doCallW T f (ms.map σ.ev) σ.h = some v0) : o.wp P a w (Nx B E w0 N (σ.put o.dst v0)) Q := by
 obtain ⟨e1, e2⟩ := r.evs hm
 refine ex_doCallW r hT (vals := xs.toList.map a.eval) hN ?_ (by simpa using e1) e2 hx
 have he : (xs.toList.map a.eval).toArray = xs.map a.eval := by apply Array.ext'; simp
 rw [he]
 simp [execOp, ho, resolve, Deferred.ofValue, invoke, Act.eval, run_callFunc hf]
end
end Go.Am