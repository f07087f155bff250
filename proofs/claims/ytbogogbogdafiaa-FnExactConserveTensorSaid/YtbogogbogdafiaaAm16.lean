/- Am16: results of calls come in; calls. No condition. -/
import Derived.Test.YtbogogbogdafiaaAm15
set_option linter.unusedVariables false
namespace Go.Am
section
variable {B : Nat} {E : Ex} {w0 w w' : World} {G G' : Gh} {h h' : Nat → Option Blk} {used used' : Nat → Bool} {tk : List PC} {N : Nat}
variable {P : Program} {o : Oper} {a : Act} {σ σ' : St} {Q : Exit → Act → World → Prop}
theorem HR.impOne (H : HR B E w G h used []) {n sz cap : Nat} {x : Option Addr} {xs : List (List PC)} {m : Mode} (hg : Good w (.list sz x cap xs)) (hs : Sep (.list sz x cap xs)) (ht : TopOk w (.list sz x cap xs))
  (hl : ∀ b, InT b (.list sz x cap xs) → Lone G h b ∧ Unf w b ∧ B ≤ b) (hn : used n = false) :
  ∃ G', HR B E w G' (upd h n (some (.row true m sz (xs.map fun e => e.map PC.er)))) (upd used n true) [] ∧
   Keep w G h (fun n => used n = true) w G' (upd h n (some (.row true m sz (xs.map fun e => e.map PC.er)))) ∧
   RC w G' (upd h n (some (.row true m sz (xs.map fun e => e.map PC.er)))) (.sl n sz 0 xs.length) (PC.val (.list sz x cap xs)) ∧
   ∀ b, Lone G h b → ¬ InT b (.list sz x cap xs) → Lone G' (upd h n (some (.row true m sz (xs.map fun e => e.map PC.er)))) b := by
 obtain ⟨hpos, hcap, htop⟩ := ht
 have hF : ∀ b, RowF b xs → InF b (.list sz x cap xs) := fun b ⟨k, j, c, h1, h2⟩ => .there _ _ _ _ k j c h1 h2
 have hsep : RowSep xs := by cases hs with | list _ _ _ _ h1 h2 h3 => exact ⟨h1, h3⟩
 let S : Nat → Prop := fun b => m ≠ .live ∧ RowF b xs
 have H1 : HR B E w ⟨fun b => G.Im b ∨ S b, G.g⟩ h used [] := H.imx S (fun b hb => (hl b (.inl (hF b hb.2))).2.1.lt)
  (fun b hb q hq hq2 he => (hl b (.inl (hF b hb.2))).1.2.1 q hq hq2 he.symm) (fun b hb q gr sz xs hq => (hl b (.inl (hF b hb.2))).1.2.2 q gr _ sz xs hq) (fun b hb => .inl (hl b (.inl (hF b hb.2))).2.2)
 -- where it lies
 obtain ⟨p, hpnl, hpx, hpb, hplies, hpsl, hpinT⟩ : ∃ p : PB, (p.nl = true → xs = [] ∧ (true = true → p.cap = 0)) ∧ p.px = xs ∧
   (p.nl = false → Lone ⟨fun b => G.Im b ∨ S b, G.g⟩ h p.b ∧ Unf w p.b ∧ B ≤ p.b ∧ ∀ b, RowF b xs → b ≠ p.b) ∧
   (p.nl = false → RowAt w p.b p.o sz xs ∧ xs.length ≤ p.cap ∧ Room w p sz) ∧ SlOk p sz 0 xs.length (PC.val (.list sz x cap xs)) ∧ (p.nl = false → InT p.b (.list sz x cap xs)) := by
  by_cases hcap0 : cap = 0
  ·subst hcap0
   have hx : xs = [] := List.eq_nil_of_length_eq_zero (by omega)
   subst hx
   exact ⟨⟨true, 0, 0, 0, [], x⟩, fun _ => ⟨rfl, fun _ => rfl⟩, rfl, (fun hf => by cases hf), (fun hf => by cases hf), .inl ⟨rfl, rfl, rfl, rfl⟩, (fun hf => by cases hf)⟩
  ·obtain ⟨b, o, cur, e, rfl, hh, hsz, hmax, hno⟩ := htop.resolve_left hcap0
   have hT : InT b (.list sz (some (ad b o)) cap xs) := .inr ⟨_, _, _, _, rfl, hcap0⟩
   obtain ⟨l1, l2, l3⟩ := hl b hT
   have hne : ∀ b', RowF b' xs → b' ≠ b := fun b' ⟨k, j, c, h1, h2⟩ he => hno k j c h1 (he ▸ h2)
   refine ⟨⟨false, b, o, cap, xs, none⟩, (fun hf => by cases hf), rfl, fun _ => ⟨⟨fun hi => hi.elim l1.1 (fun hS => hne b hS.2 rfl), l1.2⟩, l2, l3, hne⟩, fun _ => ⟨?_, hcap, hmax, cur, e, hh, hsz⟩, .inr ⟨rfl, some (ad b o), by simp [PC.val], by simpa using hcap, fun _ => by simp⟩, fun _ => hT⟩
   cases hg with
   | nil _ _ _ _ => exact ⟨by simp, by rintro k j c ⟨e, he, _⟩; simp at he, by rintro k j c ⟨e, he, _⟩; simp at he⟩
   | cons _ _ _ _ _ h1 h2 h3 h4 h5 h6 => exact ⟨h4, h5, h6⟩
 subst hpx
 have hrow : RowOk B E w ⟨fun b => G.Im b ∨ S b, G.g⟩ true m sz (p.px.map fun e => e.map PC.er) p := by
  refine ⟨hpos, rfl, hpnl, fun hf => ⟨(hpb hf).2.1, (hplies hf).1, (hplies hf).2.1⟩, fun hf _ => (hplies hf).2.2, ?_⟩
  cases hm : m with
  | bor => exact fun b hb => .inr ⟨by simp [hm], hb⟩
  | froz => exact ⟨fun b hb => ⟨.inr ⟨by simp [hm], hb⟩, (hl b (.inl (hF b hb))).2.1, .inl (hl b (.inl (hF b hb))).2.2⟩, hsep⟩
  | live => exact ⟨fun b hb => ⟨fun hi => hi.elim (hl b (.inl (hF b hb))).1.1 (fun hS => hS.1 hm), (hl b (.inl (hF b hb))).2.1, .inl (hl b (.inl (hF b hb))).2.2⟩, hsep⟩
 have Hn := H1.insert (w' := w) (n := n) (blk := .row true m sz (p.px.map fun e => e.map PC.er)) (p := p) hn (fun _ _ => rfl) (Nat.le_refl _)
  (fun hf => ⟨(hpb hf).1, .inl (hpb hf).2.2.1, (hpb hf).2.1.lt⟩) (fun cs c q hb => by cases hb) (by exact hrow)
  (fun gr m' sz' xs' hb hm n' gr' mo' sz2 xs2 h0 hmo b hbF => (hl b (.inl (hF b hbF))).1.2.2 n' gr' mo' sz2 xs2 h0)
  (fun gr sz' xs' hb b hbF => ⟨fun hf => (hpb hf).2.2.2 b hbF, fun n' h0 hl0 he => (hl b (.inl (hF b hbF))).1.2.1 n' h0 hl0 he.symm⟩)
  (fun gr m' sz' xs' hb hm i pc b hi => by simp at hi)
 refine ⟨_, Hn, Keep.trans (u2 := fun n => used n = true) (fun _ h => h) (Keep.imx S _) (Keep.insert H1 hn (fun _ _ => rfl)), fun _ => by simpa [upd_same] using hpsl, fun b hb hbT => ?_⟩
 refine ⟨fun hi => hi.elim hb.1 (fun hS => hbT (.inl (hF b hS.2))), fun q hq hq2 he => ?_, fun q gr mo sz' xs' hq hbF => ?_⟩
 ·by_cases hqn : q = n
  ·subst hqn
   simp only [upd_same] at hq2 he
   exact hbT (he ▸ hpinT hq2)
  ·rw [upd_ne _ _ _ _ hqn] at hq
   simp only [upd_ne _ _ _ _ hqn] at hq2 he
   exact hb.2.1 q hq hq2 he
 ·by_cases hqn : q = n
  ·subst hqn
   simp only [upd_same] at hbF
   exact hbT (.inl (hF b hbF))
  ·rw [upd_ne _ _ _ _ hqn] at hq
   simp only [upd_ne _ _ _ _ hqn] at hbF
   exact hb.2.2 q gr mo sz' xs' hq hbF
structure InOk (B : Nat) (w : World) (G : Gh) (h : Nat → Option Blk) (ps : List PC) : Prop where
 good : ∀ pc ∈ ps, Good w pc ∧ Sep pc ∧ TopOk w pc
 lone : ∀ pc ∈ ps, ∀ b, InT b pc → Lone G h b ∧ Unf w b ∧ B ≤ b
 dis : ps.Pairwise fun p q => ∀ b, InT b p → ¬ InT b q
theorem InOk.tail {p : PC} {ps : List PC} (hi : InOk B w G h (p :: ps)) (hL : ∀ b, Lone G h b → ¬ InT b p → Lone G' h' b) : InOk B w G' h' ps :=
 ⟨fun q hq => hi.good q (by simp [hq]), fun q hq b hb => ⟨hL b (hi.lone q (by simp [hq]) b hb).1 (fun hp => (List.pairwise_cons.1 hi.dis).1 q hq b hp hb), (hi.lone q (by simp [hq]) b hb).2⟩, (List.pairwise_cons.1 hi.dis).2⟩
theorem HR.imp {m : Mode} : ∀ {ps qs : List PC} {σ σ1 : St} {G : Gh} {nm nm' : Nat} {l : List ACell}, HR B E w G σ.h σ.used [] → σ.imp m nm (ps.map PC.er) = some (l, nm', σ1) → InOk B w G σ.h (ps ++ qs) →
  ∃ G', HR B E w G' σ1.h σ1.used [] ∧ Keep w G σ.h (fun n => σ.used n = true) w G' σ1.h ∧ RCl w G' σ1.h l (ps.map PC.val) ∧ (∀ c ∈ l, ∀ q, c.ref q → σ1.used q = true) ∧ σ1.env = σ.env ∧
   (∀ q, σ.used q = true → σ1.used q = true) ∧ InOk B w G' σ1.h qs
 | [], qs, σ, σ1, G, nm, nm', l, H, hx, hi => by
  simp only [List.map_nil, St.imp] at hx
  injection hx with hx
  injection hx with h1 h2
  injection h2 with h2 h3
  subst h1 h3
  exact ⟨G, H, Keep.refl _ _ _ _, ⟨rfl, by simp⟩, by simp, rfl, fun _ h => h, by simpa using hi⟩
 | p :: ps, qs, σ, σ2, G, nm, nm', l, H, hx, hi => by
  have scal : ∀ (x : C) (hx : (match σ.imp m nm (ps.map PC.er) with | some (l, nm', σ2) => some (ACell.c x :: l, nm', σ2) | none => none) = some (l, nm', σ2)) (hp : p.er = x) (hno : ∀ b, ¬ InT b p) (hg : Good w p), 
    ∃ G', HR B E w G' σ2.h σ2.used [] ∧ Keep w G σ.h (fun n => σ.used n = true) w G' σ2.h ∧ RCl w G' σ2.h l ((p :: ps).map PC.val) ∧ (∀ c ∈ l, ∀ q, c.ref q → σ2.used q = true) ∧ σ2.env = σ.env ∧
     (∀ q, σ.used q = true → σ2.used q = true) ∧ InOk B w G' σ2.h qs := by
   intro x hx hp hno hg
   split at hx
   ·rename_i l' nm2 σ3 e1
    injection hx with hx
    injection hx with h1 h2
    injection h2 with h2 h3
    subst h1 h2 h3
    obtain ⟨G', b1, b2, b3, b4, b5, b6, b7⟩ := HR.imp H e1 (hi.tail (fun b hb _ => hb))
    refine ⟨G', b1, b2, ⟨by simp [b3.1], fun j c u hj hu => ?_⟩, fun c hc q hq => ?_, b5, b6, b7⟩
    ·cases j with
     | zero =>
      simp at hj hu; subst hj; subst hu
      exact ⟨PC.val_oneCell p, p, hp, rfl, hg, fun b hb => absurd (.inl hb) (hno b)⟩
     | succ j => exact b3.2 j c u (by simpa using hj) (by simpa using hu)
    ·cases hc with
     | head => exact absurd hq id
     | tail _ hc => exact b4 c hc q hq
   ·cases hx
  cases p with
  | int k n => exact scal (.int k n) (by simp only [List.map_cons, St.imp, PC.er] at hx; exact hx) (by simp [PC.er]) (fun b hb => by rcases hb with hb | ⟨_, _, _, _, hb, _⟩ <;> cases hb) (.int _ _)
  | bool b => exact scal (.bool b) (by simp only [List.map_cons, St.imp, PC.er] at hx; exact hx) (by simp [PC.er]) (fun b hb => by rcases hb with hb | ⟨_, _, _, _, hb, _⟩ <;> cases hb) (.bool _)
  | list sz x cap xs =>
   simp only [List.map_cons, PC.er_list, St.imp] at hx
   split at hx
   ·rename_i σ1 e1
    split at hx
    ·rename_i l' nm2 σ3 e2
     injection hx with hx
     injection hx with h1 h2
     injection h2 with h2 h3
     subst h1 h2 h3
     obtain ⟨hn, rfl⟩ := ins_some e1
     obtain ⟨g1, g2, g3⟩ := hi.good (.list sz x cap xs) (by simp)
     obtain ⟨G1, a1, a2, a3, a4⟩ := H.impOne (m := m) g1 g2 g3 (hi.lone (.list sz x cap xs) (by simp)) hn
     obtain ⟨G', b1, b2, b3, b4, b5, b6, b7⟩ := HR.imp a1 e2 (hi.tail a4)
     have hu1 : ∀ q, σ.used q = true → upd σ.used nm true q = true := fun q hq => upd_used _ _ hq
     refine ⟨G', b1, Keep.trans hu1 a2 b2, ⟨by simp [b3.1], fun j c u hj hu => ?_⟩, fun c hc q hq => ?_, b5, fun q hq => b6 q (hu1 q hq), b7⟩
     ·cases j with
      | zero =>
       simp at hj hu; subst hj; subst hu
       exact ⟨rfl, a3.keep b2 fun q hq => by have hq' : q = nm := hq; subst hq'; exact upd_same _ _ _⟩
      | succ j => exact b3.2 j c u (by simpa using hj) (by simpa using hu)
     ·cases hc with
      | head => have hq' : q = nm := hq; subst hq'; exact b6 _ (upd_same _ _ _)
      | tail _ hc => exact b4 c hc q hq
    ·cases hx
   ·cases hx
theorem HR.imps {m : Mode} : ∀ {prs : List (K × List PC)} {σ σ1 : St} {G : Gh} {nm : Nat} {ls : List (Bool × List ACell)}, HR B E w G σ.h σ.used [] → σ.imps m nm (prs.map fun p => (p.1, p.2.map PC.er)) = some (ls, σ1) →
  (∀ p ∈ prs, p.1 ≠ .ptr ∧ (p.1 = .one → p.2.length = 1)) → InOk B w G σ.h (prs.flatMap (·.2)) →
  ∃ G', HR B E w G' σ1.h σ1.used [] ∧ Keep w G σ.h (fun n => σ.used n = true) w G' σ1.h ∧ ls.length = prs.length ∧
   (∀ (j : Nat) (x : Bool × List ACell) (p : K × List PC), ls[j]? = some x → prs[j]? = some p → RV w G' σ1.h x.1 x.2 (retOne p)) ∧ (∀ x ∈ ls, ∀ c ∈ x.2, ∀ q, c.ref q → σ1.used q = true) ∧ σ1.env = σ.env ∧
   (∀ q, σ.used q = true → σ1.used q = true)
 | [], σ, σ1, G, nm, ls, H, hx, hk, hi => by
  simp only [List.map_nil, St.imps] at hx
  injection hx with hx
  injection hx with h1 h2
  subst h1 h2
  exact ⟨G, H, Keep.refl _ _ _ _, rfl, by simp, by simp, rfl, fun _ h => h⟩
 | (k, ps) :: prs, σ, σ2, G, nm, ls, H, hx, hk, hi => by
  have hkp := hk (k, ps) (by simp)
  have hx' : (match σ.imp m nm (ps.map PC.er) with
   | some (l, nm', σ1) => match σ1.imps m nm' (prs.map fun p => (p.1, p.2.map PC.er)) with
    | some (ls, σ2) => some ((decide (k = .agg), l) :: ls, σ2)
    | none => none
   | none => none) = some (ls, σ2) := by
   cases k with
   | ptr => exact absurd rfl hkp.1
   | one => simp [St.imps] at hx; exact hx
   | agg => simp [St.imps] at hx; exact hx
  clear hx
  split at hx'
  ·rename_i l nm' σ1 e1
   split at hx'
   ·rename_i ls' σ3 e2
    injection hx' with hx
    injection hx with h1 h2
    subst h1 h2
    obtain ⟨G1, a1, a2, a3, a4, a5, a6, a7⟩ := HR.imp H e1 (by simpa using hi)
    obtain ⟨G', b1, b2, b3, b4, b5, b6, b7⟩ := HR.imps a1 e2 (fun p hp => hk p (by simp [hp])) a7
    refine ⟨G', b1, Keep.trans a6 a2 b2, by simp [b3], fun j x p hj hp => ?_, fun x hx c hc q hq => ?_, b6.trans a5, fun q hq => b7 q (a6 q hq)⟩
    ·cases j with
     | zero =>
      simp at hj hp; subst hj; subst hp
      have hcl := RCl.keep b2 (fun c hc q hq => a4 c hc q hq) a3
      cases k with
      | ptr => exact absurd rfl hkp.1
      | agg => exact ⟨ps.map PC.val, rfl, hcl⟩
      | one =>
       have h1 := hkp.2 rfl
       match ps, h1 with
       | [p], _ => exact hcl
     | succ j => exact b4 j x p (by simpa using hj) (by simpa using hp)
    ·cases hx with
     | head => exact b7 q (a4 c hc q hq)
     | tail _ hx => exact b5 x hx c hc q hq
   ·cases hx'
  ·cases hx'
theorem RA.res1 {ls : List (Bool × List ACell)} {prs : List (K × List PC)} (hlen : ls.length = prs.length) (hk : ∀ p ∈ prs, p.1 ≠ .ptr ∧ (p.1 = .one → p.2.length = 1))
  (hv : ∀ (j : Nat) (x : Bool × List ACell) (p : K × List PC), ls[j]? = some x → prs[j]? = some p → RV w G h x.1 x.2 (retOne p)) : RA w G h (res1 ls) (retVal prs) := by
 match ls, prs, hlen with
 | [], [], _ => exact ⟨[], rfl, rfl, by simp⟩
 | [(ag, cs)], [p], _ =>
  have h0 := hv 0 (ag, cs) p rfl rfl
  cases ag with
  | true => exact h0
  | false =>
   have hcl : RCl w G h cs [retOne p] := h0
   match cs, hcl.1 with
   | [c], _ => exact .inr h0
 | x :: y :: ls, p :: q :: prs, hl =>
  refine ⟨(p :: q :: prs).map retOne, rfl, by simpa using hl.symm, fun j x' u hj hu => ?_⟩
  rw [List.getElem?_map] at hu
  cases hp : (p :: q :: prs)[j]? with
  | none => rw [hp] at hu; cases hu
  | some p' => rw [hp] at hu; simp at hu; subst hu; exact hv j x' p' hj hp
def TabOk (P : Program) (T : Tab) : Prop := ∀ f M, Tab.find T.pure f = some M → PureSpec P f M
def chkFun (P : Program) (f : FuncId) : Bool :=
 match P.funcs[f]? with
 | some fn => fn.body.isSome && (fn.name != "runtime.NumGoroutine")
 | none => false
theorem run_callFunc {f : FuncId} (hc : chkFun P f = true) (args : Array Value) : (callFunc f args).run P w = .ok (.enter f args) w := by
 unfold chkFun at hc
 split at hc
 ·rename_i fn hf
  simp only [Bool.and_eq_true, bne_iff_ne, ne_eq] at hc
  obtain ⟨h1, h2⟩ := hc
  cases hb : fn.body with
  | none => rw [hb] at h1; cases h1
  | some c => simp [callFunc, hf, h2, hb]
 ·cases hc
theorem Fr.call (F : Fr B E w0 w) (F' : Fr w.heap.size Ex.no w w') : Fr B E w0 w' :=
 F.grow (fun b hb => F'.block b hb id) F'.size F'.os F'.tape F'.output
theorem ex_doCall (r : R B E w0 N σ a w G) {T : Tab} (hT : TabOk P T) {m : Mode} {f : FuncId} {as : List AVal} {vals : List Value} {σ1 : St} (hN : ∀ n, o.dst = some n → n < N)
  (hrun : (execOp a.eval o).run P w = .ok (.enter f vals.toArray) w) (hl : vals.length = as.length)
  (has : ∀ (j : Nat) (x : AVal) (v : Value), as[j]? = some x → vals[j]? = some v → RA w G σ.h x v)
  (hx : doCall T m o.dst f as σ = some σ1) : o.wp P a w (Nx B E w0 N σ1) Q := by
 unfold doCall at hx
 split at hx
 ·rename_i ds hds
  split at hx
  ·rename_i M hM
   split at hx
   ·rename_i rs hrs
    split at hx
    ·rename_i ls σ2 himp
     injection hx with hx
     subst hx
     have hargs := r.hr.viewAs hds hl has
     unfold Oper.wp
     rw [hrun]
     refine (hT f M hM ds rs hrs w vals hargs).mono fun e w' ⟨prs, p1, p2, p3, p4, p5⟩ => ?_
     subst p2
     have hblk : ∀ b, b < w.heap.size → w'.heap[b]? = w.heap[b]? := fun b hb => p5.block b hb id
     have H' := r.hr.grow hblk p5.size
     have hin : InOk B w' G σ.h (prs.flatMap (·.2)) := by
      refine ⟨p4.good, fun pc hpc b hb => ?_, ?_⟩
      ·obtain ⟨n1, n2⟩ := p4.new pc hpc b hb
       refine ⟨⟨fun hi => ?_, fun q hq hq2 he => ?_, fun q gr mo sz xs hq hbF => ?_⟩, n2, Nat.le_trans r.fr.size n1⟩
       ·have := r.hr.imlt b hi; omega
       ·have := (r.hr.own q hq hq2).2.2; omega
       ·have := r.hr.rowF_lt hq hbF; omega
      ·rw [List.pairwise_iff_getElem]
       intro i j hi hj hij b hb
       exact p4.dis i j _ _ b (by omega) (List.getElem?_eq_getElem hi) (List.getElem?_eq_getElem hj) hb
     rw [← p1] at himp
     obtain ⟨G', b1, b2, b3, b4, b5, b6, b7⟩ := HR.imps H' himp p3 hin
     have K : Keep w G σ.h (fun n => σ.used n = true) w' G' σ2.h := Keep.trans (fun _ h => h) (Keep.world (fun b hb => hblk b (r.hr.imlt b hb)) _) b2
     have r2 : R B E w0 N σ2 a w' G' := r.step b6 b7 K b1 (r.fr.call p5)
     refine ⟨G', r2.put (RA.res1 b3 p3 b4) ?_ hN⟩
     intro q hq
     match ls, hq with
     | [], hq => obtain ⟨x, hx, _⟩ := hq; simp at hx
     | [(true, cs)], hq => obtain ⟨c, hc, hq⟩ := hq; exact b5 (true, cs) (by simp) c hc q hq
     | [(false, [c])], hq => exact b5 (false, [c]) (by simp) c (by simp) q hq
     | [(false, [])], hq => exact absurd hq id
     | [(false, _ :: _ :: _)], hq => exact absurd hq id
     | x :: y :: ls, hq => obtain ⟨x', hx', c, hc, hq⟩ := hq; exact b5 x' hx' c hc q hq
    ·cases hx
   ·cases hx
  ·cases hx
 ·cases hx
theorem datsV_eq : ∀ {prs : List (K × List PC)} {ls : List (Bool × List ACell)}, datsV (prs.map fun p => (p.1, p.2.map PC.er)) = some ls → ls = prs.map fun p => (decide (p.1 = .agg), p.2.map fun pc => ACell.c pc.er)
 | [], ls, h => by simp only [List.map_nil, datsV] at h; injection h with h; exact h.symm
 | (k, ps) :: prs, ls, h => by
  cases k with
  | ptr => simp [datsV] at h
  | one =>
   simp only [List.map_cons, datsV] at h
   split at h
   ·rename_i ls' e
    injection h with h
    rw [← h, datsV_eq e, List.map_map]
    rfl
   ·cases h
  | agg =>
   simp only [List.map_cons, datsV] at h
   split at h
   ·rename_i ls' e
    injection h with h
    rw [← h, datsV_eq e, List.map_map]
    rfl
   ·cases h
theorem res1_noref {ls : List (Bool × List ACell)} {q : Nat} (hno : ∀ x ∈ ls, ∀ c ∈ x.2, ¬ c.ref q) : ¬ (res1 ls).ref q := by
 intro hq
 match ls, hq with
 | [], hq => obtain ⟨x, hx, _⟩ := hq; simp at hx
 | [(true, cs)], hq => obtain ⟨c, hc, hq⟩ := hq; exact hno (true, cs) (by simp) c hc hq
 | [(false, [c])], hq => exact hno (false, [c]) (by simp) c (by simp) hq
 | [(false, [])], hq => exact hq
 | [(false, _ :: _ :: _)], hq => exact hq
 | x :: y :: ls, hq => obtain ⟨x', hx', c, hc, hq⟩ := hq; exact hno x' hx' c hc hq
theorem ex_doCallD (r : R B E w0 N σ a w G) {T : Tab} (hT : TabOk P T) {f : FuncId} {as : List AVal} {vals : List Value} {z : AVal} (hN : ∀ n, o.dst = some n → n < N)
  (hrun : (execOp a.eval o).run P w = .ok (.enter f vals.toArray) w) (hl : vals.length = as.length)
  (has : ∀ (j : Nat) (x : AVal) (v : Value), as[j]? = some x → vals[j]? = some v → RA w G σ.h x v)
  (hx : callDB T f as σ.h = some z) : o.wp P a w (Nx B E w0 N (σ.put o.dst z)) Q := by
 unfold callDB at hx
 split at hx
 ·rename_i ds hds
  split at hx
  ·rename_i M hM
   split at hx
   ·rename_i rs hrs
    split at hx
    ·rename_i ls himp
     injection hx with hx
     subst hx
     have hargs := r.hr.viewAs hds hl has
     unfold Oper.wp
     rw [hrun]
     refine (hT f M hM ds rs hrs w vals hargs).mono fun e w' ⟨prs, p1, p2, p3, p4, p5⟩ => ?_
     subst p2
     have hblk : ∀ b, b < w.heap.size → w'.heap[b]? = w.heap[b]? := fun b hb => p5.block b hb id
     have H' := r.hr.grow hblk p5.size
     rw [← p1] at himp
     have hls := datsV_eq himp
     subst hls
     let S : Nat → Prop := fun b => ∃ pc ∈ prs.flatMap (·.2), InF b pc
     have hS : ∀ b, S b → w.heap.size ≤ b ∧ b < w'.heap.size := fun b ⟨pc, hpc, hb⟩ => by
      obtain ⟨n1, n2⟩ := p4.new pc hpc b (.inl hb)
      exact ⟨n1, n2.lt⟩
     have H2 : HR B E w' ⟨fun b => G.Im b ∨ S b, G.g⟩ σ.h σ.used [] := H'.imx S (fun b hb => (hS b hb).2) (fun b hb n hn hl he => by have := (hS b hb).1; have := (r.hr.own n hn hl).2.2; omega)
      (fun b hb n gr sz xs hn hF => by have := (hS b hb).1; have := r.hr.rowF_lt hn hF; omega) (fun b hb => .inl (Nat.le_trans r.fr.size (hS b hb).1))
     have K : Keep w G σ.h (fun n => σ.used n = true) w' ⟨fun b => G.Im b ∨ S b, G.g⟩ σ.h := Keep.trans (fun _ h => h) (Keep.world (fun b hb => hblk b (r.hr.imlt b hb)) _) (Keep.imx S _)
     have r2 : R B E w0 N σ a w' ⟨fun b => G.Im b ∨ S b, G.g⟩ := r.step rfl (fun _ h => h) K H2 (r.fr.call p5)
     have hcl : ∀ p ∈ prs, RCl w' ⟨fun b => G.Im b ∨ S b, G.g⟩ σ.h (p.2.map fun pc => ACell.c pc.er) (p.2.map PC.val) := fun p hp => by
      refine ⟨by simp, fun j c u hj hu => ?_⟩
      rw [List.getElem?_map] at hj hu
      cases hpj : p.2[j]? with
      | none => rw [hpj] at hj; cases hj
      | some pc =>
       rw [hpj] at hj hu
       simp at hj hu
       subst hj hu
       have hm : pc ∈ prs.flatMap (·.2) := List.mem_flatMap.2 ⟨p, hp, List.mem_of_getElem? hpj⟩
       exact ⟨PC.val_oneCell pc, pc, rfl, rfl, (p4.good pc hm).1, fun b hb => .inr ⟨pc, hm, hb⟩⟩
     refine ⟨_, r2.put (RA.res1 (by simp) p3 (fun j x p hj hp => ?_)) (fun q hq => ?_) hN⟩
     ·rw [List.getElem?_map, hp] at hj
      simp at hj
      subst hj
      have h1 := hcl p (List.mem_of_getElem? hp)
      obtain ⟨k, ps⟩ := p
      have hkp := p3 (k, ps) (List.mem_of_getElem? hp)
      cases k with
      | ptr => exact absurd rfl hkp.1
      | agg => exact ⟨ps.map PC.val, rfl, h1⟩
      | one =>
       have h2 := hkp.2 rfl
       match ps, h2 with
       | [p], _ => exact h1
     ·exfalso
      have hno : ∀ x ∈ prs.map (fun p => (decide (p.1 = Am.K.agg), p.2.map fun pc => ACell.c pc.er)), ∀ c ∈ x.2, ¬ c.ref q := fun x hx c hc hq => by
       obtain ⟨p, _, rfl⟩ := List.mem_map.1 hx
       obtain ⟨pc, _, rfl⟩ := List.mem_map.1 hc
       exact hq
      exact res1_noref hno hq
    ·cases hx
   ·cases hx
  ·cases hx
 ·cases hx
def chkMOs : List Operand → List MO → Bool
 | [], [] => true
 | x :: xs, m :: ms => chkMO x m && chkMOs xs ms
 | _, _ => false
theorem R.evs (r : R B E w0 N σ a w G) : ∀ {xs : List Operand} {ms : List MO}, chkMOs xs ms = true → xs.length = ms.length ∧
  ∀ (j : Nat) (x : AVal) (v : Value), (ms.map σ.ev)[j]? = some x → (xs.map a.eval)[j]? = some v → RA w G σ.h x v
 | [], [], _ => ⟨rfl, by simp⟩
 | x :: xs, m :: ms, hc => by
  simp only [chkMOs, Bool.and_eq_true] at hc
  obtain ⟨i1, i2⟩ := r.evs hc.2
  refine ⟨by simp [i1], fun j x' v hj hv => ?_⟩
  cases j with
  | zero => simp at hj hv; subst hj; subst hv; exact (r.ev hc.1).1
  | succ j => exact i2 j x' v (by simpa using hj) (by simpa using hv)
 | [], _ :: _, hc => by simp [chkMOs] at hc
 | _ :: _, [], hc => by simp [chkMOs] at hc
theorem ex_call (r : R B E w0 N σ a w G) {T : Tab} (hT : TabOk P T) {m : Mode} {f : FuncId} {xs : Array Operand} {ms : List MO} {ts : Array TypeId} {σ1 : St} (hN : ∀ n, o.dst = some n → n < N)
  (ho : o.op = .call { callee := .value (.func f), args := xs, argTypes := ts }) (hf : chkFun P f = true) (hm : chkMOs xs.toList ms = true)
  (hx : doCall T m o.dst f (ms.map σ.ev) σ = some σ1) : o.wp P a w (Nx B E w0 N σ1) Q := by
 obtain ⟨e1, e2⟩ := r.evs hm
 refine ex_doCall r hT (vals := xs.toList.map a.eval) hN ?_ (by simpa using e1) e2 hx
 have he : (xs.toList.map a.eval).toArray = xs.map a.eval := by apply Array.ext'; simp
 rw [he]
 simp [execOp, ho, resolve, Deferred.ofValue, invoke, Act.eval, run_callFunc hf]
theorem ex_calld (r : R B E w0 N σ a w G) {T : Tab} (hT : TabOk P T) {f : FuncId} {xs : Array Operand} {ms : List MO} {ts : Array TypeId} {z : AVal} (hN : ∀ n, o.dst = some n → n < N)
  (ho : o.op = .call { callee := .value (.func f), args := xs, argTypes := ts }) (hf : chkFun P f = true) (hm : chkMOs xs.toList ms = true)
  (hx : callDB T f (ms.map σ.ev) σ.h = some z) : o.wp P a w (Nx B E w0 N (σ.put o.dst z)) Q := by
 obtain ⟨e1, e2⟩ := r.evs hm
 refine ex_doCallD r hT (vals := xs.toList.map a.eval) hN ?_ (by simpa using e1) e2 hx
 have he : (xs.toList.map a.eval).toArray = xs.map a.eval := by apply Array.ext'; simp
 rw [he]
 simp [execOp, ho, resolve, Deferred.ofValue, invoke, Act.eval, run_callFunc hf]
theorem ex_callv (r : R B E w0 N σ a w G) {T : Tab} (hT : TabOk P T) {m : Mode} {f : FuncId} {x : Operand} {mx : MO} {caps : List ACell} {xs : Array Operand} {ms : List MO} {ts : Array TypeId} {σ1 : St} (hN : ∀ n, o.dst = some n → n < N)
  (ho : o.op = .call { callee := .value x, args := xs, argTypes := ts }) (hf : chkFun P f = true) (hmx : chkMO x mx = true) (hm : chkMOs xs.toList ms = true) (he : σ.ev mx = .one (.fn f caps))
  (hx : doCall T m o.dst f (ms.map σ.ev ++ caps.map .one) σ = some σ1) : o.wp P a w (Nx B E w0 N σ1) Q := by
 obtain ⟨e1, e2⟩ := r.evs hm
 obtain ⟨x1, x2⟩ := r.ev hmx
 rw [he] at x1
 obtain ⟨vs, v1, v2, v3⟩ := (x1.oneRC (by simp)).1
 refine ex_doCall r hT (vals := xs.toList.map a.eval ++ vs) hN ?_ (by simp [e1, v2]) (fun j y v hj hv => ?_) hx
 ·have he2 : (xs.toList.map a.eval ++ vs).toArray = xs.map a.eval ++ vs.toArray := by apply Array.ext'; simp
  rw [he2]
  simp [execOp, ho, resolve, v1, Deferred.ofValue, invoke, run_callFunc hf]
 ·have e1' : xs.size = ms.length := by simpa using e1
  by_cases hlt : j < ms.length
  ·rw [List.getElem?_append_left (by simpa using hlt)] at hj
   rw [List.getElem?_append_left (by simp; omega)] at hv
   exact e2 j y v hj hv
  ·rw [List.getElem?_append_right (by simp; omega)] at hj
   rw [List.getElem?_append_right (by simp; omega)] at hv
   simp only [List.length_map, ← e1] at hj hv
   rw [List.getElem?_map] at hj
   simp only [e1] at hj hv
   cases hc : caps[j - ms.length]? with
   | none => rw [hc] at hj; cases hj
   | some c =>
    rw [hc] at hj
    simp at hj
    subst hj
    obtain ⟨q1, q2⟩ := v3 _ c v hc hv
    refine RA.of_one q1 ?_
    by_cases hcf : c.isFn = false
    ·rw [RC_eq _ _ _ _ _ hcf]; exact q2
    ·cases c <;> first | exact q2.elim | (simp [ACell.isFn] at hcf)
end
end Go.Am