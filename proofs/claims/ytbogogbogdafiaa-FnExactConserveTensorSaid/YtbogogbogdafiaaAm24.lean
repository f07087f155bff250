/- Am24: code as a whole. No condition. -/
import Derived.Test.YtbogogbogdafiaaAm23
import Derived.Test.YtbogogbogdafiaaAmQ
set_option linter.unusedVariables false
namespace Go.Am
section
variable {B : Nat} {E : Ex} {w0 w w' : World} {G G' : Gh} {N : Nat} {h h' : Nat → Option Blk}
variable {P : Program} {T : Tab} {a : Act} {σ σ' : St} {Q : Exit → Act → World → Prop}
theorem R.rebox (r : R B E w0 N σ a w G) {n j : Nat} {cs : List ACell} {y : ACell} (hn : σ.h n = some (.box cs)) (hy : ∀ v, w.cell? (ad (G.g n).b ((G.g n).o + j)) = some v → RC w G σ.h y v) (hyr : ∀ m, y.ref m → σ.used m = true) :
  R B E w0 N (σ.setB n (.box (cs.set j y))) a w G := by
 have H := r.hr
 have hn0 : σ.h n ≠ none := by rw [hn]; simp
 obtain ⟨b1, b2, b3⟩ := H.box n cs hn
 have hg : upd G.g n (G.g n) = G.g := upd_self _ _
 have K : Keep w G σ.h (fun n => σ.used n = true) w ⟨G.Im, upd G.g n (G.g n)⟩ (upd σ.h n (some (.box (cs.set j y)))) := by
  rw [hg]
  refine ⟨fun _ h => h, fun _ _ _ => rfl, fun m _ hm => ⟨?_, rfl, rfl, rfl, rfl, rfl⟩, fun m gr sz xs _ hm => ?_⟩
  ·by_cases hmn : m = n
   ·subst hmn; exact hn0
   ·rwa [upd_ne _ _ _ _ hmn] at hm
  ·by_cases hmn : m = n
   ·subst hmn; rw [upd_same] at hm; cases hm
   ·rw [upd_ne _ _ _ _ hmn] at hm
    exact ⟨⟨gr, xs, hm⟩, fun k j pc h1 h2 => ⟨pc, h1, rfl, h2⟩⟩
 have Hn := H.put (w' := w) (used' := σ.used) (n := n) (blk := .box (cs.set j y)) (p := G.g n) (fun _ _ _ => rfl) (Nat.le_refl _) (fun _ _ h => h) (fun _ h => h) (H.dom n hn0) (fun hl => H.own n hn0 hl)
  (fun hl m hmn hm hml => H.inj m n hm hn0 hmn hml hl) (fun hl m gr sz xs hmn hm b hb => H.live m gr sz xs hm b hb n hn0 hl)
  (fun cs' c m hb hc hr => by
   injection hb with hb
   subst hb
   rcases List.mem_or_eq_of_mem_set hc with hc | rfl
   ·exact H.wfh n cs c m hn hc hr
   ·exact hyr m hr) K
  (by
   refine ⟨b1, b2, fun i c hi => ?_⟩
   rw [List.getElem?_set] at hi
   split at hi
   ·rename_i hij
    subst hij
    split at hi
    ·rename_i hlt
     injection hi with hi
     subst hi
     obtain ⟨v, v1, v2, v3⟩ := b3 j cs[j] (List.getElem?_eq_getElem hlt)
     exact ⟨v, v1, v2, (hy v v1).keep K hyr⟩
    ·cases hi
   ·obtain ⟨v, v1, v2, v3⟩ := b3 i c hi
    exact ⟨v, v1, v2, v3.keep K fun m hm => H.wfh n cs c m hn (List.mem_of_getElem? hi) hm⟩)
  (fun gr m sz xs hb => by cases hb) (fun gr sz xs hb => by cases hb) (fun gr m sz xs hb => by cases hb)
  (fun hl _ b ⟨m, gr, mo, sz, xs, _, hm, hb⟩ => H.foot_ne hn0 hl hm hb)
 rw [hg] at K Hn
 exact r.step rfl (fun _ h => h) K Hn r.fr
theorem R.weak (r : R B E w0 N σ a w G) (c : Nat) (m : Mode) : R B E w0 N (σ.weak c m) a w G := by
 unfold St.weak
 cases m with
 | live => exact r
 | froz => exact r
 | bor =>
  simp only
  split
  ·rename_i gr rs xs hn
   have hg : (⟨G.Im, upd G.g c (G.g c)⟩ : Gh) = G := by
    have : upd G.g c (G.g c) = G.g := by funext q; rw [upd_def]; split <;> simp [*]
    rw [this]
   have hr := r.hr.row c gr .froz rs xs hn
   have e0 : ∀ q b, upd σ.h c (some (.row gr .bor rs xs)) q = some b → q ≠ c → σ.h q = some b := fun q b hq hne => by rwa [upd_ne _ _ _ _ hne] at hq
   have ne : ∀ q, upd σ.h c (some (.row gr .bor rs xs)) q ≠ none → σ.h q ≠ none := fun q hq => by
    by_cases hqc : q = c
    ·subst hqc; rw [hn]; simp
    ·rwa [upd_ne _ _ _ _ hqc] at hq
   have rowOf : ∀ q gr' m' sz' xs', upd σ.h c (some (.row gr .bor rs xs)) q = some (.row gr' m' sz' xs') → m' ≠ .bor → q ≠ c ∧ σ.h q = some (.row gr' m' sz' xs') := fun q gr' m' sz' xs' hq hm => by
    by_cases hqc : q = c
    ·subst hqc; rw [upd_same] at hq; injection hq with hq; injection hq with _ hq _ _; exact absurd hq.symm hm
    ·exact ⟨hqc, e0 q _ hq hqc⟩
   have K : Keep w G σ.h (fun q => σ.used q = true) w G (upd σ.h c (some (.row gr .bor rs xs))) :=
    ⟨fun _ h => h, fun _ _ _ => rfl, fun q _ hq => ⟨ne q hq, rfl, rfl, rfl, rfl, rfl⟩, fun q gr' sz' xs' _ hq => by
     obtain ⟨h1, h2⟩ := rowOf q gr' .live sz' xs' hq (by simp)
     exact ⟨⟨gr', xs', h2⟩, fun k j pc a b => ⟨pc, a, rfl, b⟩⟩⟩
   have H := r.hr
   have Hn : HR B E w G (upd σ.h c (some (.row gr .bor rs xs))) σ.used [] := by
    refine ⟨fun q hq => H.dom q (ne q hq), fun q cs y p hq => ?_, fun q cs hq => ?_, fun q gr' m' sz' xs' hq => ?_, fun q hq => H.own q (ne q hq), fun q q' hq hq' => H.inj q q' (ne q hq) (ne q' hq'), H.imlt, H.img,
     fun q q' gr' m' sz' xs' gr2 m2 sz2 xs2 hq hq' hm hm2 => H.cross q q' gr' m' sz' xs' gr2 m2 sz2 xs2 (rowOf _ _ _ _ _ hq hm).2 (rowOf _ _ _ _ _ hq' hm2).2 hm hm2,
     fun q gr' sz' xs' hq b hb q' hq' => H.live q gr' sz' xs' (rowOf _ _ _ _ _ hq (by simp)).2 b hb q' (ne q' hq'), (by intro i pc hi; simp at hi), (by intro i j pc pc' b _ hi; simp at hi), (by intro i pc q gr' m' sz' xs' b hi; simp at hi)⟩
    ·have hqc : q ≠ c := fun e => by subst e; rw [upd_same] at hq; cases hq
     exact H.wfh q cs y p (e0 q _ hq hqc)
    ·have hqc : q ≠ c := fun e => by subst e; rw [upd_same] at hq; cases hq
     obtain ⟨a1, a2, a3⟩ := H.box q cs (e0 q _ hq hqc)
     refine ⟨a1, a2, fun j y hj => ?_⟩
     obtain ⟨v, v1, v2, v3⟩ := a3 j y hj
     exact ⟨v, v1, v2, v3.keep K fun p hp => H.wfh q cs y p (e0 q _ hq hqc) (List.mem_of_getElem? hj) hp⟩
    ·by_cases hqc : q = c
     ·subst hqc
      rw [upd_same] at hq
      injection hq with hq
      injection hq with h1 h2 h3 h4
      subst h1 h2 h3 h4
      exact ⟨hr.pos, hr.er, hr.nl, hr.lies, hr.room, fun b hb => (hr.mode.1 b hb).1⟩
     ·exact H.row q gr' m' sz' xs' (e0 q _ hq hqc)
   exact r.step rfl (fun _ h => h) K Hn r.fr
  ·exact r
theorem R.renWeak (r : R B E w0 N σ a w G) {x c : Nat} {m : Mode} (hx : (σ.ren x c).map (fun σ1 => σ1.weak c m) = some σ') : ∃ G', R B E w0 N σ' a w G' := by
 rw [Option.map_eq_some_iff] at hx
 obtain ⟨σ1, e, rfl⟩ := hx
 obtain ⟨G', r'⟩ := r.ren e
 exact ⟨G', r'.weak c m⟩
theorem R.canon (r : R B E w0 N σ a w G) {x : Bool × Nat × Nat × Nat × Mode} (hx : σ.canon x = some σ') : ∃ G', R B E w0 N σ' a w G' := by
 obtain ⟨b, n, j, c, m⟩ := x
 have same : some σ = some σ' → ∃ G', R B E w0 N σ' a w G' := fun h => by injection h with h; subst h; exact ⟨G, r⟩
 cases b with
 | true =>
  simp only [St.canon] at hx
  split at hx
  ·rename_i cs hn
   split at hx
   ·exact r.renWeak hx
   ·rename_i sz hj
    split at hx
    ·rename_i hsz
     split at hx
     ·rename_i σ1 e
      injection hx with hx
      subst hx
      obtain ⟨G1, r1, hrc⟩ := r.insNil hsz e
      obtain ⟨hu, rfl⟩ := ins_some e
      have hnu : σ.used n = true := r.hr.dom n (by rw [hn]; simp)
      have hnc : n ≠ c := fun he => by subst he; rw [hu] at hnu; cases hnu
      have hn1 : (upd σ.h c (some (.row true m sz []))) n = some (.box cs) := by rw [upd_ne _ _ _ _ hnc]; exact hn
      refine ⟨G1, r1.rebox hn1 (fun v hv => ?_) (fun q hq => ?_)⟩
      ·obtain ⟨v', v1, v2, v3⟩ := (r1.hr.box n cs hn1).2.2 j _ hj
       rw [v1] at hv
       injection hv with hv
       subst hv
       have v3' : v' = .slice none 0 0 := v3
       subst v3'
       exact hrc
      ·have hq' : q = c := hq
       subst hq'
       exact upd_same _ _ _
     ·cases hx
    ·exact same hx
   ·exact same hx
  ·exact same hx
 | false =>
  simp only [St.canon] at hx
  split at hx
  ·exact r.renWeak hx
  ·rename_i sz hj
   split at hx
   ·rename_i hsz
    split at hx
    ·rename_i σ1 e
     injection hx with hx
     subst hx
     obtain ⟨G1, r1, hrc⟩ := r.insNil hsz e
     obtain ⟨hu, rfl⟩ := ins_some e
     have hv := r1.env n
     rw [show ({ σ with h := upd σ.h c (some (.row true m sz [])), used := upd σ.used c true } : St).env n = σ.env n from rfl, hj] at hv
     have hv' : a.tmps.getD n undef = .slice none 0 0 := (hv.oneRC (by simp)).1
     refine ⟨G1, r1.defers, r1.size, fun s => ?_, fun s q hq => ?_, r1.hr, r1.fr, r1.pin, r1.pinu⟩
     ·show RA w G1 _ (upd σ.env n _ s) _
      by_cases hs : s = n
      ·subst hs
       rw [upd_same, hv']
       exact RA.of_one rfl hrc
      ·rw [upd_ne _ _ _ _ hs]; exact r1.env s
     ·have hq2 : (upd σ.env n (.one (.sl c sz 0 0)) s).ref q := hq
      by_cases hs : s = n
      ·subst hs
       rw [upd_same] at hq2
       have hq' : q = c := hq2
       subst hq'
       exact upd_same _ _ _
      ·rw [upd_ne _ _ _ _ hs] at hq2; exact r1.wfe s q hq2
    ·cases hx
   ·exact same hx
  ·exact same hx
theorem R.canons : ∀ {l : List (Bool × Nat × Nat × Nat × Mode)} {σ : St} {G : Gh}, R B E w0 N σ a w G → σ.canons l = some σ' → ∃ G', R B E w0 N σ' a w G'
 | [], σ, G, r, hx => by
  simp only [St.canons] at hx
  injection hx with hx
  subst hx
  exact ⟨G, r⟩
 | x :: l, σ, G, r, hx => by
  simp only [St.canons] at hx
  split at hx
  ·rename_i σ1 e
   obtain ⟨G1, r1⟩ := r.canon e
   exact R.canons r1 hx
  ·cases hx
theorem R.head (r : R B E w0 N σ a w G) {ke kh : List Nat} {cn : List (Bool × Nat × Nat × Nat × Mode)} (hx : σ.head ke kh cn = some σ') : ∃ G', R B E w0 N σ' a w G' := by
 unfold St.head at hx
 split at hx
 ·rename_i σ1 e
  injection hx with hx
  subst hx
  obtain ⟨G1, r1⟩ := ((r.restr ke kh).restr ke kh).canons e
  exact ⟨G1, r1.restr ke kh⟩
 ·cases hx
def chkCode (P : Program) (N : Nat) : Code → MCode → Bool
 | c, .join _ _ _ mc => chkCode P N c mc
 | .skip, .skip => true
 | .region _ ops draw, .reg draw' ms => (draw == draw') && chkOpers P N ops ops.toList ms && (!draw || chkDraw ops.toList ms)
 | .region _ ops draw, .regD ps ms => draw && chkOpers P N ops ops.toList ms && chkDrawD ps ops.toList ms
 | .seq x y, .seq mx my => chkCode P N x mx && chkCode P N y my
 | .cond c x y, .cond mc mx my => chkMO c mc && chkCode P N x mx && chkCode P N y my
 | .block id c, .block id' mc => (id == id') && chkCode P N c mc
 | .loop c, .loop _ _ _ _ mc => chkCode P N c mc
 | .exit id, .exit id' => id == id'
 | .ret, .ret => true
 | _, _ => false
def OutQ (B : Nat) (E : Ex) (w0 : World) (N : Nat) (Q : Exit → Act → World → Prop) : Out → Prop
 | .nrm σ => ∀ a w G, R B E w0 N σ a w G → Q .normal a w
 | .ext id σ => ∀ a w G, R B E w0 N σ a w G → Q (.exit id) a w
 | .ret σ => ∀ a w G, R B E w0 N σ a w G → Q .ret a w
theorem den_sound (hT : TOk P T) (hm : P.follows .mixedOrders = true) : ∀ (mc : MCode) {c : Code} {σ : St} {o : Out} {a : Act} {w : World} {G : Gh} {Q : Exit → Act → World → Prop},
  chkCode P N c mc = true → den T mc σ = some o → R B E w0 N σ a w G → OutQ B E w0 N Q o → c.wp P Q a w
 | .skip, c, σ, o, a, w, G, Q, hc, hx, r, hQ => by
  cases c <;> simp only [chkCode] at hc <;> first | cases hc | skip
  simp only [den] at hx
  injection hx with hx
  subst hx
  exact wp_skip (hQ _ _ _ r)
 | .reg draw ms, c, σ, o, a, w, G, Q, hc, hx, r, hQ => by
  cases c <;> simp only [chkCode] at hc <;> first | cases hc | skip
  simp only [Bool.and_eq_true, Bool.or_eq_true, beq_iff_eq] at hc
  simp only [den] at hx
  split at hx
  ·rename_i σ1 e
   injection hx with hx
   subst hx
   exact region_sound hT hm hc.1.2 (fun hd => hc.2.resolve_left (by simp [hd])) e r hQ
  ·cases hx
 | .regD ps ms, c, σ, o, a, w, G, Q, hc, hx, r, hQ => by
  cases c <;> simp only [chkCode] at hc <;> first | cases hc | skip
  simp only [Bool.and_eq_true] at hc
  obtain ⟨⟨hd, hc1⟩, hc2⟩ := hc
  subst hd
  simp only [den] at hx
  split at hx
  ·rename_i fs σ1 e
   cases hp : pairsOk ps fs with
   | true =>
    rw [hp] at hx
    injection hx with hx
    subst hx
    exact regionD_sound hT hm hc1 hc2 e hp r hQ
   | false => rw [hp] at hx; cases hx
  ·cases hx
 | .seq mx my, c, σ, o, a, w, G, Q, hc, hx, r, hQ => by
  cases c <;> simp only [chkCode] at hc <;> first | cases hc | skip
  simp only [Bool.and_eq_true] at hc
  simp only [den] at hx
  refine wp_seq ?_
  cases e : den T mx σ with
  | none => rw [e] at hx; cases hx
  | some o1 =>
   rw [e] at hx
   cases o1 with
   | nrm σ1 => exact den_sound hT hm mx hc.1 e r fun a w G r1 => den_sound hT hm my hc.2 hx r1 hQ
   | ext i σ1 =>
    injection hx with hx
    subst hx
    exact den_sound hT hm mx hc.1 e r hQ
   | ret σ1 =>
    injection hx with hx
    subst hx
    exact den_sound hT hm mx hc.1 e r hQ
 | .cond mc mx my, c, σ, o, a, w, G, Q, hc, hx, r, hQ => by
  cases c <;> simp only [chkCode] at hc <;> first | cases hc | skip
  simp only [Bool.and_eq_true] at hc
  simp only [den] at hx
  split at hx
  ·rename_i t ht
   have h1 := (r.ev hc.1.1).1
   rw [ht] at h1
   refine wp_cond h1.boolv ?_
   cases t with
   | true => simp only [if_true] at hx ⊢; exact den_sound hT hm mx hc.1.2 hx r hQ
   | false => simp only [Bool.false_eq_true, if_false] at hx ⊢; exact den_sound hT hm my hc.2 hx r hQ
  ·cases hx
 | .block id mc, c, σ, o, a, w, G, Q, hc, hx, r, hQ => by
  cases c <;> simp only [chkCode] at hc <;> first | cases hc | skip
  simp only [Bool.and_eq_true, beq_iff_eq] at hc
  obtain ⟨rfl, hc⟩ := hc
  simp only [den] at hx
  refine wp_block ?_
  cases e : den T mc σ with
  | none => rw [e] at hx; cases hx
  | some o1 =>
   rw [e] at hx
   refine den_sound hT hm mc hc e r ?_
   cases o1 with
   | nrm σ1 => injection hx with hx; subst hx; exact hQ
   | ret σ1 => injection hx with hx; subst hx; exact hQ
   | ext i σ1 =>
    simp only at hx
    intro a w G r1
    simp only [Exit.inBlock]
    split at hx
    ·rename_i hi; injection hx with hx; subst hx; rw [if_pos hi]; exact hQ a w G r1
    ·rename_i hi; injection hx with hx; subst hx; rw [if_neg hi]; exact hQ a w G r1
 | .join ke kh cn mc, c, σ, o, a, w, G, Q, hc, hx, r, hQ => by
  have hc : chkCode P N c mc = true := by cases c <;> exact hc
  simp only [den] at hx
  cases e : den T mc σ with
  | none => rw [e] at hx; cases hx
  | some o1 =>
   rw [e] at hx
   cases o1 with
   | nrm σ1 =>
    simp only at hx
    split at hx
    ·rename_i σh e0
     injection hx with hx
     subst hx
     exact den_sound hT hm mc hc e r fun a w G r1 => by
      obtain ⟨G', r'⟩ := r1.head e0
      exact hQ a w G' r'
    ·cases hx
   | ext i σ1 =>
    injection hx with hx
    subst hx
    exact den_sound hT hm mc hc e r hQ
   | ret σ1 =>
    injection hx with hx
    subst hx
    exact den_sound hT hm mc hc e r hQ
 | .loop id ke kh cn mc, c, σ, o, a, w, G, Q, hc, hx, r, hQ => by
  cases c <;> simp only [chkCode] at hc <;> first | cases hc | skip
  rename_i c
  simp only [den] at hx
  refine wp_loop_rounds FUEL ?_
  revert hx r
  generalize FUEL = n
  revert σ a w G
  induction n with
  | zero => intro σ a w G hx r; simp [loopF] at hx
  | succ n ih =>
   intro σ a w G hx r
   simp only [loopF] at hx
   rw [rounds_succ]
   cases e0 : σ.head ke kh cn with
   | none => rw [e0] at hx; cases hx
   | some σh =>
    rw [e0] at hx
    obtain ⟨G', r'⟩ := r.head e0
    cases e : den T mc σh with
    | none => simp only [e] at hx; cases hx
    | some o1 =>
     simp only [e] at hx
     refine den_sound hT hm mc hc e r' ?_
     cases o1 with
     | nrm σ1 => intro a w G r1; exact ih _ _ _ _ hx r1
     | ext i σ1 => injection hx with hx; subst hx; exact hQ
     | ret σ1 => injection hx with hx; subst hx; exact hQ
 | .exit id, c, σ, o, a, w, G, Q, hc, hx, r, hQ => by
  cases c <;> simp only [chkCode] at hc <;> first | cases hc | skip
  have hid := eq_of_beq hc
  subst hid
  simp only [den] at hx
  injection hx with hx
  subst hx
  exact wp_exit (hQ _ _ _ r)
 | .ret, c, σ, o, a, w, G, Q, hc, hx, r, hQ => by
  cases c <;> simp only [chkCode] at hc <;> first | cases hc | skip
  simp only [den] at hx
  injection hx with hx
  subst hx
  exact wp_ret (hQ _ _ _ r)
end
end Go.Am