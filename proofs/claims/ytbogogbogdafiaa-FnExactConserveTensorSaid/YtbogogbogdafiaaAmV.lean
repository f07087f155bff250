/- AmV: functions whose results may share, and that may change the cells of one pointer: what is said of them, and the caller's side of a call. No condition. -/
import Derived.Test.YtbogogbogdafiaaAmU
set_option linter.unusedVariables false
namespace Go.Am
structure VArgs (w : World) (ds : List Dv) (vals : List Value) (pas : List PA) : Prop where
 l1 : vals.length = ds.length
 l2 : pas.length = ds.length
 at_ : ∀ (i : Nat) (d : Dv) (v : Value) (p : PA), ds[i]? = some d → vals[i]? = some v → pas[i]? = some p → AOk w d v p
 unf : ∀ p ∈ pas, p.k = .ptr → Unf w p.b ∧ ∀ q ∈ pas, ∀ pc ∈ q.ps, ¬ InF p.b pc
 one : ∀ (i j : Nat) (p q : PA), pas[i]? = some p → pas[j]? = some q → p.k = .ptr → q.k = .ptr → i = j
def VIn (w : World) (pas : List PA) (b : Nat) : Prop := w.heap.size ≤ b ∨ ∃ q ∈ pas, ∃ pc ∈ q.ps, InF b pc
def exV (pas : List PA) : Ex := ⟨fun b => ∃ p ∈ pas, p.k = .ptr ∧ b = p.b, fun _ => none, fun _ _ h => (by cases h), fun _ => True⟩
def retOneV (p : PA) : Value :=
 match p.k with
 | .one => match p.ps with
  | [pc] => pc.val
  | _ => .agg (p.ps.map PC.val).toArray
 | .agg => .agg (p.ps.map PC.val).toArray
 | .ptr => .pointer (some (ad p.b p.o))
def retValV : List PA → Value
 | [p] => retOneV p
 | l => .tuple (l.map retOneV).toArray
def LieAt (w : World) (b o : Nat) (ps : List PC) : Prop := ∀ (j : Nat) (c : PC), ps[j]? = some c → w.cell? (ad b (o + j)) = some c.val
structure VAfter (w w' : World) (pas prs : List PA) (qs : List PC) : Prop where
 one : ∀ p ∈ prs, p.k = .one → p.ps.length = 1
 ptr : ∀ p ∈ prs, p.k = .ptr → prs.length = 1 ∧ w.heap.size ≤ p.b ∧ Unf w' p.b ∧ LieAt w' p.b p.o p.ps ∧ (∀ pc ∈ p.ps, ¬ InF p.b pc) ∧ ∀ pc ∈ qs, ¬ InF p.b pc
 good : ∀ p ∈ prs, ∀ pc ∈ p.ps, Good w' pc ∧ ∀ b, InF b pc → VIn w pas b
 fr : Fr w.heap.size (exV pas) w w'
 out : ∀ pc ∈ qs, Good w' pc ∧ ∀ b, InF b pc → VIn w pas b
 at_ : ∀ p ∈ pas, p.k = .ptr → LieAt w' p.b p.o qs
def VSpec (P : Program) (f : FuncId) (M : List Dv → Option (List Dv × List C)) : Prop :=
 ∀ ds rs out, M ds = some (rs, out) → ∀ (w : World) (vals : List Value) (pas : List PA), VArgs w ds vals pas → Calls P f vals.toArray w fun e w' =>
  ∃ (prs : List PA) (qs : List PC), prs.map (fun p => (p.k, p.ps.map PC.er)) = rs ∧ e = .returned (retValV prs) ∧ qs.map PC.er = out ∧ VAfter w w' pas prs qs
def TabOkV (P : Program) (T : Tab) : Prop := ∀ f M, Tab.findV T.vs f = some M → VSpec P f M
section
variable {B : Nat} {E : Ex} {w0 w w' : World} {G G' : Gh} {N : Nat} {h h' : Nat → Option Blk} {used used' : Nat → Bool} {tk : List PC}
variable {P : Program} {o : Oper} {a : Act} {σ σ' : St} {Q : Exit → Act → World → Prop}
theorem HR.immC {c : ACell} {x : C} {v : Value} (hx : Am.immC c = some x) (hc : RC w G h c v) : ∃ pc : PC, pc.er = x ∧ pc.val = v ∧ Good w pc ∧ ∀ b, InF b pc → G.Im b := by
 cases c with
 | c y =>
  simp only [Am.immC] at hx
  injection hx with hx
  subst hx
  exact hc
 | nil sz =>
  simp only [Am.immC] at hx
  split at hx
  ·rename_i hpos
   injection hx with hx
   subst hx
   have hc' : v = .slice none 0 0 := hc
   subst hc'
   refine ⟨.list sz none 0 [], by simp [PC.er_list], rfl, .nil _ _ _ hpos, fun b hb => ?_⟩
   rw [InF.list_iff] at hb
   rcases hb with ⟨hb, _⟩ | ⟨k, j, c, ⟨e, he, _⟩, _⟩
   ·exact absurd rfl hb
   ·simp at he
  ·cases hx
 | _ => simp [Am.immC] at hx
theorem HR.immL : ∀ {cs : List ACell} {xs : List C} {vs : List Value}, Am.immL cs = some xs → RCl w G h cs vs → ∃ ps : List PC, ps.map PC.er = xs ∧ ps.map PC.val = vs ∧ ∀ pc ∈ ps, Good w pc ∧ ∀ b, InF b pc → G.Im b
 | [], xs, vs, hx, hc => by
  simp only [Am.immL] at hx
  injection hx with hx
  subst hx
  have : vs = [] := List.eq_nil_of_length_eq_zero (by simpa using hc.1)
  subst this
  exact ⟨[], rfl, rfl, by simp⟩
 | c :: cs, xs, vs, hx, hc => by
  simp only [Am.immL] at hx
  split at hx
  ·rename_i x xs' e1 e2
   injection hx with hx
   subst hx
   match vs, hc.1 with
   | v :: vs, hl =>
    obtain ⟨pc, a1, a2, a3, a4⟩ := HR.immC e1 (hc.2 0 c v rfl rfl).2
    obtain ⟨ps, b1, b2, b3⟩ := HR.immL (vs := vs) e2 ⟨by simpa using hl, fun j c u h1 h2 => hc.2 (j + 1) c u h1 h2⟩
    refine ⟨pc :: ps, by simp [a1, b1], by simp [a2, b2], fun q hq => ?_⟩
    cases hq with
    | head => exact ⟨a3, a4⟩
    | tail _ hq => exact b3 q hq
  ·cases hx
theorem HR.boxVals (H : HR B E w G h used tk) {n : Nat} {cs : List ACell} (hn : h n = some (.box cs)) : ∃ vs : List Value, RCl w G h cs vs ∧ ∀ (j : Nat) (v : Value), vs[j]? = some v → w.cell? (ad (G.g n).b ((G.g n).o + j)) = some v := by
 obtain ⟨_, _, a3⟩ := H.box n cs hn
 have hj : ∀ j : Fin cs.length, ∃ v, w.cell? (ad (G.g n).b ((G.g n).o + j.1)) = some v ∧ v.oneCell' = true ∧ RC w G h cs[j.1] v := fun j => a3 j.1 _ (List.getElem?_eq_getElem j.2)
 refine ⟨List.ofFn fun j => Classical.choose (hj j), ⟨by simp, fun j c u hc hu => ?_⟩, fun j v hv => ?_⟩
 ·obtain ⟨hl, e⟩ := List.getElem?_eq_some_iff.1 hc
  rw [List.getElem?_ofFn, dif_pos hl] at hu
  injection hu with hu
  subst hu e
  exact (Classical.choose_spec (hj ⟨j, hl⟩)).2
 ·by_cases hl : j < cs.length
  ·rw [List.getElem?_ofFn, dif_pos hl] at hv
   injection hv with hv
   subst hv
   exact (Classical.choose_spec (hj ⟨j, hl⟩)).1
  ·rw [List.getElem?_eq_none (by simp; omega)] at hv; cases hv
theorem takeC_box {σ1 : St} {c : ACell} {x : C} {o : Bool} (hx : σ.takeC c = some (x, o, σ1)) {n : Nat} {cs : List ACell} (hn : σ.h n = some (.box cs)) : σ1.h n = some (.box cs) := by
 cases c with
 | c y => simp only [St.takeC] at hx; injection hx with hx; injection hx with _ hx; injection hx with _ hx; subst hx; exact hn
 | nil sz =>
  simp only [St.takeC] at hx
  split at hx
  ·injection hx with hx; injection hx with _ hx; injection hx with _ hx; subst hx; exact hn
  ·cases hx
 | sl q sz lo len =>
  simp only [St.takeC] at hx
  split at hx
  ·rename_i gr m rs xs hq
   split at hx
   ·injection hx with hx; injection hx with _ hx; injection hx with _ hx; subst hx
    have hne : n ≠ q := by rintro rfl; rw [hq] at hn; cases hn
    show upd σ.h q none n = _
    rw [upd_ne _ _ _ _ hne]; exact hn
   ·cases hx
  ·cases hx
 | _ => simp [St.takeC] at hx
theorem takeL_box : ∀ {l : List ACell} {σ σ1 : St} {xs : List C} {o : Bool}, σ.takeL l = some (xs, o, σ1) → ∀ {n : Nat} {cs : List ACell}, σ.h n = some (.box cs) → σ1.h n = some (.box cs)
 | [], σ, σ1, xs, o, hx, n, cs, hn => by simp only [St.takeL] at hx; injection hx with hx; injection hx with _ hx; injection hx with _ hx; subst hx; exact hn
 | c :: l, σ, σ2, xs, o, hx, n, cs, hn => by
  simp only [St.takeL] at hx
  split at hx
  ·rename_i x o1 σ1 e1
   split at hx
   ·rename_i xs' o2 σ2' e2
    injection hx with hx; injection hx with _ hx; injection hx with _ hx; subst hx
    exact takeL_box e2 (takeC_box e1 hn)
   ·cases hx
  ·cases hx
theorem bArgs_box : ∀ {as : List AVal} {σ σ1 : St} {ds : List Dv} {ns : List Nat}, σ.bArgs as = some (ds, ns, σ1) → ∀ {n : Nat} {cs : List ACell}, σ.h n = some (.box cs) → σ1.h n = some (.box cs)
 | [], σ, σ1, ds, ns, hx, n, cs, hn => by simp only [St.bArgs] at hx; injection hx with hx; injection hx with _ hx; injection hx with _ hx; subst hx; exact hn
 | v :: as, σ, σ2, ds, ns, hx, n, cs, hn => by
  simp only [St.bArgs] at hx
  split at hx
  ·split at hx
   ·rename_i e
    injection hx with hx; injection hx with _ hx; injection hx with _ hx; subst hx
    exact bArgs_box e hn
   ·cases hx
  ·split at hx
   ·split at hx
    ·rename_i e1
     split at hx
     ·rename_i e2
      injection hx with hx; injection hx with _ hx; injection hx with _ hx; subst hx
      exact bArgs_box e2 (takeL_box e1 hn)
     ·cases hx
    ·cases hx
   ·cases hx
def cursOf (pas : List PA) : List PA := pas.filter fun p => decide (p.k = .ptr)
def CurAt (G : Gh) (h : Nat → Option Blk) (p : PA) (n : Nat) : Prop := ∃ cs, h n = some (.box cs) ∧ p.b = (G.g n).b ∧ p.o = (G.g n).o ∧ p.ps.length = cs.length
theorem bPtr_some {v : AVal} {n : Nat} {xs : List C} (hx : bPtr h v = some (n, xs)) : ∃ sz cs, v = .one (.ptr n 0 sz 0) ∧ h n = some (.box cs) ∧ immL cs = some xs := by
 unfold bPtr at hx
 split at hx
 ·rename_i q k sz off
  split at hx
  ·rename_i hc
   obtain ⟨rfl, rfl⟩ := hc
   split at hx
   ·rename_i cs hq
    split at hx
    ·rename_i ys e
     injection hx with hx
     injection hx with h1 h2
     subst h1 h2
     exact ⟨sz, cs, rfl, hq, e⟩
    ·cases hx
   ·cases hx
  ·cases hx
 ·cases hx
theorem HR.bArgs : ∀ {as : List AVal} {vals : List Value} {σ σ1 : St} {G : Gh} {ds : List Dv} {ns : List Nat}, HR B E w G σ.h σ.used [] → σ.bArgs as = some (ds, ns, σ1) → vals.length = as.length →
  (∀ (j : Nat) (x : AVal) (v : Value), as[j]? = some x → vals[j]? = some v → RA w G σ.h x v) → (∀ x ∈ as, ∀ m, x.ref m → σ.used m = true) →
  ∃ (Im' : Nat → Prop) (pas : List PA), pas.length = ds.length ∧ vals.length = ds.length ∧ (∀ (i : Nat) (d : Dv) (v : Value) (p : PA), ds[i]? = some d → vals[i]? = some v → pas[i]? = some p → AOk w d v p) ∧
   (∀ p ∈ pas, ∀ pc ∈ p.ps, ∀ b, InF b pc → Im' b) ∧ (cursOf pas).length = ns.length ∧ (∀ (i : Nat) (p : PA) (n : Nat), (cursOf pas)[i]? = some p → ns[i]? = some n → CurAt G σ1.h p n) ∧
   HR B E w ⟨Im', G.g⟩ σ1.h σ1.used [] ∧ Keep w G σ.h (fun n => σ.used n = true) w ⟨Im', G.g⟩ σ1.h ∧ σ1.env = σ.env ∧ σ1.used = σ.used
 | [], vals, σ, σ1, G, ds, ns, H, hx, hl, hc, hr => by
  simp only [St.bArgs] at hx
  injection hx with hx
  injection hx with h1 h2
  injection h2 with h2 h3
  subst h1 h2 h3
  exact ⟨G.Im, [], rfl, by simpa using hl, by simp, by simp, rfl, by simp [cursOf], H, Keep.refl _ _ _ _, rfl, rfl⟩
 | x :: as, vals, σ, σ2, G, ds, ns, H, hx, hl, hc, hr => by
  match vals, hl with
  | v :: vals, hl =>
   simp only [St.bArgs] at hx
   split at hx
   ·rename_i n xs hp
    split at hx
    ·rename_i ds' ns' σ1 e
     injection hx with hx
     injection hx with h1 h2
     injection h2 with h2 h3
     subst h1 h2 h3
     obtain ⟨sz, cs, rfl, hn, him⟩ := bPtr_some hp
     obtain ⟨nl, un, _⟩ := H.box n cs hn
     obtain ⟨vs, v1, v2⟩ := H.boxVals hn
     obtain ⟨ps, p1, p2, p3⟩ := HR.immL him v1
     have hv : v = .pointer (some (ad (G.g n).b (G.g n).o)) := by
      have h0 := hc 0 _ v rfl rfl
      rcases h0 with h0 | h0
      ·cases h0
      ·have h1 : RC w G σ.h (.ptr n 0 sz 0) v := (h0.2 0 _ v rfl rfl).2
       simpa using (h1 (by rw [hn]; simp)).2
     obtain ⟨Im', pas, b1, b2, b3, b4, b5, b6, b7, b8, b9, b10⟩ := HR.bArgs (as := as) (vals := vals) H e (by simpa using hl) (fun j x v h1 h2 => hc (j + 1) x v h1 h2) (fun x hx => hr x (by simp [hx]))
     have hk : (Am.K.ptr = Am.K.ptr) = True := by simp
     refine ⟨Im', ⟨.ptr, ps, (G.g n).b, (G.g n).o⟩ :: pas, by simp [b1], by simp [b2], fun i d u p hd hu hpp => ?_, fun p hpp pc hpc b hb => ?_, by simp [cursOf]; exact b5, fun i p m hi hm => ?_, b7, b8, b9, b10⟩
     ·cases i with
      | zero =>
       simp at hd hu hpp
       subst hd hu hpp
       refine ⟨by rw [p1], fun pc hpc => (p3 pc hpc).1, hv, un.lt, fun j c hj => v2 j _ ?_⟩
       rw [← p2, List.getElem?_map, hj]; rfl
      | succ i => exact b3 i d u p (by simpa using hd) (by simpa using hu) (by simpa using hpp)
     ·cases hpp with
      | head => exact b8.im b ((p3 pc hpc).2 b hb)
      | tail _ hpp => exact b4 p hpp pc hpc b hb
     ·cases i with
      | zero =>
       simp [cursOf] at hi hm
       subst hi hm
       refine ⟨cs, bArgs_box e hn, rfl, rfl, ?_⟩
       have h1 : ps.length = vs.length := by rw [← p2]; simp
       exact h1.trans v1.1
      | succ i => exact b6 i p m (by simpa [cursOf] using hi) (by simpa using hm)
    ·cases hx
   ·split at hx
    ·rename_i ag cs hcs
     split at hx
     ·rename_i xs o σ1 e1
      split at hx
      ·rename_i ds' ns' σ2' e2
       injection hx with hx
       injection hx with h1 h2
       injection h2 with h2 h3
       subst h1 h2 h3
       have h0 := hc 0 x v rfl rfl
       have hrc : ∃ vs : List Value, (if ag = true then v = .agg vs.toArray else vs = [v]) ∧ RCl w G σ.h cs vs := by
        cases x with
        | one c =>
         have hcc : ag = false ∧ cs = [c] := by cases c <;> simp [AVal.cells?] at hcs <;> exact ⟨hcs.1, hcs.2.symm⟩
         obtain ⟨rfl, rfl⟩ := hcc
         rcases h0 with h0 | h0
         ·subst h0; simp [AVal.cells?] at hcs
         ·exact ⟨[v], rfl, h0⟩
        | agg cs' =>
         simp [AVal.cells?] at hcs
         obtain ⟨rfl, rfl⟩ := hcs
         obtain ⟨vs, e, h1⟩ : ∃ vs : List Value, v = .agg vs.toArray ∧ RCl w G σ.h cs' vs := h0
         exact ⟨vs, e, h1⟩
        | tup xs => simp [AVal.cells?] at hcs
       obtain ⟨vs, hvs, hcl⟩ := hrc
       obtain ⟨Im1, pcs, a1, a2, a3, a5, a6, a7, a8, a9⟩ := H.takeL e1 hcl (fun c' hc' m hm => hr x (by simp) m (AVal.cells_ref hcs hc' hm))
       have a5' : HR B E w ⟨Im1, G.g⟩ σ1.h σ.used [] := by
        cases o with
        | true => exact HR.tkTake (tk := []) (l := pcs) (by simpa using a5)
        | false => simpa using a5
       rw [← a8] at a5'
       obtain ⟨Im2, pas, b1, b2, b3, b4, b5, b6, b7, b8, b9, b10⟩ := HR.bArgs (as := as) (vals := vals) (G := ⟨Im1, G.g⟩) a5' e2 (by simpa using hl)
        (fun j x v h1 h2 => (hc (j + 1) x v h1 h2).keep a6 (fun m hm => hr x (by simp [List.mem_of_getElem? h1]) m hm)) (fun x' hx' m hm => by rw [a8]; exact hr x' (by simp [hx']) m hm)
       refine ⟨Im2, ⟨if ag = true then .agg else .one, pcs, 0, 0⟩ :: pas, by simp [b1], by simp [b2], fun i d u p hd hu hpp => ?_, fun p hpp pc hpc b hb => ?_, ?_, fun i p m hi hm => ?_, b7,
        Keep.trans (fun n hn => by rw [a8]; exact hn) a6 b8, b9.trans a7, b10.trans a8⟩
       ·cases i with
        | zero =>
         simp at hd hu hpp
         subst hd hu hpp
         cases ag with
         | true => exact ⟨by simp [a1], fun pc hpc => (a3 pc hpc).1, by simp only [if_true] at hvs ⊢; rw [a2]; exact hvs⟩
         | false => exact ⟨by simp [a1], fun pc hpc => (a3 pc hpc).1, by simp only [Bool.false_eq_true, if_false] at hvs ⊢; rw [a2]; exact hvs⟩
        | succ i => exact b3 i d u p (by simpa using hd) (by simpa using hu) (by simpa using hpp)
       ·cases hpp with
        | head => exact b8.im b ((a3 pc hpc).2 b hb)
        | tail _ hpp => exact b4 p hpp pc hpc b hb
       ·cases ag <;> simp [cursOf] <;> exact b5
       ·refine b6 i p m ?_ hm
        cases ag <;> simpa [cursOf] using hi
      ·cases hx
     ·cases hx
    ·cases hx
theorem HR.boxStep (H : HR B E w G h used []) {n : Nat} {cs cs' : List ACell} (hn : h n = some (.box cs)) (hsz : w.heap.size ≤ w'.heap.size) (hw : ∀ b, b < w.heap.size → b ≠ (G.g n).b → w'.heap[b]? = w.heap[b]?)
  (hcz : ∀ b, b < w.heap.size → Cz w w' b) {S : Nat → Prop} (hS : ∀ b, S b → w.heap.size ≤ b ∧ b < w'.heap.size ∧ B ≤ b) {ps : List PC} (hps : cs' = ps.map fun pc => ACell.c pc.er)
  (hat : ∀ (j : Nat) (c : PC), ps[j]? = some c → w'.cell? (ad (G.g n).b ((G.g n).o + j)) = some c.val) (hgood : ∀ pc ∈ ps, Good w' pc ∧ ∀ b, InF b pc → G.Im b ∨ S b) :
  HR B E w' ⟨fun b => G.Im b ∨ S b, G.g⟩ (upd h n (some (.box cs'))) used [] ∧ Keep w G h (fun n => used n = true) w' ⟨fun b => G.Im b ∨ S b, G.g⟩ (upd h n (some (.box cs'))) := by
 subst hps
 have hn0 : h n ≠ none := by rw [hn]; simp
 obtain ⟨hnl, hunf, hcell⟩ := H.box n cs hn
 obtain ⟨ho1, ho2, ho3⟩ := H.own n hn0 hnl
 have huse := H.dom n hn0
 have kp : ∀ cs2 : List ACell, Keep w G h (fun n => used n = true) w' G (upd h n (some (.box cs2))) := by
  intro cs2
  refine ⟨fun _ h => h, fun b hb x => cell_congr (hw b (H.imlt b hb) (fun he => ho1 (he ▸ hb))) x, fun m hm h0 => ?_, fun m gr sz xs hm h0 => ?_⟩
  ·by_cases hmn : m = n
   ·subst hmn; exact ⟨hn0, rfl, rfl, rfl, rfl, rfl⟩
   ·rw [upd_ne _ _ _ _ hmn] at h0; exact ⟨h0, rfl, rfl, rfl, rfl, rfl⟩
  ·by_cases hmn : m = n
   ·subst hmn; rw [upd_same] at h0; cases h0
   ·rw [upd_ne _ _ _ _ hmn] at h0; exact ⟨⟨gr, xs, h0⟩, fun k j pc h1 h2 => ⟨pc, h1, rfl, h2⟩⟩
 have hG : (⟨G.Im, upd G.g n (G.g n)⟩ : Gh) = G := by rw [upd_self]
 -- first with no cells at all
 have H1 : HR B E w' ⟨G.Im, upd G.g n (G.g n)⟩ (upd h n (some (.box []))) used [] := by
  refine H.put (fun b hb hne => hw b hb (hne hnl)) hsz (fun b hb hU => (hcz b hb).unf hU) (fun _ h => h) huse (fun _ => ⟨ho1, ho2, Nat.lt_of_lt_of_le ho3 hsz⟩)
   (fun _ m hm h0 hl0 => (H.inj m n h0 hn0 hm hl0 hnl)) (fun _ m gr sz xs hm h0 b hb => H.live m gr sz xs h0 b hb n hn0 hnl) ?_ (by rw [hG]; exact kp []) ?_
   (fun gr m sz xs hb => by cases hb) (fun gr sz xs hb => by cases hb) (fun gr m sz xs hb => by cases hb) ?_
  ·intro cs2 c m hb hc hm
   injection hb with hb
   subst hb
   cases hc
  ·exact ⟨hnl, (hcz _ ho3).unf hunf, fun j c hj => by simp at hj⟩
  ·intro _ _ b hb
   obtain ⟨m, gr, mo, sz, xs, hm, h0, hbF⟩ := hb
   exact H.foot_ne hn0 hnl h0 hbF
 rw [hG] at H1
 have hrest : ∀ m, upd h n (some (Blk.box [])) m ≠ none → h m ≠ none := fun m hm => by
  by_cases hmn : m = n
  ·subst hmn; exact hn0
  ·rwa [upd_ne _ _ _ _ hmn] at hm
 have H2 : HR B E w' ⟨fun b => G.Im b ∨ S b, G.g⟩ (upd h n (some (.box []))) used [] := H1.imx S (fun b hb => (hS b hb).2.1) (fun b hb q hq hl he => by have := (hS b hb).1; have := (H.own q (hrest q hq) hl).2.2; omega)
  (fun b hb q gr sz xs hq hF => by
   by_cases hqn : q = n
   ·subst hqn; rw [upd_same] at hq; cases hq
   ·rw [upd_ne _ _ _ _ hqn] at hq
    have := (hS b hb).1; have := H.rowF_lt hq hF; omega) (fun b hb => .inl (hS b hb).2.2)
 -- then with its cells
 have hn2 : upd h n (some (Blk.box [])) n = some (.box []) := upd_same _ _ _
 have hn02 : upd h n (some (Blk.box [])) n ≠ none := by rw [hn2]; simp
 have huu : upd (upd h n (some (Blk.box []))) n (some (.box (ps.map fun pc => ACell.c pc.er))) = upd h n (some (.box (ps.map fun pc => ACell.c pc.er))) := by
  funext m; simp only [upd_def]; split <;> rfl
 have hG2 : (⟨fun b => G.Im b ∨ S b, upd G.g n (G.g n)⟩ : Gh) = ⟨fun b => G.Im b ∨ S b, G.g⟩ := by rw [upd_self]
 have K2 : Keep w' ⟨fun b => G.Im b ∨ S b, G.g⟩ (upd h n (some (Blk.box []))) (fun n => used n = true) w' ⟨fun b => G.Im b ∨ S b, G.g⟩ (upd h n (some (.box (ps.map fun pc => ACell.c pc.er)))) := by
  refine ⟨fun _ h => h, fun _ _ _ => rfl, fun m hm h0 => ?_, fun m gr sz xs hm h0 => ?_⟩
  ·refine ⟨?_, rfl, rfl, rfl, rfl, rfl⟩
   by_cases hmn : m = n
   ·subst hmn; exact hn02
   ·rw [upd_ne _ _ _ _ hmn] at h0 ⊢; exact h0
  ·by_cases hmn : m = n
   ·subst hmn; rw [upd_same] at h0; cases h0
   ·rw [upd_ne _ _ _ _ hmn] at h0; exact ⟨⟨gr, xs, by rw [upd_ne _ _ _ _ hmn]; exact h0⟩, fun k j pc h1 h2 => ⟨pc, h1, rfl, h2⟩⟩
 have H3 : HR B E w' ⟨fun b => G.Im b ∨ S b, upd G.g n (G.g n)⟩ (upd (upd h n (some (Blk.box []))) n (some (.box (ps.map fun pc => ACell.c pc.er)))) used [] := by
  refine H2.put (w' := w') (fun _ _ _ => rfl) (Nat.le_refl _) (fun _ _ hU => hU) (fun _ h => h) huse (fun _ => ⟨fun hi => (H2.own n hn02 hnl).1 hi, ho2, Nat.lt_of_lt_of_le ho3 hsz⟩)
   (fun _ m hm h0 hl0 => H2.inj m n h0 hn02 hm hl0 hnl) (fun _ m gr sz xs hm h0 b hb => H2.live m gr sz xs h0 b hb n hn02 hnl) ?_ (by rw [hG2, huu]; exact K2) ?_
   (fun gr m sz xs hb => by cases hb) (fun gr sz xs hb => by cases hb) (fun gr m sz xs hb => by cases hb) ?_
  ·intro cs2 c m hb hc hm
   injection hb with hb
   subst hb
   obtain ⟨pc, _, rfl⟩ := List.mem_map.1 hc
   exact absurd hm id
  ·refine ⟨hnl, (hcz _ ho3).unf hunf, fun j c hj => ?_⟩
   rw [List.getElem?_map] at hj
   cases hp : ps[j]? with
   | none => rw [hp] at hj; cases hj
   | some pc =>
    rw [hp] at hj
    simp at hj
    subst hj
    obtain ⟨g1, g2⟩ := hgood pc (List.mem_of_getElem? hp)
    exact ⟨pc.val, hat j pc hp, PC.val_oneCell pc, pc, rfl, rfl, g1, g2⟩
  ·intro _ _ b hb
   obtain ⟨m, gr, mo, sz, xs, hm, h0, hbF⟩ := hb
   exact H2.foot_ne hn02 hnl h0 hbF
 rw [hG2, huu] at H3
 have K1 : Keep w G h (fun n => used n = true) w' ⟨fun b => G.Im b ∨ S b, G.g⟩ (upd h n (some (Blk.box []))) := Keep.trans (fun _ h => h) (kp []) (Keep.imx S _)
 exact ⟨H3, Keep.trans (fun _ h => h) K1 K2⟩
theorem putB_cases {σ1 : St} {ns : List Nat} {out : List C} (hx : σ.putB ns out = some σ1) : (ns = [] ∧ out = [] ∧ σ1 = σ) ∨ ∃ n cs, ns = [n] ∧ σ.h n = some (.box cs) ∧ cs.length = out.length ∧ σ1 = σ.setB n (.box (out.map .c)) := by
 unfold St.putB at hx
 split at hx
 ·injection hx with hx; exact .inl ⟨rfl, rfl, hx.symm⟩
 ·rename_i n
  split at hx
  ·rename_i cs hn
   split at hx
   ·rename_i hl
    injection hx with hx
    exact .inr ⟨n, cs, rfl, hn, hl, hx.symm⟩
   ·cases hx
  ·cases hx
 ·cases hx
theorem curs_mem {pas : List PA} {p : PA} (hp : p ∈ pas) (hk : p.k = .ptr) : p ∈ cursOf pas := List.mem_filter.2 ⟨hp, by simp [hk]⟩
theorem curs_one : ∀ {pas : List PA}, (cursOf pas).length ≤ 1 → ∀ {i j : Nat} {p q : PA}, pas[i]? = some p → pas[j]? = some q → p.k = .ptr → q.k = .ptr → i = j
 | [], _, i, _, _, _, hi, _, _, _ => by simp at hi
 | x :: pas, hl, i, j, p, q, hi, hj, hp, hq => by
  by_cases hx : x.k = .ptr
  ·have hz : (cursOf pas).length = 0 := by
    simp [cursOf, hx] at hl ⊢
    exact hl
   have hno : ∀ y ∈ pas, y.k ≠ .ptr := fun y hy hk => by
    have := curs_mem hy hk
    rw [List.length_eq_zero_iff.1 hz] at this
    cases this
   cases i with
   | zero =>
    cases j with
    | zero => rfl
    | succ j => exact absurd hq (hno q (List.mem_of_getElem? (by simpa using hj)))
   | succ i => exact absurd hp (hno p (List.mem_of_getElem? (by simpa using hi)))
  ·have hl' : (cursOf pas).length ≤ 1 := by simpa [cursOf, hx] using hl
   cases i with
   | zero => simp at hi; subst hi; exact absurd hp hx
   | succ i =>
    cases j with
    | zero => simp at hj; subst hj; exact absurd hq hx
    | succ j => exact congrArg (· + 1) (curs_one hl' (by simpa using hi) (by simpa using hj) hp hq)
theorem datsV_eqV : ∀ {prs : List PA} {ls : List (Bool × List ACell)}, datsV (prs.map fun p => (p.k, p.ps.map PC.er)) = some ls → ls = prs.map (fun p => (decide (p.k = .agg), p.ps.map fun pc => ACell.c pc.er)) ∧ ∀ p ∈ prs, p.k ≠ .ptr
 | [], ls, h => by simp only [List.map_nil, datsV] at h; injection h with h; exact ⟨h.symm, by simp⟩
 | ⟨k, ps, b, o⟩ :: prs, ls, h => by
  cases k with
  | ptr => simp [datsV] at h
  | one =>
   simp only [List.map_cons, datsV] at h
   split at h
   ·rename_i ls' e
    injection h with h
    obtain ⟨e1, e2⟩ := datsV_eqV e
    refine ⟨by rw [← h, e1, List.map_map]; rfl, fun p hp => ?_⟩
    cases hp with
    | head => simp
    | tail _ hp => exact e2 p hp
   ·cases h
  | agg =>
   simp only [List.map_cons, datsV] at h
   split at h
   ·rename_i ls' e
    injection h with h
    obtain ⟨e1, e2⟩ := datsV_eqV e
    refine ⟨by rw [← h, e1, List.map_map]; rfl, fun p hp => ?_⟩
    cases hp with
    | head => simp
    | tail _ hp => exact e2 p hp
   ·cases h
theorem raRes1V {ls : List (Bool × List ACell)} {prs : List PA} (hlen : ls.length = prs.length)
  (hv : ∀ (j : Nat) (x : Bool × List ACell) (p : PA), ls[j]? = some x → prs[j]? = some p → RV w G h x.1 x.2 (retOneV p)) : RA w G h (res1 ls) (retValV prs) := by
 match ls, prs, hlen with
 | [], [], _ => exact ⟨[], rfl, rfl, by simp⟩
 | [(ag, cs)], [p], _ =>
  have h0 := hv 0 (ag, cs) p rfl rfl
  cases ag with
  | true => exact h0
  | false =>
   have hcl : RCl w G h cs [retOneV p] := h0
   match cs, hcl.1 with
   | [c], _ => exact .inr h0
 | x :: y :: ls, p :: q :: prs, hl =>
  refine ⟨(p :: q :: prs).map retOneV, rfl, by simpa using hl.symm, fun j x' u hj hu => ?_⟩
  rw [List.getElem?_map] at hu
  cases hp : (p :: q :: prs)[j]? with
  | none => rw [hp] at hu; cases hu
  | some p' => rw [hp] at hu; simp at hu; subst hu; exact hv j x' p' hj hp
theorem ex_doCallB (r : R B E w0 N σ a w G) {T : Tab} (hT : TabOkV P T) {f : FuncId} {as : List AVal} {vals : List Value} {σ1 : St} (hN : ∀ n, o.dst = some n → n < N)
  (hrun : (execOp a.eval o).run P w = .ok (.enter f vals.toArray) w) (hl : vals.length = as.length)
  (has : ∀ (j : Nat) (x : AVal) (v : Value), as[j]? = some x → vals[j]? = some v → RA w G σ.h x v) (hrf : ∀ x ∈ as, ∀ m, x.ref m → σ.used m = true)
  (hx : doCallB T o.dst f as σ = some σ1) : o.wp P a w (Nx B E w0 N σ1) Q := by
 unfold doCallB at hx
 split at hx
 ·rename_i ds ns τ1 M hba hM
  split at hx
  ·rename_i rs out hM'
   split at hx
   ·rename_i τ2 hput
    obtain ⟨Im', pas, b1, b2, b3, b4, b5, b6, b7, b8, b9, b10⟩ := r.hr.bArgs hba hl has hrf
    have hns : ns.length ≤ 1 := by
     rcases putB_cases hput with ⟨h1, _⟩ | ⟨n, cs, h1, _⟩ <;> rw [h1] <;> simp
    have hcur : ∀ p ∈ pas, p.k = .ptr → ∃ n, ns = [n] ∧ CurAt G τ1.h p n := by
     intro p hp hk
     obtain ⟨i, hi⟩ := List.getElem?_of_mem (curs_mem hp hk)
     have hlt : i < ns.length := by rw [← b5]; exact (List.getElem?_eq_some_iff.1 hi).1
     have hn : ns[i]? = some ns[i] := List.getElem?_eq_getElem hlt
     have h0 : i = 0 := by omega
     subst h0
     refine ⟨_, ?_, b6 0 p _ hi hn⟩
     match ns, hlt, hns with
     | [n], _, _ => rfl
    have va : VArgs w ds vals pas := by
     refine ⟨b2, b1, b3, fun p hp hk => ?_, fun i j p q hi hj hp hq => curs_one (by omega) hi hj hp hq⟩
     obtain ⟨n, _, cs, hn, e1, e2, e3⟩ := hcur p hp hk
     obtain ⟨nl, un, _⟩ := b7.box n cs hn
     have ho := b7.own n (by rw [hn]; simp) nl
     rw [e1]
     exact ⟨un, fun q hq pc hpc hb => ho.1 (b4 q hq pc hpc _ hb)⟩
    unfold Oper.wp
    rw [hrun]
    refine (hT f M hM ds rs out hM' w vals pas va).mono fun e w' ⟨prs, qs, p1, p2, p3, p4⟩ => ?_
    subst p2
    have hvin : ∀ b, VIn w pas b → Im' b ∨ w.heap.size ≤ b := fun b hb => by
     rcases hb with hb | ⟨q, hq, pc, hpc, hb⟩
     ·exact .inr hb
     ·exact .inl (b4 q hq pc hpc b hb)
    let S : Nat → Prop := fun b => w.heap.size ≤ b ∧ ((∃ p ∈ prs, ∃ pc ∈ p.ps, InF b pc) ∨ ∃ pc ∈ qs, InF b pc)
    have hB := r.fr.size
    have hS : ∀ b, S b → w.heap.size ≤ b ∧ b < w'.heap.size ∧ B ≤ b := fun b ⟨h1, h2⟩ => by
     refine ⟨h1, ?_, Nat.le_trans hB h1⟩
     rcases h2 with ⟨p, hp, pc, hpc, hb⟩ | ⟨pc, hpc, hb⟩
     ·exact (p4.good p hp pc hpc).1.lt hb
     ·exact (p4.out pc hpc).1.lt hb
    have gres : ∀ p ∈ prs, ∀ pc ∈ p.ps, Good w' pc ∧ ∀ b, InF b pc → Im' b ∨ S b := fun p hp pc hpc => by
     obtain ⟨g1, g2⟩ := p4.good p hp pc hpc
     exact ⟨g1, fun b hb => (hvin b (g2 b hb)).imp id fun h1 => ⟨h1, .inl ⟨p, hp, pc, hpc, hb⟩⟩⟩
    have gout : ∀ pc ∈ qs, Good w' pc ∧ ∀ b, InF b pc → Im' b ∨ S b := fun pc hpc => by
     obtain ⟨g1, g2⟩ := p4.out pc hpc
     exact ⟨g1, fun b hb => (hvin b (g2 b hb)).imp id fun h1 => ⟨h1, .inr ⟨pc, hpc, hb⟩⟩⟩
    -- the state with what the pointer's cells hold
    have step2 : HR B E w' ⟨fun b => Im' b ∨ S b, G.g⟩ τ2.h τ2.used [] ∧ Keep w ⟨Im', G.g⟩ τ1.h (fun n => τ1.used n = true) w' ⟨fun b => Im' b ∨ S b, G.g⟩ τ2.h ∧ τ2.env = τ1.env ∧ τ2.used = τ1.used ∧ Fr B E w0 w' := by
     rcases putB_cases hput with ⟨h1, h2, h3⟩ | ⟨n, cs, h1, h2, h3, h4⟩
     ·subst h3
      have hno : ∀ p ∈ pas, p.k ≠ .ptr := fun p hp hk => by
       obtain ⟨n, e, _⟩ := hcur p hp hk
       rw [h1] at e; cases e
      have hblk : ∀ b, b < w.heap.size → w'.heap[b]? = w.heap[b]? := fun b hb => p4.fr.block b hb (fun ⟨p, hp, hk, _⟩ => hno p hp hk)
      have Hg := b7.grow hblk p4.fr.size
      refine ⟨Hg.imx S (fun b hb => (hS b hb).2.1) (fun b hb q hq hl he => by have := (hS b hb).1; have := (b7.own q hq hl).2.2; omega)
       (fun b hb q gr sz xs hq hF => by have := (hS b hb).1; have := b7.rowF_lt hq hF; omega) (fun b hb => .inl (hS b hb).2.2),
       Keep.trans (fun _ h => h) (Keep.world (fun b hb => hblk b (b7.imlt b hb)) _) (Keep.imx S _), rfl, rfl, r.fr.grow hblk p4.fr.size p4.fr.os p4.fr.tape p4.fr.output⟩
     ·subst h4
      -- the pointer among the arguments
      obtain ⟨p, hp, hk⟩ : ∃ p ∈ pas, p.k = .ptr := by
       have hlen : (cursOf pas).length = 1 := by rw [b5, h1]; rfl
       match hc : cursOf pas, hlen with
       | [p], _ =>
        have hm : p ∈ cursOf pas := by rw [hc]; simp
        have := List.mem_filter.1 hm
        exact ⟨p, this.1, by simpa using this.2⟩
      obtain ⟨n', e0, cs', hn', e1, e2, e3⟩ := hcur p hp hk
      rw [h1] at e0
      injection e0 with e0
      subst e0
      have huniq : ∀ q ∈ pas, q.k = .ptr → q = p := fun q hq hkq => by
       obtain ⟨i, hi⟩ := List.getElem?_of_mem hq
       obtain ⟨j, hj⟩ := List.getElem?_of_mem hp
       have := va.one i j q p hi hj hkq hk
       subst this
       rw [hi] at hj
       injection hj
      have ho := b7.own n (by rw [h2]; simp) (b7.box n cs h2).1
      have hblk : ∀ b, b < w.heap.size → b ≠ (G.g n).b → w'.heap[b]? = w.heap[b]? := fun b hb hne => p4.fr.block b hb (fun ⟨q, hq, hkq, hbq⟩ => by
       rw [huniq q hq hkq, e1] at hbq
       exact hne hbq)
      have hcz : ∀ b, b < w.heap.size → Cz w w' b := fun b hb => p4.fr.unf b hb
      obtain ⟨Hb, Kb⟩ := b7.boxStep (cs' := out.map .c) h2 p4.fr.size hblk hcz hS (ps := qs) (by rw [← p3, List.map_map]; rfl) (fun j c hj => by
       have := p4.at_ p hp hk j c hj
       rw [e1, e2] at this
       exact this) gout
      exact ⟨Hb, Kb, rfl, rfl, r.fr.one ho.2.1 hblk p4.fr.size (hcz _ ho.2.2) p4.fr.os p4.fr.tape p4.fr.output⟩
    obtain ⟨H2, K2, v1, v2, hfr⟩ := step2
    have K0 : Keep w G σ.h (fun n => σ.used n = true) w' ⟨fun b => Im' b ∨ S b, G.g⟩ τ2.h := Keep.trans (fun n hn => by rw [b10]; exact hn) b8 K2
    have r2 : R B E w0 N τ2 a w' ⟨fun b => Im' b ∨ S b, G.g⟩ := r.step (v1.trans b9) (fun m hm => by rw [v2, b10]; exact hm) K0 H2 hfr
    -- the results
    have dat : ∀ {ls : List (Bool × List ACell)}, datsV rs = some ls → σ1 = τ2.put o.dst (res1 ls) → (match (Ending.returned (retValV prs)) with | .returned v => Nx B E w0 N σ1 (a.put o.dst v) w' | _ => True) := by
     intro ls hls hs
     subst hs
     rw [← p1] at hls
     obtain ⟨rfl, hnp⟩ := datsV_eqV hls
     refine ⟨_, r2.put (raRes1V (by simp) (fun j x p hj hp => ?_)) (fun q hq => ?_) hN⟩
     ·rw [List.getElem?_map, hp] at hj
      simp at hj
      subst hj
      have hm := List.mem_of_getElem? hp
      have hcl : RCl w' ⟨fun b => Im' b ∨ S b, G.g⟩ τ2.h (p.ps.map fun pc => ACell.c pc.er) (p.ps.map PC.val) := by
       refine ⟨by simp, fun j c u hj hu => ?_⟩
       rw [List.getElem?_map] at hj hu
       cases hpj : p.ps[j]? with
       | none => rw [hpj] at hj; cases hj
       | some pc =>
        rw [hpj] at hj hu
        simp at hj hu
        subst hj hu
        obtain ⟨g1, g2⟩ := gres p hm pc (List.mem_of_getElem? hpj)
        exact ⟨PC.val_oneCell pc, pc, rfl, rfl, g1, g2⟩
      have hk1 := p4.one p hm
      have hk2 := hnp p hm
      obtain ⟨k, ps, b, o'⟩ := p
      cases k with
      | ptr => exact absurd rfl hk2
      | agg => exact ⟨ps.map PC.val, rfl, hcl⟩
      | one =>
       have h2 := hk1 rfl
       match ps, h2 with
       | [p], _ => exact hcl
     ·exfalso
      refine res1_noref (fun x hx c hc hq => ?_) hq
      obtain ⟨p, _, rfl⟩ := List.mem_map.1 hx
      obtain ⟨pc, _, rfl⟩ := List.mem_map.1 hc
      exact hq
    unfold bRes at hx
    split at hx
    ·rename_i cs
     split at hx
     ·rename_i q hq
      split at hx
      ·rename_i τ3 hins
       injection hx with hx
       subst hx
       obtain ⟨u1, rfl⟩ := ins_some hins
       obtain ⟨p, rfl⟩ : ∃ p, prs = [p] := by
        have h1 : prs.length = 1 := by have := congrArg List.length p1; simpa using this
        exact List.length_eq_one_iff.1 h1
       simp at p1
       obtain ⟨hk, hcs⟩ := p1
       obtain ⟨_, q1, q2, q3, q4, q5⟩ := p4.ptr p (by simp) hk
       subst hcs
       have hlone : Lone ⟨fun b => Im' b ∨ S b, G.g⟩ τ2.h p.b := by
        refine ⟨fun hi => ?_, fun m hm hl he => ?_, fun m gr mo sz xs hm hF => ?_⟩
        ·rcases hi with hi | ⟨_, hi⟩
         ·have := b7.imlt _ hi; omega
         ·rcases hi with ⟨p', hp', pc, hpc, hb⟩ | ⟨pc, hpc, hb⟩
          ·simp at hp'; subst hp'; exact q4 pc hpc hb
          ·exact q5 pc hpc hb
        ·have hd := H2.dom m hm
         obtain ⟨k0, k1, k2, _⟩ := K2.name m (by rw [← v2]; exact hd) hm
         have hl' : (G.g m).nl = false := hl
         have := (b7.own m k0 hl').2.2
         have he' : (G.g m).b = p.b := he
         have h7 : (⟨Im', G.g⟩ : Gh).g m = G.g m := rfl
         rw [h7] at this
         omega
        ·have hd := H2.dom m (by rw [hm]; simp)
         have hrow : ∃ gr' mo' sz' xs', τ1.h m = some (.row gr' mo' sz' xs') := by
          rcases putB_cases hput with ⟨h1, h2, h3⟩ | ⟨n, cs, h1, h2, h3, h4⟩
          ·subst h3; exact ⟨_, _, _, _, hm⟩
          ·subst h4
           by_cases hmn : m = n
           ·subst hmn; have : upd τ1.h m (some (Blk.box (out.map ACell.c))) m = _ := hm; rw [upd_same] at this; cases this
           ·have : upd τ1.h n (some (Blk.box (out.map ACell.c))) m = _ := hm
            rw [upd_ne _ _ _ _ hmn] at this
            exact ⟨_, _, _, _, this⟩
         obtain ⟨gr', mo', sz', xs', hm'⟩ := hrow
         have hF' : RowF p.b (G.g m).px := hF
         have := b7.rowF_lt hm' hF'
         omega
       have Hn : HR B E w' ⟨fun b => Im' b ∨ S b, upd G.g q ⟨false, p.b, p.o, 0, [], none⟩⟩ (upd τ2.h q (some (.box ((p.ps.map PC.er).map .c)))) (upd τ2.used q true) [] := by
        refine H2.insert (w' := w') u1 (fun _ _ => rfl) (Nat.le_refl _) (fun _ => ⟨hlone, .inl (Nat.le_trans hB q1), q2.lt⟩) (fun cs' c m hb hc' hm => ?_) ⟨rfl, q2, fun j c hj => ?_⟩ (fun gr m sz xs hb => by cases hb) (fun gr sz xs hb => by cases hb) (fun gr m sz xs hb => by cases hb)
        ·injection hb with hb
         subst hb
         obtain ⟨x, _, rfl⟩ := List.mem_map.1 hc'
         exact absurd hm id
        ·rw [List.getElem?_map, List.getElem?_map] at hj
         cases hp : p.ps[j]? with
         | none => rw [hp] at hj; cases hj
         | some pc =>
          rw [hp] at hj
          simp at hj
          subst hj
          obtain ⟨g1, g2⟩ := gres p (by simp) pc (List.mem_of_getElem? hp)
          exact ⟨pc.val, q3 j pc hp, PC.val_oneCell pc, pc, rfl, rfl, g1, g2⟩
       have r3 := r2.step (σ' := { τ2 with h := upd τ2.h q (some (.box ((p.ps.map PC.er).map .c))), used := upd τ2.used q true }) rfl (fun m hm => upd_used q m hm) (Keep.insert H2 u1 (fun _ _ => rfl)) Hn hfr
       have hv : retValV [p] = .pointer (some (ad p.b p.o)) := by
        obtain ⟨k, ps, b, o'⟩ := p
        simp only at hk
        subst hk
        rfl
       rw [hv]
       exact ⟨_, r3.put (RA.of_one (c := .ptr q 0 0 0) rfl (show upd τ2.h q _ q ≠ none → (upd G.g q _ q).nl = false ∧ _ = _ from fun _ => by simp [upd_same])) (fun m hm => by have hm' : m = q := hm; subst hm'; exact upd_same _ _ _) hN⟩
      ·cases hx
     ·cases hx
    ·split at hx
     ·rename_i ls hls
      injection hx with hx
      exact dat hls hx.symm
     ·cases hx
   ·cases hx
  ·cases hx
 ·cases hx
theorem ex_callb (r : R B E w0 N σ a w G) {T : Tab} (hT : TabOkV P T) {f : FuncId} {xs : Array Operand} {ms : List MO} {ts : Array TypeId} {σ1 : St} (hN : ∀ n, o.dst = some n → n < N)
  (ho : o.op = .call { callee := .value (.func f), args := xs, argTypes := ts }) (hf : chkFun P f = true) (hm : chkMOs xs.toList ms = true)
  (hx : doCallB T o.dst f (ms.map σ.ev) σ = some σ1) : o.wp P a w (Nx B E w0 N σ1) Q := by
 obtain ⟨e1, e2⟩ := r.evs hm
 have hrf : ∀ x ∈ ms.map σ.ev, ∀ m, x.ref m → σ.used m = true := by
  have key : ∀ {xs : List Operand} {ms : List MO}, chkMOs xs ms = true → ∀ x ∈ ms.map σ.ev, ∀ m, x.ref m → σ.used m = true := by
   intro xs ms
   induction ms generalizing xs with
   | nil => intro _ x hx; simp at hx
   | cons m0 ms ih =>
    intro hc x hx m hm
    cases xs with
    | nil => simp [chkMOs] at hc
    | cons y ys =>
     simp only [chkMOs, Bool.and_eq_true] at hc
     simp only [List.map_cons, List.mem_cons] at hx
     rcases hx with rfl | hx
     ·exact (r.ev hc.1).2 m hm
     ·exact ih hc.2 x hx m hm
  exact key hm
 refine ex_doCallB r hT (vals := xs.toList.map a.eval) hN ?_ (by simpa using e1) e2 hrf hx
 have he : (xs.toList.map a.eval).toArray = xs.map a.eval := by apply Array.ext'; simp
 rw [he]
 simp [execOp, ho, resolve, Deferred.ofValue, invoke, Act.eval, run_callFunc hf]
theorem R.frz (r : R B E w0 N σ a w G) {p : ACell} (hx : σ.frz p = some σ') : ∃ G', R B E w0 N σ' a w G' ∧ σ'.env = σ.env := by
 unfold St.frz at hx
 split at hx
 ·rename_i n k sz off
  split at hx
  ·rename_i cs hn
   split at hx
   ·rename_i xs ow σ1 ht
    injection hx with hx
    subst hx
    obtain ⟨vs, v1, v2⟩ := r.hr.boxVals hn
    obtain ⟨Im1, pcs, a1, a2, a3, a5, a6, a7, a8, a9⟩ := r.hr.takeL ht v1 (fun c hc m hm => r.hr.wfh n cs c m hn hc hm)
    have a5' : HR B E w ⟨Im1, G.g⟩ σ1.h σ.used [] := by
     cases ow with
     | true => exact HR.tkTake (tk := []) (l := pcs) (by simpa using a5)
     | false => simpa using a5
    have hn1 := takeL_box ht hn
    obtain ⟨b1, b2⟩ := a5'.boxStep (w' := w) (cs' := xs.map .c) hn1 (Nat.le_refl _) (fun _ _ _ => rfl) (fun b _ => Cz.refl w b) (S := fun _ => False) (fun b hb => hb.elim) (ps := pcs)
     (by rw [← a1, List.map_map]; rfl) (fun j c hj => by
      have := v2 j c.val (by rw [← a2, List.getElem?_map, hj]; rfl)
      exact this) (fun pc hpc => ⟨(a3 pc hpc).1, fun b hb => .inl ((a3 pc hpc).2 b hb)⟩)
    have hk := Keep.trans (fun _ h => h) a6 b2
    refine ⟨_, r.step a7 (fun q hq => by rw [show (σ1.setB n (.box (xs.map .c))).used = σ1.used from rfl, a8]; exact hq) hk ?_ r.fr, a7⟩
    show HR B E w _ _ σ1.used []
    rw [a8]
    exact b1
   ·cases hx
  ·cases hx
 ·cases hx
theorem ex_loadd (r : R B E w0 N σ a w G) {t : TypeId} {x : Operand} {m : MO} {ag : Bool} {sz : Nat} {p : ACell} {cs : List ACell} (ho : o.op = .load t x) (hN : ∀ n, o.dst = some n → n < N)
  (hm : chkMO x m = true) (hch : chkLoad P t ag sz = true) (hp : σ.ev m = .one p) (hf : σ.frz p = some σ') (hx : Am.loadAt σ'.h p sz = some cs) :
  o.wp P a w (Nx B E w0 N (σ'.put o.dst (toA ag cs))) Q := by
 obtain ⟨G', r', e⟩ := r.frz hf
 refine ex_load r' ho hN hm hch (p := p) ?_ hx
 cases m with
 | t n => simp only [St.ev] at hp ⊢; rw [e]; exact hp
 | k v => exact hp
end
end Go.Am