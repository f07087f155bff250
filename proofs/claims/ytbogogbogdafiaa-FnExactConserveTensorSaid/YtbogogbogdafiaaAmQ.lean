/- AmP, AmQ: parts of the proof. No condition. -/
import Derived.Test.YtbogogbogdafiaaAm21
set_option linter.unusedVariables false
set_option linter.unusedSimpArgs false
section
namespace Go.Am
theorem ACell.nm0_ref {c : ACell} {m : Nat} : m ∈ c.nm0 ↔ c.ref0 m := by
 cases c <;> simp [ACell.nm0, ACell.ref0]
theorem ACell.nm_ref {c : ACell} {m : Nat} : m ∈ c.nm ↔ c.ref m := by
 cases c with
 | fn f caps => simp [ACell.nm, ACell.ref, List.mem_flatMap, ACell.nm0_ref]
 | _ => simp [ACell.nm, ACell.nm0, ACell.ref, ACell.ref0]
theorem AVal.nms_ref {v : AVal} {m : Nat} : m ∈ v.nms ↔ v.ref m := by
 cases v with
 | one c => exact ACell.nm_ref
 | agg cs => simp [AVal.nms, AVal.ref, List.mem_flatMap, ACell.nm_ref]
 | tup xs => simp only [AVal.nms, AVal.ref, List.mem_flatMap, ACell.nm_ref]
theorem mem_nmA {op : MOp} {ev : MO → AVal} {n : Nat} : n ∈ op.nmA ev ↔ ∃ a ∈ op.args, (ev a).ref n := by
 simp [MOp.nmA, List.mem_flatMap, AVal.nms_ref]
theorem nmA_rdN {op : MOp} {ev : MO → AVal} {h : Nat → Option Blk} {n : Nat} (hn : n ∈ op.nmA ev) : n ∈ op.rdN ev h := by
 unfold MOp.rdN
 cases op.isCall with
 | true => exact List.mem_append.2 (.inl hn)
 | false => exact hn
theorem wrN_nmA {op : MOp} {ev : MO → AVal} {h : Nat → Option Blk} {ws : List Nat} (hw : op.wrN ev h = some ws) {n : Nat} (hn : n ∈ ws) : n ∈ op.nmA ev := by
 cases op <;> simp only [MOp.wrN] at hw <;> first | (cases hw; cases hn) | (cases hw; done) | skip
 case store sz x v =>
  split at hw
  ·rename_i q _ _ _ hx
   have hq : q ∈ (MOp.store sz x v).nmA ev := mem_nmA.2 ⟨x, by simp [MOp.args], by rw [hx]; exact rfl⟩
   split at hw
   ·injection hw with hw; subst hw; simp at hn; subst hn; exact hq
   ·injection hw with hw; subst hw
    rcases List.mem_cons.1 hn with rfl | hn
    ·exact hq
    ·exact mem_nmA.2 ⟨v, by simp [MOp.args], AVal.nms_ref.1 hn⟩
   ·cases hw
  ·rename_i q _ _ _ _ _ hx
   have hq : q ∈ (MOp.store sz x v).nmA ev := mem_nmA.2 ⟨x, by simp [MOp.args], by rw [hx]; exact rfl⟩
   injection hw with hw; subst hw; simp at hn; subst hn; exact hq
  ·cases hw
 case copy sz x y =>
  split at hw
  ·rename_i q _ _ _ hx
   injection hw with hw; subst hw; simp at hn; subst hn
   exact mem_nmA.2 ⟨x, by simp [MOp.args], by rw [hx]; exact rfl⟩
  ·cases hw
 case clr z x =>
  split at hw
  ·rename_i q _ _ _ hx
   injection hw with hw; subst hw; simp at hn; subst hn
   exact mem_nmA.2 ⟨x, by simp [MOp.args], by rw [hx]; exact rfl⟩
  ·cases hw
 case bslice sz ps =>
  injection hw with hw
  subst hw
  obtain ⟨a, ha, hn⟩ := List.mem_flatMap.1 hn
  exact mem_nmA.2 ⟨a, ha, AVal.nms_ref.1 hn⟩
 case callb f xs =>
  injection hw with hw
  subst hw
  obtain ⟨a, ha, hn⟩ := List.mem_flatMap.1 hn
  exact mem_nmA.2 ⟨a, ha, AVal.nms_ref.1 hn⟩
 case append fl sz by_ x y =>
  injection hw with hw
  subst hw
  rcases List.mem_append.1 hn with hn | hn
  ·exact mem_nmA.2 ⟨x, by simp [MOp.args], AVal.nms_ref.1 hn⟩
  ·exact mem_nmA.2 ⟨y, by simp [MOp.args], AVal.nms_ref.1 hn⟩
def St.upds (σ : St) : List (Nat × Option Blk) → St
 | [] => σ
 | (n, b) :: l => St.upds { σ with h := upd σ.h n b } l
def updsH (h : Nat → Option Blk) : List (Nat × Option Blk) → (Nat → Option Blk)
 | [] => h
 | (n, b) :: l => updsH (upd h n b) l
theorem upds_eq : ∀ (l : List (Nat × Option Blk)) (σ : St), σ.upds l = { σ with h := updsH σ.h l }
 | [], σ => rfl
 | (n, b) :: l, σ => by simp only [St.upds, updsH]; rw [upds_eq l]
theorem updsH_ne : ∀ {l : List (Nat × Option Blk)} {h : Nat → Option Blk} {n : Nat}, (∀ p ∈ l, p.1 ≠ n) → updsH h l n = h n
 | [], h, n, _ => rfl
 | (m, b) :: l, h, n, hn => by
  simp only [updsH]
  rw [updsH_ne fun p hp => hn p (List.mem_cons_of_mem _ hp)]
  exact upd_ne _ _ _ _ (fun e => hn (m, b) (by simp) e.symm)
theorem updsH_append (h : Nat → Option Blk) (l l' : List (Nat × Option Blk)) : updsH h (l ++ l') = updsH (updsH h l) l' := by
 induction l generalizing h with
 | nil => rfl
 | cons x l ih => obtain ⟨n, b⟩ := x; exact ih _
theorem upds_append (σ : St) (l l' : List (Nat × Option Blk)) : σ.upds (l ++ l') = (σ.upds l).upds l' := by
 simp only [upds_eq, updsH_append]
theorem updsH_in : ∀ {l : List (Nat × Option Blk)} {h h' : Nat → Option Blk} {n : Nat}, (∃ p ∈ l, p.1 = n) → updsH h l n = updsH h' l n
 | [], h, h', n, hn => by obtain ⟨p, hp, _⟩ := hn; cases hp
 | (m, b) :: l, h, h', n, hn => by
  simp only [updsH]
  by_cases hl : ∃ p ∈ l, p.1 = n
  ·exact updsH_in hl
  ·have hno : ∀ p ∈ l, p.1 ≠ n := fun p hp e => hl ⟨p, hp, e⟩
   rw [updsH_ne hno, updsH_ne hno]
   obtain ⟨p, hp, e⟩ := hn
   rcases List.mem_cons.1 hp with rfl | hp
   ·simp only at e; subst e; rw [upd_same, upd_same]
   ·exact absurd e (hno p hp)
theorem updsH_comm {u v : List (Nat × Option Blk)} (hd : ∀ p ∈ u, ∀ q ∈ v, p.1 ≠ q.1) (h : Nat → Option Blk) : updsH (updsH h u) v = updsH (updsH h v) u := by
 funext n
 by_cases hu : ∃ p ∈ u, p.1 = n
 ·obtain ⟨p, hp, rfl⟩ := hu
  rw [updsH_ne (l := v) fun q hq e => hd p hp q hq e.symm]
  exact updsH_in ⟨p, hp, rfl⟩
 ·rw [updsH_ne (l := u) (h := updsH h v) fun p hp e => hu ⟨p, hp, e⟩]
  by_cases hv : ∃ q ∈ v, q.1 = n
  ·exact updsH_in hv
  ·rw [updsH_ne fun q hq e => hv ⟨q, hq, e⟩, updsH_ne fun p hp e => hu ⟨p, hp, e⟩, updsH_ne fun q hq e => hv ⟨q, hq, e⟩]
theorem upds_comm {u v : List (Nat × Option Blk)} (hd : ∀ p ∈ u, ∀ q ∈ v, p.1 ≠ q.1) (σ : St) : (σ.upds u).upds v = (σ.upds v).upds u := by
 simp only [upds_eq, updsH_comm hd]
theorem upds_we (σ : St) (e : Nat → AVal) (l : List (Nat × Option Blk)) : (σ.we e).upds l = (σ.upds l).we e := by
 simp only [upds_eq]; rfl
theorem updsH_upd {l : List (Nat × Option Blk)} {h : Nat → Option Blk} {n : Nat} {b : Option Blk} (hn : ∀ p ∈ l, p.1 ≠ n) : updsH (upd h n b) l = upd (updsH h l) n b := by
 have := updsH_comm (u := l) (v := [(n, b)]) (fun p hp q hq => by simp at hq; subst hq; exact hn p hp) h
 exact this.symm
theorem ins_upds {σ σ1 : St} {l : List (Nat × Option Blk)} {n : Nat} {b : Blk} (hl : ∀ p ∈ l, σ.used p.1 = true) (h : σ.ins n b = some σ1) : (σ.upds l).ins n b = some (σ1.upds l) := by
 obtain ⟨u1, rfl⟩ := ins_some h
 unfold St.ins
 rw [upds_eq, upds_eq]
 rw [if_neg (show ¬ σ.used n = true by rw [u1]; simp)]
 simp only
 rw [updsH_upd fun p hp e => by rw [← e, hl p hp] at u1; cases u1]
theorem insAll_upds : ∀ {A : List (Nat × Blk)} {σ σ1 : St} {l : List (Nat × Option Blk)}, (∀ p ∈ l, σ.used p.1 = true) → σ.insAll A = some σ1 → (σ.upds l).insAll A = some (σ1.upds l)
 | [], σ, σ1, l, hl, h => by
  simp only [St.insAll] at h ⊢
  injection h with h
  rw [h]
 | (n, b) :: A, σ, σ1, l, hl, h => by
  simp only [St.insAll] at h ⊢
  split at h
  ·rename_i σ0 e
   rw [ins_upds hl e]
   obtain ⟨u1, rfl⟩ := ins_some e
   exact insAll_upds (fun p hp => upd_used _ _ (hl p hp)) h
  ·cases h
theorem insAll_dom : ∀ {A : List (Nat × Blk)} {σ σ' : St}, σ.used = σ'.used → (σ.insAll A).isSome = true → (σ'.insAll A).isSome = true
 | [], σ, σ', hu, h => rfl
 | (n, b) :: A, σ, σ', hu, h => by
  simp only [St.insAll, St.ins] at h ⊢
  rw [← hu]
  split at h
  ·rename_i σ0 e
   split at e
   ·cases e
   ·rename_i hn
    injection e with e
    subst e
    rw [if_neg hn]
    simp only
    exact insAll_dom (by rfl) h
  ·cases h
theorem insAll_upds' {A : List (Nat × Blk)} {σ B : St} {l : List (Nat × Option Blk)} (hl : ∀ p ∈ l, σ.used p.1 = true) (h : (σ.upds l).insAll A = some B) : ∃ B', σ.insAll A = some B' ∧ B = B'.upds l := by
 have hs : (σ.insAll A).isSome = true := insAll_dom (A := A) (σ := σ.upds l) (σ' := σ) (by rw [upds_eq]) (by rw [h]; rfl)
 cases e : σ.insAll A with
 | none => rw [e] at hs; cases hs
 | some B' =>
  refine ⟨B', rfl, ?_⟩
  have := insAll_upds hl e
  rw [h] at this
  injection this
abbrev Us := List (Nat × Option Blk)
def takeCH (h : Nat → Option Blk) : ACell → Option (C × Bool × Us)
 | .c x => some (x, x.scal, [])
 | .nil sz => if 0 < sz then some (.list sz [], true, []) else none
 | .sl n sz lo len =>
  match h n with
  | some (.row _ m rs xs) => if rs = sz ∧ lo = 0 ∧ len ≤ xs.length then some (.list sz (xs.take len), decide (m ≠ .bor), [(n, none)]) else none
  | _ => none
 | _ => none
def takeLH (h : Nat → Option Blk) : List ACell → Option (List C × Bool × Us)
 | [] => some ([], true, [])
 | c :: cs => match takeCH h c with
  | some (x, o, u) => match takeLH (updsH h u) cs with
   | some (xs, o', u') => some (x :: xs, o && o', u ++ u')
   | none => none
  | none => none
def takeEsH (sz : Nat) (h : Nat → Option Blk) : List AVal → Option (List (List C) × Bool × Us)
 | [] => some ([], true, [])
 | v :: vs => match v.cells? with
  | some (_, cs) => if cs.length = sz then
    match takeLH h cs with
    | some (e, o, u) => match takeEsH sz (updsH h u) vs with
     | some (es, o', u') => some (e :: es, o && o', u ++ u')
     | none => none
    | none => none
   else none
  | none => none
theorem upds_h (σ : St) (l : Us) : (σ.upds l).h = updsH σ.h l := by rw [upds_eq]
theorem takeC_h (σ : St) (c : ACell) : σ.takeC c = (takeCH σ.h c).map fun x => (x.1, x.2.1, σ.upds x.2.2) := by
 cases c with
 | sl n sz lo len =>
  simp only [St.takeC, takeCH]
  cases σ.h n with
  | none => rfl
  | some b => cases b with
   | box cs => rfl
   | row gr m rs xs => simp only; split <;> rfl
 | nil sz => simp only [St.takeC, takeCH]; split <;> rfl
 | _ => rfl
theorem takeL_h : ∀ (cs : List ACell) (σ : St), σ.takeL cs = (takeLH σ.h cs).map fun x => (x.1, x.2.1, σ.upds x.2.2)
 | [], σ => rfl
 | c :: cs, σ => by
  simp only [St.takeL, takeLH, takeC_h]
  cases takeCH σ.h c with
  | none => rfl
  | some x =>
   obtain ⟨x, o, u⟩ := x
   simp only [Option.map_some, takeL_h cs, upds_h]
   cases takeLH (updsH σ.h u) cs with
   | none => rfl
   | some y => obtain ⟨xs, o', u'⟩ := y; simp only [Option.map_some, upds_append]
theorem takeEs_h (sz : Nat) : ∀ (vs : List AVal) (σ : St), σ.takeEs sz vs = (takeEsH sz σ.h vs).map fun x => (x.1, x.2.1, σ.upds x.2.2)
 | [], σ => rfl
 | v :: vs, σ => by
  simp only [St.takeEs, takeEsH]
  cases v.cells? with
  | none => rfl
  | some x =>
   obtain ⟨b, cs⟩ := x
   simp only
   split
   ·rw [takeL_h]
    cases takeLH σ.h cs with
    | none => rfl
    | some y =>
     obtain ⟨e, o, u⟩ := y
     simp only [Option.map_some, takeEs_h sz vs, upds_h]
     cases takeEsH sz (updsH σ.h u) vs with
     | none => rfl
     | some y => obtain ⟨es, o', u'⟩ := y; simp only [Option.map_some, upds_append]
   ·rfl
theorem takeCH_wr {h : Nat → Option Blk} {c : ACell} {x : C} {o : Bool} {u : Us} (e : takeCH h c = some (x, o, u)) : ∀ q ∈ u, q.1 ∈ c.nm := by
 unfold takeCH at e
 split at e
 ·injection e with e; injection e with _ e; injection e with _ e; subst e; intro q hq; cases hq
 ·split at e
  ·injection e with e; injection e with _ e; injection e with _ e; subst e; intro q hq; cases hq
  ·cases e
 ·split at e
  ·split at e
   ·injection e with e; injection e with _ e; injection e with _ e; subst e; intro q hq; simp at hq; subst hq; simp [ACell.nm, ACell.nm0]
   ·cases e
  ·cases e
 ·cases e
theorem takeLH_wr : ∀ {cs : List ACell} {h : Nat → Option Blk} {xs : List C} {o : Bool} {u : Us}, takeLH h cs = some (xs, o, u) → ∀ q ∈ u, q.1 ∈ cs.flatMap ACell.nm
 | [], h, xs, o, u, e => by
  simp only [takeLH] at e
  injection e with e; injection e with _ e; injection e with _ e; subst e; intro q hq; cases hq
 | c :: cs, h, xs, o, u, e => by
  simp only [takeLH] at e
  split at e
  ·rename_i x o1 u1 e1
   split at e
   ·rename_i xs2 o2 u2 e2
    injection e with e; injection e with _ e; injection e with _ e; subst e
    intro q hq
    rw [List.flatMap_cons]
    rcases List.mem_append.1 hq with hq | hq
    ·exact List.mem_append.2 (.inl (takeCH_wr e1 q hq))
    ·exact List.mem_append.2 (.inr (takeLH_wr e2 q hq))
   ·cases e
  ·cases e
theorem cells_nms {v : AVal} {b : Bool} {cs : List ACell} (h : v.cells? = some (b, cs)) : cs.flatMap ACell.nm = v.nms := by
 cases v with
 | one c => cases c <;> simp [AVal.cells?] at h <;> (obtain ⟨_, rfl⟩ := h; simp [AVal.nms])
 | agg cs' => simp [AVal.cells?] at h; obtain ⟨_, rfl⟩ := h; rfl
 | tup xs => simp [AVal.cells?] at h
theorem takeEsH_wr {sz : Nat} : ∀ {vs : List AVal} {h : Nat → Option Blk} {xs : List (List C)} {o : Bool} {u : Us}, takeEsH sz h vs = some (xs, o, u) → ∀ q ∈ u, q.1 ∈ vs.flatMap AVal.nms
 | [], h, xs, o, u, e => by
  simp only [takeEsH] at e
  injection e with e; injection e with _ e; injection e with _ e; subst e; intro q hq; cases hq
 | v :: vs, h, xs, o, u, e => by
  simp only [takeEsH] at e
  split at e
  ·rename_i b cs hv
   split at e
   ·split at e
    ·rename_i x o1 u1 e1
     split at e
     ·rename_i xs2 o2 u2 e2
      injection e with e; injection e with _ e; injection e with _ e; subst e
      intro q hq
      rw [List.flatMap_cons]
      rcases List.mem_append.1 hq with hq | hq
      ·exact List.mem_append.2 (.inl (cells_nms hv ▸ takeLH_wr e1 q hq))
      ·exact List.mem_append.2 (.inr (takeEsH_wr e2 q hq))
     ·cases e
    ·cases e
   ·cases e
  ·cases e
theorem updsH_agree {h h' : Nat → Option Blk} {n : Nat} (hh : h' n = h n) (u : Us) : updsH h' u n = updsH h u n := by
 by_cases hu : ∃ p ∈ u, p.1 = n
 ·exact updsH_in hu
 ·rw [updsH_ne fun p hp e => hu ⟨p, hp, e⟩, updsH_ne fun p hp e => hu ⟨p, hp, e⟩, hh]
theorem takeCH_loc {h h' : Nat → Option Blk} {c : ACell} (hh : ∀ n ∈ c.nm, h' n = h n) : takeCH h' c = takeCH h c := by
 cases c with
 | sl n sz lo len => simp only [takeCH]; rw [hh n (by simp [ACell.nm, ACell.nm0])]
 | _ => rfl
theorem takeLH_loc : ∀ {cs : List ACell} {h h' : Nat → Option Blk}, (∀ n ∈ cs.flatMap ACell.nm, h' n = h n) → takeLH h' cs = takeLH h cs
 | [], h, h', _ => rfl
 | c :: cs, h, h', hh => by
  simp only [takeLH]
  rw [takeCH_loc fun n hn => hh n (by rw [List.flatMap_cons]; exact List.mem_append.2 (.inl hn))]
  cases takeCH h c with
  | none => rfl
  | some x =>
   obtain ⟨x, o, u⟩ := x
   simp only
   rw [takeLH_loc (cs := cs) (h := updsH h u) (h' := updsH h' u) fun n hn => updsH_agree (hh n (by rw [List.flatMap_cons]; exact List.mem_append.2 (.inr hn))) u]
theorem takeEsH_loc {sz : Nat} : ∀ {vs : List AVal} {h h' : Nat → Option Blk}, (∀ n ∈ vs.flatMap AVal.nms, h' n = h n) → takeEsH sz h' vs = takeEsH sz h vs
 | [], h, h', _ => rfl
 | v :: vs, h, h', hh => by
  simp only [takeEsH]
  cases hv : v.cells? with
  | none => rfl
  | some x =>
   obtain ⟨b, cs⟩ := x
   simp only
   rw [takeLH_loc (cs := cs) fun n hn => hh n (by rw [List.flatMap_cons]; exact List.mem_append.2 (.inl (cells_nms hv ▸ hn)))]
   cases takeLH h cs with
   | none => rfl
   | some y =>
    obtain ⟨e, o, u⟩ := y
    simp only
    rw [takeEsH_loc (vs := vs) (h := updsH h u) (h' := updsH h' u) fun n hn => updsH_agree (hh n (by rw [List.flatMap_cons]; exact List.mem_append.2 (.inr hn))) u]
def storeRowH (h : Nat → Option Blk) (n : Nat) (gr : Bool) (m : Mode) (rs : Nat) (xs : List (List C)) (k off : Nat) (e : List C) (vs : List ACell) : Option Us :=
 match sub e off vs.length with
 | none => none
 | some old => match takeLH h vs with
  | none => none
  | some (cs, o, u) =>
   if m = .live then
    if scalL cs = true ∧ scalL old = true ∧ (updsH h u n).isSome = true then some (u ++ [(n, some (.row gr m rs (xs.set k (splice e off cs))))]) else none
   else if (updsH h u n).isSome = true then some (u ++ [(n, some (.row gr (if o = true then m else .bor) rs (xs.set k (splice e off cs))))])
   else none
theorem storeRow_h (σ : St) (n : Nat) (gr : Bool) (m : Mode) (rs : Nat) (xs : List (List C)) (k off : Nat) (e : List C) (vs : List ACell) :
  storeRow σ n gr m rs xs k off e vs = (storeRowH σ.h n gr m rs xs k off e vs).map fun u => σ.upds u := by
 unfold storeRow storeRowH
 cases sub e off vs.length with
 | none => rfl
 | some old =>
  simp only [takeL_h]
  cases takeLH σ.h vs with
  | none => rfl
  | some x =>
   obtain ⟨cs, o, u⟩ := x
   simp only [Option.map_some, upds_h]
   repeat' split
   all_goals first | rfl | (simp only [Option.map_some, upds_append]; rfl)
def appLeftH (h : Nat → Option Blk) (sz : Nat) : AVal → Option (List (List C) × Mode × List (Nat × Option Blk))
 | .one (.nil _) => some ([], .froz, [])
 | .one (.sl a s 0 len) => match h a with
  | some (.row true m rs xs) => if rs = sz ∧ s = sz ∧ len = xs.length then some (xs, m, [(a, none)]) else none
  | _ => none
 | _ => none
def appRightH (fl : Bool) (h : Nat → Option Blk) (sz : Nat) (m : Mode) : AVal → Option (List (List C) × Mode × List (Nat × Option Blk))
  | .one (.nil _) => some ([], m, [])
  | .one (.c (.list s ys)) => if s = sz then (if (fl && scalLL ys) = true then some (ys, m, []) else if m = .live then none else some (ys, .bor, [])) else none
  | .one (.sl b s lo len) => match h b with
    | some (.row _ m' rs ys) => if rs = sz ∧ s = sz ∧ lo + len ≤ ys.length then
        (if (fl && scalLL ((ys.drop lo).take len)) = true then some ((ys.drop lo).take len, m, [])
         else if lo = 0 ∧ len = ys.length then (if m = m' then some (ys, m, [(b, none)]) else if m = .live ∨ m' = .live then none else some (ys, .bor, [(b, none)])) else none)
      else none
    | _ => none
  | _ => none

theorem appLeft_h (σ : St) (sz : Nat) (v : AVal) : appLeft σ sz v = (appLeftH σ.h sz v).map fun x => (x.1, x.2.1, σ.upds x.2.2) := by
 cases v with
 | one v => cases v with
  | sl a s lo len => cases lo with
   | zero =>
    simp only [appLeft, appLeftH]
    cases σ.h a with
    | none => rfl
    | some b => cases b with
     | box cs => rfl
     | row gr m rs xs => cases gr with
      | true => simp only; split <;> rfl
      | false => rfl
   | succ lo => rfl
  | _ => rfl
 | _ => rfl
theorem appRight_h (fl : Bool) (σ : St) (sz : Nat) (m : Mode) (v : AVal) : appRight fl σ sz m v = (appRightH fl σ.h sz m v).map fun x => (x.1, x.2.1, σ.upds x.2.2) := by
 cases v with
 | one v => cases v with
  | sl b s lo len =>
   simp only [appRight, appRightH]
   cases σ.h b with
   | none => rfl
   | some b => cases b with
    | box cs => rfl
    | row gr m rs xs =>
     simp only
     repeat' split
     all_goals rfl
  | c x => cases x with
   | list s ys =>
    simp only [appRight, appRightH]
    repeat' split
    all_goals rfl
   | _ => rfl
  | _ => rfl
 | _ => rfl
def bArgsH (h : Nat → Option Blk) : List AVal → Option (List Dv × List Nat × Us)
 | [] => some ([], [], [])
 | v :: vs => match bPtr h v with
  | some (n, xs) => match bArgsH h vs with
   | some (ds, ns, u) => some ((.ptr, xs) :: ds, n :: ns, u)
   | none => none
  | none => match v.cells? with
   | some (ag, cs) => match takeLH h cs with
    | some (xs, _, u) => match bArgsH (updsH h u) vs with
     | some (ds, ns, u') => some ((if ag = true then .agg else .one, xs) :: ds, ns, u ++ u')
     | none => none
    | none => none
   | none => none
theorem bArgs_h : ∀ (vs : List AVal) (σ : St), σ.bArgs vs = (bArgsH σ.h vs).map fun x => (x.1, x.2.1, σ.upds x.2.2)
 | [], σ => rfl
 | v :: vs, σ => by
  simp only [St.bArgs, bArgsH]
  cases bPtr σ.h v with
  | some x =>
   obtain ⟨n, xs⟩ := x
   simp only [bArgs_h vs σ]
   cases bArgsH σ.h vs <;> rfl
  | none =>
   simp only
   cases v.cells? with
   | none => rfl
   | some x =>
    obtain ⟨ag, cs⟩ := x
    simp only
    rw [takeL_h]
    cases takeLH σ.h cs with
    | none => rfl
    | some y =>
     obtain ⟨e, o, u⟩ := y
     simp only [Option.map_some, bArgs_h vs, upds_h]
     cases bArgsH (updsH σ.h u) vs with
     | none => rfl
     | some y => obtain ⟨ds, ns, u'⟩ := y; simp only [Option.map_some, upds_append]
theorem bPtr_nm {h : Nat → Option Blk} {v : AVal} {n : Nat} {xs : List C} (e : bPtr h v = some (n, xs)) : n ∈ v.nms := by
 obtain ⟨sz, cs, rfl, _⟩ := bPtr_some e
 simp [AVal.nms, ACell.nm, ACell.nm0]
theorem bArgsH_wr : ∀ {vs : List AVal} {h : Nat → Option Blk} {ds : List Dv} {ns : List Nat} {u : Us}, bArgsH h vs = some (ds, ns, u) → (∀ q ∈ u, q.1 ∈ vs.flatMap AVal.nms) ∧ ∀ n ∈ ns, n ∈ vs.flatMap AVal.nms
 | [], h, ds, ns, u, e => by
  simp only [bArgsH] at e
  injection e with e; injection e with _ e; injection e with e1 e; subst e e1; exact ⟨fun q hq => (by cases hq), fun q hq => (by cases hq)⟩
 | v :: vs, h, ds, ns, u, e => by
  simp only [bArgsH] at e
  split at e
  ·rename_i n xs hp
   split at e
   ·rename_i ds' ns' u' e2
    injection e with e; injection e with _ e; injection e with e1 e; subst e e1
    obtain ⟨i1, i2⟩ := bArgsH_wr e2
    rw [List.flatMap_cons]
    refine ⟨fun q hq => List.mem_append.2 (.inr (i1 q hq)), fun m hm => ?_⟩
    rcases List.mem_cons.1 hm with rfl | hm
    ·exact List.mem_append.2 (.inl (bPtr_nm hp))
    ·exact List.mem_append.2 (.inr (i2 m hm))
   ·cases e
  ·split at e
   ·rename_i b cs hv
    split at e
    ·rename_i x o1 u1 e1
     split at e
     ·rename_i ds2 ns2 u2 e2
      injection e with e; injection e with _ e; injection e with e3 e; subst e e3
      obtain ⟨i1, i2⟩ := bArgsH_wr e2
      rw [List.flatMap_cons]
      refine ⟨fun q hq => ?_, fun m hm => List.mem_append.2 (.inr (i2 m hm))⟩
      rcases List.mem_append.1 hq with hq | hq
      ·exact List.mem_append.2 (.inl (cells_nms hv ▸ takeLH_wr e1 q hq))
      ·exact List.mem_append.2 (.inr (i1 q hq))
     ·cases e
    ·cases e
   ·cases e
theorem bPtr_loc {h h' : Nat → Option Blk} {v : AVal} (hh : ∀ n ∈ v.nms, h' n = h n) : bPtr h' v = bPtr h v := by
 cases v with
 | one c => cases c with
  | ptr n k sz off => simp only [bPtr]; rw [hh n (by simp [AVal.nms, ACell.nm, ACell.nm0])]
  | _ => rfl
 | _ => rfl
theorem bArgsH_loc : ∀ {vs : List AVal} {h h' : Nat → Option Blk}, (∀ n ∈ vs.flatMap AVal.nms, h' n = h n) → bArgsH h' vs = bArgsH h vs
 | [], h, h', _ => rfl
 | v :: vs, h, h', hh => by
  have h1 : ∀ n ∈ v.nms, h' n = h n := fun n hn => hh n (by rw [List.flatMap_cons]; exact List.mem_append.2 (.inl hn))
  have h2 : ∀ n ∈ vs.flatMap AVal.nms, h' n = h n := fun n hn => hh n (by rw [List.flatMap_cons]; exact List.mem_append.2 (.inr hn))
  simp only [bArgsH]
  rw [bPtr_loc h1]
  cases bPtr h v with
  | some x =>
   obtain ⟨n, xs⟩ := x
   simp only
   rw [bArgsH_loc h2]
  | none =>
   simp only
   cases hv : v.cells? with
   | none => rfl
   | some x =>
    obtain ⟨b, cs⟩ := x
    simp only
    rw [takeLH_loc (cs := cs) fun n hn => h1 n (cells_nms hv ▸ hn)]
    cases takeLH h cs with
    | none => rfl
    | some y =>
     obtain ⟨e, o, u⟩ := y
     simp only
     rw [bArgsH_loc (vs := vs) (h := updsH h u) (h' := updsH h' u) fun n hn => updsH_agree (h2 n hn) u]
def putBH (h : Nat → Option Blk) : List Nat → List C → Option Us
 | [], [] => some []
 | [n], out => match h n with
  | some (.box cs) => if cs.length = out.length then some [(n, some (.box (out.map .c)))] else none
  | _ => none
 | _, _ => none
theorem putB_h (σ : St) (ns : List Nat) (out : List C) : σ.putB ns out = (putBH σ.h ns out).map σ.upds := by
 match ns, out with
 | [], [] => rfl
 | [], _ :: _ => rfl
 | [n], out =>
  simp only [St.putB, putBH]
  cases σ.h n with
  | none => rfl
  | some b =>
   cases b with
   | box cs => simp only; split <;> rfl
   | row gr m rs xs => rfl
 | _ :: _ :: _, out => rfl
theorem putBH_wr {h : Nat → Option Blk} {ns : List Nat} {out : List C} {u : Us} (e : putBH h ns out = some u) : ∀ q ∈ u, q.1 ∈ ns := by
 unfold putBH at e
 split at e
 ·injection e with e; subst e; intro q hq; cases hq
 ·split at e
  ·split at e
   ·injection e with e; subst e; intro q hq; simp at hq; subst hq; simp
   ·cases e
  ·cases e
 ·cases e
theorem putBH_loc {h h' : Nat → Option Blk} {ns : List Nat} {out : List C} (hh : ∀ n ∈ ns, h' n = h n) : putBH h' ns out = putBH h ns out := by
 match ns, out with
 | [], [] => rfl
 | [], _ :: _ => rfl
 | [n], out => simp only [putBH]; rw [hh n (by simp)]
 | _ :: _ :: _, out => rfl
def bResH (d : Option Nat) : List Dv → Option (AVal × List (Nat × Blk))
 | [(.ptr, cs)] => match d with
  | some q => some (.one (.ptr q 0 0 0), [(q, .box (cs.map .c))])
  | none => none
 | rs => match datsV rs with
  | some ls => some (res1 ls, [])
  | none => none
theorem bRes_h (σ : St) (d : Option Nat) (rs : List Dv) : bRes σ d rs = (bResH d rs).bind fun x => (σ.insAll x.2).map (·.put d x.1) := by
 unfold bRes
 split
 ·cases d with
  | none => rfl
  | some q =>
   simp only [bResH, Option.bind_some, St.insAll]
   cases σ.ins q _ <;> rfl
 ·rename_i hne
  have e : bResH d rs = match datsV rs with
    | some ls => some (res1 ls, [])
    | none => none := by
   unfold bResH
   split
   ·exact absurd rfl (hne _)
   ·rfl
  rw [e]
  cases datsV rs with
  | none => rfl
  | some ls => rfl
abbrev Patch := AVal × List (Nat × Option Blk) × List (Nat × Blk)
def act (T : Tab) (d : Option Nat) (op : MOp) (ev : MO → AVal) (h : Nat → Option Blk) : Option Patch :=
 match op with
 | .store sz x v => match ev x, (ev v).cells? with
  | .one (.ptr n k rsz off), some (_, vs) => if vs.length = sz then
    match h n with
    | some (.box cs) => if k = 0 ∧ off + sz ≤ cs.length then some (.one .junk, [(n, some (.box (splice cs off vs)))], []) else none
    | some (.row gr m rs xs) => if rsz = rs then
      match xs[k]? with
      | some e => match storeRowH h n gr m rs xs k off e vs with
       | some u => some (.one .junk, u, [])
       | none => none
      | none => none
     else none
    | none => none
   else none
  | .one (.nptr n k rsz off s i), some (_, vs) => if vs.length = sz then
    match h n with
    | some (.row gr .live rs xs) => if rsz = rs then
      match setNest xs k off s i vs with
      | some xs' => some (.one .junk, [(n, some (.row gr .live rs xs'))], [])
      | none => none
     else none
    | _ => none
   else none
  | _, _ => none
 | .bslice sz ps => match d, takeEsH sz h (ps.map ev) with
  | some n, some (es, o, u) => some (.one (.sl n sz 0 es.length), u, [(n, .row true (if o = true then .froz else .bor) sz es)])
  | _, _ => none
 | .append fl sz by_ x y => match d with
  | none => none
  | some n => match appLeftH h sz (ev x) with
   | none => none
   | some (xs, m, u1) => match appRightH fl (updsH h u1) sz m (ev y) with
    | none => none
    | some (ys, m2, u2) => if (xs.length + ys.length) * by_ ≤ maxBytes then some (.one (.sl n sz 0 (xs.length + ys.length)), u1 ++ u2, [(n, .row true m2 sz (xs ++ ys))]) else none
 | .callb f xs => match bArgsH h (xs.map ev), Tab.findV T.vs f with
  | some (ds, ns, u), some M => match M ds with
   | some (rs, out) => match putBH (updsH h u) ns out, bResH d rs with
    | some u', some (v, is) => some (v, u ++ u', is)
    | _, _ => none
   | none => none
  | _, _ => none
 | .copy sz x y => match ev x, ev y with
  | .one (.sl n s lo len), .one c => match h n, viewC h c with
   | some (.row gr m rs xs), some (.list s' ys) => if sz = 1 ∧ s = 1 ∧ rs = 1 ∧ s' = 1 ∧ m ≠ .bor ∧ scalLL xs = true ∧ scalLL ys = true ∧ lo + len ≤ xs.length then
     some (.one (.c (.int .i64 (Nat.min ys.length len : Nat))), [(n, some (.row gr m 1 (splice xs lo (ys.take len))))], []) else none
   | _, _ => none
  | _, _ => none
 | .clr z x => match ev x with
  | .one (.sl n s lo len) => match h n with
   | some (.row gr m rs xs) => if s = 1 ∧ rs = 1 ∧ z.scal = true ∧ m ≠ .bor ∧ scalLL xs = true ∧ lo + len ≤ xs.length then
     some (.tup [], [(n, some (.row gr m 1 (splice xs lo (List.replicate len [z]))))], []) else none
   | _ => none
  | _ => none
 | op => (rd T d op ev h).map fun x => (x.1, [], x.2)
def finA (d : Option Nat) (σ : St) (p : Patch) : Option St := ((σ.upds p.2.1).insAll p.2.2).map (·.put d p.1)
theorem exec_act {T : Tab} {d : Option Nat} {op : MOp} {σ : St} {ws : List Nat} (hw : op.wrN σ.ev σ.h = some ws) (hd : ∀ sz x v, op = .store sz x v → d = none) :
  exec T d op σ = (act T d op σ.ev σ.h).bind (finA d σ) := by
 by_cases hc : op.cls ≤ 1
 ·rw [exec_rd T d op σ hc]
  have : act T d op σ.ev σ.h = (rd T d op σ.ev σ.h).map fun x => (x.1, [], x.2) := by
   cases op <;> first | rfl | (simp [MOp.cls] at hc)
  rw [this]
  cases rd T d op σ.ev σ.h with
  | none => rfl
  | some x => rfl
 ·cases op <;> simp [MOp.cls] at hc <;> simp only [MOp.wrN] at hw
  case callm => cases hw
  case copy sz x y =>
   simp only [exec, act]
   cases σ.ev x with
   | one p => cases p with
    | sl n s lo len =>
     cases σ.ev y with
     | one c =>
      simp only
      cases σ.h n with
      | none => rfl
      | some b => cases b with
       | box cs => rfl
       | row gr m rs xs =>
        cases viewC σ.h c with
        | none => rfl
        | some q => cases q with
         | list s' ys =>
          simp only
          split <;> rfl
         | _ => rfl
     | _ => rfl
    | _ => rfl
   | _ => rfl
  case clr z x =>
   simp only [exec, act]
   cases σ.ev x with
   | one p => cases p with
    | sl n s lo len =>
     simp only
     cases σ.h n with
     | none => rfl
     | some b => cases b with
      | box cs => rfl
      | row gr m rs xs =>
       simp only
       split <;> rfl
    | _ => rfl
   | _ => rfl
  case tail => cases hw
  case loadd => cases hw
  case callb f xs =>
   simp only [exec, act, doCallB, bArgs_h]
   cases bArgsH σ.h (xs.map σ.ev) with
   | none => rfl
   | some x =>
    obtain ⟨ds, ns, u⟩ := x
    simp only [Option.map_some]
    cases Tab.findV T.vs f with
    | none => rfl
    | some M =>
     simp only
     cases M ds with
     | none => rfl
     | some z =>
      obtain ⟨rs, out⟩ := z
      simp only [putB_h, upds_h]
      cases putBH (updsH σ.h u) ns out with
      | none => rfl
      | some u' =>
       simp only [Option.map_some, bRes_h]
       cases bResH d rs with
       | none => rfl
       | some z =>
        obtain ⟨v, is⟩ := z
        simp only [Option.bind_some, finA, upds_append]
  case bslice sz ps =>
   simp only [exec, act]
   rw [takeEs_h]
   cases d with
   | none => rfl
   | some n =>
    cases takeEsH sz σ.h (ps.map σ.ev) with
    | none => rfl
    | some x =>
     obtain ⟨es, o, u⟩ := x
     simp only [Option.map_some, Option.bind_some, finA, St.insAll]
     cases (σ.upds u).ins n (.row true (if o = true then .froz else .bor) sz es) <;> rfl
  case append fl sz by_ x y =>
   simp only [exec, act, appLeft_h]
   cases d with
   | none => rfl
   | some n =>
    simp only
    cases appLeftH σ.h sz (σ.ev x) with
    | none => rfl
    | some z =>
     obtain ⟨xs, m, u1⟩ := z
     simp only [Option.map_some, appRight_h]
     have hh : (σ.upds u1).h = updsH σ.h u1 := by rw [upds_eq]
     rw [hh]
     cases appRightH fl (updsH σ.h u1) sz m (σ.ev y) with
     | none => rfl
     | some z =>
      obtain ⟨ys, m2, u2⟩ := z
      simp only [Option.map_some]
      split
      ·simp only [Option.bind_some, finA, upds_append, St.insAll]
       cases ((σ.upds u1).upds u2).ins n (.row true m2 sz (xs ++ ys)) <;> rfl
      ·rfl
  case store sz x v =>
   have hd := hd sz x v rfl
   subst hd
   simp only [exec, act]
   split at hw
   ·rename_i n k rsz off hx
    simp only [hx]
    cases hv : (σ.ev v).cells? with
    | none => rfl
    | some y =>
     obtain ⟨ag, vs⟩ := y
     simp only
     split
     ·split at hw
      ·rename_i cs hn
       simp only [hn]
       split
       ·rfl
       ·rfl
      ·rename_i gr m rs xs hn
       simp only [hn]
       split
       ·cases xs[k]? with
        | none => rfl
        | some e =>
         simp only
         rw [storeRow_h]
         cases storeRowH σ.h n gr m rs xs k off e vs with
         | none => rfl
         | some b => rfl
       ·rfl
      ·cases hw
     ·rfl
   ·rename_i n k rsz off s i hx
    simp only [hx]
    cases hv : (σ.ev v).cells? with
    | none => rfl
    | some y =>
     obtain ⟨ag, vs⟩ := y
     simp only
     split
     ·cases σ.h n with
      | none => rfl
      | some b => cases b with
       | box cs => rfl
       | row gr m rs xs => cases m with
        | live =>
         simp only
         split
         ·cases setNest xs k off s i vs <;> rfl
         ·rfl
        | _ => rfl
     ·rfl
   ·cases hw
theorem act_wr {T : Tab} {d : Option Nat} {op : MOp} {ev : MO → AVal} {h : Nat → Option Blk} {ws : List Nat} {p : Patch} (hw : op.wrN ev h = some ws) (ha : act T d op ev h = some p) : ∀ q ∈ p.2.1, q.1 ∈ ws := by
 by_cases hc : op.cls ≤ 1
 ·have : act T d op ev h = (rd T d op ev h).map fun x => (x.1, [], x.2) := by
   cases op <;> first | rfl | (simp [MOp.cls] at hc)
  rw [this, Option.map_eq_some_iff] at ha
  obtain ⟨x, _, rfl⟩ := ha
  intro q hq
  cases hq
 ·cases op <;> simp [MOp.cls] at hc <;> simp only [MOp.wrN] at hw
  case callm => cases hw
  case copy sz x y =>
   simp only [act] at ha
   split at ha
   ·rename_i n s lo len c hx hy
    simp only [hx] at hw
    injection hw with hw
    subst hw
    repeat' split at ha
    all_goals first | cases ha | skip
    intro q hq
    simp at hq
    subst hq
    simp
   ·cases ha
  case clr z x =>
   simp only [act] at ha
   split at ha
   ·rename_i n s lo len hx
    simp only [hx] at hw
    injection hw with hw
    subst hw
    repeat' split at ha
    all_goals first | cases ha | skip
    intro q hq
    simp at hq
    subst hq
    simp
   ·cases ha
  case tail => cases hw
  case loadd => cases hw
  case callb f xs =>
   injection hw with hw
   subst hw
   simp only [act] at ha
   split at ha
   ·rename_i ds ns u M e1 e2
    split at ha
    ·rename_i rs out e3
     split at ha
     ·rename_i u' v is e4 e5
      injection ha with ha; subst ha
      obtain ⟨i1, i2⟩ := bArgsH_wr e1
      intro q hq
      rw [List.flatMap_map] at i1 i2
      rcases List.mem_append.1 hq with hq | hq
      ·exact i1 q hq
      ·exact i2 _ (putBH_wr e4 q hq)
     ·cases ha
    ·cases ha
   ·cases ha
  case bslice sz ps =>
   injection hw with hw
   subst hw
   simp only [act] at ha
   split at ha
   ·rename_i n es o u e
    injection ha with ha; subst ha
    intro q hq
    have := takeEsH_wr e q hq
    rw [List.flatMap_map] at this
    exact this
   ·cases ha
  case append fl sz by_ x y =>
   injection hw with hw
   subst hw
   simp only [act] at ha
   split at ha
   ·cases ha
   ·split at ha
    ·cases ha
    ·rename_i xs m u1 e1
     split at ha
     ·cases ha
     ·rename_i ys m2 u2 e2
      split at ha
      ·injection ha with ha
       subst ha
       intro q hq
       rcases List.mem_append.1 hq with hq1 | hq1
       ·clear hq
        refine List.mem_append.2 (.inl ?_)
        unfold appLeftH at e1
        split at e1
        ·injection e1 with e1; injection e1 with _ e1; injection e1 with _ e1; subst e1; cases hq1
        ·rename_i a s len hv
         split at e1
         ·split at e1
          ·injection e1 with e1; injection e1 with _ e1; injection e1 with _ e1; subst e1
           simp at hq1; subst hq1; simp [AVal.nms, ACell.nm, ACell.nm0, hv]
          ·cases e1
         ·cases e1
        ·cases e1
       ·clear hq
        refine List.mem_append.2 (.inr ?_)
        have hbb : ∀ (b : Nat), u2 = [] ∨ u2 = [(b, none)] → b ∈ (ev y).nms → q.1 ∈ (ev y).nms := by
         intro b hb hm
         rcases hb with hb | hb
         ·subst hb; cases hq1
         ·subst hb; simp at hq1; subst hq1; exact hm
        unfold appRightH at e2
        split at e2
        ·injection e2 with e2; injection e2 with _ e2; injection e2 with _ e2; subst e2; cases hq1
        ·repeat' split at e2
         all_goals first | cases e2 | skip
         all_goals (cases hq1)
        ·rename_i b s lo len hv
         have hm : b ∈ (ev y).nms := by simp [hv, AVal.nms, ACell.nm, ACell.nm0]
         refine hbb b ?_ hm
         repeat' split at e2
         all_goals first | cases e2 | skip
         all_goals first | exact .inl rfl | exact .inr rfl
        ·cases e2
      ·cases ha
  case store sz x v =>
   simp only [act] at ha
   split at ha
   ·rename_i n k rsz off b vs hx hv
    simp only [hx] at hw
    split at ha
    ·split at ha
     ·rename_i cs hn
      simp only [hn] at hw
      split at ha
      ·injection ha with ha; subst ha; injection hw with hw; subst hw
       intro q hq; simp at hq; subst hq; simp
      ·cases ha
     ·rename_i gr m rs xs hn
      simp only [hn] at hw
      injection hw with hw
      subst hw
      split at ha
      ·split at ha
       ·split at ha
        ·rename_i u e0
         injection ha with ha; subst ha
         intro q hq
         have hq : q ∈ u := hq
         have two : ∀ (u1 : Us) (bb : Option Blk), u = u1 ++ [(n, bb)] → (∀ q ∈ u1, q.1 ∈ vs.flatMap ACell.nm) → q.1 ∈ n :: (ev v).nms := by
          intro u1 bb he hu1
          rw [he] at hq
          rcases List.mem_append.1 hq with hq | hq
          ·exact List.mem_cons_of_mem _ (cells_nms hv ▸ hu1 q hq)
          ·simp at hq; subst hq; simp
         unfold storeRowH at e0
         split at e0
         ·cases e0
         ·split at e0
          ·cases e0
          ·rename_i cs o u1 e1
           have hu1 := takeLH_wr e1
           repeat' split at e0
           all_goals first | (injection e0 with e0; exact two _ _ e0.symm hu1) | cases e0
        ·cases ha
       ·cases ha
      ·cases ha
     ·cases ha
    ·cases ha
   ·rename_i n k rsz off s i b vs hx hv
    simp only [hx] at hw
    injection hw with hw
    subst hw
    repeat' split at ha
    all_goals first | cases ha | skip
    intro q hq
    simp at hq
    subst hq
    simp
   ·cases ha
section
variable {T : Tab} {d : Option Nat} {op : MOp} {ev ev' : MO → AVal} {h h' : Nat → Option Blk}
theorem nmA_ev (hag : ∀ x ∈ op.args, ev' x = ev x) : op.nmA ev' = op.nmA ev := by
 unfold MOp.nmA
 generalize op.args = l at hag
 induction l with
 | nil => rfl
 | cons x l ih => simp only [List.flatMap_cons]; rw [hag x (by simp), ih fun y hy => hag y (List.mem_cons_of_mem _ hy)]
theorem boxNms_h : ∀ {l : List Nat} (_ : ∀ n ∈ l, h' n = h n), boxNms h' l = boxNms h l
 | [], _ => rfl
 | n :: l, hh => by
  have := boxNms_h (l := l) fun m hm => hh m (List.mem_cons_of_mem _ hm)
  simp only [boxNms, List.flatMap_cons] at this ⊢
  rw [hh n (by simp), this]
theorem rdN_loc (hag : ∀ x ∈ op.args, ev' x = ev x) (hh : ∀ n ∈ op.nmA ev, h' n = h n) : op.rdN ev' h' = op.rdN ev h := by
 unfold MOp.rdN
 rw [nmA_ev hag, boxNms_h hh]
theorem wrN_loc (hag : ∀ x ∈ op.args, ev' x = ev x) (hh : ∀ n ∈ op.nmA ev, h' n = h n) : op.wrN ev' h' = op.wrN ev h := by
 cases op <;> first | rfl | skip
 case store sz x v =>
  have h1 := hag x (by simp [MOp.args])
  have h2 := hag v (by simp [MOp.args])
  simp only [MOp.wrN, h1, h2]
  cases hv : ev x with
  | one p => cases p with
   | ptr n k rsz off => simp only; rw [hh n (mem_nmA.2 ⟨x, by simp [MOp.args], by rw [hv]; exact rfl⟩)]
   | _ => rfl
  | _ => rfl
 case copy sz x y =>
  simp only [MOp.wrN, hag x (by simp [MOp.args])]
 case clr z x =>
  simp only [MOp.wrN, hag x (by simp [MOp.args])]
 case callb f xs =>
  have := nmA_ev (op := .callb f xs) hag
  simp only [MOp.nmA, MOp.args] at this
  simp only [MOp.wrN, this]
 case bslice sz ps =>
  have := nmA_ev (op := .bslice sz ps) hag
  simp only [MOp.nmA, MOp.args] at this
  simp only [MOp.wrN, this]
 case append fl sz by_ x y =>
  simp only [MOp.wrN, hag x (by simp [MOp.args]), hag y (by simp [MOp.args])]
theorem act_loc (hag : ∀ x ∈ op.args, ev' x = ev x) (hh : ∀ n ∈ op.rdN ev h, h' n = h n) : act T d op ev' h' = act T d op ev h := by
 have hh1 : ∀ n ∈ op.nmA ev, h' n = h n := fun n hn => hh n (nmA_rdN hn)
 have hn : ∀ a ∈ op.args, ∀ n, (ev a).ref n → h' n = h n := fun a ha n hr => hh1 n (mem_nmA.2 ⟨a, ha, hr⟩)
 have gen : rd T d op ev' h' = rd T d op ev h := by
  rw [rd_ev T d op _ hag]
  refine rd_h0 (u := fun n => h' n = h n) (vv := fun n => n ∈ op.nmA ev) T d op ev (fun n hn => hn) (fun hc m cs c n hm hb hcs hr => ?_) (fun x hx m hm => hn x hx m hm) (fun x hx m hm => mem_nmA.2 ⟨x, hx, hm⟩)
  refine hh n ?_
  unfold MOp.rdN
  rw [hc]
  refine List.mem_append.2 (.inr ?_)
  unfold boxNms
  rw [List.mem_flatMap]
  exact ⟨m, hm, by rw [hb]; exact List.mem_flatMap.2 ⟨c, hcs, ACell.nm_ref.2 hr⟩⟩
 cases op <;> first | (simp only [act]; rw [gen]; done) | skip
 case store sz x v =>
  have h1 := hag x (by simp [MOp.args])
  have h2 := hag v (by simp [MOp.args])
  simp only [act, h1, h2]
  have h3 := hn x (by simp [MOp.args])
  cases hv : ev x with
  | one p => cases p with
   | ptr n k rsz off =>
    rw [hv] at h3
    have h3 := h3 n rfl
    have h5 := hn v (by simp [MOp.args])
    cases hc : (ev v).cells? with
    | none => rfl
    | some y =>
     obtain ⟨b, vs⟩ := y
     have h6 : ∀ gr m rs xs e, storeRowH h' n gr m rs xs k off e vs = storeRowH h n gr m rs xs k off e vs := by
      intro gr m rs xs e
      have h7 : takeLH h' vs = takeLH h vs := takeLH_loc fun q hq => h5 q (AVal.nms_ref.1 (cells_nms hc ▸ hq))
      unfold storeRowH
      rw [h7]
      cases takeLH h vs with
      | none => rfl
      | some y =>
       obtain ⟨cs, o, u⟩ := y
       simp only [updsH_agree h3 u]
     simp only [h3, h6]
   | nptr n k rsz off s i =>
    rw [hv] at h3
    have h3 := h3 n rfl
    cases hc : (ev v).cells? with
    | none => rfl
    | some y =>
     simp only [h3]
   | _ => cases (ev v).cells? <;> rfl
  | _ => cases (ev v).cells? <;> rfl
 case copy sz x y =>
  have h1 := hag x (by simp [MOp.args])
  have h2 := hag y (by simp [MOp.args])
  have h3 := hn x (by simp [MOp.args])
  have h4 := hn y (by simp [MOp.args])
  simp only [act, h1, h2]
  cases hv : ev x with
  | one p => cases p with
   | sl n s lo len =>
    rw [hv] at h3
    have h3 := h3 n rfl
    cases hc : ev y with
    | one c =>
     rw [hc] at h4
     have h5 : viewC h' c = viewC h c := viewC_h (u := fun n => h' n = h n) (fun n hn => hn) fun m hm => h4 m (ACell.ref_of0 hm)
     simp only [h3, h5]
    | _ => rfl
   | _ => rfl
  | _ => rfl
 case clr z x =>
  have h1 := hag x (by simp [MOp.args])
  have h3 := hn x (by simp [MOp.args])
  simp only [act, h1]
  cases hv : ev x with
  | one p => cases p with
   | sl n s lo len =>
    rw [hv] at h3
    have h3 := h3 n rfl
    simp only [h3]
   | _ => rfl
  | _ => rfl
 case callb f xs =>
  have hl : xs.map ev' = xs.map ev := List.map_congr_left hag
  have h2 : bArgsH h' (xs.map ev) = bArgsH h (xs.map ev) := bArgsH_loc fun n hn' => by
   rw [List.flatMap_map] at hn'
   exact hh1 n hn'
  simp only [act, hl, h2]
  cases e1 : bArgsH h (xs.map ev) with
  | none => rfl
  | some x =>
   obtain ⟨ds, ns, u⟩ := x
   try simp only
   cases Tab.findV T.vs f with
   | none => rfl
   | some M =>
    try simp only
    cases M ds with
    | none => rfl
    | some z =>
     obtain ⟨rs, out⟩ := z
     try simp only
     rw [putBH_loc (h := updsH h u) (h' := updsH h' u) fun n hn' => updsH_agree (hh1 n (by
      have := (bArgsH_wr e1).2 n hn'
      rw [List.flatMap_map] at this
      exact this)) u]
 case bslice sz ps =>
  have hl : ps.map ev' = ps.map ev := List.map_congr_left hag
  have h2 : takeEsH sz h' (ps.map ev) = takeEsH sz h (ps.map ev) := takeEsH_loc fun n hn' => by
   rw [List.flatMap_map] at hn'
   exact hh1 n hn'
  simp only [act, hl, h2]
 case append fl sz by_ x y =>
  have h1 := hag x (by simp [MOp.args])
  have h2 := hag y (by simp [MOp.args])
  have h3 := hn x (by simp [MOp.args])
  have h4 := hn y (by simp [MOp.args])
  have e1 : appLeftH h' sz (ev x) = appLeftH h sz (ev x) := by
   cases hv : ev x with
   | one p => cases p with
    | sl a s lo len =>
     rw [hv] at h3
     cases lo with
     | zero => simp only [appLeftH, h3 a rfl]
     | succ lo => rfl
    | _ => rfl
   | _ => rfl
  have e2 : ∀ (us : List (Nat × Option Blk)) (m : Mode), appRightH fl (updsH h' us) sz m (ev y) = appRightH fl (updsH h us) sz m (ev y) := by
   intro us m
   cases hv : ev y with
   | one p => cases p with
    | sl b s lo len =>
     rw [hv] at h4
     have hb : updsH h' us b = updsH h us b := by
      by_cases hu : ∃ p ∈ us, p.1 = b
      ·exact updsH_in hu
      ·rw [updsH_ne fun p hp e => hu ⟨p, hp, e⟩, updsH_ne fun p hp e => hu ⟨p, hp, e⟩]
       exact h4 b rfl
     simp only [appRightH, hb]
    | c x => cases x <;> rfl
    | _ => rfl
   | _ => rfl
  simp only [act, h1, h2, e1, e2]
end
theorem disj_1 {f g : List Nat × List Nat} (h : disj f g = true) {n : Nat} (h1 : n ∈ f.2) (h2 : n ∈ g.1) : False := by
 simp only [disj, Bool.and_eq_true, List.all_eq_true] at h
 have := h.1 n h1
 simp [h2] at this
theorem disj_2 {f g : List Nat × List Nat} (h : disj f g = true) {n : Nat} (h1 : n ∈ g.2) (h2 : n ∈ f.1) : False := by
 simp only [disj, Bool.and_eq_true, List.all_eq_true] at h
 have := h.2 n h1
 simp [h2] at this
theorem nmA_used {σ : St} (W : Wf σ) {op : MOp} (hf : ∀ a ∈ op.args, a.flat = true) {n : Nat} (hn : n ∈ op.nmA σ.ev) : σ.used n = true := by
 obtain ⟨a, ha, hr⟩ := mem_nmA.1 hn
 exact W.arg (hf a ha) n hr
theorem rdN_used {σ : St} (W : Wf σ) {op : MOp} (hf : ∀ a ∈ op.args, a.flat = true) {n : Nat} (hn : n ∈ op.rdN σ.ev σ.h) : σ.used n = true := by
 unfold MOp.rdN at hn
 cases hc : op.isCall with
 | true =>
  rw [hc] at hn
  rcases List.mem_append.1 hn with hn | hn
  ·exact nmA_used W hf hn
  ·unfold boxNms at hn
   rw [List.mem_flatMap] at hn
   obtain ⟨m, hm, hn⟩ := hn
   split at hn
   ·rename_i cs hb
    obtain ⟨c, hc, hr⟩ := List.mem_flatMap.1 hn
    exact W.box m cs c n hb hc (ACell.nm_ref.1 hr)
   ·cases hn
 | false => rw [hc] at hn; exact nmA_used W hf hn
section
variable {T : Tab} {dx dy : Option Nat} {x y : MOp} {σ σ1 σ2 : St}
theorem fp_keep (W : Wf σ) (hxy : ∀ n, dx = some n → MO.t n ∉ y.args) (hfy : ∀ a ∈ y.args, a.flat = true) (hdx : ∀ sz p v, x = .store sz p v → dx = none)
  (hc : x.cls ≤ 1 ∨ y.cls = 0) (h1 : exec T dx x σ = some σ1) : y.fp σ1 = y.fp σ := by
 have hte := exec_env hdx h1
 have hag : ∀ a ∈ y.args, σ1.ev a = σ.ev a := fun a ha => by
  cases a with
  | t n => show σ1.env n = σ.env n; rw [hte]; exact putE_ne fun hdn => hxy n hdn ha
  | k v => rfl
 rcases hc with hc | hc
 ·rw [exec_rd T dx x σ hc] at h1
  have hh : ∀ n ∈ y.nmA σ.ev, σ1.h n = σ.h n := by
   intro n hn
   cases hr : rd T dx x σ.ev σ.h with
   | none => rw [hr] at h1; cases h1
   | some p =>
    rw [hr] at h1
    simp only [Option.bind_some, fin, Option.map_eq_some_iff] at h1
    obtain ⟨A, hA, rfl⟩ := h1
    have : (A.put dx p.1).h = A.h := by cases dx <;> rfl
    rw [this]
    exact ((insAll_old hA).1 n (nmA_used W hfy hn)).2
  unfold MOp.fp
  rw [wrN_loc hag hh, rdN_loc hag hh]
 ·unfold MOp.fp
  have c1 : y.isCall = false := by cases y <;> first | rfl | (simp [MOp.cls] at hc)
  have w : ∀ ev h, y.wrN ev h = some [] := by intro ev h; cases y <;> first | rfl | (simp [MOp.cls] at hc)
  simp only [w, MOp.rdN, c1, cond_false, nmA_ev hag]
theorem commF (W : Wf σ) (hd : ∀ n, dx = some n → dy ≠ some n) (hxy : ∀ n, dx = some n → MO.t n ∉ y.args) (hyx : ∀ n, dy = some n → MO.t n ∉ x.args)
  (hfx : ∀ a ∈ x.args, a.flat = true) (hfy : ∀ a ∈ y.args, a.flat = true)
  (hdx : ∀ sz p v, x = .store sz p v → dx = none) (hdy : ∀ sz p v, y = .store sz p v → dy = none) (hk : disjO (x.fp σ) (y.fp σ1) = true)
  (h1 : exec T dx x σ = some σ1) (h2 : exec T dy y σ1 = some σ2) : ∃ τ, exec T dy y σ = some τ ∧ exec T dx x τ = some σ2 ∧ y.fp σ1 = y.fp σ ∧ x.fp τ = x.fp σ := by
 unfold MOp.fp at hk
 cases ewx : x.wrN σ.ev σ.h with
 | none => rw [ewx] at hk; cases hk
 | some wx =>
 cases ewy : y.wrN σ1.ev σ1.h with
 | none => rw [ewx, ewy] at hk; cases hk
 | some wy =>
 rw [ewx, ewy] at hk
 simp only [Option.map_some, disjO] at hk
 rw [exec_act ewx hdx] at h1
 rw [exec_act ewy hdy] at h2
 cases eax : act T dx x σ.ev σ.h with
 | none => rw [eax] at h1; cases h1
 | some px =>
 obtain ⟨vx, ux, nx⟩ := px
 rw [eax] at h1
 simp only [Option.bind_some, finA, Option.map_eq_some_iff] at h1
 obtain ⟨A, hA, rfl⟩ := h1
 have uxw : ∀ q ∈ ux, q.1 ∈ wx := act_wr ewx eax
 have uxu : ∀ q ∈ ux, σ.used q.1 = true := fun q hq => nmA_used W hfx (wrN_nmA ewx (uxw q hq))
 obtain ⟨A', hA', rfl⟩ := insAll_upds' uxu hA
 obtain ⟨oa, ea⟩ := insAll_old hA'
 have hput : ∀ (s : St) (d : Option Nat) (v : AVal), (s.put d v).h = s.h := fun s d v => by cases d <;> rfl
 have hag : ∀ a ∈ y.args, ((A'.upds ux).put dx vx).ev a = σ.ev a := fun a ha => by
  rw [put_eq, ev_put fun n hn => putE_ne fun hdn => hxy n hdn (hn ▸ ha)]
  cases a with
  | t n => show (A'.upds ux).env n = σ.env n; rw [upds_eq]; show A'.env n = _; rw [ea]
  | k v => rfl
 have hrdy : y.rdN ((A'.upds ux).put dx vx).ev ((A'.upds ux).put dx vx).h = y.rdN σ.ev σ.h ∧ y.wrN ((A'.upds ux).put dx vx).ev ((A'.upds ux).put dx vx).h = y.wrN σ.ev σ.h := by
  have hh : ∀ n ∈ y.nmA σ.ev, ((A'.upds ux).put dx vx).h n = σ.h n := fun n hn => by
   rw [hput, upds_eq]
   show updsH A'.h ux n = _
   rw [updsH_ne fun p hp e => disj_1 hk (uxw p hp) (by rw [e]; exact nmA_rdN (by rw [nmA_ev hag]; exact hn))]
   exact (oa n (nmA_used W hfy hn)).2
  exact ⟨rdN_loc hag hh, wrN_loc hag hh⟩
 obtain ⟨r1, r2⟩ := hrdy
 have hh : ∀ n ∈ y.rdN σ.ev σ.h, ((A'.upds ux).put dx vx).h n = σ.h n := fun n hn => by
  rw [hput, upds_eq]
  show updsH A'.h ux n = _
  rw [updsH_ne fun p hp e => disj_1 hk (uxw p hp) (by rw [e]; show n ∈ y.rdN _ _; rw [r1]; exact hn)]
  exact (oa n (rdN_used W hfy hn)).2
 have eay : act T dy y ((A'.upds ux).put dx vx).ev ((A'.upds ux).put dx vx).h = act T dy y σ.ev σ.h := act_loc hag hh
 rw [eay] at h2
 rw [r2] at ewy
 cases eay2 : act T dy y σ.ev σ.h with
 | none => rw [eay2] at h2; cases h2
 | some py =>
 obtain ⟨vy, uy, ny⟩ := py
 rw [eay2] at h2
 simp only [Option.bind_some, finA, Option.map_eq_some_iff] at h2
 obtain ⟨D, hD, rfl⟩ := h2
 have uyw : ∀ q ∈ uy, q.1 ∈ wy := act_wr ewy eay2
 have uyn : ∀ q ∈ uy, q.1 ∈ y.nmA σ.ev := fun q hq => wrN_nmA ewy (uyw q hq)
 have uyu : ∀ q ∈ uy, σ.used q.1 = true := fun q hq => nmA_used W hfy (uyn q hq)
 have uyA : ∀ q ∈ uy, A'.used q.1 = true := fun q hq => (oa _ (uyu q hq)).1
 have uxA : ∀ q ∈ ux, A'.used q.1 = true := fun q hq => (oa _ (uxu q hq)).1
 have hdd : ∀ p ∈ ux, ∀ q ∈ uy, p.1 ≠ q.1 := fun p hp q hq e => disj_1 hk (uxw p hp) (by rw [e]; show q.1 ∈ y.rdN _ _; rw [r1]; exact nmA_rdN (uyn q hq))
 rw [put_eq, upds_we, insAll_we, Option.map_eq_some_iff] at hD
 obtain ⟨D0, hD0, rfl⟩ := hD
 obtain ⟨D1, hD1, rfl⟩ := insAll_upds' (σ := A'.upds ux) (fun q hq => by rw [upds_eq]; exact uyA q hq) hD0
 obtain ⟨F, hF, rfl⟩ := insAll_upds' uxA hD1
 obtain ⟨C', hC, hCF⟩ := insAll_swap hA' hF
 obtain ⟨oc, ec⟩ := insAll_old hC
 have uyC : ∀ q ∈ uy, C'.used q.1 = true := fun q hq => (oc _ (uyu q hq)).1
 have uxC : ∀ q ∈ ux, C'.used q.1 = true := fun q hq => (oc _ (uxu q hq)).1
 have hagx : ∀ a ∈ x.args, ((C'.upds uy).put dy vy).ev a = σ.ev a := fun a ha => by
  rw [put_eq, ev_put fun n hn => putE_ne fun hdn => hyx n hdn (hn ▸ ha)]
  cases a with
  | t n => show (C'.upds uy).env n = σ.env n; rw [upds_eq]; show C'.env n = _; rw [ec]
  | k v => rfl
 have hhx : ∀ n ∈ x.rdN σ.ev σ.h, ((C'.upds uy).put dy vy).h n = σ.h n := fun n hn => by
  rw [hput, upds_eq]
  show updsH C'.h uy n = _
  rw [updsH_ne fun p hp e => disj_2 hk (uyw p hp) (by rw [e]; exact hn)]
  exact (oc n (rdN_used W hfx hn)).2
 have hhx1 : ∀ n ∈ x.nmA σ.ev, ((C'.upds uy).put dy vy).h n = σ.h n := fun n hn => hhx n (nmA_rdN hn)
 refine ⟨(C'.upds uy).put dy vy, ?_, ?_, ?_, ?_⟩
 ·rw [exec_act ewy hdy, eay2]
  simp only [Option.bind_some, finA, insAll_upds uyu hC, Option.map_some]
 ·rw [exec_act (ws := wx) (by rw [wrN_loc hagx hhx1]; exact ewx) hdx, act_loc hagx hhx, eax]
  simp only [Option.bind_some, finA]
  rw [put_eq, upds_we, insAll_we, insAll_upds (σ := C'.upds uy) (fun q hq => by rw [upds_eq]; exact uxC q hq) (insAll_upds uyC hCF)]
  simp only [Option.map_some]
  rw [put_eq, put_eq, upds_comm hdd]
  congr 1
  have e1 : (C'.upds uy).env = σ.env := by rw [upds_eq]; exact ec
  have e2 : (A'.upds ux).env = σ.env := by rw [upds_eq]; exact ea
  show St.we _ (putE (putE (C'.upds uy).env dy vy) dx vx) = St.we _ (putE (putE (A'.upds ux).env dx vx) dy vy)
  rw [e1, e2, putE_comm σ.env _ _ hd]
  rfl
 ·unfold MOp.fp
  rw [r1, r2]
 ·unfold MOp.fp
  rw [wrN_loc hagx hhx1, rdN_loc hagx hhx1]
end
end Go.Am
end
section
namespace Go.Am
def clsOk (x y : MOper) : Bool := x.op.cls == 0 || y.op.cls == 0 || (decide (x.op.cls ≤ 1) && decide (y.op.cls ≤ 1))
def commS (x y : MOper) : Bool :=
 (match x.dst with | some d => y.noTmp d && (match y.dst with | some e => e != d | none => true) | none => true) &&
 (match y.dst with | some d => x.noTmp d | none => true) && x.fine && y.fine
theorem commX {T : Tab} {x y : MOper} {σ σ1 σ2 : St} (W : Wf σ) (hc : commS x y = true) (hk : clsOk x y = true ∨ disjO (x.fp σ) (y.fp σ1) = true) (h1 : execO T x σ = some σ1) (h2 : execO T y σ1 = some σ2) :
  ∃ τ, execO T y σ = some τ ∧ execO T x τ = some σ2 ∧ y.fp σ1 = y.fp σ ∧ x.fp τ = x.fp σ := by
 simp only [commS, Bool.and_eq_true] at hc
 obtain ⟨⟨⟨c1, c2⟩, c3⟩, c4⟩ := hc
 rw [execO_eff] at h1 h2
 cases ex : effOp x σ.env with
 | none => rw [ex] at h1; cases h1
 | some opx =>
  rw [ex] at h1
  have h1 : exec T x.dst opx σ = some σ1 := h1
  have jx : opx = x.op ∨ opx = .mv (.k (.tup [])) := effOp_mem ex
  have stx : ∀ sz p v, opx = .store sz p v → x.dst = none := by
   intro sz p v he
   rcases jx with rfl | rfl
   ·simp only [MOper.fine, Bool.and_eq_true, he] at c3; simpa using c3.2
   ·cases he
  have hte := exec_env stx h1
  have hyg : ∀ s w, y.guard = some (s, w) → x.dst ≠ some s := by
   intro s w hg hd
   rw [hd] at c1
   simp [MOper.noTmp, hg] at c1
  have hxg : ∀ s w, x.guard = some (s, w) → y.dst ≠ some s := by
   intro s w hg hd
   rw [hd] at c2
   simp [MOper.noTmp, hg] at c2
  have ey1 : effOp y σ1.env = effOp y σ.env := effOp_put fun s w hg => by rw [hte]; exact putE_ne (hyg s w hg)
  rw [ey1] at h2
  cases ey : effOp y σ.env with
  | none => rw [ey] at h2; cases h2
  | some opy =>
   rw [ey] at h2
   have h2 : exec T y.dst opy σ1 = some σ2 := h2
   have jy : opy = y.op ∨ opy = .mv (.k (.tup [])) := effOp_mem ey
   have sty : ∀ sz p v, opy = .store sz p v → y.dst = none := by
    intro sz p v he
    rcases jy with rfl | rfl
    ·simp only [MOper.fine, Bool.and_eq_true, he] at c4; simpa using c4.2
    ·cases he
   have flx : ∀ a ∈ opx.args, a.flat = true := by
    rcases jx with rfl | rfl
    ·simp only [MOper.fine, Bool.and_eq_true, List.all_eq_true] at c3; exact c3.1
    ·intro a ha; simp [MOp.args] at ha; subst ha; rfl
   have fly : ∀ a ∈ opy.args, a.flat = true := by
    rcases jy with rfl | rfl
    ·simp only [MOper.fine, Bool.and_eq_true, List.all_eq_true] at c4; exact c4.1
    ·intro a ha; simp [MOp.args] at ha; subst ha; rfl
   have hxy : ∀ n, x.dst = some n → MO.t n ∉ opy.args := by
    intro n hd
    rcases jy with rfl | rfl
    ·rw [hd] at c1
     simp only [Bool.and_eq_true] at c1
     exact MOper.noTmp_args c1.1
    ·simp [MOp.args]
   have hyx : ∀ n, y.dst = some n → MO.t n ∉ opx.args := by
    intro n hd
    rcases jx with rfl | rfl
    ·rw [hd] at c2
     exact MOper.noTmp_args c2
    ·simp [MOp.args]
   have hdd : ∀ n, x.dst = some n → y.dst ≠ some n := by
    intro n hd he
    rw [hd, he] at c1
    simp at c1
   have yfp : y.fp σ1 = opy.fp σ1 := by unfold MOper.fp; rw [ey1, ey]
   have yfp0 : y.fp σ = opy.fp σ := by unfold MOper.fp; rw [ey]
   have xfp0 : x.fp σ = opx.fp σ := by unfold MOper.fp; rw [ex]
   have xfp : ∀ τ, exec T y.dst opy σ = some τ → x.fp τ = opx.fp τ := by
    intro τ t1
    unfold MOper.fp
    rw [effOp_put (e := σ.env) (fun s w hg => by rw [exec_env sty t1]; exact putE_ne (hxg s w hg)), ex]
   have fin : (∃ τ, exec T y.dst opy σ = some τ ∧ exec T x.dst opx τ = some σ2 ∧ opy.fp σ1 = opy.fp σ ∧ opx.fp τ = opx.fp σ) → ∃ τ, execO T y σ = some τ ∧ execO T x τ = some σ2 ∧ y.fp σ1 = y.fp σ ∧ x.fp τ = x.fp σ := by
    rintro ⟨τ, t1, t2, t3, t4⟩
    refine ⟨τ, ?_, ?_, ?_, ?_⟩
    ·rw [execO_eff, ey]; exact t1
    ·rw [execO_eff, effOp_put (e := σ.env) (fun s w hg => by rw [exec_env sty t1]; exact putE_ne (hxg s w hg)), ex]; exact t2
    ·rw [yfp, yfp0, t3]
    ·rw [xfp τ t1, xfp0, t4]
   apply fin
   rcases hk with c5 | hk
   ·have hcl : opx.cls = 0 ∨ opy.cls = 0 ∨ (opx.cls ≤ 1 ∧ opy.cls ≤ 1) := by
     rcases jx with rfl | rfl
     ·rcases jy with rfl | rfl
      ·simp only [clsOk, Bool.or_eq_true, beq_iff_eq, Bool.and_eq_true, decide_eq_true_eq, or_assoc] at c5
       exact c5
      ·exact .inr (.inl rfl)
     ·exact .inl rfl
    obtain ⟨τ, t1, t2⟩ := comm0 W hdd hxy hyx flx fly stx sty hcl h1 h2
    refine ⟨τ, t1, t2, fp_keep W hxy fly stx (by omega) h1, fp_keep W hyx flx sty (by omega) t1⟩
   ·rw [yfp, xfp0] at hk
    exact commF W hdd hxy hyx flx fly stx sty hk h1 h2
def RunF (T : Tab) (ms : List MOper) (F : Nat → Option FP) : List Nat → St → St → Prop
 | [], σ, σf => σ = σf
 | i :: L, σ, σf => ∃ m σ1, ms[i]? = some m ∧ F i = m.fp σ ∧ execO T m σ = some σ1 ∧ RunF T ms F L σ1 σf
def PairOk (F : Nat → Option FP) (ms : List MOper) (i j : Nat) (m : MOper) : Prop := ∃ mj, ms[j]? = some mj ∧ commS mj m = true ∧ (clsOk mj m = true ∨ disjO (F j) (F i) = true)
structure DrawF (F : Nat → Option FP) (ops : Array Oper) (ms : List MOper) : Prop where
 back : ∀ (i : Nat) (o : Oper), ops[i]? = some o → ∀ e ∈ o.after, Region.binds .any e = true → e.on < i
 pair : ∀ (i j : Nat) (o : Oper) (m : MOper), ops[i]? = some o → ms[i]? = some m → j < i → Before ops i j ∨ PairOk F ms i j m
section
variable {B : Nat} {E : Ex} {w0 w w' : World} {G G' : Gh} {N : Nat}
variable {P : Program} {T : Tab} {o : Oper} {mo : MOper} {a : Act} {σ σ' : St} {Q : Exit → Act → World → Prop} {ops : Array Oper}
theorem runF_front (hT : TOk P T) {ms : List MOper} {F : Nat → Option FP} (hall : ∀ (i : Nat) (m : MOper), ms[i]? = some m → ∃ o, ops[i]? = some o ∧ chkOper P N ops o m = true) {i : Nat} {mi : MOper} (hi : ms[i]? = some mi) {post : List Nat} {σf : St} :
  ∀ {pre : List Nat} {σ : St}, Real B E w0 N σ → RunF T ms F (pre ++ i :: post) σ σf → (∀ j ∈ pre, PairOk F ms i j mi) →
  ∃ τ, F i = mi.fp σ ∧ execO T mi σ = some τ ∧ RunF T ms F (pre ++ post) τ σf
 | [], σ, hr, hx, hc => by
  obtain ⟨m, σ1, h1, h2, h3, h4⟩ := hx
  rw [hi] at h1
  injection h1 with h1
  subst h1
  exact ⟨σ1, h2, h3, h4⟩
 | j :: pre, σ, hr, hx, hc => by
  obtain ⟨mj, σ1, k1, k2, k3, k4⟩ := hx
  obtain ⟨mj', hj, hcm, hcl⟩ := hc j (by simp)
  rw [k1] at hj
  injection hj with hj
  subst hj
  obtain ⟨oj, _, hcj⟩ := hall j mj k1
  obtain ⟨τ1, t0, t1, t2⟩ := runF_front hT hall hi (real_step hr hT hcj k3) k4 (fun k hk => hc k (by simp [hk]))
  obtain ⟨a, w, G, r⟩ := hr
  rw [k2, t0] at hcl
  obtain ⟨τ, s1, s2, s3, s4⟩ := commX r.wf hcm hcl k3 t1
  exact ⟨τ, by rw [t0, s3], s1, mj, τ1, k1, by rw [s4]; exact k2, s2, t2⟩
theorem wpAny_okF (hT : TOk P T) {ms : List MOper} {F : Nat → Option FP} (hall : ∀ (i : Nat) (m : MOper), ms[i]? = some m → ∃ o, ops[i]? = some o ∧ chkOper P N ops o m = true) (hlen : ms.length = ops.size) (hd : DrawF F ops ms) {σf : St}
  (hQ : ∀ a w G, R B E w0 N σf a w G → Q .normal a w) :
  ∀ (fuel : Nat) (L : List Nat) (listed : Array Bool) (σ : St) (a : Act) (w : World) (G : Gh), R B E w0 N σ a w G → RunF T ms F L σ σf → L.Pairwise (· < ·) → L.length ≤ fuel → listed.size = ops.size →
   (∀ j, j ∈ L ↔ listed.getD j true = false) → Closed ops listed → wpAny P .any ops Q fuel listed a w := by
 have first : ∀ (L : List Nat) (listed : Array Bool), L.Pairwise (· < ·) → listed.size = ops.size → (∀ j, j ∈ L ↔ listed.getD j true = false) → Region.ready .any ops listed = [] → L = [] := by
  intro L listed hp hs hL hr
  cases L with
  | nil => rfl
  | cons j L =>
   exfalso
   have hj := (hL j).1 (by simp)
   have hjs : j < ops.size := by
    rw [← hs]
    rcases Nat.lt_or_ge j listed.size with h | h
    ·exact h
    ·simp [Array.getElem?_eq_none h] at hj
   have ho : ops[j]? = some ops[j] := Array.getElem?_eq_getElem hjs
   have : j ∈ Region.ready .any ops listed := by
    rw [mem_ready]
    refine ⟨hj, _, ho, fun e he hb => ?_⟩
    have hlt := hd.back j _ ho e he hb
    have hnot : e.on ∉ j :: L := by
     intro hm
     cases hm with
     | head => omega
     | tail _ hm => have := (List.pairwise_cons.1 hp).1 _ hm; omega
    have hne : listed.getD e.on true ≠ false := fun h => hnot ((hL e.on).2 h)
    have hes : e.on < listed.size := by omega
    simp [hes] at hne ⊢
    exact hne
   rw [hr] at this
   cases this
 intro fuel
 induction fuel with
 | zero =>
  intro L listed σ a w G r hx hp hl hs hL hC
  have hL0 : L = [] := List.eq_nil_of_length_eq_zero (by omega)
  subst hL0
  have hx : σ = σf := hx
  subst hx
  refine ⟨?_, hQ _ _ _ r⟩
  cases hr : Region.ready .any ops listed with
  | nil => rfl
  | cons i l =>
   have hm : i ∈ Region.ready .any ops listed := by rw [hr]; simp
   have := (hL i).2 (mem_ready.1 hm).1
   cases this
 | succ fuel ih =>
  intro L listed σ a w G r hx hp hl hs hL hC
  refine ⟨fun hr => ?_, fun i hi => ?_⟩
  ·have hL0 := first L listed hp hs hL hr
   subst hL0
   have hx : σ = σf := hx
   subst hx
   exact hQ _ _ _ r
  ·obtain ⟨hiu, oi, hoi, hall2⟩ := mem_ready.1 hi
   have him : i ∈ L := (hL i).2 hiu
   obtain ⟨pre, post, rfl⟩ := List.append_of_mem him
   have his : i < ops.size := (Array.getElem?_eq_some_iff.1 hoi).1
   have hmi : ms[i]? = some ms[i] := List.getElem?_eq_getElem (by omega)
   obtain ⟨o', ho', hci⟩ := hall i _ hmi
   rw [hoi] at ho'
   injection ho' with ho'
   subst ho'
   have hpp := List.pairwise_append.1 hp
   obtain ⟨τ, t0, t1, t2⟩ := runF_front (ops := ops) hT hall hmi ⟨a, w, G, r⟩ hx (fun j hj => by
    have hji : j < i := hpp.2.2 j hj i (by simp)
    rcases hd.pair i j oi _ hoi hmi hji with hbf | h
    ·have h1 := before_done hC hbf (fun o ho e he hb => by
      rw [hoi] at ho
      injection ho with ho
      subst ho
      have h1 := hall2 e he hb
      have hlt := hd.back i _ hoi e he hb
      have hes : e.on < listed.size := by omega
      simp [hes] at h1 ⊢
      exact h1)
     have h2 := (hL j).1 (by simp [hj])
     rw [h1] at h2
     cases h2
    ·exact h)
   have hstep : ∀ a' w', Nx B E w0 N τ a' w' → wpAny P .any ops Q fuel (listed.setIfInBounds i true) a' w' := by
    rintro a' w' ⟨G', r'⟩
    refine ih (pre ++ post) _ τ a' w' G' r' t2 ?_ (by simp at hl ⊢; omega) (by simpa using hs) (fun j => ?_) (fun k o ho hk e he hb => ?_)
    ·rw [List.pairwise_append]
     exact ⟨hpp.1, (List.pairwise_cons.1 hpp.2.1).2, fun x hx y hy => hpp.2.2 x hx y (by simp [hy])⟩
    ·by_cases hji : j = i
     ·subst hji
      have hjs : j < listed.size := by omega
      simp only [List.mem_append]
      constructor
      ·rintro (h | h)
       ·have := hpp.2.2 j h j (by simp); omega
       ·have := (List.pairwise_cons.1 hpp.2.1).1 j h; omega
      ·intro h
       simp [hjs] at h
     ·rw [getD_set_ne true (Ne.symm hji), ← hL j]
      simp [hji]
    ·have hmono : ∀ q, listed.getD q true = true → (listed.setIfInBounds i true).getD q true = true := by
      intro q hq
      by_cases hqi : q = i
      ·subst hqi
       have : q < listed.size := by omega
       simp [this]
      ·rw [getD_set_ne true (Ne.symm hqi)]; exact hq
     by_cases hki : k = i
     ·subst hki
      rw [hoi] at ho
      injection ho with ho
      subst ho
      have h1 := hall2 e he hb
      have hlt := hd.back k _ hoi e he hb
      have hes : e.on < listed.size := by omega
      refine hmono _ ?_
      simp [hes] at h1 ⊢
      exact h1
     ·rw [getD_set_ne true (Ne.symm hki)] at hk
      exact hmono _ (hC k o ho hk e he hb)
   unfold wpOp
   rw [hoi]
   simp only
   rcases ex_oper (Q := Q) r hT hci t1 with ⟨hw, h⟩ | ⟨hw, h⟩
   ·rw [if_pos hw]
    exact .inl (Oper.wp_mono hstep h)
   ·rw [if_neg (by simp [hw])]
    exact hstep _ _ h
def chkDrawD (ps : List (Nat × Nat)) (ops : List Oper) (ms : List MOper) : Bool :=
 (fun ks : List Nat => (List.range ops.length).all fun i => match ops[i]?, ms[i]? with
  | some o, some m => (o.after.toList.all fun e => !Region.binds .any e || decide (e.on < i)) &&
    (List.range i).all fun j => (ks.getD i 0).testBit j || (match ms[j]? with | some mj => commS mj m && (clsOk mj m || ps.contains (j, i)) | none => false)
  | _, _ => false) (masks ops [])
theorem chkDrawD_ok {ps : List (Nat × Nat)} {ms : List MOper} {fs : List (Option FP)} (h : chkDrawD ps ops.toList ms = true) (hp : pairsOk ps fs = true) : DrawF (fun i => fs.getD i none) ops ms := by
  simp only [chkDrawD, List.all_eq_true, List.mem_range] at h
  have key : ∀ (i : Nat) (o : Oper), ops[i]? = some o → ∃ m, ms[i]? = some m ∧ (o.after.toList.all fun e => !Region.binds .any e || decide (e.on < i)) = true ∧
        ∀ j, j < i → (((masks ops.toList []).getD i 0).testBit j || (match ms[j]? with | some mj => commS mj m && (clsOk mj m || ps.contains (j, i)) | none => false)) = true := by
    intro i o ho
    have hi : i < ops.toList.length := by simpa using (Array.getElem?_eq_some_iff.1 ho).1
    have hi' := h i hi
    have ho' : ops.toList[i]? = some o := by simpa using ho
    rw [ho'] at hi'
    cases hm : ms[i]? with
    | none => rw [hm] at hi'; cases hi'
    | some m =>
      rw [hm] at hi'
      simp only [Bool.and_eq_true, List.all_eq_true, List.mem_range] at hi'
      exact ⟨m, rfl, by rw [List.all_eq_true]; exact hi'.1, hi'.2⟩
  refine ⟨fun i o ho e he hb => ?_, fun i j o m ho hm hj => ?_⟩
  · obtain ⟨m, _, k1, _⟩ := key i o ho
    have := List.all_eq_true.1 k1 e (Array.mem_toList_iff.2 he)
    simp [hb] at this
    exact this
  · obtain ⟨m', hm', _, k2⟩ := key i o ho
    rw [hm] at hm'
    injection hm' with hm'
    subst hm'
    have := k2 j hj
    rw [Bool.or_eq_true] at this
    rcases this with h1 | h1
    · exact .inl (masks_ok ops.toList [] [] rfl rfl (by intro i k hb; simp at hb) i j h1)
    · cases hmj : ms[j]? with
      | none => rw [hmj] at h1; cases h1
      | some mj =>
        rw [hmj] at h1
        simp only [Bool.and_eq_true, Bool.or_eq_true] at h1
        refine .inr ⟨mj, hmj, h1.1, ?_⟩
        rcases h1.2 with h2 | h2
        · exact .inl h2
        · refine .inr ?_
          have := List.all_eq_true.1 hp (j, i) (by simpa using h2)
          exact this

theorem execsD_run {ms : List MOper} : ∀ (post pre : List MOper) (σ σf : St) (fs acc : List (Option FP)), ms = pre ++ post → acc.length = pre.length → execsD T post acc σ = some (fs, σf) →
  acc = fs.take acc.length ∧ RunF T ms (fun i => fs.getD i none) (List.range' pre.length post.length) σ σf
 | [], pre, σ, σf, fs, acc, he, hl, hx => by
  simp only [execsD] at hx
  injection hx with hx
  injection hx with h1 h2
  subst h1 h2
  exact ⟨by simp, rfl⟩
 | m :: post, pre, σ, σf, fs, acc, he, hl, hx => by
  simp only [execsD] at hx
  split at hx
  ·rename_i σ1 e1
   obtain ⟨h1, h2⟩ := execsD_run (ms := ms) post (pre ++ [m]) σ1 σf fs (acc ++ [m.fp σ]) (by simp [he]) (by simp [hl]) hx
   have h3 : fs[acc.length]? = some (m.fp σ) := by
    have : (fs.take (acc ++ [m.fp σ]).length)[acc.length]? = some (m.fp σ) := by rw [← h1]; simp
    rw [List.getElem?_take] at this
    split at this
    ·exact this
    ·cases this
   have h4 : acc = fs.take acc.length := by
    have := congrArg (List.take acc.length) h1
    simpa [List.take_take] using this
   refine ⟨h4, m, σ1, ?_, ?_, e1, ?_⟩
   ·rw [he, List.getElem?_append_right (Nat.le_refl _), Nat.sub_self]; rfl
   ·show fs.getD pre.length none = _
    rw [← hl, List.getD_eq_getElem?_getD, h3]; rfl
   ·simpa using h2
  ·cases hx
theorem regionD_sound (hT : TOk P T) (hm : P.follows .mixedOrders = true) {id : Nat} {ps : List (Nat × Nat)} {ms : List MOper} {fs : List (Option FP)} (hc : chkOpers P N ops ops.toList ms = true) (hd : chkDrawD ps ops.toList ms = true)
  (hx : execsD T ms [] σ = some (fs, σ')) (hp : pairsOk ps fs = true) (r : R B E w0 N σ a w G) (hQ : ∀ a w G, R B E w0 N σ' a w G → Q .normal a w) : (Code.region id ops true).wp P Q a w := by
 obtain ⟨k1, k2⟩ := chkOpers_get hc
 have hlen : ms.length = ops.size := by simpa using k1
 refine wp_region_any hm (wpAny_okF (B := B) (E := E) (w0 := w0) (N := N) hT (fun i m h => by
  obtain ⟨o, h1, h2⟩ := k2 i m h; exact ⟨o, by simpa using h1, h2⟩) hlen (chkDrawD_ok hd hp) hQ ops.size (List.range ops.size) _ σ a _ G (r.drawn _) ?_ ?_ (by simp) (by simp) (fun j => ?_) (fun k o ho hk => ?_))
 ·have := (execsD_run (T := T) (ms := ms) ms [] σ σ' fs [] rfl rfl hx).2
  simp only [List.length_nil, hlen, ← List.range_eq_range'] at this
  exact this
 ·exact List.pairwise_lt_range
 ·rw [List.mem_range]
  constructor
  ·intro h; simp [h]
  ·intro h
   rcases Nat.lt_or_ge j ops.size with h' | h'
   ·exact h'
   ·simp [Array.getElem?_eq_none (show (Array.replicate ops.size false).size ≤ j by simpa using h')] at h
 ·exfalso
  have hks : k < ops.size := (Array.getElem?_eq_some_iff.1 ho).1
  simp [hks] at hk
end
end Go.Am
end
