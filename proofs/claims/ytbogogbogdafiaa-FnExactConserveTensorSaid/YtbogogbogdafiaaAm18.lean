/- Am18: operations that may change places. No condition. -/
import Derived.Test.YtbogogbogdafiaaAm17
set_option linter.unusedVariables false
namespace Go.Am
def MOp.cls : MOp → Nat
 | .mv _ | .pick .. | .build .. | .bin .. | .binb .. | .un .. | .conv .. | .ext .. | .fld .. | .mm .. | .mkfn .. => 0
 | .alloc _ | .box .. | .load .. | .nilchk _ | .mkslice .. | .slice .. | .fieldA .. | .idxA .. | .len _ | .rowm .. | .call .. | .callv .. | .calld .. | .callw .. => 1
 | _ => 2
def St.insAll (σ : St) : List (Nat × Blk) → Option St
 | [] => some σ
 | (n, b) :: l => match σ.ins n b with
  | some σ1 => σ1.insAll l
  | none => none
def impB (m : Mode) : Nat → List C → List ACell × Nat × List (Nat × Blk)
 | nm, [] => ([], nm, [])
 | nm, .list sz xs :: cs => (.sl nm sz 0 xs.length :: (impB m (nm + 1) cs).1, (impB m (nm + 1) cs).2.1, (nm, .row true m sz xs) :: (impB m (nm + 1) cs).2.2)
 | nm, x :: cs => (.c x :: (impB m nm cs).1, (impB m nm cs).2.1, (impB m nm cs).2.2)
def impsB (m : Mode) : Nat → List Dv → Option (List (Bool × List ACell) × List (Nat × Blk))
 | _, [] => some ([], [])
 | nm, (.ptr, _) :: _ => none
 | nm, (k, cs) :: ds => match impsB m (impB m nm cs).2.1 ds with
  | some (ls, bs) => some ((decide (k = .agg), (impB m nm cs).1) :: ls, (impB m nm cs).2.2 ++ bs)
  | none => none
theorem insAll_append (σ : St) (l l' : List (Nat × Blk)) : σ.insAll (l ++ l') = (σ.insAll l).bind fun σ1 => σ1.insAll l' := by
 induction l generalizing σ with
 | nil => rfl
 | cons x l ih =>
  obtain ⟨n, b⟩ := x
  simp only [List.cons_append, St.insAll]
  cases σ.ins n b with
  | none => rfl
  | some σ1 => exact ih σ1
theorem imp_eq (m : Mode) : ∀ (cs : List C) (σ : St) (nm : Nat), σ.imp m nm cs = (σ.insAll (impB m nm cs).2.2).map fun σ1 => ((impB m nm cs).1, (impB m nm cs).2.1, σ1)
 | [], σ, nm => rfl
 | .list sz xs :: cs, σ, nm => by
  simp only [St.imp, impB, St.insAll]
  cases σ.ins nm (.row true m sz xs) with
  | none => rfl
  | some σ1 =>
   simp only [imp_eq m cs]
   cases σ1.insAll (impB m (nm + 1) cs).2.2 <;> rfl
 | .int k n :: cs, σ, nm => by
  simp only [St.imp, impB, imp_eq m cs]
  cases σ.insAll (impB m nm cs).2.2 <;> rfl
 | .bool b :: cs, σ, nm => by
  simp only [St.imp, impB, imp_eq m cs]
  cases σ.insAll (impB m nm cs).2.2 <;> rfl
theorem imps_eq (m : Mode) : ∀ (ds : List Dv) (σ : St) (nm : Nat), σ.imps m nm ds = (impsB m nm ds).bind fun x => (σ.insAll x.2).map fun σ1 => (x.1, σ1)
 | [], σ, nm => rfl
 | (k, cs) :: ds, σ, nm => by
  have key : (match σ.imp m nm cs with
    | some (l, nm', σ1) => match σ1.imps m nm' ds with
     | some (ls, σ2) => some ((decide (k = K.agg), l) :: ls, σ2)
     | none => none
    | none => none) = (match impsB m (impB m nm cs).2.1 ds with
    | some (ls, bs) => some ((decide (k = K.agg), (impB m nm cs).1) :: ls, (impB m nm cs).2.2 ++ bs)
    | none => none).bind fun x => (σ.insAll x.2).map fun σ1 => (x.1, σ1) := by
   rw [imp_eq]
   have ih := fun (σ1 : St) => imps_eq m ds σ1 (impB m nm cs).2.1
   cases h1 : σ.insAll (impB m nm cs).2.2 with
   | none =>
    cases h2 : impsB m (impB m nm cs).2.1 ds with
    | none => rfl
    | some x => simp [insAll_append, h1]
   | some σ1 =>
    simp only [Option.map_some, ih]
    cases h2 : impsB m (impB m nm cs).2.1 ds with
    | none => rfl
    | some x =>
     simp [insAll_append, h1]
     cases σ1.insAll x.2 <;> rfl
  cases k with
  | ptr => rfl
  | one => exact key
  | agg => exact key
def callB (T : Tab) (m : Mode) (d : Option Nat) (f : FuncId) (as : List AVal) (h : Nat → Option Blk) : Option (AVal × List (Nat × Blk)) :=
 match viewAs h as with
 | some ds => match Tab.find T.pure f with
  | some M => match M ds with
   | some rs => match impsB m (nameOf d) rs with
    | some (ls, bs) => some (res1 ls, bs)
    | none => none
   | none => none
  | none => none
 | none => none
def mkfnV (vs : List AVal) (f : FuncId) : Option AVal :=
 match vs.mapM (fun v => match v with | .one c => if c.isFn = true then none else some c | _ => none) with
 | some cs => if cs.all ACell.notJunk = true then some (.one (.fn f cs)) else none
 | none => none
def rd (T : Tab) (d : Option Nat) (op : MOp) (ev : MO → AVal) (h : Nat → Option Blk) : Option (AVal × List (Nat × Blk)) :=
 match op with
 | .mv x => some (ev x, [])
 | .pick c x y => match ev c with
  | .one (.c (.bool b)) => if b = true then some (ev x, []) else some (ev y, [])
  | _ => none
 | .build zs parts => match setParts ev zs parts with
  | some cs => some (.agg cs, [])
  | none => none
 | .bin op x y => match binA op (ev x) (ev y) with
  | some c => some (.one (.c c), [])
  | none => none
 | .binb op x y => match binB op (ev x) (ev y) with
  | some c => some (.one (.c c), [])
  | none => none
 | .un op x => match unA op (ev x) with
  | some c => some (.one (.c c), [])
  | none => none
 | .conv k x => match ev x with
  | .one (.c (.int _ n)) => some (.one (.c (.int k (k.wrap n))), [])
  | _ => none
 | .ext i x => match ev x with
  | .tup xs => match xs[i]? with
   | some (ag, cs) => some (toA ag cs, [])
   | none => none
  | _ => none
 | .fld ag off sz x => match ev x with
  | .agg cs => match sub cs off sz with
   | some l => some (toA ag l, [])
   | none => none
  | _ => none
 | .rowm f col x => match ev x with
  | .one (.sl n sz lo len) => if (h n).isSome = true then some (.agg (rowC col len (.sl n sz lo len)), []) else none
  | .one (.c (.list sz xs)) => some (.agg (rowC col xs.length (.c (.list sz xs))), [])
  | .one (.nil sz) => some (.agg (rowC col 0 (.nil sz)), [])
  | _ => none
 | .mm mx x y => match ev x, ev y with
  | .one (.c (.int k a)), .one (.c (.int k' b)) => if mx = true then (if a < b then some (.one (.c (.int k b)), []) else some (.one (.c (.int k a)), []))
    else (if b < a then some (.one (.c (.int k b)), []) else some (.one (.c (.int k a)), []))
  | _, _ => none
 | .mkfn f xs => match mkfnV (xs.map ev) f with
  | some v => some (v, [])
  | none => none
 | .alloc zs => match d with
  | some n => some (.one (.ptr n 0 0 0), [(n, .box zs)])
  | none => none
 | .box sz x => match d, (ev x).cells? with
  | some n, some (_, cs) => if cs.length = sz then some (.one (.ptr n 0 0 0), [(n, .box cs)]) else none
  | _, _ => none
 | .load ag sz x => match ev x with
  | .one p => match loadAt h p sz with
   | some cs => some (toA ag cs, [])
   | none => none
  | _ => none
 | .nilchk x => match ev x with
  | .one (.ptr n k sz off) => if (h n).isSome = true then some (.one (.ptr n k sz off), []) else none
  | .one (.dptr xs off) => some (.one (.dptr xs off), [])
  | _ => none
 | .mkslice m sz by_ zs l c => match d, (ev l).int?, (ev c).int? with
  | some n, some a, some b => if a ≤ b ∧ 0 ≤ a ∧ b.toNat * by_ ≤ maxBytes ∧ zs.length = sz then
    some (.one (.sl n sz 0 a.toNat), [(n, .row true m sz (List.replicate a.toNat zs))])
   else none
  | _, _, _ => none
 | .slice sz x lo hi =>
  let lo? : Option Int := match lo with | none => some 0 | some l => (ev l).int?
  match ev x, lo? with
  | .one (.sl n s l0 len), some l =>
   match (match hi with | none => some (len : Int) | some h => (ev h).int?) with
   | some hh => if s = sz ∧ 0 ≤ l ∧ l ≤ hh ∧ hh ≤ len ∧ (h n).isSome = true then some (.one (.sl n s (l0 + l.toNat) (hh - l).toNat), []) else none
   | none => none
  | .one (.c (.list s xs)), some l =>
   match (match hi with | none => some (xs.length : Int) | some h => (ev h).int?) with
   | some hh => if s = sz ∧ 0 ≤ l ∧ l ≤ hh ∧ hh ≤ xs.length then some (.one (.c (.list s ((xs.drop l.toNat).take (hh - l).toNat))), []) else none
   | none => none
  | _, _ => none
 | .fieldA off x => match ev x with
  | .one (.ptr n k sz o) => if (h n).isSome = true then some (.one (.ptr n k sz (o + off)), []) else none
  | .one (.dptr xs o) => some (.one (.dptr xs (o + off)), [])
  | _ => none
 | .idxA sz x i => match ev x, (ev i).int? with
  | .one (.sl n s lo len), some k => if s = sz ∧ 0 ≤ k ∧ k < len ∧ (h n).isSome = true then some (.one (.ptr n (lo + k.toNat) s 0), []) else none
  | .one (.c (.list s xs)), some k => if s = sz ∧ 0 ≤ k then
    match xs[k.toNat]? with
    | some e => some (.one (.dptr e 0), [])
    | none => none
   else none
  | .one (.nsl n kk rsz off s len), some k => match viewC h (.nsl n kk rsz off s len) with
   | some (.list s' ys) => if s' = sz ∧ 0 ≤ k ∧ k < ys.length then some (.one (.nptr n kk rsz off sz k.toNat), []) else none
   | _ => none
  | _, _ => none
 | .len x => match ev x with
  | .one (.sl n sz lo len) => if (h n).isSome = true then some (.one (.c (.int .i64 len)), []) else none
  | .one (.c (.list sz xs)) => some (.one (.c (.int .i64 xs.length)), [])
  | .one (.nil sz) => some (.one (.c (.int .i64 0)), [])
  | .one (.nsl n k rsz off sz len) => match viewC h (.nsl n k rsz off sz len) with
   | some (.list s ys) => some (.one (.c (.int .i64 ys.length)), [])
   | _ => none
  | _ => none
 | .call m f xs => callB T m d f (xs.map ev) h
 | .calld f xs => (callDB T f (xs.map ev) h).map fun v => (v, [])
 | .callw f xs => (doCallW T f (xs.map ev) h).map fun v => (v, [])
 | .callv m x xs => match ev x with
  | .one (.fn f caps) => callB T m d f (xs.map ev ++ caps.map .one) h
  | _ => none
 | _ => none
def fin (d : Option Nat) (σ : St) (x : AVal × List (Nat × Blk)) : Option St := (σ.insAll x.2).map (·.put d x.1)
theorem doCall_eq (T : Tab) (m : Mode) (d : Option Nat) (f : FuncId) (as : List AVal) (σ : St) : doCall T m d f as σ = (callB T m d f as σ.h).bind (fin d σ) := by
 unfold doCall callB
 cases viewAs σ.h as with
 | none => rfl
 | some ds =>
  simp only
  cases Tab.find T.pure f with
  | none => rfl
  | some M =>
   simp only
   cases M ds with
   | none => rfl
   | some rs =>
    simp only [imps_eq]
    cases impsB m (nameOf d) rs with
    | none => rfl
    | some x =>
     simp only [Option.bind_some, fin]
     cases σ.insAll x.2 <;> rfl
theorem exec_rd (T : Tab) (d : Option Nat) (op : MOp) (σ : St) (hc : op.cls ≤ 1) : exec T d op σ = (rd T d op σ.ev σ.h).bind (fin d σ) := by
 cases op <;> simp only [MOp.cls] at hc <;> first | omega | skip
 case call m f xs => exact doCall_eq _ _ _ _ _ _
 case calld f xs =>
  simp only [exec, rd]
  cases callDB T f (xs.map σ.ev) σ.h with
  | none => rfl
  | some v => rfl
 case callw f xs =>
  simp only [exec, rd]
  cases doCallW T f (xs.map σ.ev) σ.h with
  | none => rfl
  | some v => rfl
 case callv m x xs =>
  simp only [exec, rd]
  split
  ·rename_i f caps h1
   simp only [h1]
   exact doCall_eq _ _ _ _ _ _
  ·rename_i hno
   split
   ·rename_i f caps h1; exact absurd h1 (hno f caps)
   ·rfl
 case alloc zs =>
  simp only [exec, rd]
  split
  ·rename_i n
   simp only [Option.bind_some, fin, St.insAll]
   cases σ.ins n (.box zs) <;> rfl
  ·rfl
 case box sz x =>
  simp only [exec, rd]
  split
  ·rename_i n ag cs h1
   simp only [h1]
   split
   ·simp only [Option.bind_some, fin, St.insAll]
    cases σ.ins n (.box cs) <;> rfl
   ·rfl
  ·rename_i hno
   split
   ·rename_i n ag cs h1; exact absurd h1 (hno n ag cs rfl)
   ·rfl
 case mkslice m sz by_ zs l c =>
  simp only [exec, rd]
  split
  ·rename_i n a b h1 h2
   simp only [h1, h2]
   split
   ·simp only [Option.bind_some, fin, St.insAll]
    cases σ.ins n (.row true m sz (List.replicate a.toNat zs)) <;> rfl
   ·rfl
  ·rename_i hno
   split
   ·rename_i n a b h1 h2; exact absurd h2 (hno n a b rfl h1)
   ·rfl
 case mkfn f xs =>
  simp only [exec, rd, mkfnV]
  cases (xs.map σ.ev).mapM (fun v => match v with | .one c => if c.isFn = true then none else some c | _ => none) with
  | none => rfl
  | some cs =>
   simp only
   split <;> rfl
 case mv x => rfl
 case pick c x y =>
  simp only [exec, rd]
  generalize σ.ev c = v
  cases v with
  | one v => cases v with
   | c v => cases v with
    | bool b => cases b <;> rfl
    | _ => rfl
   | _ => rfl
  | _ => rfl
 case build zs ps => simp only [exec, rd]; cases setParts σ.ev zs ps <;> rfl
 case bin op x y => simp only [exec, rd]; cases binA op (σ.ev x) (σ.ev y) <;> rfl
 case binb op x y => simp only [exec, rd]; cases binB op (σ.ev x) (σ.ev y) <;> rfl
 case un op x => simp only [exec, rd]; cases unA op (σ.ev x) <;> rfl
 case conv k x =>
  simp only [exec, rd]
  generalize σ.ev x = v
  cases v with
  | one v => cases v with
   | c v => cases v <;> rfl
   | _ => rfl
  | _ => rfl
 case ext i x =>
  simp only [exec, rd]
  generalize σ.ev x = v
  cases v with
  | tup xs =>
   simp only
   cases xs[i]? <;> rfl
  | _ => rfl
 case fld ag off sz x =>
  simp only [exec, rd]
  generalize σ.ev x = v
  cases v with
  | agg cs =>
   simp only
   cases sub cs off sz <;> rfl
  | _ => rfl
 case rowm f col x =>
  simp only [exec, rd]
  generalize σ.ev x = v
  cases v with
  | one v => cases v with
   | sl n sz lo len => simp only; split <;> rfl
   | c v => cases v <;> rfl
   | _ => rfl
  | _ => rfl
 case mm b x y =>
  simp only [exec, rd]
  generalize σ.ev x = v
  generalize σ.ev y = u
  cases v with
  | one v => cases v with
   | c v => cases v with
    | int k a => cases u with
     | one u => cases u with
      | c u => cases u with
       | int k' a' =>
        simp only
        cases b
        ·simp only [Bool.false_eq_true, if_false]; split <;> rfl
        ·simp only [if_true]; split <;> rfl
       | _ => rfl
      | _ => rfl
     | _ => rfl
    | _ => rfl
   | _ => rfl
  | _ => rfl
 case load ag sz x =>
  simp only [exec, rd]
  generalize σ.ev x = v
  cases v with
  | one v =>
   simp only
   cases loadAt σ.h v sz <;> rfl
  | _ => rfl
 case nilchk x =>
  simp only [exec, rd]
  generalize σ.ev x = v
  cases v with
  | one v => cases v with
   | ptr n k sz off => simp only; split <;> rfl
   | _ => rfl
  | _ => rfl
 case fieldA off x =>
  simp only [exec, rd]
  generalize σ.ev x = v
  cases v with
  | one v => cases v with
   | ptr n k sz off => simp only; split <;> rfl
   | _ => rfl
  | _ => rfl
 case len x =>
  simp only [exec, rd]
  generalize σ.ev x = v
  cases v with
  | one v => cases v with
   | sl n sz lo len => simp only; split <;> rfl
   | c v => cases v <;> rfl
   | nsl n k rsz off sz len =>
    simp only
    cases viewC σ.h (.nsl n k rsz off sz len) with
    | none => rfl
    | some y => cases y <;> rfl
   | _ => rfl
  | _ => rfl
 case idxA sz x i =>
  simp only [exec, rd]
  generalize σ.ev x = v
  generalize (σ.ev i).int? = u
  cases v with
  | one v => cases v with
   | sl n s lo len => cases u with
    | none => rfl
    | some k => simp only; split <;> rfl
   | c v => cases v with
    | list s xs => cases u with
     | none => rfl
     | some k =>
      simp only
      split
      ·cases xs[k.toNat]? <;> rfl
      ·rfl
    | _ => rfl
   | nsl n k rsz off s len =>
    cases u with
    | none => rfl
    | some q =>
     simp only
     cases viewC σ.h (.nsl n k rsz off s len) with
     | none => rfl
     | some y => cases y with
      | list s' ys => simp only; split <;> rfl
      | _ => rfl
   | _ => rfl
  | _ => rfl
 case slice sz x lo hi =>
  cases lo with
  | none =>
   cases hi with
   | none =>
    simp only [exec, rd]
    generalize σ.ev x = v
    cases v with
    | one v => cases v with
     | sl n s l0 len => simp only; split <;> rfl
     | c v => cases v with
      | list s xs => simp only; split <;> rfl
      | _ => rfl
     | _ => rfl
    | _ => rfl
   | some hi =>
    simp only [exec, rd]
    generalize σ.ev x = v
    generalize (σ.ev hi).int? = q
    cases q with
    | none =>
     cases v with
     | one v => cases v with
      | c v => cases v <;> rfl
      | _ => rfl
     | _ => rfl
    | some q =>
     cases v with
     | one v => cases v with
      | sl n s l0 len => simp only; split <;> rfl
      | c v => cases v with
       | list s xs => simp only; split <;> rfl
       | _ => rfl
      | _ => rfl
     | _ => rfl
  | some lo =>
   cases hi with
   | none =>
    simp only [exec, rd]
    generalize σ.ev x = v
    generalize (σ.ev lo).int? = u
    cases u with
    | none =>
     cases v with
     | one v => cases v with
      | c v => cases v <;> rfl
      | _ => rfl
     | _ => rfl
    | some u =>
     cases v with
     | one v => cases v with
      | sl n s l0 len => simp only; split <;> rfl
      | c v => cases v with
       | list s xs => simp only; split <;> rfl
       | _ => rfl
      | _ => rfl
     | _ => rfl
   | some hi =>
    simp only [exec, rd]
    generalize σ.ev x = v
    generalize (σ.ev lo).int? = u
    generalize (σ.ev hi).int? = q
    cases u with
    | none =>
     cases v with
     | one v => cases v with
      | c v => cases v <;> rfl
      | _ => rfl
     | _ => rfl
    | some u =>
     cases q with
     | none =>
      cases v with
      | one v => cases v with
       | c v => cases v <;> rfl
       | _ => rfl
      | _ => rfl
     | some q =>
      cases v with
      | one v => cases v with
       | sl n s l0 len => simp only; split <;> rfl
       | c v => cases v with
        | list s xs => simp only; split <;> rfl
        | _ => rfl
       | _ => rfl
      | _ => rfl
end Go.Am