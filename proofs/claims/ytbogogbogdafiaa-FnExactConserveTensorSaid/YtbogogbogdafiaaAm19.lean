/- Am19: operations that may change places, continued. No condition. -/
import Derived.Test.YtbogogbogdafiaaAm18
set_option linter.unusedVariables false
namespace Go.Am
def St.we (σ : St) (e : Nat → AVal) : St := { σ with env := e }
def updO (e : Nat → AVal) (d : Option Nat) (x : Nat → AVal) : Nat → AVal :=
 match d with
 | some n => upd e n (x n)
 | none => e
theorem we_self (σ : St) : σ.we σ.env = σ := rfl
theorem put_we (σ : St) (e : Nat → AVal) (d : Option Nat) (v : AVal) : (σ.we e).put d v = (σ.put d v).we (updO e d (σ.put d v).env) := by
 cases d with
 | none => rfl
 | some n => simp [St.put, St.we, updO, upd_same]
theorem ins_we (σ : St) (e : Nat → AVal) (n : Nat) (b : Blk) : (σ.we e).ins n b = (σ.ins n b).map (·.we e) := by
 unfold St.ins
 by_cases h : σ.used n = true
 ·rw [if_pos h, if_pos (show (σ.we e).used n = true from h)]; rfl
 ·rw [if_neg h, if_neg (show ¬ (σ.we e).used n = true from h)]; rfl
theorem insAll_we : ∀ (l : List (Nat × Blk)) (σ : St) (e : Nat → AVal), (σ.we e).insAll l = (σ.insAll l).map (·.we e)
 | [], σ, e => rfl
 | (n, b) :: l, σ, e => by
  simp only [St.insAll, ins_we]
  cases σ.ins n b with
  | none => rfl
  | some σ1 => exact insAll_we l σ1 e
theorem takeC_we (σ : St) (e : Nat → AVal) (c : ACell) : (σ.we e).takeC c = (σ.takeC c).map fun x => (x.1, x.2.1, x.2.2.we e) := by
 cases c with
 | c x => rfl
 | nil sz => simp only [St.takeC]; split <;> rfl
 | sl n sz lo len =>
  have : (σ.we e).h n = σ.h n := rfl
  simp only [St.takeC, this]
  cases σ.h n with
  | none => rfl
  | some b => cases b with
   | box cs => rfl
   | row gr m rs xs => simp only; split <;> rfl
 | _ => rfl
theorem takeL_we : ∀ (cs : List ACell) (σ : St) (e : Nat → AVal), (σ.we e).takeL cs = (σ.takeL cs).map fun x => (x.1, x.2.1, x.2.2.we e)
 | [], σ, e => rfl
 | c :: cs, σ, e => by
  simp only [St.takeL, takeC_we]
  cases σ.takeC c with
  | none => rfl
  | some x =>
   obtain ⟨x, o, σ1⟩ := x
   simp only [Option.map_some, takeL_we cs σ1 e]
   cases σ1.takeL cs <;> rfl
theorem frz_we (σ : St) (e : Nat → AVal) (p : ACell) : (σ.we e).frz p = (σ.frz p).map (·.we e) := by
 cases p with
 | ptr n k sz off =>
  have h3 : (σ.we e).h = σ.h := rfl
  simp only [St.frz, h3]
  cases σ.h n with
  | none => rfl
  | some b =>
   cases b with
   | row gr m rs xs => rfl
   | box cs =>
    simp only [takeL_we]
    cases σ.takeL cs with
    | none => rfl
    | some x => rfl
 | _ => rfl
theorem takeEs_we (sz : Nat) : ∀ (vs : List AVal) (σ : St) (e : Nat → AVal), (σ.we e).takeEs sz vs = (σ.takeEs sz vs).map fun x => (x.1, x.2.1, x.2.2.we e)
 | [], σ, e => rfl
 | v :: vs, σ, e => by
  simp only [St.takeEs]
  cases v.cells? with
  | none => rfl
  | some x =>
   obtain ⟨ag, cs⟩ := x
   simp only
   split
   ·simp only [takeL_we]
    cases σ.takeL cs with
    | none => rfl
    | some y =>
     obtain ⟨y, o, σ1⟩ := y
     simp only [Option.map_some, takeEs_we sz vs σ1 e]
     cases σ1.takeEs sz vs <;> rfl
   ·rfl
theorem appLeft_we (σ : St) (e : Nat → AVal) (sz : Nat) (v : AVal) : appLeft (σ.we e) sz v = (appLeft σ sz v).map fun x => (x.1, x.2.1, x.2.2.we e) := by
 cases v with
 | one v => cases v with
  | sl a s lo len => cases lo with
   | zero =>
    have : (σ.we e).h a = σ.h a := rfl
    simp only [appLeft, this]
    cases σ.h a with
    | none => rfl
    | some b => cases b with
     | box cs => rfl
     | row gr m rs xs => cases gr with
      | true => simp only; split <;> rfl
      | false => rfl
   | succ lo => rfl
  | _ => rfl
 | _ => rfl
theorem appRight_we (fl : Bool) (σ : St) (e : Nat → AVal) (sz : Nat) (m : Mode) (v : AVal) : appRight fl (σ.we e) sz m v = (appRight fl σ sz m v).map fun x => (x.1, x.2.1, x.2.2.we e) := by
 cases v with
 | one v => cases v with
  | sl b s lo len =>
   have : (σ.we e).h b = σ.h b := rfl
   simp only [appRight, this]
   cases σ.h b with
   | none => rfl
   | some b => cases b with
    | box cs => rfl
    | row gr m rs xs =>
     simp only
     repeat' split
     all_goals rfl
  | c x => cases x with
   | list s ys =>
    simp only [appRight]
    repeat' split
    all_goals rfl
   | _ => rfl
  | _ => rfl
 | _ => rfl
theorem storeRow_we (σ : St) (e : Nat → AVal) (n : Nat) (gr : Bool) (m : Mode) (rs : Nat) (xs : List (List C)) (k off : Nat) (el : List C) (vs : List ACell) :
  storeRow (σ.we e) n gr m rs xs k off el vs = (storeRow σ n gr m rs xs k off el vs).map (·.we e) := by
 simp only [storeRow, takeL_we]
 cases sub el off vs.length with
 | none => rfl
 | some old =>
  simp only
  cases σ.takeL vs with
  | none => rfl
  | some x =>
   obtain ⟨cs, o, σ1⟩ := x
   have : (σ1.we e).h n = σ1.h n := rfl
   simp only [Option.map_some, this]
   repeat' split
   all_goals rfl
theorem rd_ev (T : Tab) (d : Option Nat) (op : MOp) {ev ev' : MO → AVal} (h : Nat → Option Blk) (hag : ∀ x ∈ op.args, ev' x = ev x) : rd T d op ev' h = rd T d op ev h := by
 have hl : ∀ xs : List MO, (∀ x ∈ xs, ev' x = ev x) → xs.map ev' = xs.map ev := fun xs hx => List.map_congr_left hx
 have hp : ∀ (ps : List (Nat × Nat × MO)) (zs : List ACell), (∀ x ∈ ps.map (·.2.2), ev' x = ev x) → setParts ev' zs ps = setParts ev zs ps := by
  intro ps
  induction ps with
  | nil => intro zs _; rfl
  | cons p ps ih =>
   intro zs hx
   obtain ⟨off, sz, x⟩ := p
   simp only [setParts]
   rw [hx x (by simp)]
   cases (ev x).cells? with
   | none => rfl
   | some y =>
    simp only
    split
    ·exact ih _ fun z hz => hx z (by simp at hz ⊢; exact .inr hz)
    ·rfl
 cases op with
 | build zs ps => simp only [rd]; rw [hp ps zs hag]
 | call m f xs => simp only [rd]; rw [hl xs hag]
 | calld f xs => simp only [rd]; rw [hl xs hag]
 | callw f xs => simp only [rd]; rw [hl xs hag]
 | mkfn f xs => simp only [rd]; rw [hl xs hag]
 | callv m x xs => simp only [rd]; rw [hag x (by simp [MOp.args]), hl xs fun y hy => hag y (by simp [MOp.args, hy])]
 | slice sz x lo hi =>
  have h1 := hag x (by simp [MOp.args])
  cases lo with
  | none => cases hi with
   | none => simp only [rd, h1]
   | some hi => have h3 := hag hi (by simp [MOp.args]); simp only [rd, h1, h3]
  | some lo =>
   have h2 := hag lo (by simp [MOp.args])
   cases hi with
   | none => simp only [rd, h1, h2]
   | some hi => have h3 := hag hi (by simp [MOp.args]); simp only [rd, h1, h2, h3]
 | mv x => have h1 := hag x (by simp [MOp.args]); simp only [rd, h1]
 | pick x y z => have h1 := hag x (by simp [MOp.args]); have h2 := hag y (by simp [MOp.args]); have h3 := hag z (by simp [MOp.args]); simp only [rd, h1, h2, h3]
 | alloc zs => rfl
 | box sz x => have h1 := hag x (by simp [MOp.args]); simp only [rd, h1]
 | bslice sz ps => rfl
 | callm m f xs => rfl
 | callb f xs => rfl
 | load ag sz x => have h1 := hag x (by simp [MOp.args]); simp only [rd, h1]
 | store sz x v => rfl
 | nilchk x => have h1 := hag x (by simp [MOp.args]); simp only [rd, h1]
 | bin op x y => have h1 := hag x (by simp [MOp.args]); have h2 := hag y (by simp [MOp.args]); simp only [rd, h1, h2]
 | binb op x y => have h1 := hag x (by simp [MOp.args]); have h2 := hag y (by simp [MOp.args]); simp only [rd, h1, h2]
 | un op x => have h1 := hag x (by simp [MOp.args]); simp only [rd, h1]
 | conv k x => have h1 := hag x (by simp [MOp.args]); simp only [rd, h1]
 | mkslice m sz by_ zs x y => have h1 := hag x (by simp [MOp.args]); have h2 := hag y (by simp [MOp.args]); simp only [rd, h1, h2]
 | fieldA off x => have h1 := hag x (by simp [MOp.args]); simp only [rd, h1]
 | idxA sz x y => have h1 := hag x (by simp [MOp.args]); have h2 := hag y (by simp [MOp.args]); simp only [rd, h1, h2]
 | ext i x => have h1 := hag x (by simp [MOp.args]); simp only [rd, h1]
 | fld ag off sz x => have h1 := hag x (by simp [MOp.args]); simp only [rd, h1]
 | rowm f col x => have h1 := hag x (by simp [MOp.args]); simp only [rd, h1]
 | len x => have h1 := hag x (by simp [MOp.args]); simp only [rd, h1]
 | append fl sz by_ x y => rfl
 | tail sz x lo => rfl
 | loadd ag sz x => rfl
 | copy sz x y => rfl
 | clr z x => rfl
 | mm b x y => have h1 := hag x (by simp [MOp.args]); have h2 := hag y (by simp [MOp.args]); simp only [rd, h1, h2]
theorem we_h (σ : St) (e : Nat → AVal) : (σ.we e).h = σ.h := rfl
theorem putOut_we (σ : St) (e : Nat → AVal) (it : MIt) (x : C) : (σ.we e).putOut it x = (σ.putOut it x).map (·.we e) := by
 cases it with
 | nil sz => rfl
 | row n =>
  cases x with
  | int k i => rfl
  | bool b => rfl
  | list sz xs =>
   simp only [St.putOut, we_h]
   cases σ.h n with
   | none => rfl
   | some b =>
    cases b with
    | box cs => rfl
    | row gr m rs xs0 => simp only; split <;> rfl
 | nest n k off =>
  simp only [St.putOut, we_h]
  cases σ.h n with
  | none => rfl
  | some b =>
   cases b with
   | box cs => rfl
   | row gr m rs xs0 =>
    simp only
    cases xs0[k]? with
    | none => rfl
    | some el => rfl
theorem putOuts_we : ∀ (its : List (MIt × Mode)) (outs : List C) (σ : St) (e : Nat → AVal), (σ.we e).putOuts its outs = (σ.putOuts its outs).map (·.we e)
 | [], [], σ, e => rfl
 | it :: its, x :: outs, σ, e => by
  simp only [St.putOuts, putOut_we]
  cases σ.putOut it.1 x with
  | none => rfl
  | some σ1 => exact putOuts_we its outs σ1 e
 | [], _ :: _, σ, e => rfl
 | _ :: _, [], σ, e => rfl
theorem imps_we (m : Mode) (σ : St) (e : Nat → AVal) (nm : Nat) (ds : List Dv) : (σ.we e).imps m nm ds = (σ.imps m nm ds).map fun x => (x.1, x.2.we e) := by
 simp only [imps_eq]
 cases impsB m nm ds with
 | none => rfl
 | some x =>
  simp only [Option.bind_some, insAll_we]
  cases σ.insAll x.2 with
  | none => rfl
  | some σ1 => rfl
theorem doCallM_we (T : Tab) (m : Mode) (d : Option Nat) (f : FuncId) (as : List AVal) (σ : St) (e : Nat → AVal) :
  doCallM T m d f as (σ.we e) = (doCallM T m d f as σ).map fun τ => τ.we (updO e d τ.env) := by
 unfold doCallM
 cases Tab.findM T.muts f with
 | none => rfl
 | some z =>
  obtain ⟨sig, M⟩ := z
  cases mArgs as with
  | none => rfl
  | some cas =>
   simp only
   by_cases hnd : (mnamesA sig cas).Nodup
   ·rw [if_pos hnd, if_pos hnd]
    show (match mviews σ.h (hwo σ.h (mnamesA sig cas)) sig cas with | some (ds, its) => _ | none => none) = _
    cases mviews σ.h (hwo σ.h (mnamesA sig cas)) sig cas with
    | none => rfl
    | some z =>
     obtain ⟨ds, its⟩ := z
     simp only
     cases M ds with
     | none => rfl
     | some z =>
      obtain ⟨rs, outs⟩ := z
      simp only [putOuts_we]
      cases σ.putOuts its outs with
      | none => rfl
      | some σ1 =>
       simp only [Option.map_some, imps_we]
       cases σ1.imps m (nameOf d) rs with
       | none => rfl
       | some z =>
        obtain ⟨ls, σ2⟩ := z
        simp only [Option.map_some, put_we]
   ·rw [if_neg hnd, if_neg hnd]; rfl
theorem bArgs_we : ∀ (as : List AVal) (σ : St) (e : Nat → AVal), (σ.we e).bArgs as = (σ.bArgs as).map fun x => (x.1, x.2.1, x.2.2.we e)
 | [], σ, e => rfl
 | v :: as, σ, e => by
  simp only [St.bArgs, we_h, takeL_we]
  cases bPtr σ.h v with
  | some x =>
   obtain ⟨n, xs⟩ := x
   simp only [bArgs_we as σ e]
   cases σ.bArgs as <;> rfl
  | none =>
   simp only
   cases v.cells? with
   | none => rfl
   | some x =>
    obtain ⟨ag, cs⟩ := x
    simp only
    cases σ.takeL cs with
    | none => rfl
    | some y =>
     obtain ⟨xs, o, σ1⟩ := y
     simp only [Option.map_some, bArgs_we as σ1 e]
     cases σ1.bArgs as <;> rfl
theorem putB_we (σ : St) (e : Nat → AVal) (ns : List Nat) (out : List C) : (σ.we e).putB ns out = (σ.putB ns out).map (·.we e) := by
 match ns, out with
 | [], [] => rfl
 | [], _ :: _ => rfl
 | [n], out =>
  simp only [St.putB, we_h]
  cases σ.h n with
  | none => rfl
  | some b =>
   cases b with
   | box cs => simp only; split <;> rfl
   | row gr m rs xs => rfl
 | _ :: _ :: _, out => rfl
theorem bRes_we (σ : St) (e : Nat → AVal) (d : Option Nat) (rs : List Dv) : bRes (σ.we e) d rs = (bRes σ d rs).map fun τ => τ.we (updO e d τ.env) := by
 unfold bRes
 split
 ·cases d with
  | none => rfl
  | some q =>
   simp only [ins_we]
   cases σ.ins q _ with
   | none => rfl
   | some σ1 => simp only [Option.map_some, put_we]
 ·cases datsV rs with
  | none => rfl
  | some ls => simp only [Option.map_some, put_we]
theorem doCallB_we (T : Tab) (d : Option Nat) (f : FuncId) (as : List AVal) (σ : St) (e : Nat → AVal) :
  doCallB T d f as (σ.we e) = (doCallB T d f as σ).map fun τ => τ.we (updO e d τ.env) := by
 unfold doCallB
 rw [bArgs_we]
 cases σ.bArgs as with
 | none => rfl
 | some x =>
  obtain ⟨ds, ns, σ1⟩ := x
  simp only [Option.map_some]
  cases Tab.findV T.vs f with
  | none => rfl
  | some M =>
   simp only
   cases M ds with
   | none => rfl
   | some z =>
    obtain ⟨rs, out⟩ := z
    simp only [putB_we]
    cases σ1.putB ns out with
    | none => rfl
    | some σ2 => exact bRes_we σ2 e d rs
theorem exec_we (T : Tab) (d : Option Nat) (op : MOp) (σ : St) (e : Nat → AVal) (hag : ∀ x ∈ op.args, (σ.we e).ev x = σ.ev x) (hd : ∀ sz x v, op = .store sz x v → d = none) :
  exec T d op (σ.we e) = (exec T d op σ).map fun τ => τ.we (updO e d τ.env) := by
 by_cases hc : op.cls ≤ 1
 ·rw [exec_rd T d op _ hc, exec_rd T d op _ hc, rd_ev T d op _ hag]
  show Option.bind (rd T d op σ.ev σ.h) _ = _
  cases rd T d op σ.ev σ.h with
  | none => rfl
  | some x =>
   simp only [Option.bind_some, fin, insAll_we]
   cases σ.insAll x.2 with
   | none => rfl
   | some σ1 => simp only [Option.map_some, put_we]
 ·cases op <;> simp [MOp.cls] at hc
  case bslice sz ps =>
   have hl : ps.map (σ.we e).ev = ps.map σ.ev := List.map_congr_left hag
   simp only [exec, hl, takeEs_we]
   cases d with
   | none => rfl
   | some n =>
    cases σ.takeEs sz (ps.map σ.ev) with
    | none => rfl
    | some x =>
     obtain ⟨es, o, σ1⟩ := x
     simp only [Option.map_some, ins_we]
     cases σ1.ins n (.row true (if o = true then .froz else .bor) sz es) with
     | none => rfl
     | some σ2 => simp only [Option.map_some, put_we]
  case store sz x v =>
   have h1 := hag x (by simp [MOp.args])
   have h2 := hag v (by simp [MOp.args])
   have hd := hd sz x v rfl
   subst hd
   simp only [exec, h1, h2]
   cases σ.ev x with
   | one p => cases p with
    | ptr n k rsz off =>
     cases (σ.ev v).cells? with
     | none => rfl
     | some y =>
      obtain ⟨ag, vs⟩ := y
      have : (σ.we e).h n = σ.h n := rfl
      simp only [this]
      split
      ·cases σ.h n with
       | none => rfl
       | some b => cases b with
        | box cs => simp only; split <;> rfl
        | row gr m rs xs =>
         simp only
         split
         ·cases xs[k]? with
          | none => rfl
          | some el => simp only [storeRow_we]; rfl
         ·rfl
      ·rfl
    | nptr n k rsz off s i =>
     cases (σ.ev v).cells? with
     | none => rfl
     | some y =>
      obtain ⟨ag, vs⟩ := y
      have : (σ.we e).h n = σ.h n := rfl
      simp only [this]
      split
      ·cases σ.h n with
       | none => rfl
       | some b => cases b with
        | box cs => rfl
        | row gr m rs xs => cases m with
         | live =>
          simp only
          split
          ·cases setNest xs k off s i vs <;> rfl
          ·rfl
         | _ => rfl
      ·rfl
    | _ => cases (σ.ev v).cells? <;> rfl
   | agg cs => cases (σ.ev v).cells? <;> rfl
   | tup cs => cases (σ.ev v).cells? <;> rfl
  case append fl sz by_ x y =>
   have h1 := hag x (by simp [MOp.args])
   have h2 := hag y (by simp [MOp.args])
   simp only [exec, h1, h2, appLeft_we]
   cases d with
   | none => rfl
   | some n =>
    simp only
    cases appLeft σ sz (σ.ev x) with
    | none => rfl
    | some z =>
     obtain ⟨xs, m, σ1⟩ := z
     simp only [Option.map_some, appRight_we]
     cases appRight fl σ1 sz m (σ.ev y) with
     | none => rfl
     | some z =>
      obtain ⟨ys, m2, σ2⟩ := z
      simp only [Option.map_some]
      split
      ·simp only [ins_we]
       cases σ2.ins n (.row true m2 sz (xs ++ ys)) with
       | none => rfl
       | some σ3 => simp only [Option.map_some, put_we]
      ·rfl
  case copy sz x y =>
   have h1 := hag x (by simp [MOp.args])
   have h2 := hag y (by simp [MOp.args])
   have h3 : (σ.we e).h = σ.h := rfl
   simp only [exec, h1, h2, h3]
   cases σ.ev x with
   | one p => cases p with
    | sl n s lo len =>
     cases σ.ev y with
     | one c =>
      simp only
      cases σ.h n with
      | none => rfl
      | some b => cases b with
       | box cs => rfl
       | row gr m rs xs =>
        cases viewC σ.h c with
        | none => rfl
        | some q => cases q with
         | list s' ys =>
          simp only
          split
          ·exact congrArg some (put_we (σ.setB n _) e d _)
          ·rfl
         | _ => rfl
     | _ => rfl
    | _ => rfl
   | _ => rfl
  case clr z x =>
   have h1 := hag x (by simp [MOp.args])
   have h3 : (σ.we e).h = σ.h := rfl
   simp only [exec, h1, h3]
   cases σ.ev x with
   | one p => cases p with
    | sl n s lo len =>
     simp only
     cases σ.h n with
     | none => rfl
     | some b => cases b with
      | box cs => rfl
      | row gr m rs xs =>
       simp only
       split
       ·exact congrArg some (put_we (σ.setB n _) e d _)
       ·rfl
    | _ => rfl
   | _ => rfl
  case loadd ag sz x =>
   have h1 := hag x (by simp [MOp.args])
   simp only [exec, h1]
   cases σ.ev x with
   | one p =>
    simp only [frz_we]
    cases σ.frz p with
    | none => rfl
    | some σ1 =>
     simp only [Option.map_some]
     have h3 : (σ1.we e).h = σ1.h := rfl
     rw [h3]
     cases loadAt σ1.h p sz with
     | none => rfl
     | some cs => exact congrArg some (put_we σ1 e d _)
   | _ => rfl
  case tail sz x y =>
   have h1 := hag x (by simp [MOp.args])
   have h2 := hag y (by simp [MOp.args])
   simp only [exec, h1, h2]
   cases d with
   | none => rfl
   | some n =>
    generalize (σ.ev y).int? = q
    cases hv : σ.ev x with
    | one p => cases p with
     | sl a s lo len => cases lo with
      | zero =>
       cases q with
       | none => rfl
       | some l =>
        simp only
        have : (σ.we e).h a = σ.h a := rfl
        rw [this]
        cases σ.h a with
        | none => rfl
        | some b => cases b with
         | box cs => rfl
         | row gr m rs xs => cases gr with
          | false => rfl
          | true =>
           simp only
           split
           ·rw [show (σ.we e).del a = (σ.del a).we e from rfl, ins_we]
            cases (σ.del a).ins n (.row true m sz (xs.drop l.toNat)) with
            | none => rfl
            | some σ3 => simp only [Option.map_some, put_we]
           ·rfl
      | succ lo => cases q <;> rfl
     | _ => cases q <;> rfl
    | _ => cases q <;> rfl
  case callm m f xs =>
   have hl : xs.map (σ.we e).ev = xs.map σ.ev := List.map_congr_left hag
   simp only [exec, hl, doCallM_we]
  case callb f xs =>
   have hl : xs.map (σ.we e).ev = xs.map σ.ev := List.map_congr_left hag
   simp only [exec, hl, doCallB_we]
section
variable {u vv : Nat → Prop} {h h' : Nat → Option Blk}
theorem loadAt_h (hh : ∀ n, u n → h' n = h n) {p : ACell} (hp : ∀ m, p.ref m → u m) (sz : Nat) : loadAt h' p sz = loadAt h p sz := by
 cases p with
 | ptr n k rsz off => simp only [loadAt, hh n (hp n rfl)]
 | _ => rfl
theorem ACell.ref_of0 {c : ACell} {m : Nat} (h : c.ref0 m) : c.ref m := by
 cases c <;> first | exact h | exact h.elim
def AVal.refv : AVal → Nat → Prop
 | .one c, m => c.ref0 m
 | .agg cs, m => ∃ c ∈ cs, c.ref0 m
 | .tup _, _ => False
theorem AVal.ref_ofv {x : AVal} {m : Nat} (h : x.refv m) : x.ref m := by
 cases x with
 | one c => exact ACell.ref_of0 h
 | agg cs => obtain ⟨c, hc, h⟩ := h; exact ⟨c, hc, ACell.ref_of0 h⟩
 | tup xs => exact h.elim
theorem viewC_h (hh : ∀ n, u n → h' n = h n) {p : ACell} (hp : ∀ m, p.ref0 m → u m) : viewC h' p = viewC h p := by
 cases p with
 | sl n sz lo len => simp only [viewC, hh n (hp n rfl)]
 | nsl n k rsz off sz len => simp only [viewC, hh n (hp n rfl)]
 | _ => rfl
theorem viewL_h (hh : ∀ n, u n → h' n = h n) : ∀ {l : List ACell} (_ : ∀ p ∈ l, ∀ m, p.ref0 m → u m), viewL h' l = viewL h l
 | [], _ => rfl
 | c :: cs, hp => by
  have h1 := viewC_h hh (hp c (by simp))
  have h2 := viewL_h hh (l := cs) fun p q => hp p (List.mem_cons_of_mem _ q)
  simp only [viewL, h1, h2]
theorem viewA_h (hh : ∀ n, u n → h' n = h n) (hb : ∀ m cs c n, vv m → h m = some (.box cs) → c ∈ cs → c.ref n → u n) {x : AVal} (hx : ∀ m, x.refv m → u m) (hv : ∀ m, x.refv m → vv m) : viewA h' x = viewA h x := by
 cases x with
 | one c => cases c with
  | ptr n k sz off =>
   simp only [viewA, hh n (hx n rfl)]
   cases hn : h n with
   | none => rfl
   | some b => cases b with
    | box cs => simp only [viewL_h hh fun p hp m hm => hb n cs p m (hv n rfl) hn hp (ACell.ref_of0 hm)]
    | row gr m sz xs => rfl
  | dptr xs off => rfl
  | c x => rfl
  | nil sz => rfl
  | sl n sz lo len => simp only [viewA]; rw [viewC_h hh (p := .sl n sz lo len) hx]
  | nsl n k rsz off sz len => simp only [viewA]; rw [viewC_h hh (p := .nsl n k rsz off sz len) hx]
  | nptr n k rsz off sz i => rfl
  | fn f caps => rfl
  | junk => rfl
 | agg cs => simp only [viewA, viewL_h hh fun p hp m hm => hx m ⟨p, hp, hm⟩]
 | tup xs => rfl
theorem viewAs_h (hh : ∀ n, u n → h' n = h n) (hb : ∀ m cs c n, vv m → h m = some (.box cs) → c ∈ cs → c.ref n → u n) : ∀ {xs : List AVal} (_ : ∀ x ∈ xs, ∀ m, x.refv m → u m) (_ : ∀ x ∈ xs, ∀ m, x.refv m → vv m), viewAs h' xs = viewAs h xs
 | [], _, _ => rfl
 | x :: xs, hx, hv => by
  have h1 := viewA_h hh hb (hx x (by simp)) (hv x (by simp))
  have h2 := viewAs_h hh hb (xs := xs) (fun p q => hx p (List.mem_cons_of_mem _ q)) (fun p q => hv p (List.mem_cons_of_mem _ q))
  simp only [viewAs, h1, h2]
theorem mitem_h (hh : ∀ n, u n → h' n = h n) {md : Mode} {c : ACell} (hp : ∀ m, c.ref m → u m) : mitem h' md c = mitem h md c := by
 cases c with
 | sl n sz lo len => simp only [mitem, hh n (hp n rfl)]
 | nsl n k rsz off sz len => simp only [mitem, hh n (hp n rfl)]
 | _ => rfl
theorem hwo_h (hh : ∀ n, u n → h' n = h n) (ns : List Nat) : ∀ n, u n → hwo h' ns n = hwo h ns n := fun n hn => by simp only [hwo, hh n hn]
theorem mcells_h (hh : ∀ n, u n → h' n = h n) (ns : List Nat) : ∀ (fs : List (Option Mode)) (cs : List ACell), (∀ c ∈ cs, ∀ m, c.ref m → u m) → mcells h' (hwo h' ns) fs cs = mcells h (hwo h ns) fs cs
 | [], cs, hc => by simp only [mcells, viewL_h (hwo_h hh ns) fun p hp m hm => hc p hp m (ACell.ref_of0 hm)]
 | none :: fs, c :: cs, hc => by
  simp only [mcells, viewC_h (hwo_h hh ns) fun m hm => hc c (by simp) m (ACell.ref_of0 hm), mcells_h hh ns fs cs fun p hp => hc p (by simp [hp])]
 | some md :: fs, c :: cs, hc => by
  simp only [mcells, mitem_h hh (hc c (by simp)), mcells_h hh ns fs cs fun p hp => hc p (by simp [hp])]
 | none :: _, [], _ => rfl
 | some _ :: _, [], _ => rfl
theorem mviews_h (hh : ∀ n, u n → h' n = h n) (ns : List Nat) : ∀ (as : List (Bool × List ACell)) (sig : MSig), (∀ x ∈ as, ∀ c ∈ x.2, ∀ m, c.ref m → u m) → mviews h' (hwo h' ns) sig as = mviews h (hwo h ns) sig as
 | [], _, _ => rfl
 | (ag, cs) :: as, sig, hc => by
  simp only [mviews, mcells_h hh ns (MSig.hd sig) cs (hc (ag, cs) (by simp)), mviews_h hh ns as (MSig.tl sig) fun x hx => hc x (by simp [hx])]
theorem mnames_ref : ∀ {fs : List (Option Mode)} {cs : List ACell} {n : Nat}, n ∈ mnames fs cs → ∃ c ∈ cs, c.ref n
 | some _ :: fs, c :: cs, n, hn => by
  simp only [mnames] at hn
  rcases List.mem_append.1 hn with h | h
  ·refine ⟨c, by simp, ?_⟩
   cases c <;> simp [ACell.name?] at h <;> (subst h; rfl)
  ·obtain ⟨c', h1, h2⟩ := mnames_ref h
   exact ⟨c', by simp [h1], h2⟩
 | none :: fs, c :: cs, n, hn => by
  simp only [mnames] at hn
  obtain ⟨c', h1, h2⟩ := mnames_ref hn
  exact ⟨c', by simp [h1], h2⟩
 | [], _, n, hn => by simp [mnames] at hn
 | some _ :: _, [], n, hn => by simp [mnames] at hn
 | none :: _, [], n, hn => by simp [mnames] at hn
theorem mnamesA_ref : ∀ {as : List (Bool × List ACell)} {sig : MSig} {n : Nat}, n ∈ mnamesA sig as → ∃ x ∈ as, ∃ c ∈ x.2, c.ref n
 | a :: as, s :: sig, n, hn => by
  simp only [mnamesA] at hn
  rcases List.mem_append.1 hn with h | h
  ·obtain ⟨c, h1, h2⟩ := mnames_ref h
   exact ⟨a, by simp, c, h1, h2⟩
  ·obtain ⟨x, h1, h2⟩ := mnamesA_ref h
   exact ⟨x, by simp [h1], h2⟩
 | [], s :: sig, n, hn => by simp [mnamesA] at hn
 | as, [], n, hn => by cases as <;> simp [mnamesA] at hn
theorem mArgs_ref : ∀ {as : List AVal} {cas : List (Bool × List ACell)}, mArgs as = some cas → ∀ x ∈ cas, ∀ c ∈ x.2, ∀ m, c.ref m → ∃ v ∈ as, v.ref m
 | [], cas, hx, x, hm => by simp only [mArgs] at hx; injection hx with hx; subst hx; cases hm
 | v :: vs, cas, hx, x, hm => by
  simp only [mArgs] at hx
  split at hx
  ·rename_i y ys e1 e2
   injection hx with hx
   subst hx
   intro c hc m hr
   cases hm with
   | head => exact ⟨v, by simp, AVal.cells_ref e1 hc hr⟩
   | tail _ hm =>
    obtain ⟨v', h1, h2⟩ := mArgs_ref e2 x hm c hc m hr
    exact ⟨v', by simp [h1], h2⟩
  ·cases hx
theorem doCallW_h (hh : ∀ n, u n → h' n = h n) {T : Tab} {f : FuncId} {as : List AVal} (hx : ∀ x ∈ as, ∀ m, x.ref m → u m) : doCallW T f as h' = doCallW T f as h := by
 unfold doCallW
 cases Tab.findW T.ws f with
 | none => rfl
 | some M =>
  obtain ⟨sig, M⟩ := M
  cases hc : mArgs as with
  | none => rfl
  | some cas =>
   have hr : ∀ x ∈ cas, ∀ c ∈ x.2, ∀ m, c.ref m → u m := fun x h1 c h2 m h3 => by
    obtain ⟨v, a1, a2⟩ := mArgs_ref hc x h1 c h2 m h3
    exact hx v a1 m a2
   simp only
   cases hn : mnamesA sig cas with
   | nil => rfl
   | cons n l =>
    cases l with
    | cons n2 l => rfl
    | nil =>
     obtain ⟨x, h1, c, h2, h3⟩ := mnamesA_ref (n := n) (sig := sig) (as := cas) (by rw [hn]; simp)
     simp only [mviews_h hh [n] cas sig hr, hh n (hr x h1 c h2 n h3)]
theorem rd_h0 (T : Tab) (d : Option Nat) (op : MOp) (ev : MO → AVal) (hh : ∀ n, u n → h' n = h n) (hb0 : op.isCall = true → ∀ m cs c n, vv m → h m = some (.box cs) → c ∈ cs → c.ref n → u n)
  (hx : ∀ x ∈ op.args, ∀ m, (ev x).ref m → u m) (hv0 : ∀ x ∈ op.args, ∀ m, (ev x).ref m → vv m) : rd T d op ev h' = rd T d op ev h := by
 cases op with
 | load ag sz x =>
  have h1 := hx x (by simp [MOp.args])
  simp only [rd]
  cases hv : ev x with
  | one p => rw [hv] at h1; simp only [loadAt_h hh (p := p) h1]
  | _ => rfl
 | nilchk x =>
  have h1 := hx x (by simp [MOp.args])
  simp only [rd]
  cases hv : ev x with
  | one p => cases p with
   | ptr n k sz off => rw [hv] at h1; simp only [hh n (h1 n rfl)]
   | _ => rfl
  | _ => rfl
 | fieldA off x =>
  have h1 := hx x (by simp [MOp.args])
  simp only [rd]
  cases hv : ev x with
  | one p => cases p with
   | ptr n k sz off => rw [hv] at h1; simp only [hh n (h1 n rfl)]
   | _ => rfl
  | _ => rfl
 | len x =>
  have h1 := hx x (by simp [MOp.args])
  simp only [rd]
  cases hv : ev x with
  | one p => cases p with
   | sl n sz lo len => rw [hv] at h1; simp only [hh n (h1 n rfl)]
   | nsl n k rsz off sz len => rw [hv] at h1; simp only [viewC_h hh (p := .nsl n k rsz off sz len) (fun m hm => h1 m (ACell.ref_of0 hm))]
   | c x => cases x <;> rfl
   | _ => rfl
  | _ => rfl
 | rowm f col x =>
  have h1 := hx x (by simp [MOp.args])
  simp only [rd]
  cases hv : ev x with
  | one p => cases p with
   | sl n sz lo len => rw [hv] at h1; simp only [hh n (h1 n rfl)]
   | c x => cases x <;> rfl
   | _ => rfl
  | _ => rfl
 | idxA sz x i =>
  have h1 := hx x (by simp [MOp.args])
  simp only [rd]
  generalize (ev i).int? = q
  cases hv : ev x with
  | one p => cases p with
   | sl n s lo len =>
    rw [hv] at h1
    have h2 := hh n (h1 n rfl)
    cases q with
    | none => rfl
    | some q => simp only [h2]
   | nsl n k rsz off s len =>
    rw [hv] at h1
    cases q with
    | none => rfl
    | some q => simp only [viewC_h hh (p := .nsl n k rsz off s len) (fun m hm => h1 m (ACell.ref_of0 hm))]
   | c x => cases x <;> cases q <;> rfl
   | _ => cases q <;> rfl
  | _ => cases q <;> rfl
 | slice sz x lo hi =>
  have h1 := hx x (by simp [MOp.args])
  simp only [rd]
  cases hv : ev x with
  | one p => cases p with
   | sl n s l0 len =>
    rw [hv] at h1
    have h2 := hh n (h1 n rfl)
    cases lo with
    | none => simp only [h2]
    | some lo =>
     simp only
     cases (ev lo).int? with
     | none => rfl
     | some q => simp only [h2]
   | c x => cases lo with
    | none => cases x <;> rfl
    | some lo =>
     simp only
     cases (ev lo).int? <;> cases x <;> rfl
   | _ => cases lo <;> rfl
  | _ => cases lo <;> rfl
 | call m f xs =>
  simp only [rd, callB]
  have go : ∀ u' : Nat → Prop, (∀ x ∈ (MOp.call m f xs).args, ∀ m, (ev x).ref m → u' m) → ∀ x ∈ xs.map ev, ∀ m, x.refv m → u' m := by
   intro u' hx x hxm q hq
   obtain ⟨y, hy, rfl⟩ := List.mem_map.1 hxm
   exact hx y hy q (AVal.ref_ofv hq)
  rw [viewAs_h hh (hb0 rfl) (go _ hx) (go _ hv0)]
 | calld f xs =>
  simp only [rd, callDB]
  have go : ∀ u' : Nat → Prop, (∀ x ∈ (MOp.calld f xs).args, ∀ m, (ev x).ref m → u' m) → ∀ x ∈ xs.map ev, ∀ m, x.refv m → u' m := by
   intro u' hx x hxm q hq
   obtain ⟨y, hy, rfl⟩ := List.mem_map.1 hxm
   exact hx y hy q (AVal.ref_ofv hq)
  rw [viewAs_h hh (hb0 rfl) (go _ hx) (go _ hv0)]
 | callw f xs =>
  have : doCallW T f (xs.map ev) h' = doCallW T f (xs.map ev) h := doCallW_h hh fun x hxm q hq => by
   obtain ⟨y, hy, rfl⟩ := List.mem_map.1 hxm
   exact hx y hy q hq
  simp only [rd, this]
 | callv m x xs =>
  simp only [rd]
  cases hv : ev x with
  | one p => cases p with
   | fn f caps =>
    simp only [callB]
    have go : ∀ u' : Nat → Prop, (∀ y ∈ (MOp.callv m x xs).args, ∀ m, (ev y).ref m → u' m) → ∀ y ∈ xs.map ev ++ caps.map AVal.one, ∀ m, y.refv m → u' m := by
     intro u' hx y hym q hq
     rcases List.mem_append.1 hym with hy | hy
     ·obtain ⟨z, hz, rfl⟩ := List.mem_map.1 hy
      exact hx z (by simp [MOp.args, hz]) q (AVal.ref_ofv hq)
     ·obtain ⟨z, hz, rfl⟩ := List.mem_map.1 hy
      refine hx x (by simp [MOp.args]) q ?_
      rw [hv]
      exact ⟨z, hz, hq⟩
    rw [viewAs_h hh (hb0 rfl) (go _ hx) (go _ hv0)]
   | _ => rfl
  | _ => rfl
 | _ => rfl
theorem rd_h (T : Tab) (d : Option Nat) (op : MOp) (ev : MO → AVal) (hh : ∀ n, u n → h' n = h n) (hb : ∀ m cs c n, h m = some (.box cs) → c ∈ cs → c.ref n → u n)
  (hx : ∀ x ∈ op.args, ∀ m, (ev x).ref m → u m) : rd T d op ev h' = rd T d op ev h :=
 rd_h0 (vv := fun _ => True) T d op ev hh (fun _ m cs c n _ => hb m cs c n) hx (fun _ _ _ _ => trivial)
theorem rd_val (T : Tab) (d : Option Nat) (op : MOp) (ev : MO → AVal) (h h' : Nat → Option Blk) (hc : op.cls = 0) : rd T d op ev h' = rd T d op ev h := by
 cases op <;> simp [MOp.cls] at hc <;> rfl
end
end Go.Am