/- S6: heads and code of the typed evaluator. No condition. -/
import Derived.Test.YtbogogbogdafiaaS5
set_option linter.unusedVariables false
set_option linter.unusedSimpArgs false
namespace Go.Am
def SC.clean0 (ok : Nat → Bool) : SC → SC
 | .ptr n k sz off => match ok n with | true => .ptr n k sz off | false => .junk
 | .sl n sz lo len => match ok n with | true => .sl n sz lo len | false => .junk
 | .nsl n k rsz off sz len => match ok n with | true => .nsl n k rsz off sz len | false => .junk
 | .nptr n k rsz off sz i => match ok n with | true => .nptr n k rsz off sz i | false => .junk
 | x => x
def SC.clean (ok : Nat → Bool) : SC → SC
 | .fn f caps => .fn f (caps.map (SC.clean0 ok))
 | .v t x => .v t x
 | .nil ts => .nil ts
 | .ptr n k sz off => SC.clean0 ok (.ptr n k sz off)
 | .dptr ts x off => .dptr ts x off
 | .sl n sz lo len => SC.clean0 ok (.sl n sz lo len)
 | .nsl n k rsz off sz len => SC.clean0 ok (.nsl n k rsz off sz len)
 | .nptr n k rsz off sz i => SC.clean0 ok (.nptr n k rsz off sz i)
 | .junk => .junk
theorem SC.clean0_er (ok : Nat → Bool) (c : SC) : (c.clean0 ok).er = c.er.clean0 ok := by
 cases c with
 | ptr n k sz off => simp only [SC.clean0, SC.er, ACell.clean0]; cases ok n <;> rfl
 | sl n sz lo len => simp only [SC.clean0, SC.er, ACell.clean0]; cases ok n <;> rfl
 | nsl n k rsz off sz len => simp only [SC.clean0, SC.er, ACell.clean0]; cases ok n <;> rfl
 | nptr n k rsz off sz i => simp only [SC.clean0, SC.er, ACell.clean0]; cases ok n <;> rfl
 | _ => rfl
theorem SC.clean_er (ok : Nat → Bool) (c : SC) : (c.clean ok).er = c.er.clean ok := by
 cases c with
 | fn f caps =>
  simp only [SC.clean, SC.er, ACell.clean, SC.erl_eq, List.map_map]
  congr 1
  exact List.map_congr_left fun c _ => SC.clean0_er ok c
 | ptr n k sz off => exact SC.clean0_er ok (.ptr n k sz off)
 | sl n sz lo len => exact SC.clean0_er ok (.sl n sz lo len)
 | nsl n k rsz off sz len => exact SC.clean0_er ok (.nsl n k rsz off sz len)
 | nptr n k rsz off sz i => exact SC.clean0_er ok (.nptr n k rsz off sz i)
 | _ => rfl
def SV.clean (ok : Nat → Bool) : SV → SV
 | .one c => .one (c.clean ok)
 | .agg cs => .agg (cs.map (SC.clean ok))
 | .tup xs => .tup (xs.map fun x => (x.1, x.2.map (SC.clean ok)))
theorem cleanL_er (ok : Nat → Bool) (cs : List SC) : (cs.map (SC.clean ok)).map SC.er = (cs.map SC.er).map (ACell.clean ok) := by
 simp only [List.map_map]
 exact List.map_congr_left fun c _ => SC.clean_er ok c
theorem SV.clean_er (ok : Nat → Bool) (v : SV) : (v.clean ok).er = v.er.clean ok := by
 cases v with
 | one c => simp only [SV.clean, SV.er, AVal.clean, SC.clean_er]
 | agg cs => simp only [SV.clean, SV.er, AVal.clean, cleanL_er]
 | tup xs =>
  simp only [SV.clean, SV.er, AVal.clean, List.map_map]
  congr 1
  exact List.map_congr_left fun x _ => by simp only [Function.comp]; rw [cleanL_er]
def SB.clean (ok : Nat → Bool) : SB → SB
 | .box cs => .box (cs.map (SC.clean ok))
 | .row gr m ts xs => .row gr m ts xs
theorem SB.clean_er (ok : Nat → Bool) (b : SB) : (b.clean ok).er = b.er.clean ok := by
 cases b with
 | box cs => simp only [SB.clean, SB.er, Blk.clean, cleanL_er]
 | row gr m ts xs => rfl
def srestrE (ok : Nat → Bool) (env : Nat → SV) : List Nat → (Nat → SV)
 | [] => fun _ => .one .junk
 | s :: ss => upd (srestrE ok env ss) s ((env s).clean ok)
def srestrH (ok : Nat → Bool) (h : Nat → Option SB) : List Nat → (Nat → Option SB)
 | [] => fun _ => none
 | s :: ss => match ok s with
  | true => match h s with
   | some b => upd (srestrH ok h ss) s (some (b.clean ok))
   | none => srestrH ok h ss
  | false => srestrH ok h ss
def srestrU (ok : Nat → Bool) : List Nat → (Nat → Bool)
 | [] => fun _ => false
 | s :: ss => match ok s with
  | true => upd (srestrU ok ss) s true
  | false => srestrU ok ss
theorem srestrE_er (ok : Nat → Bool) (env : Nat → SV) : ∀ l, erE (srestrE ok env l) = restrE ok (erE env) l
 | [] => rfl
 | s :: ss => by simp only [srestrE, restrE, erE_upd, srestrE_er ok env ss, SV.clean_er]; rfl
theorem srestrH_er (ok : Nat → Bool) (h : Nat → Option SB) : ∀ l, erH (srestrH ok h l) = restrH ok (erH h) l
 | [] => rfl
 | s :: ss => by
  simp only [srestrH, restrH]
  cases ok s with
  | false => simp only [srestrH_er ok h ss, Bool.false_eq_true, if_false]
  | true =>
   have : erH h s = (h s).map SB.er := rfl
   simp only [if_true, this]
   cases h s with
   | none => simp only [Option.map_none, srestrH_er ok h ss]
   | some b => simp only [erH_upd, srestrH_er ok h ss, Option.map_some, SB.clean_er]
theorem srestrU_er (ok : Nat → Bool) : ∀ l, srestrU ok l = restrU ok l
 | [] => rfl
 | s :: ss => by
  simp only [srestrU, restrU]
  cases ok s <;> simp [srestrU_er ok ss]
theorem srestrE_out (ok : Nat → Bool) (env : Nat → SV) : ∀ (l : List Nat) (s : Nat), s ∉ l → srestrE ok env l s = .one .junk
 | [], s, _ => rfl
 | a :: l, s, h => by
  simp only [List.mem_cons, not_or] at h
  simp only [srestrE, upd_ne _ _ _ _ h.1, srestrE_out ok env l s h.2]
theorem srestrH_out (ok : Nat → Bool) (hp : Nat → Option SB) : ∀ (l : List Nat) (s : Nat), s ∉ l → srestrH ok hp l s = none
 | [], s, _ => rfl
 | a :: l, s, h => by
  simp only [List.mem_cons, not_or] at h
  have ih := srestrH_out ok hp l s h.2
  simp only [srestrH]
  cases ok a with
  | false => exact ih
  | true =>
   cases hp a with
   | none => exact ih
   | some b => simp only [upd_ne _ _ _ _ h.1]; exact ih
theorem srestrU_out (ok : Nat → Bool) : ∀ (l : List Nat) (s : Nat), s ∉ l → srestrU ok l s = false
 | [], s, _ => rfl
 | a :: l, s, h => by
  simp only [List.mem_cons, not_or] at h
  have ih := srestrU_out ok l s h.2
  simp only [srestrU]
  cases ok a with
  | false => exact ih
  | true => simp only [upd_ne _ _ _ _ h.1]; exact ih
def SC.refB0 (n : Nat) : SC → Bool
 | .ptr m _ _ _ => Nat.beq m n
 | .sl m _ _ _ => Nat.beq m n
 | .nsl m _ _ _ _ _ => Nat.beq m n
 | .nptr m _ _ _ _ _ => Nat.beq m n
 | _ => false
def SC.refB (n : Nat) : SC → Bool
 | .fn _ caps => caps.any (SC.refB0 n)
 | .ptr m _ _ _ => Nat.beq m n
 | .sl m _ _ _ => Nat.beq m n
 | .nsl m _ _ _ _ _ => Nat.beq m n
 | .nptr m _ _ _ _ _ => Nat.beq m n
 | .v _ _ => false
 | .nil _ => false
 | .dptr _ _ _ => false
 | .junk => false
theorem beq_nat (m n : Nat) : (m == n) = Nat.beq m n := by
 rw [Bool.eq_iff_iff, beq_iff_eq]
 exact ⟨fun h => by rw [h]; exact Nat.beq_refl n, Nat.eq_of_beq_eq_true⟩
theorem SC.refB0_er (n : Nat) (c : SC) : c.er.refB0 n = c.refB0 n := by
 cases c <;> simp [SC.er, ACell.refB0, SC.refB0, beq_nat]
theorem SC.refB_er (n : Nat) (c : SC) : c.er.refB n = c.refB n := by
 cases c with
 | fn f caps =>
  simp only [SC.er, SC.erl_eq, ACell.refB, SC.refB, List.any_map]
  congr 1
  funext c
  exact SC.refB0_er n c
 | ptr m _ _ _ => exact beq_nat m n
 | sl m _ _ _ => exact beq_nat m n
 | nsl m _ _ _ _ _ => exact beq_nat m n
 | nptr m _ _ _ _ _ => exact beq_nat m n
 | _ => rfl
def SV.refB (n : Nat) : SV → Bool
 | .one c => c.refB n
 | .agg cs => cs.any (SC.refB n)
 | .tup xs => xs.any fun x => x.2.any (SC.refB n)
theorem refBL_er (n : Nat) (cs : List SC) : (cs.map SC.er).any (ACell.refB n) = cs.any (SC.refB n) := by
 rw [List.any_map]
 congr 1
 funext c
 exact SC.refB_er n c
theorem SV.refB_er (n : Nat) (v : SV) : v.er.refB n = v.refB n := by
 cases v with
 | one c => exact SC.refB_er n c
 | agg cs => exact refBL_er n cs
 | tup xs =>
  simp only [SV.er, AVal.refB, SV.refB, List.any_map]
  congr 1
  funext x
  exact refBL_er n x.2
def refBox (n : Nat) : Option SB → Bool
 | some (.box cs) => cs.any (SC.refB n)
 | _ => false
def elemN (n : Nat) : List Nat → Bool
 | [] => false
 | m :: l => match Nat.beq n m with
  | true => true
  | false => elemN n l
theorem elemN_eq (n : Nat) : ∀ l : List Nat, elemN n l = l.contains n
 | [] => rfl
 | m :: l => by
  simp only [elemN, List.contains_cons]
  have e : (n == m) = Nat.beq n m := by cases h : Nat.beq n m with
   | true => simpa using Nat.eq_of_beq_eq_true h
   | false => simp; intro h'; rw [h', Nat.beq_refl] at h; cases h
  rw [e, elemN_eq n l]
  cases Nat.beq n m <;> rfl
def SSt.okN (σ : SSt) (ke kh : List Nat) : Nat → Bool := fun n => (σ.h n).isSome && elemN n kh && (Nat.ble PIN n || ke.any (fun s => (σ.env s).refB n) || kh.any fun k => refBox n (σ.h k))
theorem SSt.okN_er (σ : SSt) (ke kh : List Nat) : σ.er.okN ke kh = σ.okN ke kh := by
 funext n
 simp only [St.okN, SSt.okN]
 have h1 : (σ.er.h n).isSome = (σ.h n).isSome := erH_isSome σ.h n
 have h2 : (fun s => (σ.er.env s).refB n) = fun s => (σ.env s).refB n := by funext s; exact SV.refB_er n _
 have h3 : (fun k => match σ.er.h k with | some (.box cs) => cs.any (·.refB n) | _ => false) = fun k => refBox n (σ.h k) := by
  funext k
  have : σ.er.h k = (σ.h k).map SB.er := rfl
  rw [this]
  cases σ.h k with
  | none => rfl
  | some b => cases b with
   | box cs => exact refBL_er n cs
   | row gr m ts xs => rfl
 rw [h1, h2, elemN_eq, Bool.and_comm (x := (σ.h n).isSome)]
 exact congrArg (fun g : Nat → Bool => (kh.contains n && (σ.h n).isSome && ((Nat.ble PIN n || ke.any fun s => SV.refB n (σ.env s)) || kh.any g))) h3
def SSt.restr (σ : SSt) (ke kh : List Nat) : SSt :=
 { env := srestrE (σ.okN ke kh) σ.env ke, h := srestrH (σ.okN ke kh) σ.h kh, used := fun n => Nat.ble PIN n || srestrU (σ.okN ke kh) kh n }
theorem SSt.restr_er (σ : SSt) (ke kh : List Nat) : (σ.restr ke kh).er = σ.er.restr ke kh := by
 simp only [SSt.restr, St.restr, SSt.okN_er]
 have e1 := srestrE_er (σ.okN ke kh) σ.env ke
 have e2 := srestrH_er (σ.okN ke kh) σ.h kh
 have e3 := srestrU_er (σ.okN ke kh) kh
 show St.mk (erE (srestrE (σ.okN ke kh) σ.env ke)) (erH (srestrH (σ.okN ke kh) σ.h kh)) (fun n => Nat.ble PIN n || srestrU (σ.okN ke kh) kh n) = _
 rw [e1, e2, e3]
 rfl
def srnm (x c n : Nat) : Nat := match Nat.beq n x with | true => c | false => n
theorem srnm_eq (x c n : Nat) : srnm x c n = rnm x c n := by
 unfold srnm rnm
 cases h : Nat.beq n x with
 | true => rw [if_pos (Nat.eq_of_beq_eq_true h)]
 | false => rw [if_neg (fun e => by rw [e, Nat.beq_refl] at h; cases h)]
def SC.ren0 (x c : Nat) : SC → SC
 | .ptr n k sz off => .ptr (srnm x c n) k sz off
 | .sl n sz lo len => .sl (srnm x c n) sz lo len
 | .nsl n k rsz off sz len => .nsl (srnm x c n) k rsz off sz len
 | .nptr n k rsz off sz i => .nptr (srnm x c n) k rsz off sz i
 | y => y
def SC.ren (x c : Nat) : SC → SC
 | .fn f caps => .fn f (caps.map (SC.ren0 x c))
 | .ptr n k sz off => .ptr (srnm x c n) k sz off
 | .sl n sz lo len => .sl (srnm x c n) sz lo len
 | .nsl n k rsz off sz len => .nsl (srnm x c n) k rsz off sz len
 | .nptr n k rsz off sz i => .nptr (srnm x c n) k rsz off sz i
 | .v t y => .v t y
 | .nil ts => .nil ts
 | .dptr ts y off => .dptr ts y off
 | .junk => .junk
theorem SC.ren0_er (x c : Nat) (y : SC) : (y.ren0 x c).er = y.er.ren0 x c := by
 cases y <;> simp [SC.ren0, SC.er, ACell.ren0, srnm_eq]
theorem SC.ren_er (x c : Nat) (y : SC) : (y.ren x c).er = y.er.ren x c := by
 cases y with
 | fn f caps =>
  simp only [SC.ren, SC.er, ACell.ren, SC.erl_eq, List.map_map]
  congr 1
  exact List.map_congr_left fun y _ => SC.ren0_er x c y
 | ptr n k sz off => simp only [SC.ren, SC.er, ACell.ren, ACell.ren0, srnm_eq]
 | sl n sz lo len => simp only [SC.ren, SC.er, ACell.ren, ACell.ren0, srnm_eq]
 | nsl n k rsz off sz len => simp only [SC.ren, SC.er, ACell.ren, ACell.ren0, srnm_eq]
 | nptr n k rsz off sz i => simp only [SC.ren, SC.er, ACell.ren, ACell.ren0, srnm_eq]
 | _ => rfl
theorem renL_er (x c : Nat) (cs : List SC) : (cs.map (SC.ren x c)).map SC.er = (cs.map SC.er).map (ACell.ren x c) := by
 simp only [List.map_map]
 exact List.map_congr_left fun y _ => SC.ren_er x c y
def SV.ren (x c : Nat) : SV → SV
 | .one y => .one (y.ren x c)
 | .agg ys => .agg (ys.map (SC.ren x c))
 | .tup ys => .tup (ys.map fun y => (y.1, y.2.map (SC.ren x c)))
theorem SV.ren_er (x c : Nat) (v : SV) : (v.ren x c).er = v.er.ren x c := by
 cases v with
 | one y => simp only [SV.ren, SV.er, AVal.ren, SC.ren_er]
 | agg cs => simp only [SV.ren, SV.er, AVal.ren, renL_er]
 | tup xs =>
  simp only [SV.ren, SV.er, AVal.ren, List.map_map]
  congr 1
  exact List.map_congr_left fun y _ => by simp only [Function.comp]; rw [renL_er]
def SB.ren (x c : Nat) : SB → SB
 | .box cs => .box (cs.map (SC.ren x c))
 | .row gr m ts xs => .row gr m ts xs
theorem SB.ren_er (x c : Nat) (b : SB) : (b.ren x c).er = b.er.ren x c := by
 cases b with
 | box cs => simp only [SB.ren, SB.er, Blk.ren, renL_er]
 | row gr m ts xs => rfl
def SSt.ren (σ : SSt) (x c : Nat) : Option SSt :=
  match Nat.beq x c with
  | true => some σ
  | false => match Nat.ble PIN x with
   | true => some σ
   | false => match σ.used c with
    | true => none
    | false => some
      { env := fun s => (σ.env s).ren x c
        h := fun n => match Nat.beq n c with
          | true => (σ.h x).map (SB.ren x c)
          | false => match Nat.beq n x with
            | true => none
            | false => (σ.h n).map (SB.ren x c)
        used := fun n => match Nat.beq n c with
          | true => σ.used x
          | false => match Nat.beq n x with
            | true => false
            | false => σ.used n }

theorem natbeq_false {m n : Nat} (h : Nat.beq m n = false) : m ≠ n := fun e => by rw [e, Nat.beq_refl] at h; cases h
theorem SSt.ren_er {σ σ1 : SSt} {x c : Nat} (h : σ.ren x c = some σ1) : σ.er.ren x c = some σ1.er := by
 unfold SSt.ren at h
 split at h
 ·rename_i e
  injection h with h
  subst h
  simp [St.ren, Nat.eq_of_beq_eq_true e]
 ·rename_i e
  split at h
  ·rename_i hx
   injection h with h
   subst h
   simp only [St.ren, if_neg (natbeq_false e), hx, if_true]
  rename_i hx
  split at h
  ·cases h
  ·rename_i hu
   injection h with h
   subst h
   have hu' : σ.er.used c = false := hu
   simp only [St.ren, if_neg (natbeq_false e), hx, hu', Bool.false_eq_true, if_false]
   congr 1
   have mm : ∀ o : Option SB, (o.map (SB.ren x c)).map SB.er = (o.map SB.er).map (·.ren x c) := by
    intro o; cases o with
    | none => rfl
    | some b => simp only [Option.map_some, SB.ren_er]
   have e1 : (fun s => (σ.er.env s).ren x c) = erE (fun s => (σ.env s).ren x c) := by
    funext s; exact (SV.ren_er x c (σ.env s)).symm
   have e2 : (fun n => if n = c then (σ.er.h x).map (·.ren x c) else if n = x then none else (σ.er.h n).map (·.ren x c)) = erH (fun n => match Nat.beq n c with
     | true => (σ.h x).map (SB.ren x c)
     | false => match Nat.beq n x with
      | true => none
      | false => (σ.h n).map (SB.ren x c)) := by
    funext n
    simp only [erH]
    cases hc : Nat.beq n c with
    | true => rw [if_pos (Nat.eq_of_beq_eq_true hc)]; exact (mm (σ.h x)).symm
    | false =>
     rw [if_neg (natbeq_false hc)]
     cases hx : Nat.beq n x with
     | true => rw [if_pos (Nat.eq_of_beq_eq_true hx)]; rfl
     | false => rw [if_neg (natbeq_false hx)]; exact (mm (σ.h n)).symm
   have e3 : (fun n => if n = c then σ.er.used x else if n = x then false else σ.er.used n) = (fun n => match Nat.beq n c with
     | true => σ.used x
     | false => match Nat.beq n x with
      | true => false
      | false => σ.used n) := by
    funext n
    cases hc : Nat.beq n c with
    | true => rw [if_pos (Nat.eq_of_beq_eq_true hc)]; rfl
    | false =>
     rw [if_neg (natbeq_false hc)]
     cases hx : Nat.beq n x with
     | true => rw [if_pos (Nat.eq_of_beq_eq_true hx)]
     | false => rw [if_neg (natbeq_false hx)]; rfl
   rw [e1, e2, e3]
   rfl
abbrev Cn := List (Bool × Nat × Nat × Nat × Mode × List Ty)
def Cn.er (cn : Cn) : List (Bool × Nat × Nat × Nat × Mode) := cn.map fun x => (x.1, x.2.1, x.2.2.1, x.2.2.2.1, x.2.2.2.2.1)
def SSt.weak (σ : SSt) (c : Nat) : Mode → SSt
 | .bor => match σ.h c with
  | some (.row gr .froz ts xs) => σ.setB c (.row gr .bor ts xs)
  | _ => σ
 | _ => σ
theorem SSt.er_weak (σ : SSt) (c : Nat) (m : Mode) : (σ.weak c m).er = σ.er.weak c m := by
 cases m with
 | live => rfl
 | froz => rfl
 | bor =>
  simp only [SSt.weak, St.weak]
  have hh : σ.er.h c = (σ.h c).map SB.er := rfl
  rw [hh]
  cases σ.h c with
  | none => rfl
  | some b => cases b with
   | box cs => rfl
   | row gr m ts xs => cases m with
    | froz => simp only [Option.map_some, SB.er, SSt.er_setB]
    | live => rfl
    | bor => rfl
def scanon (σ : SSt) : Bool × Nat × Nat × Nat × Mode × List Ty → Option SSt
 | (true, n, j, c, m, us) => match σ.h n with
  | some (.box cs) => match cs[j]? with
   | some (.sl a _ _ _) => (σ.ren a c).map fun σ1 => σ1.weak c m
   | some (.nil ts) => match ts with
    | [] => some σ
    | t :: ts => match σ.ins c (.row true m (t :: ts) []) with
     | some σ1 => some (σ1.setB n (.box (cs.set j (.sl c (t :: ts).length 0 0))))
     | none => none
   | _ => some σ
  | _ => some σ
 | (false, n, j, c, m, us) => match σ.env n with
  | .one (.sl a _ _ _) => (σ.ren a c).map fun σ1 => σ1.weak c m
  | .one (.nil ts) => match ts with
   | [] => some σ
   | t :: ts => match σ.ins c (.row true m (t :: ts) []) with
    | some σ1 => some (σ1.put (some n) (.one (.sl c (t :: ts).length 0 0)))
    | none => none
  | _ => some σ
theorem sren_weak_er {σ σ1 : SSt} {a c : Nat} {m : Mode} (h : (σ.ren a c).map (fun σ1 => σ1.weak c m) = some σ1) : (σ.er.ren a c).map (fun σ1 => σ1.weak c m) = some σ1.er := by
 rw [Option.map_eq_some_iff] at h
 obtain ⟨σ2, e, rfl⟩ := h
 rw [SSt.ren_er e, Option.map_some, SSt.er_weak]
theorem scanon_er {σ σ1 : SSt} {x : Bool × Nat × Nat × Nat × Mode × List Ty} (h : scanon σ x = some σ1) : σ.er.canon (x.1, x.2.1, x.2.2.1, x.2.2.2.1, x.2.2.2.2.1) = some σ1.er := by
 obtain ⟨b, n, j, c, m, us⟩ := x
 cases b with
 | true =>
  simp only [scanon] at h
  simp only [St.canon]
  have hh : σ.er.h n = (σ.h n).map SB.er := rfl
  rw [hh]
  split at h
  ·rename_i cs hn
   simp only [hn, Option.map_some, SB.er, List.getElem?_map]
   split at h
   ·rename_i a _ _ _ hj
    simp only [hj, Option.map_some, SC.er]
    exact sren_weak_er h
   ·rename_i ts hj
    simp only [hj, Option.map_some, SC.er]
    split at h
    ·injection h with h; subst h; rfl
    ·rename_i t ts
     split at h
     ·rename_i σ2 e
      injection h with h
      subst h
      have i := SSt.er_ins e
      rw [show (SB.row true m (t :: ts) []).er = Blk.row true m (t :: ts).length [] from rfl] at i
      simp only [List.length_cons, Nat.zero_lt_succ, if_true] at i ⊢
      rw [i]
      simp only [SSt.er_setB, SB.er, List.map_set, SC.er, List.length_cons]
     ·cases h
   ·rename_i hs hz
    injection h with h
    subst h
    cases hj : cs[j]? with
    | none => rfl
    | some y => cases y <;> first | rfl | (exfalso; exact hs _ _ _ _ hj) | (exfalso; exact hz _ hj)
  ·rename_i hb
   injection h with h
   subst h
   cases hn : σ.h n with
   | none => rfl
   | some b => cases b with
    | box cs => exact absurd hn (hb cs)
    | row gr m ts xs => rfl
 | false =>
  simp only [scanon] at h
  simp only [St.canon]
  have hh : σ.er.env n = (σ.env n).er := rfl
  rw [hh]
  split at h
  ·rename_i a _ _ _ hn
   simp only [hn, SV.er, SC.er]
   exact sren_weak_er h
  ·rename_i ts hn
   simp only [hn, SV.er, SC.er]
   split at h
   ·injection h with h; subst h; rfl
   ·rename_i t ts
    split at h
    ·rename_i σ2 e
     injection h with h
     subst h
     have i := SSt.er_ins e
     rw [show (SB.row true m (t :: ts) []).er = Blk.row true m (t :: ts).length [] from rfl] at i
     simp only [List.length_cons, Nat.zero_lt_succ, if_true] at i ⊢
     rw [i]
     simp only [SSt.er_put, SV.er, SC.er, List.length_cons]
    ·cases h
  ·rename_i hs hz
   injection h with h
   subst h
   cases hn : σ.env n with
   | one y => cases y <;> first | rfl | (exfalso; exact hs _ _ _ _ hn) | (exfalso; exact hz _ hn)
   | _ => rfl
def scanons (σ : SSt) : Cn → Option SSt
 | [] => some σ
 | x :: l => match scanon σ x with
  | some σ1 => scanons σ1 l
  | none => none
theorem scanons_er : ∀ {cn : Cn} {σ σ1 : SSt}, scanons σ cn = some σ1 → σ.er.canons cn.er = some σ1.er
 | [], σ, σ1, h => by simp only [scanons] at h; injection h with h; subst h; rfl
 | x :: l, σ, σ1, h => by
  simp only [scanons] at h
  split at h
  ·rename_i σ2 e
   have i := scanon_er e
   have j := scanons_er h
   simp only [Cn.er] at j
   simp only [Cn.er, List.map_cons, St.canons, i, j]
  ·cases h
section
variable {ρ : Type}
def nameK (n : Nat) (k : Nat → Option ρ) : List Nat → Option ρ
 | [] => k n
 | c :: l => match Nat.beq n c with
  | true => k c
  | false => nameK n k l
theorem nameK_eq (n : Nat) (k : Nat → Option ρ) : ∀ l, nameK n k l = k n
 | [] => rfl
 | c :: l => by
  simp only [nameK]
  split
  ·rename_i e; rw [Nat.eq_of_beq_eq_true e]
  ·exact nameK_eq n k l
def forceC (kh : List Nat) (c : SC) (k : SC → Option ρ) : Option ρ :=
 match c with
 | .v t x => k (.v t x)
 | .nil ts => k (.nil ts)
 | .ptr n kk sz off => nameK n (fun n => k (.ptr n kk sz off)) kh
 | .dptr ts x off => k (.dptr ts x off)
 | .sl n sz lo len => nameK n (fun n => k (.sl n sz lo len)) kh
 | .nsl n a b c d e => nameK n (fun n => k (.nsl n a b c d e)) kh
 | .nptr n a b c d e => nameK n (fun n => k (.nptr n a b c d e)) kh
 | .fn f caps => k (.fn f caps)
 | .junk => k .junk
theorem forceC_eq (kh : List Nat) (c : SC) (k : SC → Option ρ) : forceC kh c k = k c := by
 cases c <;> first | rfl | exact nameK_eq _ _ _
def forceL (kh : List Nat) : List SC → (List SC → Option ρ) → Option ρ
 | [], k => k []
 | c :: cs, k => forceC kh c fun c => forceL kh cs fun cs => k (c :: cs)
theorem forceL_eq (kh : List Nat) : ∀ (cs : List SC) (k : List SC → Option ρ), forceL kh cs k = k cs
 | [], k => rfl
 | c :: cs, k => by simp only [forceL, forceC_eq, forceL_eq kh cs]
def forceEs (kh : List Nat) (env : Nat → SV) : List Nat → (List (Nat × SV) → Option ρ) → Option ρ
 | [], k => k []
 | s :: ss, k => match env s with
  | .one .junk => forceEs kh env ss k
  | .one c => forceC kh c fun c => forceEs kh env ss fun l => k ((s, .one c) :: l)
  | .agg cs => forceL kh cs fun cs => forceEs kh env ss fun l => k ((s, .agg cs) :: l)
  | .tup xs => forceEs kh env ss fun l => k ((s, .tup xs) :: l)
def forceHs (kh : List Nat) (h : Nat → Option SB) : List Nat → (List (Nat × Option SB) → Option ρ) → Option ρ
 | [], k => k []
 | n :: ns, k => match h n with
  | none => forceHs kh h ns k
  | some (.box cs) => forceL kh cs fun cs => forceHs kh h ns fun l => k ((n, some (.box cs)) :: l)
  | some (.row gr m ts xs) => forceHs kh h ns fun l => k ((n, some (.row gr m ts xs)) :: l)
def forceUs (u : Nat → Bool) : List Nat → (List Nat → Option ρ) → Option ρ
 | [], k => k []
 | n :: ns, k => match u n with
  | true => forceUs u ns fun l => k (n :: l)
  | false => forceUs u ns k
def usedL : List Nat → Nat → Bool
 | [], n => Nat.ble PIN n
 | m :: l, n => match Nat.beq n m with
  | true => true
  | false => usedL l n
def SSt.force (ke kh : List Nat) (σ : SSt) (k : SSt → Option ρ) : Option ρ :=
 forceEs kh σ.env ke fun le => forceHs kh σ.h kh fun lh => forceUs σ.used kh fun lu => k ⟨envOf le, heapOf lh, usedL lu⟩
structure Within (ke kh : List Nat) (σ : SSt) : Prop where
 e : ∀ s, s ∉ ke → σ.env s = .one .junk
 h : ∀ n, n ∉ kh → σ.h n = none
 u : ∀ n, n ∉ kh → σ.used n = Nat.ble PIN n
 p : ∀ n, σ.used n = false → Nat.ble PIN n = false
theorem forceEs_eq (kh : List Nat) (env : Nat → SV) : ∀ (ss : List Nat) (k : List (Nat × SV) → Option ρ), ∃ l : List (Nat × SV), forceEs kh env ss k = k l ∧ ∀ s, envOf l s = if s ∈ ss then env s else .one .junk
 | [], k => ⟨[], rfl, fun s => by simp [envOf]⟩
 | a :: ss, k => by
  have key : ∀ v : SV, env a = v → (∀ k' : List (Nat × SV) → Option ρ, ∃ l, forceEs kh env ss k' = k' l ∧ ∀ s, envOf l s = if s ∈ ss then env s else .one .junk) →
    ∃ l : List (Nat × SV), forceEs kh env ss (fun l => k ((a, v) :: l)) = k l ∧ ∀ s, envOf l s = if s ∈ a :: ss then env s else .one .junk := by
   intro v hv ih
   obtain ⟨l, h1, h2⟩ := ih fun l => k ((a, v) :: l)
   refine ⟨(a, v) :: l, h1, fun s => ?_⟩
   simp only [envOf, upd_def]
   split
   ·rename_i e
    subst e
    rw [if_pos (by simp)]
    exact hv.symm
   ·rename_i hne
    rw [h2 s]
    by_cases hs : s ∈ ss
    ·rw [if_pos hs, if_pos (by simp [hs])]
    ·rw [if_neg hs, if_neg (by simp [hs, hne])]
  have ih := fun k' : List (Nat × SV) → Option ρ => forceEs_eq kh env ss k'
  simp only [forceEs]
  split
  ·rename_i hv
   obtain ⟨l, h1, h2⟩ := ih k
   refine ⟨l, h1, fun s => ?_⟩
   rw [h2 s]
   by_cases hs : s ∈ ss
   ·rw [if_pos hs, if_pos (by simp [hs])]
   ·rw [if_neg hs]
    by_cases hsa : s = a
    ·subst hsa; rw [if_pos (by simp), hv]
    ·rw [if_neg (by simp [hs, hsa])]
  ·rename_i c hc hv
   rw [forceC_eq]
   exact key _ hv ih
  ·rename_i cs hv
   rw [forceL_eq]
   exact key _ hv ih
  ·rename_i xs hv
   exact key _ hv ih
theorem forceHs_eq (kh : List Nat) (h : Nat → Option SB) : ∀ (ns : List Nat) (k : List (Nat × Option SB) → Option ρ), ∃ l : List (Nat × Option SB), forceHs kh h ns k = k l ∧ ∀ n, heapOf l n = if n ∈ ns then h n else none
 | [], k => ⟨[], rfl, fun s => by simp [heapOf]⟩
 | a :: ns, k => by
  have key : ∀ v : Option SB, h a = v → (∀ k' : List (Nat × Option SB) → Option ρ, ∃ l, forceHs kh h ns k' = k' l ∧ ∀ s, heapOf l s = if s ∈ ns then h s else none) →
    ∃ l : List (Nat × Option SB), forceHs kh h ns (fun l => k ((a, v) :: l)) = k l ∧ ∀ s, heapOf l s = if s ∈ a :: ns then h s else none := by
   intro v hv ih
   obtain ⟨l, h1, h2⟩ := ih fun l => k ((a, v) :: l)
   refine ⟨(a, v) :: l, h1, fun s => ?_⟩
   simp only [heapOf, upd_def]
   split
   ·rename_i e
    subst e
    rw [if_pos (by simp)]
    exact hv.symm
   ·rename_i hne
    rw [h2 s]
    by_cases hs : s ∈ ns
    ·rw [if_pos hs, if_pos (by simp [hs])]
    ·rw [if_neg hs, if_neg (by simp [hs, hne])]
  have ih := fun k' : List (Nat × Option SB) → Option ρ => forceHs_eq kh h ns k'
  simp only [forceHs]
  split
  ·rename_i hv
   obtain ⟨l, h1, h2⟩ := ih k
   refine ⟨l, h1, fun s => ?_⟩
   rw [h2 s]
   by_cases hs : s ∈ ns
   ·rw [if_pos hs, if_pos (by simp [hs])]
   ·rw [if_neg hs]
    by_cases hsa : s = a
    ·subst hsa; rw [if_pos (by simp), hv]
    ·rw [if_neg (by simp [hs, hsa])]
  ·rename_i cs hv
   rw [forceL_eq]
   exact key _ hv ih
  ·rename_i gr m ts xs hv
   exact key _ hv ih
theorem forceUs_eq (u : Nat → Bool) (hp : ∀ n, u n = false → Nat.ble PIN n = false) : ∀ (ns : List Nat) (k : List Nat → Option ρ), ∃ l : List Nat, forceUs u ns k = k l ∧ ∀ n, usedL l n = if n ∈ ns then u n else Nat.ble PIN n
 | [], k => ⟨[], rfl, fun s => by simp [usedL]⟩
 | a :: ns, k => by
  simp only [forceUs]
  split
  ·rename_i hv
   obtain ⟨l, h1, h2⟩ := forceUs_eq u hp ns fun l => k (a :: l)
   refine ⟨a :: l, h1, fun s => ?_⟩
   simp only [usedL]
   split
   ·rename_i e
    have := Nat.eq_of_beq_eq_true e
    subst this
    rw [if_pos (by simp)]
    exact hv.symm
   ·rename_i e
    have hne := natbeq_false e
    rw [h2 s]
    by_cases hs : s ∈ ns
    ·rw [if_pos hs, if_pos (by simp [hs])]
    ·rw [if_neg hs, if_neg (by simp [hs, hne])]
  ·rename_i hv
   obtain ⟨l, h1, h2⟩ := forceUs_eq u hp ns k
   refine ⟨l, h1, fun s => ?_⟩
   rw [h2 s]
   by_cases hs : s ∈ ns
   ·rw [if_pos hs, if_pos (by simp [hs])]
   ·rw [if_neg hs]
    by_cases hsa : s = a
    ·subst hsa; rw [if_pos (by simp), hv, hp _ hv]
    ·rw [if_neg (by simp [hs, hsa])]
theorem force_eq {ke kh : List Nat} {σ : SSt} (W : Within ke kh σ) (k : SSt → Option ρ) : σ.force ke kh k = k σ := by
 unfold SSt.force
 obtain ⟨le, e1, e2⟩ := forceEs_eq kh σ.env ke fun le => forceHs kh σ.h kh fun lh => forceUs σ.used kh fun lu => k ⟨envOf le, heapOf lh, usedL lu⟩
 rw [e1]
 obtain ⟨lh, h1, h2⟩ := forceHs_eq kh σ.h kh fun lh => forceUs σ.used kh fun lu => k ⟨envOf le, heapOf lh, usedL lu⟩
 rw [h1]
 obtain ⟨lu, u1, u2⟩ := forceUs_eq σ.used W.p kh fun lu => k ⟨envOf le, heapOf lh, usedL lu⟩
 rw [u1]
 have a1 : envOf le = σ.env := by
  funext s
  rw [e2 s]
  split
  ·rfl
  ·rename_i hs; exact (W.e s hs).symm
 have a2 : heapOf lh = σ.h := by
  funext s
  rw [h2 s]
  split
  ·rfl
  ·rename_i hs; exact (W.h s hs).symm
 have a3 : usedL lu = σ.used := by
  funext s
  rw [u2 s]
  split
  ·rfl
  ·rename_i hs; exact (W.u s hs).symm
 rw [a1, a2, a3]
theorem Within.restr (ke kh : List Nat) (σ : SSt) : Within ke kh (σ.restr ke kh) :=
 ⟨fun s hs => srestrE_out _ _ _ s hs, fun n hn => srestrH_out _ _ _ n hn, fun n hn => by show (Nat.ble PIN n || srestrU _ _ n) = _; rw [srestrU_out _ _ n hn, Bool.or_false],
  fun n hn => by have hn' : (Nat.ble PIN n || srestrU _ _ n) = false := hn; simp only [Bool.or_eq_false_iff] at hn'; exact hn'.1⟩
theorem Within.ren {ke kh : List Nat} {σ σ1 : SSt} {a c : Nat} (W : Within ke kh σ) (hc : c ∈ kh) (h : σ.ren a c = some σ1) : Within ke kh σ1 := by
 unfold SSt.ren at h
 split at h
 ·injection h with h; subst h; exact W
 ·split at h
  ·injection h with h; subst h; exact W
  ·rename_i hpin
   split at h
   ·cases h
   ·rename_i huc
    injection h with h
    subst h
    refine ⟨fun s hs => ?_, fun n hn => ?_, fun n hn => ?_, fun n hn => ?_⟩
    ·show (σ.env s).ren a c = _
     rw [W.e s hs]; rfl
    ·simp only
     split
     ·rename_i e; exact absurd (by rw [Nat.eq_of_beq_eq_true e]; exact hc) hn
     ·split
      ·rfl
      ·rw [W.h n hn]; rfl
    ·simp only
     split
     ·rename_i e; exact absurd (by rw [Nat.eq_of_beq_eq_true e]; exact hc) hn
     ·split
      ·rename_i e; rw [Nat.eq_of_beq_eq_true e, hpin]
      ·exact W.u n hn
    ·simp only at hn
     split at hn
     ·rename_i e; rw [Nat.eq_of_beq_eq_true e]; exact W.p c huc
     ·split at hn
      ·rename_i e; rw [Nat.eq_of_beq_eq_true e, hpin]
      ·exact W.p n hn
theorem Within.ins {ke kh : List Nat} {σ σ1 : SSt} {c : Nat} {b : SB} (W : Within ke kh σ) (hc : c ∈ kh) (h : σ.ins c b = some σ1) : Within ke kh σ1 := by
 unfold SSt.ins at h
 split at h
 ·cases h
 ·rename_i huc
  injection h with h
  subst h
  refine ⟨W.e, fun n hn => ?_, fun n hn => ?_, fun n hn => ?_⟩
  ·show upd σ.h c _ n = _
   rw [upd_ne _ _ _ _ (fun e => hn (by rw [e]; exact hc))]; exact W.h n hn
  ·show upd σ.used c _ n = _
   rw [upd_ne _ _ _ _ (fun e => hn (by rw [e]; exact hc))]; exact W.u n hn
  ·have hn' : upd σ.used c true n = false := hn
   by_cases e : n = c
   ·subst e; rw [upd_same] at hn'; cases hn'
   ·rw [upd_ne _ _ _ _ e] at hn'; exact W.p n hn'
theorem Within.weak {ke kh : List Nat} {σ : SSt} (W : Within ke kh σ) (c : Nat) (m : Mode) : Within ke kh (σ.weak c m) := by
 cases m with
 | live => exact W
 | froz => exact W
 | bor =>
  simp only [SSt.weak]
  split
  ·rename_i gr ts xs hn
   exact ⟨W.e, fun n hk => by
    show upd σ.h c _ n = none
    have hnc : n ≠ c := fun e => by subst e; rw [W.h n hk] at hn; cases hn
    rw [upd_ne _ _ _ _ hnc]; exact W.h n hk, W.u, W.p⟩
  ·exact W
theorem Within.renWeak {ke kh : List Nat} {σ σ1 : SSt} {a c : Nat} {m : Mode} (W : Within ke kh σ) (hc : c ∈ kh) (h : (σ.ren a c).map (fun σ1 => σ1.weak c m) = some σ1) : Within ke kh σ1 := by
 rw [Option.map_eq_some_iff] at h
 obtain ⟨σ2, e, rfl⟩ := h
 exact (W.ren hc e).weak c m
theorem Within.canon {ke kh : List Nat} {σ σ1 : SSt} {x : Bool × Nat × Nat × Nat × Mode × List Ty} (W : Within ke kh σ) (hc : x.2.2.2.1 ∈ kh) (h : scanon σ x = some σ1) : Within ke kh σ1 := by
 obtain ⟨b, n, j, c, m, us⟩ := x
 simp only at hc
 have same : some σ = some σ1 → Within ke kh σ1 := fun h => by injection h with h; subst h; exact W
 cases b with
 | true =>
  simp only [scanon] at h
  split at h
  ·rename_i cs hn
   split at h
   ·exact W.renWeak hc h
   ·split at h
    ·exact same h
    ·split at h
     ·rename_i σ2 e
      injection h with h
      subst h
      have W2 := W.ins hc e
      have hnk : n ∈ kh := by
       rcases Decidable.em (n ∈ kh) with h | h
       ·exact h
       ·rw [W.h n h] at hn; cases hn
      exact ⟨W2.e, fun q hq => by show upd σ2.h n _ q = _; rw [upd_ne _ _ _ _ (fun e => hq (by rw [e]; exact hnk))]; exact W2.h q hq, W2.u, W2.p⟩
     ·cases h
   ·exact same h
  ·exact same h
 | false =>
  simp only [scanon] at h
  split at h
  ·exact W.renWeak hc h
  ·rename_i ts hn
   split at h
   ·exact same h
   ·split at h
    ·rename_i σ2 e
     injection h with h
     subst h
     have W2 := W.ins hc e
     have hnk : n ∈ ke := by
      rcases Decidable.em (n ∈ ke) with h | h
      ·exact h
      ·rw [W.e n h] at hn; cases hn
     exact ⟨fun q hq => by show upd σ2.env n _ q = _; rw [upd_ne _ _ _ _ (fun e => hq (by rw [e]; exact hnk))]; exact W2.e q hq, W2.h, W2.u, W2.p⟩
    ·cases h
  ·exact same h
def scanonsF (ke kh : List Nat) : Cn → SSt → (SSt → Option ρ) → Option ρ
 | [], σ, k => k σ
 | x :: l, σ, k => match scanon σ x with
  | some σ1 => match List.elem x.2.2.2.1 kh with
   | true => σ1.force ke kh fun σ2 => scanonsF ke kh l σ2 k
   | false => none
  | none => none
theorem scanonsF_ok {ke kh : List Nat} : ∀ {cn : Cn} {σ : SSt} {k : SSt → Option ρ} {r : ρ}, Within ke kh σ → scanonsF ke kh cn σ k = some r → ∃ σ1, scanons σ cn = some σ1 ∧ k σ1 = some r
 | [], σ, k, r, W, h => ⟨σ, rfl, h⟩
 | x :: l, σ, k, r, W, h => by
  simp only [scanonsF] at h
  split at h
  ·rename_i σ1 e
   split at h
   ·rename_i hm
    have W1 := W.canon (by simpa using hm) e
    rw [force_eq W1] at h
    obtain ⟨σ2, h1, h2⟩ := scanonsF_ok W1 h
    exact ⟨σ2, by simp only [scanons, e, h1], h2⟩
   ·cases h
  ·cases h
def shead (sh : Shape) (kh : List Nat) (cn : Cn) (σ : SSt) (k : sh.L.D → Option ρ) : Option ρ :=
 (σ.restr sh.ke kh).force sh.ke kh fun σ1 => (σ1.restr sh.ke kh).force sh.ke kh fun σ2 => scanonsF sh.ke kh cn σ2 fun σ3 => (σ3.restr sh.ke kh).force sh.ke kh fun σ4 => sh.flat kh σ4 k
theorem shead_ok {sh : Shape} {kh : List Nat} {cn : Cn} {σ : SSt} {k : sh.L.D → Option ρ} {r : ρ} (h : shead sh kh cn σ k = some r) :
  ∃ x, σ.er.head sh.ke kh cn.er = some (sh.un x).er ∧ k x = some r := by
 unfold shead at h
 rw [force_eq (Within.restr _ _ _), force_eq (Within.restr _ _ _)] at h
 obtain ⟨σ1, e, h⟩ := scanonsF_ok (Within.restr _ _ _) h
 rw [force_eq (Within.restr _ _ _)] at h
 obtain ⟨x, h1, h2⟩ := Shape.flat_ok h (fun s hs => srestrE_out _ _ _ s hs) (fun n hn => ⟨srestrH_out _ _ _ n hn, by show (Nat.ble PIN n || srestrU _ _ n) = _; rw [srestrU_out _ _ n hn, Bool.or_false]⟩)
 have i := scanons_er e
 rw [SSt.restr_er, SSt.restr_er] at i
 exact ⟨x, by simp only [St.head, i, ← h1, SSt.restr_er], h2⟩
end
inductive SCode where
 | skip
 | reg (draw : Bool) (ops : List SOper)
 | regD (ps : List (Nat × Nat)) (ops : List SOper)
 | seq (a b : SCode)
 | cond (c : SMO) (a b : SCode)
 | block (id : Nat) (c : SCode)
 | join (sh : Shape) (kh : List Nat) (cn : Cn) (c : SCode)
 | loop (id : Nat) (sh : Shape) (kh : List Nat) (cn : Cn) (c : SCode)
 | exit (id : Nat)
 | ret
def SCode.er : SCode → MCode
 | .skip => .skip
 | .reg d ops => .reg d (ops.map SOper.er)
 | .regD ps ops => .regD ps (ops.map SOper.er)
 | .seq a b => .seq a.er b.er
 | .cond c a b => .cond c.er a.er b.er
 | .block id c => .block id c.er
 | .join sh kh cn c => .join sh.ke kh cn.er c.er
 | .loop id sh kh cn c => .loop id sh.ke kh cn.er c.er
 | .exit id => .exit id
 | .ret => .ret
def SSt.litO (σ : SSt) (c : SMO) (b : Bool) : SSt :=
 match c with
 | .t n => σ.lit n b
 | .k _ => σ
def inr? {X ρ : Type} (o : Option ρ) : Option (X ⊕ ρ) := o.bnd fun r => some (.inr r)
theorem inr?_some {X ρ : Type} {o : Option ρ} {s : X ⊕ ρ} (h : inr? o = some s) : ∃ r, o = some r ∧ s = .inr r := by
 unfold inr? at h
 rw [bnd_some] at h
 obtain ⟨r, h1, h2⟩ := h
 injection h2 with h2
 exact ⟨r, h1, h2.symm⟩
def sden (N : Nat) (T : List SFn) : SCode → {ρ : Type} → SSt → (SSt → Option ρ) → (Nat → SSt → Option ρ) → (SSt → Option ρ) → Option ρ
 | .skip, _, σ, k, _, _ => k σ
 | .reg _ ops, _, σ, k, _, _ => sexecs T ops σ k
 | .regD ps ops, _, σ, k, _, _ => sexecsD T ps ops [] σ k
 | .seq a b, _, σ, k, ex, kr => sden N T a σ (fun σ1 => sden N T b σ1 k ex kr) ex kr
 | .cond c a b, _, σ, k, ex, kr => match σ.ev c with
  | .one (.v .bool t) => cnd t (sden N T a (σ.litO c true) k ex kr) (sden N T b (σ.litO c false) k ex kr)
  | _ => none
 | .block id c, _, σ, k, ex, kr => sden N T c σ k (fun i σ1 => match Nat.beq i id with | true => k σ1 | false => ex i σ1) kr
 | .join sh kh cn c, ρ, σ, k, ex, kr =>
  joinK (sden N T c (ρ := sh.L.D ⊕ ρ) σ (fun σ1 => shead sh kh cn σ1 fun x => some (.inl x)) (fun i σ1 => inr? (ex i σ1)) (fun σ1 => inr? (kr σ1))) fun x => k (sh.un x)
 | .loop id sh kh cn c, ρ, σ, k, ex, kr =>
  shead sh kh cn σ fun x0 => loopT N (fun x => sden N T c (ρ := sh.L.D ⊕ ρ) (sh.un x) (fun σ1 => shead sh kh cn σ1 fun x' => some (.inl x')) (fun i σ1 => inr? (ex i σ1)) (fun σ1 => inr? (kr σ1))) x0
 | .exit id, _, σ, _, ex, _ => ex id σ
 | .ret, _, σ, _, _, kr => kr σ
def OutS {ρ : Type} (k : SSt → Option ρ) (ex : Nat → SSt → Option ρ) (kr : SSt → Option ρ) (r : ρ) : Out → Prop
 | .nrm τ => ∃ τs : SSt, τ = τs.er ∧ k τs = some r
 | .ext i τ => ∃ τs : SSt, τ = τs.er ∧ ex i τs = some r
 | .ret τ => ∃ τs : SSt, τ = τs.er ∧ kr τs = some r
theorem litO_er {σ : SSt} {c : SMO} {b : Bool} (h : σ.ev c = .one (.v .bool b)) : (σ.litO c b).er = σ.er := by
 cases c with
 | t n => exact SSt.er_lit h
 | k v => rfl
theorem sden_ok {T : List SFn} : ∀ (m : SCode) {ρ : Type} {σ : SSt} {k : SSt → Option ρ} {ex : Nat → SSt → Option ρ} {kr : SSt → Option ρ} {r : ρ}, sden FUEL T m σ k ex kr = some r →
    ∃ o : Out, den (tabOf T) m.er σ.er = some o ∧ OutS k ex kr r o
  | .skip, ρ, σ, k, ex, kr, r, h => ⟨.nrm σ.er, rfl, σ, rfl, h⟩
  | .reg d ops, ρ, σ, k, ex, kr, r, h => by
    obtain ⟨σ1, h1, h2⟩ := sexecs_ok (h : sexecs T ops σ k = some r)
    exact ⟨.nrm σ1.er, by simp only [SCode.er, den, h1], σ1, rfl, h2⟩
  | .regD ps ops, ρ, σ, k, ex, kr, r, h => by
    obtain ⟨σ1, fs, h1, h2, h3⟩ := sexecsD_ok (h : sexecsD T ps ops [] σ k = some r)
    exact ⟨.nrm σ1.er, by simp only [SCode.er, den, h1, h2, cond_true], σ1, rfl, h3⟩
  | .seq a b, ρ, σ, k, ex, kr, r, h => by
    obtain ⟨o, h1, h2⟩ := sden_ok a (h : sden FUEL T a σ (fun σ1 => sden FUEL T b σ1 k ex kr) ex kr = some r)
    cases o with
    | nrm τ =>
      obtain ⟨τs, rfl, h2⟩ := h2
      obtain ⟨o2, h3, h4⟩ := sden_ok b h2
      exact ⟨o2, by simp only [SCode.er, den, h1, h3], h4⟩
    | ext i τ => exact ⟨.ext i τ, by simp only [SCode.er, den, h1], h2⟩
    | ret τ => exact ⟨.ret τ, by simp only [SCode.er, den, h1], h2⟩
  | .cond c a b, ρ, σ, k, ex, kr, r, h => by
    simp only [sden] at h
    split at h
    · rename_i t hc
      have hc' : σ.er.ev c.er = .one (.c (.bool t)) := by rw [SSt.er_ev, hc]; rfl
      cases ht : (t : Bool) with
      | true =>
        rw [ht] at h
        simp only [cnd_true] at h
        obtain ⟨o, h1, h2⟩ := sden_ok a h
        rw [litO_er (by rw [hc, ht])] at h1
        exact ⟨o, by simp only [SCode.er, den, hc', ht, if_true, h1], h2⟩
      | false =>
        rw [ht] at h
        simp only [cnd_false] at h
        obtain ⟨o, h1, h2⟩ := sden_ok b h
        rw [litO_er (by rw [hc, ht])] at h1
        exact ⟨o, by simp only [SCode.er, den, hc', ht, Bool.false_eq_true, if_false, h1], h2⟩
    · cases h
  | .block id c, ρ, σ, k, ex, kr, r, h => by
    obtain ⟨o, h1, h2⟩ := sden_ok c (h : sden FUEL T c σ k (fun i σ1 => match Nat.beq i id with | true => k σ1 | false => ex i σ1) kr = some r)
    cases o with
    | nrm τ => exact ⟨.nrm τ, by simp only [SCode.er, den, h1], h2⟩
    | ret τ => exact ⟨.ret τ, by simp only [SCode.er, den, h1], h2⟩
    | ext i τ =>
      obtain ⟨τs, rfl, h2⟩ := h2
      simp only at h2
      split at h2
      · rename_i e
        exact ⟨.nrm τs.er, by simp only [SCode.er, den, h1, if_pos (Nat.eq_of_beq_eq_true e)], τs, rfl, h2⟩
      · rename_i e
        exact ⟨.ext i τs.er, by simp only [SCode.er, den, h1, if_neg (natbeq_false e)], τs, rfl, h2⟩
  | .join sh kh cn c, ρ, σ, k, ex, kr, r, h => by
    simp only [sden, joinK, Option.bind_eq_some_iff] at h
    obtain ⟨s, hs, h⟩ := h
    obtain ⟨o, h1, h2⟩ := sden_ok c hs
    cases o with
    | nrm τ =>
      obtain ⟨τs, rfl, h2⟩ := h2
      obtain ⟨x, h3, h4⟩ := shead_ok h2
      injection h4 with h4
      subst h4
      exact ⟨.nrm (sh.un x).er, by simp only [SCode.er, den, h1, h3], sh.un x, rfl, h⟩
    | ext i τ =>
      obtain ⟨τs, rfl, h2⟩ := h2
      obtain ⟨y, h3, rfl⟩ := inr?_some h2
      injection h with h
      subst h
      exact ⟨.ext i τs.er, by simp only [SCode.er, den, h1], τs, rfl, h3⟩
    | ret τ =>
      obtain ⟨τs, rfl, h2⟩ := h2
      obtain ⟨y, h3, rfl⟩ := inr?_some h2
      injection h with h
      subst h
      exact ⟨.ret τs.er, by simp only [SCode.er, den, h1], τs, rfl, h3⟩
  | .loop id sh kh cn c, ρ, σ, k, ex, kr, r, h => by
    simp only [sden] at h
    obtain ⟨x0, h0, h⟩ := shead_ok h
    simp only [SCode.er, den]
    have key : ∀ (n : Nat) (x0 : sh.L.D) (σc : St), σc.head sh.ke kh cn.er = some (sh.un x0).er →
        loopT n (fun x => sden FUEL T c (ρ := sh.L.D ⊕ ρ) (sh.un x) (fun σ1 => shead sh kh cn σ1 fun x' => some (.inl x')) (fun i σ1 => inr? (ex i σ1)) (fun σ1 => inr? (kr σ1))) x0 = some r →
        ∃ o : Out, loopF n (fun σ => match σ.head sh.ke kh cn.er with | some σ1 => den (tabOf T) c.er σ1 | none => none) σc = some o ∧ OutS k ex kr r o := by
     intro n
     induction n with
     | zero => intro x0 σc h0 h; simp [loopT] at h
     | succ n ih =>
      intro x0 σc h0 h
      simp only [loopT] at h
      simp only [loopF, h0]
      split at h
      · rename_i x' hb
        obtain ⟨o, h1, h2⟩ := sden_ok c hb
        cases o with
        | nrm τ =>
          obtain ⟨τs, rfl, h2⟩ := h2
          obtain ⟨x2, h3, h4⟩ := shead_ok h2
          injection h4 with h4
          injection h4 with h4
          subst h4
          simp only [h1]
          exact ih x2 _ h3 h
        | ext i τ =>
          obtain ⟨τs, rfl, h2⟩ := h2
          obtain ⟨y, _, e⟩ := inr?_some h2
          cases e
        | ret τ =>
          obtain ⟨τs, rfl, h2⟩ := h2
          obtain ⟨y, _, e⟩ := inr?_some h2
          cases e
      · rename_i y hb
        injection h with h
        subst h
        obtain ⟨o, h1, h2⟩ := sden_ok c hb
        cases o with
        | nrm τ =>
          obtain ⟨τs, rfl, h2⟩ := h2
          obtain ⟨x2, h3, h4⟩ := shead_ok h2
          injection h4 with h4
          cases h4
        | ext i τ =>
          obtain ⟨τs, rfl, h2⟩ := h2
          obtain ⟨y', h3, e⟩ := inr?_some h2
          injection e with e
          subst e
          exact ⟨.ext i τs.er, by simp only [h1], τs, rfl, h3⟩
        | ret τ =>
          obtain ⟨τs, rfl, h2⟩ := h2
          obtain ⟨y', h3, e⟩ := inr?_some h2
          injection e with e
          subst e
          exact ⟨.ret τs.er, by simp only [h1], τs, rfl, h3⟩
      · cases h
    exact key FUEL x0 σ.er h0 h
  | .exit id, ρ, σ, k, ex, kr, r, h => ⟨.ext id σ.er, rfl, σ, rfl, h⟩
  | .ret, ρ, σ, k, ex, kr, r, h => ⟨.ret σ.er, rfl, σ, rfl, h⟩

end Go.Am