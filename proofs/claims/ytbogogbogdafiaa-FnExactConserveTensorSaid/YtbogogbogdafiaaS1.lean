/- S0, S1: parts of the proof. No condition. -/
import Derived.Test.YtbogogbogdafiaaAm30
import Derived.Test.YtbogogbogdafiaaAmW
set_option linter.unusedVariables false
section
namespace Go.Am
-- PRIM
def _root_.Option.bnd {α β : Type} (o : Option α) (f : α → Option β) : Option β := o.bind f
def cnd {α : Type} (b : Bool) (x y : α) : α := cond b x y
def addI (k : IntKind) (a b : Int) : Int := k.wrap (a + b)
def subI (k : IntKind) (a b : Int) : Int := k.wrap (a - b)
def mulI (k : IntKind) (a b : Int) : Int := k.wrap (a * b)
def negI (k : IntKind) (a : Int) : Int := k.wrap (0 - a)
def convI (k : IntKind) (a : Int) : Int := k.wrap a
def andI (k : IntKind) (a b : Int) : Int := bits .and k a b
def orI (k : IntKind) (a b : Int) : Int := bits .or k a b
def xorI (k : IntKind) (a b : Int) : Int := bits .xor k a b
def eqI (a b : Int) : Bool := a == b
def neI (a b : Int) : Bool := a != b
def ltI (a b : Int) : Bool := decide (a < b)
def leI (a b : Int) : Bool := decide (a ≤ b)
def eqB (a b : Bool) : Bool := a == b
def neB (a b : Bool) : Bool := a != b
def notB (a : Bool) : Bool := !a
def maxI (a b : Int) : Int := if a < b then b else a
def minI (a b : Int) : Int := if b < a then b else a
def lenN {α : Type} (xs : List α) : Nat := xs.length
def natI (n : Nat) : Int := (n : Int)
def addN (a b : Nat) : Nat := a + b
def getN {α : Type} (xs : List α) (k : Nat) : Option α := xs[k]?
def setL {α : Type} (xs : List α) (k : Nat) (x : α) : List α := xs.set k x
def appL {α : Type} (xs ys : List α) : List α := xs ++ ys
def repL {α : Type} (n : Nat) (x : α) : List α := List.replicate n x
def sldL {α : Type} (xs : List α) (lo len : Nat) : List α := (xs.drop lo).take len
def getI {α : Type} (xs : List α) (i : Int) : Option α := if 0 ≤ i then xs[i.toNat]? else none
def chkI (i : Int) (len : Nat) : Option Nat := if 0 ≤ i ∧ i < len then some i.toNat else none
def sliI (lo hi : Int) (len : Nat) : Option (Nat × Nat) := if 0 ≤ lo ∧ lo ≤ hi ∧ hi ≤ len then some (lo.toNat, (hi - lo).toNat) else none
def winI {α : Type} (xs : List α) (lo len : Nat) : Option (List α) := if lo + len ≤ xs.length then some ((xs.drop lo).take len) else none
def takI {α : Type} (xs : List α) (len : Nat) : Option (List α) := if len ≤ xs.length then some (xs.take len) else none
def cpyL {α : Type} (xs : List α) (lo len : Nat) (ys : List α) : Option (List α) := if lo + len ≤ xs.length then some (xs.take lo ++ ys ++ xs.drop (lo + ys.length)) else none
def mkI (a b : Int) (by_ : Nat) : Option Nat := if a ≤ b ∧ 0 ≤ a ∧ b.toNat * by_ ≤ maxBytes then some a.toNat else none
def fitI (n by_ : Nat) : Option Unit := if n * by_ ≤ maxBytes then some () else none
def samI (a b : Nat) : Option Unit := if a = b then some () else none
def fulI (lo len l : Nat) : Option Unit := if lo = 0 ∧ len = l then some () else none
def quoI (k : IntKind) (a b : Int) : Option Int := if b = 0 then none else some (k.wrap (a.tdiv b))
def remI (a b : Int) : Option Int := if b = 0 then none else some (a.tmod b)
def shlI (k : IntKind) (a b : Int) : Option Int := if b < 0 then none else some (k.wrap (a * 2 ^ (min b.toNat k.bits)))
def shrI (k : IntKind) (a b : Int) : Option Int := if b < 0 then none else some (a / (2 ^ (min b.toNat k.bits)))
def loopT {X Y : Type} : Nat → (X → Option (X ⊕ Y)) → X → Option Y
 | 0, _, _ => none
 | n + 1, f, x => match f x with
  | some (.inl x') => loopT n f x'
  | some (.inr y) => some y
  | none => none
def joinK {X ρ : Type} (o : Option (X ⊕ ρ)) (k : X → Option ρ) : Option ρ := o.bind fun s => Sum.casesOn s k some
-- ENDPRIM
theorem bnd_some {α β : Type} {o : Option α} {f : α → Option β} {b : β} : o.bnd f = some b ↔ ∃ a, o = some a ∧ f a = some b := Option.bind_eq_some_iff
theorem cnd_true {α : Type} (x y : α) : cnd true x y = x := rfl
theorem cnd_false {α : Type} (x y : α) : cnd false x y = y := rfl
end Go.Am
end
section
namespace Go.Am
inductive Ty where
 | int (k : IntKind)
 | bool
 | list (ts : List Ty)
instance : Inhabited Ty := ⟨.bool⟩
mutual
def Ty.beq : Ty → Ty → Bool
 | .int k, .int k' => decide (k = k')
 | .bool, .bool => true
 | .list ts, .list us => Ty.beqL ts us
 | _, _ => false
def Ty.beqL : List Ty → List Ty → Bool
 | [], [] => true
 | t :: ts, u :: us => Ty.beq t u && Ty.beqL ts us
 | _, _ => false
end
mutual
theorem Ty.beq_eq : ∀ {t u : Ty}, Ty.beq t u = true → t = u
 | .int k, .int k', h => by simp [Ty.beq] at h; rw [h]
 | .bool, .bool, _ => rfl
 | .list ts, .list us, h => by simp only [Ty.beq] at h; rw [Ty.beqL_eq h]
 | .int _, .bool, h => by simp [Ty.beq] at h
 | .int _, .list _, h => by simp [Ty.beq] at h
 | .bool, .int _, h => by simp [Ty.beq] at h
 | .bool, .list _, h => by simp [Ty.beq] at h
 | .list _, .int _, h => by simp [Ty.beq] at h
 | .list _, .bool, h => by simp [Ty.beq] at h
theorem Ty.beqL_eq : ∀ {ts us : List Ty}, Ty.beqL ts us = true → ts = us
 | [], [], _ => rfl
 | t :: ts, u :: us, h => by simp only [Ty.beqL, Bool.and_eq_true] at h; rw [Ty.beq_eq h.1, Ty.beqL_eq h.2]
 | [], _ :: _, h => by simp [Ty.beqL] at h
 | _ :: _, [], h => by simp [Ty.beqL] at h
end
mutual
def Ty.D : Ty → Type
 | .int _ => Int
 | .bool => Bool
 | .list ts => List (Ty.DL ts)
def Ty.DL : List Ty → Type
 | [] => Unit
 | t :: ts => match ts with
  | [] => Ty.D t
  | u :: us => Ty.D t × Ty.DL (u :: us)
end
mutual
def Ty.er : (t : Ty) → t.D → C
 | .int k, n => .int k n
 | .bool, b => .bool b
 | .list ts, xs => .list ts.length (List.map (Ty.erL ts) xs)
def Ty.erL : (ts : List Ty) → Ty.DL ts → List C
 | [], _ => []
 | [t], x => [Ty.er t x]
 | t :: u :: ts, x => Ty.er t x.1 :: Ty.erL (u :: ts) x.2
end
def Ty.cast (t u : Ty) (x : t.D) : Option u.D := if h : Ty.beq t u = true then some (Ty.beq_eq h ▸ x) else none
theorem Ty.cast_some {t u : Ty} {x : t.D} {y : u.D} (h : Ty.cast t u x = some y) : t.er x = u.er y := by
 unfold Ty.cast at h
 split at h
 ·rename_i he
  have := Ty.beq_eq he
  subst this
  injection h with h
  rw [← h]
 ·cases h
def Ty.castL (ts us : List Ty) (x : Ty.DL ts) : Option (Ty.DL us) := if h : Ty.beqL ts us = true then some (Ty.beqL_eq h ▸ x) else none
theorem Ty.erL_len : ∀ (ts : List Ty) (x : Ty.DL ts), (Ty.erL ts x).length = ts.length
 | [], _ => rfl
 | [t], _ => rfl
 | t :: u :: ts, x => by simp only [Ty.erL, List.length_cons, Ty.erL_len (u :: ts) x.2]
def Ty.scal : Ty → Bool
 | .list _ => false
 | _ => true
theorem Ty.scal_er (t : Ty) (x : t.D) : (t.er x).scal = t.scal := by cases t <;> rfl
def Ty.scalL (ts : List Ty) : Bool := ts.all Ty.scal
theorem Ty.scalL_er : ∀ (ts : List Ty) (x : Ty.DL ts), Am.scalL (Ty.erL ts x) = Ty.scalL ts
 | [], _ => rfl
 | [t], x => by simp [Am.scalL, Ty.erL, Ty.scalL]; exact Ty.scal_er t x
 | t :: u :: ts, x => by
  have := Ty.scalL_er (u :: ts) x.2
  simp only [Am.scalL, Ty.scalL] at this
  simp only [Am.scalL, Ty.scalL, Ty.erL, List.all_cons, Ty.scal_er] at this ⊢
  rw [this]
inductive SC where
 | v (t : Ty) (x : t.D)
 | nil (ts : List Ty)
 | ptr (n k sz off : Nat)
 | dptr (ts : List Ty) (x : Ty.DL ts) (off : Nat)
 | sl (n sz lo len : Nat)
 | nsl (n k rsz off sz len : Nat)
 | nptr (n k rsz off sz i : Nat)
 | fn (f : FuncId) (caps : List SC)
 | junk
instance : Inhabited SC := ⟨.junk⟩
mutual
def SC.er : SC → ACell
 | .v t x => .c (t.er x)
 | .nil ts => .nil ts.length
 | .ptr n k sz off => .ptr n k sz off
 | .dptr ts x off => .dptr (Ty.erL ts x) off
 | .sl n sz lo len => .sl n sz lo len
 | .nsl n k rsz off sz len => .nsl n k rsz off sz len
 | .nptr n k rsz off sz i => .nptr n k rsz off sz i
 | .fn f caps => .fn f (SC.erl caps)
 | .junk => .junk
def SC.erl : List SC → List ACell
 | [] => []
 | c :: cs => SC.er c :: SC.erl cs
end
theorem SC.erl_eq (cs : List SC) : SC.erl cs = cs.map SC.er := by
 induction cs with
 | nil => rfl
 | cons c cs ih => simp [SC.erl, ih]
inductive SB where
 | box (cs : List SC)
 | row (gr : Bool) (m : Mode) (ts : List Ty) (xs : List (Ty.DL ts))
def SB.er : SB → Blk
 | .box cs => .box (cs.map SC.er)
 | .row gr m ts xs => .row gr m ts.length (List.map (Ty.erL ts) xs)
inductive SV where
 | one (c : SC)
 | agg (cs : List SC)
 | tup (xs : List (Bool × List SC))
instance : Inhabited SV := ⟨.one .junk⟩
def SV.er : SV → AVal
 | .one c => .one c.er
 | .agg cs => .agg (cs.map SC.er)
 | .tup xs => .tup (xs.map fun x => (x.1, x.2.map SC.er))
structure SSt where
 env : Nat → SV
 h : Nat → Option SB
 used : Nat → Bool
def erE (env : Nat → SV) : Nat → AVal := fun s => (env s).er
def erH (h : Nat → Option SB) : Nat → Option Blk := fun n => (h n).map SB.er
def SSt.er (σ : SSt) : St := { env := erE σ.env, h := erH σ.h, used := σ.used }
theorem erE_upd (env : Nat → SV) (n : Nat) (v : SV) : erE (upd env n v) = upd (erE env) n v.er := by
 funext s; simp only [erE, upd_def]; split <;> rfl
theorem erH_upd (h : Nat → Option SB) (n : Nat) (v : Option SB) : erH (upd h n v) = upd (erH h) n (v.map SB.er) := by
 funext s; simp only [erH, upd_def]; split <;> rfl
def SSt.put (σ : SSt) (d : Option Nat) (v : SV) : SSt :=
 match d with
 | some n => { σ with env := upd σ.env n v }
 | none => σ
def SSt.ins (σ : SSt) (n : Nat) (b : SB) : Option SSt :=
 match σ.used n with
 | true => none
 | false => some { σ with h := upd σ.h n (some b), used := upd σ.used n true }
def SSt.setB (σ : SSt) (n : Nat) (b : SB) : SSt := { σ with h := upd σ.h n (some b) }
def SSt.del (σ : SSt) (n : Nat) : SSt := { σ with h := upd σ.h n none }
theorem SSt.er_put (σ : SSt) (d : Option Nat) (v : SV) : (σ.put d v).er = σ.er.put d v.er := by
 cases d with
 | none => rfl
 | some n => simp only [SSt.put, SSt.er, St.put, erE_upd]
theorem SSt.er_ins {σ σ1 : SSt} {n : Nat} {b : SB} (h : σ.ins n b = some σ1) : σ.er.ins n b.er = some σ1.er := by
 unfold SSt.ins at h
 split at h
 ·cases h
 ·rename_i hu
  injection h with h
  subst h
  simp [St.ins, SSt.er, hu, erH_upd]
theorem SSt.er_setB (σ : SSt) (n : Nat) (b : SB) : (σ.setB n b).er = σ.er.setB n b.er := by
 simp [SSt.setB, SSt.er, St.setB, erH_upd]
theorem SSt.er_del (σ : SSt) (n : Nat) : (σ.del n).er = σ.er.del n := by
 simp [SSt.del, SSt.er, St.del, erH_upd]
def Ty.cells : (ts : List Ty) → Ty.DL ts → List SC
 | [], _ => []
 | [t], x => [.v t x]
 | t :: u :: ts, x => .v t x.1 :: Ty.cells (u :: ts) x.2
theorem Ty.cells_er : ∀ (ts : List Ty) (x : Ty.DL ts), (Ty.cells ts x).map SC.er = (Ty.erL ts x).map .c
 | [], _ => rfl
 | [t], x => rfl
 | t :: u :: ts, x => by simp only [Ty.cells, Ty.erL, List.map_cons, Ty.cells_er (u :: ts) x.2]; rfl
def liveCell (n k rs off : Nat) (t : Ty) (x : t.D) : SC :=
 match t, x with
 | .list ts, xs => .nsl n k rs off ts.length (lenN (α := Ty.DL ts) xs)
 | .int k', x => .v (.int k') x
 | .bool, x => .v .bool x
def Ty.live (n k rs : Nat) : Nat → (ts : List Ty) → Ty.DL ts → List SC
 | _, [], _ => []
 | off, [t], x => [liveCell n k rs off t x]
 | off, t :: u :: ts, x => liveCell n k rs off t x.1 :: Ty.live n k rs (off + 1) (u :: ts) x.2
theorem liveCells_cons (n k rs off : Nat) (t : Ty) (x : t.D) (l : List C) : liveCells n k rs off (t.er x :: l) = (liveCell n k rs off t x).er :: liveCells n k rs (off + 1) l := by
 cases t with
 | int k' => rfl
 | bool => rfl
 | list ts =>
  exact congrArg (fun m => ACell.nsl n k rs off ts.length m :: liveCells n k rs (off + 1) l) (List.length_map (Ty.erL ts))
theorem Ty.live_er (n k rs : Nat) : ∀ (off : Nat) (ts : List Ty) (x : Ty.DL ts), (Ty.live n k rs off ts x).map SC.er = liveCells n k rs off (Ty.erL ts x)
 | _, [], _ => rfl
 | off, [t], x => (liveCells_cons n k rs off t x []).symm
 | off, t :: u :: ts, x => by simp only [Ty.live, Ty.erL, liveCells_cons, List.map_cons, Ty.live_er n k rs (off + 1) (u :: ts) x.2]
theorem liveCells_drop (n k rs : Nat) : ∀ (j off : Nat) (l : List C), (liveCells n k rs off l).drop j = liveCells n k rs (off + j) (l.drop j)
 | 0, off, l => by simp
 | j + 1, off, [] => by simp [liveCells]
 | j + 1, off, c :: l => by
  have ih := liveCells_drop n k rs j (off + 1) l
  rw [show off + 1 + j = off + (j + 1) by omega] at ih
  cases c <;> simpa [liveCells] using ih
theorem liveCells_take (n k rs : Nat) : ∀ (j off : Nat) (l : List C), (liveCells n k rs off l).take j = liveCells n k rs off (l.take j)
 | 0, off, l => by simp [liveCells]
 | j + 1, off, [] => by simp [liveCells]
 | j + 1, off, c :: l => by cases c <;> simp [liveCells, liveCells_take n k rs j (off + 1) l]
theorem liveCells_len (n k rs : Nat) : ∀ (off : Nat) (l : List C), (liveCells n k rs off l).length = l.length
 | off, [] => rfl
 | off, c :: l => by cases c <;> simp [liveCells, liveCells_len n k rs (off + 1) l]
theorem sub_live (n k rs off sz : Nat) (l : List C) : sub (liveCells n k rs 0 l) off sz = (sub l off sz).map (liveCells n k rs off) := by
 unfold sub
 rw [liveCells_len]
 split
 ·simp [liveCells_drop, liveCells_take]
 ·rfl
theorem sub_map {α β : Type} (f : α → β) (l : List α) (off sz : Nat) : sub (l.map f) off sz = (sub l off sz).map (List.map f) := by
 unfold sub
 rw [List.length_map]
 split
 ·simp [List.map_drop, List.map_take]
 ·rfl
def consDL (t : Ty) : (ts : List Ty) → t.D → Ty.DL ts → Ty.DL (t :: ts)
 | [], x, _ => x
 | _ :: _, x, y => (x, y)
theorem consDL_er (t : Ty) (ts : List Ty) (x : t.D) (y : Ty.DL ts) : Ty.erL (t :: ts) (consDL t ts x y) = t.er x :: Ty.erL ts y := by cases ts <;> rfl
def mkDL : (ts : List Ty) → List ((t : Ty) × t.D) → Option (Ty.DL ts)
 | [], [] => some ()
 | t :: ts, c :: cs => match Ty.cast c.1 t c.2, mkDL ts cs with
  | some y, some z => some (consDL t ts y z)
  | _, _ => none
 | _, _ => none
def erD (l : List ((t : Ty) × t.D)) : List C := l.map fun x => x.1.er x.2
theorem mkDL_er : ∀ {ts : List Ty} {cs : List ((t : Ty) × t.D)} {y : Ty.DL ts}, mkDL ts cs = some y → Ty.erL ts y = erD cs
 | [], [], y, h => rfl
 | t :: ts, c :: cs, y, h => by
  simp only [mkDL] at h
  split at h
  ·rename_i y1 z h1 h2
   injection h with h
   subst h
   have := mkDL_er h2
   simp only [erD] at this
   simp only [consDL_er, erD, List.map_cons, Ty.cast_some h1, this]
  ·cases h
 | [], _ :: _, y, h => by simp [mkDL] at h
 | t :: ts, [], y, h => by simp [mkDL] at h
def Ty.dats : (ts : List Ty) → Ty.DL ts → List ((t : Ty) × t.D)
 | [], _ => []
 | [t], x => [⟨t, x⟩]
 | t :: u :: ts, x => ⟨t, x.1⟩ :: Ty.dats (u :: ts) x.2
theorem Ty.dats_er : ∀ (ts : List Ty) (x : Ty.DL ts), erD (Ty.dats ts x) = Ty.erL ts x
 | [], _ => rfl
 | [t], x => rfl
 | t :: u :: ts, x => by
  have := Ty.dats_er (u :: ts) x.2
  simp only [erD] at this
  simp only [Ty.dats, Ty.erL, erD, List.map_cons, this]
end Go.Am
end
