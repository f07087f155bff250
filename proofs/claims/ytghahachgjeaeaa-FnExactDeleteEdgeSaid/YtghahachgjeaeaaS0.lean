/- S0: the primitives on data. No condition. -/
import Derived.Test.YtghahachgjeaeaaAm30
set_option linter.unusedVariables false
namespace Go.Am

-- PRIM
def _root_.Option.bnd {α β : Type} (o : Option α) (f : α → Option β) : Option β := o.bind f
def cnd {α : Type} (b : Bool) (x y : α) : α := cond b x y
def addI (k : IntKind) (a b : Int) : Int := k.wrap (a + b)
def subI (k : IntKind) (a b : Int) : Int := k.wrap (a - b)
def mulI (k : IntKind) (a b : Int) : Int := k.wrap (a * b)
def negI (k : IntKind) (a : Int) : Int := k.wrap (0 - a)
def convI (k : IntKind) (a : Int) : Int := k.wrap a
def andI (k : IntKind) (a b : Int) : Int := bits .and k a b
def orI (k : IntKind) (a b : Int) : Int := bits .or k a b
def xorI (k : IntKind) (a b : Int) : Int := bits .xor k a b
def eqI (a b : Int) : Bool := a == b
def neI (a b : Int) : Bool := a != b
def ltI (a b : Int) : Bool := decide (a < b)
def leI (a b : Int) : Bool := decide (a ≤ b)
def eqB (a b : Bool) : Bool := a == b
def neB (a b : Bool) : Bool := a != b
def notB (a : Bool) : Bool := !a
def maxI (a b : Int) : Int := if a < b then b else a
def minI (a b : Int) : Int := if b < a then b else a
def lenN {α : Type} (xs : List α) : Nat := xs.length
def natI (n : Nat) : Int := (n : Int)
def addN (a b : Nat) : Nat := a + b
def getN {α : Type} (xs : List α) (k : Nat) : Option α := xs[k]?
def setL {α : Type} (xs : List α) (k : Nat) (x : α) : List α := xs.set k x
def appL {α : Type} (xs ys : List α) : List α := xs ++ ys
def repL {α : Type} (n : Nat) (x : α) : List α := List.replicate n x
def sldL {α : Type} (xs : List α) (lo len : Nat) : List α := (xs.drop lo).take len
def getI {α : Type} (xs : List α) (i : Int) : Option α := if 0 ≤ i then xs[i.toNat]? else none
def chkI (i : Int) (len : Nat) : Option Nat := if 0 ≤ i ∧ i < len then some i.toNat else none
def sliI (lo hi : Int) (len : Nat) : Option (Nat × Nat) := if 0 ≤ lo ∧ lo ≤ hi ∧ hi ≤ len then some (lo.toNat, (hi - lo).toNat) else none
def winI {α : Type} (xs : List α) (lo len : Nat) : Option (List α) := if lo + len ≤ xs.length then some ((xs.drop lo).take len) else none
def takI {α : Type} (xs : List α) (len : Nat) : Option (List α) := if len ≤ xs.length then some (xs.take len) else none
def mkI (a b : Int) (by_ : Nat) : Option Nat := if a ≤ b ∧ 0 ≤ a ∧ b.toNat * by_ ≤ maxBytes then some a.toNat else none
def fitI (n by_ : Nat) : Option Unit := if n * by_ ≤ maxBytes then some () else none
def samI (a b : Nat) : Option Unit := if a = b then some () else none
def fulI (lo len l : Nat) : Option Unit := if lo = 0 ∧ len = l then some () else none
def quoI (k : IntKind) (a b : Int) : Option Int := if b = 0 then none else some (k.wrap (a.tdiv b))
def remI (a b : Int) : Option Int := if b = 0 then none else some (a.tmod b)
def shlI (k : IntKind) (a b : Int) : Option Int := if b < 0 then none else some (k.wrap (a * 2 ^ (min b.toNat k.bits)))
def shrI (k : IntKind) (a b : Int) : Option Int := if b < 0 then none else some (a / (2 ^ (min b.toNat k.bits)))
def loopT {X Y : Type} : Nat → (X → Option (X ⊕ Y)) → X → Option Y
  | 0, _, _ => none
  | n + 1, f, x => match f x with
    | some (.inl x') => loopT n f x'
    | some (.inr y) => some y
    | none => none
def joinK {X ρ : Type} (o : Option (X ⊕ ρ)) (k : X → Option ρ) : Option ρ := o.bind fun s => Sum.casesOn s k some
-- ENDPRIM

theorem bnd_some {α β : Type} {o : Option α} {f : α → Option β} {b : β} : o.bnd f = some b ↔ ∃ a, o = some a ∧ f a = some b := Option.bind_eq_some_iff
theorem cnd_true {α : Type} (x y : α) : cnd true x y = x := rfl
theorem cnd_false {α : Type} (x y : α) : cnd false x y = y := rfl

end Go.Am
