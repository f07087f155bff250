/- Am28: functions that change lists of their arguments: what is said of them, and how it follows from their code. No condition. -/
import Derived.Test.YtdbokcfhhdkhiaaAm27
set_option linter.unusedVariables false
namespace Go.Am

/-! ### the code's side -/

def rowOf : Mode × C → Option Blk
  | (m, .list sz xs) => some (.row false m sz xs)
  | _ => none

/-! ### the begin -/

section
variable {B : Nat} {E : Ex} {w0 w w' : World} {G G' : Gh} {N : Nat} {h h' : Nat → Option Blk} {used : Nat → Bool}
variable {P : Program} {T : Tab} {a : Act} {σ σ' : St} {Q : Exit → Act → World → Prop}

/-- How a list lies that is well. -/
theorem Good.cases {w : World} {sz cap : Nat} {a : Option Addr} {xs : List (List PC)} (h : Good w (.list sz a cap xs)) : xs = [] ∨ (xs ≠ [] ∧ xs.length ≤ cap ∧ ∃ b o, a = some (ad b o)) := by
  cases h with
  | nil _ _ _ h => exact .inl rfl
  | cons _ b o _ _ h1 h2 => exact .inr ⟨h1, h2, b, o, rfl⟩

theorem InT.row {b sz : Nat} {a : Option Addr} {cap : Nat} {xs : List (List PC)} (h : RowF b xs) : InT b (.list sz a cap xs) := by
  obtain ⟨k, j, c, hk, hc⟩ := h
  exact .inl (.there _ _ _ _ k j c hk hc)

theorem Sep.row {sz : Nat} {a : Option Addr} {cap : Nat} {xs : List (List PC)} (h : Sep (.list sz a cap xs)) : RowSep xs := by
  cases h with
  | list _ _ _ _ h1 h2 h3 => exact ⟨h1, h3⟩

end
end Go.Am
