/- Am29: functions that change lists of their arguments: from code to contract. No condition. -/
import Derived.Test.YtdbokcfhhdkhiaaAm28
set_option linter.unusedVariables false
namespace Go.Am

section
variable {B : Nat} {E : Ex} {w0 w w' : World} {G G' : Gh} {N : Nat} {h h' : Nat → Option Blk} {used : Nat → Bool}
variable {P : Program} {T : Tab} {a : Act} {σ σ' : St} {Q : Exit → Act → World → Prop}

/-! ### the end -/

theorem At.inj {α : Type} {px : List (List α)} {k j : Nat} {c c' : α} (h : At px k j c) (h' : At px k j c') : c = c' := by
  obtain ⟨e, h1, h2⟩ := h
  obtain ⟨e', h3, h4⟩ := h'
  rw [h1] at h3
  injection h3 with h3
  subst h3
  rw [h2] at h4
  injection h4

end
end Go.Am
