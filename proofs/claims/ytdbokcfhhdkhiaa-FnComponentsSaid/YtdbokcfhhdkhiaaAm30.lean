/- Am30: functions that change lists of their arguments: the end of a call. No condition. -/
import Derived.Test.YtdbokcfhhdkhiaaAm29
set_option linter.unusedVariables false
namespace Go.Am

section
variable {B : Nat} {E : Ex} {w0 w w' : World} {G G' : Gh} {N : Nat} {h h' : Nat → Option Blk} {used : Nat → Bool}
variable {P : Program} {T : Tab} {a : Act} {σ σ' : St} {Q : Exit → Act → World → Prop}

end
end Go.Am
