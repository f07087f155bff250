/- AmZ: functions that change a list of ints, called on a window of it: how it follows from their code. No condition. -/
import Derived.Test.YthildlkhnnogiaaAm30
set_option linter.unusedVariables false
namespace Go.Am
section
variable {B:Nat} {E:Ex} {w0 w w':World} {G G':Gh} {N:Nat} {h h':Nat->Option aj} {used:Nat->Bool}
variable {P:Program} {T:aF} {a:Act} {σ σ':St} {Q:Exit->Act->World->Prop}
end
end Go.Am
