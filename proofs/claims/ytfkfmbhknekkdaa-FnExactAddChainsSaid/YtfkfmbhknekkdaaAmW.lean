/- AmW: functions whose results may share, and that may change the cells of one pointer: from code to what is said of them. No condition. -/
import Derived.Test.YtfkfmbhknekkdaaAm30
set_option linter.unusedVariables false
namespace Go.Am
section
variable {B:Nat} {E:Ex} {w0 w w':World} {G G':Gh} {N:Nat} {h h':Nat->Option ak} {used:Nat->Bool}
variable {P:Program} {T:aA} {a:Act} {σ σ':St} {Q:Exit->Act->World->Prop}
end
end Go.Am
