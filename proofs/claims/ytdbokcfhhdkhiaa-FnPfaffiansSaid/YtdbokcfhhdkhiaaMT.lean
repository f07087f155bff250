/- MT: sizes, copies, comparisons and marks of the laws' types. No condition. -/
import Derived.Test.YtdbokcfhhdkhiaaB2
set_option linter.unusedVariables false
set_option linter.unusedSimpArgs false
set_option synthInstance.maxSize 1000
set_option synthInstance.maxHeartbeats 400000
namespace Go.Am
def sz_IntS (l : List Int) : Nat := l.length
def sz_Matrix (x : Int × Int × (List Int)) : Nat := match x with | (a0, a1, a2) => sz_IntS a2
end Go.Am