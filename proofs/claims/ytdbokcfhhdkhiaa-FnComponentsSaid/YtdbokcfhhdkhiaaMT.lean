/- MT: sizes, copies, comparisons and marks of the laws' types. No condition. -/
import Derived.Test.YtdbokcfhhdkhiaaB2
set_option linter.unusedVariables false
set_option linter.unusedSimpArgs false
set_option synthInstance.maxSize 1000
set_option synthInstance.maxHeartbeats 400000
namespace Go.Am
end Go.Am
