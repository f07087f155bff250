/- WT: what the form lets by is of bounded length. No condition. -/
import Derived.Test.YtbgmbplglejidaaMT
import Derived.Test.YtbgmbplglejidaaBr1
set_option linter.unusedVariables false
namespace Go.Am
end Go.Am
