/- WT: what the form lets by is of bounded length. No condition. -/
import Derived.Test.YtifmggmhdcdgbaaMT
import Derived.Test.YtifmggmhdcdgbaaBr1
set_option linter.unusedVariables false
namespace Go.Am
end Go.Am
