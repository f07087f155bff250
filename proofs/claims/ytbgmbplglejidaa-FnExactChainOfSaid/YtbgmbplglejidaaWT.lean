/- WT: what the form lets by is of bounded length. No condition. -/
import Derived.Test.YtbgmbplglejidaaMT
import Derived.Test.YtbgmbplglejidaaBr1
set_option linter.unusedVariables false
namespace Go.Am
theorem WC (l:List Int) (h:Ty.ma [.list [.int .i64]] l):xx l=true:=by
 have h1:l.length<=maxLen:=h.1
 exact decide_eq_true (by unfold maxLen at h1;omega)
theorem aqF (x:(List Int)×(List Int)×(List Int)) (h:Ty.ma [.list [.int .i64],.list [.int .i64],.list [.int .i64]] x):FK x=true:=by
 obtain⟨a0,a1,a2⟩:=x
 show(xx a0&&xx a1&&xx a2)=true
 rw[WC a0 h.1,WC a1 h.2.1,WC a2 h.2.2]
 rfl
end Go.Am
