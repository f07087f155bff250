/- WT: what the form lets by is of bounded length. No condition. -/
import Derived.Test.YtfhgjmihpplnjaaMT
import Derived.Test.YtfhgjmihpplnjaaBr1
set_option linter.unusedVariables false
namespace Go.Am

theorem wfT_IntS (l : List Int) (h : Ty.WfL [.list [.int .i64]] l) : wf_IntS l = true := by
  have h1 : l.length ≤ maxLen := h.1
  exact decide_eq_true (by unfold maxLen at h1; omega)

theorem wfT_Matrix (x : Int × Int × (List Int)) (h : Ty.WfL [.int .i64, .int .i64, .list [.int .i64]] x) : wf_Matrix x = true := by
  obtain ⟨a0, a1, a2⟩ := x
  show (wf_IntS a2) = true
  rw [wfT_IntS a2 h.2.2]


end Go.Am
