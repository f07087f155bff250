/- WT: what the form lets by is of bounded length. No condition. -/
import Derived.Test.YtogffhfjcilboaaMT
import Derived.Test.YtogffhfjcilboaaBr1
set_option linter.unusedVariables false
namespace Go.Am

theorem wfT_IntS (l : List Int) (h : Ty.WfL [.list [.int .i64]] l) : wf_IntS l = true := by
  have h1 : l.length ≤ maxLen := h.1
  exact decide_eq_true (by unfold maxLen at h1; omega)

theorem wfT_EdgeS (l : List (Int × Int)) (h : Ty.WfL [.list [.int .i64, .int .i64]] l) : wf_EdgeS l = true := by
  have h1 : l.length ≤ maxLen := h.1
  exact decide_eq_true (by unfold maxLen at h1; omega)

theorem wfT_Graph (x : Int × (List (Int × Int))) (h : Ty.WfL [.int .i64, .list [.int .i64, .int .i64]] x) : wf_Graph x = true := by
  obtain ⟨a0, a1⟩ := x
  show (wf_EdgeS a1) = true
  rw [wfT_EdgeS a1 h.2]


end Go.Am
