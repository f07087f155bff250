/- WT: what the form lets by is of bounded length. No condition. -/
import Derived.Test.YtfoplfdfpanglaaMT
import Derived.Test.YtfoplfdfpanglaaBr1
set_option linter.unusedVariables false
namespace Go.Am

theorem wfT_IntS (l : List Int) (h : Ty.WfL [.list [.int .i64]] l) : wf_IntS l = true := by
  have h1 : l.length ≤ maxLen := h.1
  exact decide_eq_true (by unfold maxLen at h1; omega)

theorem wfT_Matrix (x : Int × Int × (List Int)) (h : Ty.WfL [.int .i64, .int .i64, .list [.int .i64]] x) : wf_Matrix x = true := by
  obtain ⟨a0, a1, a2⟩ := x
  show (wf_IntS a2) = true
  rw [wfT_IntS a2 h.2.2]


theorem wfT_Site (x : Int × Int × Int × (List Int)) (h : Ty.WfL [.int .i64, .int .i64, .int .i64, .list [.int .i64]] x) : wf_Site x = true := by
  obtain ⟨a0, a1, a2, a3⟩ := x
  show (wf_IntS a3) = true
  rw [wfT_IntS a3 h.2.2.2]


theorem wfT_SiteS (l : List (Int × Int × Int × (List Int))) (h : Ty.WfL [.list [.int .i64, .int .i64, .int .i64, .list [.int .i64]]] l) : wf_SiteS l = true := by
  have h1 : l.length ≤ maxLen := h.1
  unfold wf_SiteS
  rw [Bool.and_eq_true, decide_eq_true_eq, List.all_eq_true]
  exact ⟨by unfold maxLen at h1; omega, fun e he => wfT_Site e (h.2 e he)⟩

theorem wfT_Chain (x : Int × (List (Int × Int × Int × (List Int)))) (h : Ty.WfL [.int .i64, .list [.int .i64, .int .i64, .int .i64, .list [.int .i64]]] x) : wf_Chain x = true := by
  obtain ⟨a0, a1⟩ := x
  show (wf_SiteS a1) = true
  rw [wfT_SiteS a1 h.2]


end Go.Am
