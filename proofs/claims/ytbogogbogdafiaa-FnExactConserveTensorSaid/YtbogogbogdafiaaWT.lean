/- WT: what the form lets by is of bounded length. No condition. -/
import Derived.Test.YtbogogbogdafiaaMT
import Derived.Test.YtbogogbogdafiaaBr1
set_option linter.unusedVariables false
namespace Go.Am
theorem wfT_IntS (l : List Int) (h : Ty.WfL [.list [.int .i64]] l) : wf_IntS l = true := by
 have h1 : l.length ≤ maxLen := h.1
 exact decide_eq_true (by unfold maxLen at h1; omega)
theorem wfT_IntSS (l : List (List Int)) (h : Ty.WfL [.list [.list [.int .i64]]] l) : wf_IntSS l = true := by
 have h1 : l.length ≤ maxLen := h.1
 unfold wf_IntSS
 rw [Bool.and_eq_true, decide_eq_true_eq, List.all_eq_true]
 exact ⟨by unfold maxLen at h1; omega, fun e he => wfT_IntS e (h.2 e he)⟩
theorem wfT_Tensor (x : (List Int) × (List Int) × (List Int)) (h : Ty.WfL [.list [.int .i64], .list [.int .i64], .list [.int .i64]] x) : wf_Tensor x = true := by
 obtain ⟨a0, a1, a2⟩ := x
 show (wf_IntS a0 && wf_IntS a1 && wf_IntS a2) = true
 rw [wfT_IntS a0 h.1, wfT_IntS a1 h.2.1, wfT_IntS a2 h.2.2]
 rfl
theorem wfT_Charges (x : Int × (List (List Int))) (h : Ty.WfL [.int .i64, .list [.list [.int .i64]]] x) : wf_Charges x = true := by
 obtain ⟨a0, a1⟩ := x
 show (wf_IntSS a1) = true
 rw [wfT_IntSS a1 h.2]
end Go.Am