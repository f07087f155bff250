/- WT: what the form lets by is of bounded length. No condition. -/
import Derived.Test.YtckmnjojabgnoaaMT
import Derived.Test.YtckmnjojabgnoaaBr1
set_option linter.unusedVariables false
namespace Go.Am

theorem wfT_IntS (l : List Int) (h : Ty.WfL [.list [.int .i64]] l) : wf_IntS l = true := by
  have h1 : l.length ≤ maxLen := h.1
  exact decide_eq_true (by unfold maxLen at h1; omega)

theorem wfT_Matrix (x : Int × Int × (List Int)) (h : Ty.WfL [.int .i64, .int .i64, .list [.int .i64]] x) : wf_Matrix x = true := by
  obtain ⟨a0, a1, a2⟩ := x
  show (wf_IntS a2) = true
  rw [wfT_IntS a2 h.2.2]


theorem wfT_MatrixS (l : List (Int × Int × (List Int))) (h : Ty.WfL [.list [.int .i64, .int .i64, .list [.int .i64]]] l) : wf_MatrixS l = true := by
  have h1 : l.length ≤ maxLen := h.1
  unfold wf_MatrixS
  rw [Bool.and_eq_true, decide_eq_true_eq, List.all_eq_true]
  exact ⟨by unfold maxLen at h1; omega, fun e he => wfT_Matrix e (h.2 e he)⟩

theorem wfT_Automaton (x : Int × Int × (List Int) × (List (Int × Int × (List Int))) × (List Int)) (h : Ty.WfL [.int .i64, .int .i64, .list [.int .i64], .list [.int .i64, .int .i64, .list [.int .i64]], .list [.int .i64]] x) : wf_Automaton x = true := by
  obtain ⟨a0, a1, a2, a3, a4⟩ := x
  show (wf_IntS a2 && wf_MatrixS a3 && wf_IntS a4) = true
  rw [wfT_IntS a2 h.2.2.1, wfT_MatrixS a3 h.2.2.2.1, wfT_IntS a4 h.2.2.2.2]
  rfl

end Go.Am
