/- WT: what the form lets by is of bounded length. No condition. -/
import Derived.Test.YtdbnjjchghmfgaaMT
import Derived.Test.YtdbnjjchghmfgaaBr1
set_option linter.unusedVariables false
namespace Go.Am

theorem wfT_IntS (l : List Int) (h : Ty.WfL [.list [.int .i64]] l) : wf_IntS l = true := by
  have h1 : l.length ≤ maxLen := h.1
  exact decide_eq_true (by unfold maxLen at h1; omega)

theorem wfT_IntSS (l : List (List Int)) (h : Ty.WfL [.list [.list [.int .i64]]] l) : wf_IntSS l = true := by
  have h1 : l.length ≤ maxLen := h.1
  unfold wf_IntSS
  rw [Bool.and_eq_true, decide_eq_true_eq, List.all_eq_true]
  exact ⟨by unfold maxLen at h1; omega, fun e he => wfT_IntS e (h.2 e he)⟩

theorem wfT_Matrix (x : Int × Int × (List Int)) (h : Ty.WfL [.int .i64, .int .i64, .list [.int .i64]] x) : wf_Matrix x = true := by
  obtain ⟨a0, a1, a2⟩ := x
  show (wf_IntS a2) = true
  rw [wfT_IntS a2 h.2.2]


theorem wfT_MatrixS (l : List (Int × Int × (List Int))) (h : Ty.WfL [.list [.int .i64, .int .i64, .list [.int .i64]]] l) : wf_MatrixS l = true := by
  have h1 : l.length ≤ maxLen := h.1
  unfold wf_MatrixS
  rw [Bool.and_eq_true, decide_eq_true_eq, List.all_eq_true]
  exact ⟨by unfold maxLen at h1; omega, fun e he => wfT_Matrix e (h.2 e he)⟩

theorem wfT_Automaton (x : Int × Int × (List Int) × (List (Int × Int × (List Int))) × (List Int)) (h : Ty.WfL [.int .i64, .int .i64, .list [.int .i64], .list [.int .i64, .int .i64, .list [.int .i64]], .list [.int .i64]] x) : wf_Automaton x = true := by
  obtain ⟨a0, a1, a2, a3, a4⟩ := x
  show (wf_IntS a2 && wf_MatrixS a3 && wf_IntS a4) = true
  rw [wfT_IntS a2 h.2.2.1, wfT_MatrixS a3 h.2.2.2.1, wfT_IntS a4 h.2.2.2.2]
  rfl

theorem wfT_Site (x : Int × Int × Int × (List Int)) (h : Ty.WfL [.int .i64, .int .i64, .int .i64, .list [.int .i64]] x) : wf_Site x = true := by
  obtain ⟨a0, a1, a2, a3⟩ := x
  show (wf_IntS a3) = true
  rw [wfT_IntS a3 h.2.2.2]


theorem wfT_SiteS (l : List (Int × Int × Int × (List Int))) (h : Ty.WfL [.list [.int .i64, .int .i64, .int .i64, .list [.int .i64]]] l) : wf_SiteS l = true := by
  have h1 : l.length ≤ maxLen := h.1
  unfold wf_SiteS
  rw [Bool.and_eq_true, decide_eq_true_eq, List.all_eq_true]
  exact ⟨by unfold maxLen at h1; omega, fun e he => wfT_Site e (h.2 e he)⟩

theorem wfT_Chain (x : Int × (List (Int × Int × Int × (List Int)))) (h : Ty.WfL [.int .i64, .list [.int .i64, .int .i64, .int .i64, .list [.int .i64]]] x) : wf_Chain x = true := by
  obtain ⟨a0, a1⟩ := x
  show (wf_SiteS a1) = true
  rw [wfT_SiteS a1 h.2]


theorem wfT_Tensor (x : (List Int) × (List Int) × (List Int)) (h : Ty.WfL [.list [.int .i64], .list [.int .i64], .list [.int .i64]] x) : wf_Tensor x = true := by
  obtain ⟨a0, a1, a2⟩ := x
  show (wf_IntS a0 && wf_IntS a1 && wf_IntS a2) = true
  rw [wfT_IntS a0 h.1, wfT_IntS a1 h.2.1, wfT_IntS a2 h.2.2]
  rfl

theorem wfT_Charges (x : Int × (List (List Int))) (h : Ty.WfL [.int .i64, .list [.list [.int .i64]]] x) : wf_Charges x = true := by
  obtain ⟨a0, a1⟩ := x
  show (wf_IntSS a1) = true
  rw [wfT_IntSS a1 h.2]


theorem wfT_EdgeS (l : List (Int × Int)) (h : Ty.WfL [.list [.int .i64, .int .i64]] l) : wf_EdgeS l = true := by
  have h1 : l.length ≤ maxLen := h.1
  exact decide_eq_true (by unfold maxLen at h1; omega)

theorem wfT_Graph (x : Int × (List (Int × Int))) (h : Ty.WfL [.int .i64, .list [.int .i64, .int .i64]] x) : wf_Graph x = true := by
  obtain ⟨a0, a1⟩ := x
  show (wf_EdgeS a1) = true
  rw [wfT_EdgeS a1 h.2]


end Go.Am
