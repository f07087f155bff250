/- MT: sizes, copies, comparisons and marks of the laws' types. No condition. -/
import Derived.Test.YtdbokcfhhdkhiaaB2
set_option linter.unusedVariables false
set_option linter.unusedSimpArgs false
set_option synthInstance.maxSize 1000
set_option synthInstance.maxHeartbeats 400000
namespace Go.Am
def sz_IntS (l : List Int) : Nat := l.length
def sz_Matrix (x : Int × Int × (List Int)) : Nat := match x with | (a0, a1, a2) => sz_IntS a2
def sz_MatrixS (l : List (Int × Int × (List Int))) : Nat := l.length + (l.map sz_Matrix).sum
def sz_Automaton (x : Int × Int × (List Int) × (List (Int × Int × (List Int))) × (List Int)) : Nat := match x with | (a0, a1, a2, a3, a4) => sz_IntS a2 + sz_MatrixS a3 + sz_IntS a4
def sz_Site (x : Int × Int × Int × (List Int)) : Nat := match x with | (a0, a1, a2, a3) => sz_IntS a3
def sz_SiteS (l : List (Int × Int × Int × (List Int))) : Nat := l.length + (l.map sz_Site).sum
def sz_Chain (x : Int × (List (Int × Int × Int × (List Int)))) : Nat := match x with | (a0, a1) => sz_SiteS a1
theorem sz_MatrixS_mem {l : List (Int × Int × (List Int))} (h : sz_MatrixS l ≤ 1048576) : l.length ≤ 1048576 ∧ ∀ e ∈ l, sz_Matrix e ≤ 1048576 := by
  unfold sz_MatrixS at h
  refine ⟨by omega, fun e he => ?_⟩
  have := le_sum_mem (List.mem_map_of_mem (f := sz_Matrix) he)
  omega

theorem sz_SiteS_mem {l : List (Int × Int × Int × (List Int))} (h : sz_SiteS l ≤ 1048576) : l.length ≤ 1048576 ∧ ∀ e ∈ l, sz_Site e ≤ 1048576 := by
  unfold sz_SiteS at h
  refine ⟨by omega, fun e he => ?_⟩
  have := le_sum_mem (List.mem_map_of_mem (f := sz_Site) he)
  omega

end Go.Am
