/-
  No cell of these rows narrows 'for every input' (looked for: loops, veiled, ifaces, maps, wideKeys, modest, calm, conditions, laid).
  DERIVED. THE GIVEN ROWS OF THIS SEAT. 8 by the template 'for every input the law returns true; each argument reads behind the call as it read before'; 0 by the template 'total and deterministic' (their statements: YtghahachgjeaeaaTotals.lean).
  GIVEN WITH THE SEED: the statements are not yours to turn. If you find one false, say at which input.
  Laid BY PROGRAM, IN A SANDBOX (cutbox-rows.mjs): the forced cells as the released guide's own fill.sh prints them over the translation 013b017b9c6695f5… (all of the seat's roots in one cut). By AI agents, Wed Nov 11 2026. No macro, syntax, notation, axiom, sorry.
-/
import Derived.Test.YtghahachgjeaeaaChecked
import GoSem.Claim
import GoSem.ClaimJoined
import GoSem.ClaimMapViews
import Derived.JoinedTies
import Derived.KernelRfl
namespace Go.Proofs.Ytghahachgjeaeaa
/- THE CELL 'sum', in the pinned program and in every row, IS THE sha256 OF THE DUMP (.gsa) THAT YtghahachgjeaeaaProg.lean LOADS. Nothing in Lean hashes anything: it is a label: what it is worth is what the hold of that sum in a sandbox is worth. -/
noncomputable def Try.pinned : Pinned := { name := "ytghahachgjeaeaa", sum := "013b017b9c6695f51a42c079c9c514124c466aa667c741bc7df38df3ad64ebc6", checked := Try.checked }
namespace Rows
def none {H : Type} : Left H := { results := [], args := [] }

/-- 'laws.FnExactGraphOk': WHATEVER THE INPUT: true; the input reads as it did. -/
def fnExactGraphOkSpec : ChangeSpec := { name := "fnExactGraphOk", fn := fun _ => fun
  | [d] => { results := [.lit (.bool true)], args := [d] }
  | _ => none }
def fnExactGraphOkRow : OpenClaim := { program := "ytghahachgjeaeaa", sum := "013b017b9c6695f51a42c079c9c514124c466aa667c741bc7df38df3ad64ebc6", func := "loop.example/g03211/laws.FnExactGraphOk", spec := "fnExactGraphOk", apart := false }
def FnExactGraphOkSaid : Prop := fnExactGraphOkRow.holds Try.pinned (OpenSpec.ofChange fnExactGraphOkSpec)

/-- ITS FALSE NEIGHBOUR: 'it returns false'. Refute it at one input. -/
def fnExactGraphOkWrong : ChangeSpec := { name := "fnExactGraphOk", fn := fun _ => fun
  | [d] => { results := [.lit (.bool false)], args := [d] }
  | _ => none }
def FnExactGraphOkWrongFalsely : Prop := fnExactGraphOkRow.holds Try.pinned (OpenSpec.ofChange fnExactGraphOkWrong)

/-- 'laws.FnExactSwapOperator': WHATEVER THE INPUT: true; the input reads as it did. -/
def fnExactSwapOperatorSpec : ChangeSpec := { name := "fnExactSwapOperator", fn := fun _ => fun
  | [d1, d2, d3] => { results := [.lit (.bool true)], args := [d1, d2, d3] }
  | _ => none }
def fnExactSwapOperatorRow : OpenClaim := { program := "ytghahachgjeaeaa", sum := "013b017b9c6695f51a42c079c9c514124c466aa667c741bc7df38df3ad64ebc6", func := "loop.example/g03211/laws.FnExactSwapOperator", spec := "fnExactSwapOperator", apart := false }
def FnExactSwapOperatorSaid : Prop := fnExactSwapOperatorRow.holds Try.pinned (OpenSpec.ofChange fnExactSwapOperatorSpec)

/-- ITS FALSE NEIGHBOUR: 'it returns false'. Refute it at one input. -/
def fnExactSwapOperatorWrong : ChangeSpec := { name := "fnExactSwapOperator", fn := fun _ => fun
  | [d1, d2, d3] => { results := [.lit (.bool false)], args := [d1, d2, d3] }
  | _ => none }
def FnExactSwapOperatorWrongFalsely : Prop := fnExactSwapOperatorRow.holds Try.pinned (OpenSpec.ofChange fnExactSwapOperatorWrong)

/-- 'laws.FnExactIsIndependent': WHATEVER THE INPUT: true; the input reads as it did. -/
def fnExactIsIndependentSpec : ChangeSpec := { name := "fnExactIsIndependent", fn := fun _ => fun
  | [d1, d2] => { results := [.lit (.bool true)], args := [d1, d2] }
  | _ => none }
def fnExactIsIndependentRow : OpenClaim := { program := "ytghahachgjeaeaa", sum := "013b017b9c6695f51a42c079c9c514124c466aa667c741bc7df38df3ad64ebc6", func := "loop.example/g03211/laws.FnExactIsIndependent", spec := "fnExactIsIndependent", apart := false }
def FnExactIsIndependentSaid : Prop := fnExactIsIndependentRow.holds Try.pinned (OpenSpec.ofChange fnExactIsIndependentSpec)

/-- ITS FALSE NEIGHBOUR: 'it returns false'. Refute it at one input. -/
def fnExactIsIndependentWrong : ChangeSpec := { name := "fnExactIsIndependent", fn := fun _ => fun
  | [d1, d2] => { results := [.lit (.bool false)], args := [d1, d2] }
  | _ => none }
def FnExactIsIndependentWrongFalsely : Prop := fnExactIsIndependentRow.holds Try.pinned (OpenSpec.ofChange fnExactIsIndependentWrong)

/-- 'laws.FnExactIsMatching': WHATEVER THE INPUT: true; the input reads as it did. -/
def fnExactIsMatchingSpec : ChangeSpec := { name := "fnExactIsMatching", fn := fun _ => fun
  | [d1, d2, d3] => { results := [.lit (.bool true)], args := [d1, d2, d3] }
  | _ => none }
def fnExactIsMatchingRow : OpenClaim := { program := "ytghahachgjeaeaa", sum := "013b017b9c6695f51a42c079c9c514124c466aa667c741bc7df38df3ad64ebc6", func := "loop.example/g03211/laws.FnExactIsMatching", spec := "fnExactIsMatching", apart := false }
def FnExactIsMatchingSaid : Prop := fnExactIsMatchingRow.holds Try.pinned (OpenSpec.ofChange fnExactIsMatchingSpec)

/-- ITS FALSE NEIGHBOUR: 'it returns false'. Refute it at one input. -/
def fnExactIsMatchingWrong : ChangeSpec := { name := "fnExactIsMatching", fn := fun _ => fun
  | [d1, d2, d3] => { results := [.lit (.bool false)], args := [d1, d2, d3] }
  | _ => none }
def FnExactIsMatchingWrongFalsely : Prop := fnExactIsMatchingRow.holds Try.pinned (OpenSpec.ofChange fnExactIsMatchingWrong)

/-- 'laws.FnComponents': WHATEVER THE INPUT: true; the input reads as it did. -/
def fnComponentsSpec : ChangeSpec := { name := "fnComponents", fn := fun _ => fun
  | [d] => { results := [.lit (.bool true)], args := [d] }
  | _ => none }
def fnComponentsRow : OpenClaim := { program := "ytghahachgjeaeaa", sum := "013b017b9c6695f51a42c079c9c514124c466aa667c741bc7df38df3ad64ebc6", func := "loop.example/g03211/laws.FnComponents", spec := "fnComponents", unfollowed := true, recurses := true, apart := false }
def FnComponentsSaid : Prop := fnComponentsRow.holds Try.pinned (OpenSpec.ofChange fnComponentsSpec)

/-- ITS FALSE NEIGHBOUR: 'it returns false'. Refute it at one input. -/
def fnComponentsWrong : ChangeSpec := { name := "fnComponents", fn := fun _ => fun
  | [d] => { results := [.lit (.bool false)], args := [d] }
  | _ => none }
def FnComponentsWrongFalsely : Prop := fnComponentsRow.holds Try.pinned (OpenSpec.ofChange fnComponentsWrong)

/-- 'laws.FnExactComponentCount': WHATEVER THE INPUT: true; the input reads as it did. -/
def fnExactComponentCountSpec : ChangeSpec := { name := "fnExactComponentCount", fn := fun _ => fun
  | [d1, d2] => { results := [.lit (.bool true)], args := [d1, d2] }
  | _ => none }
def fnExactComponentCountRow : OpenClaim := { program := "ytghahachgjeaeaa", sum := "013b017b9c6695f51a42c079c9c514124c466aa667c741bc7df38df3ad64ebc6", func := "loop.example/g03211/laws.FnExactComponentCount", spec := "fnExactComponentCount", apart := false }
def FnExactComponentCountSaid : Prop := fnExactComponentCountRow.holds Try.pinned (OpenSpec.ofChange fnExactComponentCountSpec)

/-- ITS FALSE NEIGHBOUR: 'it returns false'. Refute it at one input. -/
def fnExactComponentCountWrong : ChangeSpec := { name := "fnExactComponentCount", fn := fun _ => fun
  | [d1, d2] => { results := [.lit (.bool false)], args := [d1, d2] }
  | _ => none }
def FnExactComponentCountWrongFalsely : Prop := fnExactComponentCountRow.holds Try.pinned (OpenSpec.ofChange fnExactComponentCountWrong)

/-- 'laws.FnExactDeleteEdge': WHATEVER THE INPUT: true; the input reads as it did. -/
def fnExactDeleteEdgeSpec : ChangeSpec := { name := "fnExactDeleteEdge", fn := fun _ => fun
  | [d1, d2] => { results := [.lit (.bool true)], args := [d1, d2] }
  | _ => none }
def fnExactDeleteEdgeRow : OpenClaim := { program := "ytghahachgjeaeaa", sum := "013b017b9c6695f51a42c079c9c514124c466aa667c741bc7df38df3ad64ebc6", func := "loop.example/g03211/laws.FnExactDeleteEdge", spec := "fnExactDeleteEdge", apart := false }
def FnExactDeleteEdgeSaid : Prop := fnExactDeleteEdgeRow.holds Try.pinned (OpenSpec.ofChange fnExactDeleteEdgeSpec)

/-- ITS FALSE NEIGHBOUR: 'it returns false'. Refute it at one input. -/
def fnExactDeleteEdgeWrong : ChangeSpec := { name := "fnExactDeleteEdge", fn := fun _ => fun
  | [d1, d2] => { results := [.lit (.bool false)], args := [d1, d2] }
  | _ => none }
def FnExactDeleteEdgeWrongFalsely : Prop := fnExactDeleteEdgeRow.holds Try.pinned (OpenSpec.ofChange fnExactDeleteEdgeWrong)

/-- 'laws.FnExactContractEdge': WHATEVER THE INPUT: true; the input reads as it did. -/
def fnExactContractEdgeSpec : ChangeSpec := { name := "fnExactContractEdge", fn := fun _ => fun
  | [d1, d2] => { results := [.lit (.bool true)], args := [d1, d2] }
  | _ => none }
def fnExactContractEdgeRow : OpenClaim := { program := "ytghahachgjeaeaa", sum := "013b017b9c6695f51a42c079c9c514124c466aa667c741bc7df38df3ad64ebc6", func := "loop.example/g03211/laws.FnExactContractEdge", spec := "fnExactContractEdge", unfollowed := true, recurses := true, apart := false }
def FnExactContractEdgeSaid : Prop := fnExactContractEdgeRow.holds Try.pinned (OpenSpec.ofChange fnExactContractEdgeSpec)

/-- ITS FALSE NEIGHBOUR: 'it returns false'. Refute it at one input. -/
def fnExactContractEdgeWrong : ChangeSpec := { name := "fnExactContractEdge", fn := fun _ => fun
  | [d1, d2] => { results := [.lit (.bool false)], args := [d1, d2] }
  | _ => none }
def FnExactContractEdgeWrongFalsely : Prop := fnExactContractEdgeRow.holds Try.pinned (OpenSpec.ofChange fnExactContractEdgeWrong)

/- THE SECOND FORM. 'bulk': how many values and letters a reading holds, each counted each time it is reached (what is shared counts as often as it is met; a slice's spare places count too). A statement '..UptoSaid' is the law's where the arguments, and the package variables that the reading takes, are together of bulk at most 1048576: NARROWER than '..Said'. Prove '..Said' where nothing that the law and all that it calls make is longer than what came in: it says more and counts as full. Else prove '..UptoSaid'. A law counts once. -/
mutual
def uptoBulk {H : Type} : DataW H → Nat
  | .lit (.string bytes) => bytes.length + 1
  | .lit _ => 1
  | .nil => 1
  | .ptr d => uptoBulk d + 1
  | .slice elems spare => uptoBulkAll elems + uptoBulkAll spare + 1
  | .agg parts => uptoBulkAll parts + 1
  | .iface _ d => uptoBulk d + 1
  | .map entries => uptoBulkEntries entries + 1
  | .held _ => 1
def uptoBulkAll {H : Type} : List (DataW H) → Nat
  | [] => 0
  | d :: r => uptoBulk d + uptoBulkAll r
def uptoBulkEntries {H : Type} : List (Lit × DataW H) → Nat
  | [] => 0
  | x :: r => uptoBulkEntry x + uptoBulkEntries r
def uptoBulkEntry {H : Type} : Lit × DataW H → Nat
  | (.string bytes, d) => bytes.length + uptoBulk d + 1
  | (_, d) => uptoBulk d + 1
 end
def uptoSmall : (H : Type) → List (DataW H) → Bool := fun _ ds => decide (uptoBulkAll ds ≤ 1048576)
def OpenSpec.upto (s : _root_.Go.ChangeSpec) : _root_.Go.OpenSpec := { _root_.Go.OpenSpec.ofChange s with cond := some uptoSmall }

/-- 'laws.FnExactGraphOk', WHERE WHAT IT READS IS OF BULK AT MOST 1048576: true; the input reads as it did. -/
def fnExactGraphOkUptoRow : OpenClaim := { program := "ytghahachgjeaeaa", sum := "013b017b9c6695f51a42c079c9c514124c466aa667c741bc7df38df3ad64ebc6", func := "loop.example/g03211/laws.FnExactGraphOk", spec := "fnExactGraphOk", apart := false, narrowed := true }
def FnExactGraphOkUptoSaid : Prop := fnExactGraphOkUptoRow.holds Try.pinned (OpenSpec.upto fnExactGraphOkSpec)

/-- 'laws.FnExactSwapOperator', WHERE WHAT IT READS IS OF BULK AT MOST 1048576: true; the input reads as it did. -/
def fnExactSwapOperatorUptoRow : OpenClaim := { program := "ytghahachgjeaeaa", sum := "013b017b9c6695f51a42c079c9c514124c466aa667c741bc7df38df3ad64ebc6", func := "loop.example/g03211/laws.FnExactSwapOperator", spec := "fnExactSwapOperator", apart := false, narrowed := true }
def FnExactSwapOperatorUptoSaid : Prop := fnExactSwapOperatorUptoRow.holds Try.pinned (OpenSpec.upto fnExactSwapOperatorSpec)

/-- 'laws.FnExactIsIndependent', WHERE WHAT IT READS IS OF BULK AT MOST 1048576: true; the input reads as it did. -/
def fnExactIsIndependentUptoRow : OpenClaim := { program := "ytghahachgjeaeaa", sum := "013b017b9c6695f51a42c079c9c514124c466aa667c741bc7df38df3ad64ebc6", func := "loop.example/g03211/laws.FnExactIsIndependent", spec := "fnExactIsIndependent", apart := false, narrowed := true }
def FnExactIsIndependentUptoSaid : Prop := fnExactIsIndependentUptoRow.holds Try.pinned (OpenSpec.upto fnExactIsIndependentSpec)

/-- 'laws.FnExactIsMatching', WHERE WHAT IT READS IS OF BULK AT MOST 1048576: true; the input reads as it did. -/
def fnExactIsMatchingUptoRow : OpenClaim := { program := "ytghahachgjeaeaa", sum := "013b017b9c6695f51a42c079c9c514124c466aa667c741bc7df38df3ad64ebc6", func := "loop.example/g03211/laws.FnExactIsMatching", spec := "fnExactIsMatching", apart := false, narrowed := true }
def FnExactIsMatchingUptoSaid : Prop := fnExactIsMatchingUptoRow.holds Try.pinned (OpenSpec.upto fnExactIsMatchingSpec)

/-- 'laws.FnComponents', WHERE WHAT IT READS IS OF BULK AT MOST 1048576: true; the input reads as it did. -/
def fnComponentsUptoRow : OpenClaim := { program := "ytghahachgjeaeaa", sum := "013b017b9c6695f51a42c079c9c514124c466aa667c741bc7df38df3ad64ebc6", func := "loop.example/g03211/laws.FnComponents", spec := "fnComponents", unfollowed := true, recurses := true, apart := false, narrowed := true }
def FnComponentsUptoSaid : Prop := fnComponentsUptoRow.holds Try.pinned (OpenSpec.upto fnComponentsSpec)

/-- 'laws.FnExactComponentCount', WHERE WHAT IT READS IS OF BULK AT MOST 1048576: true; the input reads as it did. -/
def fnExactComponentCountUptoRow : OpenClaim := { program := "ytghahachgjeaeaa", sum := "013b017b9c6695f51a42c079c9c514124c466aa667c741bc7df38df3ad64ebc6", func := "loop.example/g03211/laws.FnExactComponentCount", spec := "fnExactComponentCount", apart := false, narrowed := true }
def FnExactComponentCountUptoSaid : Prop := fnExactComponentCountUptoRow.holds Try.pinned (OpenSpec.upto fnExactComponentCountSpec)

/-- 'laws.FnExactDeleteEdge', WHERE WHAT IT READS IS OF BULK AT MOST 1048576: true; the input reads as it did. -/
def fnExactDeleteEdgeUptoRow : OpenClaim := { program := "ytghahachgjeaeaa", sum := "013b017b9c6695f51a42c079c9c514124c466aa667c741bc7df38df3ad64ebc6", func := "loop.example/g03211/laws.FnExactDeleteEdge", spec := "fnExactDeleteEdge", apart := false, narrowed := true }
def FnExactDeleteEdgeUptoSaid : Prop := fnExactDeleteEdgeUptoRow.holds Try.pinned (OpenSpec.upto fnExactDeleteEdgeSpec)

/-- 'laws.FnExactContractEdge', WHERE WHAT IT READS IS OF BULK AT MOST 1048576: true; the input reads as it did. -/
def fnExactContractEdgeUptoRow : OpenClaim := { program := "ytghahachgjeaeaa", sum := "013b017b9c6695f51a42c079c9c514124c466aa667c741bc7df38df3ad64ebc6", func := "loop.example/g03211/laws.FnExactContractEdge", spec := "fnExactContractEdge", unfollowed := true, recurses := true, apart := false, narrowed := true }
def FnExactContractEdgeUptoSaid : Prop := fnExactContractEdgeUptoRow.holds Try.pinned (OpenSpec.upto fnExactContractEdgeSpec)

end Rows
end Go.Proofs.Ytghahachgjeaeaa
