/-
  No cell of these rows narrows 'for every input' (looked for: loops, veiled, ifaces, maps, wideKeys, modest, calm, conditions, laid).
  DERIVED. THE GIVEN ROWS OF THIS SEAT. 12 by the template 'for every input the law returns true; each argument reads behind the call as it read before'; 0 by the template 'total and deterministic' (their statements: YtfhgjmihpplnjaaTotals.lean).
  GIVEN WITH THE SEED: the statements are not yours to turn. If you find one false, say at which input.
  Laid BY PROGRAM, IN A SANDBOX (cutbox-rows.mjs): the forced cells as the released guide's own fill.sh prints them over the translation c08c1d03f510086d… (all of the seat's roots in one cut). By AI agents, Wed Nov 11 2026. No macro, syntax, notation, axiom, sorry.
-/
import Derived.Test.YtfhgjmihpplnjaaChecked
import GoSem.Claim
import GoSem.ClaimJoined
import GoSem.ClaimMapViews
import Derived.JoinedTies
import Derived.KernelRfl
namespace Go.Proofs.Ytfhgjmihpplnjaa
/- THE CELL 'sum', in the pinned program and in every row, IS THE sha256 OF THE DUMP (.gsa) THAT YtfhgjmihpplnjaaProg.lean LOADS. Nothing in Lean hashes anything: it is a label: what it is worth is what the hold of that sum in a sandbox is worth. -/
noncomputable def Try.pinned : Pinned := { name := "ytfhgjmihpplnjaa", sum := "c08c1d03f510086dbe3d57a8fb241584eeee7a6066e763e8654b425e24053aef", checked := Try.checked }
namespace Rows
def none {H : Type} : Left H := { results := [], args := [] }

/-- 'laws.FnExactTransposeMatrix': WHATEVER THE INPUT: true; the input reads as it did. -/
def fnExactTransposeMatrixSpec : ChangeSpec := { name := "fnExactTransposeMatrix", fn := fun _ => fun
  | [d1, d2] => { results := [.lit (.bool true)], args := [d1, d2] }
  | _ => none }
def fnExactTransposeMatrixRow : OpenClaim := { program := "ytfhgjmihpplnjaa", sum := "c08c1d03f510086dbe3d57a8fb241584eeee7a6066e763e8654b425e24053aef", func := "loop.example/g03211/laws.FnExactTransposeMatrix", spec := "fnExactTransposeMatrix", apart := false }
def FnExactTransposeMatrixSaid : Prop := fnExactTransposeMatrixRow.holds Try.pinned (OpenSpec.ofChange fnExactTransposeMatrixSpec)

/-- ITS FALSE NEIGHBOUR: 'it returns false'. Refute it at one input. -/
def fnExactTransposeMatrixWrong : ChangeSpec := { name := "fnExactTransposeMatrix", fn := fun _ => fun
  | [d1, d2] => { results := [.lit (.bool false)], args := [d1, d2] }
  | _ => none }
def FnExactTransposeMatrixWrongFalsely : Prop := fnExactTransposeMatrixRow.holds Try.pinned (OpenSpec.ofChange fnExactTransposeMatrixWrong)

/-- 'laws.FnExactMulMatrix': WHATEVER THE INPUT: true; the input reads as it did. -/
def fnExactMulMatrixSpec : ChangeSpec := { name := "fnExactMulMatrix", fn := fun _ => fun
  | [d1, d2, d3] => { results := [.lit (.bool true)], args := [d1, d2, d3] }
  | _ => none }
def fnExactMulMatrixRow : OpenClaim := { program := "ytfhgjmihpplnjaa", sum := "c08c1d03f510086dbe3d57a8fb241584eeee7a6066e763e8654b425e24053aef", func := "loop.example/g03211/laws.FnExactMulMatrix", spec := "fnExactMulMatrix", apart := false }
def FnExactMulMatrixSaid : Prop := fnExactMulMatrixRow.holds Try.pinned (OpenSpec.ofChange fnExactMulMatrixSpec)

/-- ITS FALSE NEIGHBOUR: 'it returns false'. Refute it at one input. -/
def fnExactMulMatrixWrong : ChangeSpec := { name := "fnExactMulMatrix", fn := fun _ => fun
  | [d1, d2, d3] => { results := [.lit (.bool false)], args := [d1, d2, d3] }
  | _ => none }
def FnExactMulMatrixWrongFalsely : Prop := fnExactMulMatrixRow.holds Try.pinned (OpenSpec.ofChange fnExactMulMatrixWrong)

/-- 'laws.FnReduced': WHATEVER THE INPUT: true; the input reads as it did. -/
def fnReducedSpec : ChangeSpec := { name := "fnReduced", fn := fun _ => fun
  | [d] => { results := [.lit (.bool true)], args := [d] }
  | _ => none }
def fnReducedRow : OpenClaim := { program := "ytfhgjmihpplnjaa", sum := "c08c1d03f510086dbe3d57a8fb241584eeee7a6066e763e8654b425e24053aef", func := "loop.example/g03211/laws.FnReduced", spec := "fnReduced", apart := false }
def FnReducedSaid : Prop := fnReducedRow.holds Try.pinned (OpenSpec.ofChange fnReducedSpec)

/-- ITS FALSE NEIGHBOUR: 'it returns false'. Refute it at one input. -/
def fnReducedWrong : ChangeSpec := { name := "fnReduced", fn := fun _ => fun
  | [d] => { results := [.lit (.bool false)], args := [d] }
  | _ => none }
def FnReducedWrongFalsely : Prop := fnReducedRow.holds Try.pinned (OpenSpec.ofChange fnReducedWrong)

/-- 'laws.FnExactDeterminant': WHATEVER THE INPUT: true; the input reads as it did. -/
def fnExactDeterminantSpec : ChangeSpec := { name := "fnExactDeterminant", fn := fun _ => fun
  | [d1, d2] => { results := [.lit (.bool true)], args := [d1, d2] }
  | _ => none }
def fnExactDeterminantRow : OpenClaim := { program := "ytfhgjmihpplnjaa", sum := "c08c1d03f510086dbe3d57a8fb241584eeee7a6066e763e8654b425e24053aef", func := "loop.example/g03211/laws.FnExactDeterminant", spec := "fnExactDeterminant", apart := false }
def FnExactDeterminantSaid : Prop := fnExactDeterminantRow.holds Try.pinned (OpenSpec.ofChange fnExactDeterminantSpec)

/-- ITS FALSE NEIGHBOUR: 'it returns false'. Refute it at one input. -/
def fnExactDeterminantWrong : ChangeSpec := { name := "fnExactDeterminant", fn := fun _ => fun
  | [d1, d2] => { results := [.lit (.bool false)], args := [d1, d2] }
  | _ => none }
def FnExactDeterminantWrongFalsely : Prop := fnExactDeterminantRow.holds Try.pinned (OpenSpec.ofChange fnExactDeterminantWrong)

/-- 'laws.FnExactRankMatrix': WHATEVER THE INPUT: true; the input reads as it did. -/
def fnExactRankMatrixSpec : ChangeSpec := { name := "fnExactRankMatrix", fn := fun _ => fun
  | [d1, d2] => { results := [.lit (.bool true)], args := [d1, d2] }
  | _ => none }
def fnExactRankMatrixRow : OpenClaim := { program := "ytfhgjmihpplnjaa", sum := "c08c1d03f510086dbe3d57a8fb241584eeee7a6066e763e8654b425e24053aef", func := "loop.example/g03211/laws.FnExactRankMatrix", spec := "fnExactRankMatrix", apart := false }
def FnExactRankMatrixSaid : Prop := fnExactRankMatrixRow.holds Try.pinned (OpenSpec.ofChange fnExactRankMatrixSpec)

/-- ITS FALSE NEIGHBOUR: 'it returns false'. Refute it at one input. -/
def fnExactRankMatrixWrong : ChangeSpec := { name := "fnExactRankMatrix", fn := fun _ => fun
  | [d1, d2] => { results := [.lit (.bool false)], args := [d1, d2] }
  | _ => none }
def FnExactRankMatrixWrongFalsely : Prop := fnExactRankMatrixRow.holds Try.pinned (OpenSpec.ofChange fnExactRankMatrixWrong)

/-- 'laws.FnPfaffians': WHATEVER THE INPUT: true; the input reads as it did. -/
def fnPfaffiansSpec : ChangeSpec := { name := "fnPfaffians", fn := fun _ => fun
  | [d] => { results := [.lit (.bool true)], args := [d] }
  | _ => none }
def fnPfaffiansRow : OpenClaim := { program := "ytfhgjmihpplnjaa", sum := "c08c1d03f510086dbe3d57a8fb241584eeee7a6066e763e8654b425e24053aef", func := "loop.example/g03211/laws.FnPfaffians", spec := "fnPfaffians", apart := false }
def FnPfaffiansSaid : Prop := fnPfaffiansRow.holds Try.pinned (OpenSpec.ofChange fnPfaffiansSpec)

/-- ITS FALSE NEIGHBOUR: 'it returns false'. Refute it at one input. -/
def fnPfaffiansWrong : ChangeSpec := { name := "fnPfaffians", fn := fun _ => fun
  | [d] => { results := [.lit (.bool false)], args := [d] }
  | _ => none }
def FnPfaffiansWrongFalsely : Prop := fnPfaffiansRow.holds Try.pinned (OpenSpec.ofChange fnPfaffiansWrong)

/-- 'laws.FnExactReduceMatrix': WHATEVER THE INPUT: true; the input reads as it did. -/
def fnExactReduceMatrixSpec : ChangeSpec := { name := "fnExactReduceMatrix", fn := fun _ => fun
  | [d1, d2] => { results := [.lit (.bool true)], args := [d1, d2] }
  | _ => none }
def fnExactReduceMatrixRow : OpenClaim := { program := "ytfhgjmihpplnjaa", sum := "c08c1d03f510086dbe3d57a8fb241584eeee7a6066e763e8654b425e24053aef", func := "loop.example/g03211/laws.FnExactReduceMatrix", spec := "fnExactReduceMatrix", apart := false }
def FnExactReduceMatrixSaid : Prop := fnExactReduceMatrixRow.holds Try.pinned (OpenSpec.ofChange fnExactReduceMatrixSpec)

/-- ITS FALSE NEIGHBOUR: 'it returns false'. Refute it at one input. -/
def fnExactReduceMatrixWrong : ChangeSpec := { name := "fnExactReduceMatrix", fn := fun _ => fun
  | [d1, d2] => { results := [.lit (.bool false)], args := [d1, d2] }
  | _ => none }
def FnExactReduceMatrixWrongFalsely : Prop := fnExactReduceMatrixRow.holds Try.pinned (OpenSpec.ofChange fnExactReduceMatrixWrong)

/-- 'laws.FnExactPfaffian': WHATEVER THE INPUT: true; the input reads as it did. -/
def fnExactPfaffianSpec : ChangeSpec := { name := "fnExactPfaffian", fn := fun _ => fun
  | [d1, d2] => { results := [.lit (.bool true)], args := [d1, d2] }
  | _ => none }
def fnExactPfaffianRow : OpenClaim := { program := "ytfhgjmihpplnjaa", sum := "c08c1d03f510086dbe3d57a8fb241584eeee7a6066e763e8654b425e24053aef", func := "loop.example/g03211/laws.FnExactPfaffian", spec := "fnExactPfaffian", apart := false }
def FnExactPfaffianSaid : Prop := fnExactPfaffianRow.holds Try.pinned (OpenSpec.ofChange fnExactPfaffianSpec)

/-- ITS FALSE NEIGHBOUR: 'it returns false'. Refute it at one input. -/
def fnExactPfaffianWrong : ChangeSpec := { name := "fnExactPfaffian", fn := fun _ => fun
  | [d1, d2] => { results := [.lit (.bool false)], args := [d1, d2] }
  | _ => none }
def FnExactPfaffianWrongFalsely : Prop := fnExactPfaffianRow.holds Try.pinned (OpenSpec.ofChange fnExactPfaffianWrong)

/-- 'laws.FnMatrices': WHATEVER THE INPUT: true; the input reads as it did. -/
def fnMatricesSpec : ChangeSpec := { name := "fnMatrices", fn := fun _ => fun
  | [d] => { results := [.lit (.bool true)], args := [d] }
  | _ => none }
def fnMatricesRow : OpenClaim := { program := "ytfhgjmihpplnjaa", sum := "c08c1d03f510086dbe3d57a8fb241584eeee7a6066e763e8654b425e24053aef", func := "loop.example/g03211/laws.FnMatrices", spec := "fnMatrices", apart := false }
def FnMatricesSaid : Prop := fnMatricesRow.holds Try.pinned (OpenSpec.ofChange fnMatricesSpec)

/-- ITS FALSE NEIGHBOUR: 'it returns false'. Refute it at one input. -/
def fnMatricesWrong : ChangeSpec := { name := "fnMatrices", fn := fun _ => fun
  | [d] => { results := [.lit (.bool false)], args := [d] }
  | _ => none }
def FnMatricesWrongFalsely : Prop := fnMatricesRow.holds Try.pinned (OpenSpec.ofChange fnMatricesWrong)

/-- 'laws.FnExactFactorMatrix': WHATEVER THE INPUT: true; the input reads as it did. -/
def fnExactFactorMatrixSpec : ChangeSpec := { name := "fnExactFactorMatrix", fn := fun _ => fun
  | [d1, d2] => { results := [.lit (.bool true)], args := [d1, d2] }
  | _ => none }
def fnExactFactorMatrixRow : OpenClaim := { program := "ytfhgjmihpplnjaa", sum := "c08c1d03f510086dbe3d57a8fb241584eeee7a6066e763e8654b425e24053aef", func := "loop.example/g03211/laws.FnExactFactorMatrix", spec := "fnExactFactorMatrix", apart := false }
def FnExactFactorMatrixSaid : Prop := fnExactFactorMatrixRow.holds Try.pinned (OpenSpec.ofChange fnExactFactorMatrixSpec)

/-- ITS FALSE NEIGHBOUR: 'it returns false'. Refute it at one input. -/
def fnExactFactorMatrixWrong : ChangeSpec := { name := "fnExactFactorMatrix", fn := fun _ => fun
  | [d1, d2] => { results := [.lit (.bool false)], args := [d1, d2] }
  | _ => none }
def FnExactFactorMatrixWrongFalsely : Prop := fnExactFactorMatrixRow.holds Try.pinned (OpenSpec.ofChange fnExactFactorMatrixWrong)

/-- 'laws.FnExactInverseMatrix': WHATEVER THE INPUT: true; the input reads as it did. -/
def fnExactInverseMatrixSpec : ChangeSpec := { name := "fnExactInverseMatrix", fn := fun _ => fun
  | [d1, d2] => { results := [.lit (.bool true)], args := [d1, d2] }
  | _ => none }
def fnExactInverseMatrixRow : OpenClaim := { program := "ytfhgjmihpplnjaa", sum := "c08c1d03f510086dbe3d57a8fb241584eeee7a6066e763e8654b425e24053aef", func := "loop.example/g03211/laws.FnExactInverseMatrix", spec := "fnExactInverseMatrix", apart := false }
def FnExactInverseMatrixSaid : Prop := fnExactInverseMatrixRow.holds Try.pinned (OpenSpec.ofChange fnExactInverseMatrixSpec)

/-- ITS FALSE NEIGHBOUR: 'it returns false'. Refute it at one input. -/
def fnExactInverseMatrixWrong : ChangeSpec := { name := "fnExactInverseMatrix", fn := fun _ => fun
  | [d1, d2] => { results := [.lit (.bool false)], args := [d1, d2] }
  | _ => none }
def FnExactInverseMatrixWrongFalsely : Prop := fnExactInverseMatrixRow.holds Try.pinned (OpenSpec.ofChange fnExactInverseMatrixWrong)

/-- 'laws.FnExactSwapOperator': WHATEVER THE INPUT: true; the input reads as it did. -/
def fnExactSwapOperatorSpec : ChangeSpec := { name := "fnExactSwapOperator", fn := fun _ => fun
  | [d1, d2, d3] => { results := [.lit (.bool true)], args := [d1, d2, d3] }
  | _ => none }
def fnExactSwapOperatorRow : OpenClaim := { program := "ytfhgjmihpplnjaa", sum := "c08c1d03f510086dbe3d57a8fb241584eeee7a6066e763e8654b425e24053aef", func := "loop.example/g03211/laws.FnExactSwapOperator", spec := "fnExactSwapOperator", apart := false }
def FnExactSwapOperatorSaid : Prop := fnExactSwapOperatorRow.holds Try.pinned (OpenSpec.ofChange fnExactSwapOperatorSpec)

/-- ITS FALSE NEIGHBOUR: 'it returns false'. Refute it at one input. -/
def fnExactSwapOperatorWrong : ChangeSpec := { name := "fnExactSwapOperator", fn := fun _ => fun
  | [d1, d2, d3] => { results := [.lit (.bool false)], args := [d1, d2, d3] }
  | _ => none }
def FnExactSwapOperatorWrongFalsely : Prop := fnExactSwapOperatorRow.holds Try.pinned (OpenSpec.ofChange fnExactSwapOperatorWrong)

/- THE SECOND FORM. 'bulk': how many values and letters a reading holds, each counted each time it is reached (what is shared counts as often as it is met; a slice's spare places count too). A statement '..UptoSaid' is the law's where the arguments, and the package variables that the reading takes, are together of bulk at most 1048576: NARROWER than '..Said'. Prove '..Said' where nothing that the law and all that it calls make is longer than what came in: it says more and counts as full. Else prove '..UptoSaid'. A law counts once. -/
mutual
def uptoBulk {H : Type} : DataW H → Nat
  | .lit (.string bytes) => bytes.length + 1
  | .lit _ => 1
  | .nil => 1
  | .ptr d => uptoBulk d + 1
  | .slice elems spare => uptoBulkAll elems + uptoBulkAll spare + 1
  | .agg parts => uptoBulkAll parts + 1
  | .iface _ d => uptoBulk d + 1
  | .map entries => uptoBulkEntries entries + 1
  | .held _ => 1
def uptoBulkAll {H : Type} : List (DataW H) → Nat
  | [] => 0
  | d :: r => uptoBulk d + uptoBulkAll r
def uptoBulkEntries {H : Type} : List (Lit × DataW H) → Nat
  | [] => 0
  | x :: r => uptoBulkEntry x + uptoBulkEntries r
def uptoBulkEntry {H : Type} : Lit × DataW H → Nat
  | (.string bytes, d) => bytes.length + uptoBulk d + 1
  | (_, d) => uptoBulk d + 1
 end
def uptoSmall : (H : Type) → List (DataW H) → Bool := fun _ ds => decide (uptoBulkAll ds ≤ 1048576)
def OpenSpec.upto (s : _root_.Go.ChangeSpec) : _root_.Go.OpenSpec := { _root_.Go.OpenSpec.ofChange s with cond := some uptoSmall }

/-- 'laws.FnExactTransposeMatrix', WHERE WHAT IT READS IS OF BULK AT MOST 1048576: true; the input reads as it did. -/
def fnExactTransposeMatrixUptoRow : OpenClaim := { program := "ytfhgjmihpplnjaa", sum := "c08c1d03f510086dbe3d57a8fb241584eeee7a6066e763e8654b425e24053aef", func := "loop.example/g03211/laws.FnExactTransposeMatrix", spec := "fnExactTransposeMatrix", apart := false, narrowed := true }
def FnExactTransposeMatrixUptoSaid : Prop := fnExactTransposeMatrixUptoRow.holds Try.pinned (OpenSpec.upto fnExactTransposeMatrixSpec)

/-- 'laws.FnExactMulMatrix', WHERE WHAT IT READS IS OF BULK AT MOST 1048576: true; the input reads as it did. -/
def fnExactMulMatrixUptoRow : OpenClaim := { program := "ytfhgjmihpplnjaa", sum := "c08c1d03f510086dbe3d57a8fb241584eeee7a6066e763e8654b425e24053aef", func := "loop.example/g03211/laws.FnExactMulMatrix", spec := "fnExactMulMatrix", apart := false, narrowed := true }
def FnExactMulMatrixUptoSaid : Prop := fnExactMulMatrixUptoRow.holds Try.pinned (OpenSpec.upto fnExactMulMatrixSpec)

/-- 'laws.FnReduced', WHERE WHAT IT READS IS OF BULK AT MOST 1048576: true; the input reads as it did. -/
def fnReducedUptoRow : OpenClaim := { program := "ytfhgjmihpplnjaa", sum := "c08c1d03f510086dbe3d57a8fb241584eeee7a6066e763e8654b425e24053aef", func := "loop.example/g03211/laws.FnReduced", spec := "fnReduced", apart := false, narrowed := true }
def FnReducedUptoSaid : Prop := fnReducedUptoRow.holds Try.pinned (OpenSpec.upto fnReducedSpec)

/-- 'laws.FnExactDeterminant', WHERE WHAT IT READS IS OF BULK AT MOST 1048576: true; the input reads as it did. -/
def fnExactDeterminantUptoRow : OpenClaim := { program := "ytfhgjmihpplnjaa", sum := "c08c1d03f510086dbe3d57a8fb241584eeee7a6066e763e8654b425e24053aef", func := "loop.example/g03211/laws.FnExactDeterminant", spec := "fnExactDeterminant", apart := false, narrowed := true }
def FnExactDeterminantUptoSaid : Prop := fnExactDeterminantUptoRow.holds Try.pinned (OpenSpec.upto fnExactDeterminantSpec)

/-- 'laws.FnExactRankMatrix', WHERE WHAT IT READS IS OF BULK AT MOST 1048576: true; the input reads as it did. -/
def fnExactRankMatrixUptoRow : OpenClaim := { program := "ytfhgjmihpplnjaa", sum := "c08c1d03f510086dbe3d57a8fb241584eeee7a6066e763e8654b425e24053aef", func := "loop.example/g03211/laws.FnExactRankMatrix", spec := "fnExactRankMatrix", apart := false, narrowed := true }
def FnExactRankMatrixUptoSaid : Prop := fnExactRankMatrixUptoRow.holds Try.pinned (OpenSpec.upto fnExactRankMatrixSpec)

/-- 'laws.FnPfaffians', WHERE WHAT IT READS IS OF BULK AT MOST 1048576: true; the input reads as it did. -/
def fnPfaffiansUptoRow : OpenClaim := { program := "ytfhgjmihpplnjaa", sum := "c08c1d03f510086dbe3d57a8fb241584eeee7a6066e763e8654b425e24053aef", func := "loop.example/g03211/laws.FnPfaffians", spec := "fnPfaffians", apart := false, narrowed := true }
def FnPfaffiansUptoSaid : Prop := fnPfaffiansUptoRow.holds Try.pinned (OpenSpec.upto fnPfaffiansSpec)

/-- 'laws.FnExactReduceMatrix', WHERE WHAT IT READS IS OF BULK AT MOST 1048576: true; the input reads as it did. -/
def fnExactReduceMatrixUptoRow : OpenClaim := { program := "ytfhgjmihpplnjaa", sum := "c08c1d03f510086dbe3d57a8fb241584eeee7a6066e763e8654b425e24053aef", func := "loop.example/g03211/laws.FnExactReduceMatrix", spec := "fnExactReduceMatrix", apart := false, narrowed := true }
def FnExactReduceMatrixUptoSaid : Prop := fnExactReduceMatrixUptoRow.holds Try.pinned (OpenSpec.upto fnExactReduceMatrixSpec)

/-- 'laws.FnExactPfaffian', WHERE WHAT IT READS IS OF BULK AT MOST 1048576: true; the input reads as it did. -/
def fnExactPfaffianUptoRow : OpenClaim := { program := "ytfhgjmihpplnjaa", sum := "c08c1d03f510086dbe3d57a8fb241584eeee7a6066e763e8654b425e24053aef", func := "loop.example/g03211/laws.FnExactPfaffian", spec := "fnExactPfaffian", apart := false, narrowed := true }
def FnExactPfaffianUptoSaid : Prop := fnExactPfaffianUptoRow.holds Try.pinned (OpenSpec.upto fnExactPfaffianSpec)

/-- 'laws.FnMatrices', WHERE WHAT IT READS IS OF BULK AT MOST 1048576: true; the input reads as it did. -/
def fnMatricesUptoRow : OpenClaim := { program := "ytfhgjmihpplnjaa", sum := "c08c1d03f510086dbe3d57a8fb241584eeee7a6066e763e8654b425e24053aef", func := "loop.example/g03211/laws.FnMatrices", spec := "fnMatrices", apart := false, narrowed := true }
def FnMatricesUptoSaid : Prop := fnMatricesUptoRow.holds Try.pinned (OpenSpec.upto fnMatricesSpec)

/-- 'laws.FnExactFactorMatrix', WHERE WHAT IT READS IS OF BULK AT MOST 1048576: true; the input reads as it did. -/
def fnExactFactorMatrixUptoRow : OpenClaim := { program := "ytfhgjmihpplnjaa", sum := "c08c1d03f510086dbe3d57a8fb241584eeee7a6066e763e8654b425e24053aef", func := "loop.example/g03211/laws.FnExactFactorMatrix", spec := "fnExactFactorMatrix", apart := false, narrowed := true }
def FnExactFactorMatrixUptoSaid : Prop := fnExactFactorMatrixUptoRow.holds Try.pinned (OpenSpec.upto fnExactFactorMatrixSpec)

/-- 'laws.FnExactInverseMatrix', WHERE WHAT IT READS IS OF BULK AT MOST 1048576: true; the input reads as it did. -/
def fnExactInverseMatrixUptoRow : OpenClaim := { program := "ytfhgjmihpplnjaa", sum := "c08c1d03f510086dbe3d57a8fb241584eeee7a6066e763e8654b425e24053aef", func := "loop.example/g03211/laws.FnExactInverseMatrix", spec := "fnExactInverseMatrix", apart := false, narrowed := true }
def FnExactInverseMatrixUptoSaid : Prop := fnExactInverseMatrixUptoRow.holds Try.pinned (OpenSpec.upto fnExactInverseMatrixSpec)

/-- 'laws.FnExactSwapOperator', WHERE WHAT IT READS IS OF BULK AT MOST 1048576: true; the input reads as it did. -/
def fnExactSwapOperatorUptoRow : OpenClaim := { program := "ytfhgjmihpplnjaa", sum := "c08c1d03f510086dbe3d57a8fb241584eeee7a6066e763e8654b425e24053aef", func := "loop.example/g03211/laws.FnExactSwapOperator", spec := "fnExactSwapOperator", apart := false, narrowed := true }
def FnExactSwapOperatorUptoSaid : Prop := fnExactSwapOperatorUptoRow.holds Try.pinned (OpenSpec.upto fnExactSwapOperatorSpec)

end Rows
end Go.Proofs.Ytfhgjmihpplnjaa
