/-
  No cell of these rows narrows 'for every input' (looked for: loops, veiled, ifaces, maps, wideKeys, modest, calm, conditions, laid).
  DERIVED. THE GIVEN ROWS OF THIS SEAT. 11 by the template 'for every input the law returns true; each argument reads behind the call as it read before'; 0 by the template 'total and deterministic' (their statements: YtdbnjjchghmfgaaTotals.lean).
  GIVEN WITH THE SEED: the statements are not yours to turn. If you find one false, say at which input.
  Laid BY PROGRAM, IN A SANDBOX (cutbox-rows.mjs): the forced cells as the released guide's own fill.sh prints them over the translation 0c415c53eb719364… (all of the seat's roots in one cut). By AI agents, Wed Nov 11 2026. No macro, syntax, notation, axiom, sorry.
-/
import Derived.Test.YtdbnjjchghmfgaaChecked
import GoSem.Claim
import GoSem.ClaimJoined
import GoSem.ClaimMapViews
import Derived.JoinedTies
import Derived.KernelRfl
namespace Go.Proofs.Ytdbnjjchghmfgaa
/- THE CELL 'sum', in the pinned program and in every row, IS THE sha256 OF THE DUMP (.gsa) THAT YtdbnjjchghmfgaaProg.lean LOADS. Nothing in Lean hashes anything: it is a label: what it is worth is what the hold of that sum in a sandbox is worth. -/
noncomputable def Try.pinned : Pinned := { name := "ytdbnjjchghmfgaa", sum := "0c415c53eb71936405f8b9dcc4d175d6feb837095d8cf50fe2874a912c11e20d", checked := Try.checked }
namespace Rows
def none {H : Type} : Left H := { results := [], args := [] }

/-- 'laws.FnCompressed': WHATEVER THE INPUT: true; the input reads as it did. -/
def fnCompressedSpec : ChangeSpec := { name := "fnCompressed", fn := fun _ => fun
  | [d] => { results := [.lit (.bool true)], args := [d] }
  | _ => none }
def fnCompressedRow : OpenClaim := { program := "ytdbnjjchghmfgaa", sum := "0c415c53eb71936405f8b9dcc4d175d6feb837095d8cf50fe2874a912c11e20d", func := "loop.example/g03211/laws.FnCompressed", spec := "fnCompressed", recurses := true, apart := false }
def FnCompressedSaid : Prop := fnCompressedRow.holds Try.pinned (OpenSpec.ofChange fnCompressedSpec)

/-- ITS FALSE NEIGHBOUR: 'it returns false'. Refute it at one input. -/
def fnCompressedWrong : ChangeSpec := { name := "fnCompressed", fn := fun _ => fun
  | [d] => { results := [.lit (.bool false)], args := [d] }
  | _ => none }
def FnCompressedWrongFalsely : Prop := fnCompressedRow.holds Try.pinned (OpenSpec.ofChange fnCompressedWrong)

/-- 'laws.FnChains': WHATEVER THE INPUT: true; the input reads as it did. -/
def fnChainsSpec : ChangeSpec := { name := "fnChains", fn := fun _ => fun
  | [d] => { results := [.lit (.bool true)], args := [d] }
  | _ => none }
def fnChainsRow : OpenClaim := { program := "ytdbnjjchghmfgaa", sum := "0c415c53eb71936405f8b9dcc4d175d6feb837095d8cf50fe2874a912c11e20d", func := "loop.example/g03211/laws.FnChains", spec := "fnChains", recurses := true, apart := false }
def FnChainsSaid : Prop := fnChainsRow.holds Try.pinned (OpenSpec.ofChange fnChainsSpec)

/-- ITS FALSE NEIGHBOUR: 'it returns false'. Refute it at one input. -/
def fnChainsWrong : ChangeSpec := { name := "fnChains", fn := fun _ => fun
  | [d] => { results := [.lit (.bool false)], args := [d] }
  | _ => none }
def FnChainsWrongFalsely : Prop := fnChainsRow.holds Try.pinned (OpenSpec.ofChange fnChainsWrong)

/-- 'laws.FnSwapped': WHATEVER THE INPUT: true; the input reads as it did. -/
def fnSwappedSpec : ChangeSpec := { name := "fnSwapped", fn := fun _ => fun
  | [d] => { results := [.lit (.bool true)], args := [d] }
  | _ => none }
def fnSwappedRow : OpenClaim := { program := "ytdbnjjchghmfgaa", sum := "0c415c53eb71936405f8b9dcc4d175d6feb837095d8cf50fe2874a912c11e20d", func := "loop.example/g03211/laws.FnSwapped", spec := "fnSwapped", recurses := true, apart := false }
def FnSwappedSaid : Prop := fnSwappedRow.holds Try.pinned (OpenSpec.ofChange fnSwappedSpec)

/-- ITS FALSE NEIGHBOUR: 'it returns false'. Refute it at one input. -/
def fnSwappedWrong : ChangeSpec := { name := "fnSwapped", fn := fun _ => fun
  | [d] => { results := [.lit (.bool false)], args := [d] }
  | _ => none }
def FnSwappedWrongFalsely : Prop := fnSwappedRow.holds Try.pinned (OpenSpec.ofChange fnSwappedWrong)

/-- 'laws.FnBlocks': WHATEVER THE INPUT: true; the input reads as it did. -/
def fnBlocksSpec : ChangeSpec := { name := "fnBlocks", fn := fun _ => fun
  | [d] => { results := [.lit (.bool true)], args := [d] }
  | _ => none }
def fnBlocksRow : OpenClaim := { program := "ytdbnjjchghmfgaa", sum := "0c415c53eb71936405f8b9dcc4d175d6feb837095d8cf50fe2874a912c11e20d", func := "loop.example/g03211/laws.FnBlocks", spec := "fnBlocks", apart := false }
def FnBlocksSaid : Prop := fnBlocksRow.holds Try.pinned (OpenSpec.ofChange fnBlocksSpec)

/-- ITS FALSE NEIGHBOUR: 'it returns false'. Refute it at one input. -/
def fnBlocksWrong : ChangeSpec := { name := "fnBlocks", fn := fun _ => fun
  | [d] => { results := [.lit (.bool false)], args := [d] }
  | _ => none }
def FnBlocksWrongFalsely : Prop := fnBlocksRow.holds Try.pinned (OpenSpec.ofChange fnBlocksWrong)

/-- 'laws.FnExactChargesOk': WHATEVER THE INPUT: true; the input reads as it did. -/
def fnExactChargesOkSpec : ChangeSpec := { name := "fnExactChargesOk", fn := fun _ => fun
  | [d1, d2] => { results := [.lit (.bool true)], args := [d1, d2] }
  | _ => none }
def fnExactChargesOkRow : OpenClaim := { program := "ytdbnjjchghmfgaa", sum := "0c415c53eb71936405f8b9dcc4d175d6feb837095d8cf50fe2874a912c11e20d", func := "loop.example/g03211/laws.FnExactChargesOk", spec := "fnExactChargesOk", apart := false }
def FnExactChargesOkSaid : Prop := fnExactChargesOkRow.holds Try.pinned (OpenSpec.ofChange fnExactChargesOkSpec)

/-- ITS FALSE NEIGHBOUR: 'it returns false'. Refute it at one input. -/
def fnExactChargesOkWrong : ChangeSpec := { name := "fnExactChargesOk", fn := fun _ => fun
  | [d1, d2] => { results := [.lit (.bool false)], args := [d1, d2] }
  | _ => none }
def FnExactChargesOkWrongFalsely : Prop := fnExactChargesOkRow.holds Try.pinned (OpenSpec.ofChange fnExactChargesOkWrong)

/-- 'laws.FnExactConserves': WHATEVER THE INPUT: true; the input reads as it did. -/
def fnExactConservesSpec : ChangeSpec := { name := "fnExactConserves", fn := fun _ => fun
  | [d1, d2, d3] => { results := [.lit (.bool true)], args := [d1, d2, d3] }
  | _ => none }
def fnExactConservesRow : OpenClaim := { program := "ytdbnjjchghmfgaa", sum := "0c415c53eb71936405f8b9dcc4d175d6feb837095d8cf50fe2874a912c11e20d", func := "loop.example/g03211/laws.FnExactConserves", spec := "fnExactConserves", apart := false }
def FnExactConservesSaid : Prop := fnExactConservesRow.holds Try.pinned (OpenSpec.ofChange fnExactConservesSpec)

/-- ITS FALSE NEIGHBOUR: 'it returns false'. Refute it at one input. -/
def fnExactConservesWrong : ChangeSpec := { name := "fnExactConserves", fn := fun _ => fun
  | [d1, d2, d3] => { results := [.lit (.bool false)], args := [d1, d2, d3] }
  | _ => none }
def FnExactConservesWrongFalsely : Prop := fnExactConservesRow.holds Try.pinned (OpenSpec.ofChange fnExactConservesWrong)

/-- 'laws.FnExactConserveTensor': WHATEVER THE INPUT: true; the input reads as it did. -/
def fnExactConserveTensorSpec : ChangeSpec := { name := "fnExactConserveTensor", fn := fun _ => fun
  | [d1, d2, d3] => { results := [.lit (.bool true)], args := [d1, d2, d3] }
  | _ => none }
def fnExactConserveTensorRow : OpenClaim := { program := "ytdbnjjchghmfgaa", sum := "0c415c53eb71936405f8b9dcc4d175d6feb837095d8cf50fe2874a912c11e20d", func := "loop.example/g03211/laws.FnExactConserveTensor", spec := "fnExactConserveTensor", apart := false }
def FnExactConserveTensorSaid : Prop := fnExactConserveTensorRow.holds Try.pinned (OpenSpec.ofChange fnExactConserveTensorSpec)

/-- ITS FALSE NEIGHBOUR: 'it returns false'. Refute it at one input. -/
def fnExactConserveTensorWrong : ChangeSpec := { name := "fnExactConserveTensor", fn := fun _ => fun
  | [d1, d2, d3] => { results := [.lit (.bool false)], args := [d1, d2, d3] }
  | _ => none }
def FnExactConserveTensorWrongFalsely : Prop := fnExactConserveTensorRow.holds Try.pinned (OpenSpec.ofChange fnExactConserveTensorWrong)

/-- 'laws.FnExactJoinBlocks': WHATEVER THE INPUT: true; the input reads as it did. -/
def fnExactJoinBlocksSpec : ChangeSpec := { name := "fnExactJoinBlocks", fn := fun _ => fun
  | [d1, d2, d3, d4] => { results := [.lit (.bool true)], args := [d1, d2, d3, d4] }
  | _ => none }
def fnExactJoinBlocksRow : OpenClaim := { program := "ytdbnjjchghmfgaa", sum := "0c415c53eb71936405f8b9dcc4d175d6feb837095d8cf50fe2874a912c11e20d", func := "loop.example/g03211/laws.FnExactJoinBlocks", spec := "fnExactJoinBlocks", apart := false }
def FnExactJoinBlocksSaid : Prop := fnExactJoinBlocksRow.holds Try.pinned (OpenSpec.ofChange fnExactJoinBlocksSpec)

/-- ITS FALSE NEIGHBOUR: 'it returns false'. Refute it at one input. -/
def fnExactJoinBlocksWrong : ChangeSpec := { name := "fnExactJoinBlocks", fn := fun _ => fun
  | [d1, d2, d3, d4] => { results := [.lit (.bool false)], args := [d1, d2, d3, d4] }
  | _ => none }
def FnExactJoinBlocksWrongFalsely : Prop := fnExactJoinBlocksRow.holds Try.pinned (OpenSpec.ofChange fnExactJoinBlocksWrong)

/-- 'laws.FnExactBlocksOf': WHATEVER THE INPUT: true; the input reads as it did. -/
def fnExactBlocksOfSpec : ChangeSpec := { name := "fnExactBlocksOf", fn := fun _ => fun
  | [d1, d2, d3] => { results := [.lit (.bool true)], args := [d1, d2, d3] }
  | _ => none }
def fnExactBlocksOfRow : OpenClaim := { program := "ytdbnjjchghmfgaa", sum := "0c415c53eb71936405f8b9dcc4d175d6feb837095d8cf50fe2874a912c11e20d", func := "loop.example/g03211/laws.FnExactBlocksOf", spec := "fnExactBlocksOf", apart := false }
def FnExactBlocksOfSaid : Prop := fnExactBlocksOfRow.holds Try.pinned (OpenSpec.ofChange fnExactBlocksOfSpec)

/-- ITS FALSE NEIGHBOUR: 'it returns false'. Refute it at one input. -/
def fnExactBlocksOfWrong : ChangeSpec := { name := "fnExactBlocksOf", fn := fun _ => fun
  | [d1, d2, d3] => { results := [.lit (.bool false)], args := [d1, d2, d3] }
  | _ => none }
def FnExactBlocksOfWrongFalsely : Prop := fnExactBlocksOfRow.holds Try.pinned (OpenSpec.ofChange fnExactBlocksOfWrong)

/-- 'laws.FnExactBlockPair': WHATEVER THE INPUT: true; the input reads as it did. -/
def fnExactBlockPairSpec : ChangeSpec := { name := "fnExactBlockPair", fn := fun _ => fun
  | [d1, d2, d3, d4, d5] => { results := [.lit (.bool true)], args := [d1, d2, d3, d4, d5] }
  | _ => none }
def fnExactBlockPairRow : OpenClaim := { program := "ytdbnjjchghmfgaa", sum := "0c415c53eb71936405f8b9dcc4d175d6feb837095d8cf50fe2874a912c11e20d", func := "loop.example/g03211/laws.FnExactBlockPair", spec := "fnExactBlockPair", apart := false }
def FnExactBlockPairSaid : Prop := fnExactBlockPairRow.holds Try.pinned (OpenSpec.ofChange fnExactBlockPairSpec)

/-- ITS FALSE NEIGHBOUR: 'it returns false'. Refute it at one input. -/
def fnExactBlockPairWrong : ChangeSpec := { name := "fnExactBlockPair", fn := fun _ => fun
  | [d1, d2, d3, d4, d5] => { results := [.lit (.bool false)], args := [d1, d2, d3, d4, d5] }
  | _ => none }
def FnExactBlockPairWrongFalsely : Prop := fnExactBlockPairRow.holds Try.pinned (OpenSpec.ofChange fnExactBlockPairWrong)

/-- 'laws.FnSpins': WHATEVER THE INPUT: true; the input reads as it did. -/
def fnSpinsSpec : ChangeSpec := { name := "fnSpins", fn := fun _ => fun
  | [d] => { results := [.lit (.bool true)], args := [d] }
  | _ => none }
def fnSpinsRow : OpenClaim := { program := "ytdbnjjchghmfgaa", sum := "0c415c53eb71936405f8b9dcc4d175d6feb837095d8cf50fe2874a912c11e20d", func := "loop.example/g03211/laws.FnSpins", spec := "fnSpins", unfollowed := true, recurses := true, apart := false }
def FnSpinsSaid : Prop := fnSpinsRow.holds Try.pinned (OpenSpec.ofChange fnSpinsSpec)

/-- ITS FALSE NEIGHBOUR: 'it returns false'. Refute it at one input. -/
def fnSpinsWrong : ChangeSpec := { name := "fnSpins", fn := fun _ => fun
  | [d] => { results := [.lit (.bool false)], args := [d] }
  | _ => none }
def FnSpinsWrongFalsely : Prop := fnSpinsRow.holds Try.pinned (OpenSpec.ofChange fnSpinsWrong)

/- THE SECOND FORM. 'bulk': how many values and letters a reading holds, each counted each time it is reached (what is shared counts as often as it is met; a slice's spare places count too). A statement '..UptoSaid' is the law's where the arguments, and the package variables that the reading takes, are together of bulk at most 1048576: NARROWER than '..Said'. Prove '..Said' where nothing that the law and all that it calls make is longer than what came in: it says more and counts as full. Else prove '..UptoSaid'. A law counts once. -/
mutual
def uptoBulk {H : Type} : DataW H → Nat
  | .lit (.string bytes) => bytes.length + 1
  | .lit _ => 1
  | .nil => 1
  | .ptr d => uptoBulk d + 1
  | .slice elems spare => uptoBulkAll elems + uptoBulkAll spare + 1
  | .agg parts => uptoBulkAll parts + 1
  | .iface _ d => uptoBulk d + 1
  | .map entries => uptoBulkEntries entries + 1
  | .held _ => 1
def uptoBulkAll {H : Type} : List (DataW H) → Nat
  | [] => 0
  | d :: r => uptoBulk d + uptoBulkAll r
def uptoBulkEntries {H : Type} : List (Lit × DataW H) → Nat
  | [] => 0
  | x :: r => uptoBulkEntry x + uptoBulkEntries r
def uptoBulkEntry {H : Type} : Lit × DataW H → Nat
  | (.string bytes, d) => bytes.length + uptoBulk d + 1
  | (_, d) => uptoBulk d + 1
 end
def uptoSmall : (H : Type) → List (DataW H) → Bool := fun _ ds => decide (uptoBulkAll ds ≤ 1048576)
def OpenSpec.upto (s : _root_.Go.ChangeSpec) : _root_.Go.OpenSpec := { _root_.Go.OpenSpec.ofChange s with cond := some uptoSmall }

/-- 'laws.FnCompressed', WHERE WHAT IT READS IS OF BULK AT MOST 1048576: true; the input reads as it did. -/
def fnCompressedUptoRow : OpenClaim := { program := "ytdbnjjchghmfgaa", sum := "0c415c53eb71936405f8b9dcc4d175d6feb837095d8cf50fe2874a912c11e20d", func := "loop.example/g03211/laws.FnCompressed", spec := "fnCompressed", recurses := true, apart := false, narrowed := true }
def FnCompressedUptoSaid : Prop := fnCompressedUptoRow.holds Try.pinned (OpenSpec.upto fnCompressedSpec)

/-- 'laws.FnChains', WHERE WHAT IT READS IS OF BULK AT MOST 1048576: true; the input reads as it did. -/
def fnChainsUptoRow : OpenClaim := { program := "ytdbnjjchghmfgaa", sum := "0c415c53eb71936405f8b9dcc4d175d6feb837095d8cf50fe2874a912c11e20d", func := "loop.example/g03211/laws.FnChains", spec := "fnChains", recurses := true, apart := false, narrowed := true }
def FnChainsUptoSaid : Prop := fnChainsUptoRow.holds Try.pinned (OpenSpec.upto fnChainsSpec)

/-- 'laws.FnSwapped', WHERE WHAT IT READS IS OF BULK AT MOST 1048576: true; the input reads as it did. -/
def fnSwappedUptoRow : OpenClaim := { program := "ytdbnjjchghmfgaa", sum := "0c415c53eb71936405f8b9dcc4d175d6feb837095d8cf50fe2874a912c11e20d", func := "loop.example/g03211/laws.FnSwapped", spec := "fnSwapped", recurses := true, apart := false, narrowed := true }
def FnSwappedUptoSaid : Prop := fnSwappedUptoRow.holds Try.pinned (OpenSpec.upto fnSwappedSpec)

/-- 'laws.FnBlocks', WHERE WHAT IT READS IS OF BULK AT MOST 1048576: true; the input reads as it did. -/
def fnBlocksUptoRow : OpenClaim := { program := "ytdbnjjchghmfgaa", sum := "0c415c53eb71936405f8b9dcc4d175d6feb837095d8cf50fe2874a912c11e20d", func := "loop.example/g03211/laws.FnBlocks", spec := "fnBlocks", apart := false, narrowed := true }
def FnBlocksUptoSaid : Prop := fnBlocksUptoRow.holds Try.pinned (OpenSpec.upto fnBlocksSpec)

/-- 'laws.FnExactChargesOk', WHERE WHAT IT READS IS OF BULK AT MOST 1048576: true; the input reads as it did. -/
def fnExactChargesOkUptoRow : OpenClaim := { program := "ytdbnjjchghmfgaa", sum := "0c415c53eb71936405f8b9dcc4d175d6feb837095d8cf50fe2874a912c11e20d", func := "loop.example/g03211/laws.FnExactChargesOk", spec := "fnExactChargesOk", apart := false, narrowed := true }
def FnExactChargesOkUptoSaid : Prop := fnExactChargesOkUptoRow.holds Try.pinned (OpenSpec.upto fnExactChargesOkSpec)

/-- 'laws.FnExactConserves', WHERE WHAT IT READS IS OF BULK AT MOST 1048576: true; the input reads as it did. -/
def fnExactConservesUptoRow : OpenClaim := { program := "ytdbnjjchghmfgaa", sum := "0c415c53eb71936405f8b9dcc4d175d6feb837095d8cf50fe2874a912c11e20d", func := "loop.example/g03211/laws.FnExactConserves", spec := "fnExactConserves", apart := false, narrowed := true }
def FnExactConservesUptoSaid : Prop := fnExactConservesUptoRow.holds Try.pinned (OpenSpec.upto fnExactConservesSpec)

/-- 'laws.FnExactConserveTensor', WHERE WHAT IT READS IS OF BULK AT MOST 1048576: true; the input reads as it did. -/
def fnExactConserveTensorUptoRow : OpenClaim := { program := "ytdbnjjchghmfgaa", sum := "0c415c53eb71936405f8b9dcc4d175d6feb837095d8cf50fe2874a912c11e20d", func := "loop.example/g03211/laws.FnExactConserveTensor", spec := "fnExactConserveTensor", apart := false, narrowed := true }
def FnExactConserveTensorUptoSaid : Prop := fnExactConserveTensorUptoRow.holds Try.pinned (OpenSpec.upto fnExactConserveTensorSpec)

/-- 'laws.FnExactJoinBlocks', WHERE WHAT IT READS IS OF BULK AT MOST 1048576: true; the input reads as it did. -/
def fnExactJoinBlocksUptoRow : OpenClaim := { program := "ytdbnjjchghmfgaa", sum := "0c415c53eb71936405f8b9dcc4d175d6feb837095d8cf50fe2874a912c11e20d", func := "loop.example/g03211/laws.FnExactJoinBlocks", spec := "fnExactJoinBlocks", apart := false, narrowed := true }
def FnExactJoinBlocksUptoSaid : Prop := fnExactJoinBlocksUptoRow.holds Try.pinned (OpenSpec.upto fnExactJoinBlocksSpec)

/-- 'laws.FnExactBlocksOf', WHERE WHAT IT READS IS OF BULK AT MOST 1048576: true; the input reads as it did. -/
def fnExactBlocksOfUptoRow : OpenClaim := { program := "ytdbnjjchghmfgaa", sum := "0c415c53eb71936405f8b9dcc4d175d6feb837095d8cf50fe2874a912c11e20d", func := "loop.example/g03211/laws.FnExactBlocksOf", spec := "fnExactBlocksOf", apart := false, narrowed := true }
def FnExactBlocksOfUptoSaid : Prop := fnExactBlocksOfUptoRow.holds Try.pinned (OpenSpec.upto fnExactBlocksOfSpec)

/-- 'laws.FnExactBlockPair', WHERE WHAT IT READS IS OF BULK AT MOST 1048576: true; the input reads as it did. -/
def fnExactBlockPairUptoRow : OpenClaim := { program := "ytdbnjjchghmfgaa", sum := "0c415c53eb71936405f8b9dcc4d175d6feb837095d8cf50fe2874a912c11e20d", func := "loop.example/g03211/laws.FnExactBlockPair", spec := "fnExactBlockPair", apart := false, narrowed := true }
def FnExactBlockPairUptoSaid : Prop := fnExactBlockPairUptoRow.holds Try.pinned (OpenSpec.upto fnExactBlockPairSpec)

/-- 'laws.FnSpins', WHERE WHAT IT READS IS OF BULK AT MOST 1048576: true; the input reads as it did. -/
def fnSpinsUptoRow : OpenClaim := { program := "ytdbnjjchghmfgaa", sum := "0c415c53eb71936405f8b9dcc4d175d6feb837095d8cf50fe2874a912c11e20d", func := "loop.example/g03211/laws.FnSpins", spec := "fnSpins", unfollowed := true, recurses := true, apart := false, narrowed := true }
def FnSpinsUptoSaid : Prop := fnSpinsUptoRow.holds Try.pinned (OpenSpec.upto fnSpinsSpec)

end Rows
end Go.Proofs.Ytdbnjjchghmfgaa
