/-
  No cell of these rows narrows 'for every input' (looked for: loops, veiled, ifaces, maps, wideKeys, modest, calm, conditions, laid).
  DERIVED. THE GIVEN ROWS OF THIS SEAT. 7 by the template 'for every input the law returns true; each argument reads behind the call as it read before'; 0 by the template 'total and deterministic' (their statements: YthildlkhnnogiaaTotals.lean).
  GIVEN WITH THE SEED: the statements are not yours to turn. If you find one false, say at which input.
  Laid BY PROGRAM, IN A SANDBOX (cutbox-rows.mjs): the forced cells as the released guide's own fill.sh prints them over the translation f9bc54504ebfc47b… (all of the seat's roots in one cut). By AI agents, Wed Nov 11 2026. No macro, syntax, notation, axiom, sorry.
-/
import Derived.Test.YthildlkhnnogiaaChecked
import GoSem.Claim
import GoSem.ClaimJoined
import GoSem.ClaimMapViews
import Derived.JoinedTies
import Derived.KernelRfl
namespace Go.Proofs.Ythildlkhnnogiaa
/- THE CELL 'sum', in the pinned program and in every row, IS THE sha256 OF THE DUMP (.gsa) THAT YthildlkhnnogiaaProg.lean LOADS. Nothing in Lean hashes anything: it is a label: what it is worth is what the hold of that sum in a sandbox is worth. -/
noncomputable def Try.pinned : Pinned := { name := "ythildlkhnnogiaa", sum := "f9bc54504ebfc47bfaacb7ac1c2f2d956a503b9d0bf8a223701126a50764da5a", checked := Try.checked }
namespace Rows
def none {H : Type} : Left H := { results := [], args := [] }

/-- 'laws.FnExactReachBasis': WHATEVER THE INPUT: true; the input reads as it did. -/
def fnExactReachBasisSpec : ChangeSpec := { name := "fnExactReachBasis", fn := fun _ => fun
  | [d] => { results := [.lit (.bool true)], args := [d] }
  | _ => none }
def fnExactReachBasisRow : OpenClaim := { program := "ythildlkhnnogiaa", sum := "f9bc54504ebfc47bfaacb7ac1c2f2d956a503b9d0bf8a223701126a50764da5a", func := "loop.example/g03211/laws.FnExactReachBasis", spec := "fnExactReachBasis", apart := false }
def FnExactReachBasisSaid : Prop := fnExactReachBasisRow.holds Try.pinned (OpenSpec.ofChange fnExactReachBasisSpec)

/-- ITS FALSE NEIGHBOUR: 'it returns false'. Refute it at one input. -/
def fnExactReachBasisWrong : ChangeSpec := { name := "fnExactReachBasis", fn := fun _ => fun
  | [d] => { results := [.lit (.bool false)], args := [d] }
  | _ => none }
def FnExactReachBasisWrongFalsely : Prop := fnExactReachBasisRow.holds Try.pinned (OpenSpec.ofChange fnExactReachBasisWrong)

/-- 'laws.FnExactSpinNetwork': WHATEVER THE INPUT: true; the input reads as it did. -/
def fnExactSpinNetworkSpec : ChangeSpec := { name := "fnExactSpinNetwork", fn := fun _ => fun
  | [d1, d2, d3, d4] => { results := [.lit (.bool true)], args := [d1, d2, d3, d4] }
  | _ => none }
def fnExactSpinNetworkRow : OpenClaim := { program := "ythildlkhnnogiaa", sum := "f9bc54504ebfc47bfaacb7ac1c2f2d956a503b9d0bf8a223701126a50764da5a", func := "loop.example/g03211/laws.FnExactSpinNetwork", spec := "fnExactSpinNetwork", apart := false }
def FnExactSpinNetworkSaid : Prop := fnExactSpinNetworkRow.holds Try.pinned (OpenSpec.ofChange fnExactSpinNetworkSpec)

/-- ITS FALSE NEIGHBOUR: 'it returns false'. Refute it at one input. -/
def fnExactSpinNetworkWrong : ChangeSpec := { name := "fnExactSpinNetwork", fn := fun _ => fun
  | [d1, d2, d3, d4] => { results := [.lit (.bool false)], args := [d1, d2, d3, d4] }
  | _ => none }
def FnExactSpinNetworkWrongFalsely : Prop := fnExactSpinNetworkRow.holds Try.pinned (OpenSpec.ofChange fnExactSpinNetworkWrong)

/-- 'laws.FnSpins': WHATEVER THE INPUT: true; the input reads as it did. -/
def fnSpinsSpec : ChangeSpec := { name := "fnSpins", fn := fun _ => fun
  | [d] => { results := [.lit (.bool true)], args := [d] }
  | _ => none }
def fnSpinsRow : OpenClaim := { program := "ythildlkhnnogiaa", sum := "f9bc54504ebfc47bfaacb7ac1c2f2d956a503b9d0bf8a223701126a50764da5a", func := "loop.example/g03211/laws.FnSpins", spec := "fnSpins", unfollowed := true, recurses := true, apart := false }
def FnSpinsSaid : Prop := fnSpinsRow.holds Try.pinned (OpenSpec.ofChange fnSpinsSpec)

/-- ITS FALSE NEIGHBOUR: 'it returns false'. Refute it at one input. -/
def fnSpinsWrong : ChangeSpec := { name := "fnSpins", fn := fun _ => fun
  | [d] => { results := [.lit (.bool false)], args := [d] }
  | _ => none }
def FnSpinsWrongFalsely : Prop := fnSpinsRow.holds Try.pinned (OpenSpec.ofChange fnSpinsWrong)

/-- 'laws.FnExactBlocksOf': WHATEVER THE INPUT: true; the input reads as it did. -/
def fnExactBlocksOfSpec : ChangeSpec := { name := "fnExactBlocksOf", fn := fun _ => fun
  | [d1, d2, d3] => { results := [.lit (.bool true)], args := [d1, d2, d3] }
  | _ => none }
def fnExactBlocksOfRow : OpenClaim := { program := "ythildlkhnnogiaa", sum := "f9bc54504ebfc47bfaacb7ac1c2f2d956a503b9d0bf8a223701126a50764da5a", func := "loop.example/g03211/laws.FnExactBlocksOf", spec := "fnExactBlocksOf", apart := false }
def FnExactBlocksOfSaid : Prop := fnExactBlocksOfRow.holds Try.pinned (OpenSpec.ofChange fnExactBlocksOfSpec)

/-- ITS FALSE NEIGHBOUR: 'it returns false'. Refute it at one input. -/
def fnExactBlocksOfWrong : ChangeSpec := { name := "fnExactBlocksOf", fn := fun _ => fun
  | [d1, d2, d3] => { results := [.lit (.bool false)], args := [d1, d2, d3] }
  | _ => none }
def FnExactBlocksOfWrongFalsely : Prop := fnExactBlocksOfRow.holds Try.pinned (OpenSpec.ofChange fnExactBlocksOfWrong)

/-- 'laws.FnExactJoinBlocks': WHATEVER THE INPUT: true; the input reads as it did. -/
def fnExactJoinBlocksSpec : ChangeSpec := { name := "fnExactJoinBlocks", fn := fun _ => fun
  | [d1, d2, d3, d4] => { results := [.lit (.bool true)], args := [d1, d2, d3, d4] }
  | _ => none }
def fnExactJoinBlocksRow : OpenClaim := { program := "ythildlkhnnogiaa", sum := "f9bc54504ebfc47bfaacb7ac1c2f2d956a503b9d0bf8a223701126a50764da5a", func := "loop.example/g03211/laws.FnExactJoinBlocks", spec := "fnExactJoinBlocks", apart := false }
def FnExactJoinBlocksSaid : Prop := fnExactJoinBlocksRow.holds Try.pinned (OpenSpec.ofChange fnExactJoinBlocksSpec)

/-- ITS FALSE NEIGHBOUR: 'it returns false'. Refute it at one input. -/
def fnExactJoinBlocksWrong : ChangeSpec := { name := "fnExactJoinBlocks", fn := fun _ => fun
  | [d1, d2, d3, d4] => { results := [.lit (.bool false)], args := [d1, d2, d3, d4] }
  | _ => none }
def FnExactJoinBlocksWrongFalsely : Prop := fnExactJoinBlocksRow.holds Try.pinned (OpenSpec.ofChange fnExactJoinBlocksWrong)

/-- 'laws.FnExactBlockPair': WHATEVER THE INPUT: true; the input reads as it did. -/
def fnExactBlockPairSpec : ChangeSpec := { name := "fnExactBlockPair", fn := fun _ => fun
  | [d1, d2, d3, d4, d5] => { results := [.lit (.bool true)], args := [d1, d2, d3, d4, d5] }
  | _ => none }
def fnExactBlockPairRow : OpenClaim := { program := "ythildlkhnnogiaa", sum := "f9bc54504ebfc47bfaacb7ac1c2f2d956a503b9d0bf8a223701126a50764da5a", func := "loop.example/g03211/laws.FnExactBlockPair", spec := "fnExactBlockPair", apart := false }
def FnExactBlockPairSaid : Prop := fnExactBlockPairRow.holds Try.pinned (OpenSpec.ofChange fnExactBlockPairSpec)

/-- ITS FALSE NEIGHBOUR: 'it returns false'. Refute it at one input. -/
def fnExactBlockPairWrong : ChangeSpec := { name := "fnExactBlockPair", fn := fun _ => fun
  | [d1, d2, d3, d4, d5] => { results := [.lit (.bool false)], args := [d1, d2, d3, d4, d5] }
  | _ => none }
def FnExactBlockPairWrongFalsely : Prop := fnExactBlockPairRow.holds Try.pinned (OpenSpec.ofChange fnExactBlockPairWrong)

/-- 'laws.FnBlocks': WHATEVER THE INPUT: true; the input reads as it did. -/
def fnBlocksSpec : ChangeSpec := { name := "fnBlocks", fn := fun _ => fun
  | [d] => { results := [.lit (.bool true)], args := [d] }
  | _ => none }
def fnBlocksRow : OpenClaim := { program := "ythildlkhnnogiaa", sum := "f9bc54504ebfc47bfaacb7ac1c2f2d956a503b9d0bf8a223701126a50764da5a", func := "loop.example/g03211/laws.FnBlocks", spec := "fnBlocks", apart := false }
def FnBlocksSaid : Prop := fnBlocksRow.holds Try.pinned (OpenSpec.ofChange fnBlocksSpec)

/-- ITS FALSE NEIGHBOUR: 'it returns false'. Refute it at one input. -/
def fnBlocksWrong : ChangeSpec := { name := "fnBlocks", fn := fun _ => fun
  | [d] => { results := [.lit (.bool false)], args := [d] }
  | _ => none }
def FnBlocksWrongFalsely : Prop := fnBlocksRow.holds Try.pinned (OpenSpec.ofChange fnBlocksWrong)

/- THE SECOND FORM. 'bulk': how many values and letters a reading holds, each counted each time it is reached (what is shared counts as often as it is met; a slice's spare places count too). A statement '..UptoSaid' is the law's where the arguments, and the package variables that the reading takes, are together of bulk at most 1048576: NARROWER than '..Said'. Prove '..Said' where nothing that the law and all that it calls make is longer than what came in: it says more and counts as full. Else prove '..UptoSaid'. A law counts once. -/
mutual
def uptoBulk {H : Type} : DataW H → Nat
  | .lit (.string bytes) => bytes.length + 1
  | .lit _ => 1
  | .nil => 1
  | .ptr d => uptoBulk d + 1
  | .slice elems spare => uptoBulkAll elems + uptoBulkAll spare + 1
  | .agg parts => uptoBulkAll parts + 1
  | .iface _ d => uptoBulk d + 1
  | .map entries => uptoBulkEntries entries + 1
  | .held _ => 1
def uptoBulkAll {H : Type} : List (DataW H) → Nat
  | [] => 0
  | d :: r => uptoBulk d + uptoBulkAll r
def uptoBulkEntries {H : Type} : List (Lit × DataW H) → Nat
  | [] => 0
  | x :: r => uptoBulkEntry x + uptoBulkEntries r
def uptoBulkEntry {H : Type} : Lit × DataW H → Nat
  | (.string bytes, d) => bytes.length + uptoBulk d + 1
  | (_, d) => uptoBulk d + 1
 end
def uptoSmall : (H : Type) → List (DataW H) → Bool := fun _ ds => decide (uptoBulkAll ds ≤ 1048576)
def OpenSpec.upto (s : _root_.Go.ChangeSpec) : _root_.Go.OpenSpec := { _root_.Go.OpenSpec.ofChange s with cond := some uptoSmall }

/-- 'laws.FnExactReachBasis', WHERE WHAT IT READS IS OF BULK AT MOST 1048576: true; the input reads as it did. -/
def fnExactReachBasisUptoRow : OpenClaim := { program := "ythildlkhnnogiaa", sum := "f9bc54504ebfc47bfaacb7ac1c2f2d956a503b9d0bf8a223701126a50764da5a", func := "loop.example/g03211/laws.FnExactReachBasis", spec := "fnExactReachBasis", apart := false, narrowed := true }
def FnExactReachBasisUptoSaid : Prop := fnExactReachBasisUptoRow.holds Try.pinned (OpenSpec.upto fnExactReachBasisSpec)

/-- 'laws.FnExactSpinNetwork', WHERE WHAT IT READS IS OF BULK AT MOST 1048576: true; the input reads as it did. -/
def fnExactSpinNetworkUptoRow : OpenClaim := { program := "ythildlkhnnogiaa", sum := "f9bc54504ebfc47bfaacb7ac1c2f2d956a503b9d0bf8a223701126a50764da5a", func := "loop.example/g03211/laws.FnExactSpinNetwork", spec := "fnExactSpinNetwork", apart := false, narrowed := true }
def FnExactSpinNetworkUptoSaid : Prop := fnExactSpinNetworkUptoRow.holds Try.pinned (OpenSpec.upto fnExactSpinNetworkSpec)

/-- 'laws.FnSpins', WHERE WHAT IT READS IS OF BULK AT MOST 1048576: true; the input reads as it did. -/
def fnSpinsUptoRow : OpenClaim := { program := "ythildlkhnnogiaa", sum := "f9bc54504ebfc47bfaacb7ac1c2f2d956a503b9d0bf8a223701126a50764da5a", func := "loop.example/g03211/laws.FnSpins", spec := "fnSpins", unfollowed := true, recurses := true, apart := false, narrowed := true }
def FnSpinsUptoSaid : Prop := fnSpinsUptoRow.holds Try.pinned (OpenSpec.upto fnSpinsSpec)

/-- 'laws.FnExactBlocksOf', WHERE WHAT IT READS IS OF BULK AT MOST 1048576: true; the input reads as it did. -/
def fnExactBlocksOfUptoRow : OpenClaim := { program := "ythildlkhnnogiaa", sum := "f9bc54504ebfc47bfaacb7ac1c2f2d956a503b9d0bf8a223701126a50764da5a", func := "loop.example/g03211/laws.FnExactBlocksOf", spec := "fnExactBlocksOf", apart := false, narrowed := true }
def FnExactBlocksOfUptoSaid : Prop := fnExactBlocksOfUptoRow.holds Try.pinned (OpenSpec.upto fnExactBlocksOfSpec)

/-- 'laws.FnExactJoinBlocks', WHERE WHAT IT READS IS OF BULK AT MOST 1048576: true; the input reads as it did. -/
def fnExactJoinBlocksUptoRow : OpenClaim := { program := "ythildlkhnnogiaa", sum := "f9bc54504ebfc47bfaacb7ac1c2f2d956a503b9d0bf8a223701126a50764da5a", func := "loop.example/g03211/laws.FnExactJoinBlocks", spec := "fnExactJoinBlocks", apart := false, narrowed := true }
def FnExactJoinBlocksUptoSaid : Prop := fnExactJoinBlocksUptoRow.holds Try.pinned (OpenSpec.upto fnExactJoinBlocksSpec)

/-- 'laws.FnExactBlockPair', WHERE WHAT IT READS IS OF BULK AT MOST 1048576: true; the input reads as it did. -/
def fnExactBlockPairUptoRow : OpenClaim := { program := "ythildlkhnnogiaa", sum := "f9bc54504ebfc47bfaacb7ac1c2f2d956a503b9d0bf8a223701126a50764da5a", func := "loop.example/g03211/laws.FnExactBlockPair", spec := "fnExactBlockPair", apart := false, narrowed := true }
def FnExactBlockPairUptoSaid : Prop := fnExactBlockPairUptoRow.holds Try.pinned (OpenSpec.upto fnExactBlockPairSpec)

/-- 'laws.FnBlocks', WHERE WHAT IT READS IS OF BULK AT MOST 1048576: true; the input reads as it did. -/
def fnBlocksUptoRow : OpenClaim := { program := "ythildlkhnnogiaa", sum := "f9bc54504ebfc47bfaacb7ac1c2f2d956a503b9d0bf8a223701126a50764da5a", func := "loop.example/g03211/laws.FnBlocks", spec := "fnBlocks", apart := false, narrowed := true }
def FnBlocksUptoSaid : Prop := fnBlocksUptoRow.holds Try.pinned (OpenSpec.upto fnBlocksSpec)

end Rows
end Go.Proofs.Ythildlkhnnogiaa
