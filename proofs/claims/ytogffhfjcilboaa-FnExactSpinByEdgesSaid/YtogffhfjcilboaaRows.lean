/-
  No cell of these rows narrows 'for every input' (looked for: loops, veiled, ifaces, maps, wideKeys, modest, calm, conditions, laid).
  DERIVED. THE GIVEN ROWS OF THIS SEAT. 4 by the template 'for every input the law returns true; each argument reads behind the call as it read before'; 0 by the template 'total and deterministic' (their statements: YtogffhfjcilboaaTotals.lean).
  GIVEN WITH THE SEED: the statements are not yours to turn. If you find one false, say at which input.
  Laid BY PROGRAM, IN A SANDBOX (cutbox-rows.mjs): the forced cells as the released guide's own fill.sh prints them over the translation 9a6fddaf5fbcc61b… (all of the seat's roots in one cut). By AI agents, Wed Nov 11 2026. No macro, syntax, notation, axiom, sorry.
-/
import Derived.Test.YtogffhfjcilboaaChecked
import GoSem.Claim
import GoSem.ClaimJoined
import GoSem.ClaimMapViews
import Derived.JoinedTies
import Derived.KernelRfl
namespace Go.Proofs.Ytogffhfjcilboaa
/- THE CELL 'sum', in the pinned program and in every row, IS THE sha256 OF THE DUMP (.gsa) THAT YtogffhfjcilboaaProg.lean LOADS. Nothing in Lean hashes anything: it is a label: what it is worth is what the hold of that sum in a sandbox is worth. -/
noncomputable def Try.pinned : Pinned := { name := "ytogffhfjcilboaa", sum := "9a6fddaf5fbcc61b14ee20255e5b9fad78c34f45a6a8a6552f2797253e1cdc9c", checked := Try.checked }
namespace Rows
def none {H : Type} : Left H := { results := [], args := [] }

/-- 'laws.FnExactIndependentSum': WHATEVER THE INPUT: true; the input reads as it did. -/
def fnExactIndependentSumSpec : ChangeSpec := { name := "fnExactIndependentSum", fn := fun _ => fun
  | [d1, d2, d3] => { results := [.lit (.bool true)], args := [d1, d2, d3] }
  | _ => none }
def fnExactIndependentSumRow : OpenClaim := { program := "ytogffhfjcilboaa", sum := "9a6fddaf5fbcc61b14ee20255e5b9fad78c34f45a6a8a6552f2797253e1cdc9c", func := "loop.example/g03211/laws.FnExactIndependentSum", spec := "fnExactIndependentSum", apart := false }
def FnExactIndependentSumSaid : Prop := fnExactIndependentSumRow.holds Try.pinned (OpenSpec.ofChange fnExactIndependentSumSpec)

/-- ITS FALSE NEIGHBOUR: 'it returns false'. Refute it at one input. -/
def fnExactIndependentSumWrong : ChangeSpec := { name := "fnExactIndependentSum", fn := fun _ => fun
  | [d1, d2, d3] => { results := [.lit (.bool false)], args := [d1, d2, d3] }
  | _ => none }
def FnExactIndependentSumWrongFalsely : Prop := fnExactIndependentSumRow.holds Try.pinned (OpenSpec.ofChange fnExactIndependentSumWrong)

/-- 'laws.FnExactClusterSum': WHATEVER THE INPUT: true; the input reads as it did. -/
def fnExactClusterSumSpec : ChangeSpec := { name := "fnExactClusterSum", fn := fun _ => fun
  | [d1, d2, d3, d4] => { results := [.lit (.bool true)], args := [d1, d2, d3, d4] }
  | _ => none }
def fnExactClusterSumRow : OpenClaim := { program := "ytogffhfjcilboaa", sum := "9a6fddaf5fbcc61b14ee20255e5b9fad78c34f45a6a8a6552f2797253e1cdc9c", func := "loop.example/g03211/laws.FnExactClusterSum", spec := "fnExactClusterSum", apart := false }
def FnExactClusterSumSaid : Prop := fnExactClusterSumRow.holds Try.pinned (OpenSpec.ofChange fnExactClusterSumSpec)

/-- ITS FALSE NEIGHBOUR: 'it returns false'. Refute it at one input. -/
def fnExactClusterSumWrong : ChangeSpec := { name := "fnExactClusterSum", fn := fun _ => fun
  | [d1, d2, d3, d4] => { results := [.lit (.bool false)], args := [d1, d2, d3, d4] }
  | _ => none }
def FnExactClusterSumWrongFalsely : Prop := fnExactClusterSumRow.holds Try.pinned (OpenSpec.ofChange fnExactClusterSumWrong)

/-- 'laws.FnExactSpinByEdges': WHATEVER THE INPUT: true; the input reads as it did. -/
def fnExactSpinByEdgesSpec : ChangeSpec := { name := "fnExactSpinByEdges", fn := fun _ => fun
  | [d1, d2, d3, d4] => { results := [.lit (.bool true)], args := [d1, d2, d3, d4] }
  | _ => none }
def fnExactSpinByEdgesRow : OpenClaim := { program := "ytogffhfjcilboaa", sum := "9a6fddaf5fbcc61b14ee20255e5b9fad78c34f45a6a8a6552f2797253e1cdc9c", func := "loop.example/g03211/laws.FnExactSpinByEdges", spec := "fnExactSpinByEdges", unfollowed := true, recurses := true, apart := false }
def FnExactSpinByEdgesSaid : Prop := fnExactSpinByEdgesRow.holds Try.pinned (OpenSpec.ofChange fnExactSpinByEdgesSpec)

/-- ITS FALSE NEIGHBOUR: 'it returns false'. Refute it at one input. -/
def fnExactSpinByEdgesWrong : ChangeSpec := { name := "fnExactSpinByEdges", fn := fun _ => fun
  | [d1, d2, d3, d4] => { results := [.lit (.bool false)], args := [d1, d2, d3, d4] }
  | _ => none }
def FnExactSpinByEdgesWrongFalsely : Prop := fnExactSpinByEdgesRow.holds Try.pinned (OpenSpec.ofChange fnExactSpinByEdgesWrong)

/-- 'laws.FnExactSpinNetwork': WHATEVER THE INPUT: true; the input reads as it did. -/
def fnExactSpinNetworkSpec : ChangeSpec := { name := "fnExactSpinNetwork", fn := fun _ => fun
  | [d1, d2, d3, d4] => { results := [.lit (.bool true)], args := [d1, d2, d3, d4] }
  | _ => none }
def fnExactSpinNetworkRow : OpenClaim := { program := "ytogffhfjcilboaa", sum := "9a6fddaf5fbcc61b14ee20255e5b9fad78c34f45a6a8a6552f2797253e1cdc9c", func := "loop.example/g03211/laws.FnExactSpinNetwork", spec := "fnExactSpinNetwork", apart := false }
def FnExactSpinNetworkSaid : Prop := fnExactSpinNetworkRow.holds Try.pinned (OpenSpec.ofChange fnExactSpinNetworkSpec)

/-- ITS FALSE NEIGHBOUR: 'it returns false'. Refute it at one input. -/
def fnExactSpinNetworkWrong : ChangeSpec := { name := "fnExactSpinNetwork", fn := fun _ => fun
  | [d1, d2, d3, d4] => { results := [.lit (.bool false)], args := [d1, d2, d3, d4] }
  | _ => none }
def FnExactSpinNetworkWrongFalsely : Prop := fnExactSpinNetworkRow.holds Try.pinned (OpenSpec.ofChange fnExactSpinNetworkWrong)

/- THE SECOND FORM. 'bulk': how many values and letters a reading holds, each counted each time it is reached (what is shared counts as often as it is met; a slice's spare places count too). A statement '..UptoSaid' is the law's where the arguments, and the package variables that the reading takes, are together of bulk at most 1048576: NARROWER than '..Said'. Prove '..Said' where nothing that the law and all that it calls make is longer than what came in: it says more and counts as full. Else prove '..UptoSaid'. A law counts once. -/
mutual
def uptoBulk {H : Type} : DataW H → Nat
  | .lit (.string bytes) => bytes.length + 1
  | .lit _ => 1
  | .nil => 1
  | .ptr d => uptoBulk d + 1
  | .slice elems spare => uptoBulkAll elems + uptoBulkAll spare + 1
  | .agg parts => uptoBulkAll parts + 1
  | .iface _ d => uptoBulk d + 1
  | .map entries => uptoBulkEntries entries + 1
  | .held _ => 1
def uptoBulkAll {H : Type} : List (DataW H) → Nat
  | [] => 0
  | d :: r => uptoBulk d + uptoBulkAll r
def uptoBulkEntries {H : Type} : List (Lit × DataW H) → Nat
  | [] => 0
  | x :: r => uptoBulkEntry x + uptoBulkEntries r
def uptoBulkEntry {H : Type} : Lit × DataW H → Nat
  | (.string bytes, d) => bytes.length + uptoBulk d + 1
  | (_, d) => uptoBulk d + 1
 end
def uptoSmall : (H : Type) → List (DataW H) → Bool := fun _ ds => decide (uptoBulkAll ds ≤ 1048576)
def OpenSpec.upto (s : _root_.Go.ChangeSpec) : _root_.Go.OpenSpec := { _root_.Go.OpenSpec.ofChange s with cond := some uptoSmall }

/-- 'laws.FnExactIndependentSum', WHERE WHAT IT READS IS OF BULK AT MOST 1048576: true; the input reads as it did. -/
def fnExactIndependentSumUptoRow : OpenClaim := { program := "ytogffhfjcilboaa", sum := "9a6fddaf5fbcc61b14ee20255e5b9fad78c34f45a6a8a6552f2797253e1cdc9c", func := "loop.example/g03211/laws.FnExactIndependentSum", spec := "fnExactIndependentSum", apart := false, narrowed := true }
def FnExactIndependentSumUptoSaid : Prop := fnExactIndependentSumUptoRow.holds Try.pinned (OpenSpec.upto fnExactIndependentSumSpec)

/-- 'laws.FnExactClusterSum', WHERE WHAT IT READS IS OF BULK AT MOST 1048576: true; the input reads as it did. -/
def fnExactClusterSumUptoRow : OpenClaim := { program := "ytogffhfjcilboaa", sum := "9a6fddaf5fbcc61b14ee20255e5b9fad78c34f45a6a8a6552f2797253e1cdc9c", func := "loop.example/g03211/laws.FnExactClusterSum", spec := "fnExactClusterSum", apart := false, narrowed := true }
def FnExactClusterSumUptoSaid : Prop := fnExactClusterSumUptoRow.holds Try.pinned (OpenSpec.upto fnExactClusterSumSpec)

/-- 'laws.FnExactSpinByEdges', WHERE WHAT IT READS IS OF BULK AT MOST 1048576: true; the input reads as it did. -/
def fnExactSpinByEdgesUptoRow : OpenClaim := { program := "ytogffhfjcilboaa", sum := "9a6fddaf5fbcc61b14ee20255e5b9fad78c34f45a6a8a6552f2797253e1cdc9c", func := "loop.example/g03211/laws.FnExactSpinByEdges", spec := "fnExactSpinByEdges", unfollowed := true, recurses := true, apart := false, narrowed := true }
def FnExactSpinByEdgesUptoSaid : Prop := fnExactSpinByEdgesUptoRow.holds Try.pinned (OpenSpec.upto fnExactSpinByEdgesSpec)

/-- 'laws.FnExactSpinNetwork', WHERE WHAT IT READS IS OF BULK AT MOST 1048576: true; the input reads as it did. -/
def fnExactSpinNetworkUptoRow : OpenClaim := { program := "ytogffhfjcilboaa", sum := "9a6fddaf5fbcc61b14ee20255e5b9fad78c34f45a6a8a6552f2797253e1cdc9c", func := "loop.example/g03211/laws.FnExactSpinNetwork", spec := "fnExactSpinNetwork", apart := false, narrowed := true }
def FnExactSpinNetworkUptoSaid : Prop := fnExactSpinNetworkUptoRow.holds Try.pinned (OpenSpec.upto fnExactSpinNetworkSpec)

end Rows
end Go.Proofs.Ytogffhfjcilboaa
