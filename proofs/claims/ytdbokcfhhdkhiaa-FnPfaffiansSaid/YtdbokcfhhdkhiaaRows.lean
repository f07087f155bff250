/-
  No cell of these rows narrows 'for every input' (looked for: loops, veiled, ifaces, maps, wideKeys, modest, calm, conditions, laid).
  DERIVED. THE GIVEN ROWS OF THIS SEAT. 6 by the template 'for every input the law returns true; each argument reads behind the call as it read before'; 0 by the template 'total and deterministic' (their statements: YtdbokcfhhdkhiaaTotals.lean).
  GIVEN WITH THE SEED: the statements are not yours to turn. If you find one false, say at which input.
  Laid BY PROGRAM, IN A SANDBOX (cutbox-rows.mjs): the forced cells as the released guide's own fill.sh prints them over the translation 58cbc2bd653aa2c5… (all of the seat's roots in one cut). By AI agents, Wed Nov 11 2026. No macro, syntax, notation, axiom, sorry.
-/
import Derived.Test.YtdbokcfhhdkhiaaChecked
import GoSem.Claim
import GoSem.ClaimJoined
import GoSem.ClaimMapViews
import Derived.JoinedTies
import Derived.KernelRfl
namespace Go.Proofs.Ytdbokcfhhdkhiaa
/- THE CELL 'sum', in the pinned program and in every row, IS THE sha256 OF THE DUMP (.gsa) THAT YtdbokcfhhdkhiaaProg.lean LOADS. Nothing in Lean hashes anything: it is a label: what it is worth is what the hold of that sum in a sandbox is worth. -/
noncomputable def Try.pinned : Pinned := { name := "ytdbokcfhhdkhiaa", sum := "58cbc2bd653aa2c5d4c5db21ee4527796e91271cf306ec6c13f3f4475264e934", checked := Try.checked }
namespace Rows
def none {H : Type} : Left H := { results := [], args := [] }

/-- 'laws.FnComponents': WHATEVER THE INPUT: true; the input reads as it did. -/
def fnComponentsSpec : ChangeSpec := { name := "fnComponents", fn := fun _ => fun
  | [d] => { results := [.lit (.bool true)], args := [d] }
  | _ => none }
def fnComponentsRow : OpenClaim := { program := "ytdbokcfhhdkhiaa", sum := "58cbc2bd653aa2c5d4c5db21ee4527796e91271cf306ec6c13f3f4475264e934", func := "loop.example/g03211/laws.FnComponents", spec := "fnComponents", unfollowed := true, recurses := true, apart := false }
def FnComponentsSaid : Prop := fnComponentsRow.holds Try.pinned (OpenSpec.ofChange fnComponentsSpec)

/-- ITS FALSE NEIGHBOUR: 'it returns false'. Refute it at one input. -/
def fnComponentsWrong : ChangeSpec := { name := "fnComponents", fn := fun _ => fun
  | [d] => { results := [.lit (.bool false)], args := [d] }
  | _ => none }
def FnComponentsWrongFalsely : Prop := fnComponentsRow.holds Try.pinned (OpenSpec.ofChange fnComponentsWrong)

/-- 'laws.FnReduced': WHATEVER THE INPUT: true; the input reads as it did. -/
def fnReducedSpec : ChangeSpec := { name := "fnReduced", fn := fun _ => fun
  | [d] => { results := [.lit (.bool true)], args := [d] }
  | _ => none }
def fnReducedRow : OpenClaim := { program := "ytdbokcfhhdkhiaa", sum := "58cbc2bd653aa2c5d4c5db21ee4527796e91271cf306ec6c13f3f4475264e934", func := "loop.example/g03211/laws.FnReduced", spec := "fnReduced", apart := false }
def FnReducedSaid : Prop := fnReducedRow.holds Try.pinned (OpenSpec.ofChange fnReducedSpec)

/-- ITS FALSE NEIGHBOUR: 'it returns false'. Refute it at one input. -/
def fnReducedWrong : ChangeSpec := { name := "fnReduced", fn := fun _ => fun
  | [d] => { results := [.lit (.bool false)], args := [d] }
  | _ => none }
def FnReducedWrongFalsely : Prop := fnReducedRow.holds Try.pinned (OpenSpec.ofChange fnReducedWrong)

/-- 'laws.FnAutomata': WHATEVER THE INPUT: true; the input reads as it did. -/
def fnAutomataSpec : ChangeSpec := { name := "fnAutomata", fn := fun _ => fun
  | [d] => { results := [.lit (.bool true)], args := [d] }
  | _ => none }
def fnAutomataRow : OpenClaim := { program := "ytdbokcfhhdkhiaa", sum := "58cbc2bd653aa2c5d4c5db21ee4527796e91271cf306ec6c13f3f4475264e934", func := "loop.example/g03211/laws.FnAutomata", spec := "fnAutomata", apart := false }
def FnAutomataSaid : Prop := fnAutomataRow.holds Try.pinned (OpenSpec.ofChange fnAutomataSpec)

/-- ITS FALSE NEIGHBOUR: 'it returns false'. Refute it at one input. -/
def fnAutomataWrong : ChangeSpec := { name := "fnAutomata", fn := fun _ => fun
  | [d] => { results := [.lit (.bool false)], args := [d] }
  | _ => none }
def FnAutomataWrongFalsely : Prop := fnAutomataRow.holds Try.pinned (OpenSpec.ofChange fnAutomataWrong)

/-- 'laws.FnWordChains': WHATEVER THE INPUT: true; the input reads as it did. -/
def fnWordChainsSpec : ChangeSpec := { name := "fnWordChains", fn := fun _ => fun
  | [d] => { results := [.lit (.bool true)], args := [d] }
  | _ => none }
def fnWordChainsRow : OpenClaim := { program := "ytdbokcfhhdkhiaa", sum := "58cbc2bd653aa2c5d4c5db21ee4527796e91271cf306ec6c13f3f4475264e934", func := "loop.example/g03211/laws.FnWordChains", spec := "fnWordChains", apart := false }
def FnWordChainsSaid : Prop := fnWordChainsRow.holds Try.pinned (OpenSpec.ofChange fnWordChainsSpec)

/-- ITS FALSE NEIGHBOUR: 'it returns false'. Refute it at one input. -/
def fnWordChainsWrong : ChangeSpec := { name := "fnWordChains", fn := fun _ => fun
  | [d] => { results := [.lit (.bool false)], args := [d] }
  | _ => none }
def FnWordChainsWrongFalsely : Prop := fnWordChainsRow.holds Try.pinned (OpenSpec.ofChange fnWordChainsWrong)

/-- 'laws.FnMatrices': WHATEVER THE INPUT: true; the input reads as it did. -/
def fnMatricesSpec : ChangeSpec := { name := "fnMatrices", fn := fun _ => fun
  | [d] => { results := [.lit (.bool true)], args := [d] }
  | _ => none }
def fnMatricesRow : OpenClaim := { program := "ytdbokcfhhdkhiaa", sum := "58cbc2bd653aa2c5d4c5db21ee4527796e91271cf306ec6c13f3f4475264e934", func := "loop.example/g03211/laws.FnMatrices", spec := "fnMatrices", apart := false }
def FnMatricesSaid : Prop := fnMatricesRow.holds Try.pinned (OpenSpec.ofChange fnMatricesSpec)

/-- ITS FALSE NEIGHBOUR: 'it returns false'. Refute it at one input. -/
def fnMatricesWrong : ChangeSpec := { name := "fnMatrices", fn := fun _ => fun
  | [d] => { results := [.lit (.bool false)], args := [d] }
  | _ => none }
def FnMatricesWrongFalsely : Prop := fnMatricesRow.holds Try.pinned (OpenSpec.ofChange fnMatricesWrong)

/-- 'laws.FnPfaffians': WHATEVER THE INPUT: true; the input reads as it did. -/
def fnPfaffiansSpec : ChangeSpec := { name := "fnPfaffians", fn := fun _ => fun
  | [d] => { results := [.lit (.bool true)], args := [d] }
  | _ => none }
def fnPfaffiansRow : OpenClaim := { program := "ytdbokcfhhdkhiaa", sum := "58cbc2bd653aa2c5d4c5db21ee4527796e91271cf306ec6c13f3f4475264e934", func := "loop.example/g03211/laws.FnPfaffians", spec := "fnPfaffians", apart := false }
def FnPfaffiansSaid : Prop := fnPfaffiansRow.holds Try.pinned (OpenSpec.ofChange fnPfaffiansSpec)

/-- ITS FALSE NEIGHBOUR: 'it returns false'. Refute it at one input. -/
def fnPfaffiansWrong : ChangeSpec := { name := "fnPfaffians", fn := fun _ => fun
  | [d] => { results := [.lit (.bool false)], args := [d] }
  | _ => none }
def FnPfaffiansWrongFalsely : Prop := fnPfaffiansRow.holds Try.pinned (OpenSpec.ofChange fnPfaffiansWrong)

/- THE SECOND FORM. 'bulk': how many values and letters a reading holds, each counted each time it is reached (what is shared counts as often as it is met; a slice's spare places count too). A statement '..UptoSaid' is the law's where the arguments, and the package variables that the reading takes, are together of bulk at most 1048576: NARROWER than '..Said'. Prove '..Said' where nothing that the law and all that it calls make is longer than what came in: it says more and counts as full. Else prove '..UptoSaid'. A law counts once. -/
mutual
def uptoBulk {H : Type} : DataW H → Nat
  | .lit (.string bytes) => bytes.length + 1
  | .lit _ => 1
  | .nil => 1
  | .ptr d => uptoBulk d + 1
  | .slice elems spare => uptoBulkAll elems + uptoBulkAll spare + 1
  | .agg parts => uptoBulkAll parts + 1
  | .iface _ d => uptoBulk d + 1
  | .map entries => uptoBulkEntries entries + 1
  | .held _ => 1
def uptoBulkAll {H : Type} : List (DataW H) → Nat
  | [] => 0
  | d :: r => uptoBulk d + uptoBulkAll r
def uptoBulkEntries {H : Type} : List (Lit × DataW H) → Nat
  | [] => 0
  | x :: r => uptoBulkEntry x + uptoBulkEntries r
def uptoBulkEntry {H : Type} : Lit × DataW H → Nat
  | (.string bytes, d) => bytes.length + uptoBulk d + 1
  | (_, d) => uptoBulk d + 1
 end
def uptoSmall : (H : Type) → List (DataW H) → Bool := fun _ ds => decide (uptoBulkAll ds ≤ 1048576)
def OpenSpec.upto (s : _root_.Go.ChangeSpec) : _root_.Go.OpenSpec := { _root_.Go.OpenSpec.ofChange s with cond := some uptoSmall }

/-- 'laws.FnComponents', WHERE WHAT IT READS IS OF BULK AT MOST 1048576: true; the input reads as it did. -/
def fnComponentsUptoRow : OpenClaim := { program := "ytdbokcfhhdkhiaa", sum := "58cbc2bd653aa2c5d4c5db21ee4527796e91271cf306ec6c13f3f4475264e934", func := "loop.example/g03211/laws.FnComponents", spec := "fnComponents", unfollowed := true, recurses := true, apart := false, narrowed := true }
def FnComponentsUptoSaid : Prop := fnComponentsUptoRow.holds Try.pinned (OpenSpec.upto fnComponentsSpec)

/-- 'laws.FnReduced', WHERE WHAT IT READS IS OF BULK AT MOST 1048576: true; the input reads as it did. -/
def fnReducedUptoRow : OpenClaim := { program := "ytdbokcfhhdkhiaa", sum := "58cbc2bd653aa2c5d4c5db21ee4527796e91271cf306ec6c13f3f4475264e934", func := "loop.example/g03211/laws.FnReduced", spec := "fnReduced", apart := false, narrowed := true }
def FnReducedUptoSaid : Prop := fnReducedUptoRow.holds Try.pinned (OpenSpec.upto fnReducedSpec)

/-- 'laws.FnAutomata', WHERE WHAT IT READS IS OF BULK AT MOST 1048576: true; the input reads as it did. -/
def fnAutomataUptoRow : OpenClaim := { program := "ytdbokcfhhdkhiaa", sum := "58cbc2bd653aa2c5d4c5db21ee4527796e91271cf306ec6c13f3f4475264e934", func := "loop.example/g03211/laws.FnAutomata", spec := "fnAutomata", apart := false, narrowed := true }
def FnAutomataUptoSaid : Prop := fnAutomataUptoRow.holds Try.pinned (OpenSpec.upto fnAutomataSpec)

/-- 'laws.FnWordChains', WHERE WHAT IT READS IS OF BULK AT MOST 1048576: true; the input reads as it did. -/
def fnWordChainsUptoRow : OpenClaim := { program := "ytdbokcfhhdkhiaa", sum := "58cbc2bd653aa2c5d4c5db21ee4527796e91271cf306ec6c13f3f4475264e934", func := "loop.example/g03211/laws.FnWordChains", spec := "fnWordChains", apart := false, narrowed := true }
def FnWordChainsUptoSaid : Prop := fnWordChainsUptoRow.holds Try.pinned (OpenSpec.upto fnWordChainsSpec)

/-- 'laws.FnMatrices', WHERE WHAT IT READS IS OF BULK AT MOST 1048576: true; the input reads as it did. -/
def fnMatricesUptoRow : OpenClaim := { program := "ytdbokcfhhdkhiaa", sum := "58cbc2bd653aa2c5d4c5db21ee4527796e91271cf306ec6c13f3f4475264e934", func := "loop.example/g03211/laws.FnMatrices", spec := "fnMatrices", apart := false, narrowed := true }
def FnMatricesUptoSaid : Prop := fnMatricesUptoRow.holds Try.pinned (OpenSpec.upto fnMatricesSpec)

/-- 'laws.FnPfaffians', WHERE WHAT IT READS IS OF BULK AT MOST 1048576: true; the input reads as it did. -/
def fnPfaffiansUptoRow : OpenClaim := { program := "ytdbokcfhhdkhiaa", sum := "58cbc2bd653aa2c5d4c5db21ee4527796e91271cf306ec6c13f3f4475264e934", func := "loop.example/g03211/laws.FnPfaffians", spec := "fnPfaffians", apart := false, narrowed := true }
def FnPfaffiansUptoSaid : Prop := fnPfaffiansUptoRow.holds Try.pinned (OpenSpec.upto fnPfaffiansSpec)

end Rows
end Go.Proofs.Ytdbokcfhhdkhiaa
