/-
  No cell of these rows narrows 'for every input' (looked for: loops, veiled, ifaces, maps, wideKeys, modest, calm, conditions, laid).
  DERIVED. THE GIVEN ROWS OF THIS SEAT. 5 by the template 'for every input the law returns true; each argument reads behind the call as it read before'; 0 by the template 'total and deterministic' (their statements: YtifmggmhdcdgbaaTotals.lean).
  GIVEN WITH THE SEED: the statements are not yours to turn. If you find one false, say at which input.
  Laid BY PROGRAM, IN A SANDBOX (cutbox-rows.mjs): the forced cells as the released guide's own fill.sh prints them over the translation 5a9339836eb08b9d… (all of the seat's roots in one cut). By AI agents, Wed Nov 11 2026. No macro, syntax, notation, axiom, sorry.
-/
import Derived.Test.YtifmggmhdcdgbaaChecked
import GoSem.Claim
import GoSem.ClaimJoined
import GoSem.ClaimMapViews
import Derived.JoinedTies
import Derived.KernelRfl
namespace Go.Proofs.Ytifmggmhdcdgbaa
/- THE CELL 'sum', in the pinned program and in every row, IS THE sha256 OF THE DUMP (.gsa) THAT YtifmggmhdcdgbaaProg.lean LOADS. Nothing in Lean hashes anything: it is a label: what it is worth is what the hold of that sum in a sandbox is worth. -/
noncomputable def Try.pinned : Pinned := { name := "ytifmggmhdcdgbaa", sum := "5a9339836eb08b9de02f77d1bf2799a21a577407e7bfe2264f35497eeb70528f", checked := Try.checked }
namespace Rows
def none {H : Type} : Left H := { results := [], args := [] }

/-- 'laws.FnExactDifferentWord': WHATEVER THE INPUT: true; the input reads as it did. -/
def fnExactDifferentWordSpec : ChangeSpec := { name := "fnExactDifferentWord", fn := fun _ => fun
  | [d1, d2] => { results := [.lit (.bool true)], args := [d1, d2] }
  | _ => none }
def fnExactDifferentWordRow : OpenClaim := { program := "ytifmggmhdcdgbaa", sum := "5a9339836eb08b9de02f77d1bf2799a21a577407e7bfe2264f35497eeb70528f", func := "loop.example/g03211/laws.FnExactDifferentWord", spec := "fnExactDifferentWord", apart := false }
def FnExactDifferentWordSaid : Prop := fnExactDifferentWordRow.holds Try.pinned (OpenSpec.ofChange fnExactDifferentWordSpec)

/-- ITS FALSE NEIGHBOUR: 'it returns false'. Refute it at one input. -/
def fnExactDifferentWordWrong : ChangeSpec := { name := "fnExactDifferentWord", fn := fun _ => fun
  | [d1, d2] => { results := [.lit (.bool false)], args := [d1, d2] }
  | _ => none }
def FnExactDifferentWordWrongFalsely : Prop := fnExactDifferentWordRow.holds Try.pinned (OpenSpec.ofChange fnExactDifferentWordWrong)

/-- 'laws.FnExactMinimizeAutomaton': WHATEVER THE INPUT: true; the input reads as it did. -/
def fnExactMinimizeAutomatonSpec : ChangeSpec := { name := "fnExactMinimizeAutomaton", fn := fun _ => fun
  | [d] => { results := [.lit (.bool true)], args := [d] }
  | _ => none }
def fnExactMinimizeAutomatonRow : OpenClaim := { program := "ytifmggmhdcdgbaa", sum := "5a9339836eb08b9de02f77d1bf2799a21a577407e7bfe2264f35497eeb70528f", func := "loop.example/g03211/laws.FnExactMinimizeAutomaton", spec := "fnExactMinimizeAutomaton", apart := false }
def FnExactMinimizeAutomatonSaid : Prop := fnExactMinimizeAutomatonRow.holds Try.pinned (OpenSpec.ofChange fnExactMinimizeAutomatonSpec)

/-- ITS FALSE NEIGHBOUR: 'it returns false'. Refute it at one input. -/
def fnExactMinimizeAutomatonWrong : ChangeSpec := { name := "fnExactMinimizeAutomaton", fn := fun _ => fun
  | [d] => { results := [.lit (.bool false)], args := [d] }
  | _ => none }
def FnExactMinimizeAutomatonWrongFalsely : Prop := fnExactMinimizeAutomatonRow.holds Try.pinned (OpenSpec.ofChange fnExactMinimizeAutomatonWrong)

/-- 'laws.FnExactReachBasis': WHATEVER THE INPUT: true; the input reads as it did. -/
def fnExactReachBasisSpec : ChangeSpec := { name := "fnExactReachBasis", fn := fun _ => fun
  | [d] => { results := [.lit (.bool true)], args := [d] }
  | _ => none }
def fnExactReachBasisRow : OpenClaim := { program := "ytifmggmhdcdgbaa", sum := "5a9339836eb08b9de02f77d1bf2799a21a577407e7bfe2264f35497eeb70528f", func := "loop.example/g03211/laws.FnExactReachBasis", spec := "fnExactReachBasis", apart := false }
def FnExactReachBasisSaid : Prop := fnExactReachBasisRow.holds Try.pinned (OpenSpec.ofChange fnExactReachBasisSpec)

/-- ITS FALSE NEIGHBOUR: 'it returns false'. Refute it at one input. -/
def fnExactReachBasisWrong : ChangeSpec := { name := "fnExactReachBasis", fn := fun _ => fun
  | [d] => { results := [.lit (.bool false)], args := [d] }
  | _ => none }
def FnExactReachBasisWrongFalsely : Prop := fnExactReachBasisRow.holds Try.pinned (OpenSpec.ofChange fnExactReachBasisWrong)

/-- 'laws.FnMinimal': WHATEVER THE INPUT: true; the input reads as it did. -/
def fnMinimalSpec : ChangeSpec := { name := "fnMinimal", fn := fun _ => fun
  | [d] => { results := [.lit (.bool true)], args := [d] }
  | _ => none }
def fnMinimalRow : OpenClaim := { program := "ytifmggmhdcdgbaa", sum := "5a9339836eb08b9de02f77d1bf2799a21a577407e7bfe2264f35497eeb70528f", func := "loop.example/g03211/laws.FnMinimal", spec := "fnMinimal", apart := false }
def FnMinimalSaid : Prop := fnMinimalRow.holds Try.pinned (OpenSpec.ofChange fnMinimalSpec)

/-- ITS FALSE NEIGHBOUR: 'it returns false'. Refute it at one input. -/
def fnMinimalWrong : ChangeSpec := { name := "fnMinimal", fn := fun _ => fun
  | [d] => { results := [.lit (.bool false)], args := [d] }
  | _ => none }
def FnMinimalWrongFalsely : Prop := fnMinimalRow.holds Try.pinned (OpenSpec.ofChange fnMinimalWrong)

/-- 'laws.FnDifferent': WHATEVER THE INPUT: true; the input reads as it did. -/
def fnDifferentSpec : ChangeSpec := { name := "fnDifferent", fn := fun _ => fun
  | [d] => { results := [.lit (.bool true)], args := [d] }
  | _ => none }
def fnDifferentRow : OpenClaim := { program := "ytifmggmhdcdgbaa", sum := "5a9339836eb08b9de02f77d1bf2799a21a577407e7bfe2264f35497eeb70528f", func := "loop.example/g03211/laws.FnDifferent", spec := "fnDifferent", apart := false }
def FnDifferentSaid : Prop := fnDifferentRow.holds Try.pinned (OpenSpec.ofChange fnDifferentSpec)

/-- ITS FALSE NEIGHBOUR: 'it returns false'. Refute it at one input. -/
def fnDifferentWrong : ChangeSpec := { name := "fnDifferent", fn := fun _ => fun
  | [d] => { results := [.lit (.bool false)], args := [d] }
  | _ => none }
def FnDifferentWrongFalsely : Prop := fnDifferentRow.holds Try.pinned (OpenSpec.ofChange fnDifferentWrong)

/- THE SECOND FORM. 'bulk': how many values and letters a reading holds, each counted each time it is reached (what is shared counts as often as it is met; a slice's spare places count too). A statement '..UptoSaid' is the law's where the arguments, and the package variables that the reading takes, are together of bulk at most 1048576: NARROWER than '..Said'. Prove '..Said' where nothing that the law and all that it calls make is longer than what came in: it says more and counts as full. Else prove '..UptoSaid'. A law counts once. -/
mutual
def uptoBulk {H : Type} : DataW H → Nat
  | .lit (.string bytes) => bytes.length + 1
  | .lit _ => 1
  | .nil => 1
  | .ptr d => uptoBulk d + 1
  | .slice elems spare => uptoBulkAll elems + uptoBulkAll spare + 1
  | .agg parts => uptoBulkAll parts + 1
  | .iface _ d => uptoBulk d + 1
  | .map entries => uptoBulkEntries entries + 1
  | .held _ => 1
def uptoBulkAll {H : Type} : List (DataW H) → Nat
  | [] => 0
  | d :: r => uptoBulk d + uptoBulkAll r
def uptoBulkEntries {H : Type} : List (Lit × DataW H) → Nat
  | [] => 0
  | x :: r => uptoBulkEntry x + uptoBulkEntries r
def uptoBulkEntry {H : Type} : Lit × DataW H → Nat
  | (.string bytes, d) => bytes.length + uptoBulk d + 1
  | (_, d) => uptoBulk d + 1
 end
def uptoSmall : (H : Type) → List (DataW H) → Bool := fun _ ds => decide (uptoBulkAll ds ≤ 1048576)
def OpenSpec.upto (s : _root_.Go.ChangeSpec) : _root_.Go.OpenSpec := { _root_.Go.OpenSpec.ofChange s with cond := some uptoSmall }

/-- 'laws.FnExactDifferentWord', WHERE WHAT IT READS IS OF BULK AT MOST 1048576: true; the input reads as it did. -/
def fnExactDifferentWordUptoRow : OpenClaim := { program := "ytifmggmhdcdgbaa", sum := "5a9339836eb08b9de02f77d1bf2799a21a577407e7bfe2264f35497eeb70528f", func := "loop.example/g03211/laws.FnExactDifferentWord", spec := "fnExactDifferentWord", apart := false, narrowed := true }
def FnExactDifferentWordUptoSaid : Prop := fnExactDifferentWordUptoRow.holds Try.pinned (OpenSpec.upto fnExactDifferentWordSpec)

/-- 'laws.FnExactMinimizeAutomaton', WHERE WHAT IT READS IS OF BULK AT MOST 1048576: true; the input reads as it did. -/
def fnExactMinimizeAutomatonUptoRow : OpenClaim := { program := "ytifmggmhdcdgbaa", sum := "5a9339836eb08b9de02f77d1bf2799a21a577407e7bfe2264f35497eeb70528f", func := "loop.example/g03211/laws.FnExactMinimizeAutomaton", spec := "fnExactMinimizeAutomaton", apart := false, narrowed := true }
def FnExactMinimizeAutomatonUptoSaid : Prop := fnExactMinimizeAutomatonUptoRow.holds Try.pinned (OpenSpec.upto fnExactMinimizeAutomatonSpec)

/-- 'laws.FnExactReachBasis', WHERE WHAT IT READS IS OF BULK AT MOST 1048576: true; the input reads as it did. -/
def fnExactReachBasisUptoRow : OpenClaim := { program := "ytifmggmhdcdgbaa", sum := "5a9339836eb08b9de02f77d1bf2799a21a577407e7bfe2264f35497eeb70528f", func := "loop.example/g03211/laws.FnExactReachBasis", spec := "fnExactReachBasis", apart := false, narrowed := true }
def FnExactReachBasisUptoSaid : Prop := fnExactReachBasisUptoRow.holds Try.pinned (OpenSpec.upto fnExactReachBasisSpec)

/-- 'laws.FnMinimal', WHERE WHAT IT READS IS OF BULK AT MOST 1048576: true; the input reads as it did. -/
def fnMinimalUptoRow : OpenClaim := { program := "ytifmggmhdcdgbaa", sum := "5a9339836eb08b9de02f77d1bf2799a21a577407e7bfe2264f35497eeb70528f", func := "loop.example/g03211/laws.FnMinimal", spec := "fnMinimal", apart := false, narrowed := true }
def FnMinimalUptoSaid : Prop := fnMinimalUptoRow.holds Try.pinned (OpenSpec.upto fnMinimalSpec)

/-- 'laws.FnDifferent', WHERE WHAT IT READS IS OF BULK AT MOST 1048576: true; the input reads as it did. -/
def fnDifferentUptoRow : OpenClaim := { program := "ytifmggmhdcdgbaa", sum := "5a9339836eb08b9de02f77d1bf2799a21a577407e7bfe2264f35497eeb70528f", func := "loop.example/g03211/laws.FnDifferent", spec := "fnDifferent", apart := false, narrowed := true }
def FnDifferentUptoSaid : Prop := fnDifferentUptoRow.holds Try.pinned (OpenSpec.upto fnDifferentSpec)

end Rows
end Go.Proofs.Ytifmggmhdcdgbaa
