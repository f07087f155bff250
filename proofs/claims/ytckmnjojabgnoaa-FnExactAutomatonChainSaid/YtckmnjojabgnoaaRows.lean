/-
  No cell of these rows narrows 'for every input' (looked for: loops, veiled, ifaces, maps, wideKeys, modest, calm, conditions, laid).
  DERIVED. THE GIVEN ROWS OF THIS SEAT. 12 by the template 'for every input the law returns true; each argument reads behind the call as it read before'; 0 by the template 'total and deterministic' (their statements: YtckmnjojabgnoaaTotals.lean).
  GIVEN WITH THE SEED: the statements are not yours to turn. If you find one false, say at which input.
  Laid BY PROGRAM, IN A SANDBOX (cutbox-rows.mjs): the forced cells as the released guide's own fill.sh prints them over the translation 662b2ab5b6f9a0d1… (all of the seat's roots in one cut). By AI agents, Wed Nov 11 2026. No macro, syntax, notation, axiom, sorry.
-/
import Derived.Test.YtckmnjojabgnoaaChecked
import GoSem.Claim
import GoSem.ClaimJoined
import GoSem.ClaimMapViews
import Derived.JoinedTies
import Derived.KernelRfl
namespace Go.Proofs.Ytckmnjojabgnoaa
/- THE CELL 'sum', in the pinned program and in every row, IS THE sha256 OF THE DUMP (.gsa) THAT YtckmnjojabgnoaaProg.lean LOADS. Nothing in Lean hashes anything: it is a label: what it is worth is what the hold of that sum in a sandbox is worth. -/
noncomputable def Try.pinned : Pinned := { name := "ytckmnjojabgnoaa", sum := "662b2ab5b6f9a0d1a8b275ea5a69106cbf4405bfb6cf1e3521d2dee2f064f4d6", checked := Try.checked }
namespace Rows
def none {H : Type} : Left H := { results := [], args := [] }

/-- 'laws.FnExactAutomatonOk': WHATEVER THE INPUT: true; the input reads as it did. -/
def fnExactAutomatonOkSpec : ChangeSpec := { name := "fnExactAutomatonOk", fn := fun _ => fun
  | [d] => { results := [.lit (.bool true)], args := [d] }
  | _ => none }
def fnExactAutomatonOkRow : OpenClaim := { program := "ytckmnjojabgnoaa", sum := "662b2ab5b6f9a0d1a8b275ea5a69106cbf4405bfb6cf1e3521d2dee2f064f4d6", func := "loop.example/g03211/laws.FnExactAutomatonOk", spec := "fnExactAutomatonOk", apart := false }
def FnExactAutomatonOkSaid : Prop := fnExactAutomatonOkRow.holds Try.pinned (OpenSpec.ofChange fnExactAutomatonOkSpec)

/-- ITS FALSE NEIGHBOUR: 'it returns false'. Refute it at one input. -/
def fnExactAutomatonOkWrong : ChangeSpec := { name := "fnExactAutomatonOk", fn := fun _ => fun
  | [d] => { results := [.lit (.bool false)], args := [d] }
  | _ => none }
def FnExactAutomatonOkWrongFalsely : Prop := fnExactAutomatonOkRow.holds Try.pinned (OpenSpec.ofChange fnExactAutomatonOkWrong)

/-- 'laws.FnAutomata': WHATEVER THE INPUT: true; the input reads as it did. -/
def fnAutomataSpec : ChangeSpec := { name := "fnAutomata", fn := fun _ => fun
  | [d] => { results := [.lit (.bool true)], args := [d] }
  | _ => none }
def fnAutomataRow : OpenClaim := { program := "ytckmnjojabgnoaa", sum := "662b2ab5b6f9a0d1a8b275ea5a69106cbf4405bfb6cf1e3521d2dee2f064f4d6", func := "loop.example/g03211/laws.FnAutomata", spec := "fnAutomata", apart := false }
def FnAutomataSaid : Prop := fnAutomataRow.holds Try.pinned (OpenSpec.ofChange fnAutomataSpec)

/-- ITS FALSE NEIGHBOUR: 'it returns false'. Refute it at one input. -/
def fnAutomataWrong : ChangeSpec := { name := "fnAutomata", fn := fun _ => fun
  | [d] => { results := [.lit (.bool false)], args := [d] }
  | _ => none }
def FnAutomataWrongFalsely : Prop := fnAutomataRow.holds Try.pinned (OpenSpec.ofChange fnAutomataWrong)

/-- 'laws.FnExactWordWeight': WHATEVER THE INPUT: true; the input reads as it did. -/
def fnExactWordWeightSpec : ChangeSpec := { name := "fnExactWordWeight", fn := fun _ => fun
  | [d1, d2] => { results := [.lit (.bool true)], args := [d1, d2] }
  | _ => none }
def fnExactWordWeightRow : OpenClaim := { program := "ytckmnjojabgnoaa", sum := "662b2ab5b6f9a0d1a8b275ea5a69106cbf4405bfb6cf1e3521d2dee2f064f4d6", func := "loop.example/g03211/laws.FnExactWordWeight", spec := "fnExactWordWeight", apart := false }
def FnExactWordWeightSaid : Prop := fnExactWordWeightRow.holds Try.pinned (OpenSpec.ofChange fnExactWordWeightSpec)

/-- ITS FALSE NEIGHBOUR: 'it returns false'. Refute it at one input. -/
def fnExactWordWeightWrong : ChangeSpec := { name := "fnExactWordWeight", fn := fun _ => fun
  | [d1, d2] => { results := [.lit (.bool false)], args := [d1, d2] }
  | _ => none }
def FnExactWordWeightWrongFalsely : Prop := fnExactWordWeightRow.holds Try.pinned (OpenSpec.ofChange fnExactWordWeightWrong)

/-- 'laws.FnMinimal': WHATEVER THE INPUT: true; the input reads as it did. -/
def fnMinimalSpec : ChangeSpec := { name := "fnMinimal", fn := fun _ => fun
  | [d] => { results := [.lit (.bool true)], args := [d] }
  | _ => none }
def fnMinimalRow : OpenClaim := { program := "ytckmnjojabgnoaa", sum := "662b2ab5b6f9a0d1a8b275ea5a69106cbf4405bfb6cf1e3521d2dee2f064f4d6", func := "loop.example/g03211/laws.FnMinimal", spec := "fnMinimal", apart := false }
def FnMinimalSaid : Prop := fnMinimalRow.holds Try.pinned (OpenSpec.ofChange fnMinimalSpec)

/-- ITS FALSE NEIGHBOUR: 'it returns false'. Refute it at one input. -/
def fnMinimalWrong : ChangeSpec := { name := "fnMinimal", fn := fun _ => fun
  | [d] => { results := [.lit (.bool false)], args := [d] }
  | _ => none }
def FnMinimalWrongFalsely : Prop := fnMinimalRow.holds Try.pinned (OpenSpec.ofChange fnMinimalWrong)

/-- 'laws.FnExactMultiplyAutomata': WHATEVER THE INPUT: true; the input reads as it did. -/
def fnExactMultiplyAutomataSpec : ChangeSpec := { name := "fnExactMultiplyAutomata", fn := fun _ => fun
  | [d1, d2] => { results := [.lit (.bool true)], args := [d1, d2] }
  | _ => none }
def fnExactMultiplyAutomataRow : OpenClaim := { program := "ytckmnjojabgnoaa", sum := "662b2ab5b6f9a0d1a8b275ea5a69106cbf4405bfb6cf1e3521d2dee2f064f4d6", func := "loop.example/g03211/laws.FnExactMultiplyAutomata", spec := "fnExactMultiplyAutomata", apart := false }
def FnExactMultiplyAutomataSaid : Prop := fnExactMultiplyAutomataRow.holds Try.pinned (OpenSpec.ofChange fnExactMultiplyAutomataSpec)

/-- ITS FALSE NEIGHBOUR: 'it returns false'. Refute it at one input. -/
def fnExactMultiplyAutomataWrong : ChangeSpec := { name := "fnExactMultiplyAutomata", fn := fun _ => fun
  | [d1, d2] => { results := [.lit (.bool false)], args := [d1, d2] }
  | _ => none }
def FnExactMultiplyAutomataWrongFalsely : Prop := fnExactMultiplyAutomataRow.holds Try.pinned (OpenSpec.ofChange fnExactMultiplyAutomataWrong)

/-- 'laws.FnExactAddAutomata': WHATEVER THE INPUT: true; the input reads as it did. -/
def fnExactAddAutomataSpec : ChangeSpec := { name := "fnExactAddAutomata", fn := fun _ => fun
  | [d1, d2] => { results := [.lit (.bool true)], args := [d1, d2] }
  | _ => none }
def fnExactAddAutomataRow : OpenClaim := { program := "ytckmnjojabgnoaa", sum := "662b2ab5b6f9a0d1a8b275ea5a69106cbf4405bfb6cf1e3521d2dee2f064f4d6", func := "loop.example/g03211/laws.FnExactAddAutomata", spec := "fnExactAddAutomata", apart := false }
def FnExactAddAutomataSaid : Prop := fnExactAddAutomataRow.holds Try.pinned (OpenSpec.ofChange fnExactAddAutomataSpec)

/-- ITS FALSE NEIGHBOUR: 'it returns false'. Refute it at one input. -/
def fnExactAddAutomataWrong : ChangeSpec := { name := "fnExactAddAutomata", fn := fun _ => fun
  | [d1, d2] => { results := [.lit (.bool false)], args := [d1, d2] }
  | _ => none }
def FnExactAddAutomataWrongFalsely : Prop := fnExactAddAutomataRow.holds Try.pinned (OpenSpec.ofChange fnExactAddAutomataWrong)

/-- 'laws.FnDifferent': WHATEVER THE INPUT: true; the input reads as it did. -/
def fnDifferentSpec : ChangeSpec := { name := "fnDifferent", fn := fun _ => fun
  | [d] => { results := [.lit (.bool true)], args := [d] }
  | _ => none }
def fnDifferentRow : OpenClaim := { program := "ytckmnjojabgnoaa", sum := "662b2ab5b6f9a0d1a8b275ea5a69106cbf4405bfb6cf1e3521d2dee2f064f4d6", func := "loop.example/g03211/laws.FnDifferent", spec := "fnDifferent", apart := false }
def FnDifferentSaid : Prop := fnDifferentRow.holds Try.pinned (OpenSpec.ofChange fnDifferentSpec)

/-- ITS FALSE NEIGHBOUR: 'it returns false'. Refute it at one input. -/
def fnDifferentWrong : ChangeSpec := { name := "fnDifferent", fn := fun _ => fun
  | [d] => { results := [.lit (.bool false)], args := [d] }
  | _ => none }
def FnDifferentWrongFalsely : Prop := fnDifferentRow.holds Try.pinned (OpenSpec.ofChange fnDifferentWrong)

/-- 'laws.FnExactReachBasis': WHATEVER THE INPUT: true; the input reads as it did. -/
def fnExactReachBasisSpec : ChangeSpec := { name := "fnExactReachBasis", fn := fun _ => fun
  | [d] => { results := [.lit (.bool true)], args := [d] }
  | _ => none }
def fnExactReachBasisRow : OpenClaim := { program := "ytckmnjojabgnoaa", sum := "662b2ab5b6f9a0d1a8b275ea5a69106cbf4405bfb6cf1e3521d2dee2f064f4d6", func := "loop.example/g03211/laws.FnExactReachBasis", spec := "fnExactReachBasis", apart := false }
def FnExactReachBasisSaid : Prop := fnExactReachBasisRow.holds Try.pinned (OpenSpec.ofChange fnExactReachBasisSpec)

/-- ITS FALSE NEIGHBOUR: 'it returns false'. Refute it at one input. -/
def fnExactReachBasisWrong : ChangeSpec := { name := "fnExactReachBasis", fn := fun _ => fun
  | [d] => { results := [.lit (.bool false)], args := [d] }
  | _ => none }
def FnExactReachBasisWrongFalsely : Prop := fnExactReachBasisRow.holds Try.pinned (OpenSpec.ofChange fnExactReachBasisWrong)

/-- 'laws.FnExactDifferentWord': WHATEVER THE INPUT: true; the input reads as it did. -/
def fnExactDifferentWordSpec : ChangeSpec := { name := "fnExactDifferentWord", fn := fun _ => fun
  | [d1, d2] => { results := [.lit (.bool true)], args := [d1, d2] }
  | _ => none }
def fnExactDifferentWordRow : OpenClaim := { program := "ytckmnjojabgnoaa", sum := "662b2ab5b6f9a0d1a8b275ea5a69106cbf4405bfb6cf1e3521d2dee2f064f4d6", func := "loop.example/g03211/laws.FnExactDifferentWord", spec := "fnExactDifferentWord", apart := false }
def FnExactDifferentWordSaid : Prop := fnExactDifferentWordRow.holds Try.pinned (OpenSpec.ofChange fnExactDifferentWordSpec)

/-- ITS FALSE NEIGHBOUR: 'it returns false'. Refute it at one input. -/
def fnExactDifferentWordWrong : ChangeSpec := { name := "fnExactDifferentWord", fn := fun _ => fun
  | [d1, d2] => { results := [.lit (.bool false)], args := [d1, d2] }
  | _ => none }
def FnExactDifferentWordWrongFalsely : Prop := fnExactDifferentWordRow.holds Try.pinned (OpenSpec.ofChange fnExactDifferentWordWrong)

/-- 'laws.FnExactMinimizeAutomaton': WHATEVER THE INPUT: true; the input reads as it did. -/
def fnExactMinimizeAutomatonSpec : ChangeSpec := { name := "fnExactMinimizeAutomaton", fn := fun _ => fun
  | [d] => { results := [.lit (.bool true)], args := [d] }
  | _ => none }
def fnExactMinimizeAutomatonRow : OpenClaim := { program := "ytckmnjojabgnoaa", sum := "662b2ab5b6f9a0d1a8b275ea5a69106cbf4405bfb6cf1e3521d2dee2f064f4d6", func := "loop.example/g03211/laws.FnExactMinimizeAutomaton", spec := "fnExactMinimizeAutomaton", apart := false }
def FnExactMinimizeAutomatonSaid : Prop := fnExactMinimizeAutomatonRow.holds Try.pinned (OpenSpec.ofChange fnExactMinimizeAutomatonSpec)

/-- ITS FALSE NEIGHBOUR: 'it returns false'. Refute it at one input. -/
def fnExactMinimizeAutomatonWrong : ChangeSpec := { name := "fnExactMinimizeAutomaton", fn := fun _ => fun
  | [d] => { results := [.lit (.bool false)], args := [d] }
  | _ => none }
def FnExactMinimizeAutomatonWrongFalsely : Prop := fnExactMinimizeAutomatonRow.holds Try.pinned (OpenSpec.ofChange fnExactMinimizeAutomatonWrong)

/-- 'laws.FnExactAutomatonChain': WHATEVER THE INPUT: true; the input reads as it did. -/
def fnExactAutomatonChainSpec : ChangeSpec := { name := "fnExactAutomatonChain", fn := fun _ => fun
  | [d1, d2] => { results := [.lit (.bool true)], args := [d1, d2] }
  | _ => none }
def fnExactAutomatonChainRow : OpenClaim := { program := "ytckmnjojabgnoaa", sum := "662b2ab5b6f9a0d1a8b275ea5a69106cbf4405bfb6cf1e3521d2dee2f064f4d6", func := "loop.example/g03211/laws.FnExactAutomatonChain", spec := "fnExactAutomatonChain", apart := false }
def FnExactAutomatonChainSaid : Prop := fnExactAutomatonChainRow.holds Try.pinned (OpenSpec.ofChange fnExactAutomatonChainSpec)

/-- ITS FALSE NEIGHBOUR: 'it returns false'. Refute it at one input. -/
def fnExactAutomatonChainWrong : ChangeSpec := { name := "fnExactAutomatonChain", fn := fun _ => fun
  | [d1, d2] => { results := [.lit (.bool false)], args := [d1, d2] }
  | _ => none }
def FnExactAutomatonChainWrongFalsely : Prop := fnExactAutomatonChainRow.holds Try.pinned (OpenSpec.ofChange fnExactAutomatonChainWrong)

/-- 'laws.FnWordChains': WHATEVER THE INPUT: true; the input reads as it did. -/
def fnWordChainsSpec : ChangeSpec := { name := "fnWordChains", fn := fun _ => fun
  | [d] => { results := [.lit (.bool true)], args := [d] }
  | _ => none }
def fnWordChainsRow : OpenClaim := { program := "ytckmnjojabgnoaa", sum := "662b2ab5b6f9a0d1a8b275ea5a69106cbf4405bfb6cf1e3521d2dee2f064f4d6", func := "loop.example/g03211/laws.FnWordChains", spec := "fnWordChains", apart := false }
def FnWordChainsSaid : Prop := fnWordChainsRow.holds Try.pinned (OpenSpec.ofChange fnWordChainsSpec)

/-- ITS FALSE NEIGHBOUR: 'it returns false'. Refute it at one input. -/
def fnWordChainsWrong : ChangeSpec := { name := "fnWordChains", fn := fun _ => fun
  | [d] => { results := [.lit (.bool false)], args := [d] }
  | _ => none }
def FnWordChainsWrongFalsely : Prop := fnWordChainsRow.holds Try.pinned (OpenSpec.ofChange fnWordChainsWrong)

/- THE SECOND FORM. 'bulk': how many values and letters a reading holds, each counted each time it is reached (what is shared counts as often as it is met; a slice's spare places count too). A statement '..UptoSaid' is the law's where the arguments, and the package variables that the reading takes, are together of bulk at most 1048576: NARROWER than '..Said'. Prove '..Said' where nothing that the law and all that it calls make is longer than what came in: it says more and counts as full. Else prove '..UptoSaid'. A law counts once. -/
mutual
def uptoBulk {H : Type} : DataW H → Nat
  | .lit (.string bytes) => bytes.length + 1
  | .lit _ => 1
  | .nil => 1
  | .ptr d => uptoBulk d + 1
  | .slice elems spare => uptoBulkAll elems + uptoBulkAll spare + 1
  | .agg parts => uptoBulkAll parts + 1
  | .iface _ d => uptoBulk d + 1
  | .map entries => uptoBulkEntries entries + 1
  | .held _ => 1
def uptoBulkAll {H : Type} : List (DataW H) → Nat
  | [] => 0
  | d :: r => uptoBulk d + uptoBulkAll r
def uptoBulkEntries {H : Type} : List (Lit × DataW H) → Nat
  | [] => 0
  | x :: r => uptoBulkEntry x + uptoBulkEntries r
def uptoBulkEntry {H : Type} : Lit × DataW H → Nat
  | (.string bytes, d) => bytes.length + uptoBulk d + 1
  | (_, d) => uptoBulk d + 1
 end
def uptoSmall : (H : Type) → List (DataW H) → Bool := fun _ ds => decide (uptoBulkAll ds ≤ 1048576)
def OpenSpec.upto (s : _root_.Go.ChangeSpec) : _root_.Go.OpenSpec := { _root_.Go.OpenSpec.ofChange s with cond := some uptoSmall }

/-- 'laws.FnExactAutomatonOk', WHERE WHAT IT READS IS OF BULK AT MOST 1048576: true; the input reads as it did. -/
def fnExactAutomatonOkUptoRow : OpenClaim := { program := "ytckmnjojabgnoaa", sum := "662b2ab5b6f9a0d1a8b275ea5a69106cbf4405bfb6cf1e3521d2dee2f064f4d6", func := "loop.example/g03211/laws.FnExactAutomatonOk", spec := "fnExactAutomatonOk", apart := false, narrowed := true }
def FnExactAutomatonOkUptoSaid : Prop := fnExactAutomatonOkUptoRow.holds Try.pinned (OpenSpec.upto fnExactAutomatonOkSpec)

/-- 'laws.FnAutomata', WHERE WHAT IT READS IS OF BULK AT MOST 1048576: true; the input reads as it did. -/
def fnAutomataUptoRow : OpenClaim := { program := "ytckmnjojabgnoaa", sum := "662b2ab5b6f9a0d1a8b275ea5a69106cbf4405bfb6cf1e3521d2dee2f064f4d6", func := "loop.example/g03211/laws.FnAutomata", spec := "fnAutomata", apart := false, narrowed := true }
def FnAutomataUptoSaid : Prop := fnAutomataUptoRow.holds Try.pinned (OpenSpec.upto fnAutomataSpec)

/-- 'laws.FnExactWordWeight', WHERE WHAT IT READS IS OF BULK AT MOST 1048576: true; the input reads as it did. -/
def fnExactWordWeightUptoRow : OpenClaim := { program := "ytckmnjojabgnoaa", sum := "662b2ab5b6f9a0d1a8b275ea5a69106cbf4405bfb6cf1e3521d2dee2f064f4d6", func := "loop.example/g03211/laws.FnExactWordWeight", spec := "fnExactWordWeight", apart := false, narrowed := true }
def FnExactWordWeightUptoSaid : Prop := fnExactWordWeightUptoRow.holds Try.pinned (OpenSpec.upto fnExactWordWeightSpec)

/-- 'laws.FnMinimal', WHERE WHAT IT READS IS OF BULK AT MOST 1048576: true; the input reads as it did. -/
def fnMinimalUptoRow : OpenClaim := { program := "ytckmnjojabgnoaa", sum := "662b2ab5b6f9a0d1a8b275ea5a69106cbf4405bfb6cf1e3521d2dee2f064f4d6", func := "loop.example/g03211/laws.FnMinimal", spec := "fnMinimal", apart := false, narrowed := true }
def FnMinimalUptoSaid : Prop := fnMinimalUptoRow.holds Try.pinned (OpenSpec.upto fnMinimalSpec)

/-- 'laws.FnExactMultiplyAutomata', WHERE WHAT IT READS IS OF BULK AT MOST 1048576: true; the input reads as it did. -/
def fnExactMultiplyAutomataUptoRow : OpenClaim := { program := "ytckmnjojabgnoaa", sum := "662b2ab5b6f9a0d1a8b275ea5a69106cbf4405bfb6cf1e3521d2dee2f064f4d6", func := "loop.example/g03211/laws.FnExactMultiplyAutomata", spec := "fnExactMultiplyAutomata", apart := false, narrowed := true }
def FnExactMultiplyAutomataUptoSaid : Prop := fnExactMultiplyAutomataUptoRow.holds Try.pinned (OpenSpec.upto fnExactMultiplyAutomataSpec)

/-- 'laws.FnExactAddAutomata', WHERE WHAT IT READS IS OF BULK AT MOST 1048576: true; the input reads as it did. -/
def fnExactAddAutomataUptoRow : OpenClaim := { program := "ytckmnjojabgnoaa", sum := "662b2ab5b6f9a0d1a8b275ea5a69106cbf4405bfb6cf1e3521d2dee2f064f4d6", func := "loop.example/g03211/laws.FnExactAddAutomata", spec := "fnExactAddAutomata", apart := false, narrowed := true }
def FnExactAddAutomataUptoSaid : Prop := fnExactAddAutomataUptoRow.holds Try.pinned (OpenSpec.upto fnExactAddAutomataSpec)

/-- 'laws.FnDifferent', WHERE WHAT IT READS IS OF BULK AT MOST 1048576: true; the input reads as it did. -/
def fnDifferentUptoRow : OpenClaim := { program := "ytckmnjojabgnoaa", sum := "662b2ab5b6f9a0d1a8b275ea5a69106cbf4405bfb6cf1e3521d2dee2f064f4d6", func := "loop.example/g03211/laws.FnDifferent", spec := "fnDifferent", apart := false, narrowed := true }
def FnDifferentUptoSaid : Prop := fnDifferentUptoRow.holds Try.pinned (OpenSpec.upto fnDifferentSpec)

/-- 'laws.FnExactReachBasis', WHERE WHAT IT READS IS OF BULK AT MOST 1048576: true; the input reads as it did. -/
def fnExactReachBasisUptoRow : OpenClaim := { program := "ytckmnjojabgnoaa", sum := "662b2ab5b6f9a0d1a8b275ea5a69106cbf4405bfb6cf1e3521d2dee2f064f4d6", func := "loop.example/g03211/laws.FnExactReachBasis", spec := "fnExactReachBasis", apart := false, narrowed := true }
def FnExactReachBasisUptoSaid : Prop := fnExactReachBasisUptoRow.holds Try.pinned (OpenSpec.upto fnExactReachBasisSpec)

/-- 'laws.FnExactDifferentWord', WHERE WHAT IT READS IS OF BULK AT MOST 1048576: true; the input reads as it did. -/
def fnExactDifferentWordUptoRow : OpenClaim := { program := "ytckmnjojabgnoaa", sum := "662b2ab5b6f9a0d1a8b275ea5a69106cbf4405bfb6cf1e3521d2dee2f064f4d6", func := "loop.example/g03211/laws.FnExactDifferentWord", spec := "fnExactDifferentWord", apart := false, narrowed := true }
def FnExactDifferentWordUptoSaid : Prop := fnExactDifferentWordUptoRow.holds Try.pinned (OpenSpec.upto fnExactDifferentWordSpec)

/-- 'laws.FnExactMinimizeAutomaton', WHERE WHAT IT READS IS OF BULK AT MOST 1048576: true; the input reads as it did. -/
def fnExactMinimizeAutomatonUptoRow : OpenClaim := { program := "ytckmnjojabgnoaa", sum := "662b2ab5b6f9a0d1a8b275ea5a69106cbf4405bfb6cf1e3521d2dee2f064f4d6", func := "loop.example/g03211/laws.FnExactMinimizeAutomaton", spec := "fnExactMinimizeAutomaton", apart := false, narrowed := true }
def FnExactMinimizeAutomatonUptoSaid : Prop := fnExactMinimizeAutomatonUptoRow.holds Try.pinned (OpenSpec.upto fnExactMinimizeAutomatonSpec)

/-- 'laws.FnExactAutomatonChain', WHERE WHAT IT READS IS OF BULK AT MOST 1048576: true; the input reads as it did. -/
def fnExactAutomatonChainUptoRow : OpenClaim := { program := "ytckmnjojabgnoaa", sum := "662b2ab5b6f9a0d1a8b275ea5a69106cbf4405bfb6cf1e3521d2dee2f064f4d6", func := "loop.example/g03211/laws.FnExactAutomatonChain", spec := "fnExactAutomatonChain", apart := false, narrowed := true }
def FnExactAutomatonChainUptoSaid : Prop := fnExactAutomatonChainUptoRow.holds Try.pinned (OpenSpec.upto fnExactAutomatonChainSpec)

/-- 'laws.FnWordChains', WHERE WHAT IT READS IS OF BULK AT MOST 1048576: true; the input reads as it did. -/
def fnWordChainsUptoRow : OpenClaim := { program := "ytckmnjojabgnoaa", sum := "662b2ab5b6f9a0d1a8b275ea5a69106cbf4405bfb6cf1e3521d2dee2f064f4d6", func := "loop.example/g03211/laws.FnWordChains", spec := "fnWordChains", apart := false, narrowed := true }
def FnWordChainsUptoSaid : Prop := fnWordChainsUptoRow.holds Try.pinned (OpenSpec.upto fnWordChainsSpec)

end Rows
end Go.Proofs.Ytckmnjojabgnoaa
