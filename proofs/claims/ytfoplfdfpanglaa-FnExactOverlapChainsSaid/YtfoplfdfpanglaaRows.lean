/-
  No cell of these rows narrows 'for every input' (looked for: loops, veiled, ifaces, maps, wideKeys, modest, calm, conditions, laid).
  DERIVED. THE GIVEN ROWS OF THIS SEAT. 12 by the template 'for every input the law returns true; each argument reads behind the call as it read before'; 0 by the template 'total and deterministic' (their statements: YtfoplfdfpanglaaTotals.lean).
  GIVEN WITH THE SEED: the statements are not yours to turn. If you find one false, say at which input.
  Laid BY PROGRAM, IN A SANDBOX (cutbox-rows.mjs): the forced cells as the released guide's own fill.sh prints them over the translation f68cd7e16b84f52a… (all of the seat's roots in one cut). By AI agents, Wed Nov 11 2026. No macro, syntax, notation, axiom, sorry.
-/
import Derived.Test.YtfoplfdfpanglaaChecked
import GoSem.Claim
import GoSem.ClaimJoined
import GoSem.ClaimMapViews
import Derived.JoinedTies
import Derived.KernelRfl
namespace Go.Proofs.Ytfoplfdfpanglaa
/- THE CELL 'sum', in the pinned program and in every row, IS THE sha256 OF THE DUMP (.gsa) THAT YtfoplfdfpanglaaProg.lean LOADS. Nothing in Lean hashes anything: it is a label: what it is worth is what the hold of that sum in a sandbox is worth. -/
noncomputable def Try.pinned : Pinned := { name := "ytfoplfdfpanglaa", sum := "f68cd7e16b84f52a92eba7d7978139822341e2bed02be40938749d53ac9cebf9", checked := Try.checked }
namespace Rows
def none {H : Type} : Left H := { results := [], args := [] }

/-- 'laws.FnExactChainOk': WHATEVER THE INPUT: true; the input reads as it did. -/
def fnExactChainOkSpec : ChangeSpec := { name := "fnExactChainOk", fn := fun _ => fun
  | [d] => { results := [.lit (.bool true)], args := [d] }
  | _ => none }
def fnExactChainOkRow : OpenClaim := { program := "ytfoplfdfpanglaa", sum := "f68cd7e16b84f52a92eba7d7978139822341e2bed02be40938749d53ac9cebf9", func := "loop.example/g03211/laws.FnExactChainOk", spec := "fnExactChainOk", apart := false }
def FnExactChainOkSaid : Prop := fnExactChainOkRow.holds Try.pinned (OpenSpec.ofChange fnExactChainOkSpec)

/-- ITS FALSE NEIGHBOUR: 'it returns false'. Refute it at one input. -/
def fnExactChainOkWrong : ChangeSpec := { name := "fnExactChainOk", fn := fun _ => fun
  | [d] => { results := [.lit (.bool false)], args := [d] }
  | _ => none }
def FnExactChainOkWrongFalsely : Prop := fnExactChainOkRow.holds Try.pinned (OpenSpec.ofChange fnExactChainOkWrong)

/-- 'laws.FnExactBondsOf': WHATEVER THE INPUT: true; the input reads as it did. -/
def fnExactBondsOfSpec : ChangeSpec := { name := "fnExactBondsOf", fn := fun _ => fun
  | [d] => { results := [.lit (.bool true)], args := [d] }
  | _ => none }
def fnExactBondsOfRow : OpenClaim := { program := "ytfoplfdfpanglaa", sum := "f68cd7e16b84f52a92eba7d7978139822341e2bed02be40938749d53ac9cebf9", func := "loop.example/g03211/laws.FnExactBondsOf", spec := "fnExactBondsOf", apart := false }
def FnExactBondsOfSaid : Prop := fnExactBondsOfRow.holds Try.pinned (OpenSpec.ofChange fnExactBondsOfSpec)

/-- ITS FALSE NEIGHBOUR: 'it returns false'. Refute it at one input. -/
def fnExactBondsOfWrong : ChangeSpec := { name := "fnExactBondsOf", fn := fun _ => fun
  | [d] => { results := [.lit (.bool false)], args := [d] }
  | _ => none }
def FnExactBondsOfWrongFalsely : Prop := fnExactBondsOfRow.holds Try.pinned (OpenSpec.ofChange fnExactBondsOfWrong)

/-- 'laws.FnExactChainAt': WHATEVER THE INPUT: true; the input reads as it did. -/
def fnExactChainAtSpec : ChangeSpec := { name := "fnExactChainAt", fn := fun _ => fun
  | [d1, d2] => { results := [.lit (.bool true)], args := [d1, d2] }
  | _ => none }
def fnExactChainAtRow : OpenClaim := { program := "ytfoplfdfpanglaa", sum := "f68cd7e16b84f52a92eba7d7978139822341e2bed02be40938749d53ac9cebf9", func := "loop.example/g03211/laws.FnExactChainAt", spec := "fnExactChainAt", apart := false }
def FnExactChainAtSaid : Prop := fnExactChainAtRow.holds Try.pinned (OpenSpec.ofChange fnExactChainAtSpec)

/-- ITS FALSE NEIGHBOUR: 'it returns false'. Refute it at one input. -/
def fnExactChainAtWrong : ChangeSpec := { name := "fnExactChainAt", fn := fun _ => fun
  | [d1, d2] => { results := [.lit (.bool false)], args := [d1, d2] }
  | _ => none }
def FnExactChainAtWrongFalsely : Prop := fnExactChainAtRow.holds Try.pinned (OpenSpec.ofChange fnExactChainAtWrong)

/-- 'laws.FnExactInnerChains': WHATEVER THE INPUT: true; the input reads as it did. -/
def fnExactInnerChainsSpec : ChangeSpec := { name := "fnExactInnerChains", fn := fun _ => fun
  | [d1, d2] => { results := [.lit (.bool true)], args := [d1, d2] }
  | _ => none }
def fnExactInnerChainsRow : OpenClaim := { program := "ytfoplfdfpanglaa", sum := "f68cd7e16b84f52a92eba7d7978139822341e2bed02be40938749d53ac9cebf9", func := "loop.example/g03211/laws.FnExactInnerChains", spec := "fnExactInnerChains", apart := false }
def FnExactInnerChainsSaid : Prop := fnExactInnerChainsRow.holds Try.pinned (OpenSpec.ofChange fnExactInnerChainsSpec)

/-- ITS FALSE NEIGHBOUR: 'it returns false'. Refute it at one input. -/
def fnExactInnerChainsWrong : ChangeSpec := { name := "fnExactInnerChains", fn := fun _ => fun
  | [d1, d2] => { results := [.lit (.bool false)], args := [d1, d2] }
  | _ => none }
def FnExactInnerChainsWrongFalsely : Prop := fnExactInnerChainsRow.holds Try.pinned (OpenSpec.ofChange fnExactInnerChainsWrong)

/-- 'laws.FnExactChainTensor': WHATEVER THE INPUT: true; the input reads as it did. -/
def fnExactChainTensorSpec : ChangeSpec := { name := "fnExactChainTensor", fn := fun _ => fun
  | [d] => { results := [.lit (.bool true)], args := [d] }
  | _ => none }
def fnExactChainTensorRow : OpenClaim := { program := "ytfoplfdfpanglaa", sum := "f68cd7e16b84f52a92eba7d7978139822341e2bed02be40938749d53ac9cebf9", func := "loop.example/g03211/laws.FnExactChainTensor", spec := "fnExactChainTensor", apart := false }
def FnExactChainTensorSaid : Prop := fnExactChainTensorRow.holds Try.pinned (OpenSpec.ofChange fnExactChainTensorSpec)

/-- ITS FALSE NEIGHBOUR: 'it returns false'. Refute it at one input. -/
def fnExactChainTensorWrong : ChangeSpec := { name := "fnExactChainTensor", fn := fun _ => fun
  | [d] => { results := [.lit (.bool false)], args := [d] }
  | _ => none }
def FnExactChainTensorWrongFalsely : Prop := fnExactChainTensorRow.holds Try.pinned (OpenSpec.ofChange fnExactChainTensorWrong)

/-- 'laws.FnExactAddChains': WHATEVER THE INPUT: true; the input reads as it did. -/
def fnExactAddChainsSpec : ChangeSpec := { name := "fnExactAddChains", fn := fun _ => fun
  | [d1, d2] => { results := [.lit (.bool true)], args := [d1, d2] }
  | _ => none }
def fnExactAddChainsRow : OpenClaim := { program := "ytfoplfdfpanglaa", sum := "f68cd7e16b84f52a92eba7d7978139822341e2bed02be40938749d53ac9cebf9", func := "loop.example/g03211/laws.FnExactAddChains", spec := "fnExactAddChains", unfollowed := true, recurses := true, apart := false }
def FnExactAddChainsSaid : Prop := fnExactAddChainsRow.holds Try.pinned (OpenSpec.ofChange fnExactAddChainsSpec)

/-- ITS FALSE NEIGHBOUR: 'it returns false'. Refute it at one input. -/
def fnExactAddChainsWrong : ChangeSpec := { name := "fnExactAddChains", fn := fun _ => fun
  | [d1, d2] => { results := [.lit (.bool false)], args := [d1, d2] }
  | _ => none }
def FnExactAddChainsWrongFalsely : Prop := fnExactAddChainsRow.holds Try.pinned (OpenSpec.ofChange fnExactAddChainsWrong)

/-- 'laws.FnExactApplySite': WHATEVER THE INPUT: true; the input reads as it did. -/
def fnExactApplySiteSpec : ChangeSpec := { name := "fnExactApplySite", fn := fun _ => fun
  | [d1, d2, d3] => { results := [.lit (.bool true)], args := [d1, d2, d3] }
  | _ => none }
def fnExactApplySiteRow : OpenClaim := { program := "ytfoplfdfpanglaa", sum := "f68cd7e16b84f52a92eba7d7978139822341e2bed02be40938749d53ac9cebf9", func := "loop.example/g03211/laws.FnExactApplySite", spec := "fnExactApplySite", apart := false }
def FnExactApplySiteSaid : Prop := fnExactApplySiteRow.holds Try.pinned (OpenSpec.ofChange fnExactApplySiteSpec)

/-- ITS FALSE NEIGHBOUR: 'it returns false'. Refute it at one input. -/
def fnExactApplySiteWrong : ChangeSpec := { name := "fnExactApplySite", fn := fun _ => fun
  | [d1, d2, d3] => { results := [.lit (.bool false)], args := [d1, d2, d3] }
  | _ => none }
def FnExactApplySiteWrongFalsely : Prop := fnExactApplySiteRow.holds Try.pinned (OpenSpec.ofChange fnExactApplySiteWrong)

/-- 'laws.FnExactOverlapChains': WHATEVER THE INPUT: true; the input reads as it did. -/
def fnExactOverlapChainsSpec : ChangeSpec := { name := "fnExactOverlapChains", fn := fun _ => fun
  | [d1, d2, d3, d4] => { results := [.lit (.bool true)], args := [d1, d2, d3, d4] }
  | _ => none }
def fnExactOverlapChainsRow : OpenClaim := { program := "ytfoplfdfpanglaa", sum := "f68cd7e16b84f52a92eba7d7978139822341e2bed02be40938749d53ac9cebf9", func := "loop.example/g03211/laws.FnExactOverlapChains", spec := "fnExactOverlapChains", apart := false }
def FnExactOverlapChainsSaid : Prop := fnExactOverlapChainsRow.holds Try.pinned (OpenSpec.ofChange fnExactOverlapChainsSpec)

/-- ITS FALSE NEIGHBOUR: 'it returns false'. Refute it at one input. -/
def fnExactOverlapChainsWrong : ChangeSpec := { name := "fnExactOverlapChains", fn := fun _ => fun
  | [d1, d2, d3, d4] => { results := [.lit (.bool false)], args := [d1, d2, d3, d4] }
  | _ => none }
def FnExactOverlapChainsWrongFalsely : Prop := fnExactOverlapChainsRow.holds Try.pinned (OpenSpec.ofChange fnExactOverlapChainsWrong)

/-- 'laws.FnExactCompressChain': WHATEVER THE INPUT: true; the input reads as it did. -/
def fnExactCompressChainSpec : ChangeSpec := { name := "fnExactCompressChain", fn := fun _ => fun
  | [d] => { results := [.lit (.bool true)], args := [d] }
  | _ => none }
def fnExactCompressChainRow : OpenClaim := { program := "ytfoplfdfpanglaa", sum := "f68cd7e16b84f52a92eba7d7978139822341e2bed02be40938749d53ac9cebf9", func := "loop.example/g03211/laws.FnExactCompressChain", spec := "fnExactCompressChain", apart := false }
def FnExactCompressChainSaid : Prop := fnExactCompressChainRow.holds Try.pinned (OpenSpec.ofChange fnExactCompressChainSpec)

/-- ITS FALSE NEIGHBOUR: 'it returns false'. Refute it at one input. -/
def fnExactCompressChainWrong : ChangeSpec := { name := "fnExactCompressChain", fn := fun _ => fun
  | [d] => { results := [.lit (.bool false)], args := [d] }
  | _ => none }
def FnExactCompressChainWrongFalsely : Prop := fnExactCompressChainRow.holds Try.pinned (OpenSpec.ofChange fnExactCompressChainWrong)

/-- 'laws.FnExactApplyBond': WHATEVER THE INPUT: true; the input reads as it did. -/
def fnExactApplyBondSpec : ChangeSpec := { name := "fnExactApplyBond", fn := fun _ => fun
  | [d1, d2, d3] => { results := [.lit (.bool true)], args := [d1, d2, d3] }
  | _ => none }
def fnExactApplyBondRow : OpenClaim := { program := "ytfoplfdfpanglaa", sum := "f68cd7e16b84f52a92eba7d7978139822341e2bed02be40938749d53ac9cebf9", func := "loop.example/g03211/laws.FnExactApplyBond", spec := "fnExactApplyBond", apart := false }
def FnExactApplyBondSaid : Prop := fnExactApplyBondRow.holds Try.pinned (OpenSpec.ofChange fnExactApplyBondSpec)

/-- ITS FALSE NEIGHBOUR: 'it returns false'. Refute it at one input. -/
def fnExactApplyBondWrong : ChangeSpec := { name := "fnExactApplyBond", fn := fun _ => fun
  | [d1, d2, d3] => { results := [.lit (.bool false)], args := [d1, d2, d3] }
  | _ => none }
def FnExactApplyBondWrongFalsely : Prop := fnExactApplyBondRow.holds Try.pinned (OpenSpec.ofChange fnExactApplyBondWrong)

/-- 'laws.FnChainSums': WHATEVER THE INPUT: true; the input reads as it did. -/
def fnChainSumsSpec : ChangeSpec := { name := "fnChainSums", fn := fun _ => fun
  | [d] => { results := [.lit (.bool true)], args := [d] }
  | _ => none }
def fnChainSumsRow : OpenClaim := { program := "ytfoplfdfpanglaa", sum := "f68cd7e16b84f52a92eba7d7978139822341e2bed02be40938749d53ac9cebf9", func := "loop.example/g03211/laws.FnChainSums", spec := "fnChainSums", unfollowed := true, recurses := true, apart := false }
def FnChainSumsSaid : Prop := fnChainSumsRow.holds Try.pinned (OpenSpec.ofChange fnChainSumsSpec)

/-- ITS FALSE NEIGHBOUR: 'it returns false'. Refute it at one input. -/
def fnChainSumsWrong : ChangeSpec := { name := "fnChainSums", fn := fun _ => fun
  | [d] => { results := [.lit (.bool false)], args := [d] }
  | _ => none }
def FnChainSumsWrongFalsely : Prop := fnChainSumsRow.holds Try.pinned (OpenSpec.ofChange fnChainSumsWrong)

/-- 'laws.FnExactChainOf': WHATEVER THE INPUT: true; the input reads as it did. -/
def fnExactChainOfSpec : ChangeSpec := { name := "fnExactChainOf", fn := fun _ => fun
  | [d1, d2] => { results := [.lit (.bool true)], args := [d1, d2] }
  | _ => none }
def fnExactChainOfRow : OpenClaim := { program := "ytfoplfdfpanglaa", sum := "f68cd7e16b84f52a92eba7d7978139822341e2bed02be40938749d53ac9cebf9", func := "loop.example/g03211/laws.FnExactChainOf", spec := "fnExactChainOf", recurses := true, apart := false }
def FnExactChainOfSaid : Prop := fnExactChainOfRow.holds Try.pinned (OpenSpec.ofChange fnExactChainOfSpec)

/-- ITS FALSE NEIGHBOUR: 'it returns false'. Refute it at one input. -/
def fnExactChainOfWrong : ChangeSpec := { name := "fnExactChainOf", fn := fun _ => fun
  | [d1, d2] => { results := [.lit (.bool false)], args := [d1, d2] }
  | _ => none }
def FnExactChainOfWrongFalsely : Prop := fnExactChainOfRow.holds Try.pinned (OpenSpec.ofChange fnExactChainOfWrong)

/- THE SECOND FORM. 'bulk': how many values and letters a reading holds, each counted each time it is reached (what is shared counts as often as it is met; a slice's spare places count too). A statement '..UptoSaid' is the law's where the arguments, and the package variables that the reading takes, are together of bulk at most 1048576: NARROWER than '..Said'. Prove '..Said' where nothing that the law and all that it calls make is longer than what came in: it says more and counts as full. Else prove '..UptoSaid'. A law counts once. -/
mutual
def uptoBulk {H : Type} : DataW H → Nat
  | .lit (.string bytes) => bytes.length + 1
  | .lit _ => 1
  | .nil => 1
  | .ptr d => uptoBulk d + 1
  | .slice elems spare => uptoBulkAll elems + uptoBulkAll spare + 1
  | .agg parts => uptoBulkAll parts + 1
  | .iface _ d => uptoBulk d + 1
  | .map entries => uptoBulkEntries entries + 1
  | .held _ => 1
def uptoBulkAll {H : Type} : List (DataW H) → Nat
  | [] => 0
  | d :: r => uptoBulk d + uptoBulkAll r
def uptoBulkEntries {H : Type} : List (Lit × DataW H) → Nat
  | [] => 0
  | x :: r => uptoBulkEntry x + uptoBulkEntries r
def uptoBulkEntry {H : Type} : Lit × DataW H → Nat
  | (.string bytes, d) => bytes.length + uptoBulk d + 1
  | (_, d) => uptoBulk d + 1
 end
def uptoSmall : (H : Type) → List (DataW H) → Bool := fun _ ds => decide (uptoBulkAll ds ≤ 1048576)
def OpenSpec.upto (s : _root_.Go.ChangeSpec) : _root_.Go.OpenSpec := { _root_.Go.OpenSpec.ofChange s with cond := some uptoSmall }

/-- 'laws.FnExactChainOk', WHERE WHAT IT READS IS OF BULK AT MOST 1048576: true; the input reads as it did. -/
def fnExactChainOkUptoRow : OpenClaim := { program := "ytfoplfdfpanglaa", sum := "f68cd7e16b84f52a92eba7d7978139822341e2bed02be40938749d53ac9cebf9", func := "loop.example/g03211/laws.FnExactChainOk", spec := "fnExactChainOk", apart := false, narrowed := true }
def FnExactChainOkUptoSaid : Prop := fnExactChainOkUptoRow.holds Try.pinned (OpenSpec.upto fnExactChainOkSpec)

/-- 'laws.FnExactBondsOf', WHERE WHAT IT READS IS OF BULK AT MOST 1048576: true; the input reads as it did. -/
def fnExactBondsOfUptoRow : OpenClaim := { program := "ytfoplfdfpanglaa", sum := "f68cd7e16b84f52a92eba7d7978139822341e2bed02be40938749d53ac9cebf9", func := "loop.example/g03211/laws.FnExactBondsOf", spec := "fnExactBondsOf", apart := false, narrowed := true }
def FnExactBondsOfUptoSaid : Prop := fnExactBondsOfUptoRow.holds Try.pinned (OpenSpec.upto fnExactBondsOfSpec)

/-- 'laws.FnExactChainAt', WHERE WHAT IT READS IS OF BULK AT MOST 1048576: true; the input reads as it did. -/
def fnExactChainAtUptoRow : OpenClaim := { program := "ytfoplfdfpanglaa", sum := "f68cd7e16b84f52a92eba7d7978139822341e2bed02be40938749d53ac9cebf9", func := "loop.example/g03211/laws.FnExactChainAt", spec := "fnExactChainAt", apart := false, narrowed := true }
def FnExactChainAtUptoSaid : Prop := fnExactChainAtUptoRow.holds Try.pinned (OpenSpec.upto fnExactChainAtSpec)

/-- 'laws.FnExactInnerChains', WHERE WHAT IT READS IS OF BULK AT MOST 1048576: true; the input reads as it did. -/
def fnExactInnerChainsUptoRow : OpenClaim := { program := "ytfoplfdfpanglaa", sum := "f68cd7e16b84f52a92eba7d7978139822341e2bed02be40938749d53ac9cebf9", func := "loop.example/g03211/laws.FnExactInnerChains", spec := "fnExactInnerChains", apart := false, narrowed := true }
def FnExactInnerChainsUptoSaid : Prop := fnExactInnerChainsUptoRow.holds Try.pinned (OpenSpec.upto fnExactInnerChainsSpec)

/-- 'laws.FnExactChainTensor', WHERE WHAT IT READS IS OF BULK AT MOST 1048576: true; the input reads as it did. -/
def fnExactChainTensorUptoRow : OpenClaim := { program := "ytfoplfdfpanglaa", sum := "f68cd7e16b84f52a92eba7d7978139822341e2bed02be40938749d53ac9cebf9", func := "loop.example/g03211/laws.FnExactChainTensor", spec := "fnExactChainTensor", apart := false, narrowed := true }
def FnExactChainTensorUptoSaid : Prop := fnExactChainTensorUptoRow.holds Try.pinned (OpenSpec.upto fnExactChainTensorSpec)

/-- 'laws.FnExactAddChains', WHERE WHAT IT READS IS OF BULK AT MOST 1048576: true; the input reads as it did. -/
def fnExactAddChainsUptoRow : OpenClaim := { program := "ytfoplfdfpanglaa", sum := "f68cd7e16b84f52a92eba7d7978139822341e2bed02be40938749d53ac9cebf9", func := "loop.example/g03211/laws.FnExactAddChains", spec := "fnExactAddChains", unfollowed := true, recurses := true, apart := false, narrowed := true }
def FnExactAddChainsUptoSaid : Prop := fnExactAddChainsUptoRow.holds Try.pinned (OpenSpec.upto fnExactAddChainsSpec)

/-- 'laws.FnExactApplySite', WHERE WHAT IT READS IS OF BULK AT MOST 1048576: true; the input reads as it did. -/
def fnExactApplySiteUptoRow : OpenClaim := { program := "ytfoplfdfpanglaa", sum := "f68cd7e16b84f52a92eba7d7978139822341e2bed02be40938749d53ac9cebf9", func := "loop.example/g03211/laws.FnExactApplySite", spec := "fnExactApplySite", apart := false, narrowed := true }
def FnExactApplySiteUptoSaid : Prop := fnExactApplySiteUptoRow.holds Try.pinned (OpenSpec.upto fnExactApplySiteSpec)

/-- 'laws.FnExactOverlapChains', WHERE WHAT IT READS IS OF BULK AT MOST 1048576: true; the input reads as it did. -/
def fnExactOverlapChainsUptoRow : OpenClaim := { program := "ytfoplfdfpanglaa", sum := "f68cd7e16b84f52a92eba7d7978139822341e2bed02be40938749d53ac9cebf9", func := "loop.example/g03211/laws.FnExactOverlapChains", spec := "fnExactOverlapChains", apart := false, narrowed := true }
def FnExactOverlapChainsUptoSaid : Prop := fnExactOverlapChainsUptoRow.holds Try.pinned (OpenSpec.upto fnExactOverlapChainsSpec)

/-- 'laws.FnExactCompressChain', WHERE WHAT IT READS IS OF BULK AT MOST 1048576: true; the input reads as it did. -/
def fnExactCompressChainUptoRow : OpenClaim := { program := "ytfoplfdfpanglaa", sum := "f68cd7e16b84f52a92eba7d7978139822341e2bed02be40938749d53ac9cebf9", func := "loop.example/g03211/laws.FnExactCompressChain", spec := "fnExactCompressChain", apart := false, narrowed := true }
def FnExactCompressChainUptoSaid : Prop := fnExactCompressChainUptoRow.holds Try.pinned (OpenSpec.upto fnExactCompressChainSpec)

/-- 'laws.FnExactApplyBond', WHERE WHAT IT READS IS OF BULK AT MOST 1048576: true; the input reads as it did. -/
def fnExactApplyBondUptoRow : OpenClaim := { program := "ytfoplfdfpanglaa", sum := "f68cd7e16b84f52a92eba7d7978139822341e2bed02be40938749d53ac9cebf9", func := "loop.example/g03211/laws.FnExactApplyBond", spec := "fnExactApplyBond", apart := false, narrowed := true }
def FnExactApplyBondUptoSaid : Prop := fnExactApplyBondUptoRow.holds Try.pinned (OpenSpec.upto fnExactApplyBondSpec)

/-- 'laws.FnChainSums', WHERE WHAT IT READS IS OF BULK AT MOST 1048576: true; the input reads as it did. -/
def fnChainSumsUptoRow : OpenClaim := { program := "ytfoplfdfpanglaa", sum := "f68cd7e16b84f52a92eba7d7978139822341e2bed02be40938749d53ac9cebf9", func := "loop.example/g03211/laws.FnChainSums", spec := "fnChainSums", unfollowed := true, recurses := true, apart := false, narrowed := true }
def FnChainSumsUptoSaid : Prop := fnChainSumsUptoRow.holds Try.pinned (OpenSpec.upto fnChainSumsSpec)

/-- 'laws.FnExactChainOf', WHERE WHAT IT READS IS OF BULK AT MOST 1048576: true; the input reads as it did. -/
def fnExactChainOfUptoRow : OpenClaim := { program := "ytfoplfdfpanglaa", sum := "f68cd7e16b84f52a92eba7d7978139822341e2bed02be40938749d53ac9cebf9", func := "loop.example/g03211/laws.FnExactChainOf", spec := "fnExactChainOf", recurses := true, apart := false, narrowed := true }
def FnExactChainOfUptoSaid : Prop := fnExactChainOfUptoRow.holds Try.pinned (OpenSpec.upto fnExactChainOfSpec)

end Rows
end Go.Proofs.Ytfoplfdfpanglaa
