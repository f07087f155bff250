/- The law FnExactIsMatching returns true for every argument, and leaves it as it was. No condition. -/
import Derived.Test.YtghahachgjeaeaaA2
import Derived.JoinedOf
set_option linter.unusedVariables false
namespace Go.Proofs.Ytghahachgjeaeaa.exactIsMatching
open Go.Am

theorem own : ownKnob Try.prog.godebug = none := by kernel_rfl
theorem rowed : laidOutB Try.prog = true := by kernel_rfl
theorem maps : mapsRowed Try.prog = true := by kernel_rfl
theorem full : ((List.range Try.prog.types.size).all fun t => match Try.prog.underlying t with | some (.slice e) => decide (0 < Try.prog.cellsOf e) | _ => true) = true := by kernel_rfl

theorem model (x : DLL (Sig.tys ag_laws_FnExactIsMatching)) (h : WfA ag_laws_FnExactIsMatching x) : fn_laws_FnExactIsMatching.M (erA ag_laws_FnExactIsMatching x) = some [(.one, [.bool true])] := by
  have h1 := SFn.M_er fn_laws_FnExactIsMatching x
  have h2 : fn_laws_FnExactIsMatching.F x = some true := by
    obtain ⟨⟨n, l⟩, s, p⟩ := x
    have hl : List.length (α := Int × Int) l ≤ maxLen := h.1.2.1
    have : List.length (α := Int × Int) l ≤ 9223372036854775807 := by unfold maxLen at hl; omega
    exact if_pos this
  exact h1.trans (by rw [h2]; rfl)

theorem lifted (os : Os) (started : os.Started) (H : Type) (enc : TypeId × Value → H) :
    ReturnsInHanded {} Try.checked os 6 .any (Rows.fnExactIsMatchingSpec.pre6 enc Try.prog Try.f6 Rows.fnExactIsMatchingRow.domain false) (Rows.fnExactIsMatchingSpec.post enc Try.prog Try.f6 false true false false) := by
  refine returnsInHanded_of_change (C := Try.checked) own started (by kernel_rfl) Try.func6
    (ChangeSpec.witness6 (enc := enc) (C := Try.checked) false ⟨#[], #[.agg #[.int .i64 0, .slice none 0 0], .int .i64 0, .bool false], []⟩ 8 (by kernel_rfl) (by kernel_rfl) (by kernel_rfl) (by kernel_rfl)) ?_
  intro W base args ds gs before hval hW _ _
  exact law_ok (P := Try.prog) (fn := Try.f6) (s := Rows.fnExactIsMatchingSpec) (sg := ag_laws_FnExactIsMatching) (tb := (Try.f6.resultTypes.toList.head?).getD 0) rowed maps full (of_decide_eq_true (by kernel_rfl)) (by kernel_rfl) (by kernel_rfl) (by kernel_rfl) rfl
    (fun ds hl => by
      match ds, hl with
      | [d0, d1, d2], _ => exact ⟨rfl, rfl, rfl⟩) p_laws_FnExactIsMatching.1 model hval hW

theorem holds : Rows.FnExactIsMatchingSaid :=
  OpenClaim.holds_of_wide 6 Try.f6 rfl rfl rfl rfl rfl rfl rfl ⟨rfl, rfl, rfl, rfl, rfl⟩ rfl rfl rfl rfl rfl (by kernel_rfl) Try.func6 (by kernel_rfl)
    (of_decide_eq_true (by kernel_rfl)) (by unfold Func.isWrapper; first | (rw [if_pos (by decide +kernel)]; kernel_rfl) | (rw [if_neg (by decide +kernel)]; exact ⟨rfl, rfl⟩))
    (fun os started H enc _ => lifted os started H enc)

end Go.Proofs.Ytghahachgjeaeaa.exactIsMatching
