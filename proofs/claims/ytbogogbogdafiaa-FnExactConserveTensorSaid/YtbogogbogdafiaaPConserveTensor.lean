/- The law FnExactConserveTensor returns true for every argument, and leaves it as it was. No condition. -/
import Derived.Test.YtbogogbogdafiaaAConserveTensor
import Derived.Test.YtbogogbogdafiaaWT
import Derived.JoinedOf
set_option linter.unusedVariables false
set_option maxRecDepth 100000
namespace Go.Proofs.Ytbogogbogdafiaa.exactConserveTensor
open Go.Am

theorem own : ownKnob Try.prog.godebug = none := by kernel_rfl
theorem rowed : laidOutB Try.prog = true := by kernel_rfl
theorem maps : mapsRowed Try.prog = true := by kernel_rfl
theorem full : fullB Try.prog = true := by kernel_rfl

theorem model (x : DLL (Sig.tys ag_laws_FnExactConserveTensor)) (h : WfA ag_laws_FnExactConserveTensor x) : fn_laws_FnExactConserveTensor.M (erA ag_laws_FnExactConserveTensor x) = some [(.one, [.bool true])] := by
  have h1 := SFn.M_er fn_laws_FnExactConserveTensor x
  have h2 : fn_laws_FnExactConserveTensor.F x = some true := by
    obtain ⟨a0, a1, a2⟩ := x
    have hw : (wf_Tensor a1 && wf_Charges a2) = true := by rw [wfT_Tensor a1 h.2.1, wfT_Charges a2 h.2.2]; rfl
    exact if_pos hw
  exact h1.trans (by rw [h2]; rfl)

theorem lifted (os : Os) (started : os.Started) (H : Type) (enc : TypeId × Value → H) :
    ReturnsInHanded {} Try.checked os 4 .any (Rows.fnExactConserveTensorSpec.pre6 enc Try.prog Try.f4 Rows.fnExactConserveTensorRow.domain false) (Rows.fnExactConserveTensorSpec.post enc Try.prog Try.f4 false true false false) := by
  refine returnsInHanded_of_change (C := Try.checked) own started (by kernel_rfl) Try.func4
    (ChangeSpec.witness6 (enc := enc) (C := Try.checked) false ⟨#[], #[.agg #[.int .i64 0, .int .i64 0, .int .i64 0], .agg #[.slice none 0 0, .slice none 0 0, .slice none 0 0], .agg #[.int .i64 0, .slice none 0 0]], []⟩ 8 (by kernel_rfl) (by kernel_rfl) (by kernel_rfl) (by kernel_rfl)) ?_
  intro W base args ds gs before hval hW _ _
  exact law_ok (P := Try.prog) (fn := Try.f4) (s := Rows.fnExactConserveTensorSpec) (sg := ag_laws_FnExactConserveTensor) (tb := (Try.f4.resultTypes.toList.head?).getD 0) rowed maps full (of_decide_eq_true (by kernel_rfl)) (by kernel_rfl) (by kernel_rfl) (by kernel_rfl) rfl
    (fun ds hl => by
      match ds, hl with
      | [d0, d1, d2], _ => exact ⟨rfl, rfl, rfl⟩) p_laws_FnExactConserveTensor.1 model hval hW

theorem holds : Rows.FnExactConserveTensorSaid :=
  OpenClaim.holds_of_wide 4 Try.f4 rfl rfl rfl rfl rfl rfl rfl ⟨rfl, rfl, rfl, rfl, rfl⟩ rfl rfl rfl rfl rfl (by kernel_rfl) Try.func4 (by kernel_rfl)
    (of_decide_eq_true (by kernel_rfl)) (by unfold Func.isWrapper; first | (rw [if_pos (by decide +kernel)]; kernel_rfl) | (rw [if_neg (by decide +kernel)]; exact ⟨rfl, rfl⟩))
    (fun os started H enc _ => lifted os started H enc)

end Go.Proofs.Ytbogogbogdafiaa.exactConserveTensor
