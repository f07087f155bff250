/- The law FnPfaffians returns true for every argument, and leaves it as it was. No condition. -/
import Derived.Test.YtdbokcfhhdkhiaaAFnPfaffians
import Derived.Test.YtdbokcfhhdkhiaaWT
import Derived.JoinedOf
set_option linter.unusedVariables false
set_option maxRecDepth 100000
namespace Go.Proofs.Ytdbokcfhhdkhiaa.pfaffians
open Go.Am

theorem own : ownKnob Try.prog.godebug = none := by kernel_rfl
theorem rowed : laidOutB Try.prog = true := by kernel_rfl
theorem maps : mapsRowed Try.prog = true := by kernel_rfl
theorem full : fullB Try.prog = true := by kernel_rfl

theorem model (x : DLL (Sig.tys ag_laws_FnPfaffians)) (h : WfA ag_laws_FnPfaffians x) : fn_laws_FnPfaffians.M (erA ag_laws_FnPfaffians x) = some [(.one, [.bool true])] := by
  have h1 := SFn.M_er fn_laws_FnPfaffians x
  have h2 : fn_laws_FnPfaffians.F x = some true := by
    exact rfl
  exact h1.trans (by rw [h2]; rfl)

theorem lifted (os : Os) (started : os.Started) (H : Type) (enc : TypeId × Value → H) :
    ReturnsInHanded {} Try.checked os 8 .any (Rows.fnPfaffiansSpec.pre6 enc Try.prog Try.f8 Rows.fnPfaffiansRow.domain false) (Rows.fnPfaffiansSpec.post enc Try.prog Try.f8 false true false false) := by
  refine returnsInHanded_of_change (C := Try.checked) own started (by kernel_rfl) Try.func8
    (ChangeSpec.witness6 (enc := enc) (C := Try.checked) false ⟨#[], #[.slice none 0 0], []⟩ 8 (by kernel_rfl) (by kernel_rfl) (by kernel_rfl) (by kernel_rfl)) ?_
  intro W base args ds gs before hval hW _ _
  exact law_ok (P := Try.prog) (fn := Try.f8) (s := Rows.fnPfaffiansSpec) (sg := ag_laws_FnPfaffians) (tb := (Try.f8.resultTypes.toList.head?).getD 0) rowed maps full (of_decide_eq_true (by kernel_rfl)) (by kernel_rfl) (by kernel_rfl) (by kernel_rfl) rfl
    (fun ds hl => by
      match ds, hl with
      | [d0], _ => exact ⟨rfl, rfl, rfl⟩) p_laws_FnPfaffians.1 model hval hW

theorem holds : Rows.FnPfaffiansSaid :=
  OpenClaim.holds_of_wide 8 Try.f8 rfl rfl rfl rfl rfl rfl rfl ⟨rfl, rfl, rfl, rfl, rfl⟩ rfl rfl rfl rfl rfl (by kernel_rfl) Try.func8 (by kernel_rfl)
    (of_decide_eq_true (by kernel_rfl)) (by unfold Func.isWrapper; first | (rw [if_pos (by decide +kernel)]; kernel_rfl) | (rw [if_neg (by decide +kernel)]; exact ⟨rfl, rfl⟩))
    (fun os started H enc _ => lifted os started H enc)

end Go.Proofs.Ytdbokcfhhdkhiaa.pfaffians
