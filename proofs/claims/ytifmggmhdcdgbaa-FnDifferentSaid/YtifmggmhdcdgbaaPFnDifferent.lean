/- The law FnDifferent returns true for every argument, and leaves it as it was. No condition. -/
import Derived.Test.YtifmggmhdcdgbaaAFnDifferent
import Derived.Test.YtifmggmhdcdgbaaWT
import Derived.JoinedOf
set_option linter.unusedVariables false
set_option maxRecDepth 100000
namespace Go.Proofs.Ytifmggmhdcdgbaa.different
open Go.Am
theorem own:ownKnob Try.prog.godebug=none:=by kernel_rfl
theorem anm:laidOutB Try.prog=true:=by kernel_rfl
theorem maps:mapsRowed Try.prog=true:=by kernel_rfl
theorem full:Xy Try.prog=true:=by kernel_rfl
theorem aj3 (x:aV (au.aU vL)) (h:zU vL x):Ik.M (cU vL x)=some [(.one,[.bool true])]:=by
  have h1:=aI.CR Ik x
  have h2:Ik.F x=some true:=by
    exact rfl
  exact h1.trans (by rw[h2];rfl)
theorem ajV (os:Os) (UL:os.Started) (H:Type) (enc:TypeId×Value->H):
    ReturnsInHanded {} Try.checked os 7 .any (Rows.fnDifferentSpec.pre6 enc Try.prog Try.f7 Rows.fnDifferentRow.domain false) (Rows.fnDifferentSpec.post enc Try.prog Try.f7 false true false false):=by
  refine returnsInHanded_of_change (C:=Try.checked) own UL (by kernel_rfl) Try.func7
    (ChangeSpec.witness6 (enc:=enc) (C:=Try.checked) false ⟨#[],#[.slice none 0 0],[]⟩ 8 (by kernel_rfl) (by kernel_rfl) (by kernel_rfl) (by kernel_rfl)) ?_
  intro W zZ args ds gs qO Ea hW _ _
  exact ajT (P:=Try.prog) (fn:=Try.f7) (s:=Rows.fnDifferentSpec) (sg:=vL) (tb:=(Try.f7.resultTypes.toList.head?).getD 0) anm maps full (of_decide_eq_true (by kernel_rfl)) (by kernel_rfl) (by kernel_rfl) (by kernel_rfl) rfl
    (fun ds hl=>by
      match ds,hl with
      |[d0],_=>exact⟨rfl,rfl,rfl⟩) aml.1 aj3 Ea hW
theorem holds:Rows.FnDifferentSaid:=
  OpenClaim.holds_of_wide 7 Try.f7 rfl rfl rfl rfl rfl rfl rfl ⟨rfl,rfl,rfl,rfl,rfl⟩ rfl rfl rfl rfl rfl (by kernel_rfl) Try.func7 (by kernel_rfl)
    (of_decide_eq_true (by kernel_rfl)) (by unfold Func.isWrapper;first|(rw[if_pos (by decide+kernel)];kernel_rfl)|(rw[if_neg (by decide+kernel)];exact⟨rfl,rfl⟩))
    (fun os UL H enc _=>ajV os UL H enc)
end Go.Proofs.Ytifmggmhdcdgbaa.different
