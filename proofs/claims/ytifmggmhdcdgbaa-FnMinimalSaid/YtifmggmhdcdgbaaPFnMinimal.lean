/- The law FnMinimal returns true for every argument, and leaves it as it was. No condition. -/
import Derived.Test.YtifmggmhdcdgbaaAFnMinimal
import Derived.Test.YtifmggmhdcdgbaaWT
import Derived.JoinedOf
set_option linter.unusedVariables false
set_option maxRecDepth 100000
namespace Go.Proofs.Ytifmggmhdcdgbaa.minimal
open Go.Am
theorem own:ownKnob Try.prog.godebug=none:=by kernel_rfl
theorem ajt:laidOutB Try.prog=true:=by kernel_rfl
theorem maps:mapsRowed Try.prog=true:=by kernel_rfl
theorem full:U1 Try.prog=true:=by kernel_rfl
theorem agE (x:be (av.aZ uE)) (h:y8 uE x):GA.M (cQ uE x)=some [(.one,[.bool true])]:=by
  have h1:=aJ.BO GA x
  have h2:GA.F x=some true:=by
    exact rfl
  exact h1.trans (by rw[h2];rfl)
theorem agu (os:Os) (R5:os.Started) (H:Type) (enc:TypeId×Value->H):
    ReturnsInHanded {} Try.checked os 6 .any (Rows.fnMinimalSpec.pre6 enc Try.prog Try.f6 Rows.fnMinimalRow.domain false) (Rows.fnMinimalSpec.post enc Try.prog Try.f6 false true false false):=by
  refine returnsInHanded_of_change (C:=Try.checked) own R5 (by kernel_rfl) Try.func6
    (ChangeSpec.witness6 (enc:=enc) (C:=Try.checked) false ⟨#[],#[.slice none 0 0],[]⟩ 8 (by kernel_rfl) (by kernel_rfl) (by kernel_rfl) (by kernel_rfl)) ?_
  intro W zd args ds gs qj C1 hW _ _
  exact agr (P:=Try.prog) (fn:=Try.f6) (s:=Rows.fnMinimalSpec) (sg:=uE) (tb:=(Try.f6.resultTypes.toList.head?).getD 0) ajt maps full (of_decide_eq_true (by kernel_rfl)) (by kernel_rfl) (by kernel_rfl) (by kernel_rfl) rfl
    (fun ds hl=>by
      match ds,hl with
      |[d0],_=>exact⟨rfl,rfl,rfl⟩) aiC.1 agE C1 hW
theorem holds:Rows.FnMinimalSaid:=
  OpenClaim.holds_of_wide 6 Try.f6 rfl rfl rfl rfl rfl rfl rfl ⟨rfl,rfl,rfl,rfl,rfl⟩ rfl rfl rfl rfl rfl (by kernel_rfl) Try.func6 (by kernel_rfl)
    (of_decide_eq_true (by kernel_rfl)) (by unfold Func.isWrapper;first|(rw[if_pos (by decide+kernel)];kernel_rfl)|(rw[if_neg (by decide+kernel)];exact⟨rfl,rfl⟩))
    (fun os R5 H enc _=>agu os R5 H enc)
end Go.Proofs.Ytifmggmhdcdgbaa.minimal
