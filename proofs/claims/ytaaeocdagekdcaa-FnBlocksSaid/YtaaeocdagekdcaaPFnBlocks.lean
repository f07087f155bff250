/- The law FnBlocks returns true for every argument, and leaves it as it was. No condition. -/
import Derived.Test.YtaaeocdagekdcaaAFnBlocks
import Derived.Test.YtaaeocdagekdcaaWT
import Derived.JoinedOf
set_option linter.unusedVariables false
set_option maxRecDepth 100000
namespace Go.Proofs.Ytaaeocdagekdcaa.blocks
open Go.Am
theorem own:ownKnob Try.prog.godebug=none:=by kernel_rfl
theorem auf:laidOutB Try.prog=true:=by kernel_rfl
theorem maps:mapsRowed Try.prog=true:=by kernel_rfl
theorem full:aei Try.prog=true:=by kernel_rfl
theorem aqs (x:cv (bu.cu D6)) (h:Hl D6 x):PH.M (eG D6 x)=some [(.one,[.bool true])]:=by have h1:=aF.CL PH x;have h2:PH.F x=some true:=(by exact rfl);exact h1.trans (by rw[h2];rfl)
theorem ap8 (os:Os) (aal:os.Started) (H:Type) (enc:TypeId×Value->H):
    ReturnsInHanded {} Try.checked os 4 .any (Rows.fnBlocksSpec.pre6 enc Try.prog Try.f4 Rows.fnBlocksRow.domain false) (Rows.fnBlocksSpec.post enc Try.prog Try.f4 false true false false):=by
  refine returnsInHanded_of_change (C:=Try.checked) own aal (by kernel_rfl) Try.func4
    (ChangeSpec.witness6 (enc:=enc) (C:=Try.checked) false ⟨#[],#[.slice none 0 0],[]⟩ 8 (by kernel_rfl) (by kernel_rfl) (by kernel_rfl) (by kernel_rfl)) ?_
  intro W base args ds gs x4 Fw hW _ _;exact ap4 (P:=Try.prog) (fn:=Try.f4) (s:=Rows.fnBlocksSpec) (sg:=D6) (tb:=(Try.f4.resultTypes.toList.head?).getD 0) auf maps full (of_decide_eq_true (by kernel_rfl)) (by kernel_rfl) (by kernel_rfl) (by kernel_rfl) rfl
    (fun ds hl=>by
      match ds,hl with
      |[d0],_=>exact⟨rfl,rfl,rfl⟩) asK.1 aqs Fw hW
theorem holds:Rows.FnBlocksSaid:= OpenClaim.holds_of_wide 4 Try.f4 rfl rfl rfl rfl rfl rfl rfl ⟨rfl,rfl,rfl,rfl,rfl⟩ rfl rfl rfl rfl rfl (by kernel_rfl) Try.func4 (by kernel_rfl) (of_decide_eq_true (by kernel_rfl)) (by unfold Func.isWrapper;first|(rw[ai (by decide+kernel)];kernel_rfl)|(rw[aq (by decide+kernel)];exact⟨rfl,rfl⟩)) (fun os aal H enc _=>ap8 os aal H enc)
end Go.Proofs.Ytaaeocdagekdcaa.blocks
