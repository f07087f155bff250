/- The law FnSwapped returns true for every argument, and leaves it as it was. No condition. -/
import Derived.Test.YtbgmbplglejidaaAFnSwapped
import Derived.Test.YtbgmbplglejidaaWT
import Derived.JoinedOf
set_option linter.unusedVariables false
set_option maxRecDepth 100000
namespace Go.Proofs.Ytbgmbplglejidaa.swapped
open Go.Am
theorem own:ownKnob Try.prog.godebug=none:=by kernel_rfl
theorem aq9:laidOutB Try.prog=true:=by kernel_rfl
theorem maps:mapsRowed Try.prog=true:=by kernel_rfl
theorem full:Z7 Try.prog=true:=by kernel_rfl
theorem amQ (x:aV (ao.aU wk)) (h:Bq wk x):JK.M (dg wk x)=some [(.one,[.bool true])]:=by
  have h1:=az.yo JK x
  have h2:JK.F x=some true:=by
    exact rfl
  exact h1.trans (by rw[h2];rfl)
theorem amH (os:Os) (WO:os.Started) (H:Type) (enc:TypeId×Value->H):
    ReturnsInHanded {} Try.checked os 6 .any (Rows.fnSwappedSpec.pre6 enc Try.prog Try.f6 Rows.fnSwappedRow.domain false) (Rows.fnSwappedSpec.post enc Try.prog Try.f6 false true false false):=by
  refine returnsInHanded_of_change (C:=Try.checked) own WO (by kernel_rfl) Try.func6
    (ChangeSpec.witness6 (enc:=enc) (C:=Try.checked) false ⟨#[],#[.slice none 0 0],[]⟩ 8 (by kernel_rfl) (by kernel_rfl) (by kernel_rfl) (by kernel_rfl)) ?_
  intro W Bu args ds gs rP Fu hW _ _
  exact amE (P:=Try.prog) (fn:=Try.f6) (s:=Rows.fnSwappedSpec) (sg:=wk) (tb:=(Try.f6.resultTypes.toList.head?).getD 0) aq9 maps full (of_decide_eq_true (by kernel_rfl)) (by kernel_rfl) (by kernel_rfl) (by kernel_rfl) rfl
    (fun ds hl=>by
      match ds,hl with
      |[d0],_=>exact⟨rfl,rfl,rfl⟩) ap0.1 amQ Fu hW
theorem holds:Rows.FnSwappedSaid:=
  OpenClaim.holds_of_wide 6 Try.f6 rfl rfl rfl rfl rfl rfl rfl ⟨rfl,rfl,rfl,rfl,rfl⟩ rfl rfl rfl rfl rfl (by kernel_rfl) Try.func6 (by kernel_rfl)
    (of_decide_eq_true (by kernel_rfl)) (by unfold Func.isWrapper;first|(rw[if_pos (by decide+kernel)];kernel_rfl)|(rw[if_neg (by decide+kernel)];exact⟨rfl,rfl⟩))
    (fun os WO H enc _=>amH os WO H enc)
end Go.Proofs.Ytbgmbplglejidaa.swapped
