/- The law FnCompressed returns true for every argument, and leaves it as it was. No condition. -/
import Derived.Test.YtbgmbplglejidaaAFnCompressed
import Derived.Test.YtbgmbplglejidaaWT
import Derived.JoinedOf
set_option linter.unusedVariables false
set_option maxRecDepth 100000
namespace Go.Proofs.Ytbgmbplglejidaa.compressed
open Go.Am
theorem own:ownKnob Try.prog.godebug=none:=by kernel_rfl
theorem aob:laidOutB Try.prog=true:=by kernel_rfl
theorem maps:mapsRowed Try.prog=true:=by kernel_rfl
theorem full:Y0 Try.prog=true:=by kernel_rfl
theorem aj8 (x:aS (ak.aR vN)) (h:AA vN x):I7.M (dd vN x)=some [(.one,[.bool true])]:=by
  have h1:=aw.xP I7 x
  have h2:I7.F x=some true:=by
    exact rfl
  exact h1.trans (by rw[h2];rfl)
theorem ajZ (os:Os) (VI:os.Started) (H:Type) (enc:TypeId×Value->H):
    ReturnsInHanded {} Try.checked os 5 .any (Rows.fnCompressedSpec.pre6 enc Try.prog Try.f5 Rows.fnCompressedRow.domain false) (Rows.fnCompressedSpec.post enc Try.prog Try.f5 false true false false):=by
  refine returnsInHanded_of_change (C:=Try.checked) own VI (by kernel_rfl) Try.func5
    (ChangeSpec.witness6 (enc:=enc) (C:=Try.checked) false ⟨#[],#[.slice none 0 0],[]⟩ 8 (by kernel_rfl) (by kernel_rfl) (by kernel_rfl) (by kernel_rfl)) ?_
  intro W AE args ds gs rK EJ hW _ _
  exact ajW (P:=Try.prog) (fn:=Try.f5) (s:=Rows.fnCompressedSpec) (sg:=vN) (tb:=(Try.f5.resultTypes.toList.head?).getD 0) aob maps full (of_decide_eq_true (by kernel_rfl)) (by kernel_rfl) (by kernel_rfl) (by kernel_rfl) rfl
    (fun ds hl=>by
      match ds,hl with
      |[d0],_=>exact⟨rfl,rfl,rfl⟩) am5.1 aj8 EJ hW
theorem holds:Rows.FnCompressedSaid:=
  OpenClaim.holds_of_wide 5 Try.f5 rfl rfl rfl rfl rfl rfl rfl ⟨rfl,rfl,rfl,rfl,rfl⟩ rfl rfl rfl rfl rfl (by kernel_rfl) Try.func5 (by kernel_rfl)
    (of_decide_eq_true (by kernel_rfl)) (by unfold Func.isWrapper;first|(rw[if_pos (by decide+kernel)];kernel_rfl)|(rw[if_neg (by decide+kernel)];exact⟨rfl,rfl⟩))
    (fun os VI H enc _=>ajZ os VI H enc)
end Go.Proofs.Ytbgmbplglejidaa.compressed
