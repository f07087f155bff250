/- The law FnExactReachBasis returns true for every argument, and leaves it as it was. No condition. -/
import Derived.Test.YthildlkhnnogiaaAReachBasis
import Derived.Test.YthildlkhnnogiaaWT
import Derived.JoinedOf
set_option linter.unusedVariables false
set_option maxRecDepth 100000
namespace Go.Proofs.Ythildlkhnnogiaa.exactReachBasis
open Go.Am
theorem own:ownKnob Try.prog.godebug=none:=by kernel_rfl
theorem alh:laidOutB Try.prog=true:=by kernel_rfl
theorem maps:mapsRowed Try.prog=true:=by kernel_rfl
theorem full:Xf Try.prog=true:=by kernel_rfl
theorem ah0 (x:aZ (aq.aY wI)) (h:A5 wI x):IH.M (cF wI x)=some [(.one,[.bool true])]:=by
  have h1:=ar.sS IH x
  have h2:IH.F x=some true:=by
    exact if_pos (amN x h)
  exact h1.trans (by rw[h2];rfl)
theorem ahR (os:Os) (Uk:os.Started) (H:Type) (enc:TypeId×Value->H):
    ReturnsInHanded {} Try.checked os 3 .any (Rows.fnExactReachBasisSpec.pre6 enc Try.prog Try.f3 Rows.fnExactReachBasisRow.domain false) (Rows.fnExactReachBasisSpec.post enc Try.prog Try.f3 false true false false):=by
  refine returnsInHanded_of_change (C:=Try.checked) own Uk (by kernel_rfl) Try.func3
    (ChangeSpec.witness6 (enc:=enc) (C:=Try.checked) false ⟨#[],#[.agg #[.int .i64 0,.int .i64 0,.slice none 0 0,.slice none 0 0,.slice none 0 0]],[]⟩ 8 (by kernel_rfl) (by kernel_rfl) (by kernel_rfl) (by kernel_rfl)) ?_
  intro W base args ds gs rF zE hW _ _
  exact ahP (P:=Try.prog) (fn:=Try.f3) (s:=Rows.fnExactReachBasisSpec) (sg:=wI) (tb:=(Try.f3.resultTypes.toList.head?).getD 0) alh maps full (of_decide_eq_true (by kernel_rfl)) (by kernel_rfl) (by kernel_rfl) (by kernel_rfl) rfl
    (fun ds hl=>by
      match ds,hl with
      |[d0],_=>exact⟨rfl,rfl,rfl⟩) aki.1 ah0 zE hW
theorem holds:Rows.FnExactReachBasisSaid:=
  OpenClaim.holds_of_wide 3 Try.f3 rfl rfl rfl rfl rfl rfl rfl ⟨rfl,rfl,rfl,rfl,rfl⟩ rfl rfl rfl rfl rfl (by kernel_rfl) Try.func3 (by kernel_rfl)
    (of_decide_eq_true (by kernel_rfl)) (by unfold Func.isWrapper;first|(rw[if_pos (by decide+kernel)];kernel_rfl)|(rw[if_neg (by decide+kernel)];exact⟨rfl,rfl⟩))
    (fun os Uk H enc _=>ahR os Uk H enc)
end Go.Proofs.Ythildlkhnnogiaa.exactReachBasis
