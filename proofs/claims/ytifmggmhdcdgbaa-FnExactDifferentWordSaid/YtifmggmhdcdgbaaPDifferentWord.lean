/- The law FnExactDifferentWord returns true for every argument, and leaves it as it was. No condition. -/
import Derived.Test.YtifmggmhdcdgbaaADifferentWord
import Derived.Test.YtifmggmhdcdgbaaWT
import Derived.JoinedOf
set_option linter.unusedVariables false
set_option maxRecDepth 100000
namespace Go.Proofs.Ytifmggmhdcdgbaa.exactDifferentWord
open Go.Am
theorem own:ownKnob Try.prog.godebug=none:=by kernel_rfl
theorem am3:laidOutB Try.prog=true:=by kernel_rfl
theorem maps:mapsRowed Try.prog=true:=by kernel_rfl
theorem full:WW Try.prog=true:=by kernel_rfl
theorem ajG (x:aQ (ao.aP vb)) (h:zx vb x):HH.M (cH vb x)=some [(.one,[.bool true])]:=by
  have h1:=aG.Cg HH x
  have h2:HH.F x=some true:=by
    obtain⟨a0,a1⟩:=x
    have hw:(zd a0&&zd a1)=true:=by rw[ab3 a0 h.1,ab3 a1 h.2];rfl
    exact if_pos hw
  exact h1.trans (by rw[h2];rfl)
theorem ajy (os:Os) (Uc:os.Started) (H:Type) (enc:TypeId×Value->H):
    ReturnsInHanded {} Try.checked os 3 .any (Rows.fnExactDifferentWordSpec.pre6 enc Try.prog Try.f3 Rows.fnExactDifferentWordRow.domain false) (Rows.fnExactDifferentWordSpec.post enc Try.prog Try.f3 false true false false):=by
  refine returnsInHanded_of_change (C:=Try.checked) own Uc (by kernel_rfl) Try.func3
    (ChangeSpec.witness6 (enc:=enc) (C:=Try.checked) false ⟨#[],#[.agg #[.int .i64 0,.int .i64 0,.slice none 0 0,.slice none 0 0,.slice none 0 0],.agg #[.int .i64 0,.int .i64 0,.slice none 0 0,.slice none 0 0,.slice none 0 0]],[]⟩ 8 (by kernel_rfl) (by kernel_rfl) (by kernel_rfl) (by kernel_rfl)) ?_
  intro W zB args ds gs qu Dz hW _ _
  exact ajw (P:=Try.prog) (fn:=Try.f3) (s:=Rows.fnExactDifferentWordSpec) (sg:=vb) (tb:=(Try.f3.resultTypes.toList.head?).getD 0) am3 maps full (of_decide_eq_true (by kernel_rfl)) (by kernel_rfl) (by kernel_rfl) (by kernel_rfl) rfl
    (fun ds hl=>by
      match ds,hl with
      |[d0,d1],_=>exact⟨rfl,rfl,rfl⟩) al7.1 ajG Dz hW
theorem holds:Rows.FnExactDifferentWordSaid:=
  OpenClaim.holds_of_wide 3 Try.f3 rfl rfl rfl rfl rfl rfl rfl ⟨rfl,rfl,rfl,rfl,rfl⟩ rfl rfl rfl rfl rfl (by kernel_rfl) Try.func3 (by kernel_rfl)
    (of_decide_eq_true (by kernel_rfl)) (by unfold Func.isWrapper;first|(rw[if_pos (by decide+kernel)];kernel_rfl)|(rw[if_neg (by decide+kernel)];exact⟨rfl,rfl⟩))
    (fun os Uc H enc _=>ajy os Uc H enc)
end Go.Proofs.Ytifmggmhdcdgbaa.exactDifferentWord
