/- The law FnExactBlockPair returns true for every argument, and leaves it as it was. No condition. -/
import Derived.Test.YtaaeocdagekdcaaABlockPair
import Derived.Test.YtaaeocdagekdcaaWT
import Derived.JoinedOf
set_option linter.unusedVariables false
set_option maxRecDepth 100000
namespace Go.Proofs.Ytaaeocdagekdcaa.exactBlockPair
open Go.Am
theorem own:ownKnob Try.prog.godebug=none:=by kernel_rfl
theorem azL:laidOutB Try.prog=true:=by kernel_rfl
theorem maps:mapsRowed Try.prog=true:=by kernel_rfl
theorem full:adN Try.prog=true:=by kernel_rfl
theorem avJ (x:bt (aR.br sH)) (h:Hk sH x):O6.M (eZ sH x)=some [(.one,[.bool true])]:=by have h1:=aF.Ct O6 x;have h2:O6.F x=some true:=(by obtain⟨a0,a1,a2,a3,a4⟩:=x;have hw:(Gz a1&&Gy a2&&Gz a3&&Gy a4)=true:=(by rw[amk a1 h.2.1,amj a2 h.2.2.1,amk a3 h.2.2.2.1,amj a4 h.2.2.2.2];rfl);exact aj hw);exact h1.trans (by rw[h2];rfl)
theorem avr (os:Os) (Zt:os.Started) (H:Type) (enc:TypeId×Value->H):
    ReturnsInHanded {} Try.checked os 3 .any (Rows.fnExactBlockPairSpec.pre6 enc Try.prog Try.f3 Rows.fnExactBlockPairRow.domain false) (Rows.fnExactBlockPairSpec.post enc Try.prog Try.f3 false true false false):=by
  refine returnsInHanded_of_change (C:=Try.checked) own Zt (by kernel_rfl) Try.func3
    (ChangeSpec.witness6 (enc:=enc) (C:=Try.checked) false ⟨#[],#[.agg #[.int .i64 0,.int .i64 0,.int .i64 0],.agg #[.slice none 0 0,.slice none 0 0,.slice none 0 0],.agg #[.int .i64 0,.slice none 0 0],.agg #[.slice none 0 0,.slice none 0 0,.slice none 0 0],.agg #[.int .i64 0,.slice none 0 0]],[]⟩ 8 (by kernel_rfl) (by kernel_rfl) (by kernel_rfl) (by kernel_rfl)) ?_
  intro W EE args ds gs xt LS hW _ _;exact avo (P:=Try.prog) (fn:=Try.f3) (s:=Rows.fnExactBlockPairSpec) (sg:=sH) (tb:=(Try.f3.resultTypes.toList.head?).getD 0) azL maps full (of_decide_eq_true (by kernel_rfl)) (by kernel_rfl) (by kernel_rfl) (by kernel_rfl) rfl
    (fun ds hl=>by
      match ds,hl with
      |[d0,d1,d2,d3,d4],_=>exact⟨rfl,rfl,rfl⟩) ayj.1 avJ LS hW
theorem holds:Rows.FnExactBlockPairSaid:= OpenClaim.holds_of_wide 3 Try.f3 rfl rfl rfl rfl rfl rfl rfl ⟨rfl,rfl,rfl,rfl,rfl⟩ rfl rfl rfl rfl rfl (by kernel_rfl) Try.func3 (by kernel_rfl) (of_decide_eq_true (by kernel_rfl)) (by unfold Func.isWrapper;first|(rw[aj (by decide+kernel)];kernel_rfl)|(rw[ak (by decide+kernel)];exact⟨rfl,rfl⟩)) (fun os Zt H enc _=>avr os Zt H enc)
end Go.Proofs.Ytaaeocdagekdcaa.exactBlockPair
