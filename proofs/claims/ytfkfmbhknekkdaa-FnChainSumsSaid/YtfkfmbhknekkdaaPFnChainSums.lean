/- The law FnChainSums returns true for every argument, and leaves it as it was. No condition. -/
import Derived.Test.YtfkfmbhknekkdaaAFnChainSums
import Derived.Test.YtfkfmbhknekkdaaWT
import Derived.JoinedOf
set_option linter.unusedVariables false
set_option maxRecDepth 100000
namespace Go.Proofs.Ytfkfmbhknekkdaa.chainSums
open Go.Am
theorem own:ownKnob Try.prog.godebug=none:=by kernel_rfl
theorem asV:laidOutB Try.prog=true:=by kernel_rfl
theorem maps:mapsRowed Try.prog=true:=by kernel_rfl
theorem full:aav Try.prog=true:=by kernel_rfl
theorem aoJ (x:bj (ar.bi yL)) (h:Dh yL x):L8.M (dL yL x)=some [(.one,[.bool true])]:=by
  have h1:=aw.wT L8 x;have h2:L8.F x=some true:=by
    exact rfl
  exact h1.trans (by rw[h2];rfl)
theorem aoz (os:Os) (Wv:os.Started) (H:Type) (enc:TypeId×Value->H):
    ReturnsInHanded {} Try.checked os 4 .any (Rows.fnChainSumsSpec.pre6 enc Try.prog Try.f4 Rows.fnChainSumsRow.domain false) (Rows.fnChainSumsSpec.post enc Try.prog Try.f4 false true false false):=by
  refine returnsInHanded_of_change (C:=Try.checked) own Wv (by kernel_rfl) Try.func4
    (ChangeSpec.witness6 (enc:=enc) (C:=Try.checked) false ⟨#[],#[.slice none 0 0],[]⟩ 8 (by kernel_rfl) (by kernel_rfl) (by kernel_rfl) (by kernel_rfl)) ?_
  intro W Dm args ds gs uh Ho hW _ _;exact aow (P:=Try.prog) (fn:=Try.f4) (s:=Rows.fnChainSumsSpec) (sg:=yL) (tb:=(Try.f4.resultTypes.toList.head?).getD 0) asV maps full (of_decide_eq_true (by kernel_rfl)) (by kernel_rfl) (by kernel_rfl) (by kernel_rfl) rfl
    (fun ds hl=>by
      match ds,hl with
      |[d0],_=>exact⟨rfl,rfl,rfl⟩) arL.1 aoJ Ho hW
theorem holds:Rows.FnChainSumsSaid:=
  OpenClaim.holds_of_wide 4 Try.f4 rfl rfl rfl rfl rfl rfl rfl ⟨rfl,rfl,rfl,rfl,rfl⟩ rfl rfl rfl rfl rfl (by kernel_rfl) Try.func4 (by kernel_rfl)
    (of_decide_eq_true (by kernel_rfl)) (by unfold Func.isWrapper;first|(rw[if_pos (by decide+kernel)];kernel_rfl)|(rw[if_neg (by decide+kernel)];exact⟨rfl,rfl⟩))
    (fun os Wv H enc _=>aoz os Wv H enc)
end Go.Proofs.Ytfkfmbhknekkdaa.chainSums
