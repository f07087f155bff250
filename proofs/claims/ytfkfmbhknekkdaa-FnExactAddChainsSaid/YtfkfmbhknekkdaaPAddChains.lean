/- The law FnExactAddChains returns true for every argument, and leaves it as it was. No condition. -/
import Derived.Test.YtfkfmbhknekkdaaAAddChains
import Derived.Test.YtfkfmbhknekkdaaWT
import Derived.JoinedOf
set_option linter.unusedVariables false
set_option maxRecDepth 100000
namespace Go.Proofs.Ytfkfmbhknekkdaa.exactAddChains
open Go.Am
theorem own:ownKnob Try.prog.godebug=none:=by kernel_rfl
theorem ajX:laidOutB Try.prog=true:=by kernel_rfl
theorem maps:mapsRowed Try.prog=true:=by kernel_rfl
theorem full:Tx Try.prog=true:=by kernel_rfl
theorem agR (x:bA (ax.bz tA)) (h:xW tA x):E7.M (dj tA x)=some [(.one,[.bool true])]:=by
  have h1:=ar.rO E7 x
  have h2:E7.F x=some true:=by
    obtain⟨a0,a1⟩:=x
    have hw:(xx a0&&xx a1)=true:=by rw[Zz a0 h.1,Zz a1 h.2];rfl
    exact if_pos hw
  exact h1.trans (by rw[h2];rfl)
theorem agG (os:Os) (P6:os.Started) (H:Type) (enc:TypeId×Value->H):
    ReturnsInHanded {} Try.checked os 3 .any (Rows.fnExactAddChainsSpec.pre6 enc Try.prog Try.f3 Rows.fnExactAddChainsRow.domain false) (Rows.fnExactAddChainsSpec.post enc Try.prog Try.f3 false true false false):=by
  refine returnsInHanded_of_change (C:=Try.checked) own P6 (by kernel_rfl) Try.func3
    (ChangeSpec.witness6 (enc:=enc) (C:=Try.checked) false ⟨#[],#[.agg #[.int .i64 0,.slice none 0 0],.agg #[.int .i64 0,.slice none 0 0]],[]⟩ 8 (by kernel_rfl) (by kernel_rfl) (by kernel_rfl) (by kernel_rfl)) ?_
  intro W xZ args ds gs pb BX hW _ _
  exact agD (P:=Try.prog) (fn:=Try.f3) (s:=Rows.fnExactAddChainsSpec) (sg:=tA) (tb:=(Try.f3.resultTypes.toList.head?).getD 0) ajX maps full (of_decide_eq_true (by kernel_rfl)) (by kernel_rfl) (by kernel_rfl) (by kernel_rfl) rfl
    (fun ds hl=>by
      match ds,hl with
      |[d0,d1],_=>exact⟨rfl,rfl,rfl⟩) aiE.1 agR BX hW
theorem holds:Rows.FnExactAddChainsSaid:=
  OpenClaim.holds_of_wide 3 Try.f3 rfl rfl rfl rfl rfl rfl rfl ⟨rfl,rfl,rfl,rfl,rfl⟩ rfl rfl rfl rfl rfl (by kernel_rfl) Try.func3 (by kernel_rfl)
    (of_decide_eq_true (by kernel_rfl)) (by unfold Func.isWrapper;first|(rw[if_pos (by decide+kernel)];kernel_rfl)|(rw[if_neg (by decide+kernel)];exact⟨rfl,rfl⟩))
    (fun os P6 H enc _=>agG os P6 H enc)
end Go.Proofs.Ytfkfmbhknekkdaa.exactAddChains
