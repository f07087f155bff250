/- The law FnExactChainOf returns true for every argument, and leaves it as it was. No condition. -/
import Derived.Test.YtbgmbplglejidaaAChainOf
import Derived.Test.YtbgmbplglejidaaWT
import Derived.JoinedOf
set_option linter.unusedVariables false
set_option maxRecDepth 100000
namespace Go.Proofs.Ytbgmbplglejidaa.exactChainOf
open Go.Am
theorem own:ownKnob Try.prog.godebug=none:=by kernel_rfl
theorem ao7:laidOutB Try.prog=true:=by kernel_rfl
theorem maps:mapsRowed Try.prog=true:=by kernel_rfl
theorem full:Zg Try.prog=true:=by kernel_rfl
theorem akK (x:aQ (ai.aP vD)) (h:Ag vD x):Iz.M (c6 vD x)=some [(.one,[.bool true])]:=by
  have h1:=au.xQ Iz x
  have h2:Iz.F x=some true:=by
    obtain⟨a0,a1⟩:=x
    have hw:(FK a1)=true:=by rw[aqF a1 h.2]
    exact if_pos hw
  exact h1.trans (by rw[h2];rfl)
theorem aku (os:Os) (V9:os.Started) (H:Type) (enc:TypeId×Value->H):
    ReturnsInHanded {} Try.checked os 3 .any (Rows.fnExactChainOfSpec.pre6 enc Try.prog Try.f3 Rows.fnExactChainOfRow.domain false) (Rows.fnExactChainOfSpec.post enc Try.prog Try.f3 false true false false):=by
  refine returnsInHanded_of_change (C:=Try.checked) own V9 (by kernel_rfl) Try.func3
    (ChangeSpec.witness6 (enc:=enc) (C:=Try.checked) false ⟨#[],#[.int .i64 0,.agg #[.slice none 0 0,.slice none 0 0,.slice none 0 0]],[]⟩ 8 (by kernel_rfl) (by kernel_rfl) (by kernel_rfl) (by kernel_rfl)) ?_
  intro W Ak args ds gs q8 Ea hW _ _
  exact akr (P:=Try.prog) (fn:=Try.f3) (s:=Rows.fnExactChainOfSpec) (sg:=vD) (tb:=(Try.f3.resultTypes.toList.head?).getD 0) ao7 maps full (of_decide_eq_true (by kernel_rfl)) (by kernel_rfl) (by kernel_rfl) (by kernel_rfl) rfl
    (fun ds hl=>by
      match ds,hl with
      |[d0,d1],_=>exact⟨rfl,rfl,rfl⟩) anZ.1 akK Ea hW
theorem holds:Rows.FnExactChainOfSaid:=
  OpenClaim.holds_of_wide 3 Try.f3 rfl rfl rfl rfl rfl rfl rfl ⟨rfl,rfl,rfl,rfl,rfl⟩ rfl rfl rfl rfl rfl (by kernel_rfl) Try.func3 (by kernel_rfl)
    (of_decide_eq_true (by kernel_rfl)) (by unfold Func.isWrapper;first|(rw[if_pos (by decide+kernel)];kernel_rfl)|(rw[if_neg (by decide+kernel)];exact⟨rfl,rfl⟩))
    (fun os V9 H enc _=>aku os V9 H enc)
end Go.Proofs.Ytbgmbplglejidaa.exactChainOf
