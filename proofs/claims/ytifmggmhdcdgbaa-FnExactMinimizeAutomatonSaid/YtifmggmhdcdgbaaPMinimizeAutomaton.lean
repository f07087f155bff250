/- The law FnExactMinimizeAutomaton returns true for every argument, and leaves it as it was. No condition. -/
import Derived.Test.YtifmggmhdcdgbaaAMinimizeAutomaton
import Derived.Test.YtifmggmhdcdgbaaWT
import Derived.JoinedOf
set_option linter.unusedVariables false
set_option maxRecDepth 100000
namespace Go.Proofs.Ytifmggmhdcdgbaa.exactMinimizeAutomaton
open Go.Am
theorem own:ownKnob Try.prog.godebug=none:=by kernel_rfl
theorem ajV:laidOutB Try.prog=true:=by kernel_rfl
theorem maps:mapsRowed Try.prog=true:=by kernel_rfl
theorem full:VE Try.prog=true:=by kernel_rfl
theorem ags (x:aQ (ao.aP vc)) (h:ze vc x):GY.M (cW vc x)=some [(.one,[.bool true])]:=by
  have h1:=aG.BP GY x
  have h2:GY.F x=some true:=by
    exact if_pos (alf x h)
  exact h1.trans (by rw[h2];rfl)
theorem agf (os:Os) (SZ:os.Started) (H:Type) (enc:TypeId×Value->H):
    ReturnsInHanded {} Try.checked os 4 .any (Rows.fnExactMinimizeAutomatonSpec.pre6 enc Try.prog Try.f4 Rows.fnExactMinimizeAutomatonRow.domain false) (Rows.fnExactMinimizeAutomatonSpec.post enc Try.prog Try.f4 false true false false):=by
  refine returnsInHanded_of_change (C:=Try.checked) own SZ (by kernel_rfl) Try.func4
    (ChangeSpec.witness6 (enc:=enc) (C:=Try.checked) false ⟨#[],#[.agg #[.int .i64 0,.int .i64 0,.slice none 0 0,.slice none 0 0,.slice none 0 0]],[]⟩ 8 (by kernel_rfl) (by kernel_rfl) (by kernel_rfl) (by kernel_rfl)) ?_
  intro W zj args ds gs qN C3 hW _ _
  exact agd (P:=Try.prog) (fn:=Try.f4) (s:=Rows.fnExactMinimizeAutomatonSpec) (sg:=vc) (tb:=(Try.f4.resultTypes.toList.head?).getD 0) ajV maps full (of_decide_eq_true (by kernel_rfl)) (by kernel_rfl) (by kernel_rfl) (by kernel_rfl) rfl
    (fun ds hl=>by
      match ds,hl with
      |[d0],_=>exact⟨rfl,rfl,rfl⟩) aiY.1 ags C3 hW
theorem holds:Rows.FnExactMinimizeAutomatonSaid:=
  OpenClaim.holds_of_wide 4 Try.f4 rfl rfl rfl rfl rfl rfl rfl ⟨rfl,rfl,rfl,rfl,rfl⟩ rfl rfl rfl rfl rfl (by kernel_rfl) Try.func4 (by kernel_rfl)
    (of_decide_eq_true (by kernel_rfl)) (by unfold Func.isWrapper;first|(rw[if_pos (by decide+kernel)];kernel_rfl)|(rw[if_neg (by decide+kernel)];exact⟨rfl,rfl⟩))
    (fun os SZ H enc _=>agf os SZ H enc)
end Go.Proofs.Ytifmggmhdcdgbaa.exactMinimizeAutomaton
