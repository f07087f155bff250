/- The law FnSpins returns true for every argument, and leaves it as it was. No condition. -/
import Derived.Test.YtfhgbfllljehhaaAFnSpins
import Derived.Test.YtfhgbfllljehhaaWT
import Derived.JoinedOf
set_option linter.unusedVariables false
set_option maxRecDepth 100000
namespace Go.Proofs.Ytfhgbfllljehhaa.spins
open Go.Am
theorem own:ownKnob Try.prog.godebug=none:=by kernel_rfl
theorem azD:laidOutB Try.prog=true:=by kernel_rfl
theorem maps:mapsRowed Try.prog=true:=by kernel_rfl
theorem full:afk Try.prog=true:=by kernel_rfl
theorem avM (x:aX (aF.aW wk)) (h:GG wk x):Ps.M (dG wk x)=some [(.one,[.bool true])]:=by have h1:=ax.vg Ps x;have h2:Ps.F x=some true:=(by exact rfl);exact h1.trans (by rw[h2];rfl)
theorem avn (os:Os) (aa1:os.Started) (H:Type) (enc:TypeId×Value->H):
    ReturnsInHanded {} Try.checked os 4 .any (Rows.fnSpinsSpec.pre6 enc Try.prog Try.f4 Rows.fnSpinsRow.domain false) (Rows.fnSpinsSpec.post enc Try.prog Try.f4 false true false false):=by
  refine returnsInHanded_of_change (C:=Try.checked) own aa1 (by kernel_rfl) Try.func4
    (ChangeSpec.witness6 (enc:=enc) (C:=Try.checked) false ⟨#[],#[.slice none 0 0],[]⟩ 8 (by kernel_rfl) (by kernel_rfl) (by kernel_rfl) (by kernel_rfl)) ?_
  intro W DZ args ds gs wU LU hW _ _;exact avh (P:=Try.prog) (fn:=Try.f4) (s:=Rows.fnSpinsSpec) (sg:=wk) (tb:=(Try.f4.resultTypes.toList.head?).getD 0) azD maps full (of_decide_eq_true (by kernel_rfl)) (by kernel_rfl) (by kernel_rfl) (by kernel_rfl) rfl
    (fun ds hl=>by
      match ds,hl with
      |[d0],_=>exact⟨rfl,rfl,rfl⟩) aym.1 avM LU hW
theorem holds:Rows.FnSpinsSaid:= OpenClaim.holds_of_wide 4 Try.f4 rfl rfl rfl rfl rfl rfl rfl ⟨rfl,rfl,rfl,rfl,rfl⟩ rfl rfl rfl rfl rfl (by kernel_rfl) Try.func4 (by kernel_rfl) (of_decide_eq_true (by kernel_rfl)) (by unfold Func.isWrapper;first|(rw[ah (by decide+kernel)];kernel_rfl)|(rw[ak (by decide+kernel)];exact⟨rfl,rfl⟩)) (fun os aa1 H enc _=>avn os aa1 H enc)
end Go.Proofs.Ytfhgbfllljehhaa.spins
