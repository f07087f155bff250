/- The law FnChainGates returns true for every argument, and leaves it as it was. No condition. -/
import Derived.Test.YtnndpobalfaalaaGreatAFnChainGates
import Derived.Test.YtnndpobalfaalaaGreatWT
import Derived.JoinedOf
set_option linter.unusedVariables false
set_option maxRecDepth 100000
namespace Go.Proofs.YtnndpobalfaalaaGreat.chainGates
open Go.Am
theorem own:ownKnob Tryz.prog.godebug=none:=by kernel_rfl
theorem aBb:laidOutB Tryz.prog=true:=by kernel_rfl
theorem maps:mapsRowed Tryz.prog=true:=by kernel_rfl
theorem full:ae5 Tryz.prog=true:=by kernel_rfl
theorem av6 (x:bf (aq.be Aw)) (h:Fq Aw x):Ps.M (d8 Aw x)=some [(.one,[.bool true])]:=by
  have h1:=aE.Aq Ps x;have h2:Ps.F x=some true:=by
    exact rfl
  exact h1.trans (by rw[h2];rfl)
theorem avX (os:Os) (aaU:os.Started) (H:Type) (enc:TypeId×Value->H):
    ReturnsInHanded {} Tryz.checked os 3 .any (Rows.fnChainGatesSpec.pre6 enc Tryz.prog Tryz.f3 Rows.fnChainGatesRow.domain false) (Rows.fnChainGatesSpec.post enc Tryz.prog Tryz.f3 false true false false):=by
  refine returnsInHanded_of_change (C:=Tryz.checked) own aaU (by kernel_rfl) Tryz.func3
    (ChangeSpec.witness6 (enc:=enc) (C:=Tryz.checked) false ⟨#[],#[.slice none 0 0],[]⟩ 8 (by kernel_rfl) (by kernel_rfl) (by kernel_rfl) (by kernel_rfl)) ?_
  intro W Fv args ds gs vF Bl hW _ _;exact avU (P:=Tryz.prog) (fn:=Tryz.f3) (s:=Rows.fnChainGatesSpec) (sg:=Aw) (tb:=(Tryz.f3.resultTypes.toList.head?).getD 0) aBb maps full (of_decide_eq_true (by kernel_rfl)) (by kernel_rfl) (by kernel_rfl) (by kernel_rfl) rfl
    (fun ds hl=>by
      match ds,hl with
      |[d0],_=>exact⟨rfl,rfl,rfl⟩) azX.1 av6 Bl hW
theorem holds:Rows.FnChainGatesSaid:=
  OpenClaim.holds_of_wide 3 Tryz.f3 rfl rfl rfl rfl rfl rfl rfl ⟨rfl,rfl,rfl,rfl,rfl⟩ rfl rfl rfl rfl rfl (by kernel_rfl) Tryz.func3 (by kernel_rfl)
    (of_decide_eq_true (by kernel_rfl)) (by unfold Func.isWrapper;first|(rw[if_pos (by decide+kernel)];kernel_rfl)|(rw[if_neg (by decide+kernel)];exact⟨rfl,rfl⟩))
    (fun os aaU H enc _=>avX os aaU H enc)
end Go.Proofs.YtnndpobalfaalaaGreat.chainGates
