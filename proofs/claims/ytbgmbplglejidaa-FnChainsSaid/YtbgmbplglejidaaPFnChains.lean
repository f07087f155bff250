/- The law FnChains returns true for every argument, and leaves it as it was. No condition. -/
import Derived.Test.YtbgmbplglejidaaAFnChains
import Derived.Test.YtbgmbplglejidaaWT
import Derived.JoinedOf
set_option linter.unusedVariables false
set_option maxRecDepth 100000
namespace Go.Proofs.Ytbgmbplglejidaa.chains
open Go.Am
theorem own:ownKnob Try.prog.godebug=none:=by kernel_rfl
theorem anJ:laidOutB Try.prog=true:=by kernel_rfl
theorem maps:mapsRowed Try.prog=true:=by kernel_rfl
theorem full:Yh Try.prog=true:=by kernel_rfl
theorem ajx (x:aQ (ak.aP vu)) (h:Aa vu x):Ir.M (c9 vu x)=some [(.one,[.bool true])]:=by
  have h1:=ar.xB Ir x
  have h2:Ir.F x=some true:=by
    exact rfl
  exact h1.trans (by rw[h2];rfl)
theorem ajo (os:Os) (UZ:os.Started) (H:Type) (enc:TypeId×Value->H):
    ReturnsInHanded {} Try.checked os 4 .any (Rows.fnChainsSpec.pre6 enc Try.prog Try.f4 Rows.fnChainsRow.domain false) (Rows.fnChainsSpec.post enc Try.prog Try.f4 false true false false):=by
  refine returnsInHanded_of_change (C:=Try.checked) own UZ (by kernel_rfl) Try.func4
    (ChangeSpec.witness6 (enc:=enc) (C:=Try.checked) false ⟨#[],#[.slice none 0 0],[]⟩ 8 (by kernel_rfl) (by kernel_rfl) (by kernel_rfl) (by kernel_rfl)) ?_
  intro W Ae args ds gs qZ uv hW _ _
  exact ajl (P:=Try.prog) (fn:=Try.f4) (s:=Rows.fnChainsSpec) (sg:=vu) (tb:=(Try.f4.resultTypes.toList.head?).getD 0) anJ maps full (of_decide_eq_true (by kernel_rfl)) (by kernel_rfl) (by kernel_rfl) (by kernel_rfl) rfl
    (fun ds hl=>by
      match ds,hl with
      |[d0],_=>exact⟨rfl,rfl,rfl⟩) amA.1 ajx uv hW
theorem holds:Rows.FnChainsSaid:=
  OpenClaim.holds_of_wide 4 Try.f4 rfl rfl rfl rfl rfl rfl rfl ⟨rfl,rfl,rfl,rfl,rfl⟩ rfl rfl rfl rfl rfl (by kernel_rfl) Try.func4 (by kernel_rfl)
    (of_decide_eq_true (by kernel_rfl)) (by unfold Func.isWrapper;first|(rw[if_pos (by decide+kernel)];kernel_rfl)|(rw[if_neg (by decide+kernel)];exact⟨rfl,rfl⟩))
    (fun os UZ H enc _=>ajo os UZ H enc)
end Go.Proofs.Ytbgmbplglejidaa.chains
