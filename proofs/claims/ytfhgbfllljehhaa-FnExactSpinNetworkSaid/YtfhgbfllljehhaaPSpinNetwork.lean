/- The law FnExactSpinNetwork returns true for every argument, and leaves it as it was. No condition. -/
import Derived.Test.YtfhgbfllljehhaaASpinNetwork
import Derived.Test.YtfhgbfllljehhaaWT
import Derived.JoinedOf
set_option linter.unusedVariables false
set_option maxRecDepth 100000
namespace Go.Proofs.Ytfhgbfllljehhaa.exactSpinNetwork
open Go.Am
theorem own:ownKnob Try.prog.godebug=none:=by kernel_rfl
theorem aq1:laidOutB Try.prog=true:=by kernel_rfl
theorem maps:mapsRowed Try.prog=true:=by kernel_rfl
theorem full:Yg Try.prog=true:=by kernel_rfl
theorem anH (x:aZ (aH.aY jS)) (h:Ct jS x):Kq.M (dV jS x)=some [(.one,[.bool true])]:=by have h1:=aw.ul Kq x;have h2:Kq.F x=some true:=(by obtain⟨a0,a1,a2,a3⟩:=x;have hw:(Jc a1&&UI a3)=true:=(by rw[asU a1 h.2.1,asV a3 h.2.2.2];rfl);exact ak hw);exact h1.trans (by rw[h2];rfl)
theorem anp (os:Os) (Ue:os.Started) (H:Type) (enc:TypeId×Value->H):
    ReturnsInHanded {} Try.checked os 3 .any (Rows.fnExactSpinNetworkSpec.pre6 enc Try.prog Try.f3 Rows.fnExactSpinNetworkRow.domain false) (Rows.fnExactSpinNetworkSpec.post enc Try.prog Try.f3 false true false false):=by
  refine returnsInHanded_of_change (C:=Try.checked) own Ue (by kernel_rfl) Try.func3
    (ChangeSpec.witness6 (enc:=enc) (C:=Try.checked) false ⟨#[],#[.agg #[.int .i64 0,.int .i64 0,.int .i64 0],.agg #[.int .i64 0,.slice none 0 0],.int .i64 0,.slice none 0 0],[]⟩ 8 (by kernel_rfl) (by kernel_rfl) (by kernel_rfl) (by kernel_rfl)) ?_
  intro W zT args ds gs tf GW hW _ _;exact anm (P:=Try.prog) (fn:=Try.f3) (s:=Rows.fnExactSpinNetworkSpec) (sg:=jS) (tb:=(Try.f3.resultTypes.toList.head?).getD 0) aq1 maps full (of_decide_eq_true (by kernel_rfl)) (by kernel_rfl) (by kernel_rfl) (by kernel_rfl) rfl
    (fun ds hl=>by
      match ds,hl with
      |[d0,d1,d2,d3],_=>exact⟨rfl,rfl,rfl⟩) apE.1 anH GW hW
theorem holds:Rows.FnExactSpinNetworkSaid:= OpenClaim.holds_of_wide 3 Try.f3 rfl rfl rfl rfl rfl rfl rfl ⟨rfl,rfl,rfl,rfl,rfl⟩ rfl rfl rfl rfl rfl (by kernel_rfl) Try.func3 (by kernel_rfl) (of_decide_eq_true (by kernel_rfl)) (by unfold Func.isWrapper;first|(rw[ak (by decide+kernel)];kernel_rfl)|(rw[aq (by decide+kernel)];exact⟨rfl,rfl⟩)) (fun os Ue H enc _=>anp os Ue H enc)
end Go.Proofs.Ytfhgbfllljehhaa.exactSpinNetwork
