/- The law FnExactBlocksOf returns true for every argument, and leaves it as it was. No condition. -/
import Derived.Test.YthildlkhnnogiaaABlocksOf
import Derived.Test.YthildlkhnnogiaaWT
import Derived.JoinedOf
set_option linter.unusedVariables false
set_option maxRecDepth 100000
namespace Go.Proofs.Ythildlkhnnogiaa.exactBlocksOf
open Go.Am
theorem own:ownKnob Try.prog.godebug=none:=by kernel_rfl
theorem asw:laidOutB Try.prog=true:=by kernel_rfl
theorem maps:mapsRowed Try.prog=true:=by kernel_rfl
theorem full:ZB Try.prog=true:=by kernel_rfl
theorem anW (x:ba (ak.aZ xD)) (h:Ch xD x):Ks.M (dE xD x)=some [(.one,[.bool true])]:=by
  have h1:=au.t5 Ks x;have h2:Ks.F x=some true:=by
    obtain⟨a0,a1,a2⟩:=x;have hw:(H9 a1&&H8 a2)=true:=by rw[aub a1 h.2.1,at9 a2 h.2.2];rfl
    exact if_pos hw
  exact h1.trans (by rw[h2];rfl)
theorem anG (os:Os) (VA:os.Started) (H:Type) (enc:TypeId×Value->H):
    ReturnsInHanded {} Try.checked os 6 .any (Rows.fnExactBlocksOfSpec.pre6 enc Try.prog Try.f6 Rows.fnExactBlocksOfRow.domain false) (Rows.fnExactBlocksOfSpec.post enc Try.prog Try.f6 false true false false):=by
  refine returnsInHanded_of_change (C:=Try.checked) own VA (by kernel_rfl) Try.func6
    (ChangeSpec.witness6 (enc:=enc) (C:=Try.checked) false ⟨#[],#[.agg #[.int .i64 0,.int .i64 0,.int .i64 0],.agg #[.slice none 0 0,.slice none 0 0,.slice none 0 0],.agg #[.int .i64 0,.slice none 0 0]],[]⟩ 8 (by kernel_rfl) (by kernel_rfl) (by kernel_rfl) (by kernel_rfl)) ?_
  intro W base args ds gs sT Av hW _ _;exact anD (P:=Try.prog) (fn:=Try.f6) (s:=Rows.fnExactBlocksOfSpec) (sg:=xD) (tb:=(Try.f6.resultTypes.toList.head?).getD 0) asw maps full (of_decide_eq_true (by kernel_rfl)) (by kernel_rfl) (by kernel_rfl) (by kernel_rfl) rfl
    (fun ds hl=>by
      match ds,hl with
      |[d0,d1,d2],_=>exact⟨rfl,rfl,rfl⟩) aq4.1 anW Av hW
theorem holds:Rows.FnExactBlocksOfSaid:=
  OpenClaim.holds_of_wide 6 Try.f6 rfl rfl rfl rfl rfl rfl rfl ⟨rfl,rfl,rfl,rfl,rfl⟩ rfl rfl rfl rfl rfl (by kernel_rfl) Try.func6 (by kernel_rfl)
    (of_decide_eq_true (by kernel_rfl)) (by unfold Func.isWrapper;first|(rw[if_pos (by decide+kernel)];kernel_rfl)|(rw[if_neg (by decide+kernel)];exact⟨rfl,rfl⟩))
    (fun os VA H enc _=>anG os VA H enc)
end Go.Proofs.Ythildlkhnnogiaa.exactBlocksOf
