/- The law FnExactJoinBlocks returns true for every argument, and leaves it as it was. No condition. -/
import Derived.Test.YthildlkhnnogiaaAJoinBlocks
import Derived.Test.YthildlkhnnogiaaWTB
import Derived.JoinedOf
set_option linter.unusedVariables false
set_option maxRecDepth 100000
namespace Go.Proofs.Ythildlkhnnogiaa.exactJoinBlocks
open Go.Am
theorem own:ownKnob Try.prog.godebug=none:=by kernel_rfl
theorem asE:laidOutB Try.prog=true:=by kernel_rfl
theorem maps:mapsRowed Try.prog=true:=by kernel_rfl
theorem full:Z6 Try.prog=true:=by kernel_rfl
theorem aoc (x:aY (ak.aX yl)) (h:CV yl x):K5.M (dB yl x)=some [(.one,[.bool true])]:=by
  have h1:=au.uA K5 x;have h2:K5.F x=some true:=by
    obtain⟨a0,a1,a2,a3⟩:=x;have hw:(Fx a1&&IW a2&&Fv a3)=true:=by rw[aum a1 h.2.1,auk a2 h.2.2.1,auj a3 h.2.2.2];rfl
    exact if_pos hw
  exact h1.trans (by rw[h2];rfl)
theorem anW (os:Os) (V4:os.Started) (H:Type) (enc:TypeId×Value->H):
    ReturnsInHanded {} Try.checked os 7 .any (Rows.fnExactJoinBlocksSpec.pre6 enc Try.prog Try.f7 Rows.fnExactJoinBlocksRow.domain false) (Rows.fnExactJoinBlocksSpec.post enc Try.prog Try.f7 false true false false):=by
  refine returnsInHanded_of_change (C:=Try.checked) own V4 (by kernel_rfl) Try.func7
    (ChangeSpec.witness6 (enc:=enc) (C:=Try.checked) false ⟨#[],#[.agg #[.int .i64 0,.int .i64 0,.int .i64 0],.agg #[.slice none 0 0,.slice none 0 0,.slice none 0 0],.agg #[.int .i64 0,.slice none 0 0],.slice none 0 0],[]⟩ 8 (by kernel_rfl) (by kernel_rfl) (by kernel_rfl) (by kernel_rfl)) ?_
  intro W base args ds gs tt Be hW _ _;exact anT (P:=Try.prog) (fn:=Try.f7) (s:=Rows.fnExactJoinBlocksSpec) (sg:=yl) (tb:=(Try.f7.resultTypes.toList.head?).getD 0) asE maps full (of_decide_eq_true (by kernel_rfl)) (by kernel_rfl) (by kernel_rfl) (by kernel_rfl) rfl
    (fun ds hl=>by
      match ds,hl with
      |[d0,d1,d2,d3],_=>exact⟨rfl,rfl,rfl⟩) arh.1 aoc Be hW
theorem holds:Rows.FnExactJoinBlocksSaid:=
  OpenClaim.holds_of_wide 7 Try.f7 rfl rfl rfl rfl rfl rfl rfl ⟨rfl,rfl,rfl,rfl,rfl⟩ rfl rfl rfl rfl rfl (by kernel_rfl) Try.func7 (by kernel_rfl)
    (of_decide_eq_true (by kernel_rfl)) (by unfold Func.isWrapper;first|(rw[if_pos (by decide+kernel)];kernel_rfl)|(rw[if_neg (by decide+kernel)];exact⟨rfl,rfl⟩))
    (fun os V4 H enc _=>anW os V4 H enc)
end Go.Proofs.Ythildlkhnnogiaa.exactJoinBlocks
