/- WT: what the form lets by is of bounded length. No condition. -/
import Derived.Test.YtifmggmhdcdgbaaMT
import Derived.Test.YtifmggmhdcdgbaaBr1
set_option linter.unusedVariables false
namespace Go.Am
theorem Tu (l:List Int) (h:Ty.kM [.list [.int .i64]] l):wN l=true:=by
 have h1:l.length<=maxLen:=h.1
 exact decide_eq_true (by unfold maxLen at h1;omega)
theorem alg (x:Int×Int×(List Int)) (h:Ty.kM [.int .i64,.int .i64,.list [.int .i64]] x):JA x=true:=by
 obtain⟨a0,a1,a2⟩:=x
 show(wN a2)=true
 rw[Tu a2 h.2.2]
theorem alh (l:List (Int×Int×(List Int))) (h:Ty.kM [.list [.int .i64,.int .i64,.list [.int .i64]]] l):BL l=true:=by
 have h1:l.length<=maxLen:=h.1
 unfold BL
 rw[Bool.and_eq_true,decide_eq_true_eq,List.all_eq_true]
 exact⟨by unfold maxLen at h1;omega,fun e he=>alg e (h.2 e he)⟩
theorem alf (x:Int×Int×(List Int)×(List (Int×Int×(List Int)))×(List Int)) (h:Ty.kM [.int .i64,.int .i64,.list [.int .i64],.list [.int .i64,.int .i64,.list [.int .i64]],.list [.int .i64]] x):Jz x=true:=by
 obtain⟨a0,a1,a2,a3,a4⟩:=x
 show(wN a2&&BL a3&&wN a4)=true
 rw[Tu a2 h.2.2.1,alh a3 h.2.2.2.1,Tu a4 h.2.2.2.2]
 rfl
end Go.Am
