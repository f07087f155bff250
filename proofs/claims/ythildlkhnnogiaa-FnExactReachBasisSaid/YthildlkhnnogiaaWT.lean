/- WT: what the form lets by is of bounded length. No condition. -/
import Derived.Test.YthildlkhnnogiaaMT
import Derived.Test.YthildlkhnnogiaaBr1
set_option linter.unusedVariables false
namespace Go.Am
theorem UP (l:List Int) (h:Ty.km [.list [.int .i64]] l):yr l=true:=by
 have h1:l.length<=maxLen:=h.1
 exact decide_eq_true (by unfold maxLen at h1;omega)
theorem amO (x:Int×Int×(List Int)) (h:Ty.km [.int .i64,.int .i64,.list [.int .i64]] x):La x=true:=by
 obtain⟨a0,a1,a2⟩:=x
 show(yr a2)=true
 rw[UP a2 h.2.2]
theorem amP (l:List (Int×Int×(List Int))) (h:Ty.km [.list [.int .i64,.int .i64,.list [.int .i64]]] l):Dh l=true:=by
 have h1:l.length<=maxLen:=h.1
 unfold Dh
 rw[Bool.and_eq_true,decide_eq_true_eq,List.all_eq_true]
 exact⟨by unfold maxLen at h1;omega,fun e he=>amO e (h.2 e he)⟩
theorem amN (x:Int×Int×(List Int)×(List (Int×Int×(List Int)))×(List Int)) (h:Ty.km [.int .i64,.int .i64,.list [.int .i64],.list [.int .i64,.int .i64,.list [.int .i64]],.list [.int .i64]] x):K9 x=true:=by
 obtain⟨a0,a1,a2,a3,a4⟩:=x
 show(yr a2&&Dh a3&&yr a4)=true
 rw[UP a2 h.2.2.1,amP a3 h.2.2.2.1,UP a4 h.2.2.2.2]
 rfl
end Go.Am
