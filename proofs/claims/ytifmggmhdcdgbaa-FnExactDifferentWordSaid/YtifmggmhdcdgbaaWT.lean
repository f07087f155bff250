/- WT: what the form lets by is of bounded length. No condition. -/
import Derived.Test.YtifmggmhdcdgbaaMT
import Derived.Test.YtifmggmhdcdgbaaBr1
set_option linter.unusedVariables false
namespace Go.Am
theorem UG (l:List Int) (h:Ty.j0 [.list [.int .i64]] l):wZ l=true:=by
 have h1:l.length<=maxLen:=h.1
 exact decide_eq_true (by unfold maxLen at h1;omega)
theorem aoq (x:Int×Int×(List Int)) (h:Ty.j0 [.int .i64,.int .i64,.list [.int .i64]] x):KL x=true:=by
 obtain⟨a0,a1,a2⟩:=x
 show(wZ a2)=true
 rw[UG a2 h.2.2]
theorem aor (l:List (Int×Int×(List Int))) (h:Ty.j0 [.list [.int .i64,.int .i64,.list [.int .i64]]] l):B9 l=true:=by
 have h1:l.length<=maxLen:=h.1
 unfold B9
 rw[Bool.and_eq_true,decide_eq_true_eq,List.all_eq_true]
 exact⟨by unfold maxLen at h1;omega,fun e he=>aoq e (h.2 e he)⟩
theorem ab3 (x:Int×Int×(List Int)×(List (Int×Int×(List Int)))×(List Int)) (h:Ty.j0 [.int .i64,.int .i64,.list [.int .i64],.list [.int .i64,.int .i64,.list [.int .i64]],.list [.int .i64]] x):zd x=true:=by
 obtain⟨a0,a1,a2,a3,a4⟩:=x
 show(wZ a2&&B9 a3&&wZ a4)=true
 rw[UG a2 h.2.2.1,aor a3 h.2.2.2.1,UG a4 h.2.2.2.2]
 rfl
end Go.Am
