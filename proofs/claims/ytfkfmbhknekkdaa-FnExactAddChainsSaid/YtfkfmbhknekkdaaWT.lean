/- WT: what the form lets by is of bounded length. No condition. -/
import Derived.Test.YtfkfmbhknekkdaaMT
import Derived.Test.YtfkfmbhknekkdaaBr1
set_option linter.unusedVariables false
namespace Go.Am
theorem als (l:List Int) (h:Ty.jv [.list [.int .i64]] l):HL l=true:=by
 have h1:l.length<=maxLen:=h.1
 exact decide_eq_true (by unfold maxLen at h1;omega)
theorem alt (x:Int×Int×Int×(List Int)) (h:Ty.jv [.int .i64,.int .i64,.int .i64,.list [.int .i64]] x):HM x=true:=by
 obtain⟨a0,a1,a2,a3⟩:=x
 show(HL a3)=true
 rw[als a3 h.2.2.2]
theorem alu (l:List (Int×Int×Int×(List Int))) (h:Ty.jv [.list [.int .i64,.int .i64,.int .i64,.list [.int .i64]]] l):Ar l=true:=by
 have h1:l.length<=maxLen:=h.1
 unfold Ar
 rw[Bool.and_eq_true,decide_eq_true_eq,List.all_eq_true]
 exact⟨by unfold maxLen at h1;omega,fun e he=>alt e (h.2 e he)⟩
theorem Zz (x:Int×(List (Int×Int×Int×(List Int)))) (h:Ty.jv [.int .i64,.list [.int .i64,.int .i64,.int .i64,.list [.int .i64]]] x):xx x=true:=by
 obtain⟨a0,a1⟩:=x
 show(Ar a1)=true
 rw[alu a1 h.2]
end Go.Am
