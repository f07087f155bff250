/- MT: sizes, copies, comparisons and marks of the laws' types. No condition. -/
import Derived.Test.YtifmggmhdcdgbaaB2
set_option linter.unusedVariables false
set_option linter.unusedSimpArgs false
set_option synthInstance.maxSize 1000
set_option synthInstance.maxHeartbeats 400000
namespace Go.Am
def Sb (l:List Int):Nat:=l.length
def Bv (x:Int×Int×(List Int)):Nat:=match x with|(a0,a1,a2)=>Sb a2
def yM (l:List (Int×Int×(List Int))):Nat:=l.length+(l.map Bv).sum
def p9 (x:Int×Int×(List Int)×(List (Int×Int×(List Int)))×(List Int)):Nat:=match x with|(a0,a1,a2,a3,a4)=>Sb a2+yM a3+Sb a4
theorem akR {l:List (Int×Int×(List Int))} (h:yM l<=1048576):l.length<=1048576/\∀e∈l,Bv e<=1048576:=by
 unfold yM at h
 refine⟨by omega,fun e he=>?_⟩
 have:=Xm (List.mem_map_of_mem (f:=Bv) he)
 omega
end Go.Am
