/- MT: sizes, copies, comparisons and marks of the laws' types. No condition. -/
import Derived.Test.YtifmggmhdcdgbaaB2
set_option linter.unusedVariables false
set_option linter.unusedSimpArgs false
set_option synthInstance.maxSize 1000
set_option synthInstance.maxHeartbeats 400000
namespace Go.Am
def US (l:List Int):Nat:=l.length
def zy (x:Int×Int×(List Int)):Nat:=match x with|(a0,a1,a2)=>US a2
def zz (l:List (Int×Int×(List Int))):Nat:=l.length+(l.map zy).sum
def vn (x:Int×Int×(List Int)×(List (Int×Int×(List Int)))×(List Int)):Nat:=match x with|(a0,a1,a2,a3,a4)=>US a2+zz a3+US a4
theorem aop {l:List (Int×Int×(List Int))} (h:zz l<=1048576):l.length<=1048576/\∀e∈l,zy e<=1048576:=by
 unfold zz at h
 refine⟨by omega,fun e he=>?_⟩
 have:=ZS (List.mem_map_of_mem (f:=zy) he)
 omega
end Go.Am
