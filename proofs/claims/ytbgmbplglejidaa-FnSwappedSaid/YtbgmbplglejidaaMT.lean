/- MT: sizes, copies, comparisons and marks of the laws' types. No condition. -/
import Derived.Test.YtbgmbplglejidaaB2
set_option linter.unusedVariables false
set_option linter.unusedSimpArgs false
set_option synthInstance.maxSize 1000
set_option synthInstance.maxHeartbeats 400000
namespace Go.Am
def aeq (l:List Int):Nat:=l.length
def xY (x:Int×Int×(List Int)):Nat:=match x with|(a0,a1,a2)=>aeq a2
def rE (x:Int×Int×Int×(List Int)):Nat:=match x with|(a0,a1,a2,a3)=>aeq a3
def vO (l:List (Int×Int×Int×(List Int))):Nat:=l.length+(l.map rE).sum
def ug (x:Int×(List (Int×Int×Int×(List Int)))):Nat:=match x with|(a0,a1)=>vO a1
theorem asD {l:List (Int×Int×Int×(List Int))} (h:vO l<=1048576):l.length<=1048576/\∀e∈l,rE e<=1048576:=by
 unfold vO at h
 refine⟨by omega,fun e he=>?_⟩
 have:=abA (List.mem_map_of_mem (f:=rE) he)
 omega
end Go.Am
