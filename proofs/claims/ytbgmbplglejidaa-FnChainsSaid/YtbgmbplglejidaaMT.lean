/- MT: sizes, copies, comparisons and marks of the laws' types. No condition. -/
import Derived.Test.YtbgmbplglejidaaB2
set_option linter.unusedVariables false
set_option linter.unusedSimpArgs false
set_option synthInstance.maxSize 1000
set_option synthInstance.maxHeartbeats 400000
namespace Go.Am
def U6 (l:List Int):Nat:=l.length
def Ks (x:Int×Int×(List Int)):Nat:=match x with|(a0,a1,a2)=>U6 a2
def vb (x:Int×Int×Int×(List Int)):Nat:=match x with|(a0,a1,a2,a3)=>U6 a3
def qO (l:List (Int×Int×Int×(List Int))):Nat:=l.length+(l.map vb).sum
def xf (x:Int×(List (Int×Int×Int×(List Int)))):Nat:=match x with|(a0,a1)=>qO a1
theorem ao8 {l:List (Int×Int×Int×(List Int))} (h:qO l<=1048576):l.length<=1048576/\∀e∈l,vb e<=1048576:=by
 unfold qO at h
 refine⟨by omega,fun e he=>?_⟩
 have:=ZY (List.mem_map_of_mem (f:=vb) he)
 omega
end Go.Am
