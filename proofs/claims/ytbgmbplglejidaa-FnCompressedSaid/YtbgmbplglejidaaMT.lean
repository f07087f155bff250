/- MT: sizes, copies, comparisons and marks of the laws' types. No condition. -/
import Derived.Test.YtbgmbplglejidaaB2
set_option linter.unusedVariables false
set_option linter.unusedSimpArgs false
set_option synthInstance.maxSize 1000
set_option synthInstance.maxHeartbeats 400000
namespace Go.Am
def VQ (l:List Int):Nat:=l.length
def ads (x:Int×Int×(List Int)):Nat:=match x with|(a0,a1,a2)=>VQ a2
def vq (x:Int×Int×Int×(List Int)):Nat:=match x with|(a0,a1,a2,a3)=>VQ a3
def rB (l:List (Int×Int×Int×(List Int))):Nat:=l.length+(l.map vq).sum
def vp (x:Int×(List (Int×Int×Int×(List Int)))):Nat:=match x with|(a0,a1)=>rB a1
theorem apz {l:List (Int×Int×Int×(List Int))} (h:rB l<=1048576):l.length<=1048576/\∀e∈l,vq e<=1048576:=by
 unfold rB at h
 refine⟨by omega,fun e he=>?_⟩
 have:=aaE (List.mem_map_of_mem (f:=vq) he)
 omega
end Go.Am
