/- A_ContractEdge: the code of the functions of FnExactContractEdge. No condition. -/
import Derived.Test.YtghahachgjeaeaaLContractEdge
import Derived.Test.YtghahachgjeaeaaBr2
import Derived.KernelRfl
import Derived.Test.YtghahachgjeaeaaRows
set_option linter.unusedVariables false
set_option maxRecDepth 100000
namespace Go.Am
theorem follows_ok : Go.Proofs.Try.prog.follows .mixedOrders = true := by decide +kernel
def fn_laws_szEdgeS : SFn := ⟨35, ag_laws_szEdgeS, mu_laws_szEdgeS, rs_laws_szEdgeS, F_laws_szEdgeS⟩
def sc_laws_szEdgeS : SCode :=
 (.seq
 (.reg false [
 ⟨(some 4), .mv (.k (.one (.v (.int .i64) ((0 : Int))))), none⟩])
 (.seq
 (.reg false [
 ⟨(some 5), .mv (.t 1), none⟩,
 ⟨(some 6), .mv (.t 0), none⟩,
 ⟨(some 7), .len (.t 6), none⟩,
 ⟨(some 8), .bin .sub (.t 5) (.t 7), none⟩,
 ⟨(some 1), .mv (.t 8), none⟩])
 (.seq
 (.seq
 (.reg false [
 ⟨(some 9), .mv (.t 1), none⟩,
 ⟨(some 10), .bin .lss (.t 9) (.k (.one (.v (.int .i64) ((0 : Int))))), none⟩])
 (.cond (.t 10)
 (.seq
 (.reg false [
 ⟨(some 4), .mv (.k (.one (.v (.int .i64) (((-1) : Int))))), none⟩])
 .ret)
 .skip))
 (.seq
 (.reg false [
 ⟨(some 11), .mv (.t 1), none⟩,
 ⟨(some 4), .mv (.t 11), none⟩])
 .ret))))
def ms_laws_szEdgeS : List MRes := [.tmp 4]
theorem n_laws_szEdgeS (NN : Nat) (x : DLL (Sig.tys ag_laws_szEdgeS)) : runS NN [] sc_laws_szEdgeS ms_laws_szEdgeS ag_laws_szEdgeS rs_laws_szEdgeS x = G_laws_szEdgeS NN x := by kernel_rfl
theorem k_laws_szEdgeS : chkS Go.Proofs.Try.prog 35 sc_laws_szEdgeS.er ms_laws_szEdgeS 2 = true := by decide +kernel
theorem p_laws_szEdgeS : PureSpec Go.Proofs.Try.prog 35 fn_laws_szEdgeS.M ∧ chkFun Go.Proofs.Try.prog 35 = true :=
  pure_of_runS (T := []) (sc := sc_laws_szEdgeS) (ms := ms_laws_szEdgeS) (args := ag_laws_szEdgeS) (res := rs_laws_szEdgeS) (SOk.nil) follows_ok k_laws_szEdgeS F_laws_szEdgeS fun x y h => (n_laws_szEdgeS FUEL x).trans (f_laws_szEdgeS x y h)

def fn_laws_szGraph : SFn := ⟨11, ag_laws_szGraph, mu_laws_szGraph, rs_laws_szGraph, F_laws_szGraph⟩
def sc_laws_szGraph : SCode :=
 (.seq
 (.reg false [
 ⟨(some 2), .box 2 (.t 0), none⟩,
 ⟨(some 4), .mv (.k (.one (.v (.int .i64) ((0 : Int))))), none⟩])
 (.seq
 (.reg false [
 ⟨(some 5), .fieldA 1 (.t 2), none⟩,
 ⟨(some 6), .load false 1 (.t 5), none⟩,
 ⟨(some 7), .mv (.t 1), none⟩,
 ⟨(some 8), .call .froz 35 [(.t 6), (.t 7)], none⟩,
 ⟨(some 1), .mv (.t 8), none⟩])
 (.seq
 (.seq
 (.reg false [
 ⟨(some 9), .mv (.t 1), none⟩,
 ⟨(some 10), .bin .lss (.t 9) (.k (.one (.v (.int .i64) ((0 : Int))))), none⟩])
 (.cond (.t 10)
 (.seq
 (.reg false [
 ⟨(some 4), .mv (.k (.one (.v (.int .i64) (((-1) : Int))))), none⟩])
 .ret)
 .skip))
 (.seq
 (.reg false [
 ⟨(some 11), .mv (.t 1), none⟩,
 ⟨(some 4), .mv (.t 11), none⟩])
 .ret))))
def ms_laws_szGraph : List MRes := [.tmp 4]
theorem n_laws_szGraph (NN : Nat) (x : DLL (Sig.tys ag_laws_szGraph)) : runS NN [fn_laws_szEdgeS] sc_laws_szGraph ms_laws_szGraph ag_laws_szGraph rs_laws_szGraph x = G_laws_szGraph NN x := by kernel_rfl
theorem k_laws_szGraph : chkS Go.Proofs.Try.prog 11 sc_laws_szGraph.er ms_laws_szGraph 2 = true := by decide +kernel
theorem p_laws_szGraph : PureSpec Go.Proofs.Try.prog 11 fn_laws_szGraph.M ∧ chkFun Go.Proofs.Try.prog 11 = true :=
  pure_of_runS (T := [fn_laws_szEdgeS]) (sc := sc_laws_szGraph) (ms := ms_laws_szGraph) (args := ag_laws_szGraph) (res := rs_laws_szGraph) (SOk.cons p_laws_szEdgeS <| SOk.nil) follows_ok k_laws_szGraph F_laws_szGraph fun x y h => (n_laws_szGraph FUEL x).trans (f_laws_szGraph x y h)

def fn_laws_toEdge : SFn := ⟨57, ag_laws_toEdge, mu_laws_toEdge, rs_laws_toEdge, F_laws_toEdge⟩
def sc_laws_toEdge : SCode :=
 (.seq
 (.reg false [
 ⟨(some 1), .box 2 (.t 0), none⟩,
 ⟨(some 2), .alloc [.v (.int .i64) ((0 : Int)), .v (.int .i64) ((0 : Int))], none⟩])
 (.seq
 (.reg false [
 ⟨(some 3), .alloc [.v (.int .i64) ((0 : Int)), .v (.int .i64) ((0 : Int))], none⟩])
 (.seq
 (.reg false [
 ⟨(some 4), .fieldA 0 (.t 1), none⟩,
 ⟨(some 5), .load false 1 (.t 4), none⟩,
 ⟨(some 6), .fieldA 0 (.t 3), none⟩,
 ⟨none, .store 1 (.t 6) (.t 5), none⟩])
 (.seq
 (.reg false [
 ⟨(some 7), .fieldA 1 (.t 1), none⟩,
 ⟨(some 8), .load false 1 (.t 7), none⟩,
 ⟨(some 9), .fieldA 1 (.t 3), none⟩,
 ⟨none, .store 1 (.t 9) (.t 8), none⟩])
 (.seq
 (.reg false [
 ⟨(some 10), .load true 2 (.t 3), none⟩,
 ⟨none, .store 2 (.t 2) (.t 10), none⟩])
 .ret)))))
def ms_laws_toEdge : List MRes := [.cell 2 2 true]
theorem n_laws_toEdge (NN : Nat) (x : DLL (Sig.tys ag_laws_toEdge)) : runS NN [] sc_laws_toEdge ms_laws_toEdge ag_laws_toEdge rs_laws_toEdge x = G_laws_toEdge NN x := by kernel_rfl
theorem k_laws_toEdge : chkS Go.Proofs.Try.prog 57 sc_laws_toEdge.er ms_laws_toEdge 1 = true := by decide +kernel
theorem p_laws_toEdge : PureSpec Go.Proofs.Try.prog 57 fn_laws_toEdge.M ∧ chkFun Go.Proofs.Try.prog 57 = true :=
  pure_of_runS (T := []) (sc := sc_laws_toEdge) (ms := ms_laws_toEdge) (args := ag_laws_toEdge) (res := rs_laws_toEdge) (SOk.nil) follows_ok k_laws_toEdge F_laws_toEdge fun x y h => (n_laws_toEdge FUEL x).trans (f_laws_toEdge x y h)

def fn_laws_toEdgeS : SFn := ⟨37, ag_laws_toEdgeS, mu_laws_toEdgeS, rs_laws_toEdgeS, F_laws_toEdgeS⟩
def sc_laws_toEdgeS : SCode :=
 (.seq
 (.reg false [
 ⟨(some 2), .mv (.k (.one (.nil [.int .i64, .int .i64]))), none⟩])
 (.seq
 (.reg false [
 ⟨(some 5), .mv (.t 0), none⟩,
 ⟨(some 6), .len (.t 5), none⟩,
 ⟨(some 7), .mkslice .froz [.int .i64, .int .i64] 16 ((0 : Int), (0 : Int)) (.t 6) (.t 6), none⟩,
 ⟨(some 3), .mv (.t 7), none⟩])
 (.seq
 (.seq
 (.reg false [
 ⟨(some 4), .mv (.k (.one (.v (.int .i64) ((0 : Int))))), none⟩])
 (.join ⟨[(3, .one (.c (.full 500001 2)))], [(500001, .row true .froz [.int .i64, .int .i64])]⟩ [500000, 500001] [(false, 3, 0, 500001, .froz, [])]
 (.block 0
 (.loop 0 ⟨[(0, .one (.c (.v (.list [.int .i64, .int .i64])))), (3, .one (.c (.full 500000 2))), (4, .one (.c (.v (.int .i64))))], [(500000, .row true .froz [.int .i64, .int .i64])]⟩ [7, 500000] [(false, 3, 0, 500000, .froz, [])]
 (.seq
 (.seq
 (.reg false [
 ⟨(some 8), .mv (.t 4), none⟩,
 ⟨(some 9), .mv (.t 0), none⟩,
 ⟨(some 10), .len (.t 9), none⟩,
 ⟨(some 11), .bin .lss (.t 8) (.t 10), none⟩])
 (.cond (.t 11)
 .skip
 (.exit 0)))
 (.seq
 (.block 1
 (.reg false [
 ⟨(some 14), .mv (.t 3), none⟩,
 ⟨(some 15), .mv (.t 4), none⟩,
 ⟨(some 16), .mv (.t 0), none⟩,
 ⟨(some 17), .mv (.t 4), none⟩,
 ⟨(some 18), .idxA 2 (.t 16) (.t 17), none⟩,
 ⟨(some 19), .load true 2 (.t 18), none⟩,
 ⟨(some 20), .call .froz 57 [(.t 19)], none⟩,
 ⟨(some 21), .idxA 2 (.t 14) (.t 15), none⟩,
 ⟨none, .store 2 (.t 21) (.t 20), none⟩]))
 (.reg false [
 ⟨(some 12), .mv (.t 4), none⟩,
 ⟨(some 13), .bin .add (.t 12) (.k (.one (.v (.int .i64) ((1 : Int))))), none⟩,
 ⟨(some 4), .mv (.t 13), none⟩])))))))
 (.seq
 (.reg false [
 ⟨(some 22), .mv (.t 3), none⟩,
 ⟨(some 2), .mv (.t 22), none⟩])
 .ret))))
def ms_laws_toEdgeS : List MRes := [.tmp 2]
theorem n_laws_toEdgeS (NN : Nat) (x : DLL (Sig.tys ag_laws_toEdgeS)) : runS NN [fn_laws_toEdge] sc_laws_toEdgeS ms_laws_toEdgeS ag_laws_toEdgeS rs_laws_toEdgeS x = G_laws_toEdgeS NN x := by kernel_rfl
theorem k_laws_toEdgeS : chkS Go.Proofs.Try.prog 37 sc_laws_toEdgeS.er ms_laws_toEdgeS 1 = true := by decide +kernel
theorem p_laws_toEdgeS : PureSpec Go.Proofs.Try.prog 37 fn_laws_toEdgeS.M ∧ chkFun Go.Proofs.Try.prog 37 = true :=
  pure_of_runS (T := [fn_laws_toEdge]) (sc := sc_laws_toEdgeS) (ms := ms_laws_toEdgeS) (args := ag_laws_toEdgeS) (res := rs_laws_toEdgeS) (SOk.cons p_laws_toEdge <| SOk.nil) follows_ok k_laws_toEdgeS F_laws_toEdgeS fun x y h => (n_laws_toEdgeS FUEL x).trans (f_laws_toEdgeS x y h)

def fn_laws_toGraph : SFn := ⟨13, ag_laws_toGraph, mu_laws_toGraph, rs_laws_toGraph, F_laws_toGraph⟩
def sc_laws_toGraph : SCode :=
 (.seq
 (.reg false [
 ⟨(some 1), .box 2 (.t 0), none⟩,
 ⟨(some 2), .alloc [.v (.int .i64) ((0 : Int)), .nil [.int .i64, .int .i64]], none⟩])
 (.seq
 (.reg false [
 ⟨(some 3), .alloc [.v (.int .i64) ((0 : Int)), .nil [.int .i64, .int .i64]], none⟩])
 (.seq
 (.reg false [
 ⟨(some 4), .fieldA 0 (.t 1), none⟩,
 ⟨(some 5), .load false 1 (.t 4), none⟩,
 ⟨(some 6), .fieldA 0 (.t 3), none⟩,
 ⟨none, .store 1 (.t 6) (.t 5), none⟩])
 (.seq
 (.reg false [
 ⟨(some 7), .fieldA 1 (.t 1), none⟩,
 ⟨(some 8), .load false 1 (.t 7), none⟩,
 ⟨(some 9), .call .froz 37 [(.t 8)], none⟩,
 ⟨(some 10), .fieldA 1 (.t 3), none⟩,
 ⟨none, .store 1 (.t 10) (.t 9), none⟩])
 (.seq
 (.reg false [
 ⟨(some 11), .load true 2 (.t 3), none⟩,
 ⟨none, .store 2 (.t 2) (.t 11), none⟩])
 .ret)))))
def ms_laws_toGraph : List MRes := [.cell 2 2 true]
theorem n_laws_toGraph (NN : Nat) (x : DLL (Sig.tys ag_laws_toGraph)) : runS NN [fn_laws_toEdgeS] sc_laws_toGraph ms_laws_toGraph ag_laws_toGraph rs_laws_toGraph x = G_laws_toGraph NN x := by kernel_rfl
theorem k_laws_toGraph : chkS Go.Proofs.Try.prog 13 sc_laws_toGraph.er ms_laws_toGraph 1 = true := by decide +kernel
theorem p_laws_toGraph : PureSpec Go.Proofs.Try.prog 13 fn_laws_toGraph.M ∧ chkFun Go.Proofs.Try.prog 13 = true :=
  pure_of_runS (T := [fn_laws_toEdgeS]) (sc := sc_laws_toGraph) (ms := ms_laws_toGraph) (args := ag_laws_toGraph) (res := rs_laws_toGraph) (SOk.cons p_laws_toEdgeS <| SOk.nil) follows_ok k_laws_toGraph F_laws_toGraph fun x y h => (n_laws_toGraph FUEL x).trans (f_laws_toGraph x y h)

def fn_spec_l01In : SFn := ⟨36, ag_spec_l01In, mu_spec_l01In, rs_spec_l01In, F_spec_l01In⟩
def sc_spec_l01In : SCode :=
 (.seq
 (.reg false [
 ⟨(some 6), .mv (.k (.one (.v (.bool) (false)))), none⟩])
 (.seq
 (.reg false [
 ⟨(some 7), .mv (.t 0), none⟩,
 ⟨(some 8), .mv (.t 1), none⟩,
 ⟨(some 9), .bin .geq (.t 7) (.t 8), none⟩,
 ⟨(some 10), .mv (.t 9), none⟩,
 ⟨(some 11), .mv (.t 0), (some (10, true))⟩,
 ⟨(some 12), .mv (.t 2), (some (10, true))⟩,
 ⟨(some 13), .bin .leq (.t 11) (.t 12), (some (10, true))⟩,
 ⟨(some 14), .pick (.t 10) (.t 13) (.k (.one (.v (.bool) (false)))), none⟩,
 ⟨(some 6), .mv (.t 14), none⟩])
 .ret))
def ms_spec_l01In : List MRes := [.tmp 6]
theorem n_spec_l01In (NN : Nat) (x : DLL (Sig.tys ag_spec_l01In)) : runS NN [] sc_spec_l01In ms_spec_l01In ag_spec_l01In rs_spec_l01In x = G_spec_l01In NN x := by kernel_rfl
theorem k_spec_l01In : chkS Go.Proofs.Try.prog 36 sc_spec_l01In.er ms_spec_l01In 3 = true := by decide +kernel
theorem p_spec_l01In : PureSpec Go.Proofs.Try.prog 36 fn_spec_l01In.M ∧ chkFun Go.Proofs.Try.prog 36 = true :=
  pure_of_runS (T := []) (sc := sc_spec_l01In) (ms := ms_spec_l01In) (args := ag_spec_l01In) (res := rs_spec_l01In) (SOk.nil) follows_ok k_spec_l01In F_spec_l01In fun x y h => (n_spec_l01In FUEL x).trans (f_spec_l01In x y h)

def fn_spec_GraphOk : SFn := ⟨12, ag_spec_GraphOk, mu_spec_GraphOk, rs_spec_GraphOk, F_spec_GraphOk⟩
def sc_spec_GraphOk : SCode :=
 (.seq
 (.reg false [
 ⟨(some 1), .box 2 (.t 0), none⟩,
 ⟨(some 2), .mv (.k (.one (.v (.bool) (false)))), none⟩])
 (.seq
 (.seq
 (.reg false [
 ⟨(some 5), .fieldA 0 (.t 1), none⟩,
 ⟨(some 6), .load false 1 (.t 5), none⟩,
 ⟨(some 7), .call .froz 36 [(.t 6), (.k (.one (.v (.int .i64) ((0 : Int))))), (.k (.one (.v (.int .i64) ((10 : Int)))))], none⟩,
 ⟨(some 8), .un .not (.t 7), none⟩,
 ⟨(some 9), .mv (.t 8), none⟩,
 ⟨(some 10), .fieldA 1 (.t 1), (some (9, false))⟩,
 ⟨(some 11), .load false 1 (.t 10), (some (9, false))⟩,
 ⟨(some 12), .len (.t 11), (some (9, false))⟩,
 ⟨(some 13), .bin .gtr (.t 12) (.k (.one (.v (.int .i64) ((10 : Int))))), (some (9, false))⟩,
 ⟨(some 14), .pick (.t 9) (.k (.one (.v (.bool) (true)))) (.t 13), none⟩])
 (.cond (.t 14)
 (.seq
 (.reg false [
 ⟨(some 2), .mv (.k (.one (.v (.bool) (false)))), none⟩])
 .ret)
 .skip))
 (.seq
 (.seq
 (.reg false [
 ⟨(some 15), .fieldA 1 (.t 1), none⟩,
 ⟨(some 16), .load false 1 (.t 15), none⟩,
 ⟨(some 17), .len (.t 16), none⟩,
 ⟨(some 18), .mv (.k (.one (.v (.int .i64) ((0 : Int))))), none⟩])
 (.join ⟨[], []⟩ [1] []
 (.block 0
 (.loop 0 ⟨[(1, .one (.c (.ptr0 1 0))), (16, .one (.c (.v (.list [.int .i64, .int .i64])))), (17, .one (.c (.v (.int .i64)))), (18, .one (.c (.v (.int .i64))))], [(1, .box [.c (.v (.int .i64)), .c (.v (.list [.int .i64, .int .i64]))])]⟩ [1, 4] []
 (.seq
 (.reg false [
 ⟨(some 19), .bin .lss (.t 18) (.t 17), none⟩])
 (.seq
 (.cond (.t 19)
 .skip
 (.exit 0))
 (.seq
 (.block 1
 (.seq
 (.reg false [
 ⟨(some 20), .idxA 2 (.t 16) (.t 18), none⟩,
 ⟨(some 21), .load true 2 (.t 20), none⟩,
 ⟨(some 4), .alloc [.v (.int .i64) ((0 : Int)), .v (.int .i64) ((0 : Int))], none⟩,
 ⟨none, .store 2 (.t 4) (.t 21), none⟩])
 (.seq
 (.reg false [
 ⟨(some 22), .fieldA 0 (.t 4), none⟩,
 ⟨(some 23), .load false 1 (.t 22), none⟩,
 ⟨(some 24), .fieldA 0 (.t 1), none⟩,
 ⟨(some 25), .load false 1 (.t 24), none⟩,
 ⟨(some 26), .bin .sub (.t 25) (.k (.one (.v (.int .i64) ((1 : Int))))), none⟩,
 ⟨(some 27), .call .froz 36 [(.t 23), (.k (.one (.v (.int .i64) ((0 : Int))))), (.t 26)], none⟩,
 ⟨(some 28), .un .not (.t 27), none⟩,
 ⟨(some 29), .mv (.t 28), none⟩,
 ⟨(some 30), .fieldA 1 (.t 4), (some (29, false))⟩,
 ⟨(some 31), .load false 1 (.t 30), (some (29, false))⟩,
 ⟨(some 32), .fieldA 0 (.t 1), (some (29, false))⟩,
 ⟨(some 33), .load false 1 (.t 32), (some (29, false))⟩,
 ⟨(some 34), .bin .sub (.t 33) (.k (.one (.v (.int .i64) ((1 : Int))))), (some (29, false))⟩,
 ⟨(some 35), .call .froz 36 [(.t 31), (.k (.one (.v (.int .i64) ((0 : Int))))), (.t 34)], (some (29, false))⟩,
 ⟨(some 36), .un .not (.t 35), (some (29, false))⟩,
 ⟨(some 37), .pick (.t 29) (.k (.one (.v (.bool) (true)))) (.t 36), none⟩])
 (.cond (.t 37)
 (.seq
 (.reg false [
 ⟨(some 2), .mv (.k (.one (.v (.bool) (false)))), none⟩])
 .ret)
 .skip))))
 (.reg false [
 ⟨(some 38), .bin .add (.t 18) (.k (.one (.v (.int .i64) ((1 : Int))))), none⟩,
 ⟨(some 18), .mv (.t 38), none⟩]))))))))
 (.seq
 (.reg false [
 ⟨(some 2), .mv (.k (.one (.v (.bool) (true)))), none⟩])
 .ret))))
def ms_spec_GraphOk : List MRes := [.tmp 2]
theorem n_spec_GraphOk (NN : Nat) (x : DLL (Sig.tys ag_spec_GraphOk)) : runS NN [fn_spec_l01In] sc_spec_GraphOk ms_spec_GraphOk ag_spec_GraphOk rs_spec_GraphOk x = G_spec_GraphOk NN x := by kernel_rfl
theorem k_spec_GraphOk : chkS Go.Proofs.Try.prog 12 sc_spec_GraphOk.er ms_spec_GraphOk 1 = true := by decide +kernel
theorem p_spec_GraphOk : PureSpec Go.Proofs.Try.prog 12 fn_spec_GraphOk.M ∧ chkFun Go.Proofs.Try.prog 12 = true :=
  pure_of_runS (T := [fn_spec_l01In]) (sc := sc_spec_GraphOk) (ms := ms_spec_GraphOk) (args := ag_spec_GraphOk) (res := rs_spec_GraphOk) (SOk.cons p_spec_l01In <| SOk.nil) follows_ok k_spec_GraphOk F_spec_GraphOk fun x y h => (n_spec_GraphOk FUEL x).trans (f_spec_GraphOk x y h)

def fn_spec_l36Delete : SFn := ⟨53, ag_spec_l36Delete, mu_spec_l36Delete, rs_spec_l36Delete, F_spec_l36Delete⟩
def sc_spec_l36Delete : SCode :=
 (.seq
 (.reg false [
 ⟨(some 2), .box 2 (.t 0), none⟩,
 ⟨(some 4), .alloc [.v (.int .i64) ((0 : Int)), .nil [.int .i64, .int .i64]], none⟩])
 (.seq
 (.reg false [
 ⟨(some 8), .fieldA 0 (.t 2), none⟩,
 ⟨(some 9), .load false 1 (.t 8), none⟩,
 ⟨(some 10), .build [.v (.int .i64) ((0 : Int)), .nil [.int .i64, .int .i64]] [(0, 1, (.t 9))], none⟩,
 ⟨(some 5), .alloc [.v (.int .i64) ((0 : Int)), .nil [.int .i64, .int .i64]], none⟩,
 ⟨none, .store 2 (.t 5) (.t 10), none⟩])
 (.seq
 (.seq
 (.reg false [
 ⟨(some 11), .fieldA 1 (.t 2), none⟩,
 ⟨(some 12), .load false 1 (.t 11), none⟩,
 ⟨(some 13), .len (.t 12), none⟩,
 ⟨(some 14), .mv (.k (.one (.v (.int .i64) ((0 : Int))))), none⟩])
 (.join ⟨[(5, .one (.c (.ptr0 5 0))), (4, .one (.c (.ptr0 4 0)))], [(4, .box [.c (.v (.int .i64)), .c (.full 500002 2)]), (5, .box [.c (.v (.int .i64)), .c (.full 500003 2)]), (500002, .row true .froz [.int .i64, .int .i64]), (500003, .row true .froz [.int .i64, .int .i64])]⟩ [4, 5, 500000, 500001, 500002, 500003] [(true, 4, 1, 500002, .froz, []), (true, 5, 1, 500003, .froz, [])]
 (.block 0
 (.loop 0 ⟨[(1, .one (.c (.v (.int .i64)))), (4, .one (.c (.ptr0 4 0))), (5, .one (.c (.ptr0 5 0))), (12, .one (.c (.v (.list [.int .i64, .int .i64])))), (13, .one (.c (.v (.int .i64)))), (14, .one (.c (.v (.int .i64))))], [(4, .box [.c (.v (.int .i64)), .c (.full 500000 2)]), (5, .box [.c (.v (.int .i64)), .c (.full 500001 2)]), (500000, .row true .froz [.int .i64, .int .i64]), (500001, .row true .froz [.int .i64, .int .i64])]⟩ [2, 4, 5, 7, 25, 26, 500000, 500001] [(true, 4, 1, 500000, .froz, []), (true, 5, 1, 500001, .froz, [])]
 (.seq
 (.reg false [
 ⟨(some 15), .bin .lss (.t 14) (.t 13), none⟩])
 (.seq
 (.cond (.t 15)
 .skip
 (.exit 0))
 (.seq
 (.block 1
 (.seq
 (.reg false [
 ⟨(some 16), .mv (.t 14), none⟩,
 ⟨(some 17), .idxA 2 (.t 12) (.t 14), none⟩,
 ⟨(some 18), .load true 2 (.t 17), none⟩,
 ⟨(some 7), .alloc [.v (.int .i64) ((0 : Int)), .v (.int .i64) ((0 : Int))], none⟩,
 ⟨(some 6), .mv (.t 16), none⟩,
 ⟨none, .store 2 (.t 7) (.t 18), none⟩])
 (.seq
 (.reg false [
 ⟨(some 19), .mv (.t 6), none⟩,
 ⟨(some 20), .mv (.t 1), none⟩,
 ⟨(some 21), .bin .neq (.t 19) (.t 20), none⟩])
 (.cond (.t 21)
 (.reg false [
 ⟨(some 22), .fieldA 1 (.t 5), none⟩,
 ⟨(some 23), .load false 1 (.t 22), none⟩,
 ⟨(some 24), .load true 2 (.t 7), none⟩,
 ⟨(some 25), .bslice [.int .i64, .int .i64] [(.t 24)], none⟩,
 ⟨(some 26), .append true [.int .i64, .int .i64] 16 (.t 23) (.t 25), none⟩,
 ⟨(some 27), .fieldA 1 (.t 5), none⟩,
 ⟨none, .store 1 (.t 27) (.t 26), none⟩])
 .skip))))
 (.reg false [
 ⟨(some 28), .bin .add (.t 14) (.k (.one (.v (.int .i64) ((1 : Int))))), none⟩,
 ⟨(some 14), .mv (.t 28), none⟩]))))))))
 (.seq
 (.reg false [
 ⟨(some 29), .load true 2 (.t 5), none⟩,
 ⟨none, .store 2 (.t 4) (.t 29), none⟩])
 .ret))))
def ms_spec_l36Delete : List MRes := [.cell 4 2 true]
theorem n_spec_l36Delete (NN : Nat) (x : DLL (Sig.tys ag_spec_l36Delete)) : runS NN [] sc_spec_l36Delete ms_spec_l36Delete ag_spec_l36Delete rs_spec_l36Delete x = G_spec_l36Delete NN x := by kernel_rfl
theorem k_spec_l36Delete : chkS Go.Proofs.Try.prog 53 sc_spec_l36Delete.er ms_spec_l36Delete 2 = true := by decide +kernel
theorem p_spec_l36Delete : PureSpec Go.Proofs.Try.prog 53 fn_spec_l36Delete.M ∧ chkFun Go.Proofs.Try.prog 53 = true :=
  pure_of_runS (T := []) (sc := sc_spec_l36Delete) (ms := ms_spec_l36Delete) (args := ag_spec_l36Delete) (res := rs_spec_l36Delete) (SOk.nil) follows_ok k_spec_l36Delete F_spec_l36Delete fun x y h => (n_spec_l36Delete FUEL x).trans (f_spec_l36Delete x y h)

def fn_spec_l36Node : SFn := ⟨56, ag_spec_l36Node, mu_spec_l36Node, rs_spec_l36Node, F_spec_l36Node⟩
def sc_spec_l36Node : SCode :=
 (.seq
 (.reg false [
 ⟨(some 6), .mv (.k (.one (.v (.int .i64) ((0 : Int))))), none⟩])
 (.seq
 (.seq
 (.reg false [
 ⟨(some 7), .mv (.t 0), none⟩,
 ⟨(some 8), .mv (.t 2), none⟩,
 ⟨(some 9), .bin .eql (.t 7) (.t 8), none⟩])
 (.cond (.t 9)
 (.seq
 (.reg false [
 ⟨(some 10), .mv (.t 1), none⟩,
 ⟨(some 6), .mv (.t 10), none⟩])
 .ret)
 .skip))
 (.seq
 (.seq
 (.reg false [
 ⟨(some 11), .mv (.t 0), none⟩,
 ⟨(some 12), .mv (.t 2), none⟩,
 ⟨(some 13), .bin .gtr (.t 11) (.t 12), none⟩])
 (.cond (.t 13)
 (.seq
 (.reg false [
 ⟨(some 14), .mv (.t 0), none⟩,
 ⟨(some 15), .bin .sub (.t 14) (.k (.one (.v (.int .i64) ((1 : Int))))), none⟩,
 ⟨(some 6), .mv (.t 15), none⟩])
 .ret)
 .skip))
 (.seq
 (.reg false [
 ⟨(some 16), .mv (.t 0), none⟩,
 ⟨(some 6), .mv (.t 16), none⟩])
 .ret))))
def ms_spec_l36Node : List MRes := [.tmp 6]
theorem n_spec_l36Node (NN : Nat) (x : DLL (Sig.tys ag_spec_l36Node)) : runS NN [] sc_spec_l36Node ms_spec_l36Node ag_spec_l36Node rs_spec_l36Node x = G_spec_l36Node NN x := by kernel_rfl
theorem k_spec_l36Node : chkS Go.Proofs.Try.prog 56 sc_spec_l36Node.er ms_spec_l36Node 3 = true := by decide +kernel
theorem p_spec_l36Node : PureSpec Go.Proofs.Try.prog 56 fn_spec_l36Node.M ∧ chkFun Go.Proofs.Try.prog 56 = true :=
  pure_of_runS (T := []) (sc := sc_spec_l36Node) (ms := ms_spec_l36Node) (args := ag_spec_l36Node) (res := rs_spec_l36Node) (SOk.nil) follows_ok k_spec_l36Node F_spec_l36Node fun x y h => (n_spec_l36Node FUEL x).trans (f_spec_l36Node x y h)

def fn_spec_ContractEdge : SFn := ⟨34, ag_spec_ContractEdge, mu_spec_ContractEdge, rs_spec_ContractEdge, F_spec_ContractEdge⟩
def sc_spec_ContractEdge : SCode :=
 (.seq
 (.reg false [
 ⟨(some 2), .box 2 (.t 0), none⟩,
 ⟨(some 4), .alloc [.v (.int .i64) ((0 : Int)), .nil [.int .i64, .int .i64]], none⟩,
 ⟨(some 5), .mv (.k (.one (.v (.bool) (false)))), none⟩])
 (.seq
 (.seq
 (.reg false [
 ⟨(some 11), .load true 2 (.t 2), none⟩,
 ⟨(some 12), .call .froz 12 [(.t 11)], none⟩,
 ⟨(some 13), .un .not (.t 12), none⟩,
 ⟨(some 14), .mv (.t 13), none⟩,
 ⟨(some 15), .mv (.t 1), (some (14, false))⟩,
 ⟨(some 16), .fieldA 1 (.t 2), (some (14, false))⟩,
 ⟨(some 17), .load false 1 (.t 16), (some (14, false))⟩,
 ⟨(some 18), .len (.t 17), (some (14, false))⟩,
 ⟨(some 19), .bin .sub (.t 18) (.k (.one (.v (.int .i64) ((1 : Int))))), (some (14, false))⟩,
 ⟨(some 20), .call .froz 36 [(.t 15), (.k (.one (.v (.int .i64) ((0 : Int))))), (.t 19)], (some (14, false))⟩,
 ⟨(some 21), .un .not (.t 20), (some (14, false))⟩,
 ⟨(some 22), .pick (.t 14) (.k (.one (.v (.bool) (true)))) (.t 21), none⟩])
 (.cond (.t 22)
 (.seq
 (.reg false [
 ⟨(some 23), .build [.v (.int .i64) ((0 : Int)), .nil [.int .i64, .int .i64]] [], none⟩,
 ⟨none, .store 2 (.t 4) (.t 23), none⟩,
 ⟨(some 5), .mv (.k (.one (.v (.bool) (false)))), none⟩])
 .ret)
 .skip))
 (.seq
 (.reg true [
 ⟨(some 24), .fieldA 1 (.t 2), none⟩,
 ⟨(some 25), .load false 1 (.t 24), none⟩,
 ⟨(some 26), .mv (.t 1), none⟩,
 ⟨(some 27), .idxA 2 (.t 25) (.t 26), none⟩,
 ⟨(some 28), .fieldA 0 (.t 27), none⟩,
 ⟨(some 29), .load false 1 (.t 28), none⟩,
 ⟨(some 30), .fieldA 1 (.t 2), none⟩,
 ⟨(some 31), .load false 1 (.t 30), none⟩,
 ⟨(some 32), .mv (.t 1), none⟩,
 ⟨(some 33), .idxA 2 (.t 31) (.t 32), none⟩,
 ⟨(some 34), .fieldA 1 (.t 33), none⟩,
 ⟨(some 35), .load false 1 (.t 34), none⟩,
 ⟨(some 36), .mm false (.t 29) (.t 35), none⟩,
 ⟨(some 6), .mv (.t 36), none⟩])
 (.seq
 (.reg true [
 ⟨(some 37), .fieldA 1 (.t 2), none⟩,
 ⟨(some 38), .load false 1 (.t 37), none⟩,
 ⟨(some 39), .mv (.t 1), none⟩,
 ⟨(some 40), .idxA 2 (.t 38) (.t 39), none⟩,
 ⟨(some 41), .fieldA 0 (.t 40), none⟩,
 ⟨(some 42), .load false 1 (.t 41), none⟩,
 ⟨(some 43), .fieldA 1 (.t 2), none⟩,
 ⟨(some 44), .load false 1 (.t 43), none⟩,
 ⟨(some 45), .mv (.t 1), none⟩,
 ⟨(some 46), .idxA 2 (.t 44) (.t 45), none⟩,
 ⟨(some 47), .fieldA 1 (.t 46), none⟩,
 ⟨(some 48), .load false 1 (.t 47), none⟩,
 ⟨(some 49), .mm true (.t 42) (.t 48), none⟩,
 ⟨(some 7), .mv (.t 49), none⟩])
 (.seq
 (.reg false [
 ⟨(some 50), .load true 2 (.t 2), none⟩,
 ⟨(some 51), .mv (.t 1), none⟩,
 ⟨(some 52), .call .froz 53 [(.t 50), (.t 51)], none⟩,
 ⟨(some 8), .alloc [.v (.int .i64) ((0 : Int)), .nil [.int .i64, .int .i64]], none⟩,
 ⟨none, .store 2 (.t 8) (.t 52), none⟩])
 (.seq
 (.seq
 (.reg false [
 ⟨(some 53), .mv (.t 6), none⟩,
 ⟨(some 54), .mv (.t 7), none⟩,
 ⟨(some 55), .bin .eql (.t 53) (.t 54), none⟩])
 (.cond (.t 55)
 (.seq
 (.reg false [
 ⟨(some 56), .load true 2 (.t 8), none⟩,
 ⟨none, .store 2 (.t 4) (.t 56), none⟩,
 ⟨(some 5), .mv (.k (.one (.v (.bool) (true)))), none⟩])
 .ret)
 .skip))
 (.seq
 (.reg false [
 ⟨(some 57), .fieldA 0 (.t 2), none⟩,
 ⟨(some 58), .load false 1 (.t 57), none⟩,
 ⟨(some 59), .bin .sub (.t 58) (.k (.one (.v (.int .i64) ((1 : Int))))), none⟩,
 ⟨(some 60), .fieldA 0 (.t 8), none⟩,
 ⟨none, .store 1 (.t 60) (.t 59), none⟩])
 (.seq
 (.seq
 (.reg false [
 ⟨(some 61), .fieldA 1 (.t 8), none⟩,
 ⟨(some 62), .load false 1 (.t 61), none⟩,
 ⟨(some 63), .len (.t 62), none⟩,
 ⟨(some 64), .mv (.k (.one (.v (.int .i64) ((0 : Int))))), none⟩])
 (.join ⟨[(8, .one (.c (.ptr0 8 0))), (4, .one (.c (.ptr0 4 0)))], [(4, .box [.c (.v (.int .i64)), .c (.full 500002 2)]), (8, .box [.c (.v (.int .i64)), .c (.full 500003 2)]), (500002, .row true .froz [.int .i64, .int .i64]), (500003, .row true .froz [.int .i64, .int .i64])]⟩ [4, 8, 500000, 500001, 500002, 500003] [(true, 4, 1, 500002, .froz, []), (true, 8, 1, 500003, .froz, [])]
 (.block 0
 (.loop 0 ⟨[(4, .one (.c (.ptr0 4 0))), (6, .one (.c (.v (.int .i64)))), (7, .one (.c (.v (.int .i64)))), (8, .one (.c (.ptr0 8 0))), (62, .one (.c (.full 500001 2))), (63, .one (.c (.v (.int .i64)))), (64, .one (.c (.v (.int .i64))))], [(4, .box [.c (.v (.int .i64)), .c (.full 500000 2)]), (8, .box [.c (.v (.int .i64)), .c (.full 500001 2)]), (500000, .row true .froz [.int .i64, .int .i64]), (500001, .row true .froz [.int .i64, .int .i64])]⟩ [2, 4, 53000, 8, 10, 500000, 500001] [(true, 4, 1, 500000, .froz, []), (true, 8, 1, 500001, .froz, [])]
 (.seq
 (.reg false [
 ⟨(some 65), .bin .lss (.t 64) (.t 63), none⟩])
 (.seq
 (.cond (.t 65)
 .skip
 (.exit 0))
 (.seq
 (.block 1
 (.seq
 (.reg false [
 ⟨(some 66), .mv (.t 64), none⟩,
 ⟨(some 67), .idxA 2 (.t 62) (.t 64), none⟩,
 ⟨(some 68), .load true 2 (.t 67), none⟩,
 ⟨(some 10), .alloc [.v (.int .i64) ((0 : Int)), .v (.int .i64) ((0 : Int))], none⟩,
 ⟨(some 9), .mv (.t 66), none⟩,
 ⟨none, .store 2 (.t 10) (.t 68), none⟩])
 (.reg true [
 ⟨(some 69), .fieldA 1 (.t 8), none⟩,
 ⟨(some 70), .load false 1 (.t 69), none⟩,
 ⟨(some 71), .mv (.t 9), none⟩,
 ⟨(some 72), .fieldA 0 (.t 10), none⟩,
 ⟨(some 73), .load false 1 (.t 72), none⟩,
 ⟨(some 74), .mv (.t 6), none⟩,
 ⟨(some 75), .mv (.t 7), none⟩,
 ⟨(some 76), .call .froz 56 [(.t 73), (.t 74), (.t 75)], none⟩,
 ⟨(some 77), .fieldA 1 (.t 10), none⟩,
 ⟨(some 78), .load false 1 (.t 77), none⟩,
 ⟨(some 79), .mv (.t 6), none⟩,
 ⟨(some 80), .mv (.t 7), none⟩,
 ⟨(some 81), .call .froz 56 [(.t 78), (.t 79), (.t 80)], none⟩,
 ⟨(some 82), .build [.v (.int .i64) ((0 : Int)), .v (.int .i64) ((0 : Int))] [(0, 1, (.t 76)), (1, 1, (.t 81))], none⟩,
 ⟨(some 83), .idxA 2 (.t 70) (.t 71), none⟩,
 ⟨none, .store 2 (.t 83) (.t 82), none⟩])))
 (.reg false [
 ⟨(some 84), .bin .add (.t 64) (.k (.one (.v (.int .i64) ((1 : Int))))), none⟩,
 ⟨(some 64), .mv (.t 84), none⟩]))))))))
 (.seq
 (.reg false [
 ⟨(some 85), .load true 2 (.t 8), none⟩,
 ⟨none, .store 2 (.t 4) (.t 85), none⟩,
 ⟨(some 5), .mv (.k (.one (.v (.bool) (true)))), none⟩])
 .ret)))))))))
def ms_spec_ContractEdge : List MRes := [.cell 4 2 true, .tmp 5]
theorem n_spec_ContractEdge (NN : Nat) (x : DLL (Sig.tys ag_spec_ContractEdge)) : runS NN [fn_spec_GraphOk, fn_spec_l01In, fn_spec_l36Delete, fn_spec_l36Node] sc_spec_ContractEdge ms_spec_ContractEdge ag_spec_ContractEdge rs_spec_ContractEdge x = G_spec_ContractEdge NN x := by kernel_rfl
theorem k_spec_ContractEdge : chkS Go.Proofs.Try.prog 34 sc_spec_ContractEdge.er ms_spec_ContractEdge 2 = true := by decide +kernel
theorem p_spec_ContractEdge : PureSpec Go.Proofs.Try.prog 34 fn_spec_ContractEdge.M ∧ chkFun Go.Proofs.Try.prog 34 = true :=
  pure_of_runS (T := [fn_spec_GraphOk, fn_spec_l01In, fn_spec_l36Delete, fn_spec_l36Node]) (sc := sc_spec_ContractEdge) (ms := ms_spec_ContractEdge) (args := ag_spec_ContractEdge) (res := rs_spec_ContractEdge) (SOk.cons p_spec_GraphOk <| SOk.cons p_spec_l01In <| SOk.cons p_spec_l36Delete <| SOk.cons p_spec_l36Node <| SOk.nil) follows_ok k_spec_ContractEdge F_spec_ContractEdge fun x y h => (n_spec_ContractEdge FUEL x).trans (f_spec_ContractEdge x y h)

def fn_impl_GraphOk : SFn := ⟨14, ag_impl_GraphOk, mu_impl_GraphOk, rs_impl_GraphOk, F_impl_GraphOk⟩
def sc_impl_GraphOk : SCode :=
 (.seq
 (.reg false [
 ⟨(some 1), .box 2 (.t 0), none⟩,
 ⟨(some 2), .mv (.k (.one (.v (.bool) (false)))), none⟩])
 (.seq
 (.seq
 (.reg false [
 ⟨(some 5), .fieldA 0 (.t 1), none⟩,
 ⟨(some 6), .load false 1 (.t 5), none⟩,
 ⟨(some 7), .bin .lss (.t 6) (.k (.one (.v (.int .i64) ((0 : Int))))), none⟩,
 ⟨(some 8), .mv (.t 7), none⟩,
 ⟨(some 9), .fieldA 0 (.t 1), (some (8, false))⟩,
 ⟨(some 10), .load false 1 (.t 9), (some (8, false))⟩,
 ⟨(some 11), .bin .gtr (.t 10) (.k (.one (.v (.int .i64) ((10 : Int))))), (some (8, false))⟩,
 ⟨(some 12), .pick (.t 8) (.k (.one (.v (.bool) (true)))) (.t 11), none⟩,
 ⟨(some 13), .mv (.t 12), none⟩,
 ⟨(some 14), .fieldA 1 (.t 1), (some (13, false))⟩,
 ⟨(some 15), .load false 1 (.t 14), (some (13, false))⟩,
 ⟨(some 16), .len (.t 15), (some (13, false))⟩,
 ⟨(some 17), .bin .gtr (.t 16) (.k (.one (.v (.int .i64) ((10 : Int))))), (some (13, false))⟩,
 ⟨(some 18), .pick (.t 13) (.k (.one (.v (.bool) (true)))) (.t 17), none⟩])
 (.cond (.t 18)
 (.seq
 (.reg false [
 ⟨(some 2), .mv (.k (.one (.v (.bool) (false)))), none⟩])
 .ret)
 .skip))
 (.seq
 (.seq
 (.reg false [
 ⟨(some 19), .fieldA 1 (.t 1), none⟩,
 ⟨(some 20), .load false 1 (.t 19), none⟩,
 ⟨(some 21), .len (.t 20), none⟩,
 ⟨(some 22), .mv (.k (.one (.v (.int .i64) ((0 : Int))))), none⟩])
 (.join ⟨[], []⟩ [1] []
 (.block 0
 (.loop 0 ⟨[(1, .one (.c (.ptr0 1 0))), (20, .one (.c (.v (.list [.int .i64, .int .i64])))), (21, .one (.c (.v (.int .i64)))), (22, .one (.c (.v (.int .i64))))], [(1, .box [.c (.v (.int .i64)), .c (.v (.list [.int .i64, .int .i64]))])]⟩ [1, 4] []
 (.seq
 (.reg false [
 ⟨(some 23), .bin .lss (.t 22) (.t 21), none⟩])
 (.seq
 (.cond (.t 23)
 .skip
 (.exit 0))
 (.seq
 (.block 1
 (.seq
 (.reg false [
 ⟨(some 24), .idxA 2 (.t 20) (.t 22), none⟩,
 ⟨(some 25), .load true 2 (.t 24), none⟩,
 ⟨(some 4), .alloc [.v (.int .i64) ((0 : Int)), .v (.int .i64) ((0 : Int))], none⟩,
 ⟨none, .store 2 (.t 4) (.t 25), none⟩])
 (.seq
 (.reg false [
 ⟨(some 26), .fieldA 0 (.t 4), none⟩,
 ⟨(some 27), .load false 1 (.t 26), none⟩,
 ⟨(some 28), .bin .lss (.t 27) (.k (.one (.v (.int .i64) ((0 : Int))))), none⟩,
 ⟨(some 29), .mv (.t 28), none⟩,
 ⟨(some 30), .fieldA 1 (.t 4), (some (29, false))⟩,
 ⟨(some 31), .load false 1 (.t 30), (some (29, false))⟩,
 ⟨(some 32), .bin .lss (.t 31) (.k (.one (.v (.int .i64) ((0 : Int))))), (some (29, false))⟩,
 ⟨(some 33), .pick (.t 29) (.k (.one (.v (.bool) (true)))) (.t 32), none⟩,
 ⟨(some 34), .mv (.t 33), none⟩,
 ⟨(some 35), .fieldA 0 (.t 4), (some (34, false))⟩,
 ⟨(some 36), .load false 1 (.t 35), (some (34, false))⟩,
 ⟨(some 37), .fieldA 0 (.t 1), (some (34, false))⟩,
 ⟨(some 38), .load false 1 (.t 37), (some (34, false))⟩,
 ⟨(some 39), .bin .geq (.t 36) (.t 38), (some (34, false))⟩,
 ⟨(some 40), .pick (.t 34) (.k (.one (.v (.bool) (true)))) (.t 39), none⟩,
 ⟨(some 41), .mv (.t 40), none⟩,
 ⟨(some 42), .fieldA 1 (.t 4), (some (41, false))⟩,
 ⟨(some 43), .load false 1 (.t 42), (some (41, false))⟩,
 ⟨(some 44), .fieldA 0 (.t 1), (some (41, false))⟩,
 ⟨(some 45), .load false 1 (.t 44), (some (41, false))⟩,
 ⟨(some 46), .bin .geq (.t 43) (.t 45), (some (41, false))⟩,
 ⟨(some 47), .pick (.t 41) (.k (.one (.v (.bool) (true)))) (.t 46), none⟩])
 (.cond (.t 47)
 (.seq
 (.reg false [
 ⟨(some 2), .mv (.k (.one (.v (.bool) (false)))), none⟩])
 .ret)
 .skip))))
 (.reg false [
 ⟨(some 48), .bin .add (.t 22) (.k (.one (.v (.int .i64) ((1 : Int))))), none⟩,
 ⟨(some 22), .mv (.t 48), none⟩]))))))))
 (.seq
 (.reg false [
 ⟨(some 2), .mv (.k (.one (.v (.bool) (true)))), none⟩])
 .ret))))
def ms_impl_GraphOk : List MRes := [.tmp 2]
theorem n_impl_GraphOk (NN : Nat) (x : DLL (Sig.tys ag_impl_GraphOk)) : runS NN [] sc_impl_GraphOk ms_impl_GraphOk ag_impl_GraphOk rs_impl_GraphOk x = G_impl_GraphOk NN x := by kernel_rfl
theorem k_impl_GraphOk : chkS Go.Proofs.Try.prog 14 sc_impl_GraphOk.er ms_impl_GraphOk 1 = true := by decide +kernel
theorem p_impl_GraphOk : PureSpec Go.Proofs.Try.prog 14 fn_impl_GraphOk.M ∧ chkFun Go.Proofs.Try.prog 14 = true :=
  pure_of_runS (T := []) (sc := sc_impl_GraphOk) (ms := ms_impl_GraphOk) (args := ag_impl_GraphOk) (res := rs_impl_GraphOk) (SOk.nil) follows_ok k_impl_GraphOk F_impl_GraphOk fun x y h => (n_impl_GraphOk FUEL x).trans (f_impl_GraphOk x y h)

def fn_impl_DeleteEdge : SFn := ⟨28, ag_impl_DeleteEdge, mu_impl_DeleteEdge, rs_impl_DeleteEdge, F_impl_DeleteEdge⟩
def sc_impl_DeleteEdge : SCode :=
 (.seq
 (.reg false [
 ⟨(some 2), .box 2 (.t 0), none⟩,
 ⟨(some 4), .alloc [.v (.int .i64) ((0 : Int)), .nil [.int .i64, .int .i64]], none⟩,
 ⟨(some 5), .mv (.k (.one (.v (.bool) (false)))), none⟩])
 (.seq
 (.seq
 (.reg false [
 ⟨(some 9), .load true 2 (.t 2), none⟩,
 ⟨(some 10), .call .froz 14 [(.t 9)], none⟩,
 ⟨(some 11), .un .not (.t 10), none⟩,
 ⟨(some 12), .mv (.t 11), none⟩,
 ⟨(some 13), .mv (.t 1), (some (12, false))⟩,
 ⟨(some 14), .bin .lss (.t 13) (.k (.one (.v (.int .i64) ((0 : Int))))), (some (12, false))⟩,
 ⟨(some 15), .pick (.t 12) (.k (.one (.v (.bool) (true)))) (.t 14), none⟩,
 ⟨(some 16), .mv (.t 15), none⟩,
 ⟨(some 17), .mv (.t 1), (some (16, false))⟩,
 ⟨(some 18), .fieldA 1 (.t 2), (some (16, false))⟩,
 ⟨(some 19), .load false 1 (.t 18), (some (16, false))⟩,
 ⟨(some 20), .len (.t 19), (some (16, false))⟩,
 ⟨(some 21), .bin .geq (.t 17) (.t 20), (some (16, false))⟩,
 ⟨(some 22), .pick (.t 16) (.k (.one (.v (.bool) (true)))) (.t 21), none⟩])
 (.cond (.t 22)
 (.seq
 (.reg false [
 ⟨(some 23), .build [.v (.int .i64) ((0 : Int)), .nil [.int .i64, .int .i64]] [], none⟩,
 ⟨none, .store 2 (.t 4) (.t 23), none⟩,
 ⟨(some 5), .mv (.k (.one (.v (.bool) (false)))), none⟩])
 .ret)
 .skip))
 (.seq
 (.reg false [
 ⟨(some 24), .fieldA 0 (.t 2), none⟩,
 ⟨(some 25), .load false 1 (.t 24), none⟩,
 ⟨(some 26), .build [.v (.int .i64) ((0 : Int)), .nil [.int .i64, .int .i64]] [(0, 1, (.t 25))], none⟩,
 ⟨(some 6), .alloc [.v (.int .i64) ((0 : Int)), .nil [.int .i64, .int .i64]], none⟩,
 ⟨none, .store 2 (.t 6) (.t 26), none⟩])
 (.seq
 (.seq
 (.reg false [
 ⟨(some 27), .fieldA 1 (.t 2), none⟩,
 ⟨(some 28), .load false 1 (.t 27), none⟩,
 ⟨(some 29), .len (.t 28), none⟩,
 ⟨(some 30), .mv (.k (.one (.v (.int .i64) ((0 : Int))))), none⟩])
 (.join ⟨[(6, .one (.c (.ptr0 6 0))), (4, .one (.c (.ptr0 4 0)))], [(4, .box [.c (.v (.int .i64)), .c (.full 500002 2)]), (6, .box [.c (.v (.int .i64)), .c (.full 500003 2)]), (500002, .row true .froz [.int .i64, .int .i64]), (500003, .row true .froz [.int .i64, .int .i64])]⟩ [4, 6, 500000, 500001, 500002, 500003] [(true, 4, 1, 500002, .froz, []), (true, 6, 1, 500003, .froz, [])]
 (.block 0
 (.loop 0 ⟨[(1, .one (.c (.v (.int .i64)))), (4, .one (.c (.ptr0 4 0))), (6, .one (.c (.ptr0 6 0))), (28, .one (.c (.v (.list [.int .i64, .int .i64])))), (29, .one (.c (.v (.int .i64)))), (30, .one (.c (.v (.int .i64))))], [(4, .box [.c (.v (.int .i64)), .c (.full 500000 2)]), (6, .box [.c (.v (.int .i64)), .c (.full 500001 2)]), (500000, .row true .froz [.int .i64, .int .i64]), (500001, .row true .froz [.int .i64, .int .i64])]⟩ [2, 4, 6, 8, 41, 42, 500000, 500001] [(true, 4, 1, 500000, .froz, []), (true, 6, 1, 500001, .froz, [])]
 (.seq
 (.reg false [
 ⟨(some 31), .bin .lss (.t 30) (.t 29), none⟩])
 (.seq
 (.cond (.t 31)
 .skip
 (.exit 0))
 (.seq
 (.block 1
 (.seq
 (.reg false [
 ⟨(some 32), .mv (.t 30), none⟩,
 ⟨(some 33), .idxA 2 (.t 28) (.t 30), none⟩,
 ⟨(some 34), .load true 2 (.t 33), none⟩,
 ⟨(some 8), .alloc [.v (.int .i64) ((0 : Int)), .v (.int .i64) ((0 : Int))], none⟩,
 ⟨(some 7), .mv (.t 32), none⟩,
 ⟨none, .store 2 (.t 8) (.t 34), none⟩])
 (.seq
 (.reg false [
 ⟨(some 35), .mv (.t 7), none⟩,
 ⟨(some 36), .mv (.t 1), none⟩,
 ⟨(some 37), .bin .neq (.t 35) (.t 36), none⟩])
 (.cond (.t 37)
 (.reg false [
 ⟨(some 38), .fieldA 1 (.t 6), none⟩,
 ⟨(some 39), .load false 1 (.t 38), none⟩,
 ⟨(some 40), .load true 2 (.t 8), none⟩,
 ⟨(some 41), .bslice [.int .i64, .int .i64] [(.t 40)], none⟩,
 ⟨(some 42), .append true [.int .i64, .int .i64] 16 (.t 39) (.t 41), none⟩,
 ⟨(some 43), .fieldA 1 (.t 6), none⟩,
 ⟨none, .store 1 (.t 43) (.t 42), none⟩])
 .skip))))
 (.reg false [
 ⟨(some 44), .bin .add (.t 30) (.k (.one (.v (.int .i64) ((1 : Int))))), none⟩,
 ⟨(some 30), .mv (.t 44), none⟩]))))))))
 (.seq
 (.reg false [
 ⟨(some 45), .load true 2 (.t 6), none⟩,
 ⟨none, .store 2 (.t 4) (.t 45), none⟩,
 ⟨(some 5), .mv (.k (.one (.v (.bool) (true)))), none⟩])
 .ret)))))
def ms_impl_DeleteEdge : List MRes := [.cell 4 2 true, .tmp 5]
theorem n_impl_DeleteEdge (NN : Nat) (x : DLL (Sig.tys ag_impl_DeleteEdge)) : runS NN [fn_impl_GraphOk] sc_impl_DeleteEdge ms_impl_DeleteEdge ag_impl_DeleteEdge rs_impl_DeleteEdge x = G_impl_DeleteEdge NN x := by kernel_rfl
theorem k_impl_DeleteEdge : chkS Go.Proofs.Try.prog 28 sc_impl_DeleteEdge.er ms_impl_DeleteEdge 2 = true := by decide +kernel
theorem p_impl_DeleteEdge : PureSpec Go.Proofs.Try.prog 28 fn_impl_DeleteEdge.M ∧ chkFun Go.Proofs.Try.prog 28 = true :=
  pure_of_runS (T := [fn_impl_GraphOk]) (sc := sc_impl_DeleteEdge) (ms := ms_impl_DeleteEdge) (args := ag_impl_DeleteEdge) (res := rs_impl_DeleteEdge) (SOk.cons p_impl_GraphOk <| SOk.nil) follows_ok k_impl_DeleteEdge F_impl_DeleteEdge fun x y h => (n_impl_DeleteEdge FUEL x).trans (f_impl_DeleteEdge x y h)

def fn_impl_ContractEdge_1 : SFn := ⟨51, ag_impl_ContractEdge_1, mu_impl_ContractEdge_1, rs_impl_ContractEdge_1, F_impl_ContractEdge_1⟩
def sc_impl_ContractEdge_1 : SCode :=
 (.seq
 (.reg false [
 ⟨(some 4), .mv (.k (.one (.v (.int .i64) ((0 : Int))))), none⟩])
 (.seq
 (.seq
 (.reg false [
 ⟨(some 5), .mv (.t 0), none⟩,
 ⟨(some 6), .load false 1 (.t 1), none⟩,
 ⟨(some 7), .bin .eql (.t 5) (.t 6), none⟩])
 (.cond (.t 7)
 (.seq
 (.reg false [
 ⟨(some 8), .load false 1 (.t 2), none⟩,
 ⟨(some 4), .mv (.t 8), none⟩])
 .ret)
 .skip))
 (.seq
 (.seq
 (.reg false [
 ⟨(some 9), .mv (.t 0), none⟩,
 ⟨(some 10), .load false 1 (.t 1), none⟩,
 ⟨(some 11), .bin .gtr (.t 9) (.t 10), none⟩])
 (.cond (.t 11)
 (.seq
 (.reg false [
 ⟨(some 12), .mv (.t 0), none⟩,
 ⟨(some 13), .bin .sub (.t 12) (.k (.one (.v (.int .i64) ((1 : Int))))), none⟩,
 ⟨(some 4), .mv (.t 13), none⟩])
 .ret)
 .skip))
 (.seq
 (.reg false [
 ⟨(some 14), .mv (.t 0), none⟩,
 ⟨(some 4), .mv (.t 14), none⟩])
 .ret))))
def ms_impl_ContractEdge_1 : List MRes := [.tmp 4]
theorem n_impl_ContractEdge_1 (NN : Nat) (x : DLL (Sig.tys ag_impl_ContractEdge_1)) : runS NN [] sc_impl_ContractEdge_1 ms_impl_ContractEdge_1 ag_impl_ContractEdge_1 rs_impl_ContractEdge_1 x = G_impl_ContractEdge_1 NN x := by kernel_rfl
theorem k_impl_ContractEdge_1 : chkS Go.Proofs.Try.prog 51 sc_impl_ContractEdge_1.er ms_impl_ContractEdge_1 3 = true := by decide +kernel
theorem p_impl_ContractEdge_1 : PureSpec Go.Proofs.Try.prog 51 fn_impl_ContractEdge_1.M ∧ chkFun Go.Proofs.Try.prog 51 = true :=
  pure_of_runS (T := []) (sc := sc_impl_ContractEdge_1) (ms := ms_impl_ContractEdge_1) (args := ag_impl_ContractEdge_1) (res := rs_impl_ContractEdge_1) (SOk.nil) follows_ok k_impl_ContractEdge_1 F_impl_ContractEdge_1 fun x y h => (n_impl_ContractEdge_1 FUEL x).trans (f_impl_ContractEdge_1 x y h)

def fn_impl_ContractEdge : SFn := ⟨29, ag_impl_ContractEdge, mu_impl_ContractEdge, rs_impl_ContractEdge, F_impl_ContractEdge⟩
def sc_impl_ContractEdge : SCode :=
 (.seq
 (.reg false [
 ⟨(some 2), .box 2 (.t 0), none⟩,
 ⟨(some 4), .alloc [.v (.int .i64) ((0 : Int)), .nil [.int .i64, .int .i64]], none⟩,
 ⟨(some 5), .mv (.k (.one (.v (.bool) (false)))), none⟩])
 (.seq
 (.reg false [
 ⟨(some 14), .load true 2 (.t 2), none⟩,
 ⟨(some 15), .mv (.t 1), none⟩,
 ⟨(some 16), .call .froz 28 [(.t 14), (.t 15)], none⟩,
 ⟨(some 13), .mv (.t 16), none⟩,
 ⟨(some 17), .ext 0 (.t 13), none⟩,
 ⟨(some 18), .ext 1 (.t 13), none⟩,
 ⟨(some 6), .alloc [.v (.int .i64) ((0 : Int)), .nil [.int .i64, .int .i64]], none⟩,
 ⟨none, .store 2 (.t 6) (.t 17), none⟩,
 ⟨(some 7), .mv (.t 18), none⟩])
 (.seq
 (.seq
 (.reg false [
 ⟨(some 19), .mv (.t 7), none⟩,
 ⟨(some 20), .un .not (.t 19), none⟩])
 (.cond (.t 20)
 (.seq
 (.reg false [
 ⟨(some 21), .build [.v (.int .i64) ((0 : Int)), .nil [.int .i64, .int .i64]] [], none⟩,
 ⟨none, .store 2 (.t 4) (.t 21), none⟩,
 ⟨(some 5), .mv (.k (.one (.v (.bool) (false)))), none⟩])
 .ret)
 .skip))
 (.seq
 (.regD [(13, 28), (14, 28), (16, 28), (17, 28), (18, 28), (19, 28), (20, 28), (22, 28), (23, 28), (24, 28)] [
 ⟨(some 22), .fieldA 1 (.t 2), none⟩,
 ⟨(some 23), .load false 1 (.t 22), none⟩,
 ⟨(some 24), .mv (.t 1), none⟩,
 ⟨(some 25), .idxA 2 (.t 23) (.t 24), none⟩,
 ⟨(some 26), .fieldA 0 (.t 25), none⟩,
 ⟨(some 27), .load false 1 (.t 26), none⟩,
 ⟨(some 28), .fieldA 1 (.t 2), none⟩,
 ⟨(some 29), .load false 1 (.t 28), none⟩,
 ⟨(some 30), .mv (.t 1), none⟩,
 ⟨(some 31), .idxA 2 (.t 29) (.t 30), none⟩,
 ⟨(some 32), .fieldA 1 (.t 31), none⟩,
 ⟨(some 33), .load false 1 (.t 32), none⟩,
 ⟨(some 34), .mm false (.t 27) (.t 33), none⟩,
 ⟨(some 35), .fieldA 1 (.t 2), none⟩,
 ⟨(some 36), .load false 1 (.t 35), none⟩,
 ⟨(some 37), .mv (.t 1), none⟩,
 ⟨(some 38), .idxA 2 (.t 36) (.t 37), none⟩,
 ⟨(some 39), .fieldA 0 (.t 38), none⟩,
 ⟨(some 40), .load false 1 (.t 39), none⟩,
 ⟨(some 41), .fieldA 1 (.t 2), none⟩,
 ⟨(some 42), .load false 1 (.t 41), none⟩,
 ⟨(some 43), .mv (.t 1), none⟩,
 ⟨(some 44), .idxA 2 (.t 42) (.t 43), none⟩,
 ⟨(some 45), .fieldA 1 (.t 44), none⟩,
 ⟨(some 46), .load false 1 (.t 45), none⟩,
 ⟨(some 47), .mm true (.t 40) (.t 46), none⟩,
 ⟨(some 8), .alloc [.v (.int .i64) ((0 : Int))], none⟩,
 ⟨(some 9), .alloc [.v (.int .i64) ((0 : Int))], none⟩,
 ⟨none, .store 1 (.t 8) (.t 34), none⟩,
 ⟨none, .store 1 (.t 9) (.t 47), none⟩])
 (.seq
 (.seq
 (.reg false [
 ⟨(some 48), .load false 1 (.t 8), none⟩,
 ⟨(some 49), .load false 1 (.t 9), none⟩,
 ⟨(some 50), .bin .eql (.t 48) (.t 49), none⟩])
 (.cond (.t 50)
 (.seq
 (.reg false [
 ⟨(some 51), .load true 2 (.t 6), none⟩,
 ⟨none, .store 2 (.t 4) (.t 51), none⟩,
 ⟨(some 5), .mv (.k (.one (.v (.bool) (true)))), none⟩])
 .ret)
 .skip))
 (.seq
 (.reg false [
 ⟨(some 52), .mkfn 51 [(.t 9), (.t 8)], none⟩,
 ⟨(some 10), .mv (.t 52), none⟩])
 (.seq
 (.reg false [
 ⟨(some 53), .fieldA 0 (.t 6), none⟩,
 ⟨(some 54), .load false 1 (.t 53), none⟩,
 ⟨(some 55), .bin .sub (.t 54) (.k (.one (.v (.int .i64) ((1 : Int))))), none⟩,
 ⟨(some 56), .fieldA 0 (.t 6), none⟩,
 ⟨none, .store 1 (.t 56) (.t 55), none⟩])
 (.seq
 (.seq
 (.reg false [
 ⟨(some 57), .fieldA 1 (.t 6), none⟩,
 ⟨(some 58), .load false 1 (.t 57), none⟩,
 ⟨(some 59), .len (.t 58), none⟩,
 ⟨(some 60), .mv (.k (.one (.v (.int .i64) ((0 : Int))))), none⟩])
 (.join ⟨[(6, .one (.c (.ptr0 6 0))), (4, .one (.c (.ptr0 4 0)))], [(4, .box [.c (.v (.int .i64)), .c (.full 500002 2)]), (6, .box [.c (.v (.int .i64)), .c (.full 500003 2)]), (500002, .row true .froz [.int .i64, .int .i64]), (500003, .row true .froz [.int .i64, .int .i64])]⟩ [4, 6, 8, 9, 500000, 500001, 500002, 500003] [(true, 4, 1, 500002, .froz, []), (true, 6, 1, 500003, .froz, [])]
 (.block 0
 (.loop 0 ⟨[(4, .one (.c (.ptr0 4 0))), (6, .one (.c (.ptr0 6 0))), (10, .one (.fn 51 [.ptr0 9 0, .ptr0 8 0])), (58, .one (.c (.full 500001 2))), (59, .one (.c (.v (.int .i64)))), (60, .one (.c (.v (.int .i64))))], [(4, .box [.c (.v (.int .i64)), .c (.full 500000 2)]), (6, .box [.c (.v (.int .i64)), .c (.full 500001 2)]), (8, .box [.c (.v (.int .i64))]), (9, .box [.c (.v (.int .i64))]), (500000, .row true .froz [.int .i64, .int .i64]), (500001, .row true .froz [.int .i64, .int .i64])]⟩ [2, 4, 17000, 6, 8, 9, 12, 500000, 500001] [(true, 4, 1, 500000, .froz, []), (true, 6, 1, 500001, .froz, [])]
 (.seq
 (.reg false [
 ⟨(some 61), .bin .lss (.t 60) (.t 59), none⟩])
 (.seq
 (.cond (.t 61)
 .skip
 (.exit 0))
 (.seq
 (.block 1
 (.seq
 (.reg false [
 ⟨(some 62), .mv (.t 60), none⟩,
 ⟨(some 63), .idxA 2 (.t 58) (.t 60), none⟩,
 ⟨(some 64), .load true 2 (.t 63), none⟩,
 ⟨(some 12), .alloc [.v (.int .i64) ((0 : Int)), .v (.int .i64) ((0 : Int))], none⟩,
 ⟨(some 11), .mv (.t 62), none⟩,
 ⟨none, .store 2 (.t 12) (.t 64), none⟩])
 (.reg true [
 ⟨(some 65), .fieldA 1 (.t 6), none⟩,
 ⟨(some 66), .load false 1 (.t 65), none⟩,
 ⟨(some 67), .mv (.t 11), none⟩,
 ⟨(some 68), .mv (.t 10), none⟩,
 ⟨(some 69), .fieldA 0 (.t 12), none⟩,
 ⟨(some 70), .load false 1 (.t 69), none⟩,
 ⟨(some 71), .callv .froz (.t 68) [(.t 70)], none⟩,
 ⟨(some 72), .mv (.t 10), none⟩,
 ⟨(some 73), .fieldA 1 (.t 12), none⟩,
 ⟨(some 74), .load false 1 (.t 73), none⟩,
 ⟨(some 75), .callv .froz (.t 72) [(.t 74)], none⟩,
 ⟨(some 76), .build [.v (.int .i64) ((0 : Int)), .v (.int .i64) ((0 : Int))] [(0, 1, (.t 71)), (1, 1, (.t 75))], none⟩,
 ⟨(some 77), .idxA 2 (.t 66) (.t 67), none⟩,
 ⟨none, .store 2 (.t 77) (.t 76), none⟩])))
 (.reg false [
 ⟨(some 78), .bin .add (.t 60) (.k (.one (.v (.int .i64) ((1 : Int))))), none⟩,
 ⟨(some 60), .mv (.t 78), none⟩]))))))))
 (.seq
 (.reg false [
 ⟨(some 79), .load true 2 (.t 6), none⟩,
 ⟨none, .store 2 (.t 4) (.t 79), none⟩,
 ⟨(some 5), .mv (.k (.one (.v (.bool) (true)))), none⟩])
 .ret)))))))))
def ms_impl_ContractEdge : List MRes := [.cell 4 2 true, .tmp 5]
theorem n_impl_ContractEdge (NN : Nat) (x : DLL (Sig.tys ag_impl_ContractEdge)) : runS NN [fn_impl_DeleteEdge, fn_impl_ContractEdge_1] sc_impl_ContractEdge ms_impl_ContractEdge ag_impl_ContractEdge rs_impl_ContractEdge x = G_impl_ContractEdge NN x := by kernel_rfl
theorem k_impl_ContractEdge : chkS Go.Proofs.Try.prog 29 sc_impl_ContractEdge.er ms_impl_ContractEdge 2 = true := by decide +kernel
theorem p_impl_ContractEdge : PureSpec Go.Proofs.Try.prog 29 fn_impl_ContractEdge.M ∧ chkFun Go.Proofs.Try.prog 29 = true :=
  pure_of_runS (T := [fn_impl_DeleteEdge, fn_impl_ContractEdge_1]) (sc := sc_impl_ContractEdge) (ms := ms_impl_ContractEdge) (args := ag_impl_ContractEdge) (res := rs_impl_ContractEdge) (SOk.cons p_impl_DeleteEdge <| SOk.cons p_impl_ContractEdge_1 <| SOk.nil) follows_ok k_impl_ContractEdge F_impl_ContractEdge fun x y h => (n_impl_ContractEdge FUEL x).trans (f_impl_ContractEdge x y h)

def fn_laws_eqEdge : SFn := ⟨58, ag_laws_eqEdge, mu_laws_eqEdge, rs_laws_eqEdge, F_laws_eqEdge⟩
def sc_laws_eqEdge : SCode :=
 (.seq
 (.reg false [
 ⟨(some 2), .box 2 (.t 0), none⟩,
 ⟨(some 3), .box 2 (.t 1), none⟩,
 ⟨(some 4), .mv (.k (.one (.v (.bool) (false)))), none⟩])
 (.seq
 (.seq
 (.reg false [
 ⟨(some 5), .fieldA 0 (.t 2), none⟩,
 ⟨(some 6), .load false 1 (.t 5), none⟩,
 ⟨(some 7), .fieldA 0 (.t 3), none⟩,
 ⟨(some 8), .load false 1 (.t 7), none⟩,
 ⟨(some 9), .bin .neq (.t 6) (.t 8), none⟩])
 (.cond (.t 9)
 (.seq
 (.reg false [
 ⟨(some 4), .mv (.k (.one (.v (.bool) (false)))), none⟩])
 .ret)
 .skip))
 (.seq
 (.seq
 (.reg false [
 ⟨(some 10), .fieldA 1 (.t 2), none⟩,
 ⟨(some 11), .load false 1 (.t 10), none⟩,
 ⟨(some 12), .fieldA 1 (.t 3), none⟩,
 ⟨(some 13), .load false 1 (.t 12), none⟩,
 ⟨(some 14), .bin .neq (.t 11) (.t 13), none⟩])
 (.cond (.t 14)
 (.seq
 (.reg false [
 ⟨(some 4), .mv (.k (.one (.v (.bool) (false)))), none⟩])
 .ret)
 .skip))
 (.seq
 (.reg false [
 ⟨(some 4), .mv (.k (.one (.v (.bool) (true)))), none⟩])
 .ret))))
def ms_laws_eqEdge : List MRes := [.tmp 4]
theorem n_laws_eqEdge (NN : Nat) (x : DLL (Sig.tys ag_laws_eqEdge)) : runS NN [] sc_laws_eqEdge ms_laws_eqEdge ag_laws_eqEdge rs_laws_eqEdge x = G_laws_eqEdge NN x := by kernel_rfl
theorem k_laws_eqEdge : chkS Go.Proofs.Try.prog 58 sc_laws_eqEdge.er ms_laws_eqEdge 2 = true := by decide +kernel
theorem p_laws_eqEdge : PureSpec Go.Proofs.Try.prog 58 fn_laws_eqEdge.M ∧ chkFun Go.Proofs.Try.prog 58 = true :=
  pure_of_runS (T := []) (sc := sc_laws_eqEdge) (ms := ms_laws_eqEdge) (args := ag_laws_eqEdge) (res := rs_laws_eqEdge) (SOk.nil) follows_ok k_laws_eqEdge F_laws_eqEdge fun x y h => (n_laws_eqEdge FUEL x).trans (f_laws_eqEdge x y h)

def fn_laws_eqEdgeS : SFn := ⟨38, ag_laws_eqEdgeS, mu_laws_eqEdgeS, rs_laws_eqEdgeS, F_laws_eqEdgeS⟩
def sc_laws_eqEdgeS : SCode :=
 (.seq
 (.reg false [
 ⟨(some 4), .mv (.k (.one (.v (.bool) (false)))), none⟩])
 (.seq
 (.seq
 (.reg false [
 ⟨(some 6), .mv (.t 0), none⟩,
 ⟨(some 7), .len (.t 6), none⟩,
 ⟨(some 8), .mv (.t 1), none⟩,
 ⟨(some 9), .len (.t 8), none⟩,
 ⟨(some 10), .bin .neq (.t 7) (.t 9), none⟩])
 (.cond (.t 10)
 (.seq
 (.reg false [
 ⟨(some 4), .mv (.k (.one (.v (.bool) (false)))), none⟩])
 .ret)
 .skip))
 (.seq
 (.seq
 (.reg false [
 ⟨(some 5), .mv (.k (.one (.v (.int .i64) ((0 : Int))))), none⟩])
 (.join ⟨[], []⟩ [] []
 (.block 0
 (.loop 0 ⟨[(0, .one (.c (.v (.list [.int .i64, .int .i64])))), (1, .one (.c (.v (.list [.int .i64, .int .i64])))), (5, .one (.c (.v (.int .i64))))], []⟩ [] []
 (.seq
 (.seq
 (.reg false [
 ⟨(some 11), .mv (.t 5), none⟩,
 ⟨(some 12), .mv (.t 0), none⟩,
 ⟨(some 13), .len (.t 12), none⟩,
 ⟨(some 14), .bin .lss (.t 11) (.t 13), none⟩])
 (.cond (.t 14)
 .skip
 (.exit 0)))
 (.seq
 (.block 1
 (.seq
 (.reg true [
 ⟨(some 17), .mv (.t 0), none⟩,
 ⟨(some 18), .mv (.t 5), none⟩,
 ⟨(some 19), .idxA 2 (.t 17) (.t 18), none⟩,
 ⟨(some 20), .load true 2 (.t 19), none⟩,
 ⟨(some 21), .mv (.t 1), none⟩,
 ⟨(some 22), .mv (.t 5), none⟩,
 ⟨(some 23), .idxA 2 (.t 21) (.t 22), none⟩,
 ⟨(some 24), .load true 2 (.t 23), none⟩,
 ⟨(some 25), .call .froz 58 [(.t 20), (.t 24)], none⟩,
 ⟨(some 26), .un .not (.t 25), none⟩])
 (.cond (.t 26)
 (.seq
 (.reg false [
 ⟨(some 4), .mv (.k (.one (.v (.bool) (false)))), none⟩])
 .ret)
 .skip)))
 (.reg false [
 ⟨(some 15), .mv (.t 5), none⟩,
 ⟨(some 16), .bin .add (.t 15) (.k (.one (.v (.int .i64) ((1 : Int))))), none⟩,
 ⟨(some 5), .mv (.t 16), none⟩])))))))
 (.seq
 (.reg false [
 ⟨(some 4), .mv (.k (.one (.v (.bool) (true)))), none⟩])
 .ret))))
def ms_laws_eqEdgeS : List MRes := [.tmp 4]
theorem n_laws_eqEdgeS (NN : Nat) (x : DLL (Sig.tys ag_laws_eqEdgeS)) : runS NN [fn_laws_eqEdge] sc_laws_eqEdgeS ms_laws_eqEdgeS ag_laws_eqEdgeS rs_laws_eqEdgeS x = G_laws_eqEdgeS NN x := by kernel_rfl
theorem k_laws_eqEdgeS : chkS Go.Proofs.Try.prog 38 sc_laws_eqEdgeS.er ms_laws_eqEdgeS 2 = true := by decide +kernel
theorem p_laws_eqEdgeS : PureSpec Go.Proofs.Try.prog 38 fn_laws_eqEdgeS.M ∧ chkFun Go.Proofs.Try.prog 38 = true :=
  pure_of_runS (T := [fn_laws_eqEdge]) (sc := sc_laws_eqEdgeS) (ms := ms_laws_eqEdgeS) (args := ag_laws_eqEdgeS) (res := rs_laws_eqEdgeS) (SOk.cons p_laws_eqEdge <| SOk.nil) follows_ok k_laws_eqEdgeS F_laws_eqEdgeS fun x y h => (n_laws_eqEdgeS FUEL x).trans (f_laws_eqEdgeS x y h)

def fn_laws_eqGraph : SFn := ⟨15, ag_laws_eqGraph, mu_laws_eqGraph, rs_laws_eqGraph, F_laws_eqGraph⟩
def sc_laws_eqGraph : SCode :=
 (.seq
 (.reg false [
 ⟨(some 2), .box 2 (.t 0), none⟩,
 ⟨(some 3), .box 2 (.t 1), none⟩,
 ⟨(some 4), .mv (.k (.one (.v (.bool) (false)))), none⟩])
 (.seq
 (.seq
 (.reg false [
 ⟨(some 5), .fieldA 0 (.t 2), none⟩,
 ⟨(some 6), .load false 1 (.t 5), none⟩,
 ⟨(some 7), .fieldA 0 (.t 3), none⟩,
 ⟨(some 8), .load false 1 (.t 7), none⟩,
 ⟨(some 9), .bin .neq (.t 6) (.t 8), none⟩])
 (.cond (.t 9)
 (.seq
 (.reg false [
 ⟨(some 4), .mv (.k (.one (.v (.bool) (false)))), none⟩])
 .ret)
 .skip))
 (.seq
 (.seq
 (.reg false [
 ⟨(some 10), .fieldA 1 (.t 2), none⟩,
 ⟨(some 11), .load false 1 (.t 10), none⟩,
 ⟨(some 12), .fieldA 1 (.t 3), none⟩,
 ⟨(some 13), .load false 1 (.t 12), none⟩,
 ⟨(some 14), .call .froz 38 [(.t 11), (.t 13)], none⟩,
 ⟨(some 15), .un .not (.t 14), none⟩])
 (.cond (.t 15)
 (.seq
 (.reg false [
 ⟨(some 4), .mv (.k (.one (.v (.bool) (false)))), none⟩])
 .ret)
 .skip))
 (.seq
 (.reg false [
 ⟨(some 4), .mv (.k (.one (.v (.bool) (true)))), none⟩])
 .ret))))
def ms_laws_eqGraph : List MRes := [.tmp 4]
theorem n_laws_eqGraph (NN : Nat) (x : DLL (Sig.tys ag_laws_eqGraph)) : runS NN [fn_laws_eqEdgeS] sc_laws_eqGraph ms_laws_eqGraph ag_laws_eqGraph rs_laws_eqGraph x = G_laws_eqGraph NN x := by kernel_rfl
theorem k_laws_eqGraph : chkS Go.Proofs.Try.prog 15 sc_laws_eqGraph.er ms_laws_eqGraph 2 = true := by decide +kernel
theorem p_laws_eqGraph : PureSpec Go.Proofs.Try.prog 15 fn_laws_eqGraph.M ∧ chkFun Go.Proofs.Try.prog 15 = true :=
  pure_of_runS (T := [fn_laws_eqEdgeS]) (sc := sc_laws_eqGraph) (ms := ms_laws_eqGraph) (args := ag_laws_eqGraph) (res := rs_laws_eqGraph) (SOk.cons p_laws_eqEdgeS <| SOk.nil) follows_ok k_laws_eqGraph F_laws_eqGraph fun x y h => (n_laws_eqGraph FUEL x).trans (f_laws_eqGraph x y h)

def fn_laws_markEdgeS : SFn := ⟨54, ag_laws_markEdgeS, mu_laws_markEdgeS, rs_laws_markEdgeS, F_laws_markEdgeS⟩
def sc_laws_markEdgeS : SCode :=
 (.seq
 (.reg false [
 ⟨(some 4), .mv (.k (.one (.v (.int .i64) ((0 : Int))))), none⟩])
 (.seq
 (.seq
 (.reg false [
 ⟨(some 5), .mv (.k (.one (.v (.int .i64) ((0 : Int))))), none⟩])
 (.join ⟨[(1, .one (.c (.v (.int .i64))))], [(1000000, .row false .froz [.int .i64, .int .i64])]⟩ [1000000] []
 (.block 0
 (.loop 0 ⟨[(0, .one (.c (.full 1000000 2))), (1, .one (.c (.v (.int .i64)))), (5, .one (.c (.v (.int .i64))))], [(1000000, .row false .froz [.int .i64, .int .i64])]⟩ [1000000, 500000] [(false, 0, 0, 500000, .froz, [])]
 (.seq
 (.seq
 (.reg false [
 ⟨(some 6), .mv (.t 5), none⟩,
 ⟨(some 7), .mv (.t 0), none⟩,
 ⟨(some 8), .len (.t 7), none⟩,
 ⟨(some 9), .bin .lss (.t 6) (.t 8), none⟩])
 (.cond (.t 9)
 .skip
 (.exit 0)))
 (.seq
 (.block 1
 (.seq
 (.reg false [
 ⟨(some 12), .mv (.t 0), none⟩,
 ⟨(some 13), .mv (.t 5), none⟩,
 ⟨(some 14), .mv (.t 1), none⟩,
 ⟨(some 15), .idxA 2 (.t 12) (.t 13), none⟩,
 ⟨(some 16), .fieldA 0 (.t 15), none⟩,
 ⟨none, .store 1 (.t 16) (.t 14), none⟩])
 (.seq
 (.reg false [
 ⟨(some 17), .mv (.t 1), none⟩,
 ⟨(some 18), .bin .add (.t 17) (.k (.one (.v (.int .i64) ((1 : Int))))), none⟩,
 ⟨(some 1), .mv (.t 18), none⟩])
 (.seq
 (.reg false [
 ⟨(some 19), .mv (.t 0), none⟩,
 ⟨(some 20), .mv (.t 5), none⟩,
 ⟨(some 21), .mv (.t 1), none⟩,
 ⟨(some 22), .idxA 2 (.t 19) (.t 20), none⟩,
 ⟨(some 23), .fieldA 1 (.t 22), none⟩,
 ⟨none, .store 1 (.t 23) (.t 21), none⟩])
 (.reg false [
 ⟨(some 24), .mv (.t 1), none⟩,
 ⟨(some 25), .bin .add (.t 24) (.k (.one (.v (.int .i64) ((1 : Int))))), none⟩,
 ⟨(some 1), .mv (.t 25), none⟩])))))
 (.reg false [
 ⟨(some 10), .mv (.t 5), none⟩,
 ⟨(some 11), .bin .add (.t 10) (.k (.one (.v (.int .i64) ((1 : Int))))), none⟩,
 ⟨(some 5), .mv (.t 11), none⟩])))))))
 (.seq
 (.reg false [
 ⟨(some 26), .mv (.t 1), none⟩,
 ⟨(some 4), .mv (.t 26), none⟩])
 .ret)))
def ms_laws_markEdgeS : List MRes := [.tmp 4]
theorem n_laws_markEdgeS (NN : Nat) (x : DLL (Sig.tys ag_laws_markEdgeS)) : runMS NN [] sc_laws_markEdgeS ms_laws_markEdgeS ag_laws_markEdgeS mu_laws_markEdgeS rs_laws_markEdgeS x = G_laws_markEdgeS NN x := by kernel_rfl
theorem k_laws_markEdgeS : chkS Go.Proofs.Try.prog 54 sc_laws_markEdgeS.er ms_laws_markEdgeS 2 = true := by decide +kernel
theorem p_laws_markEdgeS : MutSpec Go.Proofs.Try.prog 54 mu_laws_markEdgeS fn_laws_markEdgeS.MM ∧ chkFun Go.Proofs.Try.prog 54 = true :=
  mut_of_runMS (T := []) (sc := sc_laws_markEdgeS) (ms := ms_laws_markEdgeS) (args := ag_laws_markEdgeS) (mu := mu_laws_markEdgeS) (res := rs_laws_markEdgeS) (SOk.nil) follows_ok k_laws_markEdgeS F_laws_markEdgeS fun x y h => (n_laws_markEdgeS FUEL x).trans (f_laws_markEdgeS x y h)

def fn_laws_markGraph : SFn := ⟨32, ag_laws_markGraph, mu_laws_markGraph, rs_laws_markGraph, F_laws_markGraph⟩
def sc_laws_markGraph : SCode :=
 (.seq
 (.reg false [
 ⟨(some 2), .box 2 (.t 0), none⟩,
 ⟨(some 4), .mv (.k (.one (.v (.int .i64) ((0 : Int))))), none⟩])
 (.seq
 (.reg false [
 ⟨(some 5), .fieldA 1 (.t 2), none⟩,
 ⟨(some 6), .load false 1 (.t 5), none⟩,
 ⟨(some 7), .mv (.t 1), none⟩,
 ⟨(some 8), .callm .froz 54 [(.t 6), (.t 7)], none⟩,
 ⟨(some 1), .mv (.t 8), none⟩])
 (.seq
 (.reg false [
 ⟨(some 9), .mv (.t 1), none⟩,
 ⟨(some 4), .mv (.t 9), none⟩])
 .ret)))
def ms_laws_markGraph : List MRes := [.tmp 4]
theorem n_laws_markGraph (NN : Nat) (x : DLL (Sig.tys ag_laws_markGraph)) : runMS NN [fn_laws_markEdgeS] sc_laws_markGraph ms_laws_markGraph ag_laws_markGraph mu_laws_markGraph rs_laws_markGraph x = G_laws_markGraph NN x := by kernel_rfl
theorem k_laws_markGraph : chkS Go.Proofs.Try.prog 32 sc_laws_markGraph.er ms_laws_markGraph 2 = true := by decide +kernel
theorem p_laws_markGraph : MutSpec Go.Proofs.Try.prog 32 mu_laws_markGraph fn_laws_markGraph.MM ∧ chkFun Go.Proofs.Try.prog 32 = true :=
  mut_of_runMS (T := [fn_laws_markEdgeS]) (sc := sc_laws_markGraph) (ms := ms_laws_markGraph) (args := ag_laws_markGraph) (mu := mu_laws_markGraph) (res := rs_laws_markGraph) (SOk.consM p_laws_markEdgeS <| SOk.nil) follows_ok k_laws_markGraph F_laws_markGraph fun x y h => (n_laws_markGraph FUEL x).trans (f_laws_markGraph x y h)

def fn_laws_heldEdgeS : SFn := ⟨55, ag_laws_heldEdgeS, mu_laws_heldEdgeS, rs_laws_heldEdgeS, F_laws_heldEdgeS⟩
def sc_laws_heldEdgeS : SCode :=
 (.seq
 (.reg false [
 ⟨(some 4), .mv (.k (.one (.v (.int .i64) ((0 : Int))))), none⟩])
 (.seq
 (.seq
 (.reg false [
 ⟨(some 5), .mv (.k (.one (.v (.int .i64) ((0 : Int))))), none⟩])
 (.join ⟨[(1, .one (.c (.v (.int .i64))))], []⟩ [] []
 (.block 0
 (.loop 0 ⟨[(0, .one (.c (.v (.list [.int .i64, .int .i64])))), (1, .one (.c (.v (.int .i64)))), (5, .one (.c (.v (.int .i64))))], []⟩ [] []
 (.seq
 (.seq
 (.reg false [
 ⟨(some 6), .mv (.t 5), none⟩,
 ⟨(some 7), .mv (.t 0), none⟩,
 ⟨(some 8), .len (.t 7), none⟩,
 ⟨(some 9), .bin .lss (.t 6) (.t 8), none⟩])
 (.cond (.t 9)
 .skip
 (.exit 0)))
 (.seq
 (.block 1
 (.seq
 (.seq
 (.reg false [
 ⟨(some 12), .mv (.t 0), none⟩,
 ⟨(some 13), .mv (.t 5), none⟩,
 ⟨(some 14), .idxA 2 (.t 12) (.t 13), none⟩,
 ⟨(some 15), .fieldA 0 (.t 14), none⟩,
 ⟨(some 16), .load false 1 (.t 15), none⟩,
 ⟨(some 17), .mv (.t 1), none⟩,
 ⟨(some 18), .bin .neq (.t 16) (.t 17), none⟩])
 (.cond (.t 18)
 (.seq
 (.reg false [
 ⟨(some 4), .mv (.k (.one (.v (.int .i64) (((-1) : Int))))), none⟩])
 .ret)
 .skip))
 (.seq
 (.reg false [
 ⟨(some 19), .mv (.t 1), none⟩,
 ⟨(some 20), .bin .add (.t 19) (.k (.one (.v (.int .i64) ((1 : Int))))), none⟩,
 ⟨(some 1), .mv (.t 20), none⟩])
 (.seq
 (.seq
 (.reg false [
 ⟨(some 21), .mv (.t 0), none⟩,
 ⟨(some 22), .mv (.t 5), none⟩,
 ⟨(some 23), .idxA 2 (.t 21) (.t 22), none⟩,
 ⟨(some 24), .fieldA 1 (.t 23), none⟩,
 ⟨(some 25), .load false 1 (.t 24), none⟩,
 ⟨(some 26), .mv (.t 1), none⟩,
 ⟨(some 27), .bin .neq (.t 25) (.t 26), none⟩])
 (.cond (.t 27)
 (.seq
 (.reg false [
 ⟨(some 4), .mv (.k (.one (.v (.int .i64) (((-1) : Int))))), none⟩])
 .ret)
 .skip))
 (.reg false [
 ⟨(some 28), .mv (.t 1), none⟩,
 ⟨(some 29), .bin .add (.t 28) (.k (.one (.v (.int .i64) ((1 : Int))))), none⟩,
 ⟨(some 1), .mv (.t 29), none⟩])))))
 (.reg false [
 ⟨(some 10), .mv (.t 5), none⟩,
 ⟨(some 11), .bin .add (.t 10) (.k (.one (.v (.int .i64) ((1 : Int))))), none⟩,
 ⟨(some 5), .mv (.t 11), none⟩])))))))
 (.seq
 (.reg false [
 ⟨(some 30), .mv (.t 1), none⟩,
 ⟨(some 4), .mv (.t 30), none⟩])
 .ret)))
def ms_laws_heldEdgeS : List MRes := [.tmp 4]
theorem n_laws_heldEdgeS (NN : Nat) (x : DLL (Sig.tys ag_laws_heldEdgeS)) : runS NN [] sc_laws_heldEdgeS ms_laws_heldEdgeS ag_laws_heldEdgeS rs_laws_heldEdgeS x = G_laws_heldEdgeS NN x := by kernel_rfl
theorem k_laws_heldEdgeS : chkS Go.Proofs.Try.prog 55 sc_laws_heldEdgeS.er ms_laws_heldEdgeS 2 = true := by decide +kernel
theorem p_laws_heldEdgeS : PureSpec Go.Proofs.Try.prog 55 fn_laws_heldEdgeS.M ∧ chkFun Go.Proofs.Try.prog 55 = true :=
  pure_of_runS (T := []) (sc := sc_laws_heldEdgeS) (ms := ms_laws_heldEdgeS) (args := ag_laws_heldEdgeS) (res := rs_laws_heldEdgeS) (SOk.nil) follows_ok k_laws_heldEdgeS F_laws_heldEdgeS fun x y h => (n_laws_heldEdgeS FUEL x).trans (f_laws_heldEdgeS x y h)

def fn_laws_heldGraph : SFn := ⟨33, ag_laws_heldGraph, mu_laws_heldGraph, rs_laws_heldGraph, F_laws_heldGraph⟩
def sc_laws_heldGraph : SCode :=
 (.seq
 (.reg false [
 ⟨(some 2), .box 2 (.t 0), none⟩,
 ⟨(some 4), .mv (.k (.one (.v (.int .i64) ((0 : Int))))), none⟩])
 (.seq
 (.reg false [
 ⟨(some 5), .fieldA 1 (.t 2), none⟩,
 ⟨(some 6), .load false 1 (.t 5), none⟩,
 ⟨(some 7), .mv (.t 1), none⟩,
 ⟨(some 8), .call .froz 55 [(.t 6), (.t 7)], none⟩,
 ⟨(some 1), .mv (.t 8), none⟩])
 (.seq
 (.seq
 (.reg false [
 ⟨(some 9), .mv (.t 1), none⟩,
 ⟨(some 10), .bin .lss (.t 9) (.k (.one (.v (.int .i64) ((0 : Int))))), none⟩])
 (.cond (.t 10)
 (.seq
 (.reg false [
 ⟨(some 4), .mv (.k (.one (.v (.int .i64) (((-1) : Int))))), none⟩])
 .ret)
 .skip))
 (.seq
 (.reg false [
 ⟨(some 11), .mv (.t 1), none⟩,
 ⟨(some 4), .mv (.t 11), none⟩])
 .ret))))
def ms_laws_heldGraph : List MRes := [.tmp 4]
theorem n_laws_heldGraph (NN : Nat) (x : DLL (Sig.tys ag_laws_heldGraph)) : runS NN [fn_laws_heldEdgeS] sc_laws_heldGraph ms_laws_heldGraph ag_laws_heldGraph rs_laws_heldGraph x = G_laws_heldGraph NN x := by kernel_rfl
theorem k_laws_heldGraph : chkS Go.Proofs.Try.prog 33 sc_laws_heldGraph.er ms_laws_heldGraph 2 = true := by decide +kernel
theorem p_laws_heldGraph : PureSpec Go.Proofs.Try.prog 33 fn_laws_heldGraph.M ∧ chkFun Go.Proofs.Try.prog 33 = true :=
  pure_of_runS (T := [fn_laws_heldEdgeS]) (sc := sc_laws_heldGraph) (ms := ms_laws_heldGraph) (args := ag_laws_heldGraph) (res := rs_laws_heldGraph) (SOk.cons p_laws_heldEdgeS <| SOk.nil) follows_ok k_laws_heldGraph F_laws_heldGraph fun x y h => (n_laws_heldGraph FUEL x).trans (f_laws_heldGraph x y h)

def fn_laws_FnExactContractEdge : SFn := ⟨10, ag_laws_FnExactContractEdge, mu_laws_FnExactContractEdge, rs_laws_FnExactContractEdge, F_laws_FnExactContractEdge⟩
def sc_laws_FnExactContractEdge : SCode :=
 (.seq
 (.reg false [
 ⟨(some 2), .box 2 (.t 0), none⟩,
 ⟨(some 4), .mv (.k (.one (.v (.bool) (false)))), none⟩])
 (.seq
 (.reg false [
 ⟨(some 5), .mv (.k (.one (.v (.int .i64) ((1048576 : Int))))), none⟩])
 (.seq
 (.reg false [
 ⟨(some 16), .load true 2 (.t 2), none⟩,
 ⟨(some 17), .mv (.t 5), none⟩,
 ⟨(some 18), .call .froz 11 [(.t 16), (.t 17)], none⟩,
 ⟨(some 5), .mv (.t 18), none⟩])
 (.seq
 (.seq
 (.reg false [
 ⟨(some 19), .mv (.t 5), none⟩,
 ⟨(some 20), .bin .lss (.t 19) (.k (.one (.v (.int .i64) ((0 : Int))))), none⟩])
 (.cond (.t 20)
 (.seq
 (.reg false [
 ⟨(some 4), .mv (.k (.one (.v (.bool) (true)))), none⟩])
 .ret)
 .skip))
 (.seq
 (.reg false [
 ⟨(some 22), .load true 2 (.t 2), none⟩,
 ⟨(some 23), .call .froz 13 [(.t 22)], none⟩,
 ⟨(some 24), .mv (.t 1), none⟩,
 ⟨(some 25), .call .froz 34 [(.t 23), (.t 24)], none⟩,
 ⟨(some 21), .mv (.t 25), none⟩,
 ⟨(some 26), .ext 0 (.t 21), none⟩,
 ⟨(some 27), .ext 1 (.t 21), none⟩,
 ⟨(some 6), .alloc [.v (.int .i64) ((0 : Int)), .nil [.int .i64, .int .i64]], none⟩,
 ⟨none, .store 2 (.t 6) (.t 26), none⟩,
 ⟨(some 7), .mv (.t 27), none⟩])
 (.seq
 (.reg false [
 ⟨(some 28), .load true 2 (.t 2), none⟩,
 ⟨(some 29), .call .froz 13 [(.t 28)], none⟩,
 ⟨(some 8), .alloc [.v (.int .i64) ((0 : Int)), .nil [.int .i64, .int .i64]], none⟩,
 ⟨none, .store 2 (.t 8) (.t 29), none⟩])
 (.seq
 (.reg false [
 ⟨(some 31), .load true 2 (.t 8), none⟩,
 ⟨(some 32), .mv (.t 1), none⟩,
 ⟨(some 33), .call .froz 29 [(.t 31), (.t 32)], none⟩,
 ⟨(some 30), .mv (.t 33), none⟩,
 ⟨(some 34), .ext 0 (.t 30), none⟩,
 ⟨(some 35), .ext 1 (.t 30), none⟩,
 ⟨(some 9), .alloc [.v (.int .i64) ((0 : Int)), .nil [.int .i64, .int .i64]], none⟩,
 ⟨none, .store 2 (.t 9) (.t 34), none⟩,
 ⟨(some 10), .mv (.t 35), none⟩])
 (.seq
 (.seq
 (.reg false [
 ⟨(some 36), .load true 2 (.t 9), none⟩,
 ⟨(some 37), .load true 2 (.t 6), none⟩,
 ⟨(some 38), .call .froz 15 [(.t 36), (.t 37)], none⟩,
 ⟨(some 39), .un .not (.t 38), none⟩,
 ⟨(some 40), .mv (.t 39), none⟩,
 ⟨(some 41), .mv (.t 10), (some (40, false))⟩,
 ⟨(some 42), .mv (.t 7), (some (40, false))⟩,
 ⟨(some 43), .binb .neq (.t 41) (.t 42), (some (40, false))⟩,
 ⟨(some 44), .pick (.t 40) (.k (.one (.v (.bool) (true)))) (.t 43), none⟩])
 (.cond (.t 44)
 (.seq
 (.reg false [
 ⟨(some 4), .mv (.k (.one (.v (.bool) (false)))), none⟩])
 .ret)
 .skip))
 (.seq
 (.seq
 (.reg true [
 ⟨(some 45), .load true 2 (.t 8), none⟩,
 ⟨(some 46), .load true 2 (.t 2), none⟩,
 ⟨(some 47), .call .froz 13 [(.t 46)], none⟩,
 ⟨(some 48), .call .froz 15 [(.t 45), (.t 47)], none⟩,
 ⟨(some 49), .un .not (.t 48), none⟩])
 (.cond (.t 49)
 (.seq
 (.reg false [
 ⟨(some 4), .mv (.k (.one (.v (.bool) (false)))), none⟩])
 .ret)
 .skip))
 (.seq
 (.reg false [
 ⟨(some 11), .mv (.k (.one (.v (.int .i64) ((1 : Int))))), none⟩])
 (.seq
 (.reg false [
 ⟨(some 50), .load true 2 (.t 8), none⟩,
 ⟨(some 51), .mv (.t 11), none⟩,
 ⟨(some 52), .callm .froz 32 [(.t 50), (.t 51)], none⟩,
 ⟨(some 11), .mv (.t 52), none⟩])
 (.seq
 (.seq
 (.reg false [
 ⟨(some 53), .mv (.t 11), none⟩,
 ⟨(some 54), .bin .lss (.t 53) (.k (.one (.v (.int .i64) ((0 : Int))))), none⟩,
 ⟨(some 55), .mv (.t 54), none⟩,
 ⟨(some 56), .load true 2 (.t 9), (some (55, false))⟩,
 ⟨(some 57), .load true 2 (.t 6), (some (55, false))⟩,
 ⟨(some 58), .call .froz 15 [(.t 56), (.t 57)], (some (55, false))⟩,
 ⟨(some 59), .un .not (.t 58), (some (55, false))⟩,
 ⟨(some 60), .pick (.t 55) (.k (.one (.v (.bool) (true)))) (.t 59), none⟩,
 ⟨(some 61), .mv (.t 60), none⟩,
 ⟨(some 62), .mv (.t 10), (some (61, false))⟩,
 ⟨(some 63), .mv (.t 7), (some (61, false))⟩,
 ⟨(some 64), .binb .neq (.t 62) (.t 63), (some (61, false))⟩,
 ⟨(some 65), .pick (.t 61) (.k (.one (.v (.bool) (true)))) (.t 64), none⟩])
 (.cond (.t 65)
 (.seq
 (.reg false [
 ⟨(some 4), .mv (.k (.one (.v (.bool) (false)))), none⟩])
 .ret)
 .skip))
 (.seq
 (.reg false [
 ⟨(some 12), .mv (.k (.one (.v (.int .i64) ((1 : Int))))), none⟩])
 (.seq
 (.reg false [
 ⟨(some 66), .load true 2 (.t 9), none⟩,
 ⟨(some 67), .mv (.t 12), none⟩,
 ⟨(some 68), .callm .froz 32 [(.t 66), (.t 67)], none⟩,
 ⟨(some 12), .mv (.t 68), none⟩])
 (.seq
 (.reg false [
 ⟨(some 13), .mv (.k (.one (.v (.int .i64) ((1 : Int))))), none⟩])
 (.seq
 (.reg false [
 ⟨(some 69), .load true 2 (.t 9), none⟩,
 ⟨(some 70), .mv (.t 13), none⟩,
 ⟨(some 71), .call .froz 33 [(.t 69), (.t 70)], none⟩,
 ⟨(some 13), .mv (.t 71), none⟩])
 (.seq
 (.seq
 (.reg false [
 ⟨(some 72), .mv (.t 13), none⟩,
 ⟨(some 73), .bin .lss (.t 72) (.k (.one (.v (.int .i64) ((0 : Int))))), none⟩])
 (.cond (.t 73)
 (.seq
 (.reg false [
 ⟨(some 4), .mv (.k (.one (.v (.bool) (false)))), none⟩])
 .ret)
 .skip))
 (.seq
 (.seq
 (.reg false [
 ⟨(some 74), .mv (.t 13), none⟩,
 ⟨(some 75), .mv (.t 12), none⟩,
 ⟨(some 76), .bin .neq (.t 74) (.t 75), none⟩])
 (.cond (.t 76)
 (.seq
 (.reg false [
 ⟨(some 4), .mv (.k (.one (.v (.bool) (false)))), none⟩])
 .ret)
 .skip))
 (.seq
 (.reg false [
 ⟨(some 78), .load true 2 (.t 2), none⟩,
 ⟨(some 79), .call .froz 13 [(.t 78)], none⟩,
 ⟨(some 80), .mv (.t 1), none⟩,
 ⟨(some 81), .call .froz 29 [(.t 79), (.t 80)], none⟩,
 ⟨(some 77), .mv (.t 81), none⟩,
 ⟨(some 82), .ext 0 (.t 77), none⟩,
 ⟨(some 83), .ext 1 (.t 77), none⟩,
 ⟨(some 14), .alloc [.v (.int .i64) ((0 : Int)), .nil [.int .i64, .int .i64]], none⟩,
 ⟨none, .store 2 (.t 14) (.t 82), none⟩,
 ⟨(some 15), .mv (.t 83), none⟩])
 (.seq
 (.seq
 (.reg false [
 ⟨(some 84), .load true 2 (.t 14), none⟩,
 ⟨(some 85), .load true 2 (.t 6), none⟩,
 ⟨(some 86), .call .froz 15 [(.t 84), (.t 85)], none⟩,
 ⟨(some 87), .un .not (.t 86), none⟩,
 ⟨(some 88), .mv (.t 87), none⟩,
 ⟨(some 89), .mv (.t 15), (some (88, false))⟩,
 ⟨(some 90), .mv (.t 7), (some (88, false))⟩,
 ⟨(some 91), .binb .neq (.t 89) (.t 90), (some (88, false))⟩,
 ⟨(some 92), .pick (.t 88) (.k (.one (.v (.bool) (true)))) (.t 91), none⟩])
 (.cond (.t 92)
 (.seq
 (.reg false [
 ⟨(some 4), .mv (.k (.one (.v (.bool) (false)))), none⟩])
 .ret)
 .skip))
 (.seq
 (.reg false [
 ⟨(some 13), .mv (.k (.one (.v (.int .i64) ((1 : Int))))), none⟩])
 (.seq
 (.reg false [
 ⟨(some 93), .load true 2 (.t 9), none⟩,
 ⟨(some 94), .mv (.t 13), none⟩,
 ⟨(some 95), .call .froz 33 [(.t 93), (.t 94)], none⟩,
 ⟨(some 13), .mv (.t 95), none⟩])
 (.seq
 (.seq
 (.reg false [
 ⟨(some 96), .mv (.t 13), none⟩,
 ⟨(some 97), .bin .lss (.t 96) (.k (.one (.v (.int .i64) ((0 : Int))))), none⟩])
 (.cond (.t 97)
 (.seq
 (.reg false [
 ⟨(some 4), .mv (.k (.one (.v (.bool) (false)))), none⟩])
 .ret)
 .skip))
 (.seq
 (.seq
 (.reg false [
 ⟨(some 98), .mv (.t 13), none⟩,
 ⟨(some 99), .mv (.t 12), none⟩,
 ⟨(some 100), .bin .neq (.t 98) (.t 99), none⟩])
 (.cond (.t 100)
 (.seq
 (.reg false [
 ⟨(some 4), .mv (.k (.one (.v (.bool) (false)))), none⟩])
 .ret)
 .skip))
 (.seq
 (.reg false [
 ⟨(some 4), .mv (.k (.one (.v (.bool) (true)))), none⟩])
 .ret)))))))))))))))))))))))))
def ms_laws_FnExactContractEdge : List MRes := [.tmp 4]
theorem n_laws_FnExactContractEdge (NN : Nat) (x : DLL (Sig.tys ag_laws_FnExactContractEdge)) : runS NN [fn_laws_szGraph, fn_laws_toGraph, fn_spec_ContractEdge, fn_impl_ContractEdge, fn_laws_eqGraph, fn_laws_markGraph, fn_laws_heldGraph] sc_laws_FnExactContractEdge ms_laws_FnExactContractEdge ag_laws_FnExactContractEdge rs_laws_FnExactContractEdge x = G_laws_FnExactContractEdge NN x := by kernel_rfl
theorem k_laws_FnExactContractEdge : chkS Go.Proofs.Try.prog 10 sc_laws_FnExactContractEdge.er ms_laws_FnExactContractEdge 2 = true := by decide +kernel
theorem p_laws_FnExactContractEdge : PureSpec Go.Proofs.Try.prog 10 fn_laws_FnExactContractEdge.M ∧ chkFun Go.Proofs.Try.prog 10 = true :=
  pure_of_runS (T := [fn_laws_szGraph, fn_laws_toGraph, fn_spec_ContractEdge, fn_impl_ContractEdge, fn_laws_eqGraph, fn_laws_markGraph, fn_laws_heldGraph]) (sc := sc_laws_FnExactContractEdge) (ms := ms_laws_FnExactContractEdge) (args := ag_laws_FnExactContractEdge) (res := rs_laws_FnExactContractEdge) (SOk.cons p_laws_szGraph <| SOk.cons p_laws_toGraph <| SOk.cons p_spec_ContractEdge <| SOk.cons p_impl_ContractEdge <| SOk.cons p_laws_eqGraph <| SOk.consM p_laws_markGraph <| SOk.cons p_laws_heldGraph <| SOk.nil) follows_ok k_laws_FnExactContractEdge F_laws_FnExactContractEdge fun x y h => (n_laws_FnExactContractEdge FUEL x).trans (f_laws_FnExactContractEdge x y h)

end Go.Am
