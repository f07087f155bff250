/- A_InverseMatrix: the code of the functions of FnExactInverseMatrix. No condition. -/
import Derived.Test.YtfhgjmihpplnjaaLInverseMatrix
import Derived.Test.YtfhgjmihpplnjaaBr2
import Derived.KernelRfl
import Derived.Test.YtfhgjmihpplnjaaRows
set_option linter.unusedVariables false
set_option maxRecDepth 100000
namespace Go.Am
theorem follows_ok : Go.Proofs.Try.prog.follows .mixedOrders = true := by decide +kernel
def fn_laws_szIntS : SFn := ⟨47, ag_laws_szIntS, mu_laws_szIntS, rs_laws_szIntS, F_laws_szIntS⟩
def sc_laws_szIntS : SCode :=
 (.seq
 (.reg false [
 ⟨(some 4), .mv (.k (.one (.v (.int .i64) ((0 : Int))))), none⟩])
 (.seq
 (.reg false [
 ⟨(some 5), .mv (.t 1), none⟩,
 ⟨(some 6), .mv (.t 0), none⟩,
 ⟨(some 7), .len (.t 6), none⟩,
 ⟨(some 8), .bin .sub (.t 5) (.t 7), none⟩,
 ⟨(some 1), .mv (.t 8), none⟩])
 (.seq
 (.seq
 (.reg false [
 ⟨(some 9), .mv (.t 1), none⟩,
 ⟨(some 10), .bin .lss (.t 9) (.k (.one (.v (.int .i64) ((0 : Int))))), none⟩])
 (.cond (.t 10)
 (.seq
 (.reg false [
 ⟨(some 4), .mv (.k (.one (.v (.int .i64) (((-1) : Int))))), none⟩])
 .ret)
 .skip))
 (.seq
 (.reg false [
 ⟨(some 11), .mv (.t 1), none⟩,
 ⟨(some 4), .mv (.t 11), none⟩])
 .ret))))
def ms_laws_szIntS : List MRes := [.tmp 4]
theorem n_laws_szIntS (NN : Nat) (x : DLL (Sig.tys ag_laws_szIntS)) : runS NN [] sc_laws_szIntS ms_laws_szIntS ag_laws_szIntS rs_laws_szIntS x = G_laws_szIntS NN x := by kernel_rfl
theorem k_laws_szIntS : chkS Go.Proofs.Try.prog 47 sc_laws_szIntS.er ms_laws_szIntS 2 = true := by decide +kernel
theorem p_laws_szIntS : PureSpec Go.Proofs.Try.prog 47 fn_laws_szIntS.M ∧ chkFun Go.Proofs.Try.prog 47 = true :=
  pure_of_runS (T := []) (sc := sc_laws_szIntS) (ms := ms_laws_szIntS) (args := ag_laws_szIntS) (res := rs_laws_szIntS) (SOk.nil) follows_ok k_laws_szIntS F_laws_szIntS fun x y h => (n_laws_szIntS FUEL x).trans (f_laws_szIntS x y h)

def fn_laws_szMatrix : SFn := ⟨15, ag_laws_szMatrix, mu_laws_szMatrix, rs_laws_szMatrix, F_laws_szMatrix⟩
def sc_laws_szMatrix : SCode :=
 (.seq
 (.reg false [
 ⟨(some 2), .box 3 (.t 0), none⟩,
 ⟨(some 4), .mv (.k (.one (.v (.int .i64) ((0 : Int))))), none⟩])
 (.seq
 (.reg false [
 ⟨(some 5), .fieldA 2 (.t 2), none⟩,
 ⟨(some 6), .load false 1 (.t 5), none⟩,
 ⟨(some 7), .mv (.t 1), none⟩,
 ⟨(some 8), .call .froz 47 [(.t 6), (.t 7)], none⟩,
 ⟨(some 1), .mv (.t 8), none⟩])
 (.seq
 (.seq
 (.reg false [
 ⟨(some 9), .mv (.t 1), none⟩,
 ⟨(some 10), .bin .lss (.t 9) (.k (.one (.v (.int .i64) ((0 : Int))))), none⟩])
 (.cond (.t 10)
 (.seq
 (.reg false [
 ⟨(some 4), .mv (.k (.one (.v (.int .i64) (((-1) : Int))))), none⟩])
 .ret)
 .skip))
 (.seq
 (.reg false [
 ⟨(some 11), .mv (.t 1), none⟩,
 ⟨(some 4), .mv (.t 11), none⟩])
 .ret))))
def ms_laws_szMatrix : List MRes := [.tmp 4]
theorem n_laws_szMatrix (NN : Nat) (x : DLL (Sig.tys ag_laws_szMatrix)) : runS NN [fn_laws_szIntS] sc_laws_szMatrix ms_laws_szMatrix ag_laws_szMatrix rs_laws_szMatrix x = G_laws_szMatrix NN x := by kernel_rfl
theorem k_laws_szMatrix : chkS Go.Proofs.Try.prog 15 sc_laws_szMatrix.er ms_laws_szMatrix 2 = true := by decide +kernel
theorem p_laws_szMatrix : PureSpec Go.Proofs.Try.prog 15 fn_laws_szMatrix.M ∧ chkFun Go.Proofs.Try.prog 15 = true :=
  pure_of_runS (T := [fn_laws_szIntS]) (sc := sc_laws_szMatrix) (ms := ms_laws_szMatrix) (args := ag_laws_szMatrix) (res := rs_laws_szMatrix) (SOk.cons p_laws_szIntS <| SOk.nil) follows_ok k_laws_szMatrix F_laws_szMatrix fun x y h => (n_laws_szMatrix FUEL x).trans (f_laws_szMatrix x y h)

def fn_laws_toIntS : SFn := ⟨50, ag_laws_toIntS, mu_laws_toIntS, rs_laws_toIntS, F_laws_toIntS⟩
def sc_laws_toIntS : SCode :=
 (.seq
 (.reg false [
 ⟨(some 2), .mv (.k (.one (.nil [.int .i64]))), none⟩])
 (.seq
 (.reg false [
 ⟨(some 5), .mv (.t 0), none⟩,
 ⟨(some 6), .len (.t 5), none⟩,
 ⟨(some 7), .mkslice .froz [.int .i64] 8 (0 : Int) (.t 6) (.t 6), none⟩,
 ⟨(some 3), .mv (.t 7), none⟩])
 (.seq
 (.seq
 (.reg false [
 ⟨(some 4), .mv (.k (.one (.v (.int .i64) ((0 : Int))))), none⟩])
 (.join ⟨[(3, .one (.c (.full 50001 1)))], [(50001, .row true .froz [.int .i64])]⟩ [7, 50000, 50001] [(false, 3, 0, 50001, .froz, [])]
 (.block 0
 (.loop 0 ⟨[(0, .one (.c (.v (.list [.int .i64])))), (3, .one (.c (.full 50000 1))), (4, .one (.c (.v (.int .i64))))], [(50000, .row true .froz [.int .i64])]⟩ [7, 50000, 50001] [(false, 3, 0, 50000, .froz, [])]
 (.seq
 (.seq
 (.reg false [
 ⟨(some 8), .mv (.t 4), none⟩,
 ⟨(some 9), .mv (.t 0), none⟩,
 ⟨(some 10), .len (.t 9), none⟩,
 ⟨(some 11), .bin .lss (.t 8) (.t 10), none⟩])
 (.cond (.t 11)
 .skip
 (.exit 0)))
 (.seq
 (.block 1
 (.reg false [
 ⟨(some 14), .mv (.t 3), none⟩,
 ⟨(some 15), .mv (.t 4), none⟩,
 ⟨(some 16), .mv (.t 0), none⟩,
 ⟨(some 17), .mv (.t 4), none⟩,
 ⟨(some 18), .idxA 1 (.t 16) (.t 17), none⟩,
 ⟨(some 19), .load false 1 (.t 18), none⟩,
 ⟨(some 20), .idxA 1 (.t 14) (.t 15), none⟩,
 ⟨none, .store 1 (.t 20) (.t 19), none⟩]))
 (.reg false [
 ⟨(some 12), .mv (.t 4), none⟩,
 ⟨(some 13), .bin .add (.t 12) (.k (.one (.v (.int .i64) ((1 : Int))))), none⟩,
 ⟨(some 4), .mv (.t 13), none⟩])))))))
 (.seq
 (.reg false [
 ⟨(some 21), .mv (.t 3), none⟩,
 ⟨(some 2), .mv (.t 21), none⟩])
 .ret))))
def ms_laws_toIntS : List MRes := [.tmp 2]
theorem n_laws_toIntS (NN : Nat) (x : DLL (Sig.tys ag_laws_toIntS)) : runS NN [] sc_laws_toIntS ms_laws_toIntS ag_laws_toIntS rs_laws_toIntS x = G_laws_toIntS NN x := by kernel_rfl
theorem k_laws_toIntS : chkS Go.Proofs.Try.prog 50 sc_laws_toIntS.er ms_laws_toIntS 1 = true := by decide +kernel
theorem p_laws_toIntS : PureSpec Go.Proofs.Try.prog 50 fn_laws_toIntS.M ∧ chkFun Go.Proofs.Try.prog 50 = true :=
  pure_of_runS (T := []) (sc := sc_laws_toIntS) (ms := ms_laws_toIntS) (args := ag_laws_toIntS) (res := rs_laws_toIntS) (SOk.nil) follows_ok k_laws_toIntS F_laws_toIntS fun x y h => (n_laws_toIntS FUEL x).trans (f_laws_toIntS x y h)

def fn_laws_toMatrix : SFn := ⟨17, ag_laws_toMatrix, mu_laws_toMatrix, rs_laws_toMatrix, F_laws_toMatrix⟩
def sc_laws_toMatrix : SCode :=
 (.seq
 (.reg false [
 ⟨(some 1), .box 3 (.t 0), none⟩,
 ⟨(some 2), .alloc [.v (.int .i64) ((0 : Int)), .v (.int .i64) ((0 : Int)), .nil [.int .i64]], none⟩])
 (.seq
 (.reg false [
 ⟨(some 3), .alloc [.v (.int .i64) ((0 : Int)), .v (.int .i64) ((0 : Int)), .nil [.int .i64]], none⟩])
 (.seq
 (.reg false [
 ⟨(some 4), .fieldA 0 (.t 1), none⟩,
 ⟨(some 5), .load false 1 (.t 4), none⟩,
 ⟨(some 6), .fieldA 0 (.t 3), none⟩,
 ⟨none, .store 1 (.t 6) (.t 5), none⟩])
 (.seq
 (.reg false [
 ⟨(some 7), .fieldA 1 (.t 1), none⟩,
 ⟨(some 8), .load false 1 (.t 7), none⟩,
 ⟨(some 9), .fieldA 1 (.t 3), none⟩,
 ⟨none, .store 1 (.t 9) (.t 8), none⟩])
 (.seq
 (.reg false [
 ⟨(some 10), .fieldA 2 (.t 1), none⟩,
 ⟨(some 11), .load false 1 (.t 10), none⟩,
 ⟨(some 12), .call .froz 50 [(.t 11)], none⟩,
 ⟨(some 13), .fieldA 2 (.t 3), none⟩,
 ⟨none, .store 1 (.t 13) (.t 12), none⟩])
 (.seq
 (.reg false [
 ⟨(some 14), .load true 3 (.t 3), none⟩,
 ⟨none, .store 3 (.t 2) (.t 14), none⟩])
 .ret))))))
def ms_laws_toMatrix : List MRes := [.cell 2 3 true]
theorem n_laws_toMatrix (NN : Nat) (x : DLL (Sig.tys ag_laws_toMatrix)) : runS NN [fn_laws_toIntS] sc_laws_toMatrix ms_laws_toMatrix ag_laws_toMatrix rs_laws_toMatrix x = G_laws_toMatrix NN x := by kernel_rfl
theorem k_laws_toMatrix : chkS Go.Proofs.Try.prog 17 sc_laws_toMatrix.er ms_laws_toMatrix 1 = true := by decide +kernel
theorem p_laws_toMatrix : PureSpec Go.Proofs.Try.prog 17 fn_laws_toMatrix.M ∧ chkFun Go.Proofs.Try.prog 17 = true :=
  pure_of_runS (T := [fn_laws_toIntS]) (sc := sc_laws_toMatrix) (ms := ms_laws_toMatrix) (args := ag_laws_toMatrix) (res := rs_laws_toMatrix) (SOk.cons p_laws_toIntS <| SOk.nil) follows_ok k_laws_toMatrix F_laws_toMatrix fun x y h => (n_laws_toMatrix FUEL x).trans (f_laws_toMatrix x y h)

def fn_spec_l01In : SFn := ⟨78, ag_spec_l01In, mu_spec_l01In, rs_spec_l01In, F_spec_l01In⟩
def sc_spec_l01In : SCode :=
 (.seq
 (.reg false [
 ⟨(some 6), .mv (.k (.one (.v (.bool) (false)))), none⟩])
 (.seq
 (.reg false [
 ⟨(some 7), .mv (.t 0), none⟩,
 ⟨(some 8), .mv (.t 1), none⟩,
 ⟨(some 9), .bin .geq (.t 7) (.t 8), none⟩,
 ⟨(some 10), .mv (.t 9), none⟩,
 ⟨(some 11), .mv (.t 0), (some (10, true))⟩,
 ⟨(some 12), .mv (.t 2), (some (10, true))⟩,
 ⟨(some 13), .bin .leq (.t 11) (.t 12), (some (10, true))⟩,
 ⟨(some 14), .pick (.t 10) (.t 13) (.k (.one (.v (.bool) (false)))), none⟩,
 ⟨(some 6), .mv (.t 14), none⟩])
 .ret))
def ms_spec_l01In : List MRes := [.tmp 6]
theorem n_spec_l01In (NN : Nat) (x : DLL (Sig.tys ag_spec_l01In)) : runS NN [] sc_spec_l01In ms_spec_l01In ag_spec_l01In rs_spec_l01In x = G_spec_l01In NN x := by kernel_rfl
theorem k_spec_l01In : chkS Go.Proofs.Try.prog 78 sc_spec_l01In.er ms_spec_l01In 3 = true := by decide +kernel
theorem p_spec_l01In : PureSpec Go.Proofs.Try.prog 78 fn_spec_l01In.M ∧ chkFun Go.Proofs.Try.prog 78 = true :=
  pure_of_runS (T := []) (sc := sc_spec_l01In) (ms := ms_spec_l01In) (args := ag_spec_l01In) (res := rs_spec_l01In) (SOk.nil) follows_ok k_spec_l01In F_spec_l01In fun x y h => (n_spec_l01In FUEL x).trans (f_spec_l01In x y h)

def fn_spec_IsPrime : SFn := ⟨77, ag_spec_IsPrime, mu_spec_IsPrime, rs_spec_IsPrime, F_spec_IsPrime⟩
def sc_spec_IsPrime : SCode :=
 (.seq
 (.reg false [
 ⟨(some 2), .mv (.k (.one (.v (.bool) (false)))), none⟩])
 (.seq
 (.seq
 (.reg false [
 ⟨(some 3), .mv (.k (.one (.v (.int .i64) ((2 : Int))))), none⟩])
 (.join ⟨[(0, .one (.c (.v (.int .i64))))], []⟩ [21000, 21001, 21002, 21003, 21004, 21005] []
 (.block 0
 (.loop 0 ⟨[(0, .one (.c (.v (.int .i64)))), (3, .one (.c (.v (.int .i64))))], []⟩ [21000, 21001, 21002, 21003, 21004, 21005] []
 (.seq
 (.seq
 (.reg false [
 ⟨(some 4), .mv (.t 3), none⟩,
 ⟨(some 5), .mv (.t 3), none⟩,
 ⟨(some 6), .bin .mul (.t 4) (.t 5), none⟩,
 ⟨(some 7), .mv (.t 0), none⟩,
 ⟨(some 8), .bin .leq (.t 6) (.t 7), none⟩,
 ⟨(some 9), .mv (.t 8), none⟩,
 ⟨(some 10), .mv (.t 0), (some (9, true))⟩,
 ⟨(some 11), .bin .leq (.t 10) (.k (.one (.v (.int .i64) ((1000003 : Int))))), (some (9, true))⟩,
 ⟨(some 12), .pick (.t 9) (.t 11) (.k (.one (.v (.bool) (false)))), none⟩])
 (.cond (.t 12)
 .skip
 (.exit 0)))
 (.seq
 (.block 1
 (.seq
 (.reg false [
 ⟨(some 15), .mv (.t 0), none⟩,
 ⟨(some 16), .mv (.t 3), none⟩,
 ⟨(some 17), .bin .rem (.t 15) (.t 16), none⟩,
 ⟨(some 18), .bin .eql (.t 17) (.k (.one (.v (.int .i64) ((0 : Int))))), none⟩])
 (.cond (.t 18)
 (.seq
 (.reg false [
 ⟨(some 2), .mv (.k (.one (.v (.bool) (false)))), none⟩])
 .ret)
 .skip)))
 (.reg false [
 ⟨(some 13), .mv (.t 3), none⟩,
 ⟨(some 14), .bin .add (.t 13) (.k (.one (.v (.int .i64) ((1 : Int))))), none⟩,
 ⟨(some 3), .mv (.t 14), none⟩])))))))
 (.seq
 (.reg false [
 ⟨(some 19), .mv (.t 0), none⟩,
 ⟨(some 20), .call .froz 78 [(.t 19), (.k (.one (.v (.int .i64) ((2 : Int))))), (.k (.one (.v (.int .i64) ((1000003 : Int)))))], none⟩,
 ⟨(some 2), .mv (.t 20), none⟩])
 .ret)))
def ms_spec_IsPrime : List MRes := [.tmp 2]
theorem n_spec_IsPrime (NN : Nat) (x : DLL (Sig.tys ag_spec_IsPrime)) : runS NN [fn_spec_l01In] sc_spec_IsPrime ms_spec_IsPrime ag_spec_IsPrime rs_spec_IsPrime x = G_spec_IsPrime NN x := by kernel_rfl
theorem k_spec_IsPrime : chkS Go.Proofs.Try.prog 77 sc_spec_IsPrime.er ms_spec_IsPrime 1 = true := by decide +kernel
theorem p_spec_IsPrime : PureSpec Go.Proofs.Try.prog 77 fn_spec_IsPrime.M ∧ chkFun Go.Proofs.Try.prog 77 = true :=
  pure_of_runS (T := [fn_spec_l01In]) (sc := sc_spec_IsPrime) (ms := ms_spec_IsPrime) (args := ag_spec_IsPrime) (res := rs_spec_IsPrime) (SOk.cons p_spec_l01In <| SOk.nil) follows_ok k_spec_IsPrime F_spec_IsPrime fun x y h => (n_spec_IsPrime FUEL x).trans (f_spec_IsPrime x y h)

def fn_spec_MatrixOk : SFn := ⟨48, ag_spec_MatrixOk, mu_spec_MatrixOk, rs_spec_MatrixOk, F_spec_MatrixOk⟩
def sc_spec_MatrixOk : SCode :=
 (.seq
 (.reg false [
 ⟨(some 3), .box 3 (.t 1), none⟩,
 ⟨(some 4), .mv (.k (.one (.v (.bool) (false)))), none⟩])
 (.seq
 (.seq
 (.reg false [
 ⟨(some 7), .mv (.t 0), none⟩,
 ⟨(some 8), .call .froz 77 [(.t 7)], none⟩,
 ⟨(some 9), .un .not (.t 8), none⟩,
 ⟨(some 10), .mv (.t 9), none⟩,
 ⟨(some 11), .fieldA 0 (.t 3), (some (10, false))⟩,
 ⟨(some 12), .load false 1 (.t 11), (some (10, false))⟩,
 ⟨(some 13), .call .froz 78 [(.t 12), (.k (.one (.v (.int .i64) ((0 : Int))))), (.k (.one (.v (.int .i64) ((64 : Int)))))], (some (10, false))⟩,
 ⟨(some 14), .un .not (.t 13), (some (10, false))⟩,
 ⟨(some 15), .pick (.t 10) (.k (.one (.v (.bool) (true)))) (.t 14), none⟩,
 ⟨(some 16), .mv (.t 15), none⟩,
 ⟨(some 17), .fieldA 1 (.t 3), (some (16, false))⟩,
 ⟨(some 18), .load false 1 (.t 17), (some (16, false))⟩,
 ⟨(some 19), .call .froz 78 [(.t 18), (.k (.one (.v (.int .i64) ((0 : Int))))), (.k (.one (.v (.int .i64) ((64 : Int)))))], (some (16, false))⟩,
 ⟨(some 20), .un .not (.t 19), (some (16, false))⟩,
 ⟨(some 21), .pick (.t 16) (.k (.one (.v (.bool) (true)))) (.t 20), none⟩,
 ⟨(some 22), .mv (.t 21), none⟩,
 ⟨(some 23), .fieldA 2 (.t 3), (some (22, false))⟩,
 ⟨(some 24), .load false 1 (.t 23), (some (22, false))⟩,
 ⟨(some 25), .len (.t 24), (some (22, false))⟩,
 ⟨(some 26), .fieldA 0 (.t 3), (some (22, false))⟩,
 ⟨(some 27), .load false 1 (.t 26), (some (22, false))⟩,
 ⟨(some 28), .fieldA 1 (.t 3), (some (22, false))⟩,
 ⟨(some 29), .load false 1 (.t 28), (some (22, false))⟩,
 ⟨(some 30), .bin .mul (.t 27) (.t 29), (some (22, false))⟩,
 ⟨(some 31), .bin .neq (.t 25) (.t 30), (some (22, false))⟩,
 ⟨(some 32), .pick (.t 22) (.k (.one (.v (.bool) (true)))) (.t 31), none⟩])
 (.cond (.t 32)
 (.seq
 (.reg false [
 ⟨(some 4), .mv (.k (.one (.v (.bool) (false)))), none⟩])
 .ret)
 .skip))
 (.seq
 (.seq
 (.reg false [
 ⟨(some 33), .fieldA 2 (.t 3), none⟩,
 ⟨(some 34), .load false 1 (.t 33), none⟩,
 ⟨(some 35), .len (.t 34), none⟩,
 ⟨(some 36), .mv (.k (.one (.v (.int .i64) ((0 : Int))))), none⟩])
 (.join ⟨[], []⟩ [3, 9000, 9001, 9002, 9003, 9004, 9005, 14000, 14001, 14002, 14003, 14004, 14005, 20000, 20001, 20002, 20003, 20004, 20005, 44000, 44001, 44002, 44003, 44004, 44005] []
 (.block 0
 (.loop 0 ⟨[(0, .one (.c (.v (.int .i64)))), (34, .one (.c (.v (.list [.int .i64])))), (35, .one (.c (.v (.int .i64)))), (36, .one (.c (.v (.int .i64))))], []⟩ [3, 9000, 9001, 9002, 9003, 9004, 9005, 14000, 14001, 14002, 14003, 14004, 14005, 20000, 20001, 20002, 20003, 20004, 20005, 44000, 44001, 44002, 44003, 44004, 44005] []
 (.seq
 (.reg false [
 ⟨(some 37), .bin .lss (.t 36) (.t 35), none⟩])
 (.seq
 (.cond (.t 37)
 .skip
 (.exit 0))
 (.seq
 (.block 1
 (.seq
 (.reg false [
 ⟨(some 38), .idxA 1 (.t 34) (.t 36), none⟩,
 ⟨(some 39), .load false 1 (.t 38), none⟩,
 ⟨(some 6), .mv (.t 39), none⟩])
 (.seq
 (.reg false [
 ⟨(some 40), .mv (.t 6), none⟩,
 ⟨(some 41), .mv (.t 0), none⟩,
 ⟨(some 42), .bin .sub (.t 41) (.k (.one (.v (.int .i64) ((1 : Int))))), none⟩,
 ⟨(some 43), .call .froz 78 [(.t 40), (.k (.one (.v (.int .i64) ((0 : Int))))), (.t 42)], none⟩,
 ⟨(some 44), .un .not (.t 43), none⟩])
 (.cond (.t 44)
 (.seq
 (.reg false [
 ⟨(some 4), .mv (.k (.one (.v (.bool) (false)))), none⟩])
 .ret)
 .skip))))
 (.reg false [
 ⟨(some 45), .bin .add (.t 36) (.k (.one (.v (.int .i64) ((1 : Int))))), none⟩,
 ⟨(some 36), .mv (.t 45), none⟩]))))))))
 (.seq
 (.reg false [
 ⟨(some 4), .mv (.k (.one (.v (.bool) (true)))), none⟩])
 .ret))))
def ms_spec_MatrixOk : List MRes := [.tmp 4]
theorem n_spec_MatrixOk (NN : Nat) (x : DLL (Sig.tys ag_spec_MatrixOk)) : runS NN [fn_spec_IsPrime, fn_spec_l01In] sc_spec_MatrixOk ms_spec_MatrixOk ag_spec_MatrixOk rs_spec_MatrixOk x = G_spec_MatrixOk NN x := by kernel_rfl
theorem k_spec_MatrixOk : chkS Go.Proofs.Try.prog 48 sc_spec_MatrixOk.er ms_spec_MatrixOk 2 = true := by decide +kernel
theorem p_spec_MatrixOk : PureSpec Go.Proofs.Try.prog 48 fn_spec_MatrixOk.M ∧ chkFun Go.Proofs.Try.prog 48 = true :=
  pure_of_runS (T := [fn_spec_IsPrime, fn_spec_l01In]) (sc := sc_spec_MatrixOk) (ms := ms_spec_MatrixOk) (args := ag_spec_MatrixOk) (res := rs_spec_MatrixOk) (SOk.cons p_spec_IsPrime <| SOk.cons p_spec_l01In <| SOk.nil) follows_ok k_spec_MatrixOk F_spec_MatrixOk fun x y h => (n_spec_MatrixOk FUEL x).trans (f_spec_MatrixOk x y h)

def fn_spec_l31New : SFn := ⟨76, ag_spec_l31New, mu_spec_l31New, rs_spec_l31New, F_spec_l31New⟩
def sc_spec_l31New : SCode :=
 (.seq
 (.reg false [
 ⟨(some 4), .alloc [.v (.int .i64) ((0 : Int)), .v (.int .i64) ((0 : Int)), .nil [.int .i64]], none⟩])
 (.seq
 (.reg false [
 ⟨(some 5), .mv (.t 0), none⟩,
 ⟨(some 6), .mv (.t 1), none⟩,
 ⟨(some 7), .mv (.t 0), none⟩,
 ⟨(some 8), .mv (.t 1), none⟩,
 ⟨(some 9), .bin .mul (.t 7) (.t 8), none⟩,
 ⟨(some 10), .mkslice .froz [.int .i64] 8 (0 : Int) (.t 9) (.t 9), none⟩,
 ⟨(some 11), .build [.v (.int .i64) ((0 : Int)), .v (.int .i64) ((0 : Int)), .nil [.int .i64]] [(0, 1, (.t 5)), (1, 1, (.t 6)), (2, 1, (.t 10))], none⟩,
 ⟨none, .store 3 (.t 4) (.t 11), none⟩])
 .ret))
def ms_spec_l31New : List MRes := [.cell 4 3 true]
theorem n_spec_l31New (NN : Nat) (x : DLL (Sig.tys ag_spec_l31New)) : runS NN [] sc_spec_l31New ms_spec_l31New ag_spec_l31New rs_spec_l31New x = G_spec_l31New NN x := by kernel_rfl
theorem k_spec_l31New : chkS Go.Proofs.Try.prog 76 sc_spec_l31New.er ms_spec_l31New 2 = true := by decide +kernel
theorem p_spec_l31New : PureSpec Go.Proofs.Try.prog 76 fn_spec_l31New.M ∧ chkFun Go.Proofs.Try.prog 76 = true :=
  pure_of_runS (T := []) (sc := sc_spec_l31New) (ms := ms_spec_l31New) (args := ag_spec_l31New) (res := rs_spec_l31New) (SOk.nil) follows_ok k_spec_l31New F_spec_l31New fun x y h => (n_spec_l31New FUEL x).trans (f_spec_l31New x y h)

def fn_spec_l05Ints : SFn := ⟨69, ag_spec_l05Ints, mu_spec_l05Ints, rs_spec_l05Ints, F_spec_l05Ints⟩
def sc_spec_l05Ints : SCode :=
 (.seq
 (.reg false [
 ⟨(some 2), .mv (.k (.one (.nil [.int .i64]))), none⟩])
 (.seq
 (.reg false [
 ⟨(some 3), .bslice [.int .i64] [], none⟩,
 ⟨(some 4), .mv (.t 0), none⟩,
 ⟨(some 5), .append true [.int .i64] 8 (.t 3) (.t 4), none⟩,
 ⟨(some 2), .mv (.t 5), none⟩])
 .ret))
def ms_spec_l05Ints : List MRes := [.tmp 2]
theorem n_spec_l05Ints (NN : Nat) (x : DLL (Sig.tys ag_spec_l05Ints)) : runS NN [] sc_spec_l05Ints ms_spec_l05Ints ag_spec_l05Ints rs_spec_l05Ints x = G_spec_l05Ints NN x := by kernel_rfl
theorem k_spec_l05Ints : chkS Go.Proofs.Try.prog 69 sc_spec_l05Ints.er ms_spec_l05Ints 1 = true := by decide +kernel
theorem p_spec_l05Ints : PureSpec Go.Proofs.Try.prog 69 fn_spec_l05Ints.M ∧ chkFun Go.Proofs.Try.prog 69 = true :=
  pure_of_runS (T := []) (sc := sc_spec_l05Ints) (ms := ms_spec_l05Ints) (args := ag_spec_l05Ints) (res := rs_spec_l05Ints) (SOk.nil) follows_ok k_spec_l05Ints F_spec_l05Ints fun x y h => (n_spec_l05Ints FUEL x).trans (f_spec_l05Ints x y h)

def fn_spec_l31Pivot : SFn := ⟨84, ag_spec_l31Pivot, mu_spec_l31Pivot, rs_spec_l31Pivot, F_spec_l31Pivot⟩
def sc_spec_l31Pivot : SCode :=
 (.seq
 (.reg false [
 ⟨(some 3), .box 3 (.t 0), none⟩,
 ⟨(some 6), .mv (.k (.one (.v (.int .i64) ((0 : Int))))), none⟩])
 (.seq
 (.seq
 (.reg false [
 ⟨(some 8), .mv (.t 1), none⟩,
 ⟨(some 7), .mv (.t 8), none⟩])
 (.join ⟨[], []⟩ [3] []
 (.block 0
 (.loop 0 ⟨[(2, .one (.c (.v (.int .i64)))), (3, .one (.c (.ptr0 3 0))), (7, .one (.c (.v (.int .i64))))], [(3, .box [.c (.v (.int .i64)), .c (.v (.int .i64)), .c (.v (.list [.int .i64]))])]⟩ [3] []
 (.seq
 (.seq
 (.reg false [
 ⟨(some 9), .mv (.t 7), none⟩,
 ⟨(some 10), .fieldA 0 (.t 3), none⟩,
 ⟨(some 11), .load false 1 (.t 10), none⟩,
 ⟨(some 12), .bin .lss (.t 9) (.t 11), none⟩])
 (.cond (.t 12)
 .skip
 (.exit 0)))
 (.seq
 (.block 1
 (.seq
 (.reg false [
 ⟨(some 15), .fieldA 2 (.t 3), none⟩,
 ⟨(some 16), .load false 1 (.t 15), none⟩,
 ⟨(some 17), .mv (.t 7), none⟩,
 ⟨(some 18), .fieldA 1 (.t 3), none⟩,
 ⟨(some 19), .load false 1 (.t 18), none⟩,
 ⟨(some 20), .bin .mul (.t 17) (.t 19), none⟩,
 ⟨(some 21), .mv (.t 2), none⟩,
 ⟨(some 22), .bin .add (.t 20) (.t 21), none⟩,
 ⟨(some 23), .idxA 1 (.t 16) (.t 22), none⟩,
 ⟨(some 24), .load false 1 (.t 23), none⟩,
 ⟨(some 25), .bin .neq (.t 24) (.k (.one (.v (.int .i64) ((0 : Int))))), none⟩])
 (.cond (.t 25)
 (.seq
 (.reg false [
 ⟨(some 26), .mv (.t 7), none⟩,
 ⟨(some 6), .mv (.t 26), none⟩])
 .ret)
 .skip)))
 (.reg false [
 ⟨(some 13), .mv (.t 7), none⟩,
 ⟨(some 14), .bin .add (.t 13) (.k (.one (.v (.int .i64) ((1 : Int))))), none⟩,
 ⟨(some 7), .mv (.t 14), none⟩])))))))
 (.seq
 (.reg false [
 ⟨(some 6), .mv (.k (.one (.v (.int .i64) (((-1) : Int))))), none⟩])
 .ret)))
def ms_spec_l31Pivot : List MRes := [.tmp 6]
theorem n_spec_l31Pivot (NN : Nat) (x : DLL (Sig.tys ag_spec_l31Pivot)) : runS NN [] sc_spec_l31Pivot ms_spec_l31Pivot ag_spec_l31Pivot rs_spec_l31Pivot x = G_spec_l31Pivot NN x := by kernel_rfl
theorem k_spec_l31Pivot : chkS Go.Proofs.Try.prog 84 sc_spec_l31Pivot.er ms_spec_l31Pivot 3 = true := by decide +kernel
theorem p_spec_l31Pivot : PureSpec Go.Proofs.Try.prog 84 fn_spec_l31Pivot.M ∧ chkFun Go.Proofs.Try.prog 84 = true :=
  pure_of_runS (T := []) (sc := sc_spec_l31Pivot) (ms := ms_spec_l31Pivot) (args := ag_spec_l31Pivot) (res := rs_spec_l31Pivot) (SOk.nil) follows_ok k_spec_l31Pivot F_spec_l31Pivot fun x y h => (n_spec_l31Pivot FUEL x).trans (f_spec_l31Pivot x y h)

def fn_spec_l31Swap : SFn := ⟨70, ag_spec_l31Swap, mu_spec_l31Swap, rs_spec_l31Swap, F_spec_l31Swap⟩
def sc_spec_l31Swap : SCode :=
 (.seq
 (.reg false [
 ⟨(some 3), .box 3 (.t 0), none⟩])
 (.seq
 (.reg false [
 ⟨(some 6), .mv (.k (.one (.v (.int .i64) ((0 : Int))))), none⟩])
 (.block 0
 (.loop 0 ⟨[(1, .one (.c (.v (.int .i64)))), (2, .one (.c (.v (.int .i64)))), (3, .one (.c (.ptr0 3 0))), (6, .one (.c (.v (.int .i64))))], [(1000000, .row false .froz [.int .i64]), (3, .box [.c (.v (.int .i64)), .c (.v (.int .i64)), .c (.full 1000000 1)])]⟩ [1000000, 3, 50000] [(true, 3, 2, 50000, .froz, [])]
 (.seq
 (.seq
 (.reg false [
 ⟨(some 8), .mv (.t 6), none⟩,
 ⟨(some 9), .fieldA 1 (.t 3), none⟩,
 ⟨(some 10), .load false 1 (.t 9), none⟩,
 ⟨(some 11), .bin .lss (.t 8) (.t 10), none⟩])
 (.cond (.t 11)
 .skip
 (.exit 0)))
 (.seq
 (.block 1
 (.seq
 (.reg false [
 ⟨(some 14), .fieldA 2 (.t 3), none⟩,
 ⟨(some 15), .load false 1 (.t 14), none⟩,
 ⟨(some 16), .mv (.t 1), none⟩,
 ⟨(some 17), .fieldA 1 (.t 3), none⟩,
 ⟨(some 18), .load false 1 (.t 17), none⟩,
 ⟨(some 19), .bin .mul (.t 16) (.t 18), none⟩,
 ⟨(some 20), .mv (.t 6), none⟩,
 ⟨(some 21), .bin .add (.t 19) (.t 20), none⟩,
 ⟨(some 22), .idxA 1 (.t 15) (.t 21), none⟩,
 ⟨(some 23), .load false 1 (.t 22), none⟩,
 ⟨(some 7), .mv (.t 23), none⟩])
 (.seq
 (.reg true [
 ⟨(some 24), .fieldA 2 (.t 3), none⟩,
 ⟨(some 25), .load false 1 (.t 24), none⟩,
 ⟨(some 26), .mv (.t 1), none⟩,
 ⟨(some 27), .fieldA 1 (.t 3), none⟩,
 ⟨(some 28), .load false 1 (.t 27), none⟩,
 ⟨(some 29), .bin .mul (.t 26) (.t 28), none⟩,
 ⟨(some 30), .mv (.t 6), none⟩,
 ⟨(some 31), .bin .add (.t 29) (.t 30), none⟩,
 ⟨(some 32), .fieldA 2 (.t 3), none⟩,
 ⟨(some 33), .load false 1 (.t 32), none⟩,
 ⟨(some 34), .mv (.t 2), none⟩,
 ⟨(some 35), .fieldA 1 (.t 3), none⟩,
 ⟨(some 36), .load false 1 (.t 35), none⟩,
 ⟨(some 37), .bin .mul (.t 34) (.t 36), none⟩,
 ⟨(some 38), .mv (.t 6), none⟩,
 ⟨(some 39), .bin .add (.t 37) (.t 38), none⟩,
 ⟨(some 40), .idxA 1 (.t 33) (.t 39), none⟩,
 ⟨(some 41), .load false 1 (.t 40), none⟩,
 ⟨(some 42), .idxA 1 (.t 25) (.t 31), none⟩,
 ⟨none, .store 1 (.t 42) (.t 41), none⟩])
 (.reg false [
 ⟨(some 43), .fieldA 2 (.t 3), none⟩,
 ⟨(some 44), .load false 1 (.t 43), none⟩,
 ⟨(some 45), .mv (.t 2), none⟩,
 ⟨(some 46), .fieldA 1 (.t 3), none⟩,
 ⟨(some 47), .load false 1 (.t 46), none⟩,
 ⟨(some 48), .bin .mul (.t 45) (.t 47), none⟩,
 ⟨(some 49), .mv (.t 6), none⟩,
 ⟨(some 50), .bin .add (.t 48) (.t 49), none⟩,
 ⟨(some 51), .mv (.t 7), none⟩,
 ⟨(some 52), .idxA 1 (.t 44) (.t 50), none⟩,
 ⟨none, .store 1 (.t 52) (.t 51), none⟩]))))
 (.reg false [
 ⟨(some 12), .mv (.t 6), none⟩,
 ⟨(some 13), .bin .add (.t 12) (.k (.one (.v (.int .i64) ((1 : Int))))), none⟩,
 ⟨(some 6), .mv (.t 13), none⟩])))))))
def ms_spec_l31Swap : List MRes := []
theorem n_spec_l31Swap (NN : Nat) (x : DLL (Sig.tys ag_spec_l31Swap)) : runMS NN [] sc_spec_l31Swap ms_spec_l31Swap ag_spec_l31Swap mu_spec_l31Swap rs_spec_l31Swap x = G_spec_l31Swap NN x := by kernel_rfl
theorem k_spec_l31Swap : chkS Go.Proofs.Try.prog 70 sc_spec_l31Swap.er ms_spec_l31Swap 3 = true := by decide +kernel
theorem p_spec_l31Swap : MutSpec Go.Proofs.Try.prog 70 mu_spec_l31Swap fn_spec_l31Swap.MM ∧ chkFun Go.Proofs.Try.prog 70 = true :=
  mut_of_runMS (T := []) (sc := sc_spec_l31Swap) (ms := ms_spec_l31Swap) (args := ag_spec_l31Swap) (mu := mu_spec_l31Swap) (res := rs_spec_l31Swap) (SOk.nil) follows_ok k_spec_l31Swap F_spec_l31Swap fun x y h => (n_spec_l31Swap FUEL x).trans (f_spec_l31Swap x y h)

def fn_spec_l31Inverse : SFn := ⟨71, ag_spec_l31Inverse, mu_spec_l31Inverse, rs_spec_l31Inverse, F_spec_l31Inverse⟩
def sc_spec_l31Inverse : SCode :=
 (.seq
 (.reg false [
 ⟨(some 4), .mv (.k (.one (.v (.int .i64) ((0 : Int))))), none⟩])
 (.seq
 (.reg false [
 ⟨(some 5), .mv (.k (.one (.v (.int .i64) ((1 : Int))))), none⟩])
 (.seq
 (.seq
 (.reg false [
 ⟨(some 7), .mv (.t 0), none⟩,
 ⟨(some 8), .bin .sub (.t 7) (.k (.one (.v (.int .i64) ((2 : Int))))), none⟩,
 ⟨(some 6), .mv (.t 8), none⟩])
 (.join ⟨[(5, .one (.c (.v (.int .i64))))], []⟩ [] []
 (.block 0
 (.loop 0 ⟨[(0, .one (.c (.v (.int .i64)))), (1, .one (.c (.v (.int .i64)))), (5, .one (.c (.v (.int .i64)))), (6, .one (.c (.v (.int .i64))))], []⟩ [] []
 (.seq
 (.seq
 (.reg false [
 ⟨(some 9), .mv (.t 6), none⟩,
 ⟨(some 10), .bin .gtr (.t 9) (.k (.one (.v (.int .i64) ((0 : Int))))), none⟩])
 (.cond (.t 10)
 .skip
 (.exit 0)))
 (.seq
 (.block 1
 (.seq
 (.seq
 (.reg false [
 ⟨(some 13), .mv (.t 6), none⟩,
 ⟨(some 14), .bin .rem (.t 13) (.k (.one (.v (.int .i64) ((2 : Int))))), none⟩,
 ⟨(some 15), .bin .eql (.t 14) (.k (.one (.v (.int .i64) ((1 : Int))))), none⟩])
 (.join ⟨[(1, .one (.c (.v (.int .i64)))), (6, .one (.c (.v (.int .i64)))), (0, .one (.c (.v (.int .i64)))), (5, .one (.c (.v (.int .i64))))], []⟩ [] []
 (.cond (.t 15)
 (.reg false [
 ⟨(some 16), .mv (.t 5), none⟩,
 ⟨(some 17), .mv (.t 1), none⟩,
 ⟨(some 18), .bin .mul (.t 16) (.t 17), none⟩,
 ⟨(some 19), .mv (.t 0), none⟩,
 ⟨(some 20), .bin .rem (.t 18) (.t 19), none⟩,
 ⟨(some 5), .mv (.t 20), none⟩])
 .skip)))
 (.reg false [
 ⟨(some 21), .mv (.t 1), none⟩,
 ⟨(some 22), .mv (.t 1), none⟩,
 ⟨(some 23), .bin .mul (.t 21) (.t 22), none⟩,
 ⟨(some 24), .mv (.t 0), none⟩,
 ⟨(some 25), .bin .rem (.t 23) (.t 24), none⟩,
 ⟨(some 1), .mv (.t 25), none⟩])))
 (.reg false [
 ⟨(some 11), .mv (.t 6), none⟩,
 ⟨(some 12), .bin .quo (.t 11) (.k (.one (.v (.int .i64) ((2 : Int))))), none⟩,
 ⟨(some 6), .mv (.t 12), none⟩])))))))
 (.seq
 (.reg false [
 ⟨(some 26), .mv (.t 5), none⟩,
 ⟨(some 4), .mv (.t 26), none⟩])
 .ret))))
def ms_spec_l31Inverse : List MRes := [.tmp 4]
theorem n_spec_l31Inverse (NN : Nat) (x : DLL (Sig.tys ag_spec_l31Inverse)) : runS NN [] sc_spec_l31Inverse ms_spec_l31Inverse ag_spec_l31Inverse rs_spec_l31Inverse x = G_spec_l31Inverse NN x := by kernel_rfl
theorem k_spec_l31Inverse : chkS Go.Proofs.Try.prog 71 sc_spec_l31Inverse.er ms_spec_l31Inverse 2 = true := by decide +kernel
theorem p_spec_l31Inverse : PureSpec Go.Proofs.Try.prog 71 fn_spec_l31Inverse.M ∧ chkFun Go.Proofs.Try.prog 71 = true :=
  pure_of_runS (T := []) (sc := sc_spec_l31Inverse) (ms := ms_spec_l31Inverse) (args := ag_spec_l31Inverse) (res := rs_spec_l31Inverse) (SOk.nil) follows_ok k_spec_l31Inverse F_spec_l31Inverse fun x y h => (n_spec_l31Inverse FUEL x).trans (f_spec_l31Inverse x y h)

def fn_spec_l31Clear : SFn := ⟨72, ag_spec_l31Clear, mu_spec_l31Clear, rs_spec_l31Clear, F_spec_l31Clear⟩
def sc_spec_l31Clear : SCode :=
 (.seq
 (.reg false [
 ⟨(some 6), .box 3 (.t 1), none⟩])
 (.seq
 (.reg false [
 ⟨(some 10), .mv (.k (.one (.v (.int .i64) ((0 : Int))))), none⟩])
 (.block 0
 (.loop 0 ⟨[(0, .one (.c (.v (.int .i64)))), (2, .one (.c (.v (.int .i64)))), (3, .one (.c (.v (.int .i64)))), (4, .one (.c (.v (.int .i64)))), (6, .one (.c (.ptr0 6 0))), (10, .one (.c (.v (.int .i64))))], [(1000000, .row false .froz [.int .i64]), (6, .box [.c (.v (.int .i64)), .c (.v (.int .i64)), .c (.full 1000000 1)])]⟩ [1000000, 6, 50000] [(true, 6, 2, 50000, .froz, [])]
 (.seq
 (.seq
 (.reg false [
 ⟨(some 11), .mv (.t 10), none⟩,
 ⟨(some 12), .fieldA 1 (.t 6), none⟩,
 ⟨(some 13), .load false 1 (.t 12), none⟩,
 ⟨(some 14), .bin .lss (.t 11) (.t 13), none⟩])
 (.cond (.t 14)
 .skip
 (.exit 0)))
 (.seq
 (.block 1
 (.reg true [
 ⟨(some 17), .fieldA 2 (.t 6), none⟩,
 ⟨(some 18), .load false 1 (.t 17), none⟩,
 ⟨(some 19), .mv (.t 2), none⟩,
 ⟨(some 20), .fieldA 1 (.t 6), none⟩,
 ⟨(some 21), .load false 1 (.t 20), none⟩,
 ⟨(some 22), .bin .mul (.t 19) (.t 21), none⟩,
 ⟨(some 23), .mv (.t 10), none⟩,
 ⟨(some 24), .bin .add (.t 22) (.t 23), none⟩,
 ⟨(some 25), .fieldA 2 (.t 6), none⟩,
 ⟨(some 26), .load false 1 (.t 25), none⟩,
 ⟨(some 27), .mv (.t 2), none⟩,
 ⟨(some 28), .fieldA 1 (.t 6), none⟩,
 ⟨(some 29), .load false 1 (.t 28), none⟩,
 ⟨(some 30), .bin .mul (.t 27) (.t 29), none⟩,
 ⟨(some 31), .mv (.t 10), none⟩,
 ⟨(some 32), .bin .add (.t 30) (.t 31), none⟩,
 ⟨(some 33), .idxA 1 (.t 26) (.t 32), none⟩,
 ⟨(some 34), .load false 1 (.t 33), none⟩,
 ⟨(some 35), .mv (.t 0), none⟩,
 ⟨(some 36), .mv (.t 4), none⟩,
 ⟨(some 37), .bin .sub (.t 35) (.t 36), none⟩,
 ⟨(some 38), .fieldA 2 (.t 6), none⟩,
 ⟨(some 39), .load false 1 (.t 38), none⟩,
 ⟨(some 40), .mv (.t 3), none⟩,
 ⟨(some 41), .fieldA 1 (.t 6), none⟩,
 ⟨(some 42), .load false 1 (.t 41), none⟩,
 ⟨(some 43), .bin .mul (.t 40) (.t 42), none⟩,
 ⟨(some 44), .mv (.t 10), none⟩,
 ⟨(some 45), .bin .add (.t 43) (.t 44), none⟩,
 ⟨(some 46), .idxA 1 (.t 39) (.t 45), none⟩,
 ⟨(some 47), .load false 1 (.t 46), none⟩,
 ⟨(some 48), .bin .mul (.t 37) (.t 47), none⟩,
 ⟨(some 49), .bin .add (.t 34) (.t 48), none⟩,
 ⟨(some 50), .mv (.t 0), none⟩,
 ⟨(some 51), .bin .rem (.t 49) (.t 50), none⟩,
 ⟨(some 52), .idxA 1 (.t 18) (.t 24), none⟩,
 ⟨none, .store 1 (.t 52) (.t 51), none⟩]))
 (.reg false [
 ⟨(some 15), .mv (.t 10), none⟩,
 ⟨(some 16), .bin .add (.t 15) (.k (.one (.v (.int .i64) ((1 : Int))))), none⟩,
 ⟨(some 10), .mv (.t 16), none⟩])))))))
def ms_spec_l31Clear : List MRes := []
theorem n_spec_l31Clear (NN : Nat) (x : DLL (Sig.tys ag_spec_l31Clear)) : runMS NN [] sc_spec_l31Clear ms_spec_l31Clear ag_spec_l31Clear mu_spec_l31Clear rs_spec_l31Clear x = G_spec_l31Clear NN x := by kernel_rfl
theorem k_spec_l31Clear : chkS Go.Proofs.Try.prog 72 sc_spec_l31Clear.er ms_spec_l31Clear 5 = true := by decide +kernel
theorem p_spec_l31Clear : MutSpec Go.Proofs.Try.prog 72 mu_spec_l31Clear fn_spec_l31Clear.MM ∧ chkFun Go.Proofs.Try.prog 72 = true :=
  mut_of_runMS (T := []) (sc := sc_spec_l31Clear) (ms := ms_spec_l31Clear) (args := ag_spec_l31Clear) (mu := mu_spec_l31Clear) (res := rs_spec_l31Clear) (SOk.nil) follows_ok k_spec_l31Clear F_spec_l31Clear fun x y h => (n_spec_l31Clear FUEL x).trans (f_spec_l31Clear x y h)

def fn_spec_l31Reduce : SFn := ⟨60, ag_spec_l31Reduce, mu_spec_l31Reduce, rs_spec_l31Reduce, F_spec_l31Reduce⟩
def sc_spec_l31Reduce : SCode :=
 (.seq
 (.reg false [
 ⟨(some 3), .box 3 (.t 1), none⟩,
 ⟨(some 4), .alloc [.v (.int .i64) ((0 : Int)), .v (.int .i64) ((0 : Int)), .nil [.int .i64]], none⟩,
 ⟨(some 5), .mv (.k (.one (.nil [.int .i64]))), none⟩,
 ⟨(some 6), .mv (.k (.one (.v (.int .i64) ((0 : Int))))), none⟩])
 (.seq
 (.reg true [
 ⟨(some 17), .fieldA 0 (.t 3), none⟩,
 ⟨(some 18), .load false 1 (.t 17), none⟩,
 ⟨(some 19), .fieldA 1 (.t 3), none⟩,
 ⟨(some 20), .load false 1 (.t 19), none⟩,
 ⟨(some 21), .fieldA 2 (.t 3), none⟩,
 ⟨(some 22), .load false 1 (.t 21), none⟩,
 ⟨(some 23), .call .froz 69 [(.t 22)], none⟩,
 ⟨(some 24), .build [.v (.int .i64) ((0 : Int)), .v (.int .i64) ((0 : Int)), .nil [.int .i64]] [(0, 1, (.t 18)), (1, 1, (.t 20)), (2, 1, (.t 23))], none⟩,
 ⟨(some 7), .alloc [.v (.int .i64) ((0 : Int)), .v (.int .i64) ((0 : Int)), .nil [.int .i64]], none⟩,
 ⟨none, .store 3 (.t 7) (.t 24), none⟩])
 (.seq
 (.reg false [
 ⟨(some 25), .bslice [.int .i64] [], none⟩,
 ⟨(some 8), .mv (.t 25), none⟩])
 (.seq
 (.reg false [
 ⟨(some 9), .mv (.k (.one (.v (.int .i64) ((1 : Int))))), none⟩])
 (.seq
 (.seq
 (.reg false [
 ⟨(some 10), .mv (.k (.one (.v (.int .i64) ((0 : Int))))), none⟩])
 (.join ⟨[(7, .one (.c (.ptr0 7 0))), (8, .one (.c (.full 50023 1))), (9, .one (.c (.v (.int .i64)))), (4, .one (.c (.ptr0 4 0)))], [(4, .box [.c (.v (.int .i64)), .c (.v (.int .i64)), .c (.full 50021 1)]), (7, .box [.c (.v (.int .i64)), .c (.v (.int .i64)), .c (.full 50022 1)]), (50021, .row true .froz [.int .i64]), (50022, .row true .froz [.int .i64]), (50023, .row true .froz [.int .i64])]⟩ [3, 4, 24000, 24001, 24002, 24003, 24004, 24005, 7, 25, 45000, 45001, 45002, 45003, 45004, 45005, 54000, 54001, 54002, 54003, 54004, 54005, 77000, 77001, 77002, 77003, 77004, 77005, 130000, 130001, 130002, 130003, 130004, 130005, 132, 133, 50000, 50001, 50002, 50003, 50004, 50005, 50006, 50007, 50008, 50009, 50010, 50011, 50012, 50013, 50014, 50015, 50016, 50017, 50018, 50019, 50020, 50021, 50022, 50023] [(true, 4, 2, 50021, .froz, []), (true, 7, 2, 50022, .froz, []), (false, 8, 0, 50023, .froz, [])]
 (.block 0
 (.loop 0 ⟨[(0, .one (.c (.v (.int .i64)))), (3, .one (.c (.ptr0 3 0))), (4, .one (.c (.ptr0 4 0))), (7, .one (.c (.ptr0 7 0))), (8, .one (.c (.full 50002 1))), (9, .one (.c (.v (.int .i64)))), (10, .one (.c (.v (.int .i64))))], [(3, .box [.c (.v (.int .i64)), .c (.v (.int .i64)), .c (.v (.list [.int .i64]))]), (4, .box [.c (.v (.int .i64)), .c (.v (.int .i64)), .c (.full 50000 1)]), (7, .box [.c (.v (.int .i64)), .c (.v (.int .i64)), .c (.full 50001 1)]), (50000, .row true .froz [.int .i64]), (50001, .row true .froz [.int .i64]), (50002, .row true .froz [.int .i64])]⟩ [3, 4, 24000, 24001, 24002, 24003, 24004, 24005, 7, 25, 45000, 45001, 45002, 45003, 45004, 45005, 54000, 54001, 54002, 54003, 54004, 54005, 77000, 77001, 77002, 77003, 77004, 77005, 130000, 130001, 130002, 130003, 130004, 130005, 132, 133, 50000, 50001, 50002, 50003, 50004, 50005, 50006, 50007, 50008, 50009, 50010, 50011, 50012, 50013, 50014, 50015, 50016, 50017, 50018, 50019, 50020, 50021, 50022, 50023] [(true, 4, 2, 50000, .froz, []), (true, 7, 2, 50001, .froz, []), (false, 8, 0, 50002, .froz, [])]
 (.seq
 (.seq
 (.reg false [
 ⟨(some 26), .mv (.t 10), none⟩,
 ⟨(some 27), .fieldA 1 (.t 3), none⟩,
 ⟨(some 28), .load false 1 (.t 27), none⟩,
 ⟨(some 29), .bin .lss (.t 26) (.t 28), none⟩,
 ⟨(some 30), .mv (.t 29), none⟩,
 ⟨(some 31), .mv (.t 8), (some (30, true))⟩,
 ⟨(some 32), .len (.t 31), (some (30, true))⟩,
 ⟨(some 33), .fieldA 0 (.t 3), (some (30, true))⟩,
 ⟨(some 34), .load false 1 (.t 33), (some (30, true))⟩,
 ⟨(some 35), .bin .lss (.t 32) (.t 34), (some (30, true))⟩,
 ⟨(some 36), .pick (.t 30) (.t 35) (.k (.one (.v (.bool) (false)))), none⟩])
 (.cond (.t 36)
 .skip
 (.exit 0)))
 (.seq
 (.join ⟨[(10, .one (.c (.v (.int .i64)))), (0, .one (.c (.v (.int .i64)))), (3, .one (.c (.ptr0 3 0))), (4, .one (.c (.ptr0 4 0))), (7, .one (.c (.ptr0 7 0))), (8, .one (.c (.full 50020 1))), (9, .one (.c (.v (.int .i64))))], [(3, .box [.c (.v (.int .i64)), .c (.v (.int .i64)), .c (.v (.list [.int .i64]))]), (4, .box [.c (.v (.int .i64)), .c (.v (.int .i64)), .c (.full 50018 1)]), (7, .box [.c (.v (.int .i64)), .c (.v (.int .i64)), .c (.full 50019 1)]), (50018, .row true .froz [.int .i64]), (50019, .row true .froz [.int .i64]), (50020, .row true .froz [.int .i64])]⟩ [3, 4, 24000, 24001, 24002, 24003, 24004, 24005, 7, 25, 45000, 45001, 45002, 45003, 45004, 45005, 54000, 54001, 54002, 54003, 54004, 54005, 77000, 77001, 77002, 77003, 77004, 77005, 130000, 130001, 130002, 130003, 130004, 130005, 132, 133, 50000, 50001, 50002, 50003, 50004, 50005, 50006, 50007, 50008, 50009, 50010, 50011, 50012, 50013, 50014, 50015, 50016, 50017, 50018, 50019, 50020, 50021, 50022, 50023] [(true, 4, 2, 50018, .froz, []), (true, 7, 2, 50019, .froz, []), (false, 8, 0, 50020, .froz, [])]
 (.block 1
 (.seq
 (.reg false [
 ⟨(some 39), .mv (.t 8), none⟩,
 ⟨(some 40), .len (.t 39), none⟩,
 ⟨(some 11), .mv (.t 40), none⟩])
 (.seq
 (.reg false [
 ⟨(some 41), .load true 3 (.t 7), none⟩,
 ⟨(some 42), .mv (.t 11), none⟩,
 ⟨(some 43), .mv (.t 10), none⟩,
 ⟨(some 44), .call .froz 84 [(.t 41), (.t 42), (.t 43)], none⟩,
 ⟨(some 12), .mv (.t 44), none⟩])
 (.seq
 (.seq
 (.reg false [
 ⟨(some 45), .mv (.t 12), none⟩,
 ⟨(some 46), .bin .lss (.t 45) (.k (.one (.v (.int .i64) ((0 : Int))))), none⟩])
 (.cond (.t 46)
 (.exit 1)
 .skip))
 (.seq
 (.seq
 (.reg false [
 ⟨(some 47), .mv (.t 12), none⟩,
 ⟨(some 48), .mv (.t 11), none⟩,
 ⟨(some 49), .bin .neq (.t 47) (.t 48), none⟩])
 (.join ⟨[(9, .one (.c (.v (.int .i64)))), (11, .one (.c (.v (.int .i64)))), (8, .one (.c (.full 50005 1))), (10, .one (.c (.v (.int .i64)))), (0, .one (.c (.v (.int .i64)))), (3, .one (.c (.ptr0 3 0))), (4, .one (.c (.ptr0 4 0))), (7, .one (.c (.ptr0 7 0)))], [(3, .box [.c (.v (.int .i64)), .c (.v (.int .i64)), .c (.v (.list [.int .i64]))]), (4, .box [.c (.v (.int .i64)), .c (.v (.int .i64)), .c (.full 50003 1)]), (7, .box [.c (.v (.int .i64)), .c (.v (.int .i64)), .c (.full 50004 1)]), (50003, .row true .froz [.int .i64]), (50004, .row true .froz [.int .i64]), (50005, .row true .froz [.int .i64])]⟩ [3, 4, 24000, 24001, 24002, 24003, 24004, 24005, 7, 25, 45000, 45001, 45002, 45003, 45004, 45005, 54000, 54001, 54002, 54003, 54004, 54005, 77000, 77001, 77002, 77003, 77004, 77005, 130000, 130001, 130002, 130003, 130004, 130005, 132, 133, 50000, 50001, 50002, 50003, 50004, 50005, 50006, 50007, 50008, 50009, 50010, 50011, 50012, 50013, 50014, 50015, 50016, 50017, 50018, 50019, 50020, 50021, 50022, 50023] [(true, 4, 2, 50003, .froz, []), (true, 7, 2, 50004, .froz, []), (false, 8, 0, 50005, .froz, [])]
 (.cond (.t 49)
 (.seq
 (.reg false [
 ⟨(some 50), .load true 3 (.t 7), none⟩,
 ⟨(some 51), .mv (.t 11), none⟩,
 ⟨(some 52), .mv (.t 12), none⟩,
 ⟨(some 53), .callm .froz 70 [(.t 50), (.t 51), (.t 52)], none⟩])
 (.reg false [
 ⟨(some 54), .mv (.t 0), none⟩,
 ⟨(some 55), .mv (.t 9), none⟩,
 ⟨(some 56), .bin .sub (.t 54) (.t 55), none⟩,
 ⟨(some 57), .mv (.t 0), none⟩,
 ⟨(some 58), .bin .rem (.t 56) (.t 57), none⟩,
 ⟨(some 9), .mv (.t 58), none⟩]))
 .skip)))
 (.seq
 (.reg false [
 ⟨(some 59), .fieldA 2 (.t 7), none⟩,
 ⟨(some 60), .load false 1 (.t 59), none⟩,
 ⟨(some 61), .mv (.t 11), none⟩,
 ⟨(some 62), .fieldA 1 (.t 3), none⟩,
 ⟨(some 63), .load false 1 (.t 62), none⟩,
 ⟨(some 64), .bin .mul (.t 61) (.t 63), none⟩,
 ⟨(some 65), .mv (.t 10), none⟩,
 ⟨(some 66), .bin .add (.t 64) (.t 65), none⟩,
 ⟨(some 67), .idxA 1 (.t 60) (.t 66), none⟩,
 ⟨(some 68), .load false 1 (.t 67), none⟩,
 ⟨(some 13), .mv (.t 68), none⟩])
 (.seq
 (.reg false [
 ⟨(some 69), .mv (.t 9), none⟩,
 ⟨(some 70), .mv (.t 13), none⟩,
 ⟨(some 71), .bin .mul (.t 69) (.t 70), none⟩,
 ⟨(some 72), .mv (.t 0), none⟩,
 ⟨(some 73), .bin .rem (.t 71) (.t 72), none⟩,
 ⟨(some 9), .mv (.t 73), none⟩])
 (.seq
 (.reg false [
 ⟨(some 74), .mv (.t 0), none⟩,
 ⟨(some 75), .mv (.t 13), none⟩,
 ⟨(some 76), .call .froz 71 [(.t 74), (.t 75)], none⟩,
 ⟨(some 14), .mv (.t 76), none⟩])
 (.seq
 (.seq
 (.reg false [
 ⟨(some 15), .mv (.k (.one (.v (.int .i64) ((0 : Int))))), none⟩])
 (.join ⟨[(9, .one (.c (.v (.int .i64)))), (7, .one (.c (.ptr0 7 0))), (4, .one (.c (.ptr0 4 0))), (3, .one (.c (.ptr0 3 0))), (0, .one (.c (.v (.int .i64)))), (10, .one (.c (.v (.int .i64)))), (8, .one (.c (.full 50011 1))), (11, .one (.c (.v (.int .i64))))], [(3, .box [.c (.v (.int .i64)), .c (.v (.int .i64)), .c (.v (.list [.int .i64]))]), (4, .box [.c (.v (.int .i64)), .c (.v (.int .i64)), .c (.full 50009 1)]), (7, .box [.c (.v (.int .i64)), .c (.v (.int .i64)), .c (.full 50010 1)]), (50009, .row true .froz [.int .i64]), (50010, .row true .froz [.int .i64]), (50011, .row true .froz [.int .i64])]⟩ [3, 4, 24000, 24001, 24002, 24003, 24004, 24005, 7, 25, 45000, 45001, 45002, 45003, 45004, 45005, 54000, 54001, 54002, 54003, 54004, 54005, 77000, 77001, 77002, 77003, 77004, 77005, 130000, 130001, 130002, 130003, 130004, 130005, 132, 133, 50000, 50001, 50002, 50003, 50004, 50005, 50006, 50007, 50008, 50009, 50010, 50011, 50012, 50013, 50014, 50015, 50016, 50017, 50018, 50019, 50020, 50021, 50022, 50023] [(true, 4, 2, 50009, .froz, []), (true, 7, 2, 50010, .froz, []), (false, 8, 0, 50011, .froz, [])]
 (.block 2
 (.loop 0 ⟨[(0, .one (.c (.v (.int .i64)))), (3, .one (.c (.ptr0 3 0))), (4, .one (.c (.ptr0 4 0))), (7, .one (.c (.ptr0 7 0))), (8, .one (.c (.full 50008 1))), (9, .one (.c (.v (.int .i64)))), (10, .one (.c (.v (.int .i64)))), (11, .one (.c (.v (.int .i64)))), (14, .one (.c (.v (.int .i64)))), (15, .one (.c (.v (.int .i64))))], [(3, .box [.c (.v (.int .i64)), .c (.v (.int .i64)), .c (.v (.list [.int .i64]))]), (4, .box [.c (.v (.int .i64)), .c (.v (.int .i64)), .c (.full 50006 1)]), (7, .box [.c (.v (.int .i64)), .c (.v (.int .i64)), .c (.full 50007 1)]), (50006, .row true .froz [.int .i64]), (50007, .row true .froz [.int .i64]), (50008, .row true .froz [.int .i64])]⟩ [3, 4, 24000, 24001, 24002, 24003, 24004, 24005, 7, 25, 45000, 45001, 45002, 45003, 45004, 45005, 54000, 54001, 54002, 54003, 54004, 54005, 77000, 77001, 77002, 77003, 77004, 77005, 130000, 130001, 130002, 130003, 130004, 130005, 132, 133, 50000, 50001, 50002, 50003, 50004, 50005, 50006, 50007, 50008, 50009, 50010, 50011, 50012, 50013, 50014, 50015, 50016, 50017, 50018, 50019, 50020, 50021, 50022, 50023] [(true, 4, 2, 50006, .froz, []), (true, 7, 2, 50007, .froz, []), (false, 8, 0, 50008, .froz, [])]
 (.seq
 (.seq
 (.reg false [
 ⟨(some 77), .mv (.t 15), none⟩,
 ⟨(some 78), .fieldA 1 (.t 3), none⟩,
 ⟨(some 79), .load false 1 (.t 78), none⟩,
 ⟨(some 80), .bin .lss (.t 77) (.t 79), none⟩])
 (.cond (.t 80)
 .skip
 (.exit 2)))
 (.seq
 (.block 3
 (.reg true [
 ⟨(some 83), .fieldA 2 (.t 7), none⟩,
 ⟨(some 84), .load false 1 (.t 83), none⟩,
 ⟨(some 85), .mv (.t 11), none⟩,
 ⟨(some 86), .fieldA 1 (.t 3), none⟩,
 ⟨(some 87), .load false 1 (.t 86), none⟩,
 ⟨(some 88), .bin .mul (.t 85) (.t 87), none⟩,
 ⟨(some 89), .mv (.t 15), none⟩,
 ⟨(some 90), .bin .add (.t 88) (.t 89), none⟩,
 ⟨(some 91), .fieldA 2 (.t 7), none⟩,
 ⟨(some 92), .load false 1 (.t 91), none⟩,
 ⟨(some 93), .mv (.t 11), none⟩,
 ⟨(some 94), .fieldA 1 (.t 3), none⟩,
 ⟨(some 95), .load false 1 (.t 94), none⟩,
 ⟨(some 96), .bin .mul (.t 93) (.t 95), none⟩,
 ⟨(some 97), .mv (.t 15), none⟩,
 ⟨(some 98), .bin .add (.t 96) (.t 97), none⟩,
 ⟨(some 99), .idxA 1 (.t 92) (.t 98), none⟩,
 ⟨(some 100), .load false 1 (.t 99), none⟩,
 ⟨(some 101), .mv (.t 14), none⟩,
 ⟨(some 102), .bin .mul (.t 100) (.t 101), none⟩,
 ⟨(some 103), .mv (.t 0), none⟩,
 ⟨(some 104), .bin .rem (.t 102) (.t 103), none⟩,
 ⟨(some 105), .idxA 1 (.t 84) (.t 90), none⟩,
 ⟨none, .store 1 (.t 105) (.t 104), none⟩]))
 (.reg false [
 ⟨(some 81), .mv (.t 15), none⟩,
 ⟨(some 82), .bin .add (.t 81) (.k (.one (.v (.int .i64) ((1 : Int))))), none⟩,
 ⟨(some 15), .mv (.t 82), none⟩])))))))
 (.seq
 (.seq
 (.reg false [
 ⟨(some 16), .mv (.k (.one (.v (.int .i64) ((0 : Int))))), none⟩])
 (.join ⟨[(8, .one (.c (.full 50017 1))), (10, .one (.c (.v (.int .i64)))), (0, .one (.c (.v (.int .i64)))), (3, .one (.c (.ptr0 3 0))), (4, .one (.c (.ptr0 4 0))), (7, .one (.c (.ptr0 7 0))), (9, .one (.c (.v (.int .i64))))], [(3, .box [.c (.v (.int .i64)), .c (.v (.int .i64)), .c (.v (.list [.int .i64]))]), (4, .box [.c (.v (.int .i64)), .c (.v (.int .i64)), .c (.full 50015 1)]), (7, .box [.c (.v (.int .i64)), .c (.v (.int .i64)), .c (.full 50016 1)]), (50015, .row true .froz [.int .i64]), (50016, .row true .froz [.int .i64]), (50017, .row true .froz [.int .i64])]⟩ [3, 4, 24000, 24001, 24002, 24003, 24004, 24005, 7, 25, 45000, 45001, 45002, 45003, 45004, 45005, 54000, 54001, 54002, 54003, 54004, 54005, 77000, 77001, 77002, 77003, 77004, 77005, 130000, 130001, 130002, 130003, 130004, 130005, 132, 133, 50000, 50001, 50002, 50003, 50004, 50005, 50006, 50007, 50008, 50009, 50010, 50011, 50012, 50013, 50014, 50015, 50016, 50017, 50018, 50019, 50020, 50021, 50022, 50023] [(true, 4, 2, 50015, .froz, []), (true, 7, 2, 50016, .froz, []), (false, 8, 0, 50017, .froz, [])]
 (.block 4
 (.loop 0 ⟨[(0, .one (.c (.v (.int .i64)))), (3, .one (.c (.ptr0 3 0))), (4, .one (.c (.ptr0 4 0))), (7, .one (.c (.ptr0 7 0))), (8, .one (.c (.full 50014 1))), (9, .one (.c (.v (.int .i64)))), (10, .one (.c (.v (.int .i64)))), (11, .one (.c (.v (.int .i64)))), (16, .one (.c (.v (.int .i64))))], [(3, .box [.c (.v (.int .i64)), .c (.v (.int .i64)), .c (.v (.list [.int .i64]))]), (4, .box [.c (.v (.int .i64)), .c (.v (.int .i64)), .c (.full 50012 1)]), (7, .box [.c (.v (.int .i64)), .c (.v (.int .i64)), .c (.full 50013 1)]), (50012, .row true .froz [.int .i64]), (50013, .row true .froz [.int .i64]), (50014, .row true .froz [.int .i64])]⟩ [3, 4, 24000, 24001, 24002, 24003, 24004, 24005, 7, 25, 45000, 45001, 45002, 45003, 45004, 45005, 54000, 54001, 54002, 54003, 54004, 54005, 77000, 77001, 77002, 77003, 77004, 77005, 130000, 130001, 130002, 130003, 130004, 130005, 132, 133, 50000, 50001, 50002, 50003, 50004, 50005, 50006, 50007, 50008, 50009, 50010, 50011, 50012, 50013, 50014, 50015, 50016, 50017, 50018, 50019, 50020, 50021, 50022, 50023] [(true, 4, 2, 50012, .froz, []), (true, 7, 2, 50013, .froz, []), (false, 8, 0, 50014, .froz, [])]
 (.seq
 (.seq
 (.reg false [
 ⟨(some 106), .mv (.t 16), none⟩,
 ⟨(some 107), .fieldA 0 (.t 3), none⟩,
 ⟨(some 108), .load false 1 (.t 107), none⟩,
 ⟨(some 109), .bin .lss (.t 106) (.t 108), none⟩])
 (.cond (.t 109)
 .skip
 (.exit 4)))
 (.seq
 (.block 5
 (.seq
 (.reg false [
 ⟨(some 112), .mv (.t 16), none⟩,
 ⟨(some 113), .mv (.t 11), none⟩,
 ⟨(some 114), .bin .neq (.t 112) (.t 113), none⟩])
 (.cond (.t 114)
 (.reg true [
 ⟨(some 115), .mv (.t 0), none⟩,
 ⟨(some 116), .load true 3 (.t 7), none⟩,
 ⟨(some 117), .mv (.t 16), none⟩,
 ⟨(some 118), .mv (.t 11), none⟩,
 ⟨(some 119), .fieldA 2 (.t 7), none⟩,
 ⟨(some 120), .load false 1 (.t 119), none⟩,
 ⟨(some 121), .mv (.t 16), none⟩,
 ⟨(some 122), .fieldA 1 (.t 3), none⟩,
 ⟨(some 123), .load false 1 (.t 122), none⟩,
 ⟨(some 124), .bin .mul (.t 121) (.t 123), none⟩,
 ⟨(some 125), .mv (.t 10), none⟩,
 ⟨(some 126), .bin .add (.t 124) (.t 125), none⟩,
 ⟨(some 127), .idxA 1 (.t 120) (.t 126), none⟩,
 ⟨(some 128), .load false 1 (.t 127), none⟩,
 ⟨(some 129), .callm .froz 72 [(.t 115), (.t 116), (.t 117), (.t 118), (.t 128)], none⟩])
 .skip)))
 (.reg false [
 ⟨(some 110), .mv (.t 16), none⟩,
 ⟨(some 111), .bin .add (.t 110) (.k (.one (.v (.int .i64) ((1 : Int))))), none⟩,
 ⟨(some 16), .mv (.t 111), none⟩])))))))
 (.reg false [
 ⟨(some 130), .mv (.t 8), none⟩,
 ⟨(some 131), .mv (.t 10), none⟩,
 ⟨(some 132), .bslice [.int .i64] [(.t 131)], none⟩,
 ⟨(some 133), .append true [.int .i64] 8 (.t 130) (.t 132), none⟩,
 ⟨(some 8), .mv (.t 133), none⟩]))))))))))))
 (.reg false [
 ⟨(some 37), .mv (.t 10), none⟩,
 ⟨(some 38), .bin .add (.t 37) (.k (.one (.v (.int .i64) ((1 : Int))))), none⟩,
 ⟨(some 10), .mv (.t 38), none⟩])))))))
 (.seq
 (.reg false [
 ⟨(some 134), .load true 3 (.t 7), none⟩,
 ⟨(some 135), .mv (.t 8), none⟩,
 ⟨(some 136), .mv (.t 9), none⟩,
 ⟨none, .store 3 (.t 4) (.t 134), none⟩,
 ⟨(some 5), .mv (.t 135), none⟩,
 ⟨(some 6), .mv (.t 136), none⟩])
 .ret))))))
def ms_spec_l31Reduce : List MRes := [.cell 4 3 true, .tmp 5, .tmp 6]
theorem n_spec_l31Reduce (NN : Nat) (x : DLL (Sig.tys ag_spec_l31Reduce)) : runS NN [fn_spec_l05Ints, fn_spec_l31Pivot, fn_spec_l31Swap, fn_spec_l31Inverse, fn_spec_l31Clear] sc_spec_l31Reduce ms_spec_l31Reduce ag_spec_l31Reduce rs_spec_l31Reduce x = G_spec_l31Reduce NN x := by kernel_rfl
theorem k_spec_l31Reduce : chkS Go.Proofs.Try.prog 60 sc_spec_l31Reduce.er ms_spec_l31Reduce 2 = true := by decide +kernel
theorem p_spec_l31Reduce : PureSpec Go.Proofs.Try.prog 60 fn_spec_l31Reduce.M ∧ chkFun Go.Proofs.Try.prog 60 = true :=
  pure_of_runS (T := [fn_spec_l05Ints, fn_spec_l31Pivot, fn_spec_l31Swap, fn_spec_l31Inverse, fn_spec_l31Clear]) (sc := sc_spec_l31Reduce) (ms := ms_spec_l31Reduce) (args := ag_spec_l31Reduce) (res := rs_spec_l31Reduce) (SOk.cons p_spec_l05Ints <| SOk.cons p_spec_l31Pivot <| SOk.consM p_spec_l31Swap <| SOk.cons p_spec_l31Inverse <| SOk.consM p_spec_l31Clear <| SOk.nil) follows_ok k_spec_l31Reduce F_spec_l31Reduce fun x y h => (n_spec_l31Reduce FUEL x).trans (f_spec_l31Reduce x y h)

def fn_spec_InverseMatrix : SFn := ⟨44, ag_spec_InverseMatrix, mu_spec_InverseMatrix, rs_spec_InverseMatrix, F_spec_InverseMatrix⟩
def sc_spec_InverseMatrix : SCode :=
 (.seq
 (.reg false [
 ⟨(some 3), .box 3 (.t 1), none⟩,
 ⟨(some 4), .alloc [.v (.int .i64) ((0 : Int)), .v (.int .i64) ((0 : Int)), .nil [.int .i64]], none⟩,
 ⟨(some 5), .mv (.k (.one (.v (.bool) (false)))), none⟩])
 (.seq
 (.seq
 (.reg false [
 ⟨(some 16), .mv (.t 0), none⟩,
 ⟨(some 17), .load true 3 (.t 3), none⟩,
 ⟨(some 18), .call .froz 48 [(.t 16), (.t 17)], none⟩,
 ⟨(some 19), .un .not (.t 18), none⟩,
 ⟨(some 20), .mv (.t 19), none⟩,
 ⟨(some 21), .fieldA 0 (.t 3), (some (20, false))⟩,
 ⟨(some 22), .load false 1 (.t 21), (some (20, false))⟩,
 ⟨(some 23), .fieldA 1 (.t 3), (some (20, false))⟩,
 ⟨(some 24), .load false 1 (.t 23), (some (20, false))⟩,
 ⟨(some 25), .bin .neq (.t 22) (.t 24), (some (20, false))⟩,
 ⟨(some 26), .pick (.t 20) (.k (.one (.v (.bool) (true)))) (.t 25), none⟩])
 (.cond (.t 26)
 (.seq
 (.reg false [
 ⟨(some 27), .build [.v (.int .i64) ((0 : Int)), .v (.int .i64) ((0 : Int)), .nil [.int .i64]] [], none⟩,
 ⟨none, .store 3 (.t 4) (.t 27), none⟩,
 ⟨(some 5), .mv (.k (.one (.v (.bool) (false)))), none⟩])
 .ret)
 .skip))
 (.seq
 (.reg false [
 ⟨(some 28), .fieldA 0 (.t 3), none⟩,
 ⟨(some 29), .load false 1 (.t 28), none⟩,
 ⟨(some 6), .mv (.t 29), none⟩])
 (.seq
 (.reg false [
 ⟨(some 30), .mv (.t 6), none⟩,
 ⟨(some 31), .mv (.t 6), none⟩,
 ⟨(some 32), .bin .mul (.k (.one (.v (.int .i64) ((2 : Int))))) (.t 31), none⟩,
 ⟨(some 33), .call .froz 76 [(.t 30), (.t 32)], none⟩,
 ⟨(some 7), .alloc [.v (.int .i64) ((0 : Int)), .v (.int .i64) ((0 : Int)), .nil [.int .i64]], none⟩,
 ⟨none, .store 3 (.t 7) (.t 33), none⟩])
 (.seq
 (.seq
 (.reg false [
 ⟨(some 8), .mv (.k (.one (.v (.int .i64) ((0 : Int))))), none⟩])
 (.join ⟨[(0, .one (.c (.v (.int .i64)))), (7, .one (.c (.ptr0 7 0))), (4, .one (.c (.ptr0 4 0))), (6, .one (.c (.v (.int .i64))))], [(4, .box [.c (.v (.int .i64)), .c (.v (.int .i64)), .c (.full 50008 1)]), (7, .box [.c (.v (.int .i64)), .c (.v (.int .i64)), .c (.full 50009 1)]), (50008, .row true .froz [.int .i64]), (50009, .row true .froz [.int .i64])]⟩ [3, 4, 19000, 19001, 19002, 19003, 19004, 19005, 34000, 34001, 34002, 34003, 34004, 34005, 7, 77000, 77001, 77002, 77003, 77004, 77005, 10, 83000, 83001, 83002, 83003, 83004, 83005, 13, 50000, 50001, 50002, 50003, 50004, 50005, 50006, 50007, 50008, 50009, 50010, 50011, 50012, 50013, 50014, 50015, 50016, 50017, 50018, 50019, 50020, 50021, 50022, 50023] [(true, 4, 2, 50008, .froz, []), (true, 7, 2, 50009, .froz, [])]
 (.block 0
 (.loop 0 ⟨[(0, .one (.c (.v (.int .i64)))), (3, .one (.c (.ptr0 3 0))), (4, .one (.c (.ptr0 4 0))), (6, .one (.c (.v (.int .i64)))), (7, .one (.c (.ptr0 7 0))), (8, .one (.c (.v (.int .i64))))], [(3, .box [.c (.v (.int .i64)), .c (.v (.int .i64)), .c (.v (.list [.int .i64]))]), (4, .box [.c (.v (.int .i64)), .c (.v (.int .i64)), .c (.full 50000 1)]), (7, .box [.c (.v (.int .i64)), .c (.v (.int .i64)), .c (.full 50001 1)]), (50000, .row true .froz [.int .i64]), (50001, .row true .froz [.int .i64])]⟩ [3, 4, 19000, 19001, 19002, 19003, 19004, 19005, 34000, 34001, 34002, 34003, 34004, 34005, 7, 77000, 77001, 77002, 77003, 77004, 77005, 10, 83000, 83001, 83002, 83003, 83004, 83005, 13, 50000, 50001, 50002, 50003, 50004, 50005, 50006, 50007, 50008, 50009, 50010, 50011, 50012, 50013, 50014, 50015, 50016, 50017, 50018, 50019, 50020, 50021, 50022, 50023] [(true, 4, 2, 50000, .froz, []), (true, 7, 2, 50001, .froz, [])]
 (.seq
 (.seq
 (.reg false [
 ⟨(some 34), .mv (.t 8), none⟩,
 ⟨(some 35), .mv (.t 6), none⟩,
 ⟨(some 36), .bin .lss (.t 34) (.t 35), none⟩])
 (.cond (.t 36)
 .skip
 (.exit 0)))
 (.seq
 (.join ⟨[(8, .one (.c (.v (.int .i64)))), (0, .one (.c (.v (.int .i64)))), (3, .one (.c (.ptr0 3 0))), (4, .one (.c (.ptr0 4 0))), (6, .one (.c (.v (.int .i64)))), (7, .one (.c (.ptr0 7 0)))], [(3, .box [.c (.v (.int .i64)), .c (.v (.int .i64)), .c (.v (.list [.int .i64]))]), (4, .box [.c (.v (.int .i64)), .c (.v (.int .i64)), .c (.full 50006 1)]), (7, .box [.c (.v (.int .i64)), .c (.v (.int .i64)), .c (.full 50007 1)]), (50006, .row true .froz [.int .i64]), (50007, .row true .froz [.int .i64])]⟩ [3, 4, 19000, 19001, 19002, 19003, 19004, 19005, 34000, 34001, 34002, 34003, 34004, 34005, 7, 77000, 77001, 77002, 77003, 77004, 77005, 10, 83000, 83001, 83002, 83003, 83004, 83005, 13, 50000, 50001, 50002, 50003, 50004, 50005, 50006, 50007, 50008, 50009, 50010, 50011, 50012, 50013, 50014, 50015, 50016, 50017, 50018, 50019, 50020, 50021, 50022, 50023] [(true, 4, 2, 50006, .froz, []), (true, 7, 2, 50007, .froz, [])]
 (.block 1
 (.seq
 (.seq
 (.reg false [
 ⟨(some 9), .mv (.k (.one (.v (.int .i64) ((0 : Int))))), none⟩])
 (.join ⟨[(8, .one (.c (.v (.int .i64)))), (0, .one (.c (.v (.int .i64)))), (3, .one (.c (.ptr0 3 0))), (4, .one (.c (.ptr0 4 0))), (6, .one (.c (.v (.int .i64)))), (7, .one (.c (.ptr0 7 0)))], [(3, .box [.c (.v (.int .i64)), .c (.v (.int .i64)), .c (.v (.list [.int .i64]))]), (4, .box [.c (.v (.int .i64)), .c (.v (.int .i64)), .c (.full 50004 1)]), (7, .box [.c (.v (.int .i64)), .c (.v (.int .i64)), .c (.full 50005 1)]), (50004, .row true .froz [.int .i64]), (50005, .row true .froz [.int .i64])]⟩ [3, 4, 19000, 19001, 19002, 19003, 19004, 19005, 34000, 34001, 34002, 34003, 34004, 34005, 7, 77000, 77001, 77002, 77003, 77004, 77005, 10, 83000, 83001, 83002, 83003, 83004, 83005, 13, 50000, 50001, 50002, 50003, 50004, 50005, 50006, 50007, 50008, 50009, 50010, 50011, 50012, 50013, 50014, 50015, 50016, 50017, 50018, 50019, 50020, 50021, 50022, 50023] [(true, 4, 2, 50004, .froz, []), (true, 7, 2, 50005, .froz, [])]
 (.block 2
 (.loop 0 ⟨[(0, .one (.c (.v (.int .i64)))), (3, .one (.c (.ptr0 3 0))), (4, .one (.c (.ptr0 4 0))), (6, .one (.c (.v (.int .i64)))), (7, .one (.c (.ptr0 7 0))), (8, .one (.c (.v (.int .i64)))), (9, .one (.c (.v (.int .i64))))], [(3, .box [.c (.v (.int .i64)), .c (.v (.int .i64)), .c (.v (.list [.int .i64]))]), (4, .box [.c (.v (.int .i64)), .c (.v (.int .i64)), .c (.full 50002 1)]), (7, .box [.c (.v (.int .i64)), .c (.v (.int .i64)), .c (.full 50003 1)]), (50002, .row true .froz [.int .i64]), (50003, .row true .froz [.int .i64])]⟩ [3, 4, 19000, 19001, 19002, 19003, 19004, 19005, 34000, 34001, 34002, 34003, 34004, 34005, 7, 77000, 77001, 77002, 77003, 77004, 77005, 10, 83000, 83001, 83002, 83003, 83004, 83005, 13, 50000, 50001, 50002, 50003, 50004, 50005, 50006, 50007, 50008, 50009, 50010, 50011, 50012, 50013, 50014, 50015, 50016, 50017, 50018, 50019, 50020, 50021, 50022, 50023] [(true, 4, 2, 50002, .froz, []), (true, 7, 2, 50003, .froz, [])]
 (.seq
 (.seq
 (.reg false [
 ⟨(some 39), .mv (.t 9), none⟩,
 ⟨(some 40), .mv (.t 6), none⟩,
 ⟨(some 41), .bin .lss (.t 39) (.t 40), none⟩])
 (.cond (.t 41)
 .skip
 (.exit 2)))
 (.seq
 (.block 3
 (.reg true [
 ⟨(some 44), .fieldA 2 (.t 7), none⟩,
 ⟨(some 45), .load false 1 (.t 44), none⟩,
 ⟨(some 46), .mv (.t 8), none⟩,
 ⟨(some 47), .bin .mul (.t 46) (.k (.one (.v (.int .i64) ((2 : Int))))), none⟩,
 ⟨(some 48), .mv (.t 6), none⟩,
 ⟨(some 49), .bin .mul (.t 47) (.t 48), none⟩,
 ⟨(some 50), .mv (.t 9), none⟩,
 ⟨(some 51), .bin .add (.t 49) (.t 50), none⟩,
 ⟨(some 52), .fieldA 2 (.t 3), none⟩,
 ⟨(some 53), .load false 1 (.t 52), none⟩,
 ⟨(some 54), .mv (.t 8), none⟩,
 ⟨(some 55), .mv (.t 6), none⟩,
 ⟨(some 56), .bin .mul (.t 54) (.t 55), none⟩,
 ⟨(some 57), .mv (.t 9), none⟩,
 ⟨(some 58), .bin .add (.t 56) (.t 57), none⟩,
 ⟨(some 59), .idxA 1 (.t 53) (.t 58), none⟩,
 ⟨(some 60), .load false 1 (.t 59), none⟩,
 ⟨(some 61), .idxA 1 (.t 45) (.t 51), none⟩,
 ⟨none, .store 1 (.t 61) (.t 60), none⟩]))
 (.reg false [
 ⟨(some 42), .mv (.t 9), none⟩,
 ⟨(some 43), .bin .add (.t 42) (.k (.one (.v (.int .i64) ((1 : Int))))), none⟩,
 ⟨(some 9), .mv (.t 43), none⟩])))))))
 (.reg false [
 ⟨(some 62), .fieldA 2 (.t 7), none⟩,
 ⟨(some 63), .load false 1 (.t 62), none⟩,
 ⟨(some 64), .mv (.t 8), none⟩,
 ⟨(some 65), .bin .mul (.t 64) (.k (.one (.v (.int .i64) ((2 : Int))))), none⟩,
 ⟨(some 66), .mv (.t 6), none⟩,
 ⟨(some 67), .bin .mul (.t 65) (.t 66), none⟩,
 ⟨(some 68), .mv (.t 6), none⟩,
 ⟨(some 69), .bin .add (.t 67) (.t 68), none⟩,
 ⟨(some 70), .mv (.t 8), none⟩,
 ⟨(some 71), .bin .add (.t 69) (.t 70), none⟩,
 ⟨(some 72), .idxA 1 (.t 63) (.t 71), none⟩,
 ⟨none, .store 1 (.t 72) (.k (.one (.v (.int .i64) ((1 : Int))))), none⟩]))))
 (.reg false [
 ⟨(some 37), .mv (.t 8), none⟩,
 ⟨(some 38), .bin .add (.t 37) (.k (.one (.v (.int .i64) ((1 : Int))))), none⟩,
 ⟨(some 8), .mv (.t 38), none⟩])))))))
 (.seq
 (.reg false [
 ⟨(some 74), .mv (.t 0), none⟩,
 ⟨(some 75), .load true 3 (.t 7), none⟩,
 ⟨(some 76), .call .froz 60 [(.t 74), (.t 75)], none⟩,
 ⟨(some 73), .mv (.t 76), none⟩,
 ⟨(some 77), .ext 0 (.t 73), none⟩,
 ⟨(some 78), .ext 1 (.t 73), none⟩,
 ⟨(some 79), .ext 2 (.t 73), none⟩,
 ⟨(some 10), .alloc [.v (.int .i64) ((0 : Int)), .v (.int .i64) ((0 : Int)), .nil [.int .i64]], none⟩,
 ⟨none, .store 3 (.t 10) (.t 77), none⟩,
 ⟨(some 11), .mv (.t 78), none⟩,
 ⟨(some 12), .mv (.t 79), none⟩])
 (.seq
 (.reg false [
 ⟨(some 80), .mv (.t 6), none⟩,
 ⟨(some 81), .mv (.t 6), none⟩,
 ⟨(some 82), .call .froz 76 [(.t 80), (.t 81)], none⟩,
 ⟨(some 13), .alloc [.v (.int .i64) ((0 : Int)), .v (.int .i64) ((0 : Int)), .nil [.int .i64]], none⟩,
 ⟨none, .store 3 (.t 13) (.t 82), none⟩])
 (.seq
 (.seq
 (.reg false [
 ⟨(some 14), .mv (.k (.one (.v (.int .i64) ((0 : Int))))), none⟩])
 (.join ⟨[(13, .one (.c (.ptr0 13 0))), (4, .one (.c (.ptr0 4 0)))], [(4, .box [.c (.v (.int .i64)), .c (.v (.int .i64)), .c (.full 50022 1)]), (13, .box [.c (.v (.int .i64)), .c (.v (.int .i64)), .c (.full 50023 1)]), (50022, .row true .froz [.int .i64]), (50023, .row true .froz [.int .i64])]⟩ [3, 4, 19000, 19001, 19002, 19003, 19004, 19005, 34000, 34001, 34002, 34003, 34004, 34005, 7, 77000, 77001, 77002, 77003, 77004, 77005, 10, 83000, 83001, 83002, 83003, 83004, 83005, 13, 50000, 50001, 50002, 50003, 50004, 50005, 50006, 50007, 50008, 50009, 50010, 50011, 50012, 50013, 50014, 50015, 50016, 50017, 50018, 50019, 50020, 50021, 50022, 50023] [(true, 4, 2, 50022, .froz, []), (true, 13, 2, 50023, .froz, [])]
 (.block 4
 (.loop 0 ⟨[(4, .one (.c (.ptr0 4 0))), (6, .one (.c (.v (.int .i64)))), (10, .one (.c (.ptr0 10 0))), (11, .one (.c (.full 50013 1))), (13, .one (.c (.ptr0 13 0))), (14, .one (.c (.v (.int .i64))))], [(4, .box [.c (.v (.int .i64)), .c (.v (.int .i64)), .c (.full 50010 1)]), (10, .box [.c (.v (.int .i64)), .c (.v (.int .i64)), .c (.full 50011 1)]), (13, .box [.c (.v (.int .i64)), .c (.v (.int .i64)), .c (.full 50012 1)]), (50010, .row true .froz [.int .i64]), (50011, .row true .froz [.int .i64]), (50012, .row true .froz [.int .i64]), (50013, .row true .froz [.int .i64])]⟩ [3, 4, 19000, 19001, 19002, 19003, 19004, 19005, 34000, 34001, 34002, 34003, 34004, 34005, 7, 77000, 77001, 77002, 77003, 77004, 77005, 10, 83000, 83001, 83002, 83003, 83004, 83005, 13, 50000, 50001, 50002, 50003, 50004, 50005, 50006, 50007, 50008, 50009, 50010, 50011, 50012, 50013, 50014, 50015, 50016, 50017, 50018, 50019, 50020, 50021, 50022, 50023] [(true, 4, 2, 50010, .froz, []), (true, 10, 2, 50011, .froz, []), (true, 13, 2, 50012, .froz, []), (false, 11, 0, 50013, .froz, [])]
 (.seq
 (.seq
 (.reg false [
 ⟨(some 83), .mv (.t 14), none⟩,
 ⟨(some 84), .mv (.t 6), none⟩,
 ⟨(some 85), .bin .lss (.t 83) (.t 84), none⟩])
 (.cond (.t 85)
 .skip
 (.exit 4)))
 (.seq
 (.join ⟨[(14, .one (.c (.v (.int .i64)))), (4, .one (.c (.ptr0 4 0))), (6, .one (.c (.v (.int .i64)))), (10, .one (.c (.ptr0 10 0))), (11, .one (.c (.full 50021 1))), (13, .one (.c (.ptr0 13 0)))], [(4, .box [.c (.v (.int .i64)), .c (.v (.int .i64)), .c (.full 50018 1)]), (10, .box [.c (.v (.int .i64)), .c (.v (.int .i64)), .c (.full 50019 1)]), (13, .box [.c (.v (.int .i64)), .c (.v (.int .i64)), .c (.full 50020 1)]), (50018, .row true .froz [.int .i64]), (50019, .row true .froz [.int .i64]), (50020, .row true .froz [.int .i64]), (50021, .row true .froz [.int .i64])]⟩ [3, 4, 19000, 19001, 19002, 19003, 19004, 19005, 34000, 34001, 34002, 34003, 34004, 34005, 7, 77000, 77001, 77002, 77003, 77004, 77005, 10, 83000, 83001, 83002, 83003, 83004, 83005, 13, 50000, 50001, 50002, 50003, 50004, 50005, 50006, 50007, 50008, 50009, 50010, 50011, 50012, 50013, 50014, 50015, 50016, 50017, 50018, 50019, 50020, 50021, 50022, 50023] [(true, 4, 2, 50018, .froz, []), (true, 10, 2, 50019, .froz, []), (true, 13, 2, 50020, .froz, []), (false, 11, 0, 50021, .froz, [])]
 (.block 5
 (.seq
 (.seq
 (.reg false [
 ⟨(some 88), .mv (.t 11), none⟩,
 ⟨(some 89), .mv (.t 14), none⟩,
 ⟨(some 90), .idxA 1 (.t 88) (.t 89), none⟩,
 ⟨(some 91), .load false 1 (.t 90), none⟩,
 ⟨(some 92), .mv (.t 14), none⟩,
 ⟨(some 93), .bin .neq (.t 91) (.t 92), none⟩])
 (.cond (.t 93)
 (.seq
 (.reg false [
 ⟨(some 94), .build [.v (.int .i64) ((0 : Int)), .v (.int .i64) ((0 : Int)), .nil [.int .i64]] [], none⟩,
 ⟨none, .store 3 (.t 4) (.t 94), none⟩,
 ⟨(some 5), .mv (.k (.one (.v (.bool) (false)))), none⟩])
 .ret)
 .skip))
 (.seq
 (.reg false [
 ⟨(some 15), .mv (.k (.one (.v (.int .i64) ((0 : Int))))), none⟩])
 (.block 6
 (.loop 0 ⟨[(4, .one (.c (.ptr0 4 0))), (6, .one (.c (.v (.int .i64)))), (10, .one (.c (.ptr0 10 0))), (11, .one (.c (.full 50017 1))), (13, .one (.c (.ptr0 13 0))), (14, .one (.c (.v (.int .i64)))), (15, .one (.c (.v (.int .i64))))], [(4, .box [.c (.v (.int .i64)), .c (.v (.int .i64)), .c (.full 50014 1)]), (10, .box [.c (.v (.int .i64)), .c (.v (.int .i64)), .c (.full 50015 1)]), (13, .box [.c (.v (.int .i64)), .c (.v (.int .i64)), .c (.full 50016 1)]), (50014, .row true .froz [.int .i64]), (50015, .row true .froz [.int .i64]), (50016, .row true .froz [.int .i64]), (50017, .row true .froz [.int .i64])]⟩ [3, 4, 19000, 19001, 19002, 19003, 19004, 19005, 34000, 34001, 34002, 34003, 34004, 34005, 7, 77000, 77001, 77002, 77003, 77004, 77005, 10, 83000, 83001, 83002, 83003, 83004, 83005, 13, 50000, 50001, 50002, 50003, 50004, 50005, 50006, 50007, 50008, 50009, 50010, 50011, 50012, 50013, 50014, 50015, 50016, 50017, 50018, 50019, 50020, 50021, 50022, 50023] [(true, 4, 2, 50014, .froz, []), (true, 10, 2, 50015, .froz, []), (true, 13, 2, 50016, .froz, []), (false, 11, 0, 50017, .froz, [])]
 (.seq
 (.seq
 (.reg false [
 ⟨(some 95), .mv (.t 15), none⟩,
 ⟨(some 96), .mv (.t 6), none⟩,
 ⟨(some 97), .bin .lss (.t 95) (.t 96), none⟩])
 (.cond (.t 97)
 .skip
 (.exit 6)))
 (.seq
 (.block 7
 (.reg true [
 ⟨(some 100), .fieldA 2 (.t 13), none⟩,
 ⟨(some 101), .load false 1 (.t 100), none⟩,
 ⟨(some 102), .mv (.t 14), none⟩,
 ⟨(some 103), .mv (.t 6), none⟩,
 ⟨(some 104), .bin .mul (.t 102) (.t 103), none⟩,
 ⟨(some 105), .mv (.t 15), none⟩,
 ⟨(some 106), .bin .add (.t 104) (.t 105), none⟩,
 ⟨(some 107), .fieldA 2 (.t 10), none⟩,
 ⟨(some 108), .load false 1 (.t 107), none⟩,
 ⟨(some 109), .mv (.t 14), none⟩,
 ⟨(some 110), .bin .mul (.t 109) (.k (.one (.v (.int .i64) ((2 : Int))))), none⟩,
 ⟨(some 111), .mv (.t 6), none⟩,
 ⟨(some 112), .bin .mul (.t 110) (.t 111), none⟩,
 ⟨(some 113), .mv (.t 6), none⟩,
 ⟨(some 114), .bin .add (.t 112) (.t 113), none⟩,
 ⟨(some 115), .mv (.t 15), none⟩,
 ⟨(some 116), .bin .add (.t 114) (.t 115), none⟩,
 ⟨(some 117), .idxA 1 (.t 108) (.t 116), none⟩,
 ⟨(some 118), .load false 1 (.t 117), none⟩,
 ⟨(some 119), .idxA 1 (.t 101) (.t 106), none⟩,
 ⟨none, .store 1 (.t 119) (.t 118), none⟩]))
 (.reg false [
 ⟨(some 98), .mv (.t 15), none⟩,
 ⟨(some 99), .bin .add (.t 98) (.k (.one (.v (.int .i64) ((1 : Int))))), none⟩,
 ⟨(some 15), .mv (.t 99), none⟩])))))))))
 (.reg false [
 ⟨(some 86), .mv (.t 14), none⟩,
 ⟨(some 87), .bin .add (.t 86) (.k (.one (.v (.int .i64) ((1 : Int))))), none⟩,
 ⟨(some 14), .mv (.t 87), none⟩])))))))
 (.seq
 (.reg false [
 ⟨(some 120), .load true 3 (.t 13), none⟩,
 ⟨none, .store 3 (.t 4) (.t 120), none⟩,
 ⟨(some 5), .mv (.k (.one (.v (.bool) (true)))), none⟩])
 .ret)))))))))
def ms_spec_InverseMatrix : List MRes := [.cell 4 3 true, .tmp 5]
theorem n_spec_InverseMatrix (NN : Nat) (x : DLL (Sig.tys ag_spec_InverseMatrix)) : runS NN [fn_spec_MatrixOk, fn_spec_l31New, fn_spec_l31Reduce] sc_spec_InverseMatrix ms_spec_InverseMatrix ag_spec_InverseMatrix rs_spec_InverseMatrix x = G_spec_InverseMatrix NN x := by kernel_rfl
theorem k_spec_InverseMatrix : chkS Go.Proofs.Try.prog 44 sc_spec_InverseMatrix.er ms_spec_InverseMatrix 2 = true := by decide +kernel
theorem p_spec_InverseMatrix : PureSpec Go.Proofs.Try.prog 44 fn_spec_InverseMatrix.M ∧ chkFun Go.Proofs.Try.prog 44 = true :=
  pure_of_runS (T := [fn_spec_MatrixOk, fn_spec_l31New, fn_spec_l31Reduce]) (sc := sc_spec_InverseMatrix) (ms := ms_spec_InverseMatrix) (args := ag_spec_InverseMatrix) (res := rs_spec_InverseMatrix) (SOk.cons p_spec_MatrixOk <| SOk.cons p_spec_l31New <| SOk.cons p_spec_l31Reduce <| SOk.nil) follows_ok k_spec_InverseMatrix F_spec_InverseMatrix fun x y h => (n_spec_InverseMatrix FUEL x).trans (f_spec_InverseMatrix x y h)

def fn_impl_IsPrime : SFn := ⟨68, ag_impl_IsPrime, mu_impl_IsPrime, rs_impl_IsPrime, F_impl_IsPrime⟩
def sc_impl_IsPrime : SCode :=
 (.seq
 (.reg false [
 ⟨(some 2), .mv (.k (.one (.v (.bool) (false)))), none⟩])
 (.seq
 (.seq
 (.reg false [
 ⟨(some 4), .mv (.t 0), none⟩,
 ⟨(some 5), .bin .lss (.t 4) (.k (.one (.v (.int .i64) ((2 : Int))))), none⟩,
 ⟨(some 6), .mv (.t 5), none⟩,
 ⟨(some 7), .mv (.t 0), (some (6, false))⟩,
 ⟨(some 8), .bin .gtr (.t 7) (.k (.one (.v (.int .i64) ((1000003 : Int))))), (some (6, false))⟩,
 ⟨(some 9), .pick (.t 6) (.k (.one (.v (.bool) (true)))) (.t 8), none⟩])
 (.cond (.t 9)
 (.seq
 (.reg false [
 ⟨(some 2), .mv (.k (.one (.v (.bool) (false)))), none⟩])
 .ret)
 .skip))
 (.seq
 (.seq
 (.reg false [
 ⟨(some 3), .mv (.k (.one (.v (.int .i64) ((2 : Int))))), none⟩])
 (.join ⟨[], []⟩ [] []
 (.block 0
 (.loop 0 ⟨[(0, .one (.c (.v (.int .i64)))), (3, .one (.c (.v (.int .i64))))], []⟩ [] []
 (.seq
 (.seq
 (.reg false [
 ⟨(some 10), .mv (.t 3), none⟩,
 ⟨(some 11), .mv (.t 3), none⟩,
 ⟨(some 12), .bin .mul (.t 10) (.t 11), none⟩,
 ⟨(some 13), .mv (.t 0), none⟩,
 ⟨(some 14), .bin .leq (.t 12) (.t 13), none⟩])
 (.cond (.t 14)
 .skip
 (.exit 0)))
 (.seq
 (.block 1
 (.seq
 (.reg false [
 ⟨(some 17), .mv (.t 0), none⟩,
 ⟨(some 18), .mv (.t 3), none⟩,
 ⟨(some 19), .bin .rem (.t 17) (.t 18), none⟩,
 ⟨(some 20), .bin .eql (.t 19) (.k (.one (.v (.int .i64) ((0 : Int))))), none⟩])
 (.cond (.t 20)
 (.seq
 (.reg false [
 ⟨(some 2), .mv (.k (.one (.v (.bool) (false)))), none⟩])
 .ret)
 .skip)))
 (.reg false [
 ⟨(some 15), .mv (.t 3), none⟩,
 ⟨(some 16), .bin .add (.t 15) (.k (.one (.v (.int .i64) ((1 : Int))))), none⟩,
 ⟨(some 3), .mv (.t 16), none⟩])))))))
 (.seq
 (.reg false [
 ⟨(some 2), .mv (.k (.one (.v (.bool) (true)))), none⟩])
 .ret))))
def ms_impl_IsPrime : List MRes := [.tmp 2]
theorem n_impl_IsPrime (NN : Nat) (x : DLL (Sig.tys ag_impl_IsPrime)) : runS NN [] sc_impl_IsPrime ms_impl_IsPrime ag_impl_IsPrime rs_impl_IsPrime x = G_impl_IsPrime NN x := by kernel_rfl
theorem k_impl_IsPrime : chkS Go.Proofs.Try.prog 68 sc_impl_IsPrime.er ms_impl_IsPrime 1 = true := by decide +kernel
theorem p_impl_IsPrime : PureSpec Go.Proofs.Try.prog 68 fn_impl_IsPrime.M ∧ chkFun Go.Proofs.Try.prog 68 = true :=
  pure_of_runS (T := []) (sc := sc_impl_IsPrime) (ms := ms_impl_IsPrime) (args := ag_impl_IsPrime) (res := rs_impl_IsPrime) (SOk.nil) follows_ok k_impl_IsPrime F_impl_IsPrime fun x y h => (n_impl_IsPrime FUEL x).trans (f_impl_IsPrime x y h)

def fn_impl_inMod : SFn := ⟨79, ag_impl_inMod, mu_impl_inMod, rs_impl_inMod, F_impl_inMod⟩
def sc_impl_inMod : SCode :=
 (.seq
 (.reg false [
 ⟨(some 4), .mv (.k (.one (.v (.bool) (false)))), none⟩])
 (.seq
 (.seq
 (.reg false [
 ⟨(some 7), .mv (.t 1), none⟩,
 ⟨(some 8), .len (.t 7), none⟩,
 ⟨(some 9), .mv (.k (.one (.v (.int .i64) ((0 : Int))))), none⟩])
 (.join ⟨[], []⟩ [] []
 (.block 0
 (.loop 0 ⟨[(0, .one (.c (.v (.int .i64)))), (7, .one (.c (.v (.list [.int .i64])))), (8, .one (.c (.v (.int .i64)))), (9, .one (.c (.v (.int .i64))))], []⟩ [] []
 (.seq
 (.reg false [
 ⟨(some 10), .bin .lss (.t 9) (.t 8), none⟩])
 (.seq
 (.cond (.t 10)
 .skip
 (.exit 0))
 (.seq
 (.block 1
 (.seq
 (.reg false [
 ⟨(some 11), .idxA 1 (.t 7) (.t 9), none⟩,
 ⟨(some 12), .load false 1 (.t 11), none⟩,
 ⟨(some 6), .mv (.t 12), none⟩])
 (.seq
 (.reg false [
 ⟨(some 13), .mv (.t 6), none⟩,
 ⟨(some 14), .bin .lss (.t 13) (.k (.one (.v (.int .i64) ((0 : Int))))), none⟩,
 ⟨(some 15), .mv (.t 14), none⟩,
 ⟨(some 16), .mv (.t 6), (some (15, false))⟩,
 ⟨(some 17), .mv (.t 0), (some (15, false))⟩,
 ⟨(some 18), .bin .geq (.t 16) (.t 17), (some (15, false))⟩,
 ⟨(some 19), .pick (.t 15) (.k (.one (.v (.bool) (true)))) (.t 18), none⟩])
 (.cond (.t 19)
 (.seq
 (.reg false [
 ⟨(some 4), .mv (.k (.one (.v (.bool) (false)))), none⟩])
 .ret)
 .skip))))
 (.reg false [
 ⟨(some 20), .bin .add (.t 9) (.k (.one (.v (.int .i64) ((1 : Int))))), none⟩,
 ⟨(some 9), .mv (.t 20), none⟩]))))))))
 (.seq
 (.reg false [
 ⟨(some 4), .mv (.k (.one (.v (.bool) (true)))), none⟩])
 .ret)))
def ms_impl_inMod : List MRes := [.tmp 4]
theorem n_impl_inMod (NN : Nat) (x : DLL (Sig.tys ag_impl_inMod)) : runS NN [] sc_impl_inMod ms_impl_inMod ag_impl_inMod rs_impl_inMod x = G_impl_inMod NN x := by kernel_rfl
theorem k_impl_inMod : chkS Go.Proofs.Try.prog 79 sc_impl_inMod.er ms_impl_inMod 2 = true := by decide +kernel
theorem p_impl_inMod : PureSpec Go.Proofs.Try.prog 79 fn_impl_inMod.M ∧ chkFun Go.Proofs.Try.prog 79 = true :=
  pure_of_runS (T := []) (sc := sc_impl_inMod) (ms := ms_impl_inMod) (args := ag_impl_inMod) (res := rs_impl_inMod) (SOk.nil) follows_ok k_impl_inMod F_impl_inMod fun x y h => (n_impl_inMod FUEL x).trans (f_impl_inMod x y h)

def fn_impl_MatrixOk : SFn := ⟨51, ag_impl_MatrixOk, mu_impl_MatrixOk, rs_impl_MatrixOk, F_impl_MatrixOk⟩
def sc_impl_MatrixOk : SCode :=
 (.seq
 (.reg false [
 ⟨(some 3), .box 3 (.t 1), none⟩,
 ⟨(some 4), .mv (.k (.one (.v (.bool) (false)))), none⟩])
 (.seq
 (.seq
 (.reg false [
 ⟨(some 5), .mv (.t 0), none⟩,
 ⟨(some 6), .call .froz 68 [(.t 5)], none⟩,
 ⟨(some 7), .un .not (.t 6), none⟩,
 ⟨(some 8), .mv (.t 7), none⟩,
 ⟨(some 9), .fieldA 0 (.t 3), (some (8, false))⟩,
 ⟨(some 10), .load false 1 (.t 9), (some (8, false))⟩,
 ⟨(some 11), .bin .lss (.t 10) (.k (.one (.v (.int .i64) ((0 : Int))))), (some (8, false))⟩,
 ⟨(some 12), .pick (.t 8) (.k (.one (.v (.bool) (true)))) (.t 11), none⟩,
 ⟨(some 13), .mv (.t 12), none⟩,
 ⟨(some 14), .fieldA 1 (.t 3), (some (13, false))⟩,
 ⟨(some 15), .load false 1 (.t 14), (some (13, false))⟩,
 ⟨(some 16), .bin .lss (.t 15) (.k (.one (.v (.int .i64) ((0 : Int))))), (some (13, false))⟩,
 ⟨(some 17), .pick (.t 13) (.k (.one (.v (.bool) (true)))) (.t 16), none⟩,
 ⟨(some 18), .mv (.t 17), none⟩,
 ⟨(some 19), .fieldA 0 (.t 3), (some (18, false))⟩,
 ⟨(some 20), .load false 1 (.t 19), (some (18, false))⟩,
 ⟨(some 21), .bin .gtr (.t 20) (.k (.one (.v (.int .i64) ((64 : Int))))), (some (18, false))⟩,
 ⟨(some 22), .pick (.t 18) (.k (.one (.v (.bool) (true)))) (.t 21), none⟩,
 ⟨(some 23), .mv (.t 22), none⟩,
 ⟨(some 24), .fieldA 1 (.t 3), (some (23, false))⟩,
 ⟨(some 25), .load false 1 (.t 24), (some (23, false))⟩,
 ⟨(some 26), .bin .gtr (.t 25) (.k (.one (.v (.int .i64) ((64 : Int))))), (some (23, false))⟩,
 ⟨(some 27), .pick (.t 23) (.k (.one (.v (.bool) (true)))) (.t 26), none⟩])
 (.cond (.t 27)
 (.seq
 (.reg false [
 ⟨(some 4), .mv (.k (.one (.v (.bool) (false)))), none⟩])
 .ret)
 .skip))
 (.seq
 (.reg false [
 ⟨(some 28), .fieldA 2 (.t 3), none⟩,
 ⟨(some 29), .load false 1 (.t 28), none⟩,
 ⟨(some 30), .len (.t 29), none⟩,
 ⟨(some 31), .fieldA 0 (.t 3), none⟩,
 ⟨(some 32), .load false 1 (.t 31), none⟩,
 ⟨(some 33), .fieldA 1 (.t 3), none⟩,
 ⟨(some 34), .load false 1 (.t 33), none⟩,
 ⟨(some 35), .bin .mul (.t 32) (.t 34), none⟩,
 ⟨(some 36), .bin .eql (.t 30) (.t 35), none⟩,
 ⟨(some 37), .mv (.t 36), none⟩,
 ⟨(some 38), .mv (.t 0), (some (37, true))⟩,
 ⟨(some 39), .fieldA 2 (.t 3), (some (37, true))⟩,
 ⟨(some 40), .load false 1 (.t 39), (some (37, true))⟩,
 ⟨(some 41), .call .froz 79 [(.t 38), (.t 40)], (some (37, true))⟩,
 ⟨(some 42), .pick (.t 37) (.t 41) (.k (.one (.v (.bool) (false)))), none⟩,
 ⟨(some 4), .mv (.t 42), none⟩])
 .ret)))
def ms_impl_MatrixOk : List MRes := [.tmp 4]
theorem n_impl_MatrixOk (NN : Nat) (x : DLL (Sig.tys ag_impl_MatrixOk)) : runS NN [fn_impl_IsPrime, fn_impl_inMod] sc_impl_MatrixOk ms_impl_MatrixOk ag_impl_MatrixOk rs_impl_MatrixOk x = G_impl_MatrixOk NN x := by kernel_rfl
theorem k_impl_MatrixOk : chkS Go.Proofs.Try.prog 51 sc_impl_MatrixOk.er ms_impl_MatrixOk 2 = true := by decide +kernel
theorem p_impl_MatrixOk : PureSpec Go.Proofs.Try.prog 51 fn_impl_MatrixOk.M ∧ chkFun Go.Proofs.Try.prog 51 = true :=
  pure_of_runS (T := [fn_impl_IsPrime, fn_impl_inMod]) (sc := sc_impl_MatrixOk) (ms := ms_impl_MatrixOk) (args := ag_impl_MatrixOk) (res := rs_impl_MatrixOk) (SOk.cons p_impl_IsPrime <| SOk.cons p_impl_inMod <| SOk.nil) follows_ok k_impl_MatrixOk F_impl_MatrixOk fun x y h => (n_impl_MatrixOk FUEL x).trans (f_impl_MatrixOk x y h)

def fn_impl_emptyMatrix : SFn := ⟨73, ag_impl_emptyMatrix, mu_impl_emptyMatrix, rs_impl_emptyMatrix, F_impl_emptyMatrix⟩
def sc_impl_emptyMatrix : SCode :=
 (.seq
 (.reg false [
 ⟨(some 4), .alloc [.v (.int .i64) ((0 : Int)), .v (.int .i64) ((0 : Int)), .nil [.int .i64]], none⟩])
 (.seq
 (.reg false [
 ⟨(some 5), .mv (.t 0), none⟩,
 ⟨(some 6), .mv (.t 1), none⟩,
 ⟨(some 7), .mv (.t 0), none⟩,
 ⟨(some 8), .mv (.t 1), none⟩,
 ⟨(some 9), .bin .mul (.t 7) (.t 8), none⟩,
 ⟨(some 10), .mkslice .froz [.int .i64] 8 (0 : Int) (.t 9) (.t 9), none⟩,
 ⟨(some 11), .build [.v (.int .i64) ((0 : Int)), .v (.int .i64) ((0 : Int)), .nil [.int .i64]] [(0, 1, (.t 5)), (1, 1, (.t 6)), (2, 1, (.t 10))], none⟩,
 ⟨none, .store 3 (.t 4) (.t 11), none⟩])
 .ret))
def ms_impl_emptyMatrix : List MRes := [.cell 4 3 true]
theorem n_impl_emptyMatrix (NN : Nat) (x : DLL (Sig.tys ag_impl_emptyMatrix)) : runS NN [] sc_impl_emptyMatrix ms_impl_emptyMatrix ag_impl_emptyMatrix rs_impl_emptyMatrix x = G_impl_emptyMatrix NN x := by kernel_rfl
theorem k_impl_emptyMatrix : chkS Go.Proofs.Try.prog 73 sc_impl_emptyMatrix.er ms_impl_emptyMatrix 2 = true := by decide +kernel
theorem p_impl_emptyMatrix : PureSpec Go.Proofs.Try.prog 73 fn_impl_emptyMatrix.M ∧ chkFun Go.Proofs.Try.prog 73 = true :=
  pure_of_runS (T := []) (sc := sc_impl_emptyMatrix) (ms := ms_impl_emptyMatrix) (args := ag_impl_emptyMatrix) (res := rs_impl_emptyMatrix) (SOk.nil) follows_ok k_impl_emptyMatrix F_impl_emptyMatrix fun x y h => (n_impl_emptyMatrix FUEL x).trans (f_impl_emptyMatrix x y h)

def fn_impl_Matrix_at : SFn := ⟨62, ag_impl_Matrix_at, mu_impl_Matrix_at, rs_impl_Matrix_at, F_impl_Matrix_at⟩
def sc_impl_Matrix_at : SCode :=
 (.seq
 (.reg false [
 ⟨(some 3), .box 3 (.t 0), none⟩,
 ⟨(some 6), .mv (.k (.one (.v (.int .i64) ((0 : Int))))), none⟩])
 (.seq
 (.reg false [
 ⟨(some 7), .fieldA 2 (.t 3), none⟩,
 ⟨(some 8), .load false 1 (.t 7), none⟩,
 ⟨(some 9), .mv (.t 1), none⟩,
 ⟨(some 10), .fieldA 1 (.t 3), none⟩,
 ⟨(some 11), .load false 1 (.t 10), none⟩,
 ⟨(some 12), .bin .mul (.t 9) (.t 11), none⟩,
 ⟨(some 13), .mv (.t 2), none⟩,
 ⟨(some 14), .bin .add (.t 12) (.t 13), none⟩,
 ⟨(some 15), .idxA 1 (.t 8) (.t 14), none⟩,
 ⟨(some 16), .load false 1 (.t 15), none⟩,
 ⟨(some 6), .mv (.t 16), none⟩])
 .ret))
def ms_impl_Matrix_at : List MRes := [.tmp 6]
theorem n_impl_Matrix_at (NN : Nat) (x : DLL (Sig.tys ag_impl_Matrix_at)) : runS NN [] sc_impl_Matrix_at ms_impl_Matrix_at ag_impl_Matrix_at rs_impl_Matrix_at x = G_impl_Matrix_at NN x := by kernel_rfl
theorem k_impl_Matrix_at : chkS Go.Proofs.Try.prog 62 sc_impl_Matrix_at.er ms_impl_Matrix_at 3 = true := by decide +kernel
theorem p_impl_Matrix_at : PureSpec Go.Proofs.Try.prog 62 fn_impl_Matrix_at.M ∧ chkFun Go.Proofs.Try.prog 62 = true :=
  pure_of_runS (T := []) (sc := sc_impl_Matrix_at) (ms := ms_impl_Matrix_at) (args := ag_impl_Matrix_at) (res := rs_impl_Matrix_at) (SOk.nil) follows_ok k_impl_Matrix_at F_impl_Matrix_at fun x y h => (n_impl_Matrix_at FUEL x).trans (f_impl_Matrix_at x y h)

def fn_impl_Matrix_set : SFn := ⟨67, ag_impl_Matrix_set, mu_impl_Matrix_set, rs_impl_Matrix_set, F_impl_Matrix_set⟩
def sc_impl_Matrix_set : SCode :=
 (.seq
 (.reg false [
 ⟨(some 4), .box 3 (.t 0), none⟩])
 (.reg false [
 ⟨(some 8), .fieldA 2 (.t 4), none⟩,
 ⟨(some 9), .load false 1 (.t 8), none⟩,
 ⟨(some 10), .mv (.t 1), none⟩,
 ⟨(some 11), .fieldA 1 (.t 4), none⟩,
 ⟨(some 12), .load false 1 (.t 11), none⟩,
 ⟨(some 13), .bin .mul (.t 10) (.t 12), none⟩,
 ⟨(some 14), .mv (.t 2), none⟩,
 ⟨(some 15), .bin .add (.t 13) (.t 14), none⟩,
 ⟨(some 16), .mv (.t 3), none⟩,
 ⟨(some 17), .idxA 1 (.t 9) (.t 15), none⟩,
 ⟨none, .store 1 (.t 17) (.t 16), none⟩]))
def ms_impl_Matrix_set : List MRes := []
theorem n_impl_Matrix_set (NN : Nat) (x : DLL (Sig.tys ag_impl_Matrix_set)) : runMS NN [] sc_impl_Matrix_set ms_impl_Matrix_set ag_impl_Matrix_set mu_impl_Matrix_set rs_impl_Matrix_set x = G_impl_Matrix_set NN x := by kernel_rfl
theorem k_impl_Matrix_set : chkS Go.Proofs.Try.prog 67 sc_impl_Matrix_set.er ms_impl_Matrix_set 4 = true := by decide +kernel
theorem p_impl_Matrix_set : MutSpec Go.Proofs.Try.prog 67 mu_impl_Matrix_set fn_impl_Matrix_set.MM ∧ chkFun Go.Proofs.Try.prog 67 = true :=
  mut_of_runMS (T := []) (sc := sc_impl_Matrix_set) (ms := ms_impl_Matrix_set) (args := ag_impl_Matrix_set) (mu := mu_impl_Matrix_set) (res := rs_impl_Matrix_set) (SOk.nil) follows_ok k_impl_Matrix_set F_impl_Matrix_set fun x y h => (n_impl_Matrix_set FUEL x).trans (f_impl_Matrix_set x y h)

def fn_impl_copyInts : SFn := ⟨74, ag_impl_copyInts, mu_impl_copyInts, rs_impl_copyInts, F_impl_copyInts⟩
def sc_impl_copyInts : SCode :=
 (.seq
 (.reg false [
 ⟨(some 2), .mv (.k (.one (.nil [.int .i64]))), none⟩])
 (.seq
 (.reg false [
 ⟨(some 3), .mv (.t 0), none⟩,
 ⟨(some 4), .append true [.int .i64] 8 (.k (.one (.nil [.int .i64]))) (.t 3), none⟩,
 ⟨(some 2), .mv (.t 4), none⟩])
 .ret))
def ms_impl_copyInts : List MRes := [.tmp 2]
theorem n_impl_copyInts (NN : Nat) (x : DLL (Sig.tys ag_impl_copyInts)) : runS NN [] sc_impl_copyInts ms_impl_copyInts ag_impl_copyInts rs_impl_copyInts x = G_impl_copyInts NN x := by kernel_rfl
theorem k_impl_copyInts : chkS Go.Proofs.Try.prog 74 sc_impl_copyInts.er ms_impl_copyInts 1 = true := by decide +kernel
theorem p_impl_copyInts : PureSpec Go.Proofs.Try.prog 74 fn_impl_copyInts.M ∧ chkFun Go.Proofs.Try.prog 74 = true :=
  pure_of_runS (T := []) (sc := sc_impl_copyInts) (ms := ms_impl_copyInts) (args := ag_impl_copyInts) (res := rs_impl_copyInts) (SOk.nil) follows_ok k_impl_copyInts F_impl_copyInts fun x y h => (n_impl_copyInts FUEL x).trans (f_impl_copyInts x y h)

def fn_impl_copyMatrix : SFn := ⟨61, ag_impl_copyMatrix, mu_impl_copyMatrix, rs_impl_copyMatrix, F_impl_copyMatrix⟩
def sc_impl_copyMatrix : SCode :=
 (.seq
 (.reg false [
 ⟨(some 1), .box 3 (.t 0), none⟩,
 ⟨(some 2), .alloc [.v (.int .i64) ((0 : Int)), .v (.int .i64) ((0 : Int)), .nil [.int .i64]], none⟩])
 (.seq
 (.reg true [
 ⟨(some 3), .fieldA 0 (.t 1), none⟩,
 ⟨(some 4), .load false 1 (.t 3), none⟩,
 ⟨(some 5), .fieldA 1 (.t 1), none⟩,
 ⟨(some 6), .load false 1 (.t 5), none⟩,
 ⟨(some 7), .fieldA 2 (.t 1), none⟩,
 ⟨(some 8), .load false 1 (.t 7), none⟩,
 ⟨(some 9), .call .froz 74 [(.t 8)], none⟩,
 ⟨(some 10), .build [.v (.int .i64) ((0 : Int)), .v (.int .i64) ((0 : Int)), .nil [.int .i64]] [(0, 1, (.t 4)), (1, 1, (.t 6)), (2, 1, (.t 9))], none⟩,
 ⟨none, .store 3 (.t 2) (.t 10), none⟩])
 .ret))
def ms_impl_copyMatrix : List MRes := [.cell 2 3 true]
theorem n_impl_copyMatrix (NN : Nat) (x : DLL (Sig.tys ag_impl_copyMatrix)) : runS NN [fn_impl_copyInts] sc_impl_copyMatrix ms_impl_copyMatrix ag_impl_copyMatrix rs_impl_copyMatrix x = G_impl_copyMatrix NN x := by kernel_rfl
theorem k_impl_copyMatrix : chkS Go.Proofs.Try.prog 61 sc_impl_copyMatrix.er ms_impl_copyMatrix 1 = true := by decide +kernel
theorem p_impl_copyMatrix : PureSpec Go.Proofs.Try.prog 61 fn_impl_copyMatrix.M ∧ chkFun Go.Proofs.Try.prog 61 = true :=
  pure_of_runS (T := [fn_impl_copyInts]) (sc := sc_impl_copyMatrix) (ms := ms_impl_copyMatrix) (args := ag_impl_copyMatrix) (res := rs_impl_copyMatrix) (SOk.cons p_impl_copyInts <| SOk.nil) follows_ok k_impl_copyMatrix F_impl_copyMatrix fun x y h => (n_impl_copyMatrix FUEL x).trans (f_impl_copyMatrix x y h)

def fn_impl_Matrix_swapRows : SFn := ⟨63, ag_impl_Matrix_swapRows, mu_impl_Matrix_swapRows, rs_impl_Matrix_swapRows, F_impl_Matrix_swapRows⟩
def sc_impl_Matrix_swapRows : SCode :=
 (.seq
 (.reg false [
 ⟨(some 3), .box 3 (.t 0), none⟩])
 (.seq
 (.reg false [
 ⟨(some 6), .mv (.k (.one (.v (.int .i64) ((0 : Int))))), none⟩])
 (.block 0
 (.loop 0 ⟨[(1, .one (.c (.v (.int .i64)))), (2, .one (.c (.v (.int .i64)))), (3, .one (.c (.ptr0 3 0))), (6, .one (.c (.v (.int .i64))))], [(1000000, .row false .froz [.int .i64]), (3, .box [.c (.v (.int .i64)), .c (.v (.int .i64)), .c (.full 1000000 1)])]⟩ [1000000, 3, 19000, 19001, 19002, 19003, 19004, 19005, 23000, 23001, 23002, 23003, 23004, 23005, 28000, 28001, 28002, 28003, 28004, 28005, 33000, 33001, 33002, 33003, 33004, 33005, 50000] [(true, 3, 2, 50000, .froz, [])]
 (.seq
 (.seq
 (.reg false [
 ⟨(some 9), .mv (.t 6), none⟩,
 ⟨(some 10), .fieldA 1 (.t 3), none⟩,
 ⟨(some 11), .load false 1 (.t 10), none⟩,
 ⟨(some 12), .bin .lss (.t 9) (.t 11), none⟩])
 (.cond (.t 12)
 .skip
 (.exit 0)))
 (.seq
 (.block 1
 (.seq
 (.reg true [
 ⟨(some 15), .load true 3 (.t 3), none⟩,
 ⟨(some 16), .mv (.t 1), none⟩,
 ⟨(some 17), .mv (.t 6), none⟩,
 ⟨(some 18), .call .froz 62 [(.t 15), (.t 16), (.t 17)], none⟩,
 ⟨(some 19), .load true 3 (.t 3), none⟩,
 ⟨(some 20), .mv (.t 2), none⟩,
 ⟨(some 21), .mv (.t 6), none⟩,
 ⟨(some 22), .call .froz 62 [(.t 19), (.t 20), (.t 21)], none⟩,
 ⟨(some 7), .mv (.t 18), none⟩,
 ⟨(some 8), .mv (.t 22), none⟩])
 (.seq
 (.reg false [
 ⟨(some 23), .load true 3 (.t 3), none⟩,
 ⟨(some 24), .mv (.t 1), none⟩,
 ⟨(some 25), .mv (.t 6), none⟩,
 ⟨(some 26), .mv (.t 8), none⟩,
 ⟨(some 27), .callm .froz 67 [(.t 23), (.t 24), (.t 25), (.t 26)], none⟩])
 (.reg false [
 ⟨(some 28), .load true 3 (.t 3), none⟩,
 ⟨(some 29), .mv (.t 2), none⟩,
 ⟨(some 30), .mv (.t 6), none⟩,
 ⟨(some 31), .mv (.t 7), none⟩,
 ⟨(some 32), .callm .froz 67 [(.t 28), (.t 29), (.t 30), (.t 31)], none⟩]))))
 (.reg false [
 ⟨(some 13), .mv (.t 6), none⟩,
 ⟨(some 14), .bin .add (.t 13) (.k (.one (.v (.int .i64) ((1 : Int))))), none⟩,
 ⟨(some 6), .mv (.t 14), none⟩])))))))
def ms_impl_Matrix_swapRows : List MRes := []
theorem n_impl_Matrix_swapRows (NN : Nat) (x : DLL (Sig.tys ag_impl_Matrix_swapRows)) : runMS NN [fn_impl_Matrix_at, fn_impl_Matrix_set] sc_impl_Matrix_swapRows ms_impl_Matrix_swapRows ag_impl_Matrix_swapRows mu_impl_Matrix_swapRows rs_impl_Matrix_swapRows x = G_impl_Matrix_swapRows NN x := by kernel_rfl
theorem k_impl_Matrix_swapRows : chkS Go.Proofs.Try.prog 63 sc_impl_Matrix_swapRows.er ms_impl_Matrix_swapRows 3 = true := by decide +kernel
theorem p_impl_Matrix_swapRows : MutSpec Go.Proofs.Try.prog 63 mu_impl_Matrix_swapRows fn_impl_Matrix_swapRows.MM ∧ chkFun Go.Proofs.Try.prog 63 = true :=
  mut_of_runMS (T := [fn_impl_Matrix_at, fn_impl_Matrix_set]) (sc := sc_impl_Matrix_swapRows) (ms := ms_impl_Matrix_swapRows) (args := ag_impl_Matrix_swapRows) (mu := mu_impl_Matrix_swapRows) (res := rs_impl_Matrix_swapRows) (SOk.cons p_impl_Matrix_at <| SOk.consM p_impl_Matrix_set <| SOk.nil) follows_ok k_impl_Matrix_swapRows F_impl_Matrix_swapRows fun x y h => (n_impl_Matrix_swapRows FUEL x).trans (f_impl_Matrix_swapRows x y h)

def fn_impl_rawInverse : SFn := ⟨64, ag_impl_rawInverse, mu_impl_rawInverse, rs_impl_rawInverse, F_impl_rawInverse⟩
def sc_impl_rawInverse : SCode :=
 (.seq
 (.reg false [
 ⟨(some 4), .mv (.k (.one (.v (.int .i64) ((0 : Int))))), none⟩])
 (.seq
 (.reg false [
 ⟨(some 5), .mv (.k (.one (.v (.int .i64) ((1 : Int))))), none⟩])
 (.seq
 (.seq
 (.reg false [
 ⟨(some 7), .mv (.t 0), none⟩,
 ⟨(some 8), .bin .sub (.t 7) (.k (.one (.v (.int .i64) ((2 : Int))))), none⟩,
 ⟨(some 6), .mv (.t 8), none⟩])
 (.join ⟨[(5, .one (.c (.v (.int .i64))))], []⟩ [] []
 (.block 0
 (.loop 0 ⟨[(0, .one (.c (.v (.int .i64)))), (1, .one (.c (.v (.int .i64)))), (5, .one (.c (.v (.int .i64)))), (6, .one (.c (.v (.int .i64))))], []⟩ [] []
 (.seq
 (.seq
 (.reg false [
 ⟨(some 9), .mv (.t 6), none⟩,
 ⟨(some 10), .bin .gtr (.t 9) (.k (.one (.v (.int .i64) ((0 : Int))))), none⟩])
 (.cond (.t 10)
 .skip
 (.exit 0)))
 (.seq
 (.block 1
 (.seq
 (.seq
 (.reg false [
 ⟨(some 13), .mv (.t 6), none⟩,
 ⟨(some 14), .bin .and (.t 13) (.k (.one (.v (.int .i64) ((1 : Int))))), none⟩,
 ⟨(some 15), .bin .eql (.t 14) (.k (.one (.v (.int .i64) ((1 : Int))))), none⟩])
 (.join ⟨[(1, .one (.c (.v (.int .i64)))), (6, .one (.c (.v (.int .i64)))), (0, .one (.c (.v (.int .i64)))), (5, .one (.c (.v (.int .i64))))], []⟩ [] []
 (.cond (.t 15)
 (.reg false [
 ⟨(some 16), .mv (.t 5), none⟩,
 ⟨(some 17), .mv (.t 1), none⟩,
 ⟨(some 18), .bin .mul (.t 16) (.t 17), none⟩,
 ⟨(some 19), .mv (.t 0), none⟩,
 ⟨(some 20), .bin .rem (.t 18) (.t 19), none⟩,
 ⟨(some 5), .mv (.t 20), none⟩])
 .skip)))
 (.reg false [
 ⟨(some 21), .mv (.t 1), none⟩,
 ⟨(some 22), .mv (.t 1), none⟩,
 ⟨(some 23), .bin .mul (.t 21) (.t 22), none⟩,
 ⟨(some 24), .mv (.t 0), none⟩,
 ⟨(some 25), .bin .rem (.t 23) (.t 24), none⟩,
 ⟨(some 1), .mv (.t 25), none⟩])))
 (.reg false [
 ⟨(some 11), .mv (.t 6), none⟩,
 ⟨(some 12), .bin .shr (.t 11) (.k (.one (.v (.int .u64) ((1 : Int))))), none⟩,
 ⟨(some 6), .mv (.t 12), none⟩])))))))
 (.seq
 (.reg false [
 ⟨(some 26), .mv (.t 5), none⟩,
 ⟨(some 4), .mv (.t 26), none⟩])
 .ret))))
def ms_impl_rawInverse : List MRes := [.tmp 4]
theorem n_impl_rawInverse (NN : Nat) (x : DLL (Sig.tys ag_impl_rawInverse)) : runS NN [] sc_impl_rawInverse ms_impl_rawInverse ag_impl_rawInverse rs_impl_rawInverse x = G_impl_rawInverse NN x := by kernel_rfl
theorem k_impl_rawInverse : chkS Go.Proofs.Try.prog 64 sc_impl_rawInverse.er ms_impl_rawInverse 2 = true := by decide +kernel
theorem p_impl_rawInverse : PureSpec Go.Proofs.Try.prog 64 fn_impl_rawInverse.M ∧ chkFun Go.Proofs.Try.prog 64 = true :=
  pure_of_runS (T := []) (sc := sc_impl_rawInverse) (ms := ms_impl_rawInverse) (args := ag_impl_rawInverse) (res := rs_impl_rawInverse) (SOk.nil) follows_ok k_impl_rawInverse F_impl_rawInverse fun x y h => (n_impl_rawInverse FUEL x).trans (f_impl_rawInverse x y h)

def fn_impl_Matrix_addRow : SFn := ⟨65, ag_impl_Matrix_addRow, mu_impl_Matrix_addRow, rs_impl_Matrix_addRow, F_impl_Matrix_addRow⟩
def sc_impl_Matrix_addRow : SCode :=
 (.seq
 (.reg false [
 ⟨(some 5), .box 3 (.t 0), none⟩])
 (.seq
 (.reg false [
 ⟨(some 10), .mv (.k (.one (.v (.int .i64) ((0 : Int))))), none⟩])
 (.block 0
 (.loop 0 ⟨[(1, .one (.c (.v (.int .i64)))), (2, .one (.c (.v (.int .i64)))), (3, .one (.c (.v (.int .i64)))), (4, .one (.c (.v (.int .i64)))), (5, .one (.c (.ptr0 5 0))), (10, .one (.c (.v (.int .i64))))], [(1000000, .row false .froz [.int .i64]), (5, .box [.c (.v (.int .i64)), .c (.v (.int .i64)), .c (.full 1000000 1)])]⟩ [1000000, 5, 24000, 24001, 24002, 24003, 24004, 24005, 29000, 29001, 29002, 29003, 29004, 29005, 34000, 34001, 34002, 34003, 34004, 34005, 50000] [(true, 5, 2, 50000, .froz, [])]
 (.seq
 (.seq
 (.reg false [
 ⟨(some 11), .mv (.t 10), none⟩,
 ⟨(some 12), .fieldA 1 (.t 5), none⟩,
 ⟨(some 13), .load false 1 (.t 12), none⟩,
 ⟨(some 14), .bin .lss (.t 11) (.t 13), none⟩])
 (.cond (.t 14)
 .skip
 (.exit 0)))
 (.seq
 (.block 1
 (.reg true [
 ⟨(some 17), .load true 3 (.t 5), none⟩,
 ⟨(some 18), .mv (.t 2), none⟩,
 ⟨(some 19), .mv (.t 10), none⟩,
 ⟨(some 20), .load true 3 (.t 5), none⟩,
 ⟨(some 21), .mv (.t 2), none⟩,
 ⟨(some 22), .mv (.t 10), none⟩,
 ⟨(some 23), .call .froz 62 [(.t 20), (.t 21), (.t 22)], none⟩,
 ⟨(some 24), .mv (.t 4), none⟩,
 ⟨(some 25), .load true 3 (.t 5), none⟩,
 ⟨(some 26), .mv (.t 3), none⟩,
 ⟨(some 27), .mv (.t 10), none⟩,
 ⟨(some 28), .call .froz 62 [(.t 25), (.t 26), (.t 27)], none⟩,
 ⟨(some 29), .bin .mul (.t 24) (.t 28), none⟩,
 ⟨(some 30), .bin .add (.t 23) (.t 29), none⟩,
 ⟨(some 31), .mv (.t 1), none⟩,
 ⟨(some 32), .bin .rem (.t 30) (.t 31), none⟩,
 ⟨(some 33), .callm .froz 67 [(.t 17), (.t 18), (.t 19), (.t 32)], none⟩]))
 (.reg false [
 ⟨(some 15), .mv (.t 10), none⟩,
 ⟨(some 16), .bin .add (.t 15) (.k (.one (.v (.int .i64) ((1 : Int))))), none⟩,
 ⟨(some 10), .mv (.t 16), none⟩])))))))
def ms_impl_Matrix_addRow : List MRes := []
theorem n_impl_Matrix_addRow (NN : Nat) (x : DLL (Sig.tys ag_impl_Matrix_addRow)) : runMS NN [fn_impl_Matrix_at, fn_impl_Matrix_set] sc_impl_Matrix_addRow ms_impl_Matrix_addRow ag_impl_Matrix_addRow mu_impl_Matrix_addRow rs_impl_Matrix_addRow x = G_impl_Matrix_addRow NN x := by kernel_rfl
theorem k_impl_Matrix_addRow : chkS Go.Proofs.Try.prog 65 sc_impl_Matrix_addRow.er ms_impl_Matrix_addRow 5 = true := by decide +kernel
theorem p_impl_Matrix_addRow : MutSpec Go.Proofs.Try.prog 65 mu_impl_Matrix_addRow fn_impl_Matrix_addRow.MM ∧ chkFun Go.Proofs.Try.prog 65 = true :=
  mut_of_runMS (T := [fn_impl_Matrix_at, fn_impl_Matrix_set]) (sc := sc_impl_Matrix_addRow) (ms := ms_impl_Matrix_addRow) (args := ag_impl_Matrix_addRow) (mu := mu_impl_Matrix_addRow) (res := rs_impl_Matrix_addRow) (SOk.cons p_impl_Matrix_at <| SOk.consM p_impl_Matrix_set <| SOk.nil) follows_ok k_impl_Matrix_addRow F_impl_Matrix_addRow fun x y h => (n_impl_Matrix_addRow FUEL x).trans (f_impl_Matrix_addRow x y h)

def fn_impl_rawReduce : SFn := ⟨59, ag_impl_rawReduce, mu_impl_rawReduce, rs_impl_rawReduce, F_impl_rawReduce⟩
def sc_impl_rawReduce : SCode :=
 (.seq
 (.reg false [
 ⟨(some 3), .box 3 (.t 1), none⟩,
 ⟨(some 4), .alloc [.v (.int .i64) ((0 : Int)), .v (.int .i64) ((0 : Int)), .nil [.int .i64]], none⟩,
 ⟨(some 5), .mv (.k (.one (.nil [.int .i64]))), none⟩])
 (.seq
 (.reg false [
 ⟨(some 14), .load true 3 (.t 3), none⟩,
 ⟨(some 15), .call .froz 61 [(.t 14)], none⟩,
 ⟨(some 6), .alloc [.v (.int .i64) ((0 : Int)), .v (.int .i64) ((0 : Int)), .nil [.int .i64]], none⟩,
 ⟨none, .store 3 (.t 6) (.t 15), none⟩])
 (.seq
 (.reg false [
 ⟨(some 7), .mv (.k (.one (.nil [.int .i64]))), none⟩])
 (.seq
 (.seq
 (.reg false [
 ⟨(some 8), .mv (.k (.one (.v (.int .i64) ((0 : Int))))), none⟩])
 (.join ⟨[(6, .one (.c (.ptr0 6 0))), (7, .one (.c (.full 50026 1))), (4, .one (.c (.ptr0 4 0)))], [(4, .box [.c (.v (.int .i64)), .c (.v (.int .i64)), .c (.full 50024 1)]), (6, .box [.c (.v (.int .i64)), .c (.v (.int .i64)), .c (.full 50025 1)]), (50024, .row true .froz [.int .i64]), (50025, .row true .froz [.int .i64]), (50026, .row true .froz [.int .i64])]⟩ [3, 4, 16000, 16001, 16002, 16003, 16004, 16005, 6, 34000, 34001, 34002, 34003, 34004, 34005, 46000, 46001, 46002, 46003, 46004, 46005, 51000, 51001, 51002, 51003, 51004, 51005, 52000, 52001, 52002, 52003, 52004, 52005, 65000, 65001, 65002, 65003, 65004, 65005, 70000, 70001, 70002, 70003, 70004, 70005, 84000, 84001, 84002, 84003, 84004, 84005, 95000, 95001, 95002, 95003, 95004, 95005, 97000, 97001, 97002, 97003, 97004, 97005, 99, 100, 50000, 50001, 50002, 50003, 50004, 50005, 50006, 50007, 50008, 50009, 50010, 50011, 50012, 50013, 50014, 50015, 50016, 50017, 50018, 50019, 50020, 50021, 50022, 50023, 50024, 50025, 50026] [(true, 4, 2, 50024, .froz, []), (true, 6, 2, 50025, .froz, []), (false, 7, 0, 50026, .froz, [])]
 (.block 0
 (.loop 0 ⟨[(0, .one (.c (.v (.int .i64)))), (4, .one (.c (.ptr0 4 0))), (6, .one (.c (.ptr0 6 0))), (7, .one (.c (.full 50002 1))), (8, .one (.c (.v (.int .i64))))], [(4, .box [.c (.v (.int .i64)), .c (.v (.int .i64)), .c (.full 50000 1)]), (6, .box [.c (.v (.int .i64)), .c (.v (.int .i64)), .c (.full 50001 1)]), (50000, .row true .froz [.int .i64]), (50001, .row true .froz [.int .i64]), (50002, .row true .froz [.int .i64])]⟩ [3, 4, 16000, 16001, 16002, 16003, 16004, 16005, 6, 34000, 34001, 34002, 34003, 34004, 34005, 46000, 46001, 46002, 46003, 46004, 46005, 51000, 51001, 51002, 51003, 51004, 51005, 52000, 52001, 52002, 52003, 52004, 52005, 65000, 65001, 65002, 65003, 65004, 65005, 70000, 70001, 70002, 70003, 70004, 70005, 84000, 84001, 84002, 84003, 84004, 84005, 95000, 95001, 95002, 95003, 95004, 95005, 97000, 97001, 97002, 97003, 97004, 97005, 99, 100, 50000, 50001, 50002, 50003, 50004, 50005, 50006, 50007, 50008, 50009, 50010, 50011, 50012, 50013, 50014, 50015, 50016, 50017, 50018, 50019, 50020, 50021, 50022, 50023, 50024, 50025, 50026] [(true, 4, 2, 50000, .froz, []), (true, 6, 2, 50001, .froz, []), (false, 7, 0, 50002, .froz, [])]
 (.seq
 (.seq
 (.reg false [
 ⟨(some 16), .mv (.t 8), none⟩,
 ⟨(some 17), .fieldA 1 (.t 6), none⟩,
 ⟨(some 18), .load false 1 (.t 17), none⟩,
 ⟨(some 19), .bin .lss (.t 16) (.t 18), none⟩])
 (.cond (.t 19)
 .skip
 (.exit 0)))
 (.seq
 (.join ⟨[(8, .one (.c (.v (.int .i64)))), (0, .one (.c (.v (.int .i64)))), (4, .one (.c (.ptr0 4 0))), (6, .one (.c (.ptr0 6 0))), (7, .one (.c (.full 50023 1)))], [(4, .box [.c (.v (.int .i64)), .c (.v (.int .i64)), .c (.full 50021 1)]), (6, .box [.c (.v (.int .i64)), .c (.v (.int .i64)), .c (.full 50022 1)]), (50021, .row true .froz [.int .i64]), (50022, .row true .froz [.int .i64]), (50023, .row true .froz [.int .i64])]⟩ [3, 4, 16000, 16001, 16002, 16003, 16004, 16005, 6, 34000, 34001, 34002, 34003, 34004, 34005, 46000, 46001, 46002, 46003, 46004, 46005, 51000, 51001, 51002, 51003, 51004, 51005, 52000, 52001, 52002, 52003, 52004, 52005, 65000, 65001, 65002, 65003, 65004, 65005, 70000, 70001, 70002, 70003, 70004, 70005, 84000, 84001, 84002, 84003, 84004, 84005, 95000, 95001, 95002, 95003, 95004, 95005, 97000, 97001, 97002, 97003, 97004, 97005, 99, 100, 50000, 50001, 50002, 50003, 50004, 50005, 50006, 50007, 50008, 50009, 50010, 50011, 50012, 50013, 50014, 50015, 50016, 50017, 50018, 50019, 50020, 50021, 50022, 50023, 50024, 50025, 50026] [(true, 4, 2, 50021, .froz, []), (true, 6, 2, 50022, .froz, []), (false, 7, 0, 50023, .froz, [])]
 (.block 1
 (.seq
 (.reg false [
 ⟨(some 22), .mv (.t 7), none⟩,
 ⟨(some 23), .len (.t 22), none⟩,
 ⟨(some 9), .mv (.t 23), none⟩])
 (.seq
 (.reg false [
 ⟨(some 24), .mv (.t 9), none⟩,
 ⟨(some 10), .mv (.t 24), none⟩])
 (.seq
 (.join ⟨[(10, .one (.c (.v (.int .i64)))), (9, .one (.c (.v (.int .i64)))), (7, .one (.c (.full 50008 1))), (8, .one (.c (.v (.int .i64)))), (0, .one (.c (.v (.int .i64)))), (4, .one (.c (.ptr0 4 0))), (6, .one (.c (.ptr0 6 0)))], [(4, .box [.c (.v (.int .i64)), .c (.v (.int .i64)), .c (.full 50006 1)]), (6, .box [.c (.v (.int .i64)), .c (.v (.int .i64)), .c (.full 50007 1)]), (50006, .row true .froz [.int .i64]), (50007, .row true .froz [.int .i64]), (50008, .row true .froz [.int .i64])]⟩ [3, 4, 16000, 16001, 16002, 16003, 16004, 16005, 6, 34000, 34001, 34002, 34003, 34004, 34005, 46000, 46001, 46002, 46003, 46004, 46005, 51000, 51001, 51002, 51003, 51004, 51005, 52000, 52001, 52002, 52003, 52004, 52005, 65000, 65001, 65002, 65003, 65004, 65005, 70000, 70001, 70002, 70003, 70004, 70005, 84000, 84001, 84002, 84003, 84004, 84005, 95000, 95001, 95002, 95003, 95004, 95005, 97000, 97001, 97002, 97003, 97004, 97005, 99, 100, 50000, 50001, 50002, 50003, 50004, 50005, 50006, 50007, 50008, 50009, 50010, 50011, 50012, 50013, 50014, 50015, 50016, 50017, 50018, 50019, 50020, 50021, 50022, 50023, 50024, 50025, 50026] [(true, 4, 2, 50006, .froz, []), (true, 6, 2, 50007, .froz, []), (false, 7, 0, 50008, .froz, [])]
 (.block 2
 (.loop 0 ⟨[(0, .one (.c (.v (.int .i64)))), (4, .one (.c (.ptr0 4 0))), (6, .one (.c (.ptr0 6 0))), (7, .one (.c (.full 50005 1))), (8, .one (.c (.v (.int .i64)))), (9, .one (.c (.v (.int .i64)))), (10, .one (.c (.v (.int .i64))))], [(4, .box [.c (.v (.int .i64)), .c (.v (.int .i64)), .c (.full 50003 1)]), (6, .box [.c (.v (.int .i64)), .c (.v (.int .i64)), .c (.full 50004 1)]), (50003, .row true .froz [.int .i64]), (50004, .row true .froz [.int .i64]), (50005, .row true .froz [.int .i64])]⟩ [3, 4, 16000, 16001, 16002, 16003, 16004, 16005, 6, 34000, 34001, 34002, 34003, 34004, 34005, 46000, 46001, 46002, 46003, 46004, 46005, 51000, 51001, 51002, 51003, 51004, 51005, 52000, 52001, 52002, 52003, 52004, 52005, 65000, 65001, 65002, 65003, 65004, 65005, 70000, 70001, 70002, 70003, 70004, 70005, 84000, 84001, 84002, 84003, 84004, 84005, 95000, 95001, 95002, 95003, 95004, 95005, 97000, 97001, 97002, 97003, 97004, 97005, 99, 100, 50000, 50001, 50002, 50003, 50004, 50005, 50006, 50007, 50008, 50009, 50010, 50011, 50012, 50013, 50014, 50015, 50016, 50017, 50018, 50019, 50020, 50021, 50022, 50023, 50024, 50025, 50026] [(true, 4, 2, 50003, .froz, []), (true, 6, 2, 50004, .froz, []), (false, 7, 0, 50005, .froz, [])]
 (.seq
 (.seq
 (.reg false [
 ⟨(some 25), .mv (.t 10), none⟩,
 ⟨(some 26), .fieldA 0 (.t 6), none⟩,
 ⟨(some 27), .load false 1 (.t 26), none⟩,
 ⟨(some 28), .bin .lss (.t 25) (.t 27), none⟩,
 ⟨(some 29), .mv (.t 28), none⟩,
 ⟨(some 30), .load true 3 (.t 6), (some (29, true))⟩,
 ⟨(some 31), .mv (.t 10), (some (29, true))⟩,
 ⟨(some 32), .mv (.t 8), (some (29, true))⟩,
 ⟨(some 33), .call .froz 62 [(.t 30), (.t 31), (.t 32)], (some (29, true))⟩,
 ⟨(some 34), .bin .eql (.t 33) (.k (.one (.v (.int .i64) ((0 : Int))))), (some (29, true))⟩,
 ⟨(some 35), .pick (.t 29) (.t 34) (.k (.one (.v (.bool) (false)))), none⟩])
 (.cond (.t 35)
 .skip
 (.exit 2)))
 (.block 3
 (.reg false [
 ⟨(some 36), .mv (.t 10), none⟩,
 ⟨(some 37), .bin .add (.t 36) (.k (.one (.v (.int .i64) ((1 : Int))))), none⟩,
 ⟨(some 10), .mv (.t 37), none⟩]))))))
 (.seq
 (.seq
 (.reg false [
 ⟨(some 38), .mv (.t 10), none⟩,
 ⟨(some 39), .fieldA 0 (.t 6), none⟩,
 ⟨(some 40), .load false 1 (.t 39), none⟩,
 ⟨(some 41), .bin .eql (.t 38) (.t 40), none⟩])
 (.cond (.t 41)
 (.exit 1)
 .skip))
 (.seq
 (.reg false [
 ⟨(some 42), .load true 3 (.t 6), none⟩,
 ⟨(some 43), .mv (.t 9), none⟩,
 ⟨(some 44), .mv (.t 10), none⟩,
 ⟨(some 45), .callm .froz 63 [(.t 42), (.t 43), (.t 44)], none⟩])
 (.seq
 (.reg false [
 ⟨(some 46), .mv (.t 0), none⟩,
 ⟨(some 47), .load true 3 (.t 6), none⟩,
 ⟨(some 48), .mv (.t 9), none⟩,
 ⟨(some 49), .mv (.t 8), none⟩,
 ⟨(some 50), .call .froz 62 [(.t 47), (.t 48), (.t 49)], none⟩,
 ⟨(some 51), .call .froz 64 [(.t 46), (.t 50)], none⟩,
 ⟨(some 11), .mv (.t 51), none⟩])
 (.seq
 (.seq
 (.reg false [
 ⟨(some 12), .mv (.k (.one (.v (.int .i64) ((0 : Int))))), none⟩])
 (.join ⟨[(6, .one (.c (.ptr0 6 0))), (4, .one (.c (.ptr0 4 0))), (0, .one (.c (.v (.int .i64)))), (8, .one (.c (.v (.int .i64)))), (7, .one (.c (.full 50014 1))), (9, .one (.c (.v (.int .i64))))], [(4, .box [.c (.v (.int .i64)), .c (.v (.int .i64)), .c (.full 50012 1)]), (6, .box [.c (.v (.int .i64)), .c (.v (.int .i64)), .c (.full 50013 1)]), (50012, .row true .froz [.int .i64]), (50013, .row true .froz [.int .i64]), (50014, .row true .froz [.int .i64])]⟩ [3, 4, 16000, 16001, 16002, 16003, 16004, 16005, 6, 34000, 34001, 34002, 34003, 34004, 34005, 46000, 46001, 46002, 46003, 46004, 46005, 51000, 51001, 51002, 51003, 51004, 51005, 52000, 52001, 52002, 52003, 52004, 52005, 65000, 65001, 65002, 65003, 65004, 65005, 70000, 70001, 70002, 70003, 70004, 70005, 84000, 84001, 84002, 84003, 84004, 84005, 95000, 95001, 95002, 95003, 95004, 95005, 97000, 97001, 97002, 97003, 97004, 97005, 99, 100, 50000, 50001, 50002, 50003, 50004, 50005, 50006, 50007, 50008, 50009, 50010, 50011, 50012, 50013, 50014, 50015, 50016, 50017, 50018, 50019, 50020, 50021, 50022, 50023, 50024, 50025, 50026] [(true, 4, 2, 50012, .froz, []), (true, 6, 2, 50013, .froz, []), (false, 7, 0, 50014, .froz, [])]
 (.block 4
 (.loop 0 ⟨[(0, .one (.c (.v (.int .i64)))), (4, .one (.c (.ptr0 4 0))), (6, .one (.c (.ptr0 6 0))), (7, .one (.c (.full 50011 1))), (8, .one (.c (.v (.int .i64)))), (9, .one (.c (.v (.int .i64)))), (11, .one (.c (.v (.int .i64)))), (12, .one (.c (.v (.int .i64))))], [(4, .box [.c (.v (.int .i64)), .c (.v (.int .i64)), .c (.full 50009 1)]), (6, .box [.c (.v (.int .i64)), .c (.v (.int .i64)), .c (.full 50010 1)]), (50009, .row true .froz [.int .i64]), (50010, .row true .froz [.int .i64]), (50011, .row true .froz [.int .i64])]⟩ [3, 4, 16000, 16001, 16002, 16003, 16004, 16005, 6, 34000, 34001, 34002, 34003, 34004, 34005, 46000, 46001, 46002, 46003, 46004, 46005, 51000, 51001, 51002, 51003, 51004, 51005, 52000, 52001, 52002, 52003, 52004, 52005, 65000, 65001, 65002, 65003, 65004, 65005, 70000, 70001, 70002, 70003, 70004, 70005, 84000, 84001, 84002, 84003, 84004, 84005, 95000, 95001, 95002, 95003, 95004, 95005, 97000, 97001, 97002, 97003, 97004, 97005, 99, 100, 50000, 50001, 50002, 50003, 50004, 50005, 50006, 50007, 50008, 50009, 50010, 50011, 50012, 50013, 50014, 50015, 50016, 50017, 50018, 50019, 50020, 50021, 50022, 50023, 50024, 50025, 50026] [(true, 4, 2, 50009, .froz, []), (true, 6, 2, 50010, .froz, []), (false, 7, 0, 50011, .froz, [])]
 (.seq
 (.seq
 (.reg false [
 ⟨(some 52), .mv (.t 12), none⟩,
 ⟨(some 53), .fieldA 1 (.t 6), none⟩,
 ⟨(some 54), .load false 1 (.t 53), none⟩,
 ⟨(some 55), .bin .lss (.t 52) (.t 54), none⟩])
 (.cond (.t 55)
 .skip
 (.exit 4)))
 (.seq
 (.block 5
 (.reg true [
 ⟨(some 58), .load true 3 (.t 6), none⟩,
 ⟨(some 59), .mv (.t 9), none⟩,
 ⟨(some 60), .mv (.t 12), none⟩,
 ⟨(some 61), .load true 3 (.t 6), none⟩,
 ⟨(some 62), .mv (.t 9), none⟩,
 ⟨(some 63), .mv (.t 12), none⟩,
 ⟨(some 64), .call .froz 62 [(.t 61), (.t 62), (.t 63)], none⟩,
 ⟨(some 65), .mv (.t 11), none⟩,
 ⟨(some 66), .bin .mul (.t 64) (.t 65), none⟩,
 ⟨(some 67), .mv (.t 0), none⟩,
 ⟨(some 68), .bin .rem (.t 66) (.t 67), none⟩,
 ⟨(some 69), .callm .froz 67 [(.t 58), (.t 59), (.t 60), (.t 68)], none⟩]))
 (.reg false [
 ⟨(some 56), .mv (.t 12), none⟩,
 ⟨(some 57), .bin .add (.t 56) (.k (.one (.v (.int .i64) ((1 : Int))))), none⟩,
 ⟨(some 12), .mv (.t 57), none⟩])))))))
 (.seq
 (.seq
 (.reg false [
 ⟨(some 13), .mv (.k (.one (.v (.int .i64) ((0 : Int))))), none⟩])
 (.join ⟨[(7, .one (.c (.full 50020 1))), (8, .one (.c (.v (.int .i64)))), (0, .one (.c (.v (.int .i64)))), (4, .one (.c (.ptr0 4 0))), (6, .one (.c (.ptr0 6 0)))], [(4, .box [.c (.v (.int .i64)), .c (.v (.int .i64)), .c (.full 50018 1)]), (6, .box [.c (.v (.int .i64)), .c (.v (.int .i64)), .c (.full 50019 1)]), (50018, .row true .froz [.int .i64]), (50019, .row true .froz [.int .i64]), (50020, .row true .froz [.int .i64])]⟩ [3, 4, 16000, 16001, 16002, 16003, 16004, 16005, 6, 34000, 34001, 34002, 34003, 34004, 34005, 46000, 46001, 46002, 46003, 46004, 46005, 51000, 51001, 51002, 51003, 51004, 51005, 52000, 52001, 52002, 52003, 52004, 52005, 65000, 65001, 65002, 65003, 65004, 65005, 70000, 70001, 70002, 70003, 70004, 70005, 84000, 84001, 84002, 84003, 84004, 84005, 95000, 95001, 95002, 95003, 95004, 95005, 97000, 97001, 97002, 97003, 97004, 97005, 99, 100, 50000, 50001, 50002, 50003, 50004, 50005, 50006, 50007, 50008, 50009, 50010, 50011, 50012, 50013, 50014, 50015, 50016, 50017, 50018, 50019, 50020, 50021, 50022, 50023, 50024, 50025, 50026] [(true, 4, 2, 50018, .froz, []), (true, 6, 2, 50019, .froz, []), (false, 7, 0, 50020, .froz, [])]
 (.block 6
 (.loop 0 ⟨[(0, .one (.c (.v (.int .i64)))), (4, .one (.c (.ptr0 4 0))), (6, .one (.c (.ptr0 6 0))), (7, .one (.c (.full 50017 1))), (8, .one (.c (.v (.int .i64)))), (9, .one (.c (.v (.int .i64)))), (13, .one (.c (.v (.int .i64))))], [(4, .box [.c (.v (.int .i64)), .c (.v (.int .i64)), .c (.full 50015 1)]), (6, .box [.c (.v (.int .i64)), .c (.v (.int .i64)), .c (.full 50016 1)]), (50015, .row true .froz [.int .i64]), (50016, .row true .froz [.int .i64]), (50017, .row true .froz [.int .i64])]⟩ [3, 4, 16000, 16001, 16002, 16003, 16004, 16005, 6, 34000, 34001, 34002, 34003, 34004, 34005, 46000, 46001, 46002, 46003, 46004, 46005, 51000, 51001, 51002, 51003, 51004, 51005, 52000, 52001, 52002, 52003, 52004, 52005, 65000, 65001, 65002, 65003, 65004, 65005, 70000, 70001, 70002, 70003, 70004, 70005, 84000, 84001, 84002, 84003, 84004, 84005, 95000, 95001, 95002, 95003, 95004, 95005, 97000, 97001, 97002, 97003, 97004, 97005, 99, 100, 50000, 50001, 50002, 50003, 50004, 50005, 50006, 50007, 50008, 50009, 50010, 50011, 50012, 50013, 50014, 50015, 50016, 50017, 50018, 50019, 50020, 50021, 50022, 50023, 50024, 50025, 50026] [(true, 4, 2, 50015, .froz, []), (true, 6, 2, 50016, .froz, []), (false, 7, 0, 50017, .froz, [])]
 (.seq
 (.seq
 (.reg false [
 ⟨(some 70), .mv (.t 13), none⟩,
 ⟨(some 71), .fieldA 0 (.t 6), none⟩,
 ⟨(some 72), .load false 1 (.t 71), none⟩,
 ⟨(some 73), .bin .lss (.t 70) (.t 72), none⟩])
 (.cond (.t 73)
 .skip
 (.exit 6)))
 (.seq
 (.block 7
 (.seq
 (.reg false [
 ⟨(some 76), .mv (.t 13), none⟩,
 ⟨(some 77), .mv (.t 9), none⟩,
 ⟨(some 78), .bin .neq (.t 76) (.t 77), none⟩,
 ⟨(some 79), .mv (.t 78), none⟩,
 ⟨(some 80), .load true 3 (.t 6), (some (79, true))⟩,
 ⟨(some 81), .mv (.t 13), (some (79, true))⟩,
 ⟨(some 82), .mv (.t 8), (some (79, true))⟩,
 ⟨(some 83), .call .froz 62 [(.t 80), (.t 81), (.t 82)], (some (79, true))⟩,
 ⟨(some 84), .bin .neq (.t 83) (.k (.one (.v (.int .i64) ((0 : Int))))), (some (79, true))⟩,
 ⟨(some 85), .pick (.t 79) (.t 84) (.k (.one (.v (.bool) (false)))), none⟩])
 (.cond (.t 85)
 (.reg true [
 ⟨(some 86), .load true 3 (.t 6), none⟩,
 ⟨(some 87), .mv (.t 0), none⟩,
 ⟨(some 88), .mv (.t 13), none⟩,
 ⟨(some 89), .mv (.t 9), none⟩,
 ⟨(some 90), .mv (.t 0), none⟩,
 ⟨(some 91), .load true 3 (.t 6), none⟩,
 ⟨(some 92), .mv (.t 13), none⟩,
 ⟨(some 93), .mv (.t 8), none⟩,
 ⟨(some 94), .call .froz 62 [(.t 91), (.t 92), (.t 93)], none⟩,
 ⟨(some 95), .bin .sub (.t 90) (.t 94), none⟩,
 ⟨(some 96), .callm .froz 65 [(.t 86), (.t 87), (.t 88), (.t 89), (.t 95)], none⟩])
 .skip)))
 (.reg false [
 ⟨(some 74), .mv (.t 13), none⟩,
 ⟨(some 75), .bin .add (.t 74) (.k (.one (.v (.int .i64) ((1 : Int))))), none⟩,
 ⟨(some 13), .mv (.t 75), none⟩])))))))
 (.reg false [
 ⟨(some 97), .mv (.t 7), none⟩,
 ⟨(some 98), .mv (.t 8), none⟩,
 ⟨(some 99), .bslice [.int .i64] [(.t 98)], none⟩,
 ⟨(some 100), .append true [.int .i64] 8 (.t 97) (.t 99), none⟩,
 ⟨(some 7), .mv (.t 100), none⟩])))))))))))
 (.reg false [
 ⟨(some 20), .mv (.t 8), none⟩,
 ⟨(some 21), .bin .add (.t 20) (.k (.one (.v (.int .i64) ((1 : Int))))), none⟩,
 ⟨(some 8), .mv (.t 21), none⟩])))))))
 (.seq
 (.reg false [
 ⟨(some 101), .load true 3 (.t 6), none⟩,
 ⟨(some 102), .mv (.t 7), none⟩,
 ⟨none, .store 3 (.t 4) (.t 101), none⟩,
 ⟨(some 5), .mv (.t 102), none⟩])
 .ret)))))
def ms_impl_rawReduce : List MRes := [.cell 4 3 true, .tmp 5]
theorem n_impl_rawReduce (NN : Nat) (x : DLL (Sig.tys ag_impl_rawReduce)) : runS NN [fn_impl_copyMatrix, fn_impl_Matrix_at, fn_impl_Matrix_swapRows, fn_impl_rawInverse, fn_impl_Matrix_set, fn_impl_Matrix_addRow] sc_impl_rawReduce ms_impl_rawReduce ag_impl_rawReduce rs_impl_rawReduce x = G_impl_rawReduce NN x := by kernel_rfl
theorem k_impl_rawReduce : chkS Go.Proofs.Try.prog 59 sc_impl_rawReduce.er ms_impl_rawReduce 2 = true := by decide +kernel
theorem p_impl_rawReduce : PureSpec Go.Proofs.Try.prog 59 fn_impl_rawReduce.M ∧ chkFun Go.Proofs.Try.prog 59 = true :=
  pure_of_runS (T := [fn_impl_copyMatrix, fn_impl_Matrix_at, fn_impl_Matrix_swapRows, fn_impl_rawInverse, fn_impl_Matrix_set, fn_impl_Matrix_addRow]) (sc := sc_impl_rawReduce) (ms := ms_impl_rawReduce) (args := ag_impl_rawReduce) (res := rs_impl_rawReduce) (SOk.cons p_impl_copyMatrix <| SOk.cons p_impl_Matrix_at <| SOk.consM p_impl_Matrix_swapRows <| SOk.cons p_impl_rawInverse <| SOk.consM p_impl_Matrix_set <| SOk.consM p_impl_Matrix_addRow <| SOk.nil) follows_ok k_impl_rawReduce F_impl_rawReduce fun x y h => (n_impl_rawReduce FUEL x).trans (f_impl_rawReduce x y h)

def fn_impl_InverseMatrix : SFn := ⟨42, ag_impl_InverseMatrix, mu_impl_InverseMatrix, rs_impl_InverseMatrix, F_impl_InverseMatrix⟩
def sc_impl_InverseMatrix : SCode :=
 (.seq
 (.reg false [
 ⟨(some 3), .box 3 (.t 1), none⟩,
 ⟨(some 4), .alloc [.v (.int .i64) ((0 : Int)), .v (.int .i64) ((0 : Int)), .nil [.int .i64]], none⟩,
 ⟨(some 5), .mv (.k (.one (.v (.bool) (false)))), none⟩])
 (.seq
 (.seq
 (.reg false [
 ⟨(some 15), .mv (.t 0), none⟩,
 ⟨(some 16), .load true 3 (.t 3), none⟩,
 ⟨(some 17), .call .froz 51 [(.t 15), (.t 16)], none⟩,
 ⟨(some 18), .un .not (.t 17), none⟩,
 ⟨(some 19), .mv (.t 18), none⟩,
 ⟨(some 20), .fieldA 0 (.t 3), (some (19, false))⟩,
 ⟨(some 21), .load false 1 (.t 20), (some (19, false))⟩,
 ⟨(some 22), .fieldA 1 (.t 3), (some (19, false))⟩,
 ⟨(some 23), .load false 1 (.t 22), (some (19, false))⟩,
 ⟨(some 24), .bin .neq (.t 21) (.t 23), (some (19, false))⟩,
 ⟨(some 25), .pick (.t 19) (.k (.one (.v (.bool) (true)))) (.t 24), none⟩])
 (.cond (.t 25)
 (.seq
 (.reg false [
 ⟨(some 26), .build [.v (.int .i64) ((0 : Int)), .v (.int .i64) ((0 : Int)), .nil [.int .i64]] [], none⟩,
 ⟨none, .store 3 (.t 4) (.t 26), none⟩,
 ⟨(some 5), .mv (.k (.one (.v (.bool) (false)))), none⟩])
 .ret)
 .skip))
 (.seq
 (.reg false [
 ⟨(some 27), .fieldA 0 (.t 3), none⟩,
 ⟨(some 28), .load false 1 (.t 27), none⟩,
 ⟨(some 6), .mv (.t 28), none⟩])
 (.seq
 (.reg false [
 ⟨(some 29), .mv (.t 6), none⟩,
 ⟨(some 30), .mv (.t 6), none⟩,
 ⟨(some 31), .bin .mul (.k (.one (.v (.int .i64) ((2 : Int))))) (.t 30), none⟩,
 ⟨(some 32), .call .froz 73 [(.t 29), (.t 31)], none⟩,
 ⟨(some 7), .alloc [.v (.int .i64) ((0 : Int)), .v (.int .i64) ((0 : Int)), .nil [.int .i64]], none⟩,
 ⟨none, .store 3 (.t 7) (.t 32), none⟩])
 (.seq
 (.seq
 (.reg false [
 ⟨(some 8), .mv (.k (.one (.v (.int .i64) ((0 : Int))))), none⟩])
 (.join ⟨[(0, .one (.c (.v (.int .i64)))), (7, .one (.c (.ptr0 7 0))), (4, .one (.c (.ptr0 4 0))), (6, .one (.c (.v (.int .i64))))], [(4, .box [.c (.v (.int .i64)), .c (.v (.int .i64)), .c (.full 50008 1)]), (7, .box [.c (.v (.int .i64)), .c (.v (.int .i64)), .c (.full 50009 1)]), (50008, .row true .froz [.int .i64]), (50009, .row true .froz [.int .i64])]⟩ [3, 4, 18000, 18001, 18002, 18003, 18004, 18005, 33000, 33001, 33002, 33003, 33004, 33005, 7, 50000, 50001, 50002, 50003, 50004, 50005, 51000, 51001, 51002, 51003, 51004, 51005, 57000, 57001, 57002, 57003, 57004, 57005, 61000, 61001, 61002, 61003, 61004, 61005, 10, 66000, 66001, 66002, 66003, 66004, 66005, 12, 92000, 92001, 92002, 92003, 92004, 92005, 93000, 93001, 93002, 93003, 93004, 93005, 50006, 50007, 50008, 50009, 50010, 50011, 50012, 50013, 50014, 50015, 50016, 50017, 50018, 50019, 50020, 50021, 50022, 50023] [(true, 4, 2, 50008, .froz, []), (true, 7, 2, 50009, .froz, [])]
 (.block 0
 (.loop 0 ⟨[(0, .one (.c (.v (.int .i64)))), (3, .one (.c (.ptr0 3 0))), (4, .one (.c (.ptr0 4 0))), (6, .one (.c (.v (.int .i64)))), (7, .one (.c (.ptr0 7 0))), (8, .one (.c (.v (.int .i64))))], [(3, .box [.c (.v (.int .i64)), .c (.v (.int .i64)), .c (.v (.list [.int .i64]))]), (4, .box [.c (.v (.int .i64)), .c (.v (.int .i64)), .c (.full 50000 1)]), (7, .box [.c (.v (.int .i64)), .c (.v (.int .i64)), .c (.full 50001 1)]), (50000, .row true .froz [.int .i64]), (50001, .row true .froz [.int .i64])]⟩ [3, 4, 18000, 18001, 18002, 18003, 18004, 18005, 33000, 33001, 33002, 33003, 33004, 33005, 7, 50000, 50001, 50002, 50003, 50004, 50005, 51000, 51001, 51002, 51003, 51004, 51005, 57000, 57001, 57002, 57003, 57004, 57005, 61000, 61001, 61002, 61003, 61004, 61005, 10, 66000, 66001, 66002, 66003, 66004, 66005, 12, 92000, 92001, 92002, 92003, 92004, 92005, 93000, 93001, 93002, 93003, 93004, 93005, 50006, 50007, 50008, 50009, 50010, 50011, 50012, 50013, 50014, 50015, 50016, 50017, 50018, 50019, 50020, 50021, 50022, 50023] [(true, 4, 2, 50000, .froz, []), (true, 7, 2, 50001, .froz, [])]
 (.seq
 (.seq
 (.reg false [
 ⟨(some 33), .mv (.t 8), none⟩,
 ⟨(some 34), .mv (.t 6), none⟩,
 ⟨(some 35), .bin .lss (.t 33) (.t 34), none⟩])
 (.cond (.t 35)
 .skip
 (.exit 0)))
 (.seq
 (.join ⟨[(8, .one (.c (.v (.int .i64)))), (0, .one (.c (.v (.int .i64)))), (3, .one (.c (.ptr0 3 0))), (4, .one (.c (.ptr0 4 0))), (6, .one (.c (.v (.int .i64)))), (7, .one (.c (.ptr0 7 0)))], [(3, .box [.c (.v (.int .i64)), .c (.v (.int .i64)), .c (.v (.list [.int .i64]))]), (4, .box [.c (.v (.int .i64)), .c (.v (.int .i64)), .c (.full 50006 1)]), (7, .box [.c (.v (.int .i64)), .c (.v (.int .i64)), .c (.full 50007 1)]), (50006, .row true .froz [.int .i64]), (50007, .row true .froz [.int .i64])]⟩ [3, 4, 18000, 18001, 18002, 18003, 18004, 18005, 33000, 33001, 33002, 33003, 33004, 33005, 7, 50000, 50001, 50002, 50003, 50004, 50005, 51000, 51001, 51002, 51003, 51004, 51005, 57000, 57001, 57002, 57003, 57004, 57005, 61000, 61001, 61002, 61003, 61004, 61005, 10, 66000, 66001, 66002, 66003, 66004, 66005, 12, 92000, 92001, 92002, 92003, 92004, 92005, 93000, 93001, 93002, 93003, 93004, 93005, 50006, 50007, 50008, 50009, 50010, 50011, 50012, 50013, 50014, 50015, 50016, 50017, 50018, 50019, 50020, 50021, 50022, 50023] [(true, 4, 2, 50006, .froz, []), (true, 7, 2, 50007, .froz, [])]
 (.block 1
 (.seq
 (.seq
 (.reg false [
 ⟨(some 9), .mv (.k (.one (.v (.int .i64) ((0 : Int))))), none⟩])
 (.join ⟨[(8, .one (.c (.v (.int .i64)))), (0, .one (.c (.v (.int .i64)))), (3, .one (.c (.ptr0 3 0))), (4, .one (.c (.ptr0 4 0))), (6, .one (.c (.v (.int .i64)))), (7, .one (.c (.ptr0 7 0)))], [(3, .box [.c (.v (.int .i64)), .c (.v (.int .i64)), .c (.v (.list [.int .i64]))]), (4, .box [.c (.v (.int .i64)), .c (.v (.int .i64)), .c (.full 50004 1)]), (7, .box [.c (.v (.int .i64)), .c (.v (.int .i64)), .c (.full 50005 1)]), (50004, .row true .froz [.int .i64]), (50005, .row true .froz [.int .i64])]⟩ [3, 4, 18000, 18001, 18002, 18003, 18004, 18005, 33000, 33001, 33002, 33003, 33004, 33005, 7, 50000, 50001, 50002, 50003, 50004, 50005, 51000, 51001, 51002, 51003, 51004, 51005, 57000, 57001, 57002, 57003, 57004, 57005, 61000, 61001, 61002, 61003, 61004, 61005, 10, 66000, 66001, 66002, 66003, 66004, 66005, 12, 92000, 92001, 92002, 92003, 92004, 92005, 93000, 93001, 93002, 93003, 93004, 93005, 50006, 50007, 50008, 50009, 50010, 50011, 50012, 50013, 50014, 50015, 50016, 50017, 50018, 50019, 50020, 50021, 50022, 50023] [(true, 4, 2, 50004, .froz, []), (true, 7, 2, 50005, .froz, [])]
 (.block 2
 (.loop 0 ⟨[(0, .one (.c (.v (.int .i64)))), (3, .one (.c (.ptr0 3 0))), (4, .one (.c (.ptr0 4 0))), (6, .one (.c (.v (.int .i64)))), (7, .one (.c (.ptr0 7 0))), (8, .one (.c (.v (.int .i64)))), (9, .one (.c (.v (.int .i64))))], [(3, .box [.c (.v (.int .i64)), .c (.v (.int .i64)), .c (.v (.list [.int .i64]))]), (4, .box [.c (.v (.int .i64)), .c (.v (.int .i64)), .c (.full 50002 1)]), (7, .box [.c (.v (.int .i64)), .c (.v (.int .i64)), .c (.full 50003 1)]), (50002, .row true .froz [.int .i64]), (50003, .row true .froz [.int .i64])]⟩ [3, 4, 18000, 18001, 18002, 18003, 18004, 18005, 33000, 33001, 33002, 33003, 33004, 33005, 7, 50000, 50001, 50002, 50003, 50004, 50005, 51000, 51001, 51002, 51003, 51004, 51005, 57000, 57001, 57002, 57003, 57004, 57005, 61000, 61001, 61002, 61003, 61004, 61005, 10, 66000, 66001, 66002, 66003, 66004, 66005, 12, 92000, 92001, 92002, 92003, 92004, 92005, 93000, 93001, 93002, 93003, 93004, 93005, 50006, 50007, 50008, 50009, 50010, 50011, 50012, 50013, 50014, 50015, 50016, 50017, 50018, 50019, 50020, 50021, 50022, 50023] [(true, 4, 2, 50002, .froz, []), (true, 7, 2, 50003, .froz, [])]
 (.seq
 (.seq
 (.reg false [
 ⟨(some 38), .mv (.t 9), none⟩,
 ⟨(some 39), .mv (.t 6), none⟩,
 ⟨(some 40), .bin .lss (.t 38) (.t 39), none⟩])
 (.cond (.t 40)
 .skip
 (.exit 2)))
 (.seq
 (.block 3
 (.reg true [
 ⟨(some 43), .load true 3 (.t 7), none⟩,
 ⟨(some 44), .mv (.t 8), none⟩,
 ⟨(some 45), .mv (.t 9), none⟩,
 ⟨(some 46), .load true 3 (.t 3), none⟩,
 ⟨(some 47), .mv (.t 8), none⟩,
 ⟨(some 48), .mv (.t 9), none⟩,
 ⟨(some 49), .call .froz 62 [(.t 46), (.t 47), (.t 48)], none⟩,
 ⟨(some 50), .callm .froz 67 [(.t 43), (.t 44), (.t 45), (.t 49)], none⟩]))
 (.reg false [
 ⟨(some 41), .mv (.t 9), none⟩,
 ⟨(some 42), .bin .add (.t 41) (.k (.one (.v (.int .i64) ((1 : Int))))), none⟩,
 ⟨(some 9), .mv (.t 42), none⟩])))))))
 (.reg false [
 ⟨(some 51), .load true 3 (.t 7), none⟩,
 ⟨(some 52), .mv (.t 8), none⟩,
 ⟨(some 53), .mv (.t 6), none⟩,
 ⟨(some 54), .mv (.t 8), none⟩,
 ⟨(some 55), .bin .add (.t 53) (.t 54), none⟩,
 ⟨(some 56), .callm .froz 67 [(.t 51), (.t 52), (.t 55), (.k (.one (.v (.int .i64) ((1 : Int)))))], none⟩]))))
 (.reg false [
 ⟨(some 36), .mv (.t 8), none⟩,
 ⟨(some 37), .bin .add (.t 36) (.k (.one (.v (.int .i64) ((1 : Int))))), none⟩,
 ⟨(some 8), .mv (.t 37), none⟩])))))))
 (.seq
 (.reg false [
 ⟨(some 58), .mv (.t 0), none⟩,
 ⟨(some 59), .load true 3 (.t 7), none⟩,
 ⟨(some 60), .call .froz 59 [(.t 58), (.t 59)], none⟩,
 ⟨(some 57), .mv (.t 60), none⟩,
 ⟨(some 61), .ext 0 (.t 57), none⟩,
 ⟨(some 62), .ext 1 (.t 57), none⟩,
 ⟨(some 10), .alloc [.v (.int .i64) ((0 : Int)), .v (.int .i64) ((0 : Int)), .nil [.int .i64]], none⟩,
 ⟨none, .store 3 (.t 10) (.t 61), none⟩,
 ⟨(some 11), .mv (.t 62), none⟩])
 (.seq
 (.reg false [
 ⟨(some 63), .mv (.t 6), none⟩,
 ⟨(some 64), .mv (.t 6), none⟩,
 ⟨(some 65), .call .froz 73 [(.t 63), (.t 64)], none⟩,
 ⟨(some 12), .alloc [.v (.int .i64) ((0 : Int)), .v (.int .i64) ((0 : Int)), .nil [.int .i64]], none⟩,
 ⟨none, .store 3 (.t 12) (.t 65), none⟩])
 (.seq
 (.seq
 (.reg false [
 ⟨(some 13), .mv (.k (.one (.v (.int .i64) ((0 : Int))))), none⟩])
 (.join ⟨[(12, .one (.c (.ptr0 12 0))), (4, .one (.c (.ptr0 4 0)))], [(4, .box [.c (.v (.int .i64)), .c (.v (.int .i64)), .c (.full 50022 1)]), (12, .box [.c (.v (.int .i64)), .c (.v (.int .i64)), .c (.full 50023 1)]), (50022, .row true .froz [.int .i64]), (50023, .row true .froz [.int .i64])]⟩ [3, 4, 18000, 18001, 18002, 18003, 18004, 18005, 33000, 33001, 33002, 33003, 33004, 33005, 7, 50000, 50001, 50002, 50003, 50004, 50005, 51000, 51001, 51002, 51003, 51004, 51005, 57000, 57001, 57002, 57003, 57004, 57005, 61000, 61001, 61002, 61003, 61004, 61005, 10, 66000, 66001, 66002, 66003, 66004, 66005, 12, 92000, 92001, 92002, 92003, 92004, 92005, 93000, 93001, 93002, 93003, 93004, 93005, 50006, 50007, 50008, 50009, 50010, 50011, 50012, 50013, 50014, 50015, 50016, 50017, 50018, 50019, 50020, 50021, 50022, 50023] [(true, 4, 2, 50022, .froz, []), (true, 12, 2, 50023, .froz, [])]
 (.block 4
 (.loop 0 ⟨[(4, .one (.c (.ptr0 4 0))), (6, .one (.c (.v (.int .i64)))), (10, .one (.c (.ptr0 10 0))), (11, .one (.c (.full 50013 1))), (12, .one (.c (.ptr0 12 0))), (13, .one (.c (.v (.int .i64))))], [(4, .box [.c (.v (.int .i64)), .c (.v (.int .i64)), .c (.full 50010 1)]), (10, .box [.c (.v (.int .i64)), .c (.v (.int .i64)), .c (.full 50011 1)]), (12, .box [.c (.v (.int .i64)), .c (.v (.int .i64)), .c (.full 50012 1)]), (50010, .row true .froz [.int .i64]), (50011, .row true .froz [.int .i64]), (50012, .row true .froz [.int .i64]), (50013, .row true .froz [.int .i64])]⟩ [3, 4, 18000, 18001, 18002, 18003, 18004, 18005, 33000, 33001, 33002, 33003, 33004, 33005, 7, 50000, 50001, 50002, 50003, 50004, 50005, 51000, 51001, 51002, 51003, 51004, 51005, 57000, 57001, 57002, 57003, 57004, 57005, 61000, 61001, 61002, 61003, 61004, 61005, 10, 66000, 66001, 66002, 66003, 66004, 66005, 12, 92000, 92001, 92002, 92003, 92004, 92005, 93000, 93001, 93002, 93003, 93004, 93005, 50006, 50007, 50008, 50009, 50010, 50011, 50012, 50013, 50014, 50015, 50016, 50017, 50018, 50019, 50020, 50021, 50022, 50023] [(true, 4, 2, 50010, .froz, []), (true, 10, 2, 50011, .froz, []), (true, 12, 2, 50012, .froz, []), (false, 11, 0, 50013, .froz, [])]
 (.seq
 (.seq
 (.reg false [
 ⟨(some 66), .mv (.t 13), none⟩,
 ⟨(some 67), .mv (.t 6), none⟩,
 ⟨(some 68), .bin .lss (.t 66) (.t 67), none⟩])
 (.cond (.t 68)
 .skip
 (.exit 4)))
 (.seq
 (.join ⟨[(13, .one (.c (.v (.int .i64)))), (4, .one (.c (.ptr0 4 0))), (6, .one (.c (.v (.int .i64)))), (10, .one (.c (.ptr0 10 0))), (11, .one (.c (.full 50021 1))), (12, .one (.c (.ptr0 12 0)))], [(4, .box [.c (.v (.int .i64)), .c (.v (.int .i64)), .c (.full 50018 1)]), (10, .box [.c (.v (.int .i64)), .c (.v (.int .i64)), .c (.full 50019 1)]), (12, .box [.c (.v (.int .i64)), .c (.v (.int .i64)), .c (.full 50020 1)]), (50018, .row true .froz [.int .i64]), (50019, .row true .froz [.int .i64]), (50020, .row true .froz [.int .i64]), (50021, .row true .froz [.int .i64])]⟩ [3, 4, 18000, 18001, 18002, 18003, 18004, 18005, 33000, 33001, 33002, 33003, 33004, 33005, 7, 50000, 50001, 50002, 50003, 50004, 50005, 51000, 51001, 51002, 51003, 51004, 51005, 57000, 57001, 57002, 57003, 57004, 57005, 61000, 61001, 61002, 61003, 61004, 61005, 10, 66000, 66001, 66002, 66003, 66004, 66005, 12, 92000, 92001, 92002, 92003, 92004, 92005, 93000, 93001, 93002, 93003, 93004, 93005, 50006, 50007, 50008, 50009, 50010, 50011, 50012, 50013, 50014, 50015, 50016, 50017, 50018, 50019, 50020, 50021, 50022, 50023] [(true, 4, 2, 50018, .froz, []), (true, 10, 2, 50019, .froz, []), (true, 12, 2, 50020, .froz, []), (false, 11, 0, 50021, .froz, [])]
 (.block 5
 (.seq
 (.seq
 (.reg false [
 ⟨(some 71), .mv (.t 11), none⟩,
 ⟨(some 72), .mv (.t 13), none⟩,
 ⟨(some 73), .idxA 1 (.t 71) (.t 72), none⟩,
 ⟨(some 74), .load false 1 (.t 73), none⟩,
 ⟨(some 75), .mv (.t 13), none⟩,
 ⟨(some 76), .bin .neq (.t 74) (.t 75), none⟩])
 (.cond (.t 76)
 (.seq
 (.reg false [
 ⟨(some 77), .build [.v (.int .i64) ((0 : Int)), .v (.int .i64) ((0 : Int)), .nil [.int .i64]] [], none⟩,
 ⟨none, .store 3 (.t 4) (.t 77), none⟩,
 ⟨(some 5), .mv (.k (.one (.v (.bool) (false)))), none⟩])
 .ret)
 .skip))
 (.seq
 (.reg false [
 ⟨(some 14), .mv (.k (.one (.v (.int .i64) ((0 : Int))))), none⟩])
 (.block 6
 (.loop 0 ⟨[(4, .one (.c (.ptr0 4 0))), (6, .one (.c (.v (.int .i64)))), (10, .one (.c (.ptr0 10 0))), (11, .one (.c (.full 50017 1))), (12, .one (.c (.ptr0 12 0))), (13, .one (.c (.v (.int .i64)))), (14, .one (.c (.v (.int .i64))))], [(4, .box [.c (.v (.int .i64)), .c (.v (.int .i64)), .c (.full 50014 1)]), (10, .box [.c (.v (.int .i64)), .c (.v (.int .i64)), .c (.full 50015 1)]), (12, .box [.c (.v (.int .i64)), .c (.v (.int .i64)), .c (.full 50016 1)]), (50014, .row true .froz [.int .i64]), (50015, .row true .froz [.int .i64]), (50016, .row true .froz [.int .i64]), (50017, .row true .froz [.int .i64])]⟩ [3, 4, 18000, 18001, 18002, 18003, 18004, 18005, 33000, 33001, 33002, 33003, 33004, 33005, 7, 50000, 50001, 50002, 50003, 50004, 50005, 51000, 51001, 51002, 51003, 51004, 51005, 57000, 57001, 57002, 57003, 57004, 57005, 61000, 61001, 61002, 61003, 61004, 61005, 10, 66000, 66001, 66002, 66003, 66004, 66005, 12, 92000, 92001, 92002, 92003, 92004, 92005, 93000, 93001, 93002, 93003, 93004, 93005, 50006, 50007, 50008, 50009, 50010, 50011, 50012, 50013, 50014, 50015, 50016, 50017, 50018, 50019, 50020, 50021, 50022, 50023] [(true, 4, 2, 50014, .froz, []), (true, 10, 2, 50015, .froz, []), (true, 12, 2, 50016, .froz, []), (false, 11, 0, 50017, .froz, [])]
 (.seq
 (.seq
 (.reg false [
 ⟨(some 78), .mv (.t 14), none⟩,
 ⟨(some 79), .mv (.t 6), none⟩,
 ⟨(some 80), .bin .lss (.t 78) (.t 79), none⟩])
 (.cond (.t 80)
 .skip
 (.exit 6)))
 (.seq
 (.block 7
 (.reg true [
 ⟨(some 83), .load true 3 (.t 12), none⟩,
 ⟨(some 84), .mv (.t 13), none⟩,
 ⟨(some 85), .mv (.t 14), none⟩,
 ⟨(some 86), .load true 3 (.t 10), none⟩,
 ⟨(some 87), .mv (.t 13), none⟩,
 ⟨(some 88), .mv (.t 6), none⟩,
 ⟨(some 89), .mv (.t 14), none⟩,
 ⟨(some 90), .bin .add (.t 88) (.t 89), none⟩,
 ⟨(some 91), .call .froz 62 [(.t 86), (.t 87), (.t 90)], none⟩,
 ⟨(some 92), .callm .froz 67 [(.t 83), (.t 84), (.t 85), (.t 91)], none⟩]))
 (.reg false [
 ⟨(some 81), .mv (.t 14), none⟩,
 ⟨(some 82), .bin .add (.t 81) (.k (.one (.v (.int .i64) ((1 : Int))))), none⟩,
 ⟨(some 14), .mv (.t 82), none⟩])))))))))
 (.reg false [
 ⟨(some 69), .mv (.t 13), none⟩,
 ⟨(some 70), .bin .add (.t 69) (.k (.one (.v (.int .i64) ((1 : Int))))), none⟩,
 ⟨(some 13), .mv (.t 70), none⟩])))))))
 (.seq
 (.reg false [
 ⟨(some 93), .load true 3 (.t 12), none⟩,
 ⟨none, .store 3 (.t 4) (.t 93), none⟩,
 ⟨(some 5), .mv (.k (.one (.v (.bool) (true)))), none⟩])
 .ret)))))))))
def ms_impl_InverseMatrix : List MRes := [.cell 4 3 true, .tmp 5]
theorem n_impl_InverseMatrix (NN : Nat) (x : DLL (Sig.tys ag_impl_InverseMatrix)) : runS NN [fn_impl_MatrixOk, fn_impl_emptyMatrix, fn_impl_Matrix_at, fn_impl_Matrix_set, fn_impl_rawReduce] sc_impl_InverseMatrix ms_impl_InverseMatrix ag_impl_InverseMatrix rs_impl_InverseMatrix x = G_impl_InverseMatrix NN x := by kernel_rfl
theorem k_impl_InverseMatrix : chkS Go.Proofs.Try.prog 42 sc_impl_InverseMatrix.er ms_impl_InverseMatrix 2 = true := by decide +kernel
theorem p_impl_InverseMatrix : PureSpec Go.Proofs.Try.prog 42 fn_impl_InverseMatrix.M ∧ chkFun Go.Proofs.Try.prog 42 = true :=
  pure_of_runS (T := [fn_impl_MatrixOk, fn_impl_emptyMatrix, fn_impl_Matrix_at, fn_impl_Matrix_set, fn_impl_rawReduce]) (sc := sc_impl_InverseMatrix) (ms := ms_impl_InverseMatrix) (args := ag_impl_InverseMatrix) (res := rs_impl_InverseMatrix) (SOk.cons p_impl_MatrixOk <| SOk.cons p_impl_emptyMatrix <| SOk.cons p_impl_Matrix_at <| SOk.consM p_impl_Matrix_set <| SOk.cons p_impl_rawReduce <| SOk.nil) follows_ok k_impl_InverseMatrix F_impl_InverseMatrix fun x y h => (n_impl_InverseMatrix FUEL x).trans (f_impl_InverseMatrix x y h)

def fn_laws_eqIntS : SFn := ⟨37, ag_laws_eqIntS, mu_laws_eqIntS, rs_laws_eqIntS, F_laws_eqIntS⟩
def sc_laws_eqIntS : SCode :=
 (.seq
 (.reg false [
 ⟨(some 4), .mv (.k (.one (.v (.bool) (false)))), none⟩])
 (.seq
 (.seq
 (.reg false [
 ⟨(some 6), .mv (.t 0), none⟩,
 ⟨(some 7), .len (.t 6), none⟩,
 ⟨(some 8), .mv (.t 1), none⟩,
 ⟨(some 9), .len (.t 8), none⟩,
 ⟨(some 10), .bin .neq (.t 7) (.t 9), none⟩])
 (.cond (.t 10)
 (.seq
 (.reg false [
 ⟨(some 4), .mv (.k (.one (.v (.bool) (false)))), none⟩])
 .ret)
 .skip))
 (.seq
 (.seq
 (.reg false [
 ⟨(some 5), .mv (.k (.one (.v (.int .i64) ((0 : Int))))), none⟩])
 (.join ⟨[], []⟩ [] []
 (.block 0
 (.loop 0 ⟨[(0, .one (.c (.v (.list [.int .i64])))), (1, .one (.c (.v (.list [.int .i64])))), (5, .one (.c (.v (.int .i64))))], []⟩ [] []
 (.seq
 (.seq
 (.reg false [
 ⟨(some 11), .mv (.t 5), none⟩,
 ⟨(some 12), .mv (.t 0), none⟩,
 ⟨(some 13), .len (.t 12), none⟩,
 ⟨(some 14), .bin .lss (.t 11) (.t 13), none⟩])
 (.cond (.t 14)
 .skip
 (.exit 0)))
 (.seq
 (.block 1
 (.seq
 (.reg true [
 ⟨(some 17), .mv (.t 0), none⟩,
 ⟨(some 18), .mv (.t 5), none⟩,
 ⟨(some 19), .idxA 1 (.t 17) (.t 18), none⟩,
 ⟨(some 20), .load false 1 (.t 19), none⟩,
 ⟨(some 21), .mv (.t 1), none⟩,
 ⟨(some 22), .mv (.t 5), none⟩,
 ⟨(some 23), .idxA 1 (.t 21) (.t 22), none⟩,
 ⟨(some 24), .load false 1 (.t 23), none⟩,
 ⟨(some 25), .bin .neq (.t 20) (.t 24), none⟩])
 (.cond (.t 25)
 (.seq
 (.reg false [
 ⟨(some 4), .mv (.k (.one (.v (.bool) (false)))), none⟩])
 .ret)
 .skip)))
 (.reg false [
 ⟨(some 15), .mv (.t 5), none⟩,
 ⟨(some 16), .bin .add (.t 15) (.k (.one (.v (.int .i64) ((1 : Int))))), none⟩,
 ⟨(some 5), .mv (.t 16), none⟩])))))))
 (.seq
 (.reg false [
 ⟨(some 4), .mv (.k (.one (.v (.bool) (true)))), none⟩])
 .ret))))
def ms_laws_eqIntS : List MRes := [.tmp 4]
theorem n_laws_eqIntS (NN : Nat) (x : DLL (Sig.tys ag_laws_eqIntS)) : runS NN [] sc_laws_eqIntS ms_laws_eqIntS ag_laws_eqIntS rs_laws_eqIntS x = G_laws_eqIntS NN x := by kernel_rfl
theorem k_laws_eqIntS : chkS Go.Proofs.Try.prog 37 sc_laws_eqIntS.er ms_laws_eqIntS 2 = true := by decide +kernel
theorem p_laws_eqIntS : PureSpec Go.Proofs.Try.prog 37 fn_laws_eqIntS.M ∧ chkFun Go.Proofs.Try.prog 37 = true :=
  pure_of_runS (T := []) (sc := sc_laws_eqIntS) (ms := ms_laws_eqIntS) (args := ag_laws_eqIntS) (res := rs_laws_eqIntS) (SOk.nil) follows_ok k_laws_eqIntS F_laws_eqIntS fun x y h => (n_laws_eqIntS FUEL x).trans (f_laws_eqIntS x y h)

def fn_laws_eqMatrix : SFn := ⟨19, ag_laws_eqMatrix, mu_laws_eqMatrix, rs_laws_eqMatrix, F_laws_eqMatrix⟩
def sc_laws_eqMatrix : SCode :=
 (.seq
 (.reg false [
 ⟨(some 2), .box 3 (.t 0), none⟩,
 ⟨(some 3), .box 3 (.t 1), none⟩,
 ⟨(some 4), .mv (.k (.one (.v (.bool) (false)))), none⟩])
 (.seq
 (.seq
 (.reg false [
 ⟨(some 5), .fieldA 0 (.t 2), none⟩,
 ⟨(some 6), .load false 1 (.t 5), none⟩,
 ⟨(some 7), .fieldA 0 (.t 3), none⟩,
 ⟨(some 8), .load false 1 (.t 7), none⟩,
 ⟨(some 9), .bin .neq (.t 6) (.t 8), none⟩])
 (.cond (.t 9)
 (.seq
 (.reg false [
 ⟨(some 4), .mv (.k (.one (.v (.bool) (false)))), none⟩])
 .ret)
 .skip))
 (.seq
 (.seq
 (.reg false [
 ⟨(some 10), .fieldA 1 (.t 2), none⟩,
 ⟨(some 11), .load false 1 (.t 10), none⟩,
 ⟨(some 12), .fieldA 1 (.t 3), none⟩,
 ⟨(some 13), .load false 1 (.t 12), none⟩,
 ⟨(some 14), .bin .neq (.t 11) (.t 13), none⟩])
 (.cond (.t 14)
 (.seq
 (.reg false [
 ⟨(some 4), .mv (.k (.one (.v (.bool) (false)))), none⟩])
 .ret)
 .skip))
 (.seq
 (.seq
 (.reg false [
 ⟨(some 15), .fieldA 2 (.t 2), none⟩,
 ⟨(some 16), .load false 1 (.t 15), none⟩,
 ⟨(some 17), .fieldA 2 (.t 3), none⟩,
 ⟨(some 18), .load false 1 (.t 17), none⟩,
 ⟨(some 19), .call .froz 37 [(.t 16), (.t 18)], none⟩,
 ⟨(some 20), .un .not (.t 19), none⟩])
 (.cond (.t 20)
 (.seq
 (.reg false [
 ⟨(some 4), .mv (.k (.one (.v (.bool) (false)))), none⟩])
 .ret)
 .skip))
 (.seq
 (.reg false [
 ⟨(some 4), .mv (.k (.one (.v (.bool) (true)))), none⟩])
 .ret)))))
def ms_laws_eqMatrix : List MRes := [.tmp 4]
theorem n_laws_eqMatrix (NN : Nat) (x : DLL (Sig.tys ag_laws_eqMatrix)) : runS NN [fn_laws_eqIntS] sc_laws_eqMatrix ms_laws_eqMatrix ag_laws_eqMatrix rs_laws_eqMatrix x = G_laws_eqMatrix NN x := by kernel_rfl
theorem k_laws_eqMatrix : chkS Go.Proofs.Try.prog 19 sc_laws_eqMatrix.er ms_laws_eqMatrix 2 = true := by decide +kernel
theorem p_laws_eqMatrix : PureSpec Go.Proofs.Try.prog 19 fn_laws_eqMatrix.M ∧ chkFun Go.Proofs.Try.prog 19 = true :=
  pure_of_runS (T := [fn_laws_eqIntS]) (sc := sc_laws_eqMatrix) (ms := ms_laws_eqMatrix) (args := ag_laws_eqMatrix) (res := rs_laws_eqMatrix) (SOk.cons p_laws_eqIntS <| SOk.nil) follows_ok k_laws_eqMatrix F_laws_eqMatrix fun x y h => (n_laws_eqMatrix FUEL x).trans (f_laws_eqMatrix x y h)

def fn_laws_markIntS : SFn := ⟨38, ag_laws_markIntS, mu_laws_markIntS, rs_laws_markIntS, F_laws_markIntS⟩
def sc_laws_markIntS : SCode :=
 (.seq
 (.reg false [
 ⟨(some 4), .mv (.k (.one (.v (.int .i64) ((0 : Int))))), none⟩])
 (.seq
 (.seq
 (.reg false [
 ⟨(some 5), .mv (.k (.one (.v (.int .i64) ((0 : Int))))), none⟩])
 (.join ⟨[(1, .one (.c (.v (.int .i64))))], [(1000000, .row false .froz [.int .i64])]⟩ [1000000, 50000] []
 (.block 0
 (.loop 0 ⟨[(0, .one (.c (.full 1000000 1))), (1, .one (.c (.v (.int .i64)))), (5, .one (.c (.v (.int .i64))))], [(1000000, .row false .froz [.int .i64])]⟩ [1000000, 50000] [(false, 0, 0, 50000, .froz, [])]
 (.seq
 (.seq
 (.reg false [
 ⟨(some 6), .mv (.t 5), none⟩,
 ⟨(some 7), .mv (.t 0), none⟩,
 ⟨(some 8), .len (.t 7), none⟩,
 ⟨(some 9), .bin .lss (.t 6) (.t 8), none⟩])
 (.cond (.t 9)
 .skip
 (.exit 0)))
 (.seq
 (.block 1
 (.seq
 (.reg false [
 ⟨(some 12), .mv (.t 0), none⟩,
 ⟨(some 13), .mv (.t 5), none⟩,
 ⟨(some 14), .mv (.t 1), none⟩,
 ⟨(some 15), .idxA 1 (.t 12) (.t 13), none⟩,
 ⟨none, .store 1 (.t 15) (.t 14), none⟩])
 (.reg false [
 ⟨(some 16), .mv (.t 1), none⟩,
 ⟨(some 17), .bin .add (.t 16) (.k (.one (.v (.int .i64) ((1 : Int))))), none⟩,
 ⟨(some 1), .mv (.t 17), none⟩])))
 (.reg false [
 ⟨(some 10), .mv (.t 5), none⟩,
 ⟨(some 11), .bin .add (.t 10) (.k (.one (.v (.int .i64) ((1 : Int))))), none⟩,
 ⟨(some 5), .mv (.t 11), none⟩])))))))
 (.seq
 (.reg false [
 ⟨(some 18), .mv (.t 1), none⟩,
 ⟨(some 4), .mv (.t 18), none⟩])
 .ret)))
def ms_laws_markIntS : List MRes := [.tmp 4]
theorem n_laws_markIntS (NN : Nat) (x : DLL (Sig.tys ag_laws_markIntS)) : runMS NN [] sc_laws_markIntS ms_laws_markIntS ag_laws_markIntS mu_laws_markIntS rs_laws_markIntS x = G_laws_markIntS NN x := by kernel_rfl
theorem k_laws_markIntS : chkS Go.Proofs.Try.prog 38 sc_laws_markIntS.er ms_laws_markIntS 2 = true := by decide +kernel
theorem p_laws_markIntS : MutSpec Go.Proofs.Try.prog 38 mu_laws_markIntS fn_laws_markIntS.MM ∧ chkFun Go.Proofs.Try.prog 38 = true :=
  mut_of_runMS (T := []) (sc := sc_laws_markIntS) (ms := ms_laws_markIntS) (args := ag_laws_markIntS) (mu := mu_laws_markIntS) (res := rs_laws_markIntS) (SOk.nil) follows_ok k_laws_markIntS F_laws_markIntS fun x y h => (n_laws_markIntS FUEL x).trans (f_laws_markIntS x y h)

def fn_laws_markMatrix : SFn := ⟨20, ag_laws_markMatrix, mu_laws_markMatrix, rs_laws_markMatrix, F_laws_markMatrix⟩
def sc_laws_markMatrix : SCode :=
 (.seq
 (.reg false [
 ⟨(some 2), .box 3 (.t 0), none⟩,
 ⟨(some 4), .mv (.k (.one (.v (.int .i64) ((0 : Int))))), none⟩])
 (.seq
 (.reg false [
 ⟨(some 5), .fieldA 2 (.t 2), none⟩,
 ⟨(some 6), .load false 1 (.t 5), none⟩,
 ⟨(some 7), .mv (.t 1), none⟩,
 ⟨(some 8), .callm .froz 38 [(.t 6), (.t 7)], none⟩,
 ⟨(some 1), .mv (.t 8), none⟩])
 (.seq
 (.reg false [
 ⟨(some 9), .mv (.t 1), none⟩,
 ⟨(some 4), .mv (.t 9), none⟩])
 .ret)))
def ms_laws_markMatrix : List MRes := [.tmp 4]
theorem n_laws_markMatrix (NN : Nat) (x : DLL (Sig.tys ag_laws_markMatrix)) : runMS NN [fn_laws_markIntS] sc_laws_markMatrix ms_laws_markMatrix ag_laws_markMatrix mu_laws_markMatrix rs_laws_markMatrix x = G_laws_markMatrix NN x := by kernel_rfl
theorem k_laws_markMatrix : chkS Go.Proofs.Try.prog 20 sc_laws_markMatrix.er ms_laws_markMatrix 2 = true := by decide +kernel
theorem p_laws_markMatrix : MutSpec Go.Proofs.Try.prog 20 mu_laws_markMatrix fn_laws_markMatrix.MM ∧ chkFun Go.Proofs.Try.prog 20 = true :=
  mut_of_runMS (T := [fn_laws_markIntS]) (sc := sc_laws_markMatrix) (ms := ms_laws_markMatrix) (args := ag_laws_markMatrix) (mu := mu_laws_markMatrix) (res := rs_laws_markMatrix) (SOk.consM p_laws_markIntS <| SOk.nil) follows_ok k_laws_markMatrix F_laws_markMatrix fun x y h => (n_laws_markMatrix FUEL x).trans (f_laws_markMatrix x y h)

def fn_laws_heldIntS : SFn := ⟨39, ag_laws_heldIntS, mu_laws_heldIntS, rs_laws_heldIntS, F_laws_heldIntS⟩
def sc_laws_heldIntS : SCode :=
 (.seq
 (.reg false [
 ⟨(some 4), .mv (.k (.one (.v (.int .i64) ((0 : Int))))), none⟩])
 (.seq
 (.seq
 (.reg false [
 ⟨(some 5), .mv (.k (.one (.v (.int .i64) ((0 : Int))))), none⟩])
 (.join ⟨[(1, .one (.c (.v (.int .i64))))], []⟩ [] []
 (.block 0
 (.loop 0 ⟨[(0, .one (.c (.v (.list [.int .i64])))), (1, .one (.c (.v (.int .i64)))), (5, .one (.c (.v (.int .i64))))], []⟩ [] []
 (.seq
 (.seq
 (.reg false [
 ⟨(some 6), .mv (.t 5), none⟩,
 ⟨(some 7), .mv (.t 0), none⟩,
 ⟨(some 8), .len (.t 7), none⟩,
 ⟨(some 9), .bin .lss (.t 6) (.t 8), none⟩])
 (.cond (.t 9)
 .skip
 (.exit 0)))
 (.seq
 (.block 1
 (.seq
 (.seq
 (.reg false [
 ⟨(some 12), .mv (.t 0), none⟩,
 ⟨(some 13), .mv (.t 5), none⟩,
 ⟨(some 14), .idxA 1 (.t 12) (.t 13), none⟩,
 ⟨(some 15), .load false 1 (.t 14), none⟩,
 ⟨(some 16), .mv (.t 1), none⟩,
 ⟨(some 17), .bin .neq (.t 15) (.t 16), none⟩])
 (.cond (.t 17)
 (.seq
 (.reg false [
 ⟨(some 4), .mv (.k (.one (.v (.int .i64) (((-1) : Int))))), none⟩])
 .ret)
 .skip))
 (.reg false [
 ⟨(some 18), .mv (.t 1), none⟩,
 ⟨(some 19), .bin .add (.t 18) (.k (.one (.v (.int .i64) ((1 : Int))))), none⟩,
 ⟨(some 1), .mv (.t 19), none⟩])))
 (.reg false [
 ⟨(some 10), .mv (.t 5), none⟩,
 ⟨(some 11), .bin .add (.t 10) (.k (.one (.v (.int .i64) ((1 : Int))))), none⟩,
 ⟨(some 5), .mv (.t 11), none⟩])))))))
 (.seq
 (.reg false [
 ⟨(some 20), .mv (.t 1), none⟩,
 ⟨(some 4), .mv (.t 20), none⟩])
 .ret)))
def ms_laws_heldIntS : List MRes := [.tmp 4]
theorem n_laws_heldIntS (NN : Nat) (x : DLL (Sig.tys ag_laws_heldIntS)) : runS NN [] sc_laws_heldIntS ms_laws_heldIntS ag_laws_heldIntS rs_laws_heldIntS x = G_laws_heldIntS NN x := by kernel_rfl
theorem k_laws_heldIntS : chkS Go.Proofs.Try.prog 39 sc_laws_heldIntS.er ms_laws_heldIntS 2 = true := by decide +kernel
theorem p_laws_heldIntS : PureSpec Go.Proofs.Try.prog 39 fn_laws_heldIntS.M ∧ chkFun Go.Proofs.Try.prog 39 = true :=
  pure_of_runS (T := []) (sc := sc_laws_heldIntS) (ms := ms_laws_heldIntS) (args := ag_laws_heldIntS) (res := rs_laws_heldIntS) (SOk.nil) follows_ok k_laws_heldIntS F_laws_heldIntS fun x y h => (n_laws_heldIntS FUEL x).trans (f_laws_heldIntS x y h)

def fn_laws_heldMatrix : SFn := ⟨21, ag_laws_heldMatrix, mu_laws_heldMatrix, rs_laws_heldMatrix, F_laws_heldMatrix⟩
def sc_laws_heldMatrix : SCode :=
 (.seq
 (.reg false [
 ⟨(some 2), .box 3 (.t 0), none⟩,
 ⟨(some 4), .mv (.k (.one (.v (.int .i64) ((0 : Int))))), none⟩])
 (.seq
 (.reg false [
 ⟨(some 5), .fieldA 2 (.t 2), none⟩,
 ⟨(some 6), .load false 1 (.t 5), none⟩,
 ⟨(some 7), .mv (.t 1), none⟩,
 ⟨(some 8), .call .froz 39 [(.t 6), (.t 7)], none⟩,
 ⟨(some 1), .mv (.t 8), none⟩])
 (.seq
 (.seq
 (.reg false [
 ⟨(some 9), .mv (.t 1), none⟩,
 ⟨(some 10), .bin .lss (.t 9) (.k (.one (.v (.int .i64) ((0 : Int))))), none⟩])
 (.cond (.t 10)
 (.seq
 (.reg false [
 ⟨(some 4), .mv (.k (.one (.v (.int .i64) (((-1) : Int))))), none⟩])
 .ret)
 .skip))
 (.seq
 (.reg false [
 ⟨(some 11), .mv (.t 1), none⟩,
 ⟨(some 4), .mv (.t 11), none⟩])
 .ret))))
def ms_laws_heldMatrix : List MRes := [.tmp 4]
theorem n_laws_heldMatrix (NN : Nat) (x : DLL (Sig.tys ag_laws_heldMatrix)) : runS NN [fn_laws_heldIntS] sc_laws_heldMatrix ms_laws_heldMatrix ag_laws_heldMatrix rs_laws_heldMatrix x = G_laws_heldMatrix NN x := by kernel_rfl
theorem k_laws_heldMatrix : chkS Go.Proofs.Try.prog 21 sc_laws_heldMatrix.er ms_laws_heldMatrix 2 = true := by decide +kernel
theorem p_laws_heldMatrix : PureSpec Go.Proofs.Try.prog 21 fn_laws_heldMatrix.M ∧ chkFun Go.Proofs.Try.prog 21 = true :=
  pure_of_runS (T := [fn_laws_heldIntS]) (sc := sc_laws_heldMatrix) (ms := ms_laws_heldMatrix) (args := ag_laws_heldMatrix) (res := rs_laws_heldMatrix) (SOk.cons p_laws_heldIntS <| SOk.nil) follows_ok k_laws_heldMatrix F_laws_heldMatrix fun x y h => (n_laws_heldMatrix FUEL x).trans (f_laws_heldMatrix x y h)

def fn_laws_FnExactInverseMatrix : SFn := ⟨13, ag_laws_FnExactInverseMatrix, mu_laws_FnExactInverseMatrix, rs_laws_FnExactInverseMatrix, F_laws_FnExactInverseMatrix⟩
def sc_laws_FnExactInverseMatrix : SCode :=
 (.seq
 (.reg false [
 ⟨(some 3), .box 3 (.t 1), none⟩,
 ⟨(some 4), .mv (.k (.one (.v (.bool) (false)))), none⟩])
 (.seq
 (.reg false [
 ⟨(some 5), .mv (.k (.one (.v (.int .i64) ((1048576 : Int))))), none⟩])
 (.seq
 (.reg false [
 ⟨(some 16), .load true 3 (.t 3), none⟩,
 ⟨(some 17), .mv (.t 5), none⟩,
 ⟨(some 18), .call .froz 15 [(.t 16), (.t 17)], none⟩,
 ⟨(some 5), .mv (.t 18), none⟩])
 (.seq
 (.seq
 (.reg false [
 ⟨(some 19), .mv (.t 5), none⟩,
 ⟨(some 20), .bin .lss (.t 19) (.k (.one (.v (.int .i64) ((0 : Int))))), none⟩])
 (.cond (.t 20)
 (.seq
 (.reg false [
 ⟨(some 4), .mv (.k (.one (.v (.bool) (true)))), none⟩])
 .ret)
 .skip))
 (.seq
 (.reg false [
 ⟨(some 22), .mv (.t 0), none⟩,
 ⟨(some 23), .load true 3 (.t 3), none⟩,
 ⟨(some 24), .call .froz 17 [(.t 23)], none⟩,
 ⟨(some 25), .call .froz 44 [(.t 22), (.t 24)], none⟩,
 ⟨(some 21), .mv (.t 25), none⟩,
 ⟨(some 26), .ext 0 (.t 21), none⟩,
 ⟨(some 27), .ext 1 (.t 21), none⟩,
 ⟨(some 6), .alloc [.v (.int .i64) ((0 : Int)), .v (.int .i64) ((0 : Int)), .nil [.int .i64]], none⟩,
 ⟨none, .store 3 (.t 6) (.t 26), none⟩,
 ⟨(some 7), .mv (.t 27), none⟩])
 (.seq
 (.reg false [
 ⟨(some 28), .load true 3 (.t 3), none⟩,
 ⟨(some 29), .call .froz 17 [(.t 28)], none⟩,
 ⟨(some 8), .alloc [.v (.int .i64) ((0 : Int)), .v (.int .i64) ((0 : Int)), .nil [.int .i64]], none⟩,
 ⟨none, .store 3 (.t 8) (.t 29), none⟩])
 (.seq
 (.reg false [
 ⟨(some 31), .mv (.t 0), none⟩,
 ⟨(some 32), .load true 3 (.t 8), none⟩,
 ⟨(some 33), .call .froz 42 [(.t 31), (.t 32)], none⟩,
 ⟨(some 30), .mv (.t 33), none⟩,
 ⟨(some 34), .ext 0 (.t 30), none⟩,
 ⟨(some 35), .ext 1 (.t 30), none⟩,
 ⟨(some 9), .alloc [.v (.int .i64) ((0 : Int)), .v (.int .i64) ((0 : Int)), .nil [.int .i64]], none⟩,
 ⟨none, .store 3 (.t 9) (.t 34), none⟩,
 ⟨(some 10), .mv (.t 35), none⟩])
 (.seq
 (.seq
 (.reg false [
 ⟨(some 36), .load true 3 (.t 9), none⟩,
 ⟨(some 37), .load true 3 (.t 6), none⟩,
 ⟨(some 38), .call .froz 19 [(.t 36), (.t 37)], none⟩,
 ⟨(some 39), .un .not (.t 38), none⟩,
 ⟨(some 40), .mv (.t 39), none⟩,
 ⟨(some 41), .mv (.t 10), (some (40, false))⟩,
 ⟨(some 42), .mv (.t 7), (some (40, false))⟩,
 ⟨(some 43), .binb .neq (.t 41) (.t 42), (some (40, false))⟩,
 ⟨(some 44), .pick (.t 40) (.k (.one (.v (.bool) (true)))) (.t 43), none⟩])
 (.cond (.t 44)
 (.seq
 (.reg false [
 ⟨(some 4), .mv (.k (.one (.v (.bool) (false)))), none⟩])
 .ret)
 .skip))
 (.seq
 (.seq
 (.reg true [
 ⟨(some 45), .load true 3 (.t 8), none⟩,
 ⟨(some 46), .load true 3 (.t 3), none⟩,
 ⟨(some 47), .call .froz 17 [(.t 46)], none⟩,
 ⟨(some 48), .call .froz 19 [(.t 45), (.t 47)], none⟩,
 ⟨(some 49), .un .not (.t 48), none⟩])
 (.cond (.t 49)
 (.seq
 (.reg false [
 ⟨(some 4), .mv (.k (.one (.v (.bool) (false)))), none⟩])
 .ret)
 .skip))
 (.seq
 (.reg false [
 ⟨(some 11), .mv (.k (.one (.v (.int .i64) ((1 : Int))))), none⟩])
 (.seq
 (.reg false [
 ⟨(some 50), .load true 3 (.t 8), none⟩,
 ⟨(some 51), .mv (.t 11), none⟩,
 ⟨(some 52), .callm .froz 20 [(.t 50), (.t 51)], none⟩,
 ⟨(some 11), .mv (.t 52), none⟩])
 (.seq
 (.seq
 (.reg false [
 ⟨(some 53), .mv (.t 11), none⟩,
 ⟨(some 54), .bin .lss (.t 53) (.k (.one (.v (.int .i64) ((0 : Int))))), none⟩,
 ⟨(some 55), .mv (.t 54), none⟩,
 ⟨(some 56), .load true 3 (.t 9), (some (55, false))⟩,
 ⟨(some 57), .load true 3 (.t 6), (some (55, false))⟩,
 ⟨(some 58), .call .froz 19 [(.t 56), (.t 57)], (some (55, false))⟩,
 ⟨(some 59), .un .not (.t 58), (some (55, false))⟩,
 ⟨(some 60), .pick (.t 55) (.k (.one (.v (.bool) (true)))) (.t 59), none⟩,
 ⟨(some 61), .mv (.t 60), none⟩,
 ⟨(some 62), .mv (.t 10), (some (61, false))⟩,
 ⟨(some 63), .mv (.t 7), (some (61, false))⟩,
 ⟨(some 64), .binb .neq (.t 62) (.t 63), (some (61, false))⟩,
 ⟨(some 65), .pick (.t 61) (.k (.one (.v (.bool) (true)))) (.t 64), none⟩])
 (.cond (.t 65)
 (.seq
 (.reg false [
 ⟨(some 4), .mv (.k (.one (.v (.bool) (false)))), none⟩])
 .ret)
 .skip))
 (.seq
 (.reg false [
 ⟨(some 12), .mv (.k (.one (.v (.int .i64) ((1 : Int))))), none⟩])
 (.seq
 (.reg false [
 ⟨(some 66), .load true 3 (.t 9), none⟩,
 ⟨(some 67), .mv (.t 12), none⟩,
 ⟨(some 68), .callm .froz 20 [(.t 66), (.t 67)], none⟩,
 ⟨(some 12), .mv (.t 68), none⟩])
 (.seq
 (.reg false [
 ⟨(some 13), .mv (.k (.one (.v (.int .i64) ((1 : Int))))), none⟩])
 (.seq
 (.reg false [
 ⟨(some 69), .load true 3 (.t 9), none⟩,
 ⟨(some 70), .mv (.t 13), none⟩,
 ⟨(some 71), .call .froz 21 [(.t 69), (.t 70)], none⟩,
 ⟨(some 13), .mv (.t 71), none⟩])
 (.seq
 (.seq
 (.reg false [
 ⟨(some 72), .mv (.t 13), none⟩,
 ⟨(some 73), .bin .lss (.t 72) (.k (.one (.v (.int .i64) ((0 : Int))))), none⟩])
 (.cond (.t 73)
 (.seq
 (.reg false [
 ⟨(some 4), .mv (.k (.one (.v (.bool) (false)))), none⟩])
 .ret)
 .skip))
 (.seq
 (.seq
 (.reg false [
 ⟨(some 74), .mv (.t 13), none⟩,
 ⟨(some 75), .mv (.t 12), none⟩,
 ⟨(some 76), .bin .neq (.t 74) (.t 75), none⟩])
 (.cond (.t 76)
 (.seq
 (.reg false [
 ⟨(some 4), .mv (.k (.one (.v (.bool) (false)))), none⟩])
 .ret)
 .skip))
 (.seq
 (.reg false [
 ⟨(some 78), .mv (.t 0), none⟩,
 ⟨(some 79), .load true 3 (.t 3), none⟩,
 ⟨(some 80), .call .froz 17 [(.t 79)], none⟩,
 ⟨(some 81), .call .froz 42 [(.t 78), (.t 80)], none⟩,
 ⟨(some 77), .mv (.t 81), none⟩,
 ⟨(some 82), .ext 0 (.t 77), none⟩,
 ⟨(some 83), .ext 1 (.t 77), none⟩,
 ⟨(some 14), .alloc [.v (.int .i64) ((0 : Int)), .v (.int .i64) ((0 : Int)), .nil [.int .i64]], none⟩,
 ⟨none, .store 3 (.t 14) (.t 82), none⟩,
 ⟨(some 15), .mv (.t 83), none⟩])
 (.seq
 (.seq
 (.reg false [
 ⟨(some 84), .load true 3 (.t 14), none⟩,
 ⟨(some 85), .load true 3 (.t 6), none⟩,
 ⟨(some 86), .call .froz 19 [(.t 84), (.t 85)], none⟩,
 ⟨(some 87), .un .not (.t 86), none⟩,
 ⟨(some 88), .mv (.t 87), none⟩,
 ⟨(some 89), .mv (.t 15), (some (88, false))⟩,
 ⟨(some 90), .mv (.t 7), (some (88, false))⟩,
 ⟨(some 91), .binb .neq (.t 89) (.t 90), (some (88, false))⟩,
 ⟨(some 92), .pick (.t 88) (.k (.one (.v (.bool) (true)))) (.t 91), none⟩])
 (.cond (.t 92)
 (.seq
 (.reg false [
 ⟨(some 4), .mv (.k (.one (.v (.bool) (false)))), none⟩])
 .ret)
 .skip))
 (.seq
 (.reg false [
 ⟨(some 13), .mv (.k (.one (.v (.int .i64) ((1 : Int))))), none⟩])
 (.seq
 (.reg false [
 ⟨(some 93), .load true 3 (.t 9), none⟩,
 ⟨(some 94), .mv (.t 13), none⟩,
 ⟨(some 95), .call .froz 21 [(.t 93), (.t 94)], none⟩,
 ⟨(some 13), .mv (.t 95), none⟩])
 (.seq
 (.seq
 (.reg false [
 ⟨(some 96), .mv (.t 13), none⟩,
 ⟨(some 97), .bin .lss (.t 96) (.k (.one (.v (.int .i64) ((0 : Int))))), none⟩])
 (.cond (.t 97)
 (.seq
 (.reg false [
 ⟨(some 4), .mv (.k (.one (.v (.bool) (false)))), none⟩])
 .ret)
 .skip))
 (.seq
 (.seq
 (.reg false [
 ⟨(some 98), .mv (.t 13), none⟩,
 ⟨(some 99), .mv (.t 12), none⟩,
 ⟨(some 100), .bin .neq (.t 98) (.t 99), none⟩])
 (.cond (.t 100)
 (.seq
 (.reg false [
 ⟨(some 4), .mv (.k (.one (.v (.bool) (false)))), none⟩])
 .ret)
 .skip))
 (.seq
 (.reg false [
 ⟨(some 4), .mv (.k (.one (.v (.bool) (true)))), none⟩])
 .ret)))))))))))))))))))))))))
def ms_laws_FnExactInverseMatrix : List MRes := [.tmp 4]
theorem n_laws_FnExactInverseMatrix (NN : Nat) (x : DLL (Sig.tys ag_laws_FnExactInverseMatrix)) : runS NN [fn_laws_szMatrix, fn_laws_toMatrix, fn_spec_InverseMatrix, fn_impl_InverseMatrix, fn_laws_eqMatrix, fn_laws_markMatrix, fn_laws_heldMatrix] sc_laws_FnExactInverseMatrix ms_laws_FnExactInverseMatrix ag_laws_FnExactInverseMatrix rs_laws_FnExactInverseMatrix x = G_laws_FnExactInverseMatrix NN x := by kernel_rfl
theorem k_laws_FnExactInverseMatrix : chkS Go.Proofs.Try.prog 13 sc_laws_FnExactInverseMatrix.er ms_laws_FnExactInverseMatrix 2 = true := by decide +kernel
theorem p_laws_FnExactInverseMatrix : PureSpec Go.Proofs.Try.prog 13 fn_laws_FnExactInverseMatrix.M ∧ chkFun Go.Proofs.Try.prog 13 = true :=
  pure_of_runS (T := [fn_laws_szMatrix, fn_laws_toMatrix, fn_spec_InverseMatrix, fn_impl_InverseMatrix, fn_laws_eqMatrix, fn_laws_markMatrix, fn_laws_heldMatrix]) (sc := sc_laws_FnExactInverseMatrix) (ms := ms_laws_FnExactInverseMatrix) (args := ag_laws_FnExactInverseMatrix) (res := rs_laws_FnExactInverseMatrix) (SOk.cons p_laws_szMatrix <| SOk.cons p_laws_toMatrix <| SOk.cons p_spec_InverseMatrix <| SOk.cons p_impl_InverseMatrix <| SOk.cons p_laws_eqMatrix <| SOk.consM p_laws_markMatrix <| SOk.cons p_laws_heldMatrix <| SOk.nil) follows_ok k_laws_FnExactInverseMatrix F_laws_FnExactInverseMatrix fun x y h => (n_laws_FnExactInverseMatrix FUEL x).trans (f_laws_FnExactInverseMatrix x y h)

end Go.Am
