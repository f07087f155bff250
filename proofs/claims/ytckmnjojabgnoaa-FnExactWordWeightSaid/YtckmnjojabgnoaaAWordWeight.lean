/- A_WordWeight: the code of the functions of FnExactWordWeight. No condition. -/
import Derived.Test.YtckmnjojabgnoaaLWordWeight
import Derived.Test.YtckmnjojabgnoaaBr2
import Derived.KernelRfl
import Derived.Test.YtckmnjojabgnoaaRows
set_option linter.unusedVariables false
set_option maxRecDepth 100000
namespace Go.Am
theorem follows_ok : Go.Proofs.Try.prog.follows .mixedOrders = true := by decide +kernel
def fn_laws_szIntS : SFn := ⟨50, ag_laws_szIntS, mu_laws_szIntS, rs_laws_szIntS, F_laws_szIntS⟩
def sc_laws_szIntS : SCode :=
 (.seq
 (.reg false [
 ⟨(some 4), .mv (.k (.one (.v (.int .i64) ((0 : Int))))), none⟩])
 (.seq
 (.reg false [
 ⟨(some 5), .mv (.t 1), none⟩,
 ⟨(some 6), .mv (.t 0), none⟩,
 ⟨(some 7), .len (.t 6), none⟩,
 ⟨(some 8), .bin .sub (.t 5) (.t 7), none⟩,
 ⟨(some 1), .mv (.t 8), none⟩])
 (.seq
 (.seq
 (.reg false [
 ⟨(some 9), .mv (.t 1), none⟩,
 ⟨(some 10), .bin .lss (.t 9) (.k (.one (.v (.int .i64) ((0 : Int))))), none⟩])
 (.cond (.t 10)
 (.seq
 (.reg false [
 ⟨(some 4), .mv (.k (.one (.v (.int .i64) (((-1) : Int))))), none⟩])
 .ret)
 .skip))
 (.seq
 (.reg false [
 ⟨(some 11), .mv (.t 1), none⟩,
 ⟨(some 4), .mv (.t 11), none⟩])
 .ret))))
def ms_laws_szIntS : List MRes := [.tmp 4]
theorem n_laws_szIntS (NN : Nat) (x : DLL (Sig.tys ag_laws_szIntS)) : runS NN [] sc_laws_szIntS ms_laws_szIntS ag_laws_szIntS rs_laws_szIntS x = G_laws_szIntS NN x := by kernel_rfl
theorem k_laws_szIntS : chkS Go.Proofs.Try.prog 50 sc_laws_szIntS.er ms_laws_szIntS 2 = true := by decide +kernel
theorem p_laws_szIntS : PureSpec Go.Proofs.Try.prog 50 fn_laws_szIntS.M ∧ chkFun Go.Proofs.Try.prog 50 = true :=
  pure_of_runS (T := []) (sc := sc_laws_szIntS) (ms := ms_laws_szIntS) (args := ag_laws_szIntS) (res := rs_laws_szIntS) (SOk.nil) follows_ok k_laws_szIntS F_laws_szIntS fun x y h => (n_laws_szIntS FUEL x).trans (f_laws_szIntS x y h)

def fn_laws_szMatrix : SFn := ⟨96, ag_laws_szMatrix, mu_laws_szMatrix, rs_laws_szMatrix, F_laws_szMatrix⟩
def sc_laws_szMatrix : SCode :=
 (.seq
 (.reg false [
 ⟨(some 2), .box 3 (.t 0), none⟩,
 ⟨(some 4), .mv (.k (.one (.v (.int .i64) ((0 : Int))))), none⟩])
 (.seq
 (.reg false [
 ⟨(some 5), .fieldA 2 (.t 2), none⟩,
 ⟨(some 6), .load false 1 (.t 5), none⟩,
 ⟨(some 7), .mv (.t 1), none⟩,
 ⟨(some 8), .call .froz 50 [(.t 6), (.t 7)], none⟩,
 ⟨(some 1), .mv (.t 8), none⟩])
 (.seq
 (.seq
 (.reg false [
 ⟨(some 9), .mv (.t 1), none⟩,
 ⟨(some 10), .bin .lss (.t 9) (.k (.one (.v (.int .i64) ((0 : Int))))), none⟩])
 (.cond (.t 10)
 (.seq
 (.reg false [
 ⟨(some 4), .mv (.k (.one (.v (.int .i64) (((-1) : Int))))), none⟩])
 .ret)
 .skip))
 (.seq
 (.reg false [
 ⟨(some 11), .mv (.t 1), none⟩,
 ⟨(some 4), .mv (.t 11), none⟩])
 .ret))))
def ms_laws_szMatrix : List MRes := [.tmp 4]
theorem n_laws_szMatrix (NN : Nat) (x : DLL (Sig.tys ag_laws_szMatrix)) : runS NN [fn_laws_szIntS] sc_laws_szMatrix ms_laws_szMatrix ag_laws_szMatrix rs_laws_szMatrix x = G_laws_szMatrix NN x := by kernel_rfl
theorem k_laws_szMatrix : chkS Go.Proofs.Try.prog 96 sc_laws_szMatrix.er ms_laws_szMatrix 2 = true := by decide +kernel
theorem p_laws_szMatrix : PureSpec Go.Proofs.Try.prog 96 fn_laws_szMatrix.M ∧ chkFun Go.Proofs.Try.prog 96 = true :=
  pure_of_runS (T := [fn_laws_szIntS]) (sc := sc_laws_szMatrix) (ms := ms_laws_szMatrix) (args := ag_laws_szMatrix) (res := rs_laws_szMatrix) (SOk.cons p_laws_szIntS <| SOk.nil) follows_ok k_laws_szMatrix F_laws_szMatrix fun x y h => (n_laws_szMatrix FUEL x).trans (f_laws_szMatrix x y h)

def fn_laws_szMatrixS : SFn := ⟨51, ag_laws_szMatrixS, mu_laws_szMatrixS, rs_laws_szMatrixS, F_laws_szMatrixS⟩
def sc_laws_szMatrixS : SCode :=
 (.seq
 (.reg false [
 ⟨(some 4), .mv (.k (.one (.v (.int .i64) ((0 : Int))))), none⟩])
 (.seq
 (.reg false [
 ⟨(some 6), .mv (.t 1), none⟩,
 ⟨(some 7), .mv (.t 0), none⟩,
 ⟨(some 8), .len (.t 7), none⟩,
 ⟨(some 9), .bin .sub (.t 6) (.t 8), none⟩,
 ⟨(some 1), .mv (.t 9), none⟩])
 (.seq
 (.seq
 (.reg false [
 ⟨(some 10), .mv (.t 1), none⟩,
 ⟨(some 11), .bin .lss (.t 10) (.k (.one (.v (.int .i64) ((0 : Int))))), none⟩])
 (.cond (.t 11)
 (.seq
 (.reg false [
 ⟨(some 4), .mv (.k (.one (.v (.int .i64) (((-1) : Int))))), none⟩])
 .ret)
 .skip))
 (.seq
 (.seq
 (.reg false [
 ⟨(some 5), .mv (.k (.one (.v (.int .i64) ((0 : Int))))), none⟩])
 (.join ⟨[(1, .one (.c (.v (.int .i64))))], []⟩ [24000, 24001, 24002, 24003, 24004, 24005] []
 (.block 0
 (.loop 0 ⟨[(0, .one (.c (.v (.list [.int .i64, .int .i64, .list [.int .i64]])))), (1, .one (.c (.v (.int .i64)))), (5, .one (.c (.v (.int .i64))))], []⟩ [24000, 24001, 24002, 24003, 24004, 24005] []
 (.seq
 (.seq
 (.reg false [
 ⟨(some 12), .mv (.t 5), none⟩,
 ⟨(some 13), .mv (.t 0), none⟩,
 ⟨(some 14), .len (.t 13), none⟩,
 ⟨(some 15), .bin .lss (.t 12) (.t 14), none⟩])
 (.cond (.t 15)
 .skip
 (.exit 0)))
 (.seq
 (.block 1
 (.seq
 (.reg false [
 ⟨(some 18), .mv (.t 0), none⟩,
 ⟨(some 19), .mv (.t 5), none⟩,
 ⟨(some 20), .idxA 3 (.t 18) (.t 19), none⟩,
 ⟨(some 21), .load true 3 (.t 20), none⟩,
 ⟨(some 22), .mv (.t 1), none⟩,
 ⟨(some 23), .call .froz 96 [(.t 21), (.t 22)], none⟩,
 ⟨(some 1), .mv (.t 23), none⟩])
 (.seq
 (.reg false [
 ⟨(some 24), .mv (.t 1), none⟩,
 ⟨(some 25), .bin .lss (.t 24) (.k (.one (.v (.int .i64) ((0 : Int))))), none⟩])
 (.cond (.t 25)
 (.seq
 (.reg false [
 ⟨(some 4), .mv (.k (.one (.v (.int .i64) (((-1) : Int))))), none⟩])
 .ret)
 .skip))))
 (.reg false [
 ⟨(some 16), .mv (.t 5), none⟩,
 ⟨(some 17), .bin .add (.t 16) (.k (.one (.v (.int .i64) ((1 : Int))))), none⟩,
 ⟨(some 5), .mv (.t 17), none⟩])))))))
 (.seq
 (.reg false [
 ⟨(some 26), .mv (.t 1), none⟩,
 ⟨(some 4), .mv (.t 26), none⟩])
 .ret)))))
def ms_laws_szMatrixS : List MRes := [.tmp 4]
theorem n_laws_szMatrixS (NN : Nat) (x : DLL (Sig.tys ag_laws_szMatrixS)) : runS NN [fn_laws_szMatrix] sc_laws_szMatrixS ms_laws_szMatrixS ag_laws_szMatrixS rs_laws_szMatrixS x = G_laws_szMatrixS NN x := by kernel_rfl
theorem k_laws_szMatrixS : chkS Go.Proofs.Try.prog 51 sc_laws_szMatrixS.er ms_laws_szMatrixS 2 = true := by decide +kernel
theorem p_laws_szMatrixS : PureSpec Go.Proofs.Try.prog 51 fn_laws_szMatrixS.M ∧ chkFun Go.Proofs.Try.prog 51 = true :=
  pure_of_runS (T := [fn_laws_szMatrix]) (sc := sc_laws_szMatrixS) (ms := ms_laws_szMatrixS) (args := ag_laws_szMatrixS) (res := rs_laws_szMatrixS) (SOk.cons p_laws_szMatrix <| SOk.nil) follows_ok k_laws_szMatrixS F_laws_szMatrixS fun x y h => (n_laws_szMatrixS FUEL x).trans (f_laws_szMatrixS x y h)

def fn_laws_szAutomaton : SFn := ⟨15, ag_laws_szAutomaton, mu_laws_szAutomaton, rs_laws_szAutomaton, F_laws_szAutomaton⟩
def sc_laws_szAutomaton : SCode :=
 (.seq
 (.reg false [
 ⟨(some 2), .box 5 (.t 0), none⟩,
 ⟨(some 4), .mv (.k (.one (.v (.int .i64) ((0 : Int))))), none⟩])
 (.seq
 (.reg false [
 ⟨(some 5), .fieldA 2 (.t 2), none⟩,
 ⟨(some 6), .load false 1 (.t 5), none⟩,
 ⟨(some 7), .mv (.t 1), none⟩,
 ⟨(some 8), .call .froz 50 [(.t 6), (.t 7)], none⟩,
 ⟨(some 1), .mv (.t 8), none⟩])
 (.seq
 (.seq
 (.reg false [
 ⟨(some 9), .mv (.t 1), none⟩,
 ⟨(some 10), .bin .lss (.t 9) (.k (.one (.v (.int .i64) ((0 : Int))))), none⟩])
 (.cond (.t 10)
 (.seq
 (.reg false [
 ⟨(some 4), .mv (.k (.one (.v (.int .i64) (((-1) : Int))))), none⟩])
 .ret)
 .skip))
 (.seq
 (.reg false [
 ⟨(some 11), .fieldA 3 (.t 2), none⟩,
 ⟨(some 12), .load false 1 (.t 11), none⟩,
 ⟨(some 13), .mv (.t 1), none⟩,
 ⟨(some 14), .call .froz 51 [(.t 12), (.t 13)], none⟩,
 ⟨(some 1), .mv (.t 14), none⟩])
 (.seq
 (.seq
 (.reg false [
 ⟨(some 15), .mv (.t 1), none⟩,
 ⟨(some 16), .bin .lss (.t 15) (.k (.one (.v (.int .i64) ((0 : Int))))), none⟩])
 (.cond (.t 16)
 (.seq
 (.reg false [
 ⟨(some 4), .mv (.k (.one (.v (.int .i64) (((-1) : Int))))), none⟩])
 .ret)
 .skip))
 (.seq
 (.reg false [
 ⟨(some 17), .fieldA 4 (.t 2), none⟩,
 ⟨(some 18), .load false 1 (.t 17), none⟩,
 ⟨(some 19), .mv (.t 1), none⟩,
 ⟨(some 20), .call .froz 50 [(.t 18), (.t 19)], none⟩,
 ⟨(some 1), .mv (.t 20), none⟩])
 (.seq
 (.seq
 (.reg false [
 ⟨(some 21), .mv (.t 1), none⟩,
 ⟨(some 22), .bin .lss (.t 21) (.k (.one (.v (.int .i64) ((0 : Int))))), none⟩])
 (.cond (.t 22)
 (.seq
 (.reg false [
 ⟨(some 4), .mv (.k (.one (.v (.int .i64) (((-1) : Int))))), none⟩])
 .ret)
 .skip))
 (.seq
 (.reg false [
 ⟨(some 23), .mv (.t 1), none⟩,
 ⟨(some 4), .mv (.t 23), none⟩])
 .ret))))))))
def ms_laws_szAutomaton : List MRes := [.tmp 4]
theorem n_laws_szAutomaton (NN : Nat) (x : DLL (Sig.tys ag_laws_szAutomaton)) : runS NN [fn_laws_szIntS, fn_laws_szMatrixS] sc_laws_szAutomaton ms_laws_szAutomaton ag_laws_szAutomaton rs_laws_szAutomaton x = G_laws_szAutomaton NN x := by kernel_rfl
theorem k_laws_szAutomaton : chkS Go.Proofs.Try.prog 15 sc_laws_szAutomaton.er ms_laws_szAutomaton 2 = true := by decide +kernel
theorem p_laws_szAutomaton : PureSpec Go.Proofs.Try.prog 15 fn_laws_szAutomaton.M ∧ chkFun Go.Proofs.Try.prog 15 = true :=
  pure_of_runS (T := [fn_laws_szIntS, fn_laws_szMatrixS]) (sc := sc_laws_szAutomaton) (ms := ms_laws_szAutomaton) (args := ag_laws_szAutomaton) (res := rs_laws_szAutomaton) (SOk.cons p_laws_szIntS <| SOk.cons p_laws_szMatrixS <| SOk.nil) follows_ok k_laws_szAutomaton F_laws_szAutomaton fun x y h => (n_laws_szAutomaton FUEL x).trans (f_laws_szAutomaton x y h)

def fn_laws_toIntS : SFn := ⟨26, ag_laws_toIntS, mu_laws_toIntS, rs_laws_toIntS, F_laws_toIntS⟩
def sc_laws_toIntS : SCode :=
 (.seq
 (.reg false [
 ⟨(some 2), .mv (.k (.one (.nil [.int .i64]))), none⟩])
 (.seq
 (.reg false [
 ⟨(some 5), .mv (.t 0), none⟩,
 ⟨(some 6), .len (.t 5), none⟩,
 ⟨(some 7), .mkslice .froz [.int .i64] 8 (0 : Int) (.t 6) (.t 6), none⟩,
 ⟨(some 3), .mv (.t 7), none⟩])
 (.seq
 (.seq
 (.reg false [
 ⟨(some 4), .mv (.k (.one (.v (.int .i64) ((0 : Int))))), none⟩])
 (.join ⟨[(3, .one (.c (.full 500001 1)))], [(500001, .row true .froz [.int .i64])]⟩ [7, 500000, 500001] [(false, 3, 0, 500001, .froz, [])]
 (.block 0
 (.loop 0 ⟨[(0, .one (.c (.v (.list [.int .i64])))), (3, .one (.c (.full 500000 1))), (4, .one (.c (.v (.int .i64))))], [(500000, .row true .froz [.int .i64])]⟩ [7, 500000, 500001] [(false, 3, 0, 500000, .froz, [])]
 (.seq
 (.seq
 (.reg false [
 ⟨(some 8), .mv (.t 4), none⟩,
 ⟨(some 9), .mv (.t 0), none⟩,
 ⟨(some 10), .len (.t 9), none⟩,
 ⟨(some 11), .bin .lss (.t 8) (.t 10), none⟩])
 (.cond (.t 11)
 .skip
 (.exit 0)))
 (.seq
 (.block 1
 (.reg false [
 ⟨(some 14), .mv (.t 3), none⟩,
 ⟨(some 15), .mv (.t 4), none⟩,
 ⟨(some 16), .mv (.t 0), none⟩,
 ⟨(some 17), .mv (.t 4), none⟩,
 ⟨(some 18), .idxA 1 (.t 16) (.t 17), none⟩,
 ⟨(some 19), .load false 1 (.t 18), none⟩,
 ⟨(some 20), .idxA 1 (.t 14) (.t 15), none⟩,
 ⟨none, .store 1 (.t 20) (.t 19), none⟩]))
 (.reg false [
 ⟨(some 12), .mv (.t 4), none⟩,
 ⟨(some 13), .bin .add (.t 12) (.k (.one (.v (.int .i64) ((1 : Int))))), none⟩,
 ⟨(some 4), .mv (.t 13), none⟩])))))))
 (.seq
 (.reg false [
 ⟨(some 21), .mv (.t 3), none⟩,
 ⟨(some 2), .mv (.t 21), none⟩])
 .ret))))
def ms_laws_toIntS : List MRes := [.tmp 2]
theorem n_laws_toIntS (NN : Nat) (x : DLL (Sig.tys ag_laws_toIntS)) : runS NN [] sc_laws_toIntS ms_laws_toIntS ag_laws_toIntS rs_laws_toIntS x = G_laws_toIntS NN x := by kernel_rfl
theorem k_laws_toIntS : chkS Go.Proofs.Try.prog 26 sc_laws_toIntS.er ms_laws_toIntS 1 = true := by decide +kernel
theorem p_laws_toIntS : PureSpec Go.Proofs.Try.prog 26 fn_laws_toIntS.M ∧ chkFun Go.Proofs.Try.prog 26 = true :=
  pure_of_runS (T := []) (sc := sc_laws_toIntS) (ms := ms_laws_toIntS) (args := ag_laws_toIntS) (res := rs_laws_toIntS) (SOk.nil) follows_ok k_laws_toIntS F_laws_toIntS fun x y h => (n_laws_toIntS FUEL x).trans (f_laws_toIntS x y h)

def fn_laws_toMatrix : SFn := ⟨97, ag_laws_toMatrix, mu_laws_toMatrix, rs_laws_toMatrix, F_laws_toMatrix⟩
def sc_laws_toMatrix : SCode :=
 (.seq
 (.reg false [
 ⟨(some 1), .box 3 (.t 0), none⟩,
 ⟨(some 2), .alloc [.v (.int .i64) ((0 : Int)), .v (.int .i64) ((0 : Int)), .nil [.int .i64]], none⟩])
 (.seq
 (.reg false [
 ⟨(some 3), .alloc [.v (.int .i64) ((0 : Int)), .v (.int .i64) ((0 : Int)), .nil [.int .i64]], none⟩])
 (.seq
 (.reg false [
 ⟨(some 4), .fieldA 0 (.t 1), none⟩,
 ⟨(some 5), .load false 1 (.t 4), none⟩,
 ⟨(some 6), .fieldA 0 (.t 3), none⟩,
 ⟨none, .store 1 (.t 6) (.t 5), none⟩])
 (.seq
 (.reg false [
 ⟨(some 7), .fieldA 1 (.t 1), none⟩,
 ⟨(some 8), .load false 1 (.t 7), none⟩,
 ⟨(some 9), .fieldA 1 (.t 3), none⟩,
 ⟨none, .store 1 (.t 9) (.t 8), none⟩])
 (.seq
 (.reg false [
 ⟨(some 10), .fieldA 2 (.t 1), none⟩,
 ⟨(some 11), .load false 1 (.t 10), none⟩,
 ⟨(some 12), .call .froz 26 [(.t 11)], none⟩,
 ⟨(some 13), .fieldA 2 (.t 3), none⟩,
 ⟨none, .store 1 (.t 13) (.t 12), none⟩])
 (.seq
 (.reg false [
 ⟨(some 14), .load true 3 (.t 3), none⟩,
 ⟨none, .store 3 (.t 2) (.t 14), none⟩])
 .ret))))))
def ms_laws_toMatrix : List MRes := [.cell 2 3 true]
theorem n_laws_toMatrix (NN : Nat) (x : DLL (Sig.tys ag_laws_toMatrix)) : runS NN [fn_laws_toIntS] sc_laws_toMatrix ms_laws_toMatrix ag_laws_toMatrix rs_laws_toMatrix x = G_laws_toMatrix NN x := by kernel_rfl
theorem k_laws_toMatrix : chkS Go.Proofs.Try.prog 97 sc_laws_toMatrix.er ms_laws_toMatrix 1 = true := by decide +kernel
theorem p_laws_toMatrix : PureSpec Go.Proofs.Try.prog 97 fn_laws_toMatrix.M ∧ chkFun Go.Proofs.Try.prog 97 = true :=
  pure_of_runS (T := [fn_laws_toIntS]) (sc := sc_laws_toMatrix) (ms := ms_laws_toMatrix) (args := ag_laws_toMatrix) (res := rs_laws_toMatrix) (SOk.cons p_laws_toIntS <| SOk.nil) follows_ok k_laws_toMatrix F_laws_toMatrix fun x y h => (n_laws_toMatrix FUEL x).trans (f_laws_toMatrix x y h)

def fn_laws_toMatrixS : SFn := ⟨56, ag_laws_toMatrixS, mu_laws_toMatrixS, rs_laws_toMatrixS, F_laws_toMatrixS⟩
def sc_laws_toMatrixS : SCode :=
 (.seq
 (.reg false [
 ⟨(some 2), .mv (.k (.one (.nil [.int .i64, .int .i64, .list [.int .i64]]))), none⟩])
 (.seq
 (.reg false [
 ⟨(some 5), .mv (.t 0), none⟩,
 ⟨(some 6), .len (.t 5), none⟩,
 ⟨(some 7), .mkslice .froz [.int .i64, .int .i64, .list [.int .i64]] 40 ((0 : Int), ((0 : Int), [])) (.t 6) (.t 6), none⟩,
 ⟨(some 3), .mv (.t 7), none⟩])
 (.seq
 (.seq
 (.reg false [
 ⟨(some 4), .mv (.k (.one (.v (.int .i64) ((0 : Int))))), none⟩])
 (.join ⟨[(3, .one (.c (.full 500001 3)))], [(500001, .row true .froz [.int .i64, .int .i64, .list [.int .i64]])]⟩ [7, 21000, 21001, 21002, 21003, 21004, 21005, 500000, 500001] [(false, 3, 0, 500001, .froz, [])]
 (.block 0
 (.loop 0 ⟨[(0, .one (.c (.v (.list [.int .i64, .int .i64, .list [.int .i64]])))), (3, .one (.c (.full 500000 3))), (4, .one (.c (.v (.int .i64))))], [(500000, .row true .froz [.int .i64, .int .i64, .list [.int .i64]])]⟩ [7, 21000, 21001, 21002, 21003, 21004, 21005, 500000, 500001] [(false, 3, 0, 500000, .froz, [])]
 (.seq
 (.seq
 (.reg false [
 ⟨(some 8), .mv (.t 4), none⟩,
 ⟨(some 9), .mv (.t 0), none⟩,
 ⟨(some 10), .len (.t 9), none⟩,
 ⟨(some 11), .bin .lss (.t 8) (.t 10), none⟩])
 (.cond (.t 11)
 .skip
 (.exit 0)))
 (.seq
 (.block 1
 (.reg false [
 ⟨(some 14), .mv (.t 3), none⟩,
 ⟨(some 15), .mv (.t 4), none⟩,
 ⟨(some 16), .mv (.t 0), none⟩,
 ⟨(some 17), .mv (.t 4), none⟩,
 ⟨(some 18), .idxA 3 (.t 16) (.t 17), none⟩,
 ⟨(some 19), .load true 3 (.t 18), none⟩,
 ⟨(some 20), .call .froz 97 [(.t 19)], none⟩,
 ⟨(some 21), .idxA 3 (.t 14) (.t 15), none⟩,
 ⟨none, .store 3 (.t 21) (.t 20), none⟩]))
 (.reg false [
 ⟨(some 12), .mv (.t 4), none⟩,
 ⟨(some 13), .bin .add (.t 12) (.k (.one (.v (.int .i64) ((1 : Int))))), none⟩,
 ⟨(some 4), .mv (.t 13), none⟩])))))))
 (.seq
 (.reg false [
 ⟨(some 22), .mv (.t 3), none⟩,
 ⟨(some 2), .mv (.t 22), none⟩])
 .ret))))
def ms_laws_toMatrixS : List MRes := [.tmp 2]
theorem n_laws_toMatrixS (NN : Nat) (x : DLL (Sig.tys ag_laws_toMatrixS)) : runS NN [fn_laws_toMatrix] sc_laws_toMatrixS ms_laws_toMatrixS ag_laws_toMatrixS rs_laws_toMatrixS x = G_laws_toMatrixS NN x := by kernel_rfl
theorem k_laws_toMatrixS : chkS Go.Proofs.Try.prog 56 sc_laws_toMatrixS.er ms_laws_toMatrixS 1 = true := by decide +kernel
theorem p_laws_toMatrixS : PureSpec Go.Proofs.Try.prog 56 fn_laws_toMatrixS.M ∧ chkFun Go.Proofs.Try.prog 56 = true :=
  pure_of_runS (T := [fn_laws_toMatrix]) (sc := sc_laws_toMatrixS) (ms := ms_laws_toMatrixS) (args := ag_laws_toMatrixS) (res := rs_laws_toMatrixS) (SOk.cons p_laws_toMatrix <| SOk.nil) follows_ok k_laws_toMatrixS F_laws_toMatrixS fun x y h => (n_laws_toMatrixS FUEL x).trans (f_laws_toMatrixS x y h)

def fn_laws_toAutomaton : SFn := ⟨17, ag_laws_toAutomaton, mu_laws_toAutomaton, rs_laws_toAutomaton, F_laws_toAutomaton⟩
def sc_laws_toAutomaton : SCode :=
 (.seq
 (.reg false [
 ⟨(some 1), .box 5 (.t 0), none⟩,
 ⟨(some 2), .alloc [.v (.int .i64) ((0 : Int)), .v (.int .i64) ((0 : Int)), .nil [.int .i64], .nil [.int .i64, .int .i64, .list [.int .i64]], .nil [.int .i64]], none⟩])
 (.seq
 (.reg false [
 ⟨(some 3), .alloc [.v (.int .i64) ((0 : Int)), .v (.int .i64) ((0 : Int)), .nil [.int .i64], .nil [.int .i64, .int .i64, .list [.int .i64]], .nil [.int .i64]], none⟩])
 (.seq
 (.reg false [
 ⟨(some 4), .fieldA 0 (.t 1), none⟩,
 ⟨(some 5), .load false 1 (.t 4), none⟩,
 ⟨(some 6), .fieldA 0 (.t 3), none⟩,
 ⟨none, .store 1 (.t 6) (.t 5), none⟩])
 (.seq
 (.reg false [
 ⟨(some 7), .fieldA 1 (.t 1), none⟩,
 ⟨(some 8), .load false 1 (.t 7), none⟩,
 ⟨(some 9), .fieldA 1 (.t 3), none⟩,
 ⟨none, .store 1 (.t 9) (.t 8), none⟩])
 (.seq
 (.reg false [
 ⟨(some 10), .fieldA 2 (.t 1), none⟩,
 ⟨(some 11), .load false 1 (.t 10), none⟩,
 ⟨(some 12), .call .froz 26 [(.t 11)], none⟩,
 ⟨(some 13), .fieldA 2 (.t 3), none⟩,
 ⟨none, .store 1 (.t 13) (.t 12), none⟩])
 (.seq
 (.reg false [
 ⟨(some 14), .fieldA 3 (.t 1), none⟩,
 ⟨(some 15), .load false 1 (.t 14), none⟩,
 ⟨(some 16), .call .froz 56 [(.t 15)], none⟩,
 ⟨(some 17), .fieldA 3 (.t 3), none⟩,
 ⟨none, .store 1 (.t 17) (.t 16), none⟩])
 (.seq
 (.reg false [
 ⟨(some 18), .fieldA 4 (.t 1), none⟩,
 ⟨(some 19), .load false 1 (.t 18), none⟩,
 ⟨(some 20), .call .froz 26 [(.t 19)], none⟩,
 ⟨(some 21), .fieldA 4 (.t 3), none⟩,
 ⟨none, .store 1 (.t 21) (.t 20), none⟩])
 (.seq
 (.reg false [
 ⟨(some 22), .load true 5 (.t 3), none⟩,
 ⟨none, .store 5 (.t 2) (.t 22), none⟩])
 .ret))))))))
def ms_laws_toAutomaton : List MRes := [.cell 2 5 true]
theorem n_laws_toAutomaton (NN : Nat) (x : DLL (Sig.tys ag_laws_toAutomaton)) : runS NN [fn_laws_toIntS, fn_laws_toMatrixS] sc_laws_toAutomaton ms_laws_toAutomaton ag_laws_toAutomaton rs_laws_toAutomaton x = G_laws_toAutomaton NN x := by kernel_rfl
theorem k_laws_toAutomaton : chkS Go.Proofs.Try.prog 17 sc_laws_toAutomaton.er ms_laws_toAutomaton 1 = true := by decide +kernel
theorem p_laws_toAutomaton : PureSpec Go.Proofs.Try.prog 17 fn_laws_toAutomaton.M ∧ chkFun Go.Proofs.Try.prog 17 = true :=
  pure_of_runS (T := [fn_laws_toIntS, fn_laws_toMatrixS]) (sc := sc_laws_toAutomaton) (ms := ms_laws_toAutomaton) (args := ag_laws_toAutomaton) (res := rs_laws_toAutomaton) (SOk.cons p_laws_toIntS <| SOk.cons p_laws_toMatrixS <| SOk.nil) follows_ok k_laws_toAutomaton F_laws_toAutomaton fun x y h => (n_laws_toAutomaton FUEL x).trans (f_laws_toAutomaton x y h)

def fn_spec_l01In : SFn := ⟨53, ag_spec_l01In, mu_spec_l01In, rs_spec_l01In, F_spec_l01In⟩
def sc_spec_l01In : SCode :=
 (.seq
 (.reg false [
 ⟨(some 6), .mv (.k (.one (.v (.bool) (false)))), none⟩])
 (.seq
 (.reg false [
 ⟨(some 7), .mv (.t 0), none⟩,
 ⟨(some 8), .mv (.t 1), none⟩,
 ⟨(some 9), .bin .geq (.t 7) (.t 8), none⟩,
 ⟨(some 10), .mv (.t 9), none⟩,
 ⟨(some 11), .mv (.t 0), (some (10, true))⟩,
 ⟨(some 12), .mv (.t 2), (some (10, true))⟩,
 ⟨(some 13), .bin .leq (.t 11) (.t 12), (some (10, true))⟩,
 ⟨(some 14), .pick (.t 10) (.t 13) (.k (.one (.v (.bool) (false)))), none⟩,
 ⟨(some 6), .mv (.t 14), none⟩])
 .ret))
def ms_spec_l01In : List MRes := [.tmp 6]
theorem n_spec_l01In (NN : Nat) (x : DLL (Sig.tys ag_spec_l01In)) : runS NN [] sc_spec_l01In ms_spec_l01In ag_spec_l01In rs_spec_l01In x = G_spec_l01In NN x := by kernel_rfl
theorem k_spec_l01In : chkS Go.Proofs.Try.prog 53 sc_spec_l01In.er ms_spec_l01In 3 = true := by decide +kernel
theorem p_spec_l01In : PureSpec Go.Proofs.Try.prog 53 fn_spec_l01In.M ∧ chkFun Go.Proofs.Try.prog 53 = true :=
  pure_of_runS (T := []) (sc := sc_spec_l01In) (ms := ms_spec_l01In) (args := ag_spec_l01In) (res := rs_spec_l01In) (SOk.nil) follows_ok k_spec_l01In F_spec_l01In fun x y h => (n_spec_l01In FUEL x).trans (f_spec_l01In x y h)

def fn_spec_IsPrime : SFn := ⟨52, ag_spec_IsPrime, mu_spec_IsPrime, rs_spec_IsPrime, F_spec_IsPrime⟩
def sc_spec_IsPrime : SCode :=
 (.seq
 (.reg false [
 ⟨(some 2), .mv (.k (.one (.v (.bool) (false)))), none⟩])
 (.seq
 (.seq
 (.reg false [
 ⟨(some 3), .mv (.k (.one (.v (.int .i64) ((2 : Int))))), none⟩])
 (.join ⟨[(0, .one (.c (.v (.int .i64))))], []⟩ [21000, 21001, 21002, 21003, 21004, 21005] []
 (.block 0
 (.loop 0 ⟨[(0, .one (.c (.v (.int .i64)))), (3, .one (.c (.v (.int .i64))))], []⟩ [21000, 21001, 21002, 21003, 21004, 21005] []
 (.seq
 (.seq
 (.reg false [
 ⟨(some 4), .mv (.t 3), none⟩,
 ⟨(some 5), .mv (.t 3), none⟩,
 ⟨(some 6), .bin .mul (.t 4) (.t 5), none⟩,
 ⟨(some 7), .mv (.t 0), none⟩,
 ⟨(some 8), .bin .leq (.t 6) (.t 7), none⟩,
 ⟨(some 9), .mv (.t 8), none⟩,
 ⟨(some 10), .mv (.t 0), (some (9, true))⟩,
 ⟨(some 11), .bin .leq (.t 10) (.k (.one (.v (.int .i64) ((1000003 : Int))))), (some (9, true))⟩,
 ⟨(some 12), .pick (.t 9) (.t 11) (.k (.one (.v (.bool) (false)))), none⟩])
 (.cond (.t 12)
 .skip
 (.exit 0)))
 (.seq
 (.block 1
 (.seq
 (.reg false [
 ⟨(some 15), .mv (.t 0), none⟩,
 ⟨(some 16), .mv (.t 3), none⟩,
 ⟨(some 17), .bin .rem (.t 15) (.t 16), none⟩,
 ⟨(some 18), .bin .eql (.t 17) (.k (.one (.v (.int .i64) ((0 : Int))))), none⟩])
 (.cond (.t 18)
 (.seq
 (.reg false [
 ⟨(some 2), .mv (.k (.one (.v (.bool) (false)))), none⟩])
 .ret)
 .skip)))
 (.reg false [
 ⟨(some 13), .mv (.t 3), none⟩,
 ⟨(some 14), .bin .add (.t 13) (.k (.one (.v (.int .i64) ((1 : Int))))), none⟩,
 ⟨(some 3), .mv (.t 14), none⟩])))))))
 (.seq
 (.reg false [
 ⟨(some 19), .mv (.t 0), none⟩,
 ⟨(some 20), .call .froz 53 [(.t 19), (.k (.one (.v (.int .i64) ((2 : Int))))), (.k (.one (.v (.int .i64) ((1000003 : Int)))))], none⟩,
 ⟨(some 2), .mv (.t 20), none⟩])
 .ret)))
def ms_spec_IsPrime : List MRes := [.tmp 2]
theorem n_spec_IsPrime (NN : Nat) (x : DLL (Sig.tys ag_spec_IsPrime)) : runS NN [fn_spec_l01In] sc_spec_IsPrime ms_spec_IsPrime ag_spec_IsPrime rs_spec_IsPrime x = G_spec_IsPrime NN x := by kernel_rfl
theorem k_spec_IsPrime : chkS Go.Proofs.Try.prog 52 sc_spec_IsPrime.er ms_spec_IsPrime 1 = true := by decide +kernel
theorem p_spec_IsPrime : PureSpec Go.Proofs.Try.prog 52 fn_spec_IsPrime.M ∧ chkFun Go.Proofs.Try.prog 52 = true :=
  pure_of_runS (T := [fn_spec_l01In]) (sc := sc_spec_IsPrime) (ms := ms_spec_IsPrime) (args := ag_spec_IsPrime) (res := rs_spec_IsPrime) (SOk.cons p_spec_l01In <| SOk.nil) follows_ok k_spec_IsPrime F_spec_IsPrime fun x y h => (n_spec_IsPrime FUEL x).trans (f_spec_IsPrime x y h)

def fn_spec_l34Row : SFn := ⟨54, ag_spec_l34Row, mu_spec_l34Row, rs_spec_l34Row, F_spec_l34Row⟩
def sc_spec_l34Row : SCode :=
 (.seq
 (.reg false [
 ⟨(some 6), .mv (.k (.one (.v (.bool) (false)))), none⟩])
 (.seq
 (.seq
 (.reg false [
 ⟨(some 9), .mv (.t 1), none⟩,
 ⟨(some 10), .len (.t 9), none⟩,
 ⟨(some 11), .mv (.k (.one (.v (.int .i64) ((0 : Int))))), none⟩])
 (.join ⟨[(1, .one (.c (.v (.list [.int .i64])))), (2, .one (.c (.v (.int .i64))))], []⟩ [19000, 19001, 19002, 19003, 19004, 19005] []
 (.block 0
 (.loop 0 ⟨[(0, .one (.c (.v (.int .i64)))), (1, .one (.c (.v (.list [.int .i64])))), (2, .one (.c (.v (.int .i64)))), (9, .one (.c (.v (.list [.int .i64])))), (10, .one (.c (.v (.int .i64)))), (11, .one (.c (.v (.int .i64))))], []⟩ [19000, 19001, 19002, 19003, 19004, 19005] []
 (.seq
 (.reg false [
 ⟨(some 12), .bin .lss (.t 11) (.t 10), none⟩])
 (.seq
 (.cond (.t 12)
 .skip
 (.exit 0))
 (.seq
 (.block 1
 (.seq
 (.reg false [
 ⟨(some 13), .idxA 1 (.t 9) (.t 11), none⟩,
 ⟨(some 14), .load false 1 (.t 13), none⟩,
 ⟨(some 8), .mv (.t 14), none⟩])
 (.seq
 (.reg false [
 ⟨(some 15), .mv (.t 8), none⟩,
 ⟨(some 16), .mv (.t 0), none⟩,
 ⟨(some 17), .bin .sub (.t 16) (.k (.one (.v (.int .i64) ((1 : Int))))), none⟩,
 ⟨(some 18), .call .froz 53 [(.t 15), (.k (.one (.v (.int .i64) ((0 : Int))))), (.t 17)], none⟩,
 ⟨(some 19), .un .not (.t 18), none⟩])
 (.cond (.t 19)
 (.seq
 (.reg false [
 ⟨(some 6), .mv (.k (.one (.v (.bool) (false)))), none⟩])
 .ret)
 .skip))))
 (.reg false [
 ⟨(some 20), .bin .add (.t 11) (.k (.one (.v (.int .i64) ((1 : Int))))), none⟩,
 ⟨(some 11), .mv (.t 20), none⟩]))))))))
 (.seq
 (.reg false [
 ⟨(some 21), .mv (.t 1), none⟩,
 ⟨(some 22), .len (.t 21), none⟩,
 ⟨(some 23), .mv (.t 2), none⟩,
 ⟨(some 24), .bin .eql (.t 22) (.t 23), none⟩,
 ⟨(some 6), .mv (.t 24), none⟩])
 .ret)))
def ms_spec_l34Row : List MRes := [.tmp 6]
theorem n_spec_l34Row (NN : Nat) (x : DLL (Sig.tys ag_spec_l34Row)) : runS NN [fn_spec_l01In] sc_spec_l34Row ms_spec_l34Row ag_spec_l34Row rs_spec_l34Row x = G_spec_l34Row NN x := by kernel_rfl
theorem k_spec_l34Row : chkS Go.Proofs.Try.prog 54 sc_spec_l34Row.er ms_spec_l34Row 3 = true := by decide +kernel
theorem p_spec_l34Row : PureSpec Go.Proofs.Try.prog 54 fn_spec_l34Row.M ∧ chkFun Go.Proofs.Try.prog 54 = true :=
  pure_of_runS (T := [fn_spec_l01In]) (sc := sc_spec_l34Row) (ms := ms_spec_l34Row) (args := ag_spec_l34Row) (res := rs_spec_l34Row) (SOk.cons p_spec_l01In <| SOk.nil) follows_ok k_spec_l34Row F_spec_l34Row fun x y h => (n_spec_l34Row FUEL x).trans (f_spec_l34Row x y h)

def fn_spec_MatrixOk : SFn := ⟨55, ag_spec_MatrixOk, mu_spec_MatrixOk, rs_spec_MatrixOk, F_spec_MatrixOk⟩
def sc_spec_MatrixOk : SCode :=
 (.seq
 (.reg false [
 ⟨(some 3), .box 3 (.t 1), none⟩,
 ⟨(some 4), .mv (.k (.one (.v (.bool) (false)))), none⟩])
 (.seq
 (.seq
 (.reg false [
 ⟨(some 7), .mv (.t 0), none⟩,
 ⟨(some 8), .call .froz 52 [(.t 7)], none⟩,
 ⟨(some 9), .un .not (.t 8), none⟩,
 ⟨(some 10), .mv (.t 9), none⟩,
 ⟨(some 11), .fieldA 0 (.t 3), (some (10, false))⟩,
 ⟨(some 12), .load false 1 (.t 11), (some (10, false))⟩,
 ⟨(some 13), .call .froz 53 [(.t 12), (.k (.one (.v (.int .i64) ((0 : Int))))), (.k (.one (.v (.int .i64) ((64 : Int)))))], (some (10, false))⟩,
 ⟨(some 14), .un .not (.t 13), (some (10, false))⟩,
 ⟨(some 15), .pick (.t 10) (.k (.one (.v (.bool) (true)))) (.t 14), none⟩,
 ⟨(some 16), .mv (.t 15), none⟩,
 ⟨(some 17), .fieldA 1 (.t 3), (some (16, false))⟩,
 ⟨(some 18), .load false 1 (.t 17), (some (16, false))⟩,
 ⟨(some 19), .call .froz 53 [(.t 18), (.k (.one (.v (.int .i64) ((0 : Int))))), (.k (.one (.v (.int .i64) ((64 : Int)))))], (some (16, false))⟩,
 ⟨(some 20), .un .not (.t 19), (some (16, false))⟩,
 ⟨(some 21), .pick (.t 16) (.k (.one (.v (.bool) (true)))) (.t 20), none⟩,
 ⟨(some 22), .mv (.t 21), none⟩,
 ⟨(some 23), .fieldA 2 (.t 3), (some (22, false))⟩,
 ⟨(some 24), .load false 1 (.t 23), (some (22, false))⟩,
 ⟨(some 25), .len (.t 24), (some (22, false))⟩,
 ⟨(some 26), .fieldA 0 (.t 3), (some (22, false))⟩,
 ⟨(some 27), .load false 1 (.t 26), (some (22, false))⟩,
 ⟨(some 28), .fieldA 1 (.t 3), (some (22, false))⟩,
 ⟨(some 29), .load false 1 (.t 28), (some (22, false))⟩,
 ⟨(some 30), .bin .mul (.t 27) (.t 29), (some (22, false))⟩,
 ⟨(some 31), .bin .neq (.t 25) (.t 30), (some (22, false))⟩,
 ⟨(some 32), .pick (.t 22) (.k (.one (.v (.bool) (true)))) (.t 31), none⟩])
 (.cond (.t 32)
 (.seq
 (.reg false [
 ⟨(some 4), .mv (.k (.one (.v (.bool) (false)))), none⟩])
 .ret)
 .skip))
 (.seq
 (.seq
 (.reg false [
 ⟨(some 33), .fieldA 2 (.t 3), none⟩,
 ⟨(some 34), .load false 1 (.t 33), none⟩,
 ⟨(some 35), .len (.t 34), none⟩,
 ⟨(some 36), .mv (.k (.one (.v (.int .i64) ((0 : Int))))), none⟩])
 (.join ⟨[], []⟩ [3, 9000, 9001, 9002, 9003, 9004, 9005, 14000, 14001, 14002, 14003, 14004, 14005, 20000, 20001, 20002, 20003, 20004, 20005, 44000, 44001, 44002, 44003, 44004, 44005] []
 (.block 0
 (.loop 0 ⟨[(0, .one (.c (.v (.int .i64)))), (34, .one (.c (.v (.list [.int .i64])))), (35, .one (.c (.v (.int .i64)))), (36, .one (.c (.v (.int .i64))))], []⟩ [3, 9000, 9001, 9002, 9003, 9004, 9005, 14000, 14001, 14002, 14003, 14004, 14005, 20000, 20001, 20002, 20003, 20004, 20005, 44000, 44001, 44002, 44003, 44004, 44005] []
 (.seq
 (.reg false [
 ⟨(some 37), .bin .lss (.t 36) (.t 35), none⟩])
 (.seq
 (.cond (.t 37)
 .skip
 (.exit 0))
 (.seq
 (.block 1
 (.seq
 (.reg false [
 ⟨(some 38), .idxA 1 (.t 34) (.t 36), none⟩,
 ⟨(some 39), .load false 1 (.t 38), none⟩,
 ⟨(some 6), .mv (.t 39), none⟩])
 (.seq
 (.reg false [
 ⟨(some 40), .mv (.t 6), none⟩,
 ⟨(some 41), .mv (.t 0), none⟩,
 ⟨(some 42), .bin .sub (.t 41) (.k (.one (.v (.int .i64) ((1 : Int))))), none⟩,
 ⟨(some 43), .call .froz 53 [(.t 40), (.k (.one (.v (.int .i64) ((0 : Int))))), (.t 42)], none⟩,
 ⟨(some 44), .un .not (.t 43), none⟩])
 (.cond (.t 44)
 (.seq
 (.reg false [
 ⟨(some 4), .mv (.k (.one (.v (.bool) (false)))), none⟩])
 .ret)
 .skip))))
 (.reg false [
 ⟨(some 45), .bin .add (.t 36) (.k (.one (.v (.int .i64) ((1 : Int))))), none⟩,
 ⟨(some 36), .mv (.t 45), none⟩]))))))))
 (.seq
 (.reg false [
 ⟨(some 4), .mv (.k (.one (.v (.bool) (true)))), none⟩])
 .ret))))
def ms_spec_MatrixOk : List MRes := [.tmp 4]
theorem n_spec_MatrixOk (NN : Nat) (x : DLL (Sig.tys ag_spec_MatrixOk)) : runS NN [fn_spec_IsPrime, fn_spec_l01In] sc_spec_MatrixOk ms_spec_MatrixOk ag_spec_MatrixOk rs_spec_MatrixOk x = G_spec_MatrixOk NN x := by kernel_rfl
theorem k_spec_MatrixOk : chkS Go.Proofs.Try.prog 55 sc_spec_MatrixOk.er ms_spec_MatrixOk 2 = true := by decide +kernel
theorem p_spec_MatrixOk : PureSpec Go.Proofs.Try.prog 55 fn_spec_MatrixOk.M ∧ chkFun Go.Proofs.Try.prog 55 = true :=
  pure_of_runS (T := [fn_spec_IsPrime, fn_spec_l01In]) (sc := sc_spec_MatrixOk) (ms := ms_spec_MatrixOk) (args := ag_spec_MatrixOk) (res := rs_spec_MatrixOk) (SOk.cons p_spec_IsPrime <| SOk.cons p_spec_l01In <| SOk.nil) follows_ok k_spec_MatrixOk F_spec_MatrixOk fun x y h => (n_spec_MatrixOk FUEL x).trans (f_spec_MatrixOk x y h)

def fn_spec_AutomatonOk : SFn := ⟨16, ag_spec_AutomatonOk, mu_spec_AutomatonOk, rs_spec_AutomatonOk, F_spec_AutomatonOk⟩
def sc_spec_AutomatonOk : SCode :=
 (.seq
 (.reg false [
 ⟨(some 1), .box 5 (.t 0), none⟩,
 ⟨(some 2), .mv (.k (.one (.v (.bool) (false)))), none⟩])
 (.seq
 (.seq
 (.reg false [
 ⟨(some 5), .fieldA 0 (.t 1), none⟩,
 ⟨(some 6), .load false 1 (.t 5), none⟩,
 ⟨(some 7), .call .froz 52 [(.t 6)], none⟩,
 ⟨(some 8), .un .not (.t 7), none⟩,
 ⟨(some 9), .mv (.t 8), none⟩,
 ⟨(some 10), .fieldA 1 (.t 1), (some (9, false))⟩,
 ⟨(some 11), .load false 1 (.t 10), (some (9, false))⟩,
 ⟨(some 12), .call .froz 53 [(.t 11), (.k (.one (.v (.int .i64) ((0 : Int))))), (.k (.one (.v (.int .i64) ((12 : Int)))))], (some (9, false))⟩,
 ⟨(some 13), .un .not (.t 12), (some (9, false))⟩,
 ⟨(some 14), .pick (.t 9) (.k (.one (.v (.bool) (true)))) (.t 13), none⟩,
 ⟨(some 15), .mv (.t 14), none⟩,
 ⟨(some 16), .fieldA 0 (.t 1), (some (15, false))⟩,
 ⟨(some 17), .load false 1 (.t 16), (some (15, false))⟩,
 ⟨(some 18), .fieldA 2 (.t 1), (some (15, false))⟩,
 ⟨(some 19), .load false 1 (.t 18), (some (15, false))⟩,
 ⟨(some 20), .fieldA 1 (.t 1), (some (15, false))⟩,
 ⟨(some 21), .load false 1 (.t 20), (some (15, false))⟩,
 ⟨(some 22), .call .froz 54 [(.t 17), (.t 19), (.t 21)], (some (15, false))⟩,
 ⟨(some 23), .un .not (.t 22), (some (15, false))⟩,
 ⟨(some 24), .pick (.t 15) (.k (.one (.v (.bool) (true)))) (.t 23), none⟩,
 ⟨(some 25), .mv (.t 24), none⟩,
 ⟨(some 26), .fieldA 0 (.t 1), (some (25, false))⟩,
 ⟨(some 27), .load false 1 (.t 26), (some (25, false))⟩,
 ⟨(some 28), .fieldA 4 (.t 1), (some (25, false))⟩,
 ⟨(some 29), .load false 1 (.t 28), (some (25, false))⟩,
 ⟨(some 30), .fieldA 1 (.t 1), (some (25, false))⟩,
 ⟨(some 31), .load false 1 (.t 30), (some (25, false))⟩,
 ⟨(some 32), .call .froz 54 [(.t 27), (.t 29), (.t 31)], (some (25, false))⟩,
 ⟨(some 33), .un .not (.t 32), (some (25, false))⟩,
 ⟨(some 34), .pick (.t 25) (.k (.one (.v (.bool) (true)))) (.t 33), none⟩,
 ⟨(some 35), .mv (.t 34), none⟩,
 ⟨(some 36), .fieldA 3 (.t 1), (some (35, false))⟩,
 ⟨(some 37), .load false 1 (.t 36), (some (35, false))⟩,
 ⟨(some 38), .len (.t 37), (some (35, false))⟩,
 ⟨(some 39), .call .froz 53 [(.t 38), (.k (.one (.v (.int .i64) ((1 : Int))))), (.k (.one (.v (.int .i64) ((4 : Int)))))], (some (35, false))⟩,
 ⟨(some 40), .un .not (.t 39), (some (35, false))⟩,
 ⟨(some 41), .pick (.t 35) (.k (.one (.v (.bool) (true)))) (.t 40), none⟩])
 (.cond (.t 41)
 (.seq
 (.reg false [
 ⟨(some 2), .mv (.k (.one (.v (.bool) (false)))), none⟩])
 .ret)
 .skip))
 (.seq
 (.seq
 (.reg false [
 ⟨(some 42), .fieldA 3 (.t 1), none⟩,
 ⟨(some 43), .load false 1 (.t 42), none⟩,
 ⟨(some 44), .len (.t 43), none⟩,
 ⟨(some 45), .mv (.k (.one (.v (.int .i64) ((0 : Int))))), none⟩])
 (.join ⟨[], []⟩ [1, 8000, 8001, 8002, 8003, 8004, 8005, 13000, 13001, 13002, 13003, 13004, 13005, 23000, 23001, 23002, 23003, 23004, 23005, 33000, 33001, 33002, 33003, 33004, 33005, 40000, 40001, 40002, 40003, 40004, 40005, 4, 53000, 53001, 53002, 53003, 53004, 53005] []
 (.block 0
 (.loop 0 ⟨[(1, .one (.c (.ptr0 1 0))), (43, .one (.c (.v (.list [.int .i64, .int .i64, .list [.int .i64]])))), (44, .one (.c (.v (.int .i64)))), (45, .one (.c (.v (.int .i64))))], [(1, .box [.c (.v (.int .i64)), .c (.v (.int .i64)), .c (.v (.list [.int .i64])), .c (.v (.list [.int .i64, .int .i64, .list [.int .i64]])), .c (.v (.list [.int .i64]))])]⟩ [1, 8000, 8001, 8002, 8003, 8004, 8005, 13000, 13001, 13002, 13003, 13004, 13005, 23000, 23001, 23002, 23003, 23004, 23005, 33000, 33001, 33002, 33003, 33004, 33005, 40000, 40001, 40002, 40003, 40004, 40005, 4, 53000, 53001, 53002, 53003, 53004, 53005] []
 (.seq
 (.reg false [
 ⟨(some 46), .bin .lss (.t 45) (.t 44), none⟩])
 (.seq
 (.cond (.t 46)
 .skip
 (.exit 0))
 (.seq
 (.block 1
 (.seq
 (.reg false [
 ⟨(some 47), .idxA 3 (.t 43) (.t 45), none⟩,
 ⟨(some 48), .load true 3 (.t 47), none⟩,
 ⟨(some 4), .alloc [.v (.int .i64) ((0 : Int)), .v (.int .i64) ((0 : Int)), .nil [.int .i64]], none⟩,
 ⟨none, .store 3 (.t 4) (.t 48), none⟩])
 (.seq
 (.reg false [
 ⟨(some 49), .fieldA 0 (.t 1), none⟩,
 ⟨(some 50), .load false 1 (.t 49), none⟩,
 ⟨(some 51), .load true 3 (.t 4), none⟩,
 ⟨(some 52), .call .froz 55 [(.t 50), (.t 51)], none⟩,
 ⟨(some 53), .un .not (.t 52), none⟩,
 ⟨(some 54), .mv (.t 53), none⟩,
 ⟨(some 55), .fieldA 0 (.t 4), (some (54, false))⟩,
 ⟨(some 56), .load false 1 (.t 55), (some (54, false))⟩,
 ⟨(some 57), .fieldA 1 (.t 1), (some (54, false))⟩,
 ⟨(some 58), .load false 1 (.t 57), (some (54, false))⟩,
 ⟨(some 59), .bin .neq (.t 56) (.t 58), (some (54, false))⟩,
 ⟨(some 60), .pick (.t 54) (.k (.one (.v (.bool) (true)))) (.t 59), none⟩,
 ⟨(some 61), .mv (.t 60), none⟩,
 ⟨(some 62), .fieldA 1 (.t 4), (some (61, false))⟩,
 ⟨(some 63), .load false 1 (.t 62), (some (61, false))⟩,
 ⟨(some 64), .fieldA 1 (.t 1), (some (61, false))⟩,
 ⟨(some 65), .load false 1 (.t 64), (some (61, false))⟩,
 ⟨(some 66), .bin .neq (.t 63) (.t 65), (some (61, false))⟩,
 ⟨(some 67), .pick (.t 61) (.k (.one (.v (.bool) (true)))) (.t 66), none⟩])
 (.cond (.t 67)
 (.seq
 (.reg false [
 ⟨(some 2), .mv (.k (.one (.v (.bool) (false)))), none⟩])
 .ret)
 .skip))))
 (.reg false [
 ⟨(some 68), .bin .add (.t 45) (.k (.one (.v (.int .i64) ((1 : Int))))), none⟩,
 ⟨(some 45), .mv (.t 68), none⟩]))))))))
 (.seq
 (.reg false [
 ⟨(some 2), .mv (.k (.one (.v (.bool) (true)))), none⟩])
 .ret))))
def ms_spec_AutomatonOk : List MRes := [.tmp 2]
theorem n_spec_AutomatonOk (NN : Nat) (x : DLL (Sig.tys ag_spec_AutomatonOk)) : runS NN [fn_spec_IsPrime, fn_spec_l01In, fn_spec_l34Row, fn_spec_MatrixOk] sc_spec_AutomatonOk ms_spec_AutomatonOk ag_spec_AutomatonOk rs_spec_AutomatonOk x = G_spec_AutomatonOk NN x := by kernel_rfl
theorem k_spec_AutomatonOk : chkS Go.Proofs.Try.prog 16 sc_spec_AutomatonOk.er ms_spec_AutomatonOk 1 = true := by decide +kernel
theorem p_spec_AutomatonOk : PureSpec Go.Proofs.Try.prog 16 fn_spec_AutomatonOk.M ∧ chkFun Go.Proofs.Try.prog 16 = true :=
  pure_of_runS (T := [fn_spec_IsPrime, fn_spec_l01In, fn_spec_l34Row, fn_spec_MatrixOk]) (sc := sc_spec_AutomatonOk) (ms := ms_spec_AutomatonOk) (args := ag_spec_AutomatonOk) (res := rs_spec_AutomatonOk) (SOk.cons p_spec_IsPrime <| SOk.cons p_spec_l01In <| SOk.cons p_spec_l34Row <| SOk.cons p_spec_MatrixOk <| SOk.nil) follows_ok k_spec_AutomatonOk F_spec_AutomatonOk fun x y h => (n_spec_AutomatonOk FUEL x).trans (f_spec_AutomatonOk x y h)

def fn_spec_l05Ints : SFn := ⟨83, ag_spec_l05Ints, mu_spec_l05Ints, rs_spec_l05Ints, F_spec_l05Ints⟩
def sc_spec_l05Ints : SCode :=
 (.seq
 (.reg false [
 ⟨(some 2), .mv (.k (.one (.nil [.int .i64]))), none⟩])
 (.seq
 (.reg false [
 ⟨(some 3), .bslice [.int .i64] [], none⟩,
 ⟨(some 4), .mv (.t 0), none⟩,
 ⟨(some 5), .append true [.int .i64] 8 (.t 3) (.t 4), none⟩,
 ⟨(some 2), .mv (.t 5), none⟩])
 .ret))
def ms_spec_l05Ints : List MRes := [.tmp 2]
theorem n_spec_l05Ints (NN : Nat) (x : DLL (Sig.tys ag_spec_l05Ints)) : runS NN [] sc_spec_l05Ints ms_spec_l05Ints ag_spec_l05Ints rs_spec_l05Ints x = G_spec_l05Ints NN x := by kernel_rfl
theorem k_spec_l05Ints : chkS Go.Proofs.Try.prog 83 sc_spec_l05Ints.er ms_spec_l05Ints 1 = true := by decide +kernel
theorem p_spec_l05Ints : PureSpec Go.Proofs.Try.prog 83 fn_spec_l05Ints.M ∧ chkFun Go.Proofs.Try.prog 83 = true :=
  pure_of_runS (T := []) (sc := sc_spec_l05Ints) (ms := ms_spec_l05Ints) (args := ag_spec_l05Ints) (res := rs_spec_l05Ints) (SOk.nil) follows_ok k_spec_l05Ints F_spec_l05Ints fun x y h => (n_spec_l05Ints FUEL x).trans (f_spec_l05Ints x y h)

def fn_spec_l31New : SFn := ⟨110, ag_spec_l31New, mu_spec_l31New, rs_spec_l31New, F_spec_l31New⟩
def sc_spec_l31New : SCode :=
 (.seq
 (.reg false [
 ⟨(some 4), .alloc [.v (.int .i64) ((0 : Int)), .v (.int .i64) ((0 : Int)), .nil [.int .i64]], none⟩])
 (.seq
 (.reg false [
 ⟨(some 5), .mv (.t 0), none⟩,
 ⟨(some 6), .mv (.t 1), none⟩,
 ⟨(some 7), .mv (.t 0), none⟩,
 ⟨(some 8), .mv (.t 1), none⟩,
 ⟨(some 9), .bin .mul (.t 7) (.t 8), none⟩,
 ⟨(some 10), .mkslice .froz [.int .i64] 8 (0 : Int) (.t 9) (.t 9), none⟩,
 ⟨(some 11), .build [.v (.int .i64) ((0 : Int)), .v (.int .i64) ((0 : Int)), .nil [.int .i64]] [(0, 1, (.t 5)), (1, 1, (.t 6)), (2, 1, (.t 10))], none⟩,
 ⟨none, .store 3 (.t 4) (.t 11), none⟩])
 .ret))
def ms_spec_l31New : List MRes := [.cell 4 3 true]
theorem n_spec_l31New (NN : Nat) (x : DLL (Sig.tys ag_spec_l31New)) : runS NN [] sc_spec_l31New ms_spec_l31New ag_spec_l31New rs_spec_l31New x = G_spec_l31New NN x := by kernel_rfl
theorem k_spec_l31New : chkS Go.Proofs.Try.prog 110 sc_spec_l31New.er ms_spec_l31New 2 = true := by decide +kernel
theorem p_spec_l31New : PureSpec Go.Proofs.Try.prog 110 fn_spec_l31New.M ∧ chkFun Go.Proofs.Try.prog 110 = true :=
  pure_of_runS (T := []) (sc := sc_spec_l31New) (ms := ms_spec_l31New) (args := ag_spec_l31New) (res := rs_spec_l31New) (SOk.nil) follows_ok k_spec_l31New F_spec_l31New fun x y h => (n_spec_l31New FUEL x).trans (f_spec_l31New x y h)

def fn_spec_l31Mul : SFn := ⟨86, ag_spec_l31Mul, mu_spec_l31Mul, rs_spec_l31Mul, F_spec_l31Mul⟩
def sc_spec_l31Mul : SCode :=
 (.seq
 (.reg false [
 ⟨(some 4), .box 3 (.t 1), none⟩,
 ⟨(some 5), .box 3 (.t 2), none⟩,
 ⟨(some 6), .alloc [.v (.int .i64) ((0 : Int)), .v (.int .i64) ((0 : Int)), .nil [.int .i64]], none⟩])
 (.seq
 (.reg false [
 ⟨(some 12), .fieldA 0 (.t 4), none⟩,
 ⟨(some 13), .load false 1 (.t 12), none⟩,
 ⟨(some 14), .fieldA 1 (.t 5), none⟩,
 ⟨(some 15), .load false 1 (.t 14), none⟩,
 ⟨(some 16), .call .froz 110 [(.t 13), (.t 15)], none⟩,
 ⟨(some 7), .alloc [.v (.int .i64) ((0 : Int)), .v (.int .i64) ((0 : Int)), .nil [.int .i64]], none⟩,
 ⟨none, .store 3 (.t 7) (.t 16), none⟩])
 (.seq
 (.seq
 (.reg false [
 ⟨(some 8), .mv (.k (.one (.v (.int .i64) ((0 : Int))))), none⟩])
 (.join ⟨[(7, .one (.c (.ptr0 7 0))), (6, .one (.c (.ptr0 6 0)))], [(6, .box [.c (.v (.int .i64)), .c (.v (.int .i64)), .c (.full 500012 1)]), (7, .box [.c (.v (.int .i64)), .c (.v (.int .i64)), .c (.full 500013 1)]), (500012, .row true .froz [.int .i64]), (500013, .row true .froz [.int .i64])]⟩ [4, 5, 6, 17000, 17001, 17002, 17003, 17004, 17005, 7, 500000, 500001, 500002, 500003, 500004, 500005, 500006, 500007, 500008, 500009, 500010, 500011, 500012, 500013] [(true, 6, 2, 500012, .froz, []), (true, 7, 2, 500013, .froz, [])]
 (.block 0
 (.loop 0 ⟨[(0, .one (.c (.v (.int .i64)))), (4, .one (.c (.ptr0 4 0))), (5, .one (.c (.ptr0 5 0))), (6, .one (.c (.ptr0 6 0))), (7, .one (.c (.ptr0 7 0))), (8, .one (.c (.v (.int .i64))))], [(4, .box [.c (.v (.int .i64)), .c (.v (.int .i64)), .c (.v (.list [.int .i64]))]), (5, .box [.c (.v (.int .i64)), .c (.v (.int .i64)), .c (.v (.list [.int .i64]))]), (6, .box [.c (.v (.int .i64)), .c (.v (.int .i64)), .c (.full 500000 1)]), (7, .box [.c (.v (.int .i64)), .c (.v (.int .i64)), .c (.full 500001 1)]), (500000, .row true .froz [.int .i64]), (500001, .row true .froz [.int .i64])]⟩ [4, 5, 6, 17000, 17001, 17002, 17003, 17004, 17005, 7, 500000, 500001, 500002, 500003, 500004, 500005, 500006, 500007, 500008, 500009, 500010, 500011, 500012, 500013] [(true, 6, 2, 500000, .froz, []), (true, 7, 2, 500001, .froz, [])]
 (.seq
 (.seq
 (.reg false [
 ⟨(some 17), .mv (.t 8), none⟩,
 ⟨(some 18), .fieldA 0 (.t 4), none⟩,
 ⟨(some 19), .load false 1 (.t 18), none⟩,
 ⟨(some 20), .bin .lss (.t 17) (.t 19), none⟩])
 (.cond (.t 20)
 .skip
 (.exit 0)))
 (.seq
 (.join ⟨[(8, .one (.c (.v (.int .i64)))), (0, .one (.c (.v (.int .i64)))), (4, .one (.c (.ptr0 4 0))), (5, .one (.c (.ptr0 5 0))), (6, .one (.c (.ptr0 6 0))), (7, .one (.c (.ptr0 7 0)))], [(4, .box [.c (.v (.int .i64)), .c (.v (.int .i64)), .c (.v (.list [.int .i64]))]), (5, .box [.c (.v (.int .i64)), .c (.v (.int .i64)), .c (.v (.list [.int .i64]))]), (6, .box [.c (.v (.int .i64)), .c (.v (.int .i64)), .c (.full 500010 1)]), (7, .box [.c (.v (.int .i64)), .c (.v (.int .i64)), .c (.full 500011 1)]), (500010, .row true .froz [.int .i64]), (500011, .row true .froz [.int .i64])]⟩ [4, 5, 6, 17000, 17001, 17002, 17003, 17004, 17005, 7, 500000, 500001, 500002, 500003, 500004, 500005, 500006, 500007, 500008, 500009, 500010, 500011, 500012, 500013] [(true, 6, 2, 500010, .froz, []), (true, 7, 2, 500011, .froz, [])]
 (.block 1
 (.seq
 (.reg false [
 ⟨(some 9), .mv (.k (.one (.v (.int .i64) ((0 : Int))))), none⟩])
 (.block 2
 (.loop 0 ⟨[(0, .one (.c (.v (.int .i64)))), (4, .one (.c (.ptr0 4 0))), (5, .one (.c (.ptr0 5 0))), (6, .one (.c (.ptr0 6 0))), (7, .one (.c (.ptr0 7 0))), (8, .one (.c (.v (.int .i64)))), (9, .one (.c (.v (.int .i64))))], [(4, .box [.c (.v (.int .i64)), .c (.v (.int .i64)), .c (.v (.list [.int .i64]))]), (5, .box [.c (.v (.int .i64)), .c (.v (.int .i64)), .c (.v (.list [.int .i64]))]), (6, .box [.c (.v (.int .i64)), .c (.v (.int .i64)), .c (.full 500002 1)]), (7, .box [.c (.v (.int .i64)), .c (.v (.int .i64)), .c (.full 500003 1)]), (500002, .row true .froz [.int .i64]), (500003, .row true .froz [.int .i64])]⟩ [4, 5, 6, 17000, 17001, 17002, 17003, 17004, 17005, 7, 500000, 500001, 500002, 500003, 500004, 500005, 500006, 500007, 500008, 500009, 500010, 500011, 500012, 500013] [(true, 6, 2, 500002, .froz, []), (true, 7, 2, 500003, .froz, [])]
 (.seq
 (.seq
 (.reg false [
 ⟨(some 23), .mv (.t 9), none⟩,
 ⟨(some 24), .fieldA 1 (.t 5), none⟩,
 ⟨(some 25), .load false 1 (.t 24), none⟩,
 ⟨(some 26), .bin .lss (.t 23) (.t 25), none⟩])
 (.cond (.t 26)
 .skip
 (.exit 2)))
 (.seq
 (.join ⟨[(9, .one (.c (.v (.int .i64)))), (0, .one (.c (.v (.int .i64)))), (4, .one (.c (.ptr0 4 0))), (5, .one (.c (.ptr0 5 0))), (6, .one (.c (.ptr0 6 0))), (7, .one (.c (.ptr0 7 0))), (8, .one (.c (.v (.int .i64))))], [(4, .box [.c (.v (.int .i64)), .c (.v (.int .i64)), .c (.v (.list [.int .i64]))]), (5, .box [.c (.v (.int .i64)), .c (.v (.int .i64)), .c (.v (.list [.int .i64]))]), (6, .box [.c (.v (.int .i64)), .c (.v (.int .i64)), .c (.full 500008 1)]), (7, .box [.c (.v (.int .i64)), .c (.v (.int .i64)), .c (.full 500009 1)]), (500008, .row true .froz [.int .i64]), (500009, .row true .froz [.int .i64])]⟩ [4, 5, 6, 17000, 17001, 17002, 17003, 17004, 17005, 7, 500000, 500001, 500002, 500003, 500004, 500005, 500006, 500007, 500008, 500009, 500010, 500011, 500012, 500013] [(true, 6, 2, 500008, .froz, []), (true, 7, 2, 500009, .froz, [])]
 (.block 3
 (.seq
 (.reg false [
 ⟨(some 10), .mv (.k (.one (.v (.int .i64) ((0 : Int))))), none⟩])
 (.seq
 (.seq
 (.reg false [
 ⟨(some 11), .mv (.k (.one (.v (.int .i64) ((0 : Int))))), none⟩])
 (.join ⟨[(10, .one (.c (.v (.int .i64)))), (9, .one (.c (.v (.int .i64)))), (0, .one (.c (.v (.int .i64)))), (4, .one (.c (.ptr0 4 0))), (5, .one (.c (.ptr0 5 0))), (6, .one (.c (.ptr0 6 0))), (7, .one (.c (.ptr0 7 0))), (8, .one (.c (.v (.int .i64))))], [(4, .box [.c (.v (.int .i64)), .c (.v (.int .i64)), .c (.v (.list [.int .i64]))]), (5, .box [.c (.v (.int .i64)), .c (.v (.int .i64)), .c (.v (.list [.int .i64]))]), (6, .box [.c (.v (.int .i64)), .c (.v (.int .i64)), .c (.full 500006 1)]), (7, .box [.c (.v (.int .i64)), .c (.v (.int .i64)), .c (.full 500007 1)]), (500006, .row true .froz [.int .i64]), (500007, .row true .froz [.int .i64])]⟩ [4, 5, 6, 17000, 17001, 17002, 17003, 17004, 17005, 7, 500000, 500001, 500002, 500003, 500004, 500005, 500006, 500007, 500008, 500009, 500010, 500011, 500012, 500013] [(true, 6, 2, 500006, .froz, []), (true, 7, 2, 500007, .froz, [])]
 (.block 4
 (.loop 0 ⟨[(0, .one (.c (.v (.int .i64)))), (4, .one (.c (.ptr0 4 0))), (5, .one (.c (.ptr0 5 0))), (6, .one (.c (.ptr0 6 0))), (7, .one (.c (.ptr0 7 0))), (8, .one (.c (.v (.int .i64)))), (9, .one (.c (.v (.int .i64)))), (10, .one (.c (.v (.int .i64)))), (11, .one (.c (.v (.int .i64))))], [(4, .box [.c (.v (.int .i64)), .c (.v (.int .i64)), .c (.v (.list [.int .i64]))]), (5, .box [.c (.v (.int .i64)), .c (.v (.int .i64)), .c (.v (.list [.int .i64]))]), (6, .box [.c (.v (.int .i64)), .c (.v (.int .i64)), .c (.full 500004 1)]), (7, .box [.c (.v (.int .i64)), .c (.v (.int .i64)), .c (.full 500005 1)]), (500004, .row true .froz [.int .i64]), (500005, .row true .froz [.int .i64])]⟩ [4, 5, 6, 17000, 17001, 17002, 17003, 17004, 17005, 7, 500000, 500001, 500002, 500003, 500004, 500005, 500006, 500007, 500008, 500009, 500010, 500011, 500012, 500013] [(true, 6, 2, 500004, .froz, []), (true, 7, 2, 500005, .froz, [])]
 (.seq
 (.seq
 (.reg false [
 ⟨(some 29), .mv (.t 11), none⟩,
 ⟨(some 30), .fieldA 1 (.t 4), none⟩,
 ⟨(some 31), .load false 1 (.t 30), none⟩,
 ⟨(some 32), .bin .lss (.t 29) (.t 31), none⟩])
 (.cond (.t 32)
 .skip
 (.exit 4)))
 (.seq
 (.block 5
 (.reg true [
 ⟨(some 35), .mv (.t 10), none⟩,
 ⟨(some 36), .fieldA 2 (.t 4), none⟩,
 ⟨(some 37), .load false 1 (.t 36), none⟩,
 ⟨(some 38), .mv (.t 8), none⟩,
 ⟨(some 39), .fieldA 1 (.t 4), none⟩,
 ⟨(some 40), .load false 1 (.t 39), none⟩,
 ⟨(some 41), .bin .mul (.t 38) (.t 40), none⟩,
 ⟨(some 42), .mv (.t 11), none⟩,
 ⟨(some 43), .bin .add (.t 41) (.t 42), none⟩,
 ⟨(some 44), .idxA 1 (.t 37) (.t 43), none⟩,
 ⟨(some 45), .load false 1 (.t 44), none⟩,
 ⟨(some 46), .fieldA 2 (.t 5), none⟩,
 ⟨(some 47), .load false 1 (.t 46), none⟩,
 ⟨(some 48), .mv (.t 11), none⟩,
 ⟨(some 49), .fieldA 1 (.t 5), none⟩,
 ⟨(some 50), .load false 1 (.t 49), none⟩,
 ⟨(some 51), .bin .mul (.t 48) (.t 50), none⟩,
 ⟨(some 52), .mv (.t 9), none⟩,
 ⟨(some 53), .bin .add (.t 51) (.t 52), none⟩,
 ⟨(some 54), .idxA 1 (.t 47) (.t 53), none⟩,
 ⟨(some 55), .load false 1 (.t 54), none⟩,
 ⟨(some 56), .bin .mul (.t 45) (.t 55), none⟩,
 ⟨(some 57), .bin .add (.t 35) (.t 56), none⟩,
 ⟨(some 58), .mv (.t 0), none⟩,
 ⟨(some 59), .bin .rem (.t 57) (.t 58), none⟩,
 ⟨(some 10), .mv (.t 59), none⟩]))
 (.reg false [
 ⟨(some 33), .mv (.t 11), none⟩,
 ⟨(some 34), .bin .add (.t 33) (.k (.one (.v (.int .i64) ((1 : Int))))), none⟩,
 ⟨(some 11), .mv (.t 34), none⟩])))))))
 (.reg false [
 ⟨(some 60), .fieldA 2 (.t 7), none⟩,
 ⟨(some 61), .load false 1 (.t 60), none⟩,
 ⟨(some 62), .mv (.t 8), none⟩,
 ⟨(some 63), .fieldA 1 (.t 5), none⟩,
 ⟨(some 64), .load false 1 (.t 63), none⟩,
 ⟨(some 65), .bin .mul (.t 62) (.t 64), none⟩,
 ⟨(some 66), .mv (.t 9), none⟩,
 ⟨(some 67), .bin .add (.t 65) (.t 66), none⟩,
 ⟨(some 68), .mv (.t 10), none⟩,
 ⟨(some 69), .idxA 1 (.t 61) (.t 67), none⟩,
 ⟨none, .store 1 (.t 69) (.t 68), none⟩])))))
 (.reg false [
 ⟨(some 27), .mv (.t 9), none⟩,
 ⟨(some 28), .bin .add (.t 27) (.k (.one (.v (.int .i64) ((1 : Int))))), none⟩,
 ⟨(some 9), .mv (.t 28), none⟩]))))))))
 (.reg false [
 ⟨(some 21), .mv (.t 8), none⟩,
 ⟨(some 22), .bin .add (.t 21) (.k (.one (.v (.int .i64) ((1 : Int))))), none⟩,
 ⟨(some 8), .mv (.t 22), none⟩])))))))
 (.seq
 (.reg false [
 ⟨(some 70), .load true 3 (.t 7), none⟩,
 ⟨none, .store 3 (.t 6) (.t 70), none⟩])
 .ret))))
def ms_spec_l31Mul : List MRes := [.cell 6 3 true]
theorem n_spec_l31Mul (NN : Nat) (x : DLL (Sig.tys ag_spec_l31Mul)) : runS NN [fn_spec_l31New] sc_spec_l31Mul ms_spec_l31Mul ag_spec_l31Mul rs_spec_l31Mul x = G_spec_l31Mul NN x := by kernel_rfl
theorem k_spec_l31Mul : chkS Go.Proofs.Try.prog 86 sc_spec_l31Mul.er ms_spec_l31Mul 3 = true := by decide +kernel
theorem p_spec_l31Mul : PureSpec Go.Proofs.Try.prog 86 fn_spec_l31Mul.M ∧ chkFun Go.Proofs.Try.prog 86 = true :=
  pure_of_runS (T := [fn_spec_l31New]) (sc := sc_spec_l31Mul) (ms := ms_spec_l31Mul) (args := ag_spec_l31Mul) (res := rs_spec_l31Mul) (SOk.cons p_spec_l31New <| SOk.nil) follows_ok k_spec_l31Mul F_spec_l31Mul fun x y h => (n_spec_l31Mul FUEL x).trans (f_spec_l31Mul x y h)

def fn_spec_l34Times : SFn := ⟨106, ag_spec_l34Times, mu_spec_l34Times, rs_spec_l34Times, F_spec_l34Times⟩
def sc_spec_l34Times : SCode :=
 (.seq
 (.reg false [
 ⟨(some 5), .box 3 (.t 2), none⟩,
 ⟨(some 6), .mv (.k (.one (.nil [.int .i64]))), none⟩])
 (.seq
 (.reg false [
 ⟨(some 7), .mv (.t 0), none⟩,
 ⟨(some 8), .fieldA 0 (.t 5), none⟩,
 ⟨(some 9), .load false 1 (.t 8), none⟩,
 ⟨(some 10), .mv (.t 1), none⟩,
 ⟨(some 11), .build [.v (.int .i64) ((0 : Int)), .v (.int .i64) ((0 : Int)), .nil [.int .i64]] [(0, 1, (.k (.one (.v (.int .i64) ((1 : Int)))))), (1, 1, (.t 9)), (2, 1, (.t 10))], none⟩,
 ⟨(some 12), .load true 3 (.t 5), none⟩,
 ⟨(some 13), .call .froz 86 [(.t 7), (.t 11), (.t 12)], none⟩,
 ⟨(some 14), .fld false 2 1 (.t 13), none⟩,
 ⟨(some 6), .mv (.t 14), none⟩])
 .ret))
def ms_spec_l34Times : List MRes := [.tmp 6]
theorem n_spec_l34Times (NN : Nat) (x : DLL (Sig.tys ag_spec_l34Times)) : runS NN [fn_spec_l31Mul] sc_spec_l34Times ms_spec_l34Times ag_spec_l34Times rs_spec_l34Times x = G_spec_l34Times NN x := by kernel_rfl
theorem k_spec_l34Times : chkS Go.Proofs.Try.prog 106 sc_spec_l34Times.er ms_spec_l34Times 3 = true := by decide +kernel
theorem p_spec_l34Times : PureSpec Go.Proofs.Try.prog 106 fn_spec_l34Times.M ∧ chkFun Go.Proofs.Try.prog 106 = true :=
  pure_of_runS (T := [fn_spec_l31Mul]) (sc := sc_spec_l34Times) (ms := ms_spec_l34Times) (args := ag_spec_l34Times) (res := rs_spec_l34Times) (SOk.cons p_spec_l31Mul <| SOk.nil) follows_ok k_spec_l34Times F_spec_l34Times fun x y h => (n_spec_l34Times FUEL x).trans (f_spec_l34Times x y h)

def fn_spec_l34Reach : SFn := ⟨72, ag_spec_l34Reach, mu_spec_l34Reach, rs_spec_l34Reach, F_spec_l34Reach⟩
def sc_spec_l34Reach : SCode :=
 (.seq
 (.reg false [
 ⟨(some 2), .box 5 (.t 0), none⟩,
 ⟨(some 4), .mv (.k (.one (.nil [.int .i64]))), none⟩])
 (.seq
 (.reg false [
 ⟨(some 8), .fieldA 2 (.t 2), none⟩,
 ⟨(some 9), .load false 1 (.t 8), none⟩,
 ⟨(some 10), .call .froz 83 [(.t 9)], none⟩,
 ⟨(some 5), .mv (.t 10), none⟩])
 (.seq
 (.seq
 (.reg false [
 ⟨(some 11), .mv (.t 1), none⟩,
 ⟨(some 12), .len (.t 11), none⟩,
 ⟨(some 13), .mv (.k (.one (.v (.int .i64) ((0 : Int))))), none⟩])
 (.join ⟨[(5, .one (.c (.full 500001 1)))], [(500001, .row true .froz [.int .i64])]⟩ [2, 11000, 11001, 11002, 11003, 11004, 11005, 26000, 26001, 26002, 26003, 26004, 26005, 500000, 500001] [(false, 5, 0, 500001, .froz, [])]
 (.block 0
 (.loop 0 ⟨[(2, .one (.c (.ptr0 2 0))), (5, .one (.c (.full 500000 1))), (11, .one (.c (.v (.list [.int .i64])))), (12, .one (.c (.v (.int .i64)))), (13, .one (.c (.v (.int .i64))))], [(2, .box [.c (.v (.int .i64)), .c (.v (.int .i64)), .c (.v (.list [.int .i64])), .c (.v (.list [.int .i64, .int .i64, .list [.int .i64]])), .c (.v (.list [.int .i64]))]), (500000, .row true .froz [.int .i64])]⟩ [2, 11000, 11001, 11002, 11003, 11004, 11005, 26000, 26001, 26002, 26003, 26004, 26005, 500000, 500001] [(false, 5, 0, 500000, .froz, [])]
 (.seq
 (.reg false [
 ⟨(some 14), .bin .lss (.t 13) (.t 12), none⟩])
 (.seq
 (.cond (.t 14)
 .skip
 (.exit 0))
 (.seq
 (.block 1
 (.seq
 (.reg false [
 ⟨(some 15), .idxA 1 (.t 11) (.t 13), none⟩,
 ⟨(some 16), .load false 1 (.t 15), none⟩,
 ⟨(some 7), .mv (.t 16), none⟩])
 (.reg true [
 ⟨(some 17), .fieldA 0 (.t 2), none⟩,
 ⟨(some 18), .load false 1 (.t 17), none⟩,
 ⟨(some 19), .mv (.t 5), none⟩,
 ⟨(some 20), .fieldA 3 (.t 2), none⟩,
 ⟨(some 21), .load false 1 (.t 20), none⟩,
 ⟨(some 22), .mv (.t 7), none⟩,
 ⟨(some 23), .idxA 3 (.t 21) (.t 22), none⟩,
 ⟨(some 24), .load true 3 (.t 23), none⟩,
 ⟨(some 25), .call .froz 106 [(.t 18), (.t 19), (.t 24)], none⟩,
 ⟨(some 5), .mv (.t 25), none⟩])))
 (.reg false [
 ⟨(some 26), .bin .add (.t 13) (.k (.one (.v (.int .i64) ((1 : Int))))), none⟩,
 ⟨(some 13), .mv (.t 26), none⟩]))))))))
 (.seq
 (.reg false [
 ⟨(some 27), .mv (.t 5), none⟩,
 ⟨(some 4), .mv (.t 27), none⟩])
 .ret))))
def ms_spec_l34Reach : List MRes := [.tmp 4]
theorem n_spec_l34Reach (NN : Nat) (x : DLL (Sig.tys ag_spec_l34Reach)) : runS NN [fn_spec_l05Ints, fn_spec_l34Times] sc_spec_l34Reach ms_spec_l34Reach ag_spec_l34Reach rs_spec_l34Reach x = G_spec_l34Reach NN x := by kernel_rfl
theorem k_spec_l34Reach : chkS Go.Proofs.Try.prog 72 sc_spec_l34Reach.er ms_spec_l34Reach 2 = true := by decide +kernel
theorem p_spec_l34Reach : PureSpec Go.Proofs.Try.prog 72 fn_spec_l34Reach.M ∧ chkFun Go.Proofs.Try.prog 72 = true :=
  pure_of_runS (T := [fn_spec_l05Ints, fn_spec_l34Times]) (sc := sc_spec_l34Reach) (ms := ms_spec_l34Reach) (args := ag_spec_l34Reach) (res := rs_spec_l34Reach) (SOk.cons p_spec_l05Ints <| SOk.cons p_spec_l34Times <| SOk.nil) follows_ok k_spec_l34Reach F_spec_l34Reach fun x y h => (n_spec_l34Reach FUEL x).trans (f_spec_l34Reach x y h)

def fn_spec_l34Dot : SFn := ⟨71, ag_spec_l34Dot, mu_spec_l34Dot, rs_spec_l34Dot, F_spec_l34Dot⟩
def sc_spec_l34Dot : SCode :=
 (.seq
 (.reg false [
 ⟨(some 6), .mv (.k (.one (.v (.int .i64) ((0 : Int))))), none⟩])
 (.seq
 (.reg false [
 ⟨(some 7), .mv (.k (.one (.v (.int .i64) ((0 : Int))))), none⟩])
 (.seq
 (.seq
 (.reg false [
 ⟨(some 10), .mv (.t 1), none⟩,
 ⟨(some 11), .len (.t 10), none⟩,
 ⟨(some 12), .mv (.k (.one (.v (.int .i64) ((0 : Int))))), none⟩])
 (.join ⟨[(7, .one (.c (.v (.int .i64))))], []⟩ [] []
 (.block 0
 (.loop 0 ⟨[(0, .one (.c (.v (.int .i64)))), (2, .one (.c (.v (.list [.int .i64])))), (7, .one (.c (.v (.int .i64)))), (10, .one (.c (.v (.list [.int .i64])))), (11, .one (.c (.v (.int .i64)))), (12, .one (.c (.v (.int .i64))))], []⟩ [] []
 (.seq
 (.reg false [
 ⟨(some 13), .bin .lss (.t 12) (.t 11), none⟩])
 (.seq
 (.cond (.t 13)
 .skip
 (.exit 0))
 (.seq
 (.block 1
 (.seq
 (.reg false [
 ⟨(some 14), .mv (.t 12), none⟩,
 ⟨(some 15), .idxA 1 (.t 10) (.t 12), none⟩,
 ⟨(some 16), .load false 1 (.t 15), none⟩,
 ⟨(some 8), .mv (.t 14), none⟩,
 ⟨(some 9), .mv (.t 16), none⟩])
 (.reg false [
 ⟨(some 17), .mv (.t 7), none⟩,
 ⟨(some 18), .mv (.t 9), none⟩,
 ⟨(some 19), .mv (.t 2), none⟩,
 ⟨(some 20), .mv (.t 8), none⟩,
 ⟨(some 21), .idxA 1 (.t 19) (.t 20), none⟩,
 ⟨(some 22), .load false 1 (.t 21), none⟩,
 ⟨(some 23), .bin .mul (.t 18) (.t 22), none⟩,
 ⟨(some 24), .bin .add (.t 17) (.t 23), none⟩,
 ⟨(some 25), .mv (.t 0), none⟩,
 ⟨(some 26), .bin .rem (.t 24) (.t 25), none⟩,
 ⟨(some 7), .mv (.t 26), none⟩])))
 (.reg false [
 ⟨(some 27), .bin .add (.t 12) (.k (.one (.v (.int .i64) ((1 : Int))))), none⟩,
 ⟨(some 12), .mv (.t 27), none⟩]))))))))
 (.seq
 (.reg false [
 ⟨(some 28), .mv (.t 7), none⟩,
 ⟨(some 6), .mv (.t 28), none⟩])
 .ret))))
def ms_spec_l34Dot : List MRes := [.tmp 6]
theorem n_spec_l34Dot (NN : Nat) (x : DLL (Sig.tys ag_spec_l34Dot)) : runS NN [] sc_spec_l34Dot ms_spec_l34Dot ag_spec_l34Dot rs_spec_l34Dot x = G_spec_l34Dot NN x := by kernel_rfl
theorem k_spec_l34Dot : chkS Go.Proofs.Try.prog 71 sc_spec_l34Dot.er ms_spec_l34Dot 3 = true := by decide +kernel
theorem p_spec_l34Dot : PureSpec Go.Proofs.Try.prog 71 fn_spec_l34Dot.M ∧ chkFun Go.Proofs.Try.prog 71 = true :=
  pure_of_runS (T := []) (sc := sc_spec_l34Dot) (ms := ms_spec_l34Dot) (args := ag_spec_l34Dot) (res := rs_spec_l34Dot) (SOk.nil) follows_ok k_spec_l34Dot F_spec_l34Dot fun x y h => (n_spec_l34Dot FUEL x).trans (f_spec_l34Dot x y h)

def fn_spec_WordWeight : SFn := ⟨25, ag_spec_WordWeight, mu_spec_WordWeight, rs_spec_WordWeight, F_spec_WordWeight⟩
def sc_spec_WordWeight : SCode :=
 (.seq
 (.reg false [
 ⟨(some 2), .box 5 (.t 0), none⟩,
 ⟨(some 4), .mv (.k (.one (.v (.int .i64) ((0 : Int))))), none⟩])
 (.seq
 (.seq
 (.reg false [
 ⟨(some 7), .load true 5 (.t 2), none⟩,
 ⟨(some 8), .call .froz 16 [(.t 7)], none⟩,
 ⟨(some 9), .un .not (.t 8), none⟩,
 ⟨(some 10), .mv (.t 9), none⟩,
 ⟨(some 11), .mv (.t 1), (some (10, false))⟩,
 ⟨(some 12), .len (.t 11), (some (10, false))⟩,
 ⟨(some 13), .bin .gtr (.t 12) (.k (.one (.v (.int .i64) ((24 : Int))))), (some (10, false))⟩,
 ⟨(some 14), .pick (.t 10) (.k (.one (.v (.bool) (true)))) (.t 13), none⟩])
 (.cond (.t 14)
 (.seq
 (.reg false [
 ⟨(some 4), .mv (.k (.one (.v (.int .i64) (((-1) : Int))))), none⟩])
 .ret)
 .skip))
 (.seq
 (.seq
 (.reg false [
 ⟨(some 15), .mv (.t 1), none⟩,
 ⟨(some 16), .len (.t 15), none⟩,
 ⟨(some 17), .mv (.k (.one (.v (.int .i64) ((0 : Int))))), none⟩])
 (.join ⟨[(1, .one (.c (.v (.list [.int .i64])))), (2, .one (.c (.ptr0 2 0)))], [(2, .box [.c (.v (.int .i64)), .c (.v (.int .i64)), .c (.v (.list [.int .i64])), .c (.v (.list [.int .i64, .int .i64, .list [.int .i64]])), .c (.v (.list [.int .i64]))])]⟩ [2, 9000, 9001, 9002, 9003, 9004, 9005, 27000, 27001, 27002, 27003, 27004, 27005, 34000, 34001, 34002, 34003, 34004, 34005, 37000, 37001, 37002, 37003, 37004, 37005] []
 (.block 0
 (.loop 0 ⟨[(1, .one (.c (.v (.list [.int .i64])))), (2, .one (.c (.ptr0 2 0))), (15, .one (.c (.v (.list [.int .i64])))), (16, .one (.c (.v (.int .i64)))), (17, .one (.c (.v (.int .i64))))], [(2, .box [.c (.v (.int .i64)), .c (.v (.int .i64)), .c (.v (.list [.int .i64])), .c (.v (.list [.int .i64, .int .i64, .list [.int .i64]])), .c (.v (.list [.int .i64]))])]⟩ [2, 9000, 9001, 9002, 9003, 9004, 9005, 27000, 27001, 27002, 27003, 27004, 27005, 34000, 34001, 34002, 34003, 34004, 34005, 37000, 37001, 37002, 37003, 37004, 37005] []
 (.seq
 (.reg false [
 ⟨(some 18), .bin .lss (.t 17) (.t 16), none⟩])
 (.seq
 (.cond (.t 18)
 .skip
 (.exit 0))
 (.seq
 (.block 1
 (.seq
 (.reg false [
 ⟨(some 19), .idxA 1 (.t 15) (.t 17), none⟩,
 ⟨(some 20), .load false 1 (.t 19), none⟩,
 ⟨(some 6), .mv (.t 20), none⟩])
 (.seq
 (.reg false [
 ⟨(some 21), .mv (.t 6), none⟩,
 ⟨(some 22), .fieldA 3 (.t 2), none⟩,
 ⟨(some 23), .load false 1 (.t 22), none⟩,
 ⟨(some 24), .len (.t 23), none⟩,
 ⟨(some 25), .bin .sub (.t 24) (.k (.one (.v (.int .i64) ((1 : Int))))), none⟩,
 ⟨(some 26), .call .froz 53 [(.t 21), (.k (.one (.v (.int .i64) ((0 : Int))))), (.t 25)], none⟩,
 ⟨(some 27), .un .not (.t 26), none⟩])
 (.cond (.t 27)
 (.seq
 (.reg false [
 ⟨(some 4), .mv (.k (.one (.v (.int .i64) (((-1) : Int))))), none⟩])
 .ret)
 .skip))))
 (.reg false [
 ⟨(some 28), .bin .add (.t 17) (.k (.one (.v (.int .i64) ((1 : Int))))), none⟩,
 ⟨(some 17), .mv (.t 28), none⟩]))))))))
 (.seq
 (.reg true [
 ⟨(some 29), .fieldA 0 (.t 2), none⟩,
 ⟨(some 30), .load false 1 (.t 29), none⟩,
 ⟨(some 31), .load true 5 (.t 2), none⟩,
 ⟨(some 32), .mv (.t 1), none⟩,
 ⟨(some 33), .call .froz 72 [(.t 31), (.t 32)], none⟩,
 ⟨(some 34), .fieldA 4 (.t 2), none⟩,
 ⟨(some 35), .load false 1 (.t 34), none⟩,
 ⟨(some 36), .call .froz 71 [(.t 30), (.t 33), (.t 35)], none⟩,
 ⟨(some 4), .mv (.t 36), none⟩])
 .ret))))
def ms_spec_WordWeight : List MRes := [.tmp 4]
theorem n_spec_WordWeight (NN : Nat) (x : DLL (Sig.tys ag_spec_WordWeight)) : runS NN [fn_spec_AutomatonOk, fn_spec_l01In, fn_spec_l34Reach, fn_spec_l34Dot] sc_spec_WordWeight ms_spec_WordWeight ag_spec_WordWeight rs_spec_WordWeight x = G_spec_WordWeight NN x := by kernel_rfl
theorem k_spec_WordWeight : chkS Go.Proofs.Try.prog 25 sc_spec_WordWeight.er ms_spec_WordWeight 2 = true := by decide +kernel
theorem p_spec_WordWeight : PureSpec Go.Proofs.Try.prog 25 fn_spec_WordWeight.M ∧ chkFun Go.Proofs.Try.prog 25 = true :=
  pure_of_runS (T := [fn_spec_AutomatonOk, fn_spec_l01In, fn_spec_l34Reach, fn_spec_l34Dot]) (sc := sc_spec_WordWeight) (ms := ms_spec_WordWeight) (args := ag_spec_WordWeight) (res := rs_spec_WordWeight) (SOk.cons p_spec_AutomatonOk <| SOk.cons p_spec_l01In <| SOk.cons p_spec_l34Reach <| SOk.cons p_spec_l34Dot <| SOk.nil) follows_ok k_spec_WordWeight F_spec_WordWeight fun x y h => (n_spec_WordWeight FUEL x).trans (f_spec_WordWeight x y h)

def fn_impl_IsPrime : SFn := ⟨57, ag_impl_IsPrime, mu_impl_IsPrime, rs_impl_IsPrime, F_impl_IsPrime⟩
def sc_impl_IsPrime : SCode :=
 (.seq
 (.reg false [
 ⟨(some 2), .mv (.k (.one (.v (.bool) (false)))), none⟩])
 (.seq
 (.seq
 (.reg false [
 ⟨(some 4), .mv (.t 0), none⟩,
 ⟨(some 5), .bin .lss (.t 4) (.k (.one (.v (.int .i64) ((2 : Int))))), none⟩,
 ⟨(some 6), .mv (.t 5), none⟩,
 ⟨(some 7), .mv (.t 0), (some (6, false))⟩,
 ⟨(some 8), .bin .gtr (.t 7) (.k (.one (.v (.int .i64) ((1000003 : Int))))), (some (6, false))⟩,
 ⟨(some 9), .pick (.t 6) (.k (.one (.v (.bool) (true)))) (.t 8), none⟩])
 (.cond (.t 9)
 (.seq
 (.reg false [
 ⟨(some 2), .mv (.k (.one (.v (.bool) (false)))), none⟩])
 .ret)
 .skip))
 (.seq
 (.seq
 (.reg false [
 ⟨(some 3), .mv (.k (.one (.v (.int .i64) ((2 : Int))))), none⟩])
 (.join ⟨[], []⟩ [] []
 (.block 0
 (.loop 0 ⟨[(0, .one (.c (.v (.int .i64)))), (3, .one (.c (.v (.int .i64))))], []⟩ [] []
 (.seq
 (.seq
 (.reg false [
 ⟨(some 10), .mv (.t 3), none⟩,
 ⟨(some 11), .mv (.t 3), none⟩,
 ⟨(some 12), .bin .mul (.t 10) (.t 11), none⟩,
 ⟨(some 13), .mv (.t 0), none⟩,
 ⟨(some 14), .bin .leq (.t 12) (.t 13), none⟩])
 (.cond (.t 14)
 .skip
 (.exit 0)))
 (.seq
 (.block 1
 (.seq
 (.reg false [
 ⟨(some 17), .mv (.t 0), none⟩,
 ⟨(some 18), .mv (.t 3), none⟩,
 ⟨(some 19), .bin .rem (.t 17) (.t 18), none⟩,
 ⟨(some 20), .bin .eql (.t 19) (.k (.one (.v (.int .i64) ((0 : Int))))), none⟩])
 (.cond (.t 20)
 (.seq
 (.reg false [
 ⟨(some 2), .mv (.k (.one (.v (.bool) (false)))), none⟩])
 .ret)
 .skip)))
 (.reg false [
 ⟨(some 15), .mv (.t 3), none⟩,
 ⟨(some 16), .bin .add (.t 15) (.k (.one (.v (.int .i64) ((1 : Int))))), none⟩,
 ⟨(some 3), .mv (.t 16), none⟩])))))))
 (.seq
 (.reg false [
 ⟨(some 2), .mv (.k (.one (.v (.bool) (true)))), none⟩])
 .ret))))
def ms_impl_IsPrime : List MRes := [.tmp 2]
theorem n_impl_IsPrime (NN : Nat) (x : DLL (Sig.tys ag_impl_IsPrime)) : runS NN [] sc_impl_IsPrime ms_impl_IsPrime ag_impl_IsPrime rs_impl_IsPrime x = G_impl_IsPrime NN x := by kernel_rfl
theorem k_impl_IsPrime : chkS Go.Proofs.Try.prog 57 sc_impl_IsPrime.er ms_impl_IsPrime 1 = true := by decide +kernel
theorem p_impl_IsPrime : PureSpec Go.Proofs.Try.prog 57 fn_impl_IsPrime.M ∧ chkFun Go.Proofs.Try.prog 57 = true :=
  pure_of_runS (T := []) (sc := sc_impl_IsPrime) (ms := ms_impl_IsPrime) (args := ag_impl_IsPrime) (res := rs_impl_IsPrime) (SOk.nil) follows_ok k_impl_IsPrime F_impl_IsPrime fun x y h => (n_impl_IsPrime FUEL x).trans (f_impl_IsPrime x y h)

def fn_impl_inMod : SFn := ⟨58, ag_impl_inMod, mu_impl_inMod, rs_impl_inMod, F_impl_inMod⟩
def sc_impl_inMod : SCode :=
 (.seq
 (.reg false [
 ⟨(some 4), .mv (.k (.one (.v (.bool) (false)))), none⟩])
 (.seq
 (.seq
 (.reg false [
 ⟨(some 7), .mv (.t 1), none⟩,
 ⟨(some 8), .len (.t 7), none⟩,
 ⟨(some 9), .mv (.k (.one (.v (.int .i64) ((0 : Int))))), none⟩])
 (.join ⟨[], []⟩ [] []
 (.block 0
 (.loop 0 ⟨[(0, .one (.c (.v (.int .i64)))), (7, .one (.c (.v (.list [.int .i64])))), (8, .one (.c (.v (.int .i64)))), (9, .one (.c (.v (.int .i64))))], []⟩ [] []
 (.seq
 (.reg false [
 ⟨(some 10), .bin .lss (.t 9) (.t 8), none⟩])
 (.seq
 (.cond (.t 10)
 .skip
 (.exit 0))
 (.seq
 (.block 1
 (.seq
 (.reg false [
 ⟨(some 11), .idxA 1 (.t 7) (.t 9), none⟩,
 ⟨(some 12), .load false 1 (.t 11), none⟩,
 ⟨(some 6), .mv (.t 12), none⟩])
 (.seq
 (.reg false [
 ⟨(some 13), .mv (.t 6), none⟩,
 ⟨(some 14), .bin .lss (.t 13) (.k (.one (.v (.int .i64) ((0 : Int))))), none⟩,
 ⟨(some 15), .mv (.t 14), none⟩,
 ⟨(some 16), .mv (.t 6), (some (15, false))⟩,
 ⟨(some 17), .mv (.t 0), (some (15, false))⟩,
 ⟨(some 18), .bin .geq (.t 16) (.t 17), (some (15, false))⟩,
 ⟨(some 19), .pick (.t 15) (.k (.one (.v (.bool) (true)))) (.t 18), none⟩])
 (.cond (.t 19)
 (.seq
 (.reg false [
 ⟨(some 4), .mv (.k (.one (.v (.bool) (false)))), none⟩])
 .ret)
 .skip))))
 (.reg false [
 ⟨(some 20), .bin .add (.t 9) (.k (.one (.v (.int .i64) ((1 : Int))))), none⟩,
 ⟨(some 9), .mv (.t 20), none⟩]))))))))
 (.seq
 (.reg false [
 ⟨(some 4), .mv (.k (.one (.v (.bool) (true)))), none⟩])
 .ret)))
def ms_impl_inMod : List MRes := [.tmp 4]
theorem n_impl_inMod (NN : Nat) (x : DLL (Sig.tys ag_impl_inMod)) : runS NN [] sc_impl_inMod ms_impl_inMod ag_impl_inMod rs_impl_inMod x = G_impl_inMod NN x := by kernel_rfl
theorem k_impl_inMod : chkS Go.Proofs.Try.prog 58 sc_impl_inMod.er ms_impl_inMod 2 = true := by decide +kernel
theorem p_impl_inMod : PureSpec Go.Proofs.Try.prog 58 fn_impl_inMod.M ∧ chkFun Go.Proofs.Try.prog 58 = true :=
  pure_of_runS (T := []) (sc := sc_impl_inMod) (ms := ms_impl_inMod) (args := ag_impl_inMod) (res := rs_impl_inMod) (SOk.nil) follows_ok k_impl_inMod F_impl_inMod fun x y h => (n_impl_inMod FUEL x).trans (f_impl_inMod x y h)

def fn_impl_MatrixOk : SFn := ⟨59, ag_impl_MatrixOk, mu_impl_MatrixOk, rs_impl_MatrixOk, F_impl_MatrixOk⟩
def sc_impl_MatrixOk : SCode :=
 (.seq
 (.reg false [
 ⟨(some 3), .box 3 (.t 1), none⟩,
 ⟨(some 4), .mv (.k (.one (.v (.bool) (false)))), none⟩])
 (.seq
 (.seq
 (.reg false [
 ⟨(some 5), .mv (.t 0), none⟩,
 ⟨(some 6), .call .froz 57 [(.t 5)], none⟩,
 ⟨(some 7), .un .not (.t 6), none⟩,
 ⟨(some 8), .mv (.t 7), none⟩,
 ⟨(some 9), .fieldA 0 (.t 3), (some (8, false))⟩,
 ⟨(some 10), .load false 1 (.t 9), (some (8, false))⟩,
 ⟨(some 11), .bin .lss (.t 10) (.k (.one (.v (.int .i64) ((0 : Int))))), (some (8, false))⟩,
 ⟨(some 12), .pick (.t 8) (.k (.one (.v (.bool) (true)))) (.t 11), none⟩,
 ⟨(some 13), .mv (.t 12), none⟩,
 ⟨(some 14), .fieldA 1 (.t 3), (some (13, false))⟩,
 ⟨(some 15), .load false 1 (.t 14), (some (13, false))⟩,
 ⟨(some 16), .bin .lss (.t 15) (.k (.one (.v (.int .i64) ((0 : Int))))), (some (13, false))⟩,
 ⟨(some 17), .pick (.t 13) (.k (.one (.v (.bool) (true)))) (.t 16), none⟩,
 ⟨(some 18), .mv (.t 17), none⟩,
 ⟨(some 19), .fieldA 0 (.t 3), (some (18, false))⟩,
 ⟨(some 20), .load false 1 (.t 19), (some (18, false))⟩,
 ⟨(some 21), .bin .gtr (.t 20) (.k (.one (.v (.int .i64) ((64 : Int))))), (some (18, false))⟩,
 ⟨(some 22), .pick (.t 18) (.k (.one (.v (.bool) (true)))) (.t 21), none⟩,
 ⟨(some 23), .mv (.t 22), none⟩,
 ⟨(some 24), .fieldA 1 (.t 3), (some (23, false))⟩,
 ⟨(some 25), .load false 1 (.t 24), (some (23, false))⟩,
 ⟨(some 26), .bin .gtr (.t 25) (.k (.one (.v (.int .i64) ((64 : Int))))), (some (23, false))⟩,
 ⟨(some 27), .pick (.t 23) (.k (.one (.v (.bool) (true)))) (.t 26), none⟩])
 (.cond (.t 27)
 (.seq
 (.reg false [
 ⟨(some 4), .mv (.k (.one (.v (.bool) (false)))), none⟩])
 .ret)
 .skip))
 (.seq
 (.reg false [
 ⟨(some 28), .fieldA 2 (.t 3), none⟩,
 ⟨(some 29), .load false 1 (.t 28), none⟩,
 ⟨(some 30), .len (.t 29), none⟩,
 ⟨(some 31), .fieldA 0 (.t 3), none⟩,
 ⟨(some 32), .load false 1 (.t 31), none⟩,
 ⟨(some 33), .fieldA 1 (.t 3), none⟩,
 ⟨(some 34), .load false 1 (.t 33), none⟩,
 ⟨(some 35), .bin .mul (.t 32) (.t 34), none⟩,
 ⟨(some 36), .bin .eql (.t 30) (.t 35), none⟩,
 ⟨(some 37), .mv (.t 36), none⟩,
 ⟨(some 38), .mv (.t 0), (some (37, true))⟩,
 ⟨(some 39), .fieldA 2 (.t 3), (some (37, true))⟩,
 ⟨(some 40), .load false 1 (.t 39), (some (37, true))⟩,
 ⟨(some 41), .call .froz 58 [(.t 38), (.t 40)], (some (37, true))⟩,
 ⟨(some 42), .pick (.t 37) (.t 41) (.k (.one (.v (.bool) (false)))), none⟩,
 ⟨(some 4), .mv (.t 42), none⟩])
 .ret)))
def ms_impl_MatrixOk : List MRes := [.tmp 4]
theorem n_impl_MatrixOk (NN : Nat) (x : DLL (Sig.tys ag_impl_MatrixOk)) : runS NN [fn_impl_IsPrime, fn_impl_inMod] sc_impl_MatrixOk ms_impl_MatrixOk ag_impl_MatrixOk rs_impl_MatrixOk x = G_impl_MatrixOk NN x := by kernel_rfl
theorem k_impl_MatrixOk : chkS Go.Proofs.Try.prog 59 sc_impl_MatrixOk.er ms_impl_MatrixOk 2 = true := by decide +kernel
theorem p_impl_MatrixOk : PureSpec Go.Proofs.Try.prog 59 fn_impl_MatrixOk.M ∧ chkFun Go.Proofs.Try.prog 59 = true :=
  pure_of_runS (T := [fn_impl_IsPrime, fn_impl_inMod]) (sc := sc_impl_MatrixOk) (ms := ms_impl_MatrixOk) (args := ag_impl_MatrixOk) (res := rs_impl_MatrixOk) (SOk.cons p_impl_IsPrime <| SOk.cons p_impl_inMod <| SOk.nil) follows_ok k_impl_MatrixOk F_impl_MatrixOk fun x y h => (n_impl_MatrixOk FUEL x).trans (f_impl_MatrixOk x y h)

def fn_impl_AutomatonOk : SFn := ⟨18, ag_impl_AutomatonOk, mu_impl_AutomatonOk, rs_impl_AutomatonOk, F_impl_AutomatonOk⟩
def sc_impl_AutomatonOk : SCode :=
 (.seq
 (.reg false [
 ⟨(some 1), .box 5 (.t 0), none⟩,
 ⟨(some 2), .mv (.k (.one (.v (.bool) (false)))), none⟩])
 (.seq
 (.seq
 (.reg false [
 ⟨(some 5), .fieldA 0 (.t 1), none⟩,
 ⟨(some 6), .load false 1 (.t 5), none⟩,
 ⟨(some 7), .call .froz 57 [(.t 6)], none⟩,
 ⟨(some 8), .un .not (.t 7), none⟩,
 ⟨(some 9), .mv (.t 8), none⟩,
 ⟨(some 10), .fieldA 1 (.t 1), (some (9, false))⟩,
 ⟨(some 11), .load false 1 (.t 10), (some (9, false))⟩,
 ⟨(some 12), .bin .lss (.t 11) (.k (.one (.v (.int .i64) ((0 : Int))))), (some (9, false))⟩,
 ⟨(some 13), .pick (.t 9) (.k (.one (.v (.bool) (true)))) (.t 12), none⟩,
 ⟨(some 14), .mv (.t 13), none⟩,
 ⟨(some 15), .fieldA 1 (.t 1), (some (14, false))⟩,
 ⟨(some 16), .load false 1 (.t 15), (some (14, false))⟩,
 ⟨(some 17), .bin .gtr (.t 16) (.k (.one (.v (.int .i64) ((12 : Int))))), (some (14, false))⟩,
 ⟨(some 18), .pick (.t 14) (.k (.one (.v (.bool) (true)))) (.t 17), none⟩,
 ⟨(some 19), .mv (.t 18), none⟩,
 ⟨(some 20), .fieldA 2 (.t 1), (some (19, false))⟩,
 ⟨(some 21), .load false 1 (.t 20), (some (19, false))⟩,
 ⟨(some 22), .len (.t 21), (some (19, false))⟩,
 ⟨(some 23), .fieldA 1 (.t 1), (some (19, false))⟩,
 ⟨(some 24), .load false 1 (.t 23), (some (19, false))⟩,
 ⟨(some 25), .bin .neq (.t 22) (.t 24), (some (19, false))⟩,
 ⟨(some 26), .pick (.t 19) (.k (.one (.v (.bool) (true)))) (.t 25), none⟩,
 ⟨(some 27), .mv (.t 26), none⟩,
 ⟨(some 28), .fieldA 4 (.t 1), (some (27, false))⟩,
 ⟨(some 29), .load false 1 (.t 28), (some (27, false))⟩,
 ⟨(some 30), .len (.t 29), (some (27, false))⟩,
 ⟨(some 31), .fieldA 1 (.t 1), (some (27, false))⟩,
 ⟨(some 32), .load false 1 (.t 31), (some (27, false))⟩,
 ⟨(some 33), .bin .neq (.t 30) (.t 32), (some (27, false))⟩,
 ⟨(some 34), .pick (.t 27) (.k (.one (.v (.bool) (true)))) (.t 33), none⟩])
 (.cond (.t 34)
 (.seq
 (.reg false [
 ⟨(some 2), .mv (.k (.one (.v (.bool) (false)))), none⟩])
 .ret)
 .skip))
 (.seq
 (.seq
 (.reg false [
 ⟨(some 35), .fieldA 0 (.t 1), none⟩,
 ⟨(some 36), .load false 1 (.t 35), none⟩,
 ⟨(some 37), .fieldA 2 (.t 1), none⟩,
 ⟨(some 38), .load false 1 (.t 37), none⟩,
 ⟨(some 39), .call .froz 58 [(.t 36), (.t 38)], none⟩,
 ⟨(some 40), .un .not (.t 39), none⟩,
 ⟨(some 41), .mv (.t 40), none⟩,
 ⟨(some 42), .fieldA 0 (.t 1), (some (41, false))⟩,
 ⟨(some 43), .load false 1 (.t 42), (some (41, false))⟩,
 ⟨(some 44), .fieldA 4 (.t 1), (some (41, false))⟩,
 ⟨(some 45), .load false 1 (.t 44), (some (41, false))⟩,
 ⟨(some 46), .call .froz 58 [(.t 43), (.t 45)], (some (41, false))⟩,
 ⟨(some 47), .un .not (.t 46), (some (41, false))⟩,
 ⟨(some 48), .pick (.t 41) (.k (.one (.v (.bool) (true)))) (.t 47), none⟩,
 ⟨(some 49), .mv (.t 48), none⟩,
 ⟨(some 50), .fieldA 3 (.t 1), (some (49, false))⟩,
 ⟨(some 51), .load false 1 (.t 50), (some (49, false))⟩,
 ⟨(some 52), .len (.t 51), (some (49, false))⟩,
 ⟨(some 53), .bin .lss (.t 52) (.k (.one (.v (.int .i64) ((1 : Int))))), (some (49, false))⟩,
 ⟨(some 54), .pick (.t 49) (.k (.one (.v (.bool) (true)))) (.t 53), none⟩,
 ⟨(some 55), .mv (.t 54), none⟩,
 ⟨(some 56), .fieldA 3 (.t 1), (some (55, false))⟩,
 ⟨(some 57), .load false 1 (.t 56), (some (55, false))⟩,
 ⟨(some 58), .len (.t 57), (some (55, false))⟩,
 ⟨(some 59), .bin .gtr (.t 58) (.k (.one (.v (.int .i64) ((4 : Int))))), (some (55, false))⟩,
 ⟨(some 60), .pick (.t 55) (.k (.one (.v (.bool) (true)))) (.t 59), none⟩])
 (.cond (.t 60)
 (.seq
 (.reg false [
 ⟨(some 2), .mv (.k (.one (.v (.bool) (false)))), none⟩])
 .ret)
 .skip))
 (.seq
 (.seq
 (.reg false [
 ⟨(some 61), .fieldA 3 (.t 1), none⟩,
 ⟨(some 62), .load false 1 (.t 61), none⟩,
 ⟨(some 63), .len (.t 62), none⟩,
 ⟨(some 64), .mv (.k (.one (.v (.int .i64) ((0 : Int))))), none⟩])
 (.join ⟨[], []⟩ [1, 8000, 8001, 8002, 8003, 8004, 8005, 40000, 40001, 40002, 40003, 40004, 40005, 47000, 47001, 47002, 47003, 47004, 47005, 4, 72000, 72001, 72002, 72003, 72004, 72005] []
 (.block 0
 (.loop 0 ⟨[(1, .one (.c (.ptr0 1 0))), (62, .one (.c (.v (.list [.int .i64, .int .i64, .list [.int .i64]])))), (63, .one (.c (.v (.int .i64)))), (64, .one (.c (.v (.int .i64))))], [(1, .box [.c (.v (.int .i64)), .c (.v (.int .i64)), .c (.v (.list [.int .i64])), .c (.v (.list [.int .i64, .int .i64, .list [.int .i64]])), .c (.v (.list [.int .i64]))])]⟩ [1, 8000, 8001, 8002, 8003, 8004, 8005, 40000, 40001, 40002, 40003, 40004, 40005, 47000, 47001, 47002, 47003, 47004, 47005, 4, 72000, 72001, 72002, 72003, 72004, 72005] []
 (.seq
 (.reg false [
 ⟨(some 65), .bin .lss (.t 64) (.t 63), none⟩])
 (.seq
 (.cond (.t 65)
 .skip
 (.exit 0))
 (.seq
 (.block 1
 (.seq
 (.reg false [
 ⟨(some 66), .idxA 3 (.t 62) (.t 64), none⟩,
 ⟨(some 67), .load true 3 (.t 66), none⟩,
 ⟨(some 4), .alloc [.v (.int .i64) ((0 : Int)), .v (.int .i64) ((0 : Int)), .nil [.int .i64]], none⟩,
 ⟨none, .store 3 (.t 4) (.t 67), none⟩])
 (.seq
 (.reg false [
 ⟨(some 68), .fieldA 0 (.t 1), none⟩,
 ⟨(some 69), .load false 1 (.t 68), none⟩,
 ⟨(some 70), .load true 3 (.t 4), none⟩,
 ⟨(some 71), .call .froz 59 [(.t 69), (.t 70)], none⟩,
 ⟨(some 72), .un .not (.t 71), none⟩,
 ⟨(some 73), .mv (.t 72), none⟩,
 ⟨(some 74), .fieldA 0 (.t 4), (some (73, false))⟩,
 ⟨(some 75), .load false 1 (.t 74), (some (73, false))⟩,
 ⟨(some 76), .fieldA 1 (.t 1), (some (73, false))⟩,
 ⟨(some 77), .load false 1 (.t 76), (some (73, false))⟩,
 ⟨(some 78), .bin .neq (.t 75) (.t 77), (some (73, false))⟩,
 ⟨(some 79), .pick (.t 73) (.k (.one (.v (.bool) (true)))) (.t 78), none⟩,
 ⟨(some 80), .mv (.t 79), none⟩,
 ⟨(some 81), .fieldA 1 (.t 4), (some (80, false))⟩,
 ⟨(some 82), .load false 1 (.t 81), (some (80, false))⟩,
 ⟨(some 83), .fieldA 1 (.t 1), (some (80, false))⟩,
 ⟨(some 84), .load false 1 (.t 83), (some (80, false))⟩,
 ⟨(some 85), .bin .neq (.t 82) (.t 84), (some (80, false))⟩,
 ⟨(some 86), .pick (.t 80) (.k (.one (.v (.bool) (true)))) (.t 85), none⟩])
 (.cond (.t 86)
 (.seq
 (.reg false [
 ⟨(some 2), .mv (.k (.one (.v (.bool) (false)))), none⟩])
 .ret)
 .skip))))
 (.reg false [
 ⟨(some 87), .bin .add (.t 64) (.k (.one (.v (.int .i64) ((1 : Int))))), none⟩,
 ⟨(some 64), .mv (.t 87), none⟩]))))))))
 (.seq
 (.reg false [
 ⟨(some 2), .mv (.k (.one (.v (.bool) (true)))), none⟩])
 .ret)))))
def ms_impl_AutomatonOk : List MRes := [.tmp 2]
theorem n_impl_AutomatonOk (NN : Nat) (x : DLL (Sig.tys ag_impl_AutomatonOk)) : runS NN [fn_impl_IsPrime, fn_impl_inMod, fn_impl_MatrixOk] sc_impl_AutomatonOk ms_impl_AutomatonOk ag_impl_AutomatonOk rs_impl_AutomatonOk x = G_impl_AutomatonOk NN x := by kernel_rfl
theorem k_impl_AutomatonOk : chkS Go.Proofs.Try.prog 18 sc_impl_AutomatonOk.er ms_impl_AutomatonOk 1 = true := by decide +kernel
theorem p_impl_AutomatonOk : PureSpec Go.Proofs.Try.prog 18 fn_impl_AutomatonOk.M ∧ chkFun Go.Proofs.Try.prog 18 = true :=
  pure_of_runS (T := [fn_impl_IsPrime, fn_impl_inMod, fn_impl_MatrixOk]) (sc := sc_impl_AutomatonOk) (ms := ms_impl_AutomatonOk) (args := ag_impl_AutomatonOk) (res := rs_impl_AutomatonOk) (SOk.cons p_impl_IsPrime <| SOk.cons p_impl_inMod <| SOk.cons p_impl_MatrixOk <| SOk.nil) follows_ok k_impl_AutomatonOk F_impl_AutomatonOk fun x y h => (n_impl_AutomatonOk FUEL x).trans (f_impl_AutomatonOk x y h)

def fn_impl_copyInts : SFn := ⟨76, ag_impl_copyInts, mu_impl_copyInts, rs_impl_copyInts, F_impl_copyInts⟩
def sc_impl_copyInts : SCode :=
 (.seq
 (.reg false [
 ⟨(some 2), .mv (.k (.one (.nil [.int .i64]))), none⟩])
 (.seq
 (.reg false [
 ⟨(some 3), .mv (.t 0), none⟩,
 ⟨(some 4), .append true [.int .i64] 8 (.k (.one (.nil [.int .i64]))) (.t 3), none⟩,
 ⟨(some 2), .mv (.t 4), none⟩])
 .ret))
def ms_impl_copyInts : List MRes := [.tmp 2]
theorem n_impl_copyInts (NN : Nat) (x : DLL (Sig.tys ag_impl_copyInts)) : runS NN [] sc_impl_copyInts ms_impl_copyInts ag_impl_copyInts rs_impl_copyInts x = G_impl_copyInts NN x := by kernel_rfl
theorem k_impl_copyInts : chkS Go.Proofs.Try.prog 76 sc_impl_copyInts.er ms_impl_copyInts 1 = true := by decide +kernel
theorem p_impl_copyInts : PureSpec Go.Proofs.Try.prog 76 fn_impl_copyInts.M ∧ chkFun Go.Proofs.Try.prog 76 = true :=
  pure_of_runS (T := []) (sc := sc_impl_copyInts) (ms := ms_impl_copyInts) (args := ag_impl_copyInts) (res := rs_impl_copyInts) (SOk.nil) follows_ok k_impl_copyInts F_impl_copyInts fun x y h => (n_impl_copyInts FUEL x).trans (f_impl_copyInts x y h)

def fn_impl_emptyMatrix : SFn := ⟨102, ag_impl_emptyMatrix, mu_impl_emptyMatrix, rs_impl_emptyMatrix, F_impl_emptyMatrix⟩
def sc_impl_emptyMatrix : SCode :=
 (.seq
 (.reg false [
 ⟨(some 4), .alloc [.v (.int .i64) ((0 : Int)), .v (.int .i64) ((0 : Int)), .nil [.int .i64]], none⟩])
 (.seq
 (.reg false [
 ⟨(some 5), .mv (.t 0), none⟩,
 ⟨(some 6), .mv (.t 1), none⟩,
 ⟨(some 7), .mv (.t 0), none⟩,
 ⟨(some 8), .mv (.t 1), none⟩,
 ⟨(some 9), .bin .mul (.t 7) (.t 8), none⟩,
 ⟨(some 10), .mkslice .froz [.int .i64] 8 (0 : Int) (.t 9) (.t 9), none⟩,
 ⟨(some 11), .build [.v (.int .i64) ((0 : Int)), .v (.int .i64) ((0 : Int)), .nil [.int .i64]] [(0, 1, (.t 5)), (1, 1, (.t 6)), (2, 1, (.t 10))], none⟩,
 ⟨none, .store 3 (.t 4) (.t 11), none⟩])
 .ret))
def ms_impl_emptyMatrix : List MRes := [.cell 4 3 true]
theorem n_impl_emptyMatrix (NN : Nat) (x : DLL (Sig.tys ag_impl_emptyMatrix)) : runS NN [] sc_impl_emptyMatrix ms_impl_emptyMatrix ag_impl_emptyMatrix rs_impl_emptyMatrix x = G_impl_emptyMatrix NN x := by kernel_rfl
theorem k_impl_emptyMatrix : chkS Go.Proofs.Try.prog 102 sc_impl_emptyMatrix.er ms_impl_emptyMatrix 2 = true := by decide +kernel
theorem p_impl_emptyMatrix : PureSpec Go.Proofs.Try.prog 102 fn_impl_emptyMatrix.M ∧ chkFun Go.Proofs.Try.prog 102 = true :=
  pure_of_runS (T := []) (sc := sc_impl_emptyMatrix) (ms := ms_impl_emptyMatrix) (args := ag_impl_emptyMatrix) (res := rs_impl_emptyMatrix) (SOk.nil) follows_ok k_impl_emptyMatrix F_impl_emptyMatrix fun x y h => (n_impl_emptyMatrix FUEL x).trans (f_impl_emptyMatrix x y h)

def fn_impl_Matrix_at : SFn := ⟨104, ag_impl_Matrix_at, mu_impl_Matrix_at, rs_impl_Matrix_at, F_impl_Matrix_at⟩
def sc_impl_Matrix_at : SCode :=
 (.seq
 (.reg false [
 ⟨(some 3), .box 3 (.t 0), none⟩,
 ⟨(some 6), .mv (.k (.one (.v (.int .i64) ((0 : Int))))), none⟩])
 (.seq
 (.reg false [
 ⟨(some 7), .fieldA 2 (.t 3), none⟩,
 ⟨(some 8), .load false 1 (.t 7), none⟩,
 ⟨(some 9), .mv (.t 1), none⟩,
 ⟨(some 10), .fieldA 1 (.t 3), none⟩,
 ⟨(some 11), .load false 1 (.t 10), none⟩,
 ⟨(some 12), .bin .mul (.t 9) (.t 11), none⟩,
 ⟨(some 13), .mv (.t 2), none⟩,
 ⟨(some 14), .bin .add (.t 12) (.t 13), none⟩,
 ⟨(some 15), .idxA 1 (.t 8) (.t 14), none⟩,
 ⟨(some 16), .load false 1 (.t 15), none⟩,
 ⟨(some 6), .mv (.t 16), none⟩])
 .ret))
def ms_impl_Matrix_at : List MRes := [.tmp 6]
theorem n_impl_Matrix_at (NN : Nat) (x : DLL (Sig.tys ag_impl_Matrix_at)) : runS NN [] sc_impl_Matrix_at ms_impl_Matrix_at ag_impl_Matrix_at rs_impl_Matrix_at x = G_impl_Matrix_at NN x := by kernel_rfl
theorem k_impl_Matrix_at : chkS Go.Proofs.Try.prog 104 sc_impl_Matrix_at.er ms_impl_Matrix_at 3 = true := by decide +kernel
theorem p_impl_Matrix_at : PureSpec Go.Proofs.Try.prog 104 fn_impl_Matrix_at.M ∧ chkFun Go.Proofs.Try.prog 104 = true :=
  pure_of_runS (T := []) (sc := sc_impl_Matrix_at) (ms := ms_impl_Matrix_at) (args := ag_impl_Matrix_at) (res := rs_impl_Matrix_at) (SOk.nil) follows_ok k_impl_Matrix_at F_impl_Matrix_at fun x y h => (n_impl_Matrix_at FUEL x).trans (f_impl_Matrix_at x y h)

def fn_impl_Matrix_set : SFn := ⟨103, ag_impl_Matrix_set, mu_impl_Matrix_set, rs_impl_Matrix_set, F_impl_Matrix_set⟩
def sc_impl_Matrix_set : SCode :=
 (.seq
 (.reg false [
 ⟨(some 4), .box 3 (.t 0), none⟩])
 (.reg false [
 ⟨(some 8), .fieldA 2 (.t 4), none⟩,
 ⟨(some 9), .load false 1 (.t 8), none⟩,
 ⟨(some 10), .mv (.t 1), none⟩,
 ⟨(some 11), .fieldA 1 (.t 4), none⟩,
 ⟨(some 12), .load false 1 (.t 11), none⟩,
 ⟨(some 13), .bin .mul (.t 10) (.t 12), none⟩,
 ⟨(some 14), .mv (.t 2), none⟩,
 ⟨(some 15), .bin .add (.t 13) (.t 14), none⟩,
 ⟨(some 16), .mv (.t 3), none⟩,
 ⟨(some 17), .idxA 1 (.t 9) (.t 15), none⟩,
 ⟨none, .store 1 (.t 17) (.t 16), none⟩]))
def ms_impl_Matrix_set : List MRes := []
theorem n_impl_Matrix_set (NN : Nat) (x : DLL (Sig.tys ag_impl_Matrix_set)) : runMS NN [] sc_impl_Matrix_set ms_impl_Matrix_set ag_impl_Matrix_set mu_impl_Matrix_set rs_impl_Matrix_set x = G_impl_Matrix_set NN x := by kernel_rfl
theorem k_impl_Matrix_set : chkS Go.Proofs.Try.prog 103 sc_impl_Matrix_set.er ms_impl_Matrix_set 4 = true := by decide +kernel
theorem p_impl_Matrix_set : MutSpec Go.Proofs.Try.prog 103 mu_impl_Matrix_set fn_impl_Matrix_set.MM ∧ chkFun Go.Proofs.Try.prog 103 = true :=
  mut_of_runMS (T := []) (sc := sc_impl_Matrix_set) (ms := ms_impl_Matrix_set) (args := ag_impl_Matrix_set) (mu := mu_impl_Matrix_set) (res := rs_impl_Matrix_set) (SOk.nil) follows_ok k_impl_Matrix_set F_impl_Matrix_set fun x y h => (n_impl_Matrix_set FUEL x).trans (f_impl_Matrix_set x y h)

def fn_impl_rawMulMatrix : SFn := ⟨88, ag_impl_rawMulMatrix, mu_impl_rawMulMatrix, rs_impl_rawMulMatrix, F_impl_rawMulMatrix⟩
def sc_impl_rawMulMatrix : SCode :=
 (.seq
 (.reg false [
 ⟨(some 4), .box 3 (.t 1), none⟩,
 ⟨(some 5), .box 3 (.t 2), none⟩,
 ⟨(some 6), .alloc [.v (.int .i64) ((0 : Int)), .v (.int .i64) ((0 : Int)), .nil [.int .i64]], none⟩])
 (.seq
 (.reg false [
 ⟨(some 12), .fieldA 0 (.t 4), none⟩,
 ⟨(some 13), .load false 1 (.t 12), none⟩,
 ⟨(some 14), .fieldA 1 (.t 5), none⟩,
 ⟨(some 15), .load false 1 (.t 14), none⟩,
 ⟨(some 16), .call .froz 102 [(.t 13), (.t 15)], none⟩,
 ⟨(some 7), .alloc [.v (.int .i64) ((0 : Int)), .v (.int .i64) ((0 : Int)), .nil [.int .i64]], none⟩,
 ⟨none, .store 3 (.t 7) (.t 16), none⟩])
 (.seq
 (.seq
 (.reg false [
 ⟨(some 8), .mv (.k (.one (.v (.int .i64) ((0 : Int))))), none⟩])
 (.join ⟨[(7, .one (.c (.ptr0 7 0))), (6, .one (.c (.ptr0 6 0)))], [(6, .box [.c (.v (.int .i64)), .c (.v (.int .i64)), .c (.full 500012 1)]), (7, .box [.c (.v (.int .i64)), .c (.v (.int .i64)), .c (.full 500013 1)]), (500012, .row true .froz [.int .i64]), (500013, .row true .froz [.int .i64])]⟩ [4, 5, 6, 17000, 17001, 17002, 17003, 17004, 17005, 7, 40000, 40001, 40002, 40003, 40004, 40005, 44000, 44001, 44002, 44003, 44004, 44005, 53000, 53001, 53002, 53003, 53004, 53005, 500000, 500001, 500002, 500003, 500004, 500005, 500006, 500007, 500008, 500009, 500010, 500011, 500012, 500013] [(true, 6, 2, 500012, .froz, []), (true, 7, 2, 500013, .froz, [])]
 (.block 0
 (.loop 0 ⟨[(0, .one (.c (.v (.int .i64)))), (4, .one (.c (.ptr0 4 0))), (5, .one (.c (.ptr0 5 0))), (6, .one (.c (.ptr0 6 0))), (7, .one (.c (.ptr0 7 0))), (8, .one (.c (.v (.int .i64))))], [(4, .box [.c (.v (.int .i64)), .c (.v (.int .i64)), .c (.v (.list [.int .i64]))]), (5, .box [.c (.v (.int .i64)), .c (.v (.int .i64)), .c (.v (.list [.int .i64]))]), (6, .box [.c (.v (.int .i64)), .c (.v (.int .i64)), .c (.full 500000 1)]), (7, .box [.c (.v (.int .i64)), .c (.v (.int .i64)), .c (.full 500001 1)]), (500000, .row true .froz [.int .i64]), (500001, .row true .froz [.int .i64])]⟩ [4, 5, 6, 17000, 17001, 17002, 17003, 17004, 17005, 7, 40000, 40001, 40002, 40003, 40004, 40005, 44000, 44001, 44002, 44003, 44004, 44005, 53000, 53001, 53002, 53003, 53004, 53005, 500000, 500001, 500002, 500003, 500004, 500005, 500006, 500007, 500008, 500009, 500010, 500011, 500012, 500013] [(true, 6, 2, 500000, .froz, []), (true, 7, 2, 500001, .froz, [])]
 (.seq
 (.seq
 (.reg false [
 ⟨(some 17), .mv (.t 8), none⟩,
 ⟨(some 18), .fieldA 0 (.t 4), none⟩,
 ⟨(some 19), .load false 1 (.t 18), none⟩,
 ⟨(some 20), .bin .lss (.t 17) (.t 19), none⟩])
 (.cond (.t 20)
 .skip
 (.exit 0)))
 (.seq
 (.join ⟨[(8, .one (.c (.v (.int .i64)))), (0, .one (.c (.v (.int .i64)))), (4, .one (.c (.ptr0 4 0))), (5, .one (.c (.ptr0 5 0))), (6, .one (.c (.ptr0 6 0))), (7, .one (.c (.ptr0 7 0)))], [(4, .box [.c (.v (.int .i64)), .c (.v (.int .i64)), .c (.v (.list [.int .i64]))]), (5, .box [.c (.v (.int .i64)), .c (.v (.int .i64)), .c (.v (.list [.int .i64]))]), (6, .box [.c (.v (.int .i64)), .c (.v (.int .i64)), .c (.full 500010 1)]), (7, .box [.c (.v (.int .i64)), .c (.v (.int .i64)), .c (.full 500011 1)]), (500010, .row true .froz [.int .i64]), (500011, .row true .froz [.int .i64])]⟩ [4, 5, 6, 17000, 17001, 17002, 17003, 17004, 17005, 7, 40000, 40001, 40002, 40003, 40004, 40005, 44000, 44001, 44002, 44003, 44004, 44005, 53000, 53001, 53002, 53003, 53004, 53005, 500000, 500001, 500002, 500003, 500004, 500005, 500006, 500007, 500008, 500009, 500010, 500011, 500012, 500013] [(true, 6, 2, 500010, .froz, []), (true, 7, 2, 500011, .froz, [])]
 (.block 1
 (.seq
 (.reg false [
 ⟨(some 9), .mv (.k (.one (.v (.int .i64) ((0 : Int))))), none⟩])
 (.block 2
 (.loop 0 ⟨[(0, .one (.c (.v (.int .i64)))), (4, .one (.c (.ptr0 4 0))), (5, .one (.c (.ptr0 5 0))), (6, .one (.c (.ptr0 6 0))), (7, .one (.c (.ptr0 7 0))), (8, .one (.c (.v (.int .i64)))), (9, .one (.c (.v (.int .i64))))], [(4, .box [.c (.v (.int .i64)), .c (.v (.int .i64)), .c (.v (.list [.int .i64]))]), (5, .box [.c (.v (.int .i64)), .c (.v (.int .i64)), .c (.v (.list [.int .i64]))]), (6, .box [.c (.v (.int .i64)), .c (.v (.int .i64)), .c (.full 500002 1)]), (7, .box [.c (.v (.int .i64)), .c (.v (.int .i64)), .c (.full 500003 1)]), (500002, .row true .froz [.int .i64]), (500003, .row true .froz [.int .i64])]⟩ [4, 5, 6, 17000, 17001, 17002, 17003, 17004, 17005, 7, 40000, 40001, 40002, 40003, 40004, 40005, 44000, 44001, 44002, 44003, 44004, 44005, 53000, 53001, 53002, 53003, 53004, 53005, 500000, 500001, 500002, 500003, 500004, 500005, 500006, 500007, 500008, 500009, 500010, 500011, 500012, 500013] [(true, 6, 2, 500002, .froz, []), (true, 7, 2, 500003, .froz, [])]
 (.seq
 (.seq
 (.reg false [
 ⟨(some 23), .mv (.t 9), none⟩,
 ⟨(some 24), .fieldA 1 (.t 5), none⟩,
 ⟨(some 25), .load false 1 (.t 24), none⟩,
 ⟨(some 26), .bin .lss (.t 23) (.t 25), none⟩])
 (.cond (.t 26)
 .skip
 (.exit 2)))
 (.seq
 (.join ⟨[(9, .one (.c (.v (.int .i64)))), (0, .one (.c (.v (.int .i64)))), (4, .one (.c (.ptr0 4 0))), (5, .one (.c (.ptr0 5 0))), (6, .one (.c (.ptr0 6 0))), (7, .one (.c (.ptr0 7 0))), (8, .one (.c (.v (.int .i64))))], [(4, .box [.c (.v (.int .i64)), .c (.v (.int .i64)), .c (.v (.list [.int .i64]))]), (5, .box [.c (.v (.int .i64)), .c (.v (.int .i64)), .c (.v (.list [.int .i64]))]), (6, .box [.c (.v (.int .i64)), .c (.v (.int .i64)), .c (.full 500008 1)]), (7, .box [.c (.v (.int .i64)), .c (.v (.int .i64)), .c (.full 500009 1)]), (500008, .row true .froz [.int .i64]), (500009, .row true .froz [.int .i64])]⟩ [4, 5, 6, 17000, 17001, 17002, 17003, 17004, 17005, 7, 40000, 40001, 40002, 40003, 40004, 40005, 44000, 44001, 44002, 44003, 44004, 44005, 53000, 53001, 53002, 53003, 53004, 53005, 500000, 500001, 500002, 500003, 500004, 500005, 500006, 500007, 500008, 500009, 500010, 500011, 500012, 500013] [(true, 6, 2, 500008, .froz, []), (true, 7, 2, 500009, .froz, [])]
 (.block 3
 (.seq
 (.reg false [
 ⟨(some 10), .mv (.k (.one (.v (.int .i64) ((0 : Int))))), none⟩])
 (.seq
 (.seq
 (.reg false [
 ⟨(some 11), .mv (.k (.one (.v (.int .i64) ((0 : Int))))), none⟩])
 (.join ⟨[(10, .one (.c (.v (.int .i64)))), (9, .one (.c (.v (.int .i64)))), (0, .one (.c (.v (.int .i64)))), (4, .one (.c (.ptr0 4 0))), (5, .one (.c (.ptr0 5 0))), (6, .one (.c (.ptr0 6 0))), (7, .one (.c (.ptr0 7 0))), (8, .one (.c (.v (.int .i64))))], [(4, .box [.c (.v (.int .i64)), .c (.v (.int .i64)), .c (.v (.list [.int .i64]))]), (5, .box [.c (.v (.int .i64)), .c (.v (.int .i64)), .c (.v (.list [.int .i64]))]), (6, .box [.c (.v (.int .i64)), .c (.v (.int .i64)), .c (.full 500006 1)]), (7, .box [.c (.v (.int .i64)), .c (.v (.int .i64)), .c (.full 500007 1)]), (500006, .row true .froz [.int .i64]), (500007, .row true .froz [.int .i64])]⟩ [4, 5, 6, 17000, 17001, 17002, 17003, 17004, 17005, 7, 40000, 40001, 40002, 40003, 40004, 40005, 44000, 44001, 44002, 44003, 44004, 44005, 53000, 53001, 53002, 53003, 53004, 53005, 500000, 500001, 500002, 500003, 500004, 500005, 500006, 500007, 500008, 500009, 500010, 500011, 500012, 500013] [(true, 6, 2, 500006, .froz, []), (true, 7, 2, 500007, .froz, [])]
 (.block 4
 (.loop 0 ⟨[(0, .one (.c (.v (.int .i64)))), (4, .one (.c (.ptr0 4 0))), (5, .one (.c (.ptr0 5 0))), (6, .one (.c (.ptr0 6 0))), (7, .one (.c (.ptr0 7 0))), (8, .one (.c (.v (.int .i64)))), (9, .one (.c (.v (.int .i64)))), (10, .one (.c (.v (.int .i64)))), (11, .one (.c (.v (.int .i64))))], [(4, .box [.c (.v (.int .i64)), .c (.v (.int .i64)), .c (.v (.list [.int .i64]))]), (5, .box [.c (.v (.int .i64)), .c (.v (.int .i64)), .c (.v (.list [.int .i64]))]), (6, .box [.c (.v (.int .i64)), .c (.v (.int .i64)), .c (.full 500004 1)]), (7, .box [.c (.v (.int .i64)), .c (.v (.int .i64)), .c (.full 500005 1)]), (500004, .row true .froz [.int .i64]), (500005, .row true .froz [.int .i64])]⟩ [4, 5, 6, 17000, 17001, 17002, 17003, 17004, 17005, 7, 40000, 40001, 40002, 40003, 40004, 40005, 44000, 44001, 44002, 44003, 44004, 44005, 53000, 53001, 53002, 53003, 53004, 53005, 500000, 500001, 500002, 500003, 500004, 500005, 500006, 500007, 500008, 500009, 500010, 500011, 500012, 500013] [(true, 6, 2, 500004, .froz, []), (true, 7, 2, 500005, .froz, [])]
 (.seq
 (.seq
 (.reg false [
 ⟨(some 29), .mv (.t 11), none⟩,
 ⟨(some 30), .fieldA 1 (.t 4), none⟩,
 ⟨(some 31), .load false 1 (.t 30), none⟩,
 ⟨(some 32), .bin .lss (.t 29) (.t 31), none⟩])
 (.cond (.t 32)
 .skip
 (.exit 4)))
 (.seq
 (.block 5
 (.reg true [
 ⟨(some 35), .mv (.t 10), none⟩,
 ⟨(some 36), .load true 3 (.t 4), none⟩,
 ⟨(some 37), .mv (.t 8), none⟩,
 ⟨(some 38), .mv (.t 11), none⟩,
 ⟨(some 39), .call .froz 104 [(.t 36), (.t 37), (.t 38)], none⟩,
 ⟨(some 40), .load true 3 (.t 5), none⟩,
 ⟨(some 41), .mv (.t 11), none⟩,
 ⟨(some 42), .mv (.t 9), none⟩,
 ⟨(some 43), .call .froz 104 [(.t 40), (.t 41), (.t 42)], none⟩,
 ⟨(some 44), .bin .mul (.t 39) (.t 43), none⟩,
 ⟨(some 45), .bin .add (.t 35) (.t 44), none⟩,
 ⟨(some 46), .mv (.t 0), none⟩,
 ⟨(some 47), .bin .rem (.t 45) (.t 46), none⟩,
 ⟨(some 10), .mv (.t 47), none⟩]))
 (.reg false [
 ⟨(some 33), .mv (.t 11), none⟩,
 ⟨(some 34), .bin .add (.t 33) (.k (.one (.v (.int .i64) ((1 : Int))))), none⟩,
 ⟨(some 11), .mv (.t 34), none⟩])))))))
 (.reg false [
 ⟨(some 48), .load true 3 (.t 7), none⟩,
 ⟨(some 49), .mv (.t 8), none⟩,
 ⟨(some 50), .mv (.t 9), none⟩,
 ⟨(some 51), .mv (.t 10), none⟩,
 ⟨(some 52), .callm .froz 103 [(.t 48), (.t 49), (.t 50), (.t 51)], none⟩])))))
 (.reg false [
 ⟨(some 27), .mv (.t 9), none⟩,
 ⟨(some 28), .bin .add (.t 27) (.k (.one (.v (.int .i64) ((1 : Int))))), none⟩,
 ⟨(some 9), .mv (.t 28), none⟩]))))))))
 (.reg false [
 ⟨(some 21), .mv (.t 8), none⟩,
 ⟨(some 22), .bin .add (.t 21) (.k (.one (.v (.int .i64) ((1 : Int))))), none⟩,
 ⟨(some 8), .mv (.t 22), none⟩])))))))
 (.seq
 (.reg false [
 ⟨(some 53), .load true 3 (.t 7), none⟩,
 ⟨none, .store 3 (.t 6) (.t 53), none⟩])
 .ret))))
def ms_impl_rawMulMatrix : List MRes := [.cell 6 3 true]
theorem n_impl_rawMulMatrix (NN : Nat) (x : DLL (Sig.tys ag_impl_rawMulMatrix)) : runS NN [fn_impl_emptyMatrix, fn_impl_Matrix_at, fn_impl_Matrix_set] sc_impl_rawMulMatrix ms_impl_rawMulMatrix ag_impl_rawMulMatrix rs_impl_rawMulMatrix x = G_impl_rawMulMatrix NN x := by kernel_rfl
theorem k_impl_rawMulMatrix : chkS Go.Proofs.Try.prog 88 sc_impl_rawMulMatrix.er ms_impl_rawMulMatrix 3 = true := by decide +kernel
theorem p_impl_rawMulMatrix : PureSpec Go.Proofs.Try.prog 88 fn_impl_rawMulMatrix.M ∧ chkFun Go.Proofs.Try.prog 88 = true :=
  pure_of_runS (T := [fn_impl_emptyMatrix, fn_impl_Matrix_at, fn_impl_Matrix_set]) (sc := sc_impl_rawMulMatrix) (ms := ms_impl_rawMulMatrix) (args := ag_impl_rawMulMatrix) (res := rs_impl_rawMulMatrix) (SOk.cons p_impl_emptyMatrix <| SOk.cons p_impl_Matrix_at <| SOk.consM p_impl_Matrix_set <| SOk.nil) follows_ok k_impl_rawMulMatrix F_impl_rawMulMatrix fun x y h => (n_impl_rawMulMatrix FUEL x).trans (f_impl_rawMulMatrix x y h)

def fn_impl_wordRow : SFn := ⟨105, ag_impl_wordRow, mu_impl_wordRow, rs_impl_wordRow, F_impl_wordRow⟩
def sc_impl_wordRow : SCode :=
 (.seq
 (.reg false [
 ⟨(some 2), .box 5 (.t 0), none⟩,
 ⟨(some 4), .mv (.k (.one (.nil [.int .i64]))), none⟩])
 (.seq
 (.reg false [
 ⟨(some 8), .fieldA 2 (.t 2), none⟩,
 ⟨(some 9), .load false 1 (.t 8), none⟩,
 ⟨(some 10), .call .froz 76 [(.t 9)], none⟩,
 ⟨(some 11), .rowm 68 false (.t 10), none⟩,
 ⟨(some 5), .alloc [.v (.int .i64) ((0 : Int)), .v (.int .i64) ((0 : Int)), .nil [.int .i64]], none⟩,
 ⟨none, .store 3 (.t 5) (.t 11), none⟩])
 (.seq
 (.seq
 (.reg false [
 ⟨(some 12), .mv (.t 1), none⟩,
 ⟨(some 13), .len (.t 12), none⟩,
 ⟨(some 14), .mv (.k (.one (.v (.int .i64) ((0 : Int))))), none⟩])
 (.join ⟨[(5, .one (.c (.ptr0 5 0)))], [(5, .box [.c (.v (.int .i64)), .c (.v (.int .i64)), .c (.full 500001 1)]), (500001, .row true .froz [.int .i64])]⟩ [2, 11000, 11001, 11002, 11003, 11004, 11005, 5, 27000, 27001, 27002, 27003, 27004, 27005, 500000, 500001] [(true, 5, 2, 500001, .froz, [])]
 (.block 0
 (.loop 0 ⟨[(2, .one (.c (.ptr0 2 0))), (5, .one (.c (.ptr0 5 0))), (12, .one (.c (.v (.list [.int .i64])))), (13, .one (.c (.v (.int .i64)))), (14, .one (.c (.v (.int .i64))))], [(2, .box [.c (.v (.int .i64)), .c (.v (.int .i64)), .c (.v (.list [.int .i64])), .c (.v (.list [.int .i64, .int .i64, .list [.int .i64]])), .c (.v (.list [.int .i64]))]), (5, .box [.c (.v (.int .i64)), .c (.v (.int .i64)), .c (.full 500000 1)]), (500000, .row true .froz [.int .i64])]⟩ [2, 11000, 11001, 11002, 11003, 11004, 11005, 5, 27000, 27001, 27002, 27003, 27004, 27005, 500000, 500001] [(true, 5, 2, 500000, .froz, [])]
 (.seq
 (.reg false [
 ⟨(some 15), .bin .lss (.t 14) (.t 13), none⟩])
 (.seq
 (.cond (.t 15)
 .skip
 (.exit 0))
 (.seq
 (.block 1
 (.seq
 (.reg false [
 ⟨(some 16), .idxA 1 (.t 12) (.t 14), none⟩,
 ⟨(some 17), .load false 1 (.t 16), none⟩,
 ⟨(some 7), .mv (.t 17), none⟩])
 (.reg true [
 ⟨(some 18), .fieldA 0 (.t 2), none⟩,
 ⟨(some 19), .load false 1 (.t 18), none⟩,
 ⟨(some 20), .load true 3 (.t 5), none⟩,
 ⟨(some 21), .fieldA 3 (.t 2), none⟩,
 ⟨(some 22), .load false 1 (.t 21), none⟩,
 ⟨(some 23), .mv (.t 7), none⟩,
 ⟨(some 24), .idxA 3 (.t 22) (.t 23), none⟩,
 ⟨(some 25), .load true 3 (.t 24), none⟩,
 ⟨(some 26), .call .froz 88 [(.t 19), (.t 20), (.t 25)], none⟩,
 ⟨none, .store 3 (.t 5) (.t 26), none⟩])))
 (.reg false [
 ⟨(some 27), .bin .add (.t 14) (.k (.one (.v (.int .i64) ((1 : Int))))), none⟩,
 ⟨(some 14), .mv (.t 27), none⟩]))))))))
 (.seq
 (.reg false [
 ⟨(some 28), .fieldA 2 (.t 5), none⟩,
 ⟨(some 29), .load false 1 (.t 28), none⟩,
 ⟨(some 4), .mv (.t 29), none⟩])
 .ret))))
def ms_impl_wordRow : List MRes := [.tmp 4]
theorem n_impl_wordRow (NN : Nat) (x : DLL (Sig.tys ag_impl_wordRow)) : runS NN [fn_impl_copyInts, fn_impl_rawMulMatrix] sc_impl_wordRow ms_impl_wordRow ag_impl_wordRow rs_impl_wordRow x = G_impl_wordRow NN x := by kernel_rfl
theorem k_impl_wordRow : chkS Go.Proofs.Try.prog 105 sc_impl_wordRow.er ms_impl_wordRow 2 = true := by decide +kernel
theorem p_impl_wordRow : PureSpec Go.Proofs.Try.prog 105 fn_impl_wordRow.M ∧ chkFun Go.Proofs.Try.prog 105 = true :=
  pure_of_runS (T := [fn_impl_copyInts, fn_impl_rawMulMatrix]) (sc := sc_impl_wordRow) (ms := ms_impl_wordRow) (args := ag_impl_wordRow) (res := rs_impl_wordRow) (SOk.cons p_impl_copyInts <| SOk.cons p_impl_rawMulMatrix <| SOk.nil) follows_ok k_impl_wordRow F_impl_wordRow fun x y h => (n_impl_wordRow FUEL x).trans (f_impl_wordRow x y h)

def fn_impl_rawWordWeight : SFn := ⟨70, ag_impl_rawWordWeight, mu_impl_rawWordWeight, rs_impl_rawWordWeight, F_impl_rawWordWeight⟩
def sc_impl_rawWordWeight : SCode :=
 (.seq
 (.reg false [
 ⟨(some 2), .box 5 (.t 0), none⟩,
 ⟨(some 4), .mv (.k (.one (.v (.int .i64) ((0 : Int))))), none⟩])
 (.seq
 (.reg true [
 ⟨(some 5), .fieldA 0 (.t 2), none⟩,
 ⟨(some 6), .load false 1 (.t 5), none⟩,
 ⟨(some 7), .load true 5 (.t 2), none⟩,
 ⟨(some 8), .mv (.t 1), none⟩,
 ⟨(some 9), .call .froz 105 [(.t 7), (.t 8)], none⟩,
 ⟨(some 10), .rowm 68 false (.t 9), none⟩,
 ⟨(some 11), .fieldA 4 (.t 2), none⟩,
 ⟨(some 12), .load false 1 (.t 11), none⟩,
 ⟨(some 13), .rowm 69 true (.t 12), none⟩,
 ⟨(some 14), .call .froz 88 [(.t 6), (.t 10), (.t 13)], none⟩,
 ⟨(some 15), .fld false 2 1 (.t 14), none⟩,
 ⟨(some 16), .idxA 1 (.t 15) (.k (.one (.v (.int .i64) ((0 : Int))))), none⟩,
 ⟨(some 17), .load false 1 (.t 16), none⟩,
 ⟨(some 4), .mv (.t 17), none⟩])
 .ret))
def ms_impl_rawWordWeight : List MRes := [.tmp 4]
theorem n_impl_rawWordWeight (NN : Nat) (x : DLL (Sig.tys ag_impl_rawWordWeight)) : runS NN [fn_impl_wordRow, fn_impl_rawMulMatrix] sc_impl_rawWordWeight ms_impl_rawWordWeight ag_impl_rawWordWeight rs_impl_rawWordWeight x = G_impl_rawWordWeight NN x := by kernel_rfl
theorem k_impl_rawWordWeight : chkS Go.Proofs.Try.prog 70 sc_impl_rawWordWeight.er ms_impl_rawWordWeight 2 = true := by decide +kernel
theorem p_impl_rawWordWeight : PureSpec Go.Proofs.Try.prog 70 fn_impl_rawWordWeight.M ∧ chkFun Go.Proofs.Try.prog 70 = true :=
  pure_of_runS (T := [fn_impl_wordRow, fn_impl_rawMulMatrix]) (sc := sc_impl_rawWordWeight) (ms := ms_impl_rawWordWeight) (args := ag_impl_rawWordWeight) (res := rs_impl_rawWordWeight) (SOk.cons p_impl_wordRow <| SOk.cons p_impl_rawMulMatrix <| SOk.nil) follows_ok k_impl_rawWordWeight F_impl_rawWordWeight fun x y h => (n_impl_rawWordWeight FUEL x).trans (f_impl_rawWordWeight x y h)

def fn_impl_WordWeight : SFn := ⟨24, ag_impl_WordWeight, mu_impl_WordWeight, rs_impl_WordWeight, F_impl_WordWeight⟩
def sc_impl_WordWeight : SCode :=
 (.seq
 (.reg false [
 ⟨(some 2), .box 5 (.t 0), none⟩,
 ⟨(some 4), .mv (.k (.one (.v (.int .i64) ((0 : Int))))), none⟩])
 (.seq
 (.seq
 (.reg false [
 ⟨(some 7), .load true 5 (.t 2), none⟩,
 ⟨(some 8), .call .froz 18 [(.t 7)], none⟩,
 ⟨(some 9), .un .not (.t 8), none⟩,
 ⟨(some 10), .mv (.t 9), none⟩,
 ⟨(some 11), .mv (.t 1), (some (10, false))⟩,
 ⟨(some 12), .len (.t 11), (some (10, false))⟩,
 ⟨(some 13), .bin .gtr (.t 12) (.k (.one (.v (.int .i64) ((24 : Int))))), (some (10, false))⟩,
 ⟨(some 14), .pick (.t 10) (.k (.one (.v (.bool) (true)))) (.t 13), none⟩])
 (.cond (.t 14)
 (.seq
 (.reg false [
 ⟨(some 4), .mv (.k (.one (.v (.int .i64) (((-1) : Int))))), none⟩])
 .ret)
 .skip))
 (.seq
 (.seq
 (.reg false [
 ⟨(some 15), .mv (.t 1), none⟩,
 ⟨(some 16), .len (.t 15), none⟩,
 ⟨(some 17), .mv (.k (.one (.v (.int .i64) ((0 : Int))))), none⟩])
 (.join ⟨[(2, .one (.c (.ptr0 2 0))), (1, .one (.c (.v (.list [.int .i64]))))], [(2, .box [.c (.v (.int .i64)), .c (.v (.int .i64)), .c (.v (.list [.int .i64])), .c (.v (.list [.int .i64, .int .i64, .list [.int .i64]])), .c (.v (.list [.int .i64]))])]⟩ [2, 9000, 9001, 9002, 9003, 9004, 9005, 34000, 34001, 34002, 34003, 34004, 34005] []
 (.block 0
 (.loop 0 ⟨[(1, .one (.c (.v (.list [.int .i64])))), (2, .one (.c (.ptr0 2 0))), (15, .one (.c (.v (.list [.int .i64])))), (16, .one (.c (.v (.int .i64)))), (17, .one (.c (.v (.int .i64))))], [(2, .box [.c (.v (.int .i64)), .c (.v (.int .i64)), .c (.v (.list [.int .i64])), .c (.v (.list [.int .i64, .int .i64, .list [.int .i64]])), .c (.v (.list [.int .i64]))])]⟩ [2, 9000, 9001, 9002, 9003, 9004, 9005, 34000, 34001, 34002, 34003, 34004, 34005] []
 (.seq
 (.reg false [
 ⟨(some 18), .bin .lss (.t 17) (.t 16), none⟩])
 (.seq
 (.cond (.t 18)
 .skip
 (.exit 0))
 (.seq
 (.block 1
 (.seq
 (.reg false [
 ⟨(some 19), .idxA 1 (.t 15) (.t 17), none⟩,
 ⟨(some 20), .load false 1 (.t 19), none⟩,
 ⟨(some 6), .mv (.t 20), none⟩])
 (.seq
 (.reg false [
 ⟨(some 21), .mv (.t 6), none⟩,
 ⟨(some 22), .bin .lss (.t 21) (.k (.one (.v (.int .i64) ((0 : Int))))), none⟩,
 ⟨(some 23), .mv (.t 22), none⟩,
 ⟨(some 24), .mv (.t 6), (some (23, false))⟩,
 ⟨(some 25), .fieldA 3 (.t 2), (some (23, false))⟩,
 ⟨(some 26), .load false 1 (.t 25), (some (23, false))⟩,
 ⟨(some 27), .len (.t 26), (some (23, false))⟩,
 ⟨(some 28), .bin .geq (.t 24) (.t 27), (some (23, false))⟩,
 ⟨(some 29), .pick (.t 23) (.k (.one (.v (.bool) (true)))) (.t 28), none⟩])
 (.cond (.t 29)
 (.seq
 (.reg false [
 ⟨(some 4), .mv (.k (.one (.v (.int .i64) (((-1) : Int))))), none⟩])
 .ret)
 .skip))))
 (.reg false [
 ⟨(some 30), .bin .add (.t 17) (.k (.one (.v (.int .i64) ((1 : Int))))), none⟩,
 ⟨(some 17), .mv (.t 30), none⟩]))))))))
 (.seq
 (.reg false [
 ⟨(some 31), .load true 5 (.t 2), none⟩,
 ⟨(some 32), .mv (.t 1), none⟩,
 ⟨(some 33), .call .froz 70 [(.t 31), (.t 32)], none⟩,
 ⟨(some 4), .mv (.t 33), none⟩])
 .ret))))
def ms_impl_WordWeight : List MRes := [.tmp 4]
theorem n_impl_WordWeight (NN : Nat) (x : DLL (Sig.tys ag_impl_WordWeight)) : runS NN [fn_impl_AutomatonOk, fn_impl_rawWordWeight] sc_impl_WordWeight ms_impl_WordWeight ag_impl_WordWeight rs_impl_WordWeight x = G_impl_WordWeight NN x := by kernel_rfl
theorem k_impl_WordWeight : chkS Go.Proofs.Try.prog 24 sc_impl_WordWeight.er ms_impl_WordWeight 2 = true := by decide +kernel
theorem p_impl_WordWeight : PureSpec Go.Proofs.Try.prog 24 fn_impl_WordWeight.M ∧ chkFun Go.Proofs.Try.prog 24 = true :=
  pure_of_runS (T := [fn_impl_AutomatonOk, fn_impl_rawWordWeight]) (sc := sc_impl_WordWeight) (ms := ms_impl_WordWeight) (args := ag_impl_WordWeight) (res := rs_impl_WordWeight) (SOk.cons p_impl_AutomatonOk <| SOk.cons p_impl_rawWordWeight <| SOk.nil) follows_ok k_impl_WordWeight F_impl_WordWeight fun x y h => (n_impl_WordWeight FUEL x).trans (f_impl_WordWeight x y h)

def fn_laws_eqIntS : SFn := ⟨27, ag_laws_eqIntS, mu_laws_eqIntS, rs_laws_eqIntS, F_laws_eqIntS⟩
def sc_laws_eqIntS : SCode :=
 (.seq
 (.reg false [
 ⟨(some 4), .mv (.k (.one (.v (.bool) (false)))), none⟩])
 (.seq
 (.seq
 (.reg false [
 ⟨(some 6), .mv (.t 0), none⟩,
 ⟨(some 7), .len (.t 6), none⟩,
 ⟨(some 8), .mv (.t 1), none⟩,
 ⟨(some 9), .len (.t 8), none⟩,
 ⟨(some 10), .bin .neq (.t 7) (.t 9), none⟩])
 (.cond (.t 10)
 (.seq
 (.reg false [
 ⟨(some 4), .mv (.k (.one (.v (.bool) (false)))), none⟩])
 .ret)
 .skip))
 (.seq
 (.seq
 (.reg false [
 ⟨(some 5), .mv (.k (.one (.v (.int .i64) ((0 : Int))))), none⟩])
 (.join ⟨[], []⟩ [] []
 (.block 0
 (.loop 0 ⟨[(0, .one (.c (.v (.list [.int .i64])))), (1, .one (.c (.v (.list [.int .i64])))), (5, .one (.c (.v (.int .i64))))], []⟩ [] []
 (.seq
 (.seq
 (.reg false [
 ⟨(some 11), .mv (.t 5), none⟩,
 ⟨(some 12), .mv (.t 0), none⟩,
 ⟨(some 13), .len (.t 12), none⟩,
 ⟨(some 14), .bin .lss (.t 11) (.t 13), none⟩])
 (.cond (.t 14)
 .skip
 (.exit 0)))
 (.seq
 (.block 1
 (.seq
 (.reg true [
 ⟨(some 17), .mv (.t 0), none⟩,
 ⟨(some 18), .mv (.t 5), none⟩,
 ⟨(some 19), .idxA 1 (.t 17) (.t 18), none⟩,
 ⟨(some 20), .load false 1 (.t 19), none⟩,
 ⟨(some 21), .mv (.t 1), none⟩,
 ⟨(some 22), .mv (.t 5), none⟩,
 ⟨(some 23), .idxA 1 (.t 21) (.t 22), none⟩,
 ⟨(some 24), .load false 1 (.t 23), none⟩,
 ⟨(some 25), .bin .neq (.t 20) (.t 24), none⟩])
 (.cond (.t 25)
 (.seq
 (.reg false [
 ⟨(some 4), .mv (.k (.one (.v (.bool) (false)))), none⟩])
 .ret)
 .skip)))
 (.reg false [
 ⟨(some 15), .mv (.t 5), none⟩,
 ⟨(some 16), .bin .add (.t 15) (.k (.one (.v (.int .i64) ((1 : Int))))), none⟩,
 ⟨(some 5), .mv (.t 16), none⟩])))))))
 (.seq
 (.reg false [
 ⟨(some 4), .mv (.k (.one (.v (.bool) (true)))), none⟩])
 .ret))))
def ms_laws_eqIntS : List MRes := [.tmp 4]
theorem n_laws_eqIntS (NN : Nat) (x : DLL (Sig.tys ag_laws_eqIntS)) : runS NN [] sc_laws_eqIntS ms_laws_eqIntS ag_laws_eqIntS rs_laws_eqIntS x = G_laws_eqIntS NN x := by kernel_rfl
theorem k_laws_eqIntS : chkS Go.Proofs.Try.prog 27 sc_laws_eqIntS.er ms_laws_eqIntS 2 = true := by decide +kernel
theorem p_laws_eqIntS : PureSpec Go.Proofs.Try.prog 27 fn_laws_eqIntS.M ∧ chkFun Go.Proofs.Try.prog 27 = true :=
  pure_of_runS (T := []) (sc := sc_laws_eqIntS) (ms := ms_laws_eqIntS) (args := ag_laws_eqIntS) (res := rs_laws_eqIntS) (SOk.nil) follows_ok k_laws_eqIntS F_laws_eqIntS fun x y h => (n_laws_eqIntS FUEL x).trans (f_laws_eqIntS x y h)

def fn_laws_eqMatrix : SFn := ⟨98, ag_laws_eqMatrix, mu_laws_eqMatrix, rs_laws_eqMatrix, F_laws_eqMatrix⟩
def sc_laws_eqMatrix : SCode :=
 (.seq
 (.reg false [
 ⟨(some 2), .box 3 (.t 0), none⟩,
 ⟨(some 3), .box 3 (.t 1), none⟩,
 ⟨(some 4), .mv (.k (.one (.v (.bool) (false)))), none⟩])
 (.seq
 (.seq
 (.reg false [
 ⟨(some 5), .fieldA 0 (.t 2), none⟩,
 ⟨(some 6), .load false 1 (.t 5), none⟩,
 ⟨(some 7), .fieldA 0 (.t 3), none⟩,
 ⟨(some 8), .load false 1 (.t 7), none⟩,
 ⟨(some 9), .bin .neq (.t 6) (.t 8), none⟩])
 (.cond (.t 9)
 (.seq
 (.reg false [
 ⟨(some 4), .mv (.k (.one (.v (.bool) (false)))), none⟩])
 .ret)
 .skip))
 (.seq
 (.seq
 (.reg false [
 ⟨(some 10), .fieldA 1 (.t 2), none⟩,
 ⟨(some 11), .load false 1 (.t 10), none⟩,
 ⟨(some 12), .fieldA 1 (.t 3), none⟩,
 ⟨(some 13), .load false 1 (.t 12), none⟩,
 ⟨(some 14), .bin .neq (.t 11) (.t 13), none⟩])
 (.cond (.t 14)
 (.seq
 (.reg false [
 ⟨(some 4), .mv (.k (.one (.v (.bool) (false)))), none⟩])
 .ret)
 .skip))
 (.seq
 (.seq
 (.reg false [
 ⟨(some 15), .fieldA 2 (.t 2), none⟩,
 ⟨(some 16), .load false 1 (.t 15), none⟩,
 ⟨(some 17), .fieldA 2 (.t 3), none⟩,
 ⟨(some 18), .load false 1 (.t 17), none⟩,
 ⟨(some 19), .call .froz 27 [(.t 16), (.t 18)], none⟩,
 ⟨(some 20), .un .not (.t 19), none⟩])
 (.cond (.t 20)
 (.seq
 (.reg false [
 ⟨(some 4), .mv (.k (.one (.v (.bool) (false)))), none⟩])
 .ret)
 .skip))
 (.seq
 (.reg false [
 ⟨(some 4), .mv (.k (.one (.v (.bool) (true)))), none⟩])
 .ret)))))
def ms_laws_eqMatrix : List MRes := [.tmp 4]
theorem n_laws_eqMatrix (NN : Nat) (x : DLL (Sig.tys ag_laws_eqMatrix)) : runS NN [fn_laws_eqIntS] sc_laws_eqMatrix ms_laws_eqMatrix ag_laws_eqMatrix rs_laws_eqMatrix x = G_laws_eqMatrix NN x := by kernel_rfl
theorem k_laws_eqMatrix : chkS Go.Proofs.Try.prog 98 sc_laws_eqMatrix.er ms_laws_eqMatrix 2 = true := by decide +kernel
theorem p_laws_eqMatrix : PureSpec Go.Proofs.Try.prog 98 fn_laws_eqMatrix.M ∧ chkFun Go.Proofs.Try.prog 98 = true :=
  pure_of_runS (T := [fn_laws_eqIntS]) (sc := sc_laws_eqMatrix) (ms := ms_laws_eqMatrix) (args := ag_laws_eqMatrix) (res := rs_laws_eqMatrix) (SOk.cons p_laws_eqIntS <| SOk.nil) follows_ok k_laws_eqMatrix F_laws_eqMatrix fun x y h => (n_laws_eqMatrix FUEL x).trans (f_laws_eqMatrix x y h)

def fn_laws_eqMatrixS : SFn := ⟨60, ag_laws_eqMatrixS, mu_laws_eqMatrixS, rs_laws_eqMatrixS, F_laws_eqMatrixS⟩
def sc_laws_eqMatrixS : SCode :=
 (.seq
 (.reg false [
 ⟨(some 4), .mv (.k (.one (.v (.bool) (false)))), none⟩])
 (.seq
 (.seq
 (.reg false [
 ⟨(some 6), .mv (.t 0), none⟩,
 ⟨(some 7), .len (.t 6), none⟩,
 ⟨(some 8), .mv (.t 1), none⟩,
 ⟨(some 9), .len (.t 8), none⟩,
 ⟨(some 10), .bin .neq (.t 7) (.t 9), none⟩])
 (.cond (.t 10)
 (.seq
 (.reg false [
 ⟨(some 4), .mv (.k (.one (.v (.bool) (false)))), none⟩])
 .ret)
 .skip))
 (.seq
 (.seq
 (.reg false [
 ⟨(some 5), .mv (.k (.one (.v (.int .i64) ((0 : Int))))), none⟩])
 (.join ⟨[], []⟩ [26000, 26001, 26002, 26003, 26004, 26005] []
 (.block 0
 (.loop 0 ⟨[(0, .one (.c (.v (.list [.int .i64, .int .i64, .list [.int .i64]])))), (1, .one (.c (.v (.list [.int .i64, .int .i64, .list [.int .i64]])))), (5, .one (.c (.v (.int .i64))))], []⟩ [26000, 26001, 26002, 26003, 26004, 26005] []
 (.seq
 (.seq
 (.reg false [
 ⟨(some 11), .mv (.t 5), none⟩,
 ⟨(some 12), .mv (.t 0), none⟩,
 ⟨(some 13), .len (.t 12), none⟩,
 ⟨(some 14), .bin .lss (.t 11) (.t 13), none⟩])
 (.cond (.t 14)
 .skip
 (.exit 0)))
 (.seq
 (.block 1
 (.seq
 (.reg true [
 ⟨(some 17), .mv (.t 0), none⟩,
 ⟨(some 18), .mv (.t 5), none⟩,
 ⟨(some 19), .idxA 3 (.t 17) (.t 18), none⟩,
 ⟨(some 20), .load true 3 (.t 19), none⟩,
 ⟨(some 21), .mv (.t 1), none⟩,
 ⟨(some 22), .mv (.t 5), none⟩,
 ⟨(some 23), .idxA 3 (.t 21) (.t 22), none⟩,
 ⟨(some 24), .load true 3 (.t 23), none⟩,
 ⟨(some 25), .call .froz 98 [(.t 20), (.t 24)], none⟩,
 ⟨(some 26), .un .not (.t 25), none⟩])
 (.cond (.t 26)
 (.seq
 (.reg false [
 ⟨(some 4), .mv (.k (.one (.v (.bool) (false)))), none⟩])
 .ret)
 .skip)))
 (.reg false [
 ⟨(some 15), .mv (.t 5), none⟩,
 ⟨(some 16), .bin .add (.t 15) (.k (.one (.v (.int .i64) ((1 : Int))))), none⟩,
 ⟨(some 5), .mv (.t 16), none⟩])))))))
 (.seq
 (.reg false [
 ⟨(some 4), .mv (.k (.one (.v (.bool) (true)))), none⟩])
 .ret))))
def ms_laws_eqMatrixS : List MRes := [.tmp 4]
theorem n_laws_eqMatrixS (NN : Nat) (x : DLL (Sig.tys ag_laws_eqMatrixS)) : runS NN [fn_laws_eqMatrix] sc_laws_eqMatrixS ms_laws_eqMatrixS ag_laws_eqMatrixS rs_laws_eqMatrixS x = G_laws_eqMatrixS NN x := by kernel_rfl
theorem k_laws_eqMatrixS : chkS Go.Proofs.Try.prog 60 sc_laws_eqMatrixS.er ms_laws_eqMatrixS 2 = true := by decide +kernel
theorem p_laws_eqMatrixS : PureSpec Go.Proofs.Try.prog 60 fn_laws_eqMatrixS.M ∧ chkFun Go.Proofs.Try.prog 60 = true :=
  pure_of_runS (T := [fn_laws_eqMatrix]) (sc := sc_laws_eqMatrixS) (ms := ms_laws_eqMatrixS) (args := ag_laws_eqMatrixS) (res := rs_laws_eqMatrixS) (SOk.cons p_laws_eqMatrix <| SOk.nil) follows_ok k_laws_eqMatrixS F_laws_eqMatrixS fun x y h => (n_laws_eqMatrixS FUEL x).trans (f_laws_eqMatrixS x y h)

def fn_laws_eqAutomaton : SFn := ⟨19, ag_laws_eqAutomaton, mu_laws_eqAutomaton, rs_laws_eqAutomaton, F_laws_eqAutomaton⟩
def sc_laws_eqAutomaton : SCode :=
 (.seq
 (.reg false [
 ⟨(some 2), .box 5 (.t 0), none⟩,
 ⟨(some 3), .box 5 (.t 1), none⟩,
 ⟨(some 4), .mv (.k (.one (.v (.bool) (false)))), none⟩])
 (.seq
 (.seq
 (.reg false [
 ⟨(some 5), .fieldA 0 (.t 2), none⟩,
 ⟨(some 6), .load false 1 (.t 5), none⟩,
 ⟨(some 7), .fieldA 0 (.t 3), none⟩,
 ⟨(some 8), .load false 1 (.t 7), none⟩,
 ⟨(some 9), .bin .neq (.t 6) (.t 8), none⟩])
 (.cond (.t 9)
 (.seq
 (.reg false [
 ⟨(some 4), .mv (.k (.one (.v (.bool) (false)))), none⟩])
 .ret)
 .skip))
 (.seq
 (.seq
 (.reg false [
 ⟨(some 10), .fieldA 1 (.t 2), none⟩,
 ⟨(some 11), .load false 1 (.t 10), none⟩,
 ⟨(some 12), .fieldA 1 (.t 3), none⟩,
 ⟨(some 13), .load false 1 (.t 12), none⟩,
 ⟨(some 14), .bin .neq (.t 11) (.t 13), none⟩])
 (.cond (.t 14)
 (.seq
 (.reg false [
 ⟨(some 4), .mv (.k (.one (.v (.bool) (false)))), none⟩])
 .ret)
 .skip))
 (.seq
 (.seq
 (.reg false [
 ⟨(some 15), .fieldA 2 (.t 2), none⟩,
 ⟨(some 16), .load false 1 (.t 15), none⟩,
 ⟨(some 17), .fieldA 2 (.t 3), none⟩,
 ⟨(some 18), .load false 1 (.t 17), none⟩,
 ⟨(some 19), .call .froz 27 [(.t 16), (.t 18)], none⟩,
 ⟨(some 20), .un .not (.t 19), none⟩])
 (.cond (.t 20)
 (.seq
 (.reg false [
 ⟨(some 4), .mv (.k (.one (.v (.bool) (false)))), none⟩])
 .ret)
 .skip))
 (.seq
 (.seq
 (.reg false [
 ⟨(some 21), .fieldA 3 (.t 2), none⟩,
 ⟨(some 22), .load false 1 (.t 21), none⟩,
 ⟨(some 23), .fieldA 3 (.t 3), none⟩,
 ⟨(some 24), .load false 1 (.t 23), none⟩,
 ⟨(some 25), .call .froz 60 [(.t 22), (.t 24)], none⟩,
 ⟨(some 26), .un .not (.t 25), none⟩])
 (.cond (.t 26)
 (.seq
 (.reg false [
 ⟨(some 4), .mv (.k (.one (.v (.bool) (false)))), none⟩])
 .ret)
 .skip))
 (.seq
 (.seq
 (.reg false [
 ⟨(some 27), .fieldA 4 (.t 2), none⟩,
 ⟨(some 28), .load false 1 (.t 27), none⟩,
 ⟨(some 29), .fieldA 4 (.t 3), none⟩,
 ⟨(some 30), .load false 1 (.t 29), none⟩,
 ⟨(some 31), .call .froz 27 [(.t 28), (.t 30)], none⟩,
 ⟨(some 32), .un .not (.t 31), none⟩])
 (.cond (.t 32)
 (.seq
 (.reg false [
 ⟨(some 4), .mv (.k (.one (.v (.bool) (false)))), none⟩])
 .ret)
 .skip))
 (.seq
 (.reg false [
 ⟨(some 4), .mv (.k (.one (.v (.bool) (true)))), none⟩])
 .ret)))))))
def ms_laws_eqAutomaton : List MRes := [.tmp 4]
theorem n_laws_eqAutomaton (NN : Nat) (x : DLL (Sig.tys ag_laws_eqAutomaton)) : runS NN [fn_laws_eqIntS, fn_laws_eqMatrixS] sc_laws_eqAutomaton ms_laws_eqAutomaton ag_laws_eqAutomaton rs_laws_eqAutomaton x = G_laws_eqAutomaton NN x := by kernel_rfl
theorem k_laws_eqAutomaton : chkS Go.Proofs.Try.prog 19 sc_laws_eqAutomaton.er ms_laws_eqAutomaton 2 = true := by decide +kernel
theorem p_laws_eqAutomaton : PureSpec Go.Proofs.Try.prog 19 fn_laws_eqAutomaton.M ∧ chkFun Go.Proofs.Try.prog 19 = true :=
  pure_of_runS (T := [fn_laws_eqIntS, fn_laws_eqMatrixS]) (sc := sc_laws_eqAutomaton) (ms := ms_laws_eqAutomaton) (args := ag_laws_eqAutomaton) (res := rs_laws_eqAutomaton) (SOk.cons p_laws_eqIntS <| SOk.cons p_laws_eqMatrixS <| SOk.nil) follows_ok k_laws_eqAutomaton F_laws_eqAutomaton fun x y h => (n_laws_eqAutomaton FUEL x).trans (f_laws_eqAutomaton x y h)

def fn_laws_FnExactWordWeight : SFn := ⟨5, ag_laws_FnExactWordWeight, mu_laws_FnExactWordWeight, rs_laws_FnExactWordWeight, F_laws_FnExactWordWeight⟩
def sc_laws_FnExactWordWeight : SCode :=
 (.seq
 (.reg false [
 ⟨(some 2), .box 5 (.t 0), none⟩,
 ⟨(some 4), .mv (.k (.one (.v (.bool) (false)))), none⟩])
 (.seq
 (.seq
 (.reg false [
 ⟨(some 10), .mv (.t 1), none⟩,
 ⟨(some 11), .len (.t 10), none⟩,
 ⟨(some 12), .bin .gtr (.t 11) (.k (.one (.v (.int .i64) ((1048576 : Int))))), none⟩])
 (.cond (.t 12)
 (.seq
 (.reg false [
 ⟨(some 4), .mv (.k (.one (.v (.bool) (true)))), none⟩])
 .ret)
 .skip))
 (.seq
 (.reg false [
 ⟨(some 5), .mv (.k (.one (.v (.int .i64) ((1048576 : Int))))), none⟩])
 (.seq
 (.reg false [
 ⟨(some 13), .load true 5 (.t 2), none⟩,
 ⟨(some 14), .mv (.t 5), none⟩,
 ⟨(some 15), .call .froz 15 [(.t 13), (.t 14)], none⟩,
 ⟨(some 5), .mv (.t 15), none⟩])
 (.seq
 (.seq
 (.reg false [
 ⟨(some 16), .mv (.t 5), none⟩,
 ⟨(some 17), .bin .lss (.t 16) (.k (.one (.v (.int .i64) ((0 : Int))))), none⟩])
 (.cond (.t 17)
 (.seq
 (.reg false [
 ⟨(some 4), .mv (.k (.one (.v (.bool) (true)))), none⟩])
 .ret)
 .skip))
 (.seq
 (.reg false [
 ⟨(some 18), .load true 5 (.t 2), none⟩,
 ⟨(some 19), .call .froz 17 [(.t 18)], none⟩,
 ⟨(some 20), .mv (.t 1), none⟩,
 ⟨(some 21), .call .froz 26 [(.t 20)], none⟩,
 ⟨(some 22), .call .froz 25 [(.t 19), (.t 21)], none⟩,
 ⟨(some 6), .mv (.t 22), none⟩])
 (.seq
 (.reg false [
 ⟨(some 23), .load true 5 (.t 2), none⟩,
 ⟨(some 24), .call .froz 17 [(.t 23)], none⟩,
 ⟨(some 7), .alloc [.v (.int .i64) ((0 : Int)), .v (.int .i64) ((0 : Int)), .nil [.int .i64], .nil [.int .i64, .int .i64, .list [.int .i64]], .nil [.int .i64]], none⟩,
 ⟨none, .store 5 (.t 7) (.t 24), none⟩])
 (.seq
 (.reg false [
 ⟨(some 25), .mv (.t 1), none⟩,
 ⟨(some 26), .call .froz 26 [(.t 25)], none⟩,
 ⟨(some 8), .mv (.t 26), none⟩])
 (.seq
 (.reg false [
 ⟨(some 27), .load true 5 (.t 7), none⟩,
 ⟨(some 28), .mv (.t 8), none⟩,
 ⟨(some 29), .call .froz 24 [(.t 27), (.t 28)], none⟩,
 ⟨(some 9), .mv (.t 29), none⟩])
 (.seq
 (.seq
 (.reg false [
 ⟨(some 30), .mv (.t 9), none⟩,
 ⟨(some 31), .mv (.t 6), none⟩,
 ⟨(some 32), .bin .neq (.t 30) (.t 31), none⟩])
 (.cond (.t 32)
 (.seq
 (.reg false [
 ⟨(some 4), .mv (.k (.one (.v (.bool) (false)))), none⟩])
 .ret)
 .skip))
 (.seq
 (.seq
 (.reg true [
 ⟨(some 33), .load true 5 (.t 7), none⟩,
 ⟨(some 34), .load true 5 (.t 2), none⟩,
 ⟨(some 35), .call .froz 17 [(.t 34)], none⟩,
 ⟨(some 36), .call .froz 19 [(.t 33), (.t 35)], none⟩,
 ⟨(some 37), .un .not (.t 36), none⟩])
 (.cond (.t 37)
 (.seq
 (.reg false [
 ⟨(some 4), .mv (.k (.one (.v (.bool) (false)))), none⟩])
 .ret)
 .skip))
 (.seq
 (.seq
 (.reg false [
 ⟨(some 38), .mv (.t 8), none⟩,
 ⟨(some 39), .mv (.t 1), none⟩,
 ⟨(some 40), .call .froz 26 [(.t 39)], none⟩,
 ⟨(some 41), .call .froz 27 [(.t 38), (.t 40)], none⟩,
 ⟨(some 42), .un .not (.t 41), none⟩])
 (.cond (.t 42)
 (.seq
 (.reg false [
 ⟨(some 4), .mv (.k (.one (.v (.bool) (false)))), none⟩])
 .ret)
 .skip))
 (.seq
 (.reg false [
 ⟨(some 4), .mv (.k (.one (.v (.bool) (true)))), none⟩])
 .ret)))))))))))))
def ms_laws_FnExactWordWeight : List MRes := [.tmp 4]
theorem n_laws_FnExactWordWeight (NN : Nat) (x : DLL (Sig.tys ag_laws_FnExactWordWeight)) : runS NN [fn_laws_szAutomaton, fn_laws_toAutomaton, fn_laws_toIntS, fn_spec_WordWeight, fn_impl_WordWeight, fn_laws_eqAutomaton, fn_laws_eqIntS] sc_laws_FnExactWordWeight ms_laws_FnExactWordWeight ag_laws_FnExactWordWeight rs_laws_FnExactWordWeight x = G_laws_FnExactWordWeight NN x := by kernel_rfl
theorem k_laws_FnExactWordWeight : chkS Go.Proofs.Try.prog 5 sc_laws_FnExactWordWeight.er ms_laws_FnExactWordWeight 2 = true := by decide +kernel
theorem p_laws_FnExactWordWeight : PureSpec Go.Proofs.Try.prog 5 fn_laws_FnExactWordWeight.M ∧ chkFun Go.Proofs.Try.prog 5 = true :=
  pure_of_runS (T := [fn_laws_szAutomaton, fn_laws_toAutomaton, fn_laws_toIntS, fn_spec_WordWeight, fn_impl_WordWeight, fn_laws_eqAutomaton, fn_laws_eqIntS]) (sc := sc_laws_FnExactWordWeight) (ms := ms_laws_FnExactWordWeight) (args := ag_laws_FnExactWordWeight) (res := rs_laws_FnExactWordWeight) (SOk.cons p_laws_szAutomaton <| SOk.cons p_laws_toAutomaton <| SOk.cons p_laws_toIntS <| SOk.cons p_spec_WordWeight <| SOk.cons p_impl_WordWeight <| SOk.cons p_laws_eqAutomaton <| SOk.cons p_laws_eqIntS <| SOk.nil) follows_ok k_laws_FnExactWordWeight F_laws_FnExactWordWeight fun x y h => (n_laws_FnExactWordWeight FUEL x).trans (f_laws_FnExactWordWeight x y h)

end Go.Am
