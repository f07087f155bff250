/- A_AddAutomata: the code of the functions of FnExactAddAutomata. No condition. -/
import Derived.Test.YtckmnjojabgnoaaLAddAutomata
import Derived.Test.YtckmnjojabgnoaaBr2
import Derived.KernelRfl
import Derived.Test.YtckmnjojabgnoaaRows
set_option linter.unusedVariables false
set_option maxRecDepth 100000
namespace Go.Am
theorem follows_ok : Go.Proofs.Try.prog.follows .mixedOrders = true := by decide +kernel
def fn_laws_szIntS : SFn := ⟨50, ag_laws_szIntS, mu_laws_szIntS, rs_laws_szIntS, F_laws_szIntS⟩
def sc_laws_szIntS : SCode :=
 (.seq
 (.reg false [
 ⟨(some 4), .mv (.k (.one (.v (.int .i64) ((0 : Int))))), none⟩])
 (.seq
 (.reg false [
 ⟨(some 5), .mv (.t 1), none⟩,
 ⟨(some 6), .mv (.t 0), none⟩,
 ⟨(some 7), .len (.t 6), none⟩,
 ⟨(some 8), .bin .sub (.t 5) (.t 7), none⟩,
 ⟨(some 1), .mv (.t 8), none⟩])
 (.seq
 (.seq
 (.reg false [
 ⟨(some 9), .mv (.t 1), none⟩,
 ⟨(some 10), .bin .lss (.t 9) (.k (.one (.v (.int .i64) ((0 : Int))))), none⟩])
 (.cond (.t 10)
 (.seq
 (.reg false [
 ⟨(some 4), .mv (.k (.one (.v (.int .i64) (((-1) : Int))))), none⟩])
 .ret)
 .skip))
 (.seq
 (.reg false [
 ⟨(some 11), .mv (.t 1), none⟩,
 ⟨(some 4), .mv (.t 11), none⟩])
 .ret))))
def ms_laws_szIntS : List MRes := [.tmp 4]
theorem n_laws_szIntS (NN : Nat) (x : DLL (Sig.tys ag_laws_szIntS)) : runS NN [] sc_laws_szIntS ms_laws_szIntS ag_laws_szIntS rs_laws_szIntS x = G_laws_szIntS NN x := by kernel_rfl
theorem k_laws_szIntS : chkS Go.Proofs.Try.prog 50 sc_laws_szIntS.er ms_laws_szIntS 2 = true := by decide +kernel
theorem p_laws_szIntS : PureSpec Go.Proofs.Try.prog 50 fn_laws_szIntS.M ∧ chkFun Go.Proofs.Try.prog 50 = true :=
  pure_of_runS (T := []) (sc := sc_laws_szIntS) (ms := ms_laws_szIntS) (args := ag_laws_szIntS) (res := rs_laws_szIntS) (SOk.nil) follows_ok k_laws_szIntS F_laws_szIntS fun x y h => (n_laws_szIntS FUEL x).trans (f_laws_szIntS x y h)

def fn_laws_szMatrix : SFn := ⟨96, ag_laws_szMatrix, mu_laws_szMatrix, rs_laws_szMatrix, F_laws_szMatrix⟩
def sc_laws_szMatrix : SCode :=
 (.seq
 (.reg false [
 ⟨(some 2), .box 3 (.t 0), none⟩,
 ⟨(some 4), .mv (.k (.one (.v (.int .i64) ((0 : Int))))), none⟩])
 (.seq
 (.reg false [
 ⟨(some 5), .fieldA 2 (.t 2), none⟩,
 ⟨(some 6), .load false 1 (.t 5), none⟩,
 ⟨(some 7), .mv (.t 1), none⟩,
 ⟨(some 8), .call .froz 50 [(.t 6), (.t 7)], none⟩,
 ⟨(some 1), .mv (.t 8), none⟩])
 (.seq
 (.seq
 (.reg false [
 ⟨(some 9), .mv (.t 1), none⟩,
 ⟨(some 10), .bin .lss (.t 9) (.k (.one (.v (.int .i64) ((0 : Int))))), none⟩])
 (.cond (.t 10)
 (.seq
 (.reg false [
 ⟨(some 4), .mv (.k (.one (.v (.int .i64) (((-1) : Int))))), none⟩])
 .ret)
 .skip))
 (.seq
 (.reg false [
 ⟨(some 11), .mv (.t 1), none⟩,
 ⟨(some 4), .mv (.t 11), none⟩])
 .ret))))
def ms_laws_szMatrix : List MRes := [.tmp 4]
theorem n_laws_szMatrix (NN : Nat) (x : DLL (Sig.tys ag_laws_szMatrix)) : runS NN [fn_laws_szIntS] sc_laws_szMatrix ms_laws_szMatrix ag_laws_szMatrix rs_laws_szMatrix x = G_laws_szMatrix NN x := by kernel_rfl
theorem k_laws_szMatrix : chkS Go.Proofs.Try.prog 96 sc_laws_szMatrix.er ms_laws_szMatrix 2 = true := by decide +kernel
theorem p_laws_szMatrix : PureSpec Go.Proofs.Try.prog 96 fn_laws_szMatrix.M ∧ chkFun Go.Proofs.Try.prog 96 = true :=
  pure_of_runS (T := [fn_laws_szIntS]) (sc := sc_laws_szMatrix) (ms := ms_laws_szMatrix) (args := ag_laws_szMatrix) (res := rs_laws_szMatrix) (SOk.cons p_laws_szIntS <| SOk.nil) follows_ok k_laws_szMatrix F_laws_szMatrix fun x y h => (n_laws_szMatrix FUEL x).trans (f_laws_szMatrix x y h)

def fn_laws_szMatrixS : SFn := ⟨51, ag_laws_szMatrixS, mu_laws_szMatrixS, rs_laws_szMatrixS, F_laws_szMatrixS⟩
def sc_laws_szMatrixS : SCode :=
 (.seq
 (.reg false [
 ⟨(some 4), .mv (.k (.one (.v (.int .i64) ((0 : Int))))), none⟩])
 (.seq
 (.reg false [
 ⟨(some 6), .mv (.t 1), none⟩,
 ⟨(some 7), .mv (.t 0), none⟩,
 ⟨(some 8), .len (.t 7), none⟩,
 ⟨(some 9), .bin .sub (.t 6) (.t 8), none⟩,
 ⟨(some 1), .mv (.t 9), none⟩])
 (.seq
 (.seq
 (.reg false [
 ⟨(some 10), .mv (.t 1), none⟩,
 ⟨(some 11), .bin .lss (.t 10) (.k (.one (.v (.int .i64) ((0 : Int))))), none⟩])
 (.cond (.t 11)
 (.seq
 (.reg false [
 ⟨(some 4), .mv (.k (.one (.v (.int .i64) (((-1) : Int))))), none⟩])
 .ret)
 .skip))
 (.seq
 (.seq
 (.reg false [
 ⟨(some 5), .mv (.k (.one (.v (.int .i64) ((0 : Int))))), none⟩])
 (.join ⟨[(1, .one (.c (.v (.int .i64))))], []⟩ [] []
 (.block 0
 (.loop 0 ⟨[(0, .one (.c (.v (.list [.int .i64, .int .i64, .list [.int .i64]])))), (1, .one (.c (.v (.int .i64)))), (5, .one (.c (.v (.int .i64))))], []⟩ [] []
 (.seq
 (.seq
 (.reg false [
 ⟨(some 12), .mv (.t 5), none⟩,
 ⟨(some 13), .mv (.t 0), none⟩,
 ⟨(some 14), .len (.t 13), none⟩,
 ⟨(some 15), .bin .lss (.t 12) (.t 14), none⟩])
 (.cond (.t 15)
 .skip
 (.exit 0)))
 (.seq
 (.block 1
 (.seq
 (.reg false [
 ⟨(some 18), .mv (.t 0), none⟩,
 ⟨(some 19), .mv (.t 5), none⟩,
 ⟨(some 20), .idxA 3 (.t 18) (.t 19), none⟩,
 ⟨(some 21), .load true 3 (.t 20), none⟩,
 ⟨(some 22), .mv (.t 1), none⟩,
 ⟨(some 23), .call .froz 96 [(.t 21), (.t 22)], none⟩,
 ⟨(some 1), .mv (.t 23), none⟩])
 (.seq
 (.reg false [
 ⟨(some 24), .mv (.t 1), none⟩,
 ⟨(some 25), .bin .lss (.t 24) (.k (.one (.v (.int .i64) ((0 : Int))))), none⟩])
 (.cond (.t 25)
 (.seq
 (.reg false [
 ⟨(some 4), .mv (.k (.one (.v (.int .i64) (((-1) : Int))))), none⟩])
 .ret)
 .skip))))
 (.reg false [
 ⟨(some 16), .mv (.t 5), none⟩,
 ⟨(some 17), .bin .add (.t 16) (.k (.one (.v (.int .i64) ((1 : Int))))), none⟩,
 ⟨(some 5), .mv (.t 17), none⟩])))))))
 (.seq
 (.reg false [
 ⟨(some 26), .mv (.t 1), none⟩,
 ⟨(some 4), .mv (.t 26), none⟩])
 .ret)))))
def ms_laws_szMatrixS : List MRes := [.tmp 4]
theorem n_laws_szMatrixS (NN : Nat) (x : DLL (Sig.tys ag_laws_szMatrixS)) : runS NN [fn_laws_szMatrix] sc_laws_szMatrixS ms_laws_szMatrixS ag_laws_szMatrixS rs_laws_szMatrixS x = G_laws_szMatrixS NN x := by kernel_rfl
theorem k_laws_szMatrixS : chkS Go.Proofs.Try.prog 51 sc_laws_szMatrixS.er ms_laws_szMatrixS 2 = true := by decide +kernel
theorem p_laws_szMatrixS : PureSpec Go.Proofs.Try.prog 51 fn_laws_szMatrixS.M ∧ chkFun Go.Proofs.Try.prog 51 = true :=
  pure_of_runS (T := [fn_laws_szMatrix]) (sc := sc_laws_szMatrixS) (ms := ms_laws_szMatrixS) (args := ag_laws_szMatrixS) (res := rs_laws_szMatrixS) (SOk.cons p_laws_szMatrix <| SOk.nil) follows_ok k_laws_szMatrixS F_laws_szMatrixS fun x y h => (n_laws_szMatrixS FUEL x).trans (f_laws_szMatrixS x y h)

def fn_laws_szAutomaton : SFn := ⟨15, ag_laws_szAutomaton, mu_laws_szAutomaton, rs_laws_szAutomaton, F_laws_szAutomaton⟩
def sc_laws_szAutomaton : SCode :=
 (.seq
 (.reg false [
 ⟨(some 2), .box 5 (.t 0), none⟩,
 ⟨(some 4), .mv (.k (.one (.v (.int .i64) ((0 : Int))))), none⟩])
 (.seq
 (.reg false [
 ⟨(some 5), .fieldA 2 (.t 2), none⟩,
 ⟨(some 6), .load false 1 (.t 5), none⟩,
 ⟨(some 7), .mv (.t 1), none⟩,
 ⟨(some 8), .call .froz 50 [(.t 6), (.t 7)], none⟩,
 ⟨(some 1), .mv (.t 8), none⟩])
 (.seq
 (.seq
 (.reg false [
 ⟨(some 9), .mv (.t 1), none⟩,
 ⟨(some 10), .bin .lss (.t 9) (.k (.one (.v (.int .i64) ((0 : Int))))), none⟩])
 (.cond (.t 10)
 (.seq
 (.reg false [
 ⟨(some 4), .mv (.k (.one (.v (.int .i64) (((-1) : Int))))), none⟩])
 .ret)
 .skip))
 (.seq
 (.reg false [
 ⟨(some 11), .fieldA 3 (.t 2), none⟩,
 ⟨(some 12), .load false 1 (.t 11), none⟩,
 ⟨(some 13), .mv (.t 1), none⟩,
 ⟨(some 14), .call .froz 51 [(.t 12), (.t 13)], none⟩,
 ⟨(some 1), .mv (.t 14), none⟩])
 (.seq
 (.seq
 (.reg false [
 ⟨(some 15), .mv (.t 1), none⟩,
 ⟨(some 16), .bin .lss (.t 15) (.k (.one (.v (.int .i64) ((0 : Int))))), none⟩])
 (.cond (.t 16)
 (.seq
 (.reg false [
 ⟨(some 4), .mv (.k (.one (.v (.int .i64) (((-1) : Int))))), none⟩])
 .ret)
 .skip))
 (.seq
 (.reg false [
 ⟨(some 17), .fieldA 4 (.t 2), none⟩,
 ⟨(some 18), .load false 1 (.t 17), none⟩,
 ⟨(some 19), .mv (.t 1), none⟩,
 ⟨(some 20), .call .froz 50 [(.t 18), (.t 19)], none⟩,
 ⟨(some 1), .mv (.t 20), none⟩])
 (.seq
 (.seq
 (.reg false [
 ⟨(some 21), .mv (.t 1), none⟩,
 ⟨(some 22), .bin .lss (.t 21) (.k (.one (.v (.int .i64) ((0 : Int))))), none⟩])
 (.cond (.t 22)
 (.seq
 (.reg false [
 ⟨(some 4), .mv (.k (.one (.v (.int .i64) (((-1) : Int))))), none⟩])
 .ret)
 .skip))
 (.seq
 (.reg false [
 ⟨(some 23), .mv (.t 1), none⟩,
 ⟨(some 4), .mv (.t 23), none⟩])
 .ret))))))))
def ms_laws_szAutomaton : List MRes := [.tmp 4]
theorem n_laws_szAutomaton (NN : Nat) (x : DLL (Sig.tys ag_laws_szAutomaton)) : runS NN [fn_laws_szIntS, fn_laws_szMatrixS] sc_laws_szAutomaton ms_laws_szAutomaton ag_laws_szAutomaton rs_laws_szAutomaton x = G_laws_szAutomaton NN x := by kernel_rfl
theorem k_laws_szAutomaton : chkS Go.Proofs.Try.prog 15 sc_laws_szAutomaton.er ms_laws_szAutomaton 2 = true := by decide +kernel
theorem p_laws_szAutomaton : PureSpec Go.Proofs.Try.prog 15 fn_laws_szAutomaton.M ∧ chkFun Go.Proofs.Try.prog 15 = true :=
  pure_of_runS (T := [fn_laws_szIntS, fn_laws_szMatrixS]) (sc := sc_laws_szAutomaton) (ms := ms_laws_szAutomaton) (args := ag_laws_szAutomaton) (res := rs_laws_szAutomaton) (SOk.cons p_laws_szIntS <| SOk.cons p_laws_szMatrixS <| SOk.nil) follows_ok k_laws_szAutomaton F_laws_szAutomaton fun x y h => (n_laws_szAutomaton FUEL x).trans (f_laws_szAutomaton x y h)

def fn_laws_toIntS : SFn := ⟨26, ag_laws_toIntS, mu_laws_toIntS, rs_laws_toIntS, F_laws_toIntS⟩
def sc_laws_toIntS : SCode :=
 (.seq
 (.reg false [
 ⟨(some 2), .mv (.k (.one (.nil [.int .i64]))), none⟩])
 (.seq
 (.reg false [
 ⟨(some 5), .mv (.t 0), none⟩,
 ⟨(some 6), .len (.t 5), none⟩,
 ⟨(some 7), .mkslice .froz [.int .i64] 8 (0 : Int) (.t 6) (.t 6), none⟩,
 ⟨(some 3), .mv (.t 7), none⟩])
 (.seq
 (.seq
 (.reg false [
 ⟨(some 4), .mv (.k (.one (.v (.int .i64) ((0 : Int))))), none⟩])
 (.join ⟨[(3, .one (.c (.full 500001 1)))], [(500001, .row true .froz [.int .i64])]⟩ [500000, 500001] [(false, 3, 0, 500001, .froz, [])]
 (.block 0
 (.loop 0 ⟨[(0, .one (.c (.v (.list [.int .i64])))), (3, .one (.c (.full 500000 1))), (4, .one (.c (.v (.int .i64))))], [(500000, .row true .froz [.int .i64])]⟩ [7, 500000] [(false, 3, 0, 500000, .froz, [])]
 (.seq
 (.seq
 (.reg false [
 ⟨(some 8), .mv (.t 4), none⟩,
 ⟨(some 9), .mv (.t 0), none⟩,
 ⟨(some 10), .len (.t 9), none⟩,
 ⟨(some 11), .bin .lss (.t 8) (.t 10), none⟩])
 (.cond (.t 11)
 .skip
 (.exit 0)))
 (.seq
 (.block 1
 (.reg false [
 ⟨(some 14), .mv (.t 3), none⟩,
 ⟨(some 15), .mv (.t 4), none⟩,
 ⟨(some 16), .mv (.t 0), none⟩,
 ⟨(some 17), .mv (.t 4), none⟩,
 ⟨(some 18), .idxA 1 (.t 16) (.t 17), none⟩,
 ⟨(some 19), .load false 1 (.t 18), none⟩,
 ⟨(some 20), .idxA 1 (.t 14) (.t 15), none⟩,
 ⟨none, .store 1 (.t 20) (.t 19), none⟩]))
 (.reg false [
 ⟨(some 12), .mv (.t 4), none⟩,
 ⟨(some 13), .bin .add (.t 12) (.k (.one (.v (.int .i64) ((1 : Int))))), none⟩,
 ⟨(some 4), .mv (.t 13), none⟩])))))))
 (.seq
 (.reg false [
 ⟨(some 21), .mv (.t 3), none⟩,
 ⟨(some 2), .mv (.t 21), none⟩])
 .ret))))
def ms_laws_toIntS : List MRes := [.tmp 2]
theorem n_laws_toIntS (NN : Nat) (x : DLL (Sig.tys ag_laws_toIntS)) : runS NN [] sc_laws_toIntS ms_laws_toIntS ag_laws_toIntS rs_laws_toIntS x = G_laws_toIntS NN x := by kernel_rfl
theorem k_laws_toIntS : chkS Go.Proofs.Try.prog 26 sc_laws_toIntS.er ms_laws_toIntS 1 = true := by decide +kernel
theorem p_laws_toIntS : PureSpec Go.Proofs.Try.prog 26 fn_laws_toIntS.M ∧ chkFun Go.Proofs.Try.prog 26 = true :=
  pure_of_runS (T := []) (sc := sc_laws_toIntS) (ms := ms_laws_toIntS) (args := ag_laws_toIntS) (res := rs_laws_toIntS) (SOk.nil) follows_ok k_laws_toIntS F_laws_toIntS fun x y h => (n_laws_toIntS FUEL x).trans (f_laws_toIntS x y h)

def fn_laws_toMatrix : SFn := ⟨97, ag_laws_toMatrix, mu_laws_toMatrix, rs_laws_toMatrix, F_laws_toMatrix⟩
def sc_laws_toMatrix : SCode :=
 (.seq
 (.reg false [
 ⟨(some 1), .box 3 (.t 0), none⟩,
 ⟨(some 2), .alloc [.v (.int .i64) ((0 : Int)), .v (.int .i64) ((0 : Int)), .nil [.int .i64]], none⟩])
 (.seq
 (.reg false [
 ⟨(some 3), .alloc [.v (.int .i64) ((0 : Int)), .v (.int .i64) ((0 : Int)), .nil [.int .i64]], none⟩])
 (.seq
 (.reg false [
 ⟨(some 4), .fieldA 0 (.t 1), none⟩,
 ⟨(some 5), .load false 1 (.t 4), none⟩,
 ⟨(some 6), .fieldA 0 (.t 3), none⟩,
 ⟨none, .store 1 (.t 6) (.t 5), none⟩])
 (.seq
 (.reg false [
 ⟨(some 7), .fieldA 1 (.t 1), none⟩,
 ⟨(some 8), .load false 1 (.t 7), none⟩,
 ⟨(some 9), .fieldA 1 (.t 3), none⟩,
 ⟨none, .store 1 (.t 9) (.t 8), none⟩])
 (.seq
 (.reg false [
 ⟨(some 10), .fieldA 2 (.t 1), none⟩,
 ⟨(some 11), .load false 1 (.t 10), none⟩,
 ⟨(some 12), .call .froz 26 [(.t 11)], none⟩,
 ⟨(some 13), .fieldA 2 (.t 3), none⟩,
 ⟨none, .store 1 (.t 13) (.t 12), none⟩])
 (.seq
 (.reg false [
 ⟨(some 14), .load true 3 (.t 3), none⟩,
 ⟨none, .store 3 (.t 2) (.t 14), none⟩])
 .ret))))))
def ms_laws_toMatrix : List MRes := [.cell 2 3 true]
theorem n_laws_toMatrix (NN : Nat) (x : DLL (Sig.tys ag_laws_toMatrix)) : runS NN [fn_laws_toIntS] sc_laws_toMatrix ms_laws_toMatrix ag_laws_toMatrix rs_laws_toMatrix x = G_laws_toMatrix NN x := by kernel_rfl
theorem k_laws_toMatrix : chkS Go.Proofs.Try.prog 97 sc_laws_toMatrix.er ms_laws_toMatrix 1 = true := by decide +kernel
theorem p_laws_toMatrix : PureSpec Go.Proofs.Try.prog 97 fn_laws_toMatrix.M ∧ chkFun Go.Proofs.Try.prog 97 = true :=
  pure_of_runS (T := [fn_laws_toIntS]) (sc := sc_laws_toMatrix) (ms := ms_laws_toMatrix) (args := ag_laws_toMatrix) (res := rs_laws_toMatrix) (SOk.cons p_laws_toIntS <| SOk.nil) follows_ok k_laws_toMatrix F_laws_toMatrix fun x y h => (n_laws_toMatrix FUEL x).trans (f_laws_toMatrix x y h)

def fn_laws_toMatrixS : SFn := ⟨56, ag_laws_toMatrixS, mu_laws_toMatrixS, rs_laws_toMatrixS, F_laws_toMatrixS⟩
def sc_laws_toMatrixS : SCode :=
 (.seq
 (.reg false [
 ⟨(some 2), .mv (.k (.one (.nil [.int .i64, .int .i64, .list [.int .i64]]))), none⟩])
 (.seq
 (.reg false [
 ⟨(some 5), .mv (.t 0), none⟩,
 ⟨(some 6), .len (.t 5), none⟩,
 ⟨(some 7), .mkslice .froz [.int .i64, .int .i64, .list [.int .i64]] 40 ((0 : Int), ((0 : Int), [])) (.t 6) (.t 6), none⟩,
 ⟨(some 3), .mv (.t 7), none⟩])
 (.seq
 (.seq
 (.reg false [
 ⟨(some 4), .mv (.k (.one (.v (.int .i64) ((0 : Int))))), none⟩])
 (.join ⟨[(3, .one (.c (.full 500001 3)))], [(500001, .row true .froz [.int .i64, .int .i64, .list [.int .i64]])]⟩ [500000, 500001] [(false, 3, 0, 500001, .froz, [])]
 (.block 0
 (.loop 0 ⟨[(0, .one (.c (.v (.list [.int .i64, .int .i64, .list [.int .i64]])))), (3, .one (.c (.full 500000 3))), (4, .one (.c (.v (.int .i64))))], [(500000, .row true .froz [.int .i64, .int .i64, .list [.int .i64]])]⟩ [7, 500000] [(false, 3, 0, 500000, .froz, [])]
 (.seq
 (.seq
 (.reg false [
 ⟨(some 8), .mv (.t 4), none⟩,
 ⟨(some 9), .mv (.t 0), none⟩,
 ⟨(some 10), .len (.t 9), none⟩,
 ⟨(some 11), .bin .lss (.t 8) (.t 10), none⟩])
 (.cond (.t 11)
 .skip
 (.exit 0)))
 (.seq
 (.block 1
 (.reg false [
 ⟨(some 14), .mv (.t 3), none⟩,
 ⟨(some 15), .mv (.t 4), none⟩,
 ⟨(some 16), .mv (.t 0), none⟩,
 ⟨(some 17), .mv (.t 4), none⟩,
 ⟨(some 18), .idxA 3 (.t 16) (.t 17), none⟩,
 ⟨(some 19), .load true 3 (.t 18), none⟩,
 ⟨(some 20), .call .froz 97 [(.t 19)], none⟩,
 ⟨(some 21), .idxA 3 (.t 14) (.t 15), none⟩,
 ⟨none, .store 3 (.t 21) (.t 20), none⟩]))
 (.reg false [
 ⟨(some 12), .mv (.t 4), none⟩,
 ⟨(some 13), .bin .add (.t 12) (.k (.one (.v (.int .i64) ((1 : Int))))), none⟩,
 ⟨(some 4), .mv (.t 13), none⟩])))))))
 (.seq
 (.reg false [
 ⟨(some 22), .mv (.t 3), none⟩,
 ⟨(some 2), .mv (.t 22), none⟩])
 .ret))))
def ms_laws_toMatrixS : List MRes := [.tmp 2]
theorem n_laws_toMatrixS (NN : Nat) (x : DLL (Sig.tys ag_laws_toMatrixS)) : runS NN [fn_laws_toMatrix] sc_laws_toMatrixS ms_laws_toMatrixS ag_laws_toMatrixS rs_laws_toMatrixS x = G_laws_toMatrixS NN x := by kernel_rfl
theorem k_laws_toMatrixS : chkS Go.Proofs.Try.prog 56 sc_laws_toMatrixS.er ms_laws_toMatrixS 1 = true := by decide +kernel
theorem p_laws_toMatrixS : PureSpec Go.Proofs.Try.prog 56 fn_laws_toMatrixS.M ∧ chkFun Go.Proofs.Try.prog 56 = true :=
  pure_of_runS (T := [fn_laws_toMatrix]) (sc := sc_laws_toMatrixS) (ms := ms_laws_toMatrixS) (args := ag_laws_toMatrixS) (res := rs_laws_toMatrixS) (SOk.cons p_laws_toMatrix <| SOk.nil) follows_ok k_laws_toMatrixS F_laws_toMatrixS fun x y h => (n_laws_toMatrixS FUEL x).trans (f_laws_toMatrixS x y h)

def fn_laws_toAutomaton : SFn := ⟨17, ag_laws_toAutomaton, mu_laws_toAutomaton, rs_laws_toAutomaton, F_laws_toAutomaton⟩
def sc_laws_toAutomaton : SCode :=
 (.seq
 (.reg false [
 ⟨(some 1), .box 5 (.t 0), none⟩,
 ⟨(some 2), .alloc [.v (.int .i64) ((0 : Int)), .v (.int .i64) ((0 : Int)), .nil [.int .i64], .nil [.int .i64, .int .i64, .list [.int .i64]], .nil [.int .i64]], none⟩])
 (.seq
 (.reg false [
 ⟨(some 3), .alloc [.v (.int .i64) ((0 : Int)), .v (.int .i64) ((0 : Int)), .nil [.int .i64], .nil [.int .i64, .int .i64, .list [.int .i64]], .nil [.int .i64]], none⟩])
 (.seq
 (.reg false [
 ⟨(some 4), .fieldA 0 (.t 1), none⟩,
 ⟨(some 5), .load false 1 (.t 4), none⟩,
 ⟨(some 6), .fieldA 0 (.t 3), none⟩,
 ⟨none, .store 1 (.t 6) (.t 5), none⟩])
 (.seq
 (.reg false [
 ⟨(some 7), .fieldA 1 (.t 1), none⟩,
 ⟨(some 8), .load false 1 (.t 7), none⟩,
 ⟨(some 9), .fieldA 1 (.t 3), none⟩,
 ⟨none, .store 1 (.t 9) (.t 8), none⟩])
 (.seq
 (.reg false [
 ⟨(some 10), .fieldA 2 (.t 1), none⟩,
 ⟨(some 11), .load false 1 (.t 10), none⟩,
 ⟨(some 12), .call .froz 26 [(.t 11)], none⟩,
 ⟨(some 13), .fieldA 2 (.t 3), none⟩,
 ⟨none, .store 1 (.t 13) (.t 12), none⟩])
 (.seq
 (.reg false [
 ⟨(some 14), .fieldA 3 (.t 1), none⟩,
 ⟨(some 15), .load false 1 (.t 14), none⟩,
 ⟨(some 16), .call .froz 56 [(.t 15)], none⟩,
 ⟨(some 17), .fieldA 3 (.t 3), none⟩,
 ⟨none, .store 1 (.t 17) (.t 16), none⟩])
 (.seq
 (.reg false [
 ⟨(some 18), .fieldA 4 (.t 1), none⟩,
 ⟨(some 19), .load false 1 (.t 18), none⟩,
 ⟨(some 20), .call .froz 26 [(.t 19)], none⟩,
 ⟨(some 21), .fieldA 4 (.t 3), none⟩,
 ⟨none, .store 1 (.t 21) (.t 20), none⟩])
 (.seq
 (.reg false [
 ⟨(some 22), .load true 5 (.t 3), none⟩,
 ⟨none, .store 5 (.t 2) (.t 22), none⟩])
 .ret))))))))
def ms_laws_toAutomaton : List MRes := [.cell 2 5 true]
theorem n_laws_toAutomaton (NN : Nat) (x : DLL (Sig.tys ag_laws_toAutomaton)) : runS NN [fn_laws_toIntS, fn_laws_toMatrixS] sc_laws_toAutomaton ms_laws_toAutomaton ag_laws_toAutomaton rs_laws_toAutomaton x = G_laws_toAutomaton NN x := by kernel_rfl
theorem k_laws_toAutomaton : chkS Go.Proofs.Try.prog 17 sc_laws_toAutomaton.er ms_laws_toAutomaton 1 = true := by decide +kernel
theorem p_laws_toAutomaton : PureSpec Go.Proofs.Try.prog 17 fn_laws_toAutomaton.M ∧ chkFun Go.Proofs.Try.prog 17 = true :=
  pure_of_runS (T := [fn_laws_toIntS, fn_laws_toMatrixS]) (sc := sc_laws_toAutomaton) (ms := ms_laws_toAutomaton) (args := ag_laws_toAutomaton) (res := rs_laws_toAutomaton) (SOk.cons p_laws_toIntS <| SOk.cons p_laws_toMatrixS <| SOk.nil) follows_ok k_laws_toAutomaton F_laws_toAutomaton fun x y h => (n_laws_toAutomaton FUEL x).trans (f_laws_toAutomaton x y h)

def fn_spec_l01In : SFn := ⟨53, ag_spec_l01In, mu_spec_l01In, rs_spec_l01In, F_spec_l01In⟩
def sc_spec_l01In : SCode :=
 (.seq
 (.reg false [
 ⟨(some 6), .mv (.k (.one (.v (.bool) (false)))), none⟩])
 (.seq
 (.reg false [
 ⟨(some 7), .mv (.t 0), none⟩,
 ⟨(some 8), .mv (.t 1), none⟩,
 ⟨(some 9), .bin .geq (.t 7) (.t 8), none⟩,
 ⟨(some 10), .mv (.t 9), none⟩,
 ⟨(some 11), .mv (.t 0), (some (10, true))⟩,
 ⟨(some 12), .mv (.t 2), (some (10, true))⟩,
 ⟨(some 13), .bin .leq (.t 11) (.t 12), (some (10, true))⟩,
 ⟨(some 14), .pick (.t 10) (.t 13) (.k (.one (.v (.bool) (false)))), none⟩,
 ⟨(some 6), .mv (.t 14), none⟩])
 .ret))
def ms_spec_l01In : List MRes := [.tmp 6]
theorem n_spec_l01In (NN : Nat) (x : DLL (Sig.tys ag_spec_l01In)) : runS NN [] sc_spec_l01In ms_spec_l01In ag_spec_l01In rs_spec_l01In x = G_spec_l01In NN x := by kernel_rfl
theorem k_spec_l01In : chkS Go.Proofs.Try.prog 53 sc_spec_l01In.er ms_spec_l01In 3 = true := by decide +kernel
theorem p_spec_l01In : PureSpec Go.Proofs.Try.prog 53 fn_spec_l01In.M ∧ chkFun Go.Proofs.Try.prog 53 = true :=
  pure_of_runS (T := []) (sc := sc_spec_l01In) (ms := ms_spec_l01In) (args := ag_spec_l01In) (res := rs_spec_l01In) (SOk.nil) follows_ok k_spec_l01In F_spec_l01In fun x y h => (n_spec_l01In FUEL x).trans (f_spec_l01In x y h)

def fn_spec_IsPrime : SFn := ⟨52, ag_spec_IsPrime, mu_spec_IsPrime, rs_spec_IsPrime, F_spec_IsPrime⟩
def sc_spec_IsPrime : SCode :=
 (.seq
 (.reg false [
 ⟨(some 2), .mv (.k (.one (.v (.bool) (false)))), none⟩])
 (.seq
 (.seq
 (.reg false [
 ⟨(some 3), .mv (.k (.one (.v (.int .i64) ((2 : Int))))), none⟩])
 (.join ⟨[(0, .one (.c (.v (.int .i64))))], []⟩ [] []
 (.block 0
 (.loop 0 ⟨[(0, .one (.c (.v (.int .i64)))), (3, .one (.c (.v (.int .i64))))], []⟩ [] []
 (.seq
 (.seq
 (.reg false [
 ⟨(some 4), .mv (.t 3), none⟩,
 ⟨(some 5), .mv (.t 3), none⟩,
 ⟨(some 6), .bin .mul (.t 4) (.t 5), none⟩,
 ⟨(some 7), .mv (.t 0), none⟩,
 ⟨(some 8), .bin .leq (.t 6) (.t 7), none⟩,
 ⟨(some 9), .mv (.t 8), none⟩,
 ⟨(some 10), .mv (.t 0), (some (9, true))⟩,
 ⟨(some 11), .bin .leq (.t 10) (.k (.one (.v (.int .i64) ((1000003 : Int))))), (some (9, true))⟩,
 ⟨(some 12), .pick (.t 9) (.t 11) (.k (.one (.v (.bool) (false)))), none⟩])
 (.cond (.t 12)
 .skip
 (.exit 0)))
 (.seq
 (.block 1
 (.seq
 (.reg false [
 ⟨(some 15), .mv (.t 0), none⟩,
 ⟨(some 16), .mv (.t 3), none⟩,
 ⟨(some 17), .bin .rem (.t 15) (.t 16), none⟩,
 ⟨(some 18), .bin .eql (.t 17) (.k (.one (.v (.int .i64) ((0 : Int))))), none⟩])
 (.cond (.t 18)
 (.seq
 (.reg false [
 ⟨(some 2), .mv (.k (.one (.v (.bool) (false)))), none⟩])
 .ret)
 .skip)))
 (.reg false [
 ⟨(some 13), .mv (.t 3), none⟩,
 ⟨(some 14), .bin .add (.t 13) (.k (.one (.v (.int .i64) ((1 : Int))))), none⟩,
 ⟨(some 3), .mv (.t 14), none⟩])))))))
 (.seq
 (.reg false [
 ⟨(some 19), .mv (.t 0), none⟩,
 ⟨(some 20), .call .froz 53 [(.t 19), (.k (.one (.v (.int .i64) ((2 : Int))))), (.k (.one (.v (.int .i64) ((1000003 : Int)))))], none⟩,
 ⟨(some 2), .mv (.t 20), none⟩])
 .ret)))
def ms_spec_IsPrime : List MRes := [.tmp 2]
theorem n_spec_IsPrime (NN : Nat) (x : DLL (Sig.tys ag_spec_IsPrime)) : runS NN [fn_spec_l01In] sc_spec_IsPrime ms_spec_IsPrime ag_spec_IsPrime rs_spec_IsPrime x = G_spec_IsPrime NN x := by kernel_rfl
theorem k_spec_IsPrime : chkS Go.Proofs.Try.prog 52 sc_spec_IsPrime.er ms_spec_IsPrime 1 = true := by decide +kernel
theorem p_spec_IsPrime : PureSpec Go.Proofs.Try.prog 52 fn_spec_IsPrime.M ∧ chkFun Go.Proofs.Try.prog 52 = true :=
  pure_of_runS (T := [fn_spec_l01In]) (sc := sc_spec_IsPrime) (ms := ms_spec_IsPrime) (args := ag_spec_IsPrime) (res := rs_spec_IsPrime) (SOk.cons p_spec_l01In <| SOk.nil) follows_ok k_spec_IsPrime F_spec_IsPrime fun x y h => (n_spec_IsPrime FUEL x).trans (f_spec_IsPrime x y h)

def fn_spec_l34Row : SFn := ⟨54, ag_spec_l34Row, mu_spec_l34Row, rs_spec_l34Row, F_spec_l34Row⟩
def sc_spec_l34Row : SCode :=
 (.seq
 (.reg false [
 ⟨(some 6), .mv (.k (.one (.v (.bool) (false)))), none⟩])
 (.seq
 (.seq
 (.reg false [
 ⟨(some 9), .mv (.t 1), none⟩,
 ⟨(some 10), .len (.t 9), none⟩,
 ⟨(some 11), .mv (.k (.one (.v (.int .i64) ((0 : Int))))), none⟩])
 (.join ⟨[(1, .one (.c (.v (.list [.int .i64])))), (2, .one (.c (.v (.int .i64))))], []⟩ [] []
 (.block 0
 (.loop 0 ⟨[(0, .one (.c (.v (.int .i64)))), (1, .one (.c (.v (.list [.int .i64])))), (2, .one (.c (.v (.int .i64)))), (9, .one (.c (.v (.list [.int .i64])))), (10, .one (.c (.v (.int .i64)))), (11, .one (.c (.v (.int .i64))))], []⟩ [] []
 (.seq
 (.reg false [
 ⟨(some 12), .bin .lss (.t 11) (.t 10), none⟩])
 (.seq
 (.cond (.t 12)
 .skip
 (.exit 0))
 (.seq
 (.block 1
 (.seq
 (.reg false [
 ⟨(some 13), .idxA 1 (.t 9) (.t 11), none⟩,
 ⟨(some 14), .load false 1 (.t 13), none⟩,
 ⟨(some 8), .mv (.t 14), none⟩])
 (.seq
 (.reg false [
 ⟨(some 15), .mv (.t 8), none⟩,
 ⟨(some 16), .mv (.t 0), none⟩,
 ⟨(some 17), .bin .sub (.t 16) (.k (.one (.v (.int .i64) ((1 : Int))))), none⟩,
 ⟨(some 18), .call .froz 53 [(.t 15), (.k (.one (.v (.int .i64) ((0 : Int))))), (.t 17)], none⟩,
 ⟨(some 19), .un .not (.t 18), none⟩])
 (.cond (.t 19)
 (.seq
 (.reg false [
 ⟨(some 6), .mv (.k (.one (.v (.bool) (false)))), none⟩])
 .ret)
 .skip))))
 (.reg false [
 ⟨(some 20), .bin .add (.t 11) (.k (.one (.v (.int .i64) ((1 : Int))))), none⟩,
 ⟨(some 11), .mv (.t 20), none⟩]))))))))
 (.seq
 (.reg false [
 ⟨(some 21), .mv (.t 1), none⟩,
 ⟨(some 22), .len (.t 21), none⟩,
 ⟨(some 23), .mv (.t 2), none⟩,
 ⟨(some 24), .bin .eql (.t 22) (.t 23), none⟩,
 ⟨(some 6), .mv (.t 24), none⟩])
 .ret)))
def ms_spec_l34Row : List MRes := [.tmp 6]
theorem n_spec_l34Row (NN : Nat) (x : DLL (Sig.tys ag_spec_l34Row)) : runS NN [fn_spec_l01In] sc_spec_l34Row ms_spec_l34Row ag_spec_l34Row rs_spec_l34Row x = G_spec_l34Row NN x := by kernel_rfl
theorem k_spec_l34Row : chkS Go.Proofs.Try.prog 54 sc_spec_l34Row.er ms_spec_l34Row 3 = true := by decide +kernel
theorem p_spec_l34Row : PureSpec Go.Proofs.Try.prog 54 fn_spec_l34Row.M ∧ chkFun Go.Proofs.Try.prog 54 = true :=
  pure_of_runS (T := [fn_spec_l01In]) (sc := sc_spec_l34Row) (ms := ms_spec_l34Row) (args := ag_spec_l34Row) (res := rs_spec_l34Row) (SOk.cons p_spec_l01In <| SOk.nil) follows_ok k_spec_l34Row F_spec_l34Row fun x y h => (n_spec_l34Row FUEL x).trans (f_spec_l34Row x y h)

def fn_spec_MatrixOk : SFn := ⟨55, ag_spec_MatrixOk, mu_spec_MatrixOk, rs_spec_MatrixOk, F_spec_MatrixOk⟩
def sc_spec_MatrixOk : SCode :=
 (.seq
 (.reg false [
 ⟨(some 3), .box 3 (.t 1), none⟩,
 ⟨(some 4), .mv (.k (.one (.v (.bool) (false)))), none⟩])
 (.seq
 (.seq
 (.reg false [
 ⟨(some 7), .mv (.t 0), none⟩,
 ⟨(some 8), .call .froz 52 [(.t 7)], none⟩,
 ⟨(some 9), .un .not (.t 8), none⟩,
 ⟨(some 10), .mv (.t 9), none⟩,
 ⟨(some 11), .fieldA 0 (.t 3), (some (10, false))⟩,
 ⟨(some 12), .load false 1 (.t 11), (some (10, false))⟩,
 ⟨(some 13), .call .froz 53 [(.t 12), (.k (.one (.v (.int .i64) ((0 : Int))))), (.k (.one (.v (.int .i64) ((64 : Int)))))], (some (10, false))⟩,
 ⟨(some 14), .un .not (.t 13), (some (10, false))⟩,
 ⟨(some 15), .pick (.t 10) (.k (.one (.v (.bool) (true)))) (.t 14), none⟩,
 ⟨(some 16), .mv (.t 15), none⟩,
 ⟨(some 17), .fieldA 1 (.t 3), (some (16, false))⟩,
 ⟨(some 18), .load false 1 (.t 17), (some (16, false))⟩,
 ⟨(some 19), .call .froz 53 [(.t 18), (.k (.one (.v (.int .i64) ((0 : Int))))), (.k (.one (.v (.int .i64) ((64 : Int)))))], (some (16, false))⟩,
 ⟨(some 20), .un .not (.t 19), (some (16, false))⟩,
 ⟨(some 21), .pick (.t 16) (.k (.one (.v (.bool) (true)))) (.t 20), none⟩,
 ⟨(some 22), .mv (.t 21), none⟩,
 ⟨(some 23), .fieldA 2 (.t 3), (some (22, false))⟩,
 ⟨(some 24), .load false 1 (.t 23), (some (22, false))⟩,
 ⟨(some 25), .len (.t 24), (some (22, false))⟩,
 ⟨(some 26), .fieldA 0 (.t 3), (some (22, false))⟩,
 ⟨(some 27), .load false 1 (.t 26), (some (22, false))⟩,
 ⟨(some 28), .fieldA 1 (.t 3), (some (22, false))⟩,
 ⟨(some 29), .load false 1 (.t 28), (some (22, false))⟩,
 ⟨(some 30), .bin .mul (.t 27) (.t 29), (some (22, false))⟩,
 ⟨(some 31), .bin .neq (.t 25) (.t 30), (some (22, false))⟩,
 ⟨(some 32), .pick (.t 22) (.k (.one (.v (.bool) (true)))) (.t 31), none⟩])
 (.cond (.t 32)
 (.seq
 (.reg false [
 ⟨(some 4), .mv (.k (.one (.v (.bool) (false)))), none⟩])
 .ret)
 .skip))
 (.seq
 (.seq
 (.reg false [
 ⟨(some 33), .fieldA 2 (.t 3), none⟩,
 ⟨(some 34), .load false 1 (.t 33), none⟩,
 ⟨(some 35), .len (.t 34), none⟩,
 ⟨(some 36), .mv (.k (.one (.v (.int .i64) ((0 : Int))))), none⟩])
 (.join ⟨[], []⟩ [] []
 (.block 0
 (.loop 0 ⟨[(0, .one (.c (.v (.int .i64)))), (34, .one (.c (.v (.list [.int .i64])))), (35, .one (.c (.v (.int .i64)))), (36, .one (.c (.v (.int .i64))))], []⟩ [3] []
 (.seq
 (.reg false [
 ⟨(some 37), .bin .lss (.t 36) (.t 35), none⟩])
 (.seq
 (.cond (.t 37)
 .skip
 (.exit 0))
 (.seq
 (.block 1
 (.seq
 (.reg false [
 ⟨(some 38), .idxA 1 (.t 34) (.t 36), none⟩,
 ⟨(some 39), .load false 1 (.t 38), none⟩,
 ⟨(some 6), .mv (.t 39), none⟩])
 (.seq
 (.reg false [
 ⟨(some 40), .mv (.t 6), none⟩,
 ⟨(some 41), .mv (.t 0), none⟩,
 ⟨(some 42), .bin .sub (.t 41) (.k (.one (.v (.int .i64) ((1 : Int))))), none⟩,
 ⟨(some 43), .call .froz 53 [(.t 40), (.k (.one (.v (.int .i64) ((0 : Int))))), (.t 42)], none⟩,
 ⟨(some 44), .un .not (.t 43), none⟩])
 (.cond (.t 44)
 (.seq
 (.reg false [
 ⟨(some 4), .mv (.k (.one (.v (.bool) (false)))), none⟩])
 .ret)
 .skip))))
 (.reg false [
 ⟨(some 45), .bin .add (.t 36) (.k (.one (.v (.int .i64) ((1 : Int))))), none⟩,
 ⟨(some 36), .mv (.t 45), none⟩]))))))))
 (.seq
 (.reg false [
 ⟨(some 4), .mv (.k (.one (.v (.bool) (true)))), none⟩])
 .ret))))
def ms_spec_MatrixOk : List MRes := [.tmp 4]
theorem n_spec_MatrixOk (NN : Nat) (x : DLL (Sig.tys ag_spec_MatrixOk)) : runS NN [fn_spec_IsPrime, fn_spec_l01In] sc_spec_MatrixOk ms_spec_MatrixOk ag_spec_MatrixOk rs_spec_MatrixOk x = G_spec_MatrixOk NN x := by kernel_rfl
theorem k_spec_MatrixOk : chkS Go.Proofs.Try.prog 55 sc_spec_MatrixOk.er ms_spec_MatrixOk 2 = true := by decide +kernel
theorem p_spec_MatrixOk : PureSpec Go.Proofs.Try.prog 55 fn_spec_MatrixOk.M ∧ chkFun Go.Proofs.Try.prog 55 = true :=
  pure_of_runS (T := [fn_spec_IsPrime, fn_spec_l01In]) (sc := sc_spec_MatrixOk) (ms := ms_spec_MatrixOk) (args := ag_spec_MatrixOk) (res := rs_spec_MatrixOk) (SOk.cons p_spec_IsPrime <| SOk.cons p_spec_l01In <| SOk.nil) follows_ok k_spec_MatrixOk F_spec_MatrixOk fun x y h => (n_spec_MatrixOk FUEL x).trans (f_spec_MatrixOk x y h)

def fn_spec_AutomatonOk : SFn := ⟨16, ag_spec_AutomatonOk, mu_spec_AutomatonOk, rs_spec_AutomatonOk, F_spec_AutomatonOk⟩
def sc_spec_AutomatonOk : SCode :=
 (.seq
 (.reg false [
 ⟨(some 1), .box 5 (.t 0), none⟩,
 ⟨(some 2), .mv (.k (.one (.v (.bool) (false)))), none⟩])
 (.seq
 (.seq
 (.reg false [
 ⟨(some 5), .fieldA 0 (.t 1), none⟩,
 ⟨(some 6), .load false 1 (.t 5), none⟩,
 ⟨(some 7), .call .froz 52 [(.t 6)], none⟩,
 ⟨(some 8), .un .not (.t 7), none⟩,
 ⟨(some 9), .mv (.t 8), none⟩,
 ⟨(some 10), .fieldA 1 (.t 1), (some (9, false))⟩,
 ⟨(some 11), .load false 1 (.t 10), (some (9, false))⟩,
 ⟨(some 12), .call .froz 53 [(.t 11), (.k (.one (.v (.int .i64) ((0 : Int))))), (.k (.one (.v (.int .i64) ((12 : Int)))))], (some (9, false))⟩,
 ⟨(some 13), .un .not (.t 12), (some (9, false))⟩,
 ⟨(some 14), .pick (.t 9) (.k (.one (.v (.bool) (true)))) (.t 13), none⟩,
 ⟨(some 15), .mv (.t 14), none⟩,
 ⟨(some 16), .fieldA 0 (.t 1), (some (15, false))⟩,
 ⟨(some 17), .load false 1 (.t 16), (some (15, false))⟩,
 ⟨(some 18), .fieldA 2 (.t 1), (some (15, false))⟩,
 ⟨(some 19), .load false 1 (.t 18), (some (15, false))⟩,
 ⟨(some 20), .fieldA 1 (.t 1), (some (15, false))⟩,
 ⟨(some 21), .load false 1 (.t 20), (some (15, false))⟩,
 ⟨(some 22), .call .froz 54 [(.t 17), (.t 19), (.t 21)], (some (15, false))⟩,
 ⟨(some 23), .un .not (.t 22), (some (15, false))⟩,
 ⟨(some 24), .pick (.t 15) (.k (.one (.v (.bool) (true)))) (.t 23), none⟩,
 ⟨(some 25), .mv (.t 24), none⟩,
 ⟨(some 26), .fieldA 0 (.t 1), (some (25, false))⟩,
 ⟨(some 27), .load false 1 (.t 26), (some (25, false))⟩,
 ⟨(some 28), .fieldA 4 (.t 1), (some (25, false))⟩,
 ⟨(some 29), .load false 1 (.t 28), (some (25, false))⟩,
 ⟨(some 30), .fieldA 1 (.t 1), (some (25, false))⟩,
 ⟨(some 31), .load false 1 (.t 30), (some (25, false))⟩,
 ⟨(some 32), .call .froz 54 [(.t 27), (.t 29), (.t 31)], (some (25, false))⟩,
 ⟨(some 33), .un .not (.t 32), (some (25, false))⟩,
 ⟨(some 34), .pick (.t 25) (.k (.one (.v (.bool) (true)))) (.t 33), none⟩,
 ⟨(some 35), .mv (.t 34), none⟩,
 ⟨(some 36), .fieldA 3 (.t 1), (some (35, false))⟩,
 ⟨(some 37), .load false 1 (.t 36), (some (35, false))⟩,
 ⟨(some 38), .len (.t 37), (some (35, false))⟩,
 ⟨(some 39), .call .froz 53 [(.t 38), (.k (.one (.v (.int .i64) ((1 : Int))))), (.k (.one (.v (.int .i64) ((4 : Int)))))], (some (35, false))⟩,
 ⟨(some 40), .un .not (.t 39), (some (35, false))⟩,
 ⟨(some 41), .pick (.t 35) (.k (.one (.v (.bool) (true)))) (.t 40), none⟩])
 (.cond (.t 41)
 (.seq
 (.reg false [
 ⟨(some 2), .mv (.k (.one (.v (.bool) (false)))), none⟩])
 .ret)
 .skip))
 (.seq
 (.seq
 (.reg false [
 ⟨(some 42), .fieldA 3 (.t 1), none⟩,
 ⟨(some 43), .load false 1 (.t 42), none⟩,
 ⟨(some 44), .len (.t 43), none⟩,
 ⟨(some 45), .mv (.k (.one (.v (.int .i64) ((0 : Int))))), none⟩])
 (.join ⟨[], []⟩ [1] []
 (.block 0
 (.loop 0 ⟨[(1, .one (.c (.ptr0 1 0))), (43, .one (.c (.v (.list [.int .i64, .int .i64, .list [.int .i64]])))), (44, .one (.c (.v (.int .i64)))), (45, .one (.c (.v (.int .i64))))], [(1, .box [.c (.v (.int .i64)), .c (.v (.int .i64)), .c (.v (.list [.int .i64])), .c (.v (.list [.int .i64, .int .i64, .list [.int .i64]])), .c (.v (.list [.int .i64]))])]⟩ [1, 4] []
 (.seq
 (.reg false [
 ⟨(some 46), .bin .lss (.t 45) (.t 44), none⟩])
 (.seq
 (.cond (.t 46)
 .skip
 (.exit 0))
 (.seq
 (.block 1
 (.seq
 (.reg false [
 ⟨(some 47), .idxA 3 (.t 43) (.t 45), none⟩,
 ⟨(some 48), .load true 3 (.t 47), none⟩,
 ⟨(some 4), .alloc [.v (.int .i64) ((0 : Int)), .v (.int .i64) ((0 : Int)), .nil [.int .i64]], none⟩,
 ⟨none, .store 3 (.t 4) (.t 48), none⟩])
 (.seq
 (.reg false [
 ⟨(some 49), .fieldA 0 (.t 1), none⟩,
 ⟨(some 50), .load false 1 (.t 49), none⟩,
 ⟨(some 51), .load true 3 (.t 4), none⟩,
 ⟨(some 52), .call .froz 55 [(.t 50), (.t 51)], none⟩,
 ⟨(some 53), .un .not (.t 52), none⟩,
 ⟨(some 54), .mv (.t 53), none⟩,
 ⟨(some 55), .fieldA 0 (.t 4), (some (54, false))⟩,
 ⟨(some 56), .load false 1 (.t 55), (some (54, false))⟩,
 ⟨(some 57), .fieldA 1 (.t 1), (some (54, false))⟩,
 ⟨(some 58), .load false 1 (.t 57), (some (54, false))⟩,
 ⟨(some 59), .bin .neq (.t 56) (.t 58), (some (54, false))⟩,
 ⟨(some 60), .pick (.t 54) (.k (.one (.v (.bool) (true)))) (.t 59), none⟩,
 ⟨(some 61), .mv (.t 60), none⟩,
 ⟨(some 62), .fieldA 1 (.t 4), (some (61, false))⟩,
 ⟨(some 63), .load false 1 (.t 62), (some (61, false))⟩,
 ⟨(some 64), .fieldA 1 (.t 1), (some (61, false))⟩,
 ⟨(some 65), .load false 1 (.t 64), (some (61, false))⟩,
 ⟨(some 66), .bin .neq (.t 63) (.t 65), (some (61, false))⟩,
 ⟨(some 67), .pick (.t 61) (.k (.one (.v (.bool) (true)))) (.t 66), none⟩])
 (.cond (.t 67)
 (.seq
 (.reg false [
 ⟨(some 2), .mv (.k (.one (.v (.bool) (false)))), none⟩])
 .ret)
 .skip))))
 (.reg false [
 ⟨(some 68), .bin .add (.t 45) (.k (.one (.v (.int .i64) ((1 : Int))))), none⟩,
 ⟨(some 45), .mv (.t 68), none⟩]))))))))
 (.seq
 (.reg false [
 ⟨(some 2), .mv (.k (.one (.v (.bool) (true)))), none⟩])
 .ret))))
def ms_spec_AutomatonOk : List MRes := [.tmp 2]
theorem n_spec_AutomatonOk (NN : Nat) (x : DLL (Sig.tys ag_spec_AutomatonOk)) : runS NN [fn_spec_IsPrime, fn_spec_l01In, fn_spec_l34Row, fn_spec_MatrixOk] sc_spec_AutomatonOk ms_spec_AutomatonOk ag_spec_AutomatonOk rs_spec_AutomatonOk x = G_spec_AutomatonOk NN x := by kernel_rfl
theorem k_spec_AutomatonOk : chkS Go.Proofs.Try.prog 16 sc_spec_AutomatonOk.er ms_spec_AutomatonOk 1 = true := by decide +kernel
theorem p_spec_AutomatonOk : PureSpec Go.Proofs.Try.prog 16 fn_spec_AutomatonOk.M ∧ chkFun Go.Proofs.Try.prog 16 = true :=
  pure_of_runS (T := [fn_spec_IsPrime, fn_spec_l01In, fn_spec_l34Row, fn_spec_MatrixOk]) (sc := sc_spec_AutomatonOk) (ms := ms_spec_AutomatonOk) (args := ag_spec_AutomatonOk) (res := rs_spec_AutomatonOk) (SOk.cons p_spec_IsPrime <| SOk.cons p_spec_l01In <| SOk.cons p_spec_l34Row <| SOk.cons p_spec_MatrixOk <| SOk.nil) follows_ok k_spec_AutomatonOk F_spec_AutomatonOk fun x y h => (n_spec_AutomatonOk FUEL x).trans (f_spec_AutomatonOk x y h)

def fn_spec_l34Alike : SFn := ⟨77, ag_spec_l34Alike, mu_spec_l34Alike, rs_spec_l34Alike, F_spec_l34Alike⟩
def sc_spec_l34Alike : SCode :=
 (.seq
 (.reg false [
 ⟨(some 2), .box 5 (.t 0), none⟩,
 ⟨(some 3), .box 5 (.t 1), none⟩,
 ⟨(some 4), .mv (.k (.one (.v (.bool) (false)))), none⟩])
 (.seq
 (.reg false [
 ⟨(some 5), .load true 5 (.t 2), none⟩,
 ⟨(some 6), .call .froz 16 [(.t 5)], none⟩,
 ⟨(some 7), .mv (.t 6), none⟩,
 ⟨(some 8), .load true 5 (.t 3), (some (7, true))⟩,
 ⟨(some 9), .call .froz 16 [(.t 8)], (some (7, true))⟩,
 ⟨(some 10), .pick (.t 7) (.t 9) (.k (.one (.v (.bool) (false)))), none⟩,
 ⟨(some 11), .mv (.t 10), none⟩,
 ⟨(some 12), .fieldA 0 (.t 2), (some (11, true))⟩,
 ⟨(some 13), .load false 1 (.t 12), (some (11, true))⟩,
 ⟨(some 14), .fieldA 0 (.t 3), (some (11, true))⟩,
 ⟨(some 15), .load false 1 (.t 14), (some (11, true))⟩,
 ⟨(some 16), .bin .eql (.t 13) (.t 15), (some (11, true))⟩,
 ⟨(some 17), .pick (.t 11) (.t 16) (.k (.one (.v (.bool) (false)))), none⟩,
 ⟨(some 18), .mv (.t 17), none⟩,
 ⟨(some 19), .fieldA 3 (.t 2), (some (18, true))⟩,
 ⟨(some 20), .load false 1 (.t 19), (some (18, true))⟩,
 ⟨(some 21), .len (.t 20), (some (18, true))⟩,
 ⟨(some 22), .fieldA 3 (.t 3), (some (18, true))⟩,
 ⟨(some 23), .load false 1 (.t 22), (some (18, true))⟩,
 ⟨(some 24), .len (.t 23), (some (18, true))⟩,
 ⟨(some 25), .bin .eql (.t 21) (.t 24), (some (18, true))⟩,
 ⟨(some 26), .pick (.t 18) (.t 25) (.k (.one (.v (.bool) (false)))), none⟩,
 ⟨(some 4), .mv (.t 26), none⟩])
 .ret))
def ms_spec_l34Alike : List MRes := [.tmp 4]
theorem n_spec_l34Alike (NN : Nat) (x : DLL (Sig.tys ag_spec_l34Alike)) : runS NN [fn_spec_AutomatonOk] sc_spec_l34Alike ms_spec_l34Alike ag_spec_l34Alike rs_spec_l34Alike x = G_spec_l34Alike NN x := by kernel_rfl
theorem k_spec_l34Alike : chkS Go.Proofs.Try.prog 77 sc_spec_l34Alike.er ms_spec_l34Alike 2 = true := by decide +kernel
theorem p_spec_l34Alike : PureSpec Go.Proofs.Try.prog 77 fn_spec_l34Alike.M ∧ chkFun Go.Proofs.Try.prog 77 = true :=
  pure_of_runS (T := [fn_spec_AutomatonOk]) (sc := sc_spec_l34Alike) (ms := ms_spec_l34Alike) (args := ag_spec_l34Alike) (res := rs_spec_l34Alike) (SOk.cons p_spec_AutomatonOk <| SOk.nil) follows_ok k_spec_l34Alike F_spec_l34Alike fun x y h => (n_spec_l34Alike FUEL x).trans (f_spec_l34Alike x y h)

def fn_spec_l05Ints : SFn := ⟨83, ag_spec_l05Ints, mu_spec_l05Ints, rs_spec_l05Ints, F_spec_l05Ints⟩
def sc_spec_l05Ints : SCode :=
 (.seq
 (.reg false [
 ⟨(some 2), .mv (.k (.one (.nil [.int .i64]))), none⟩])
 (.seq
 (.reg false [
 ⟨(some 3), .bslice [.int .i64] [], none⟩,
 ⟨(some 4), .mv (.t 0), none⟩,
 ⟨(some 5), .append true [.int .i64] 8 (.t 3) (.t 4), none⟩,
 ⟨(some 2), .mv (.t 5), none⟩])
 .ret))
def ms_spec_l05Ints : List MRes := [.tmp 2]
theorem n_spec_l05Ints (NN : Nat) (x : DLL (Sig.tys ag_spec_l05Ints)) : runS NN [] sc_spec_l05Ints ms_spec_l05Ints ag_spec_l05Ints rs_spec_l05Ints x = G_spec_l05Ints NN x := by kernel_rfl
theorem k_spec_l05Ints : chkS Go.Proofs.Try.prog 83 sc_spec_l05Ints.er ms_spec_l05Ints 1 = true := by decide +kernel
theorem p_spec_l05Ints : PureSpec Go.Proofs.Try.prog 83 fn_spec_l05Ints.M ∧ chkFun Go.Proofs.Try.prog 83 = true :=
  pure_of_runS (T := []) (sc := sc_spec_l05Ints) (ms := ms_spec_l05Ints) (args := ag_spec_l05Ints) (res := rs_spec_l05Ints) (SOk.nil) follows_ok k_spec_l05Ints F_spec_l05Ints fun x y h => (n_spec_l05Ints FUEL x).trans (f_spec_l05Ints x y h)

def fn_spec_l31New : SFn := ⟨110, ag_spec_l31New, mu_spec_l31New, rs_spec_l31New, F_spec_l31New⟩
def sc_spec_l31New : SCode :=
 (.seq
 (.reg false [
 ⟨(some 4), .alloc [.v (.int .i64) ((0 : Int)), .v (.int .i64) ((0 : Int)), .nil [.int .i64]], none⟩])
 (.seq
 (.reg false [
 ⟨(some 5), .mv (.t 0), none⟩,
 ⟨(some 6), .mv (.t 1), none⟩,
 ⟨(some 7), .mv (.t 0), none⟩,
 ⟨(some 8), .mv (.t 1), none⟩,
 ⟨(some 9), .bin .mul (.t 7) (.t 8), none⟩,
 ⟨(some 10), .mkslice .froz [.int .i64] 8 (0 : Int) (.t 9) (.t 9), none⟩,
 ⟨(some 11), .build [.v (.int .i64) ((0 : Int)), .v (.int .i64) ((0 : Int)), .nil [.int .i64]] [(0, 1, (.t 5)), (1, 1, (.t 6)), (2, 1, (.t 10))], none⟩,
 ⟨none, .store 3 (.t 4) (.t 11), none⟩])
 .ret))
def ms_spec_l31New : List MRes := [.cell 4 3 true]
theorem n_spec_l31New (NN : Nat) (x : DLL (Sig.tys ag_spec_l31New)) : runS NN [] sc_spec_l31New ms_spec_l31New ag_spec_l31New rs_spec_l31New x = G_spec_l31New NN x := by kernel_rfl
theorem k_spec_l31New : chkS Go.Proofs.Try.prog 110 sc_spec_l31New.er ms_spec_l31New 2 = true := by decide +kernel
theorem p_spec_l31New : PureSpec Go.Proofs.Try.prog 110 fn_spec_l31New.M ∧ chkFun Go.Proofs.Try.prog 110 = true :=
  pure_of_runS (T := []) (sc := sc_spec_l31New) (ms := ms_spec_l31New) (args := ag_spec_l31New) (res := rs_spec_l31New) (SOk.nil) follows_ok k_spec_l31New F_spec_l31New fun x y h => (n_spec_l31New FUEL x).trans (f_spec_l31New x y h)

def fn_spec_l34Sum : SFn := ⟨81, ag_spec_l34Sum, mu_spec_l34Sum, rs_spec_l34Sum, F_spec_l34Sum⟩
def sc_spec_l34Sum : SCode :=
 (.seq
 (.reg false [
 ⟨(some 3), .box 5 (.t 0), none⟩,
 ⟨(some 4), .box 5 (.t 1), none⟩,
 ⟨(some 6), .alloc [.v (.int .i64) ((0 : Int)), .v (.int .i64) ((0 : Int)), .nil [.int .i64], .nil [.int .i64, .int .i64, .list [.int .i64]], .nil [.int .i64]], none⟩])
 (.seq
 (.reg false [
 ⟨(some 18), .fieldA 1 (.t 3), none⟩,
 ⟨(some 19), .load false 1 (.t 18), none⟩,
 ⟨(some 20), .fieldA 1 (.t 4), none⟩,
 ⟨(some 21), .load false 1 (.t 20), none⟩,
 ⟨(some 22), .bin .add (.t 19) (.t 21), none⟩,
 ⟨(some 7), .mv (.t 22), none⟩])
 (.seq
 (.regD [(0, 8), (1, 8), (8, 9), (8, 10), (8, 13)] [
 ⟨(some 23), .fieldA 0 (.t 3), none⟩,
 ⟨(some 24), .load false 1 (.t 23), none⟩,
 ⟨(some 25), .mv (.t 7), none⟩,
 ⟨(some 26), .fieldA 2 (.t 3), none⟩,
 ⟨(some 27), .load false 1 (.t 26), none⟩,
 ⟨(some 28), .call .froz 83 [(.t 27)], none⟩,
 ⟨(some 29), .fieldA 2 (.t 4), none⟩,
 ⟨(some 30), .load false 1 (.t 29), none⟩,
 ⟨(some 31), .append true [.int .i64] 8 (.t 28) (.t 30), none⟩,
 ⟨(some 32), .fieldA 4 (.t 3), none⟩,
 ⟨(some 33), .load false 1 (.t 32), none⟩,
 ⟨(some 34), .call .froz 83 [(.t 33)], none⟩,
 ⟨(some 35), .build [.v (.int .i64) ((0 : Int)), .v (.int .i64) ((0 : Int)), .nil [.int .i64], .nil [.int .i64, .int .i64, .list [.int .i64]], .nil [.int .i64]] [(0, 1, (.t 24)), (1, 1, (.t 25)), (2, 1, (.t 31)), (4, 1, (.t 34))], none⟩,
 ⟨(some 8), .alloc [.v (.int .i64) ((0 : Int)), .v (.int .i64) ((0 : Int)), .nil [.int .i64], .nil [.int .i64, .int .i64, .list [.int .i64]], .nil [.int .i64]], none⟩,
 ⟨none, .store 5 (.t 8) (.t 35), none⟩])
 (.seq
 (.seq
 (.reg false [
 ⟨(some 36), .fieldA 4 (.t 4), none⟩,
 ⟨(some 37), .load false 1 (.t 36), none⟩,
 ⟨(some 38), .len (.t 37), none⟩,
 ⟨(some 39), .mv (.k (.one (.v (.int .i64) ((0 : Int))))), none⟩])
 (.join ⟨[(6, .one (.c (.ptr0 6 0))), (8, .one (.c (.ptr0 8 0))), (4, .one (.c (.ptr0 4 0))), (3, .one (.c (.ptr0 3 0))), (7, .one (.c (.v (.int .i64))))], [(3, .box [.c (.v (.int .i64)), .c (.v (.int .i64)), .c (.v (.list [.int .i64])), .c (.v (.list [.int .i64, .int .i64, .list [.int .i64]])), .c (.v (.list [.int .i64]))]), (4, .box [.c (.v (.int .i64)), .c (.v (.int .i64)), .c (.v (.list [.int .i64])), .c (.v (.list [.int .i64, .int .i64, .list [.int .i64]])), .c (.v (.list [.int .i64]))]), (6, .box [.c (.v (.int .i64)), .c (.v (.int .i64)), .c (.full 500006 1), .c (.full 500007 3), .c (.full 500008 1)]), (8, .box [.c (.v (.int .i64)), .c (.v (.int .i64)), .c (.full 500009 1), .c (.full 500010 3), .c (.full 500011 1)]), (500006, .row true .froz [.int .i64]), (500007, .row true .froz [.int .i64, .int .i64, .list [.int .i64]]), (500008, .row true .froz [.int .i64]), (500009, .row true .froz [.int .i64]), (500010, .row true .froz [.int .i64, .int .i64, .list [.int .i64]]), (500011, .row true .froz [.int .i64])]⟩ [3, 4, 6, 8, 500000, 500001, 500002, 500003, 500004, 500005, 500006, 500007, 500008, 500009, 500010, 500011] [(true, 6, 2, 500006, .froz, []), (true, 6, 3, 500007, .froz, []), (true, 6, 4, 500008, .froz, []), (true, 8, 2, 500009, .froz, []), (true, 8, 3, 500010, .froz, []), (true, 8, 4, 500011, .froz, [])]
 (.block 0
 (.loop 0 ⟨[(2, .one (.c (.v (.int .i64)))), (3, .one (.c (.ptr0 3 0))), (4, .one (.c (.ptr0 4 0))), (6, .one (.c (.ptr0 6 0))), (7, .one (.c (.v (.int .i64)))), (8, .one (.c (.ptr0 8 0))), (37, .one (.c (.v (.list [.int .i64])))), (38, .one (.c (.v (.int .i64)))), (39, .one (.c (.v (.int .i64))))], [(3, .box [.c (.v (.int .i64)), .c (.v (.int .i64)), .c (.v (.list [.int .i64])), .c (.v (.list [.int .i64, .int .i64, .list [.int .i64]])), .c (.v (.list [.int .i64]))]), (4, .box [.c (.v (.int .i64)), .c (.v (.int .i64)), .c (.v (.list [.int .i64])), .c (.v (.list [.int .i64, .int .i64, .list [.int .i64]])), .c (.v (.list [.int .i64]))]), (6, .box [.c (.v (.int .i64)), .c (.v (.int .i64)), .c (.full 500000 1), .c (.full 500001 3), .c (.full 500002 1)]), (8, .box [.c (.v (.int .i64)), .c (.v (.int .i64)), .c (.full 500003 1), .c (.full 500004 3), .c (.full 500005 1)]), (500000, .row true .froz [.int .i64]), (500001, .row true .froz [.int .i64, .int .i64, .list [.int .i64]]), (500002, .row true .froz [.int .i64]), (500003, .row true .froz [.int .i64]), (500004, .row true .froz [.int .i64, .int .i64, .list [.int .i64]]), (500005, .row true .froz [.int .i64])]⟩ [3, 4, 6, 31, 35000, 8, 51, 52, 500000, 500001, 500002, 500003, 500004, 500005] [(true, 6, 2, 500000, .froz, []), (true, 6, 3, 500001, .froz, []), (true, 6, 4, 500002, .froz, []), (true, 8, 2, 500003, .froz, []), (true, 8, 3, 500004, .froz, []), (true, 8, 4, 500005, .froz, [])]
 (.seq
 (.reg false [
 ⟨(some 40), .bin .lss (.t 39) (.t 38), none⟩])
 (.seq
 (.cond (.t 40)
 .skip
 (.exit 0))
 (.seq
 (.block 1
 (.seq
 (.reg false [
 ⟨(some 41), .idxA 1 (.t 37) (.t 39), none⟩,
 ⟨(some 42), .load false 1 (.t 41), none⟩,
 ⟨(some 10), .mv (.t 42), none⟩])
 (.regD [(0, 8), (1, 8)] [
 ⟨(some 43), .fieldA 4 (.t 8), none⟩,
 ⟨(some 44), .load false 1 (.t 43), none⟩,
 ⟨(some 45), .mv (.t 10), none⟩,
 ⟨(some 46), .mv (.t 2), none⟩,
 ⟨(some 47), .bin .mul (.t 45) (.t 46), none⟩,
 ⟨(some 48), .fieldA 0 (.t 3), none⟩,
 ⟨(some 49), .load false 1 (.t 48), none⟩,
 ⟨(some 50), .bin .rem (.t 47) (.t 49), none⟩,
 ⟨(some 51), .bslice [.int .i64] [(.t 50)], none⟩,
 ⟨(some 52), .append true [.int .i64] 8 (.t 44) (.t 51), none⟩,
 ⟨(some 53), .fieldA 4 (.t 8), none⟩,
 ⟨none, .store 1 (.t 53) (.t 52), none⟩])))
 (.reg false [
 ⟨(some 54), .bin .add (.t 39) (.k (.one (.v (.int .i64) ((1 : Int))))), none⟩,
 ⟨(some 39), .mv (.t 54), none⟩]))))))))
 (.seq
 (.seq
 (.reg false [
 ⟨(some 55), .fieldA 3 (.t 3), none⟩,
 ⟨(some 56), .load false 1 (.t 55), none⟩,
 ⟨(some 57), .len (.t 56), none⟩,
 ⟨(some 58), .mv (.k (.one (.v (.int .i64) ((0 : Int))))), none⟩])
 (.join ⟨[(8, .one (.c (.ptr0 8 0))), (6, .one (.c (.ptr0 6 0)))], [(6, .box [.c (.v (.int .i64)), .c (.v (.int .i64)), .c (.full 500080 1), .c (.full 500081 3), .c (.full 500082 1)]), (8, .box [.c (.v (.int .i64)), .c (.v (.int .i64)), .c (.full 500083 1), .c (.full 500084 3), .c (.full 500085 1)]), (500080, .row true .froz [.int .i64]), (500081, .row true .froz [.int .i64, .int .i64, .list [.int .i64]]), (500082, .row true .froz [.int .i64]), (500083, .row true .froz [.int .i64]), (500084, .row true .froz [.int .i64, .int .i64, .list [.int .i64]]), (500085, .row true .froz [.int .i64])]⟩ [3, 4, 6, 8, 500012, 500013, 500014, 500015, 500016, 500017, 500080, 500081, 500082, 500083, 500084, 500085] [(true, 6, 2, 500080, .froz, []), (true, 6, 3, 500081, .froz, []), (true, 6, 4, 500082, .froz, []), (true, 8, 2, 500083, .froz, []), (true, 8, 3, 500084, .froz, []), (true, 8, 4, 500085, .froz, [])]
 (.block 2
 (.loop 0 ⟨[(3, .one (.c (.ptr0 3 0))), (4, .one (.c (.ptr0 4 0))), (6, .one (.c (.ptr0 6 0))), (7, .one (.c (.v (.int .i64)))), (8, .one (.c (.ptr0 8 0))), (56, .one (.c (.v (.list [.int .i64, .int .i64, .list [.int .i64]])))), (57, .one (.c (.v (.int .i64)))), (58, .one (.c (.v (.int .i64))))], [(3, .box [.c (.v (.int .i64)), .c (.v (.int .i64)), .c (.v (.list [.int .i64])), .c (.v (.list [.int .i64, .int .i64, .list [.int .i64]])), .c (.v (.list [.int .i64]))]), (4, .box [.c (.v (.int .i64)), .c (.v (.int .i64)), .c (.v (.list [.int .i64])), .c (.v (.list [.int .i64, .int .i64, .list [.int .i64]])), .c (.v (.list [.int .i64]))]), (6, .box [.c (.v (.int .i64)), .c (.v (.int .i64)), .c (.full 500012 1), .c (.full 500013 3), .c (.full 500014 1)]), (8, .box [.c (.v (.int .i64)), .c (.v (.int .i64)), .c (.full 500015 1), .c (.full 500016 3), .c (.full 500017 1)]), (500012, .row true .froz [.int .i64]), (500013, .row true .froz [.int .i64, .int .i64, .list [.int .i64]]), (500014, .row true .froz [.int .i64]), (500015, .row true .froz [.int .i64]), (500016, .row true .froz [.int .i64, .int .i64, .list [.int .i64]]), (500017, .row true .froz [.int .i64])]⟩ [3, 4, 6, 8, 500006, 500007, 500008, 500009, 500010, 500011, 500012, 500013, 500014, 500015, 500016, 500017, 500074, 500075, 500076, 500077, 500078, 500079] [(true, 6, 2, 500012, .froz, []), (true, 6, 3, 500013, .froz, []), (true, 6, 4, 500014, .froz, []), (true, 8, 2, 500015, .froz, []), (true, 8, 3, 500016, .froz, []), (true, 8, 4, 500017, .froz, [])]
 (.seq
 (.reg false [
 ⟨(some 59), .bin .lss (.t 58) (.t 57), none⟩])
 (.seq
 (.cond (.t 59)
 .skip
 (.exit 2))
 (.seq
 (.join ⟨[(58, .one (.c (.v (.int .i64)))), (3, .one (.c (.ptr0 3 0))), (4, .one (.c (.ptr0 4 0))), (6, .one (.c (.ptr0 6 0))), (7, .one (.c (.v (.int .i64)))), (8, .one (.c (.ptr0 8 0))), (56, .one (.c (.v (.list [.int .i64, .int .i64, .list [.int .i64]])))), (57, .one (.c (.v (.int .i64))))], [(3, .box [.c (.v (.int .i64)), .c (.v (.int .i64)), .c (.v (.list [.int .i64])), .c (.v (.list [.int .i64, .int .i64, .list [.int .i64]])), .c (.v (.list [.int .i64]))]), (4, .box [.c (.v (.int .i64)), .c (.v (.int .i64)), .c (.v (.list [.int .i64])), .c (.v (.list [.int .i64, .int .i64, .list [.int .i64]])), .c (.v (.list [.int .i64]))]), (6, .box [.c (.v (.int .i64)), .c (.v (.int .i64)), .c (.full 500074 1), .c (.full 500075 3), .c (.full 500076 1)]), (8, .box [.c (.v (.int .i64)), .c (.v (.int .i64)), .c (.full 500077 1), .c (.full 500078 3), .c (.full 500079 1)]), (500074, .row true .froz [.int .i64]), (500075, .row true .froz [.int .i64, .int .i64, .list [.int .i64]]), (500076, .row true .froz [.int .i64]), (500077, .row true .froz [.int .i64]), (500078, .row true .froz [.int .i64, .int .i64, .list [.int .i64]]), (500079, .row true .froz [.int .i64])]⟩ [3, 4, 6, 8, 13, 140, 500067, 500068, 500069, 500070, 500072, 500074, 500075, 500076, 500077, 500078, 500079] [(true, 6, 2, 500074, .froz, []), (true, 6, 3, 500075, .froz, []), (true, 6, 4, 500076, .froz, []), (true, 8, 2, 500077, .froz, []), (true, 8, 3, 500078, .froz, []), (true, 8, 4, 500079, .froz, [])]
 (.block 3
 (.seq
 (.reg false [
 ⟨(some 60), .mv (.t 58), none⟩,
 ⟨(some 61), .idxA 3 (.t 56) (.t 58), none⟩,
 ⟨(some 62), .load true 3 (.t 61), none⟩,
 ⟨(some 12), .alloc [.v (.int .i64) ((0 : Int)), .v (.int .i64) ((0 : Int)), .nil [.int .i64]], none⟩,
 ⟨(some 11), .mv (.t 60), none⟩,
 ⟨none, .store 3 (.t 12) (.t 62), none⟩])
 (.seq
 (.reg false [
 ⟨(some 63), .mv (.t 7), none⟩,
 ⟨(some 64), .mv (.t 7), none⟩,
 ⟨(some 65), .call .froz 110 [(.t 63), (.t 64)], none⟩,
 ⟨(some 13), .alloc [.v (.int .i64) ((0 : Int)), .v (.int .i64) ((0 : Int)), .nil [.int .i64]], none⟩,
 ⟨none, .store 3 (.t 13) (.t 65), none⟩])
 (.seq
 (.seq
 (.reg false [
 ⟨(some 14), .mv (.k (.one (.v (.int .i64) ((0 : Int))))), none⟩])
 (.join ⟨[(57, .one (.c (.v (.int .i64)))), (56, .one (.c (.v (.list [.int .i64, .int .i64, .list [.int .i64]])))), (8, .one (.c (.ptr0 8 0))), (7, .one (.c (.v (.int .i64)))), (6, .one (.c (.ptr0 6 0))), (4, .one (.c (.ptr0 4 0))), (3, .one (.c (.ptr0 3 0))), (58, .one (.c (.v (.int .i64)))), (13, .one (.c (.ptr0 13 0))), (11, .one (.c (.v (.int .i64))))], [(3, .box [.c (.v (.int .i64)), .c (.v (.int .i64)), .c (.v (.list [.int .i64])), .c (.v (.list [.int .i64, .int .i64, .list [.int .i64]])), .c (.v (.list [.int .i64]))]), (4, .box [.c (.v (.int .i64)), .c (.v (.int .i64)), .c (.v (.list [.int .i64])), .c (.v (.list [.int .i64, .int .i64, .list [.int .i64]])), .c (.v (.list [.int .i64]))]), (6, .box [.c (.v (.int .i64)), .c (.v (.int .i64)), .c (.full 500039 1), .c (.full 500040 3), .c (.full 500041 1)]), (8, .box [.c (.v (.int .i64)), .c (.v (.int .i64)), .c (.full 500042 1), .c (.full 500043 3), .c (.full 500044 1)]), (13, .box [.c (.v (.int .i64)), .c (.v (.int .i64)), .c (.full 500045 1)]), (500039, .row true .froz [.int .i64]), (500040, .row true .froz [.int .i64, .int .i64, .list [.int .i64]]), (500041, .row true .froz [.int .i64]), (500042, .row true .froz [.int .i64]), (500043, .row true .froz [.int .i64, .int .i64, .list [.int .i64]]), (500044, .row true .froz [.int .i64]), (500045, .row true .froz [.int .i64])]⟩ [3, 4, 6, 8, 12, 13, 500018, 500019, 500020, 500021, 500022, 500023, 500024, 500039, 500040, 500041, 500042, 500043, 500044, 500045] [(true, 6, 2, 500039, .froz, []), (true, 6, 3, 500040, .froz, []), (true, 6, 4, 500041, .froz, []), (true, 8, 2, 500042, .froz, []), (true, 8, 3, 500043, .froz, []), (true, 8, 4, 500044, .froz, []), (true, 13, 2, 500045, .froz, [])]
 (.block 4
 (.loop 0 ⟨[(3, .one (.c (.ptr0 3 0))), (4, .one (.c (.ptr0 4 0))), (6, .one (.c (.ptr0 6 0))), (7, .one (.c (.v (.int .i64)))), (8, .one (.c (.ptr0 8 0))), (11, .one (.c (.v (.int .i64)))), (12, .one (.c (.ptr0 12 0))), (13, .one (.c (.ptr0 13 0))), (14, .one (.c (.v (.int .i64)))), (56, .one (.c (.v (.list [.int .i64, .int .i64, .list [.int .i64]])))), (57, .one (.c (.v (.int .i64)))), (58, .one (.c (.v (.int .i64))))], [(3, .box [.c (.v (.int .i64)), .c (.v (.int .i64)), .c (.v (.list [.int .i64])), .c (.v (.list [.int .i64, .int .i64, .list [.int .i64]])), .c (.v (.list [.int .i64]))]), (4, .box [.c (.v (.int .i64)), .c (.v (.int .i64)), .c (.v (.list [.int .i64])), .c (.v (.list [.int .i64, .int .i64, .list [.int .i64]])), .c (.v (.list [.int .i64]))]), (6, .box [.c (.v (.int .i64)), .c (.v (.int .i64)), .c (.full 500018 1), .c (.full 500019 3), .c (.full 500020 1)]), (8, .box [.c (.v (.int .i64)), .c (.v (.int .i64)), .c (.full 500021 1), .c (.full 500022 3), .c (.full 500023 1)]), (12, .box [.c (.v (.int .i64)), .c (.v (.int .i64)), .c (.v (.list [.int .i64]))]), (13, .box [.c (.v (.int .i64)), .c (.v (.int .i64)), .c (.full 500024 1)]), (500018, .row true .froz [.int .i64]), (500019, .row true .froz [.int .i64, .int .i64, .list [.int .i64]]), (500020, .row true .froz [.int .i64]), (500021, .row true .froz [.int .i64]), (500022, .row true .froz [.int .i64, .int .i64, .list [.int .i64]]), (500023, .row true .froz [.int .i64]), (500024, .row true .froz [.int .i64])]⟩ [3, 4, 6, 8, 12, 66000, 13, 500012, 500013, 500014, 500015, 500016, 500017, 500018, 500019, 500020, 500021, 500022, 500023, 500024, 500032, 500033, 500034, 500035, 500036, 500037, 500038] [(true, 6, 2, 500018, .froz, []), (true, 6, 3, 500019, .froz, []), (true, 6, 4, 500020, .froz, []), (true, 8, 2, 500021, .froz, []), (true, 8, 3, 500022, .froz, []), (true, 8, 4, 500023, .froz, []), (true, 13, 2, 500024, .froz, [])]
 (.seq
 (.seq
 (.reg false [
 ⟨(some 66), .mv (.t 14), none⟩,
 ⟨(some 67), .fieldA 1 (.t 3), none⟩,
 ⟨(some 68), .load false 1 (.t 67), none⟩,
 ⟨(some 69), .bin .lss (.t 66) (.t 68), none⟩])
 (.cond (.t 69)
 .skip
 (.exit 4)))
 (.seq
 (.join ⟨[(14, .one (.c (.v (.int .i64)))), (3, .one (.c (.ptr0 3 0))), (4, .one (.c (.ptr0 4 0))), (6, .one (.c (.ptr0 6 0))), (7, .one (.c (.v (.int .i64)))), (8, .one (.c (.ptr0 8 0))), (11, .one (.c (.v (.int .i64)))), (12, .one (.c (.ptr0 12 0))), (13, .one (.c (.ptr0 13 0))), (56, .one (.c (.v (.list [.int .i64, .int .i64, .list [.int .i64]])))), (57, .one (.c (.v (.int .i64)))), (58, .one (.c (.v (.int .i64))))], [(3, .box [.c (.v (.int .i64)), .c (.v (.int .i64)), .c (.v (.list [.int .i64])), .c (.v (.list [.int .i64, .int .i64, .list [.int .i64]])), .c (.v (.list [.int .i64]))]), (4, .box [.c (.v (.int .i64)), .c (.v (.int .i64)), .c (.v (.list [.int .i64])), .c (.v (.list [.int .i64, .int .i64, .list [.int .i64]])), .c (.v (.list [.int .i64]))]), (6, .box [.c (.v (.int .i64)), .c (.v (.int .i64)), .c (.full 500032 1), .c (.full 500033 3), .c (.full 500034 1)]), (8, .box [.c (.v (.int .i64)), .c (.v (.int .i64)), .c (.full 500035 1), .c (.full 500036 3), .c (.full 500037 1)]), (12, .box [.c (.v (.int .i64)), .c (.v (.int .i64)), .c (.v (.list [.int .i64]))]), (13, .box [.c (.v (.int .i64)), .c (.v (.int .i64)), .c (.full 500038 1)]), (500032, .row true .froz [.int .i64]), (500033, .row true .froz [.int .i64, .int .i64, .list [.int .i64]]), (500034, .row true .froz [.int .i64]), (500035, .row true .froz [.int .i64]), (500036, .row true .froz [.int .i64, .int .i64, .list [.int .i64]]), (500037, .row true .froz [.int .i64]), (500038, .row true .froz [.int .i64])]⟩ [3, 4, 6, 8, 12, 13, 500025, 500026, 500027, 500028, 500029, 500030, 500031, 500032, 500033, 500034, 500035, 500036, 500037, 500038] [(true, 6, 2, 500032, .froz, []), (true, 6, 3, 500033, .froz, []), (true, 6, 4, 500034, .froz, []), (true, 8, 2, 500035, .froz, []), (true, 8, 3, 500036, .froz, []), (true, 8, 4, 500037, .froz, []), (true, 13, 2, 500038, .froz, [])]
 (.block 5
 (.seq
 (.reg false [
 ⟨(some 15), .mv (.k (.one (.v (.int .i64) ((0 : Int))))), none⟩])
 (.block 6
 (.loop 0 ⟨[(3, .one (.c (.ptr0 3 0))), (4, .one (.c (.ptr0 4 0))), (6, .one (.c (.ptr0 6 0))), (7, .one (.c (.v (.int .i64)))), (8, .one (.c (.ptr0 8 0))), (11, .one (.c (.v (.int .i64)))), (12, .one (.c (.ptr0 12 0))), (13, .one (.c (.ptr0 13 0))), (14, .one (.c (.v (.int .i64)))), (15, .one (.c (.v (.int .i64)))), (56, .one (.c (.v (.list [.int .i64, .int .i64, .list [.int .i64]])))), (57, .one (.c (.v (.int .i64)))), (58, .one (.c (.v (.int .i64))))], [(3, .box [.c (.v (.int .i64)), .c (.v (.int .i64)), .c (.v (.list [.int .i64])), .c (.v (.list [.int .i64, .int .i64, .list [.int .i64]])), .c (.v (.list [.int .i64]))]), (4, .box [.c (.v (.int .i64)), .c (.v (.int .i64)), .c (.v (.list [.int .i64])), .c (.v (.list [.int .i64, .int .i64, .list [.int .i64]])), .c (.v (.list [.int .i64]))]), (6, .box [.c (.v (.int .i64)), .c (.v (.int .i64)), .c (.full 500025 1), .c (.full 500026 3), .c (.full 500027 1)]), (8, .box [.c (.v (.int .i64)), .c (.v (.int .i64)), .c (.full 500028 1), .c (.full 500029 3), .c (.full 500030 1)]), (12, .box [.c (.v (.int .i64)), .c (.v (.int .i64)), .c (.v (.list [.int .i64]))]), (13, .box [.c (.v (.int .i64)), .c (.v (.int .i64)), .c (.full 500031 1)]), (500025, .row true .froz [.int .i64]), (500026, .row true .froz [.int .i64, .int .i64, .list [.int .i64]]), (500027, .row true .froz [.int .i64]), (500028, .row true .froz [.int .i64]), (500029, .row true .froz [.int .i64, .int .i64, .list [.int .i64]]), (500030, .row true .froz [.int .i64]), (500031, .row true .froz [.int .i64])]⟩ [3, 4, 6, 8, 12, 13, 500018, 500019, 500020, 500021, 500022, 500023, 500024, 500025, 500026, 500027, 500028, 500029, 500030, 500031] [(true, 6, 2, 500025, .froz, []), (true, 6, 3, 500026, .froz, []), (true, 6, 4, 500027, .froz, []), (true, 8, 2, 500028, .froz, []), (true, 8, 3, 500029, .froz, []), (true, 8, 4, 500030, .froz, []), (true, 13, 2, 500031, .froz, [])]
 (.seq
 (.seq
 (.reg false [
 ⟨(some 72), .mv (.t 15), none⟩,
 ⟨(some 73), .fieldA 1 (.t 3), none⟩,
 ⟨(some 74), .load false 1 (.t 73), none⟩,
 ⟨(some 75), .bin .lss (.t 72) (.t 74), none⟩])
 (.cond (.t 75)
 .skip
 (.exit 6)))
 (.seq
 (.block 7
 (.reg true [
 ⟨(some 78), .fieldA 2 (.t 13), none⟩,
 ⟨(some 79), .load false 1 (.t 78), none⟩,
 ⟨(some 80), .mv (.t 14), none⟩,
 ⟨(some 81), .mv (.t 7), none⟩,
 ⟨(some 82), .bin .mul (.t 80) (.t 81), none⟩,
 ⟨(some 83), .mv (.t 15), none⟩,
 ⟨(some 84), .bin .add (.t 82) (.t 83), none⟩,
 ⟨(some 85), .fieldA 2 (.t 12), none⟩,
 ⟨(some 86), .load false 1 (.t 85), none⟩,
 ⟨(some 87), .mv (.t 14), none⟩,
 ⟨(some 88), .fieldA 1 (.t 3), none⟩,
 ⟨(some 89), .load false 1 (.t 88), none⟩,
 ⟨(some 90), .bin .mul (.t 87) (.t 89), none⟩,
 ⟨(some 91), .mv (.t 15), none⟩,
 ⟨(some 92), .bin .add (.t 90) (.t 91), none⟩,
 ⟨(some 93), .idxA 1 (.t 86) (.t 92), none⟩,
 ⟨(some 94), .load false 1 (.t 93), none⟩,
 ⟨(some 95), .idxA 1 (.t 79) (.t 84), none⟩,
 ⟨none, .store 1 (.t 95) (.t 94), none⟩]))
 (.reg false [
 ⟨(some 76), .mv (.t 15), none⟩,
 ⟨(some 77), .bin .add (.t 76) (.k (.one (.v (.int .i64) ((1 : Int))))), none⟩,
 ⟨(some 15), .mv (.t 77), none⟩]))))))))
 (.reg false [
 ⟨(some 70), .mv (.t 14), none⟩,
 ⟨(some 71), .bin .add (.t 70) (.k (.one (.v (.int .i64) ((1 : Int))))), none⟩,
 ⟨(some 14), .mv (.t 71), none⟩])))))))
 (.seq
 (.seq
 (.reg false [
 ⟨(some 16), .mv (.k (.one (.v (.int .i64) ((0 : Int))))), none⟩])
 (.join ⟨[(13, .one (.c (.ptr0 13 0))), (58, .one (.c (.v (.int .i64)))), (3, .one (.c (.ptr0 3 0))), (4, .one (.c (.ptr0 4 0))), (6, .one (.c (.ptr0 6 0))), (7, .one (.c (.v (.int .i64)))), (8, .one (.c (.ptr0 8 0))), (56, .one (.c (.v (.list [.int .i64, .int .i64, .list [.int .i64]])))), (57, .one (.c (.v (.int .i64))))], [(3, .box [.c (.v (.int .i64)), .c (.v (.int .i64)), .c (.v (.list [.int .i64])), .c (.v (.list [.int .i64, .int .i64, .list [.int .i64]])), .c (.v (.list [.int .i64]))]), (4, .box [.c (.v (.int .i64)), .c (.v (.int .i64)), .c (.v (.list [.int .i64])), .c (.v (.list [.int .i64, .int .i64, .list [.int .i64]])), .c (.v (.list [.int .i64]))]), (6, .box [.c (.v (.int .i64)), .c (.v (.int .i64)), .c (.full 500067 1), .c (.full 500068 3), .c (.full 500069 1)]), (8, .box [.c (.v (.int .i64)), .c (.v (.int .i64)), .c (.full 500070 1), .c (.full 500071 3), .c (.full 500072 1)]), (13, .box [.c (.v (.int .i64)), .c (.v (.int .i64)), .c (.full 500073 1)]), (500067, .row true .froz [.int .i64]), (500068, .row true .froz [.int .i64, .int .i64, .list [.int .i64]]), (500069, .row true .froz [.int .i64]), (500070, .row true .froz [.int .i64]), (500071, .row true .froz [.int .i64, .int .i64, .list [.int .i64]]), (500072, .row true .froz [.int .i64]), (500073, .row true .froz [.int .i64])]⟩ [3, 4, 6, 8, 13, 500046, 500047, 500048, 500049, 500050, 500051, 500052, 500067, 500068, 500069, 500070, 500071, 500072, 500073] [(true, 6, 2, 500067, .froz, []), (true, 6, 3, 500068, .froz, []), (true, 6, 4, 500069, .froz, []), (true, 8, 2, 500070, .froz, []), (true, 8, 3, 500071, .froz, []), (true, 8, 4, 500072, .froz, []), (true, 13, 2, 500073, .froz, [])]
 (.block 8
 (.loop 0 ⟨[(3, .one (.c (.ptr0 3 0))), (4, .one (.c (.ptr0 4 0))), (6, .one (.c (.ptr0 6 0))), (7, .one (.c (.v (.int .i64)))), (8, .one (.c (.ptr0 8 0))), (11, .one (.c (.v (.int .i64)))), (13, .one (.c (.ptr0 13 0))), (16, .one (.c (.v (.int .i64)))), (56, .one (.c (.v (.list [.int .i64, .int .i64, .list [.int .i64]])))), (57, .one (.c (.v (.int .i64)))), (58, .one (.c (.v (.int .i64))))], [(3, .box [.c (.v (.int .i64)), .c (.v (.int .i64)), .c (.v (.list [.int .i64])), .c (.v (.list [.int .i64, .int .i64, .list [.int .i64]])), .c (.v (.list [.int .i64]))]), (4, .box [.c (.v (.int .i64)), .c (.v (.int .i64)), .c (.v (.list [.int .i64])), .c (.v (.list [.int .i64, .int .i64, .list [.int .i64]])), .c (.v (.list [.int .i64]))]), (6, .box [.c (.v (.int .i64)), .c (.v (.int .i64)), .c (.full 500046 1), .c (.full 500047 3), .c (.full 500048 1)]), (8, .box [.c (.v (.int .i64)), .c (.v (.int .i64)), .c (.full 500049 1), .c (.full 500050 3), .c (.full 500051 1)]), (13, .box [.c (.v (.int .i64)), .c (.v (.int .i64)), .c (.full 500052 1)]), (500046, .row true .froz [.int .i64]), (500047, .row true .froz [.int .i64, .int .i64, .list [.int .i64]]), (500048, .row true .froz [.int .i64]), (500049, .row true .froz [.int .i64]), (500050, .row true .froz [.int .i64, .int .i64, .list [.int .i64]]), (500051, .row true .froz [.int .i64]), (500052, .row true .froz [.int .i64])]⟩ [3, 4, 6, 8, 13, 500039, 500040, 500041, 500042, 500043, 500044, 500045, 500046, 500047, 500048, 500049, 500050, 500051, 500052, 500060, 500061, 500062, 500063, 500064, 500065, 500066] [(true, 6, 2, 500046, .froz, []), (true, 6, 3, 500047, .froz, []), (true, 6, 4, 500048, .froz, []), (true, 8, 2, 500049, .froz, []), (true, 8, 3, 500050, .froz, []), (true, 8, 4, 500051, .froz, []), (true, 13, 2, 500052, .froz, [])]
 (.seq
 (.seq
 (.reg false [
 ⟨(some 96), .mv (.t 16), none⟩,
 ⟨(some 97), .fieldA 1 (.t 4), none⟩,
 ⟨(some 98), .load false 1 (.t 97), none⟩,
 ⟨(some 99), .bin .lss (.t 96) (.t 98), none⟩])
 (.cond (.t 99)
 .skip
 (.exit 8)))
 (.seq
 (.join ⟨[(16, .one (.c (.v (.int .i64)))), (3, .one (.c (.ptr0 3 0))), (4, .one (.c (.ptr0 4 0))), (6, .one (.c (.ptr0 6 0))), (7, .one (.c (.v (.int .i64)))), (8, .one (.c (.ptr0 8 0))), (11, .one (.c (.v (.int .i64)))), (13, .one (.c (.ptr0 13 0))), (56, .one (.c (.v (.list [.int .i64, .int .i64, .list [.int .i64]])))), (57, .one (.c (.v (.int .i64)))), (58, .one (.c (.v (.int .i64))))], [(3, .box [.c (.v (.int .i64)), .c (.v (.int .i64)), .c (.v (.list [.int .i64])), .c (.v (.list [.int .i64, .int .i64, .list [.int .i64]])), .c (.v (.list [.int .i64]))]), (4, .box [.c (.v (.int .i64)), .c (.v (.int .i64)), .c (.v (.list [.int .i64])), .c (.v (.list [.int .i64, .int .i64, .list [.int .i64]])), .c (.v (.list [.int .i64]))]), (6, .box [.c (.v (.int .i64)), .c (.v (.int .i64)), .c (.full 500060 1), .c (.full 500061 3), .c (.full 500062 1)]), (8, .box [.c (.v (.int .i64)), .c (.v (.int .i64)), .c (.full 500063 1), .c (.full 500064 3), .c (.full 500065 1)]), (13, .box [.c (.v (.int .i64)), .c (.v (.int .i64)), .c (.full 500066 1)]), (500060, .row true .froz [.int .i64]), (500061, .row true .froz [.int .i64, .int .i64, .list [.int .i64]]), (500062, .row true .froz [.int .i64]), (500063, .row true .froz [.int .i64]), (500064, .row true .froz [.int .i64, .int .i64, .list [.int .i64]]), (500065, .row true .froz [.int .i64]), (500066, .row true .froz [.int .i64])]⟩ [3, 4, 6, 8, 13, 500053, 500054, 500055, 500056, 500057, 500058, 500059, 500060, 500061, 500062, 500063, 500064, 500065, 500066] [(true, 6, 2, 500060, .froz, []), (true, 6, 3, 500061, .froz, []), (true, 6, 4, 500062, .froz, []), (true, 8, 2, 500063, .froz, []), (true, 8, 3, 500064, .froz, []), (true, 8, 4, 500065, .froz, []), (true, 13, 2, 500066, .froz, [])]
 (.block 9
 (.seq
 (.reg false [
 ⟨(some 17), .mv (.k (.one (.v (.int .i64) ((0 : Int))))), none⟩])
 (.block 10
 (.loop 0 ⟨[(3, .one (.c (.ptr0 3 0))), (4, .one (.c (.ptr0 4 0))), (6, .one (.c (.ptr0 6 0))), (7, .one (.c (.v (.int .i64)))), (8, .one (.c (.ptr0 8 0))), (11, .one (.c (.v (.int .i64)))), (13, .one (.c (.ptr0 13 0))), (16, .one (.c (.v (.int .i64)))), (17, .one (.c (.v (.int .i64)))), (56, .one (.c (.v (.list [.int .i64, .int .i64, .list [.int .i64]])))), (57, .one (.c (.v (.int .i64)))), (58, .one (.c (.v (.int .i64))))], [(3, .box [.c (.v (.int .i64)), .c (.v (.int .i64)), .c (.v (.list [.int .i64])), .c (.v (.list [.int .i64, .int .i64, .list [.int .i64]])), .c (.v (.list [.int .i64]))]), (4, .box [.c (.v (.int .i64)), .c (.v (.int .i64)), .c (.v (.list [.int .i64])), .c (.v (.list [.int .i64, .int .i64, .list [.int .i64]])), .c (.v (.list [.int .i64]))]), (6, .box [.c (.v (.int .i64)), .c (.v (.int .i64)), .c (.full 500053 1), .c (.full 500054 3), .c (.full 500055 1)]), (8, .box [.c (.v (.int .i64)), .c (.v (.int .i64)), .c (.full 500056 1), .c (.full 500057 3), .c (.full 500058 1)]), (13, .box [.c (.v (.int .i64)), .c (.v (.int .i64)), .c (.full 500059 1)]), (500053, .row true .froz [.int .i64]), (500054, .row true .froz [.int .i64, .int .i64, .list [.int .i64]]), (500055, .row true .froz [.int .i64]), (500056, .row true .froz [.int .i64]), (500057, .row true .froz [.int .i64, .int .i64, .list [.int .i64]]), (500058, .row true .froz [.int .i64]), (500059, .row true .froz [.int .i64])]⟩ [3, 4, 6, 8, 13, 500046, 500047, 500048, 500049, 500050, 500051, 500052, 500053, 500054, 500055, 500056, 500057, 500058, 500059] [(true, 6, 2, 500053, .froz, []), (true, 6, 3, 500054, .froz, []), (true, 6, 4, 500055, .froz, []), (true, 8, 2, 500056, .froz, []), (true, 8, 3, 500057, .froz, []), (true, 8, 4, 500058, .froz, []), (true, 13, 2, 500059, .froz, [])]
 (.seq
 (.seq
 (.reg false [
 ⟨(some 102), .mv (.t 17), none⟩,
 ⟨(some 103), .fieldA 1 (.t 4), none⟩,
 ⟨(some 104), .load false 1 (.t 103), none⟩,
 ⟨(some 105), .bin .lss (.t 102) (.t 104), none⟩])
 (.cond (.t 105)
 .skip
 (.exit 10)))
 (.seq
 (.block 11
 (.reg true [
 ⟨(some 108), .fieldA 2 (.t 13), none⟩,
 ⟨(some 109), .load false 1 (.t 108), none⟩,
 ⟨(some 110), .fieldA 1 (.t 3), none⟩,
 ⟨(some 111), .load false 1 (.t 110), none⟩,
 ⟨(some 112), .mv (.t 16), none⟩,
 ⟨(some 113), .bin .add (.t 111) (.t 112), none⟩,
 ⟨(some 114), .mv (.t 7), none⟩,
 ⟨(some 115), .bin .mul (.t 113) (.t 114), none⟩,
 ⟨(some 116), .fieldA 1 (.t 3), none⟩,
 ⟨(some 117), .load false 1 (.t 116), none⟩,
 ⟨(some 118), .bin .add (.t 115) (.t 117), none⟩,
 ⟨(some 119), .mv (.t 17), none⟩,
 ⟨(some 120), .bin .add (.t 118) (.t 119), none⟩,
 ⟨(some 121), .fieldA 3 (.t 4), none⟩,
 ⟨(some 122), .load false 1 (.t 121), none⟩,
 ⟨(some 123), .mv (.t 11), none⟩,
 ⟨(some 124), .idxA 3 (.t 122) (.t 123), none⟩,
 ⟨(some 125), .fieldA 2 (.t 124), none⟩,
 ⟨(some 126), .load false 1 (.t 125), none⟩,
 ⟨(some 127), .mv (.t 16), none⟩,
 ⟨(some 128), .fieldA 1 (.t 4), none⟩,
 ⟨(some 129), .load false 1 (.t 128), none⟩,
 ⟨(some 130), .bin .mul (.t 127) (.t 129), none⟩,
 ⟨(some 131), .mv (.t 17), none⟩,
 ⟨(some 132), .bin .add (.t 130) (.t 131), none⟩,
 ⟨(some 133), .idxA 1 (.t 126) (.t 132), none⟩,
 ⟨(some 134), .load false 1 (.t 133), none⟩,
 ⟨(some 135), .idxA 1 (.t 109) (.t 120), none⟩,
 ⟨none, .store 1 (.t 135) (.t 134), none⟩]))
 (.reg false [
 ⟨(some 106), .mv (.t 17), none⟩,
 ⟨(some 107), .bin .add (.t 106) (.k (.one (.v (.int .i64) ((1 : Int))))), none⟩,
 ⟨(some 17), .mv (.t 107), none⟩]))))))))
 (.reg false [
 ⟨(some 100), .mv (.t 16), none⟩,
 ⟨(some 101), .bin .add (.t 100) (.k (.one (.v (.int .i64) ((1 : Int))))), none⟩,
 ⟨(some 16), .mv (.t 101), none⟩])))))))
 (.reg false [
 ⟨(some 136), .fieldA 3 (.t 8), none⟩,
 ⟨(some 137), .load false 1 (.t 136), none⟩,
 ⟨(some 138), .load true 3 (.t 13), none⟩,
 ⟨(some 139), .bslice [.int .i64, .int .i64, .list [.int .i64]] [(.t 138)], none⟩,
 ⟨(some 140), .append false [.int .i64, .int .i64, .list [.int .i64]] 40 (.t 137) (.t 139), none⟩,
 ⟨(some 141), .fieldA 3 (.t 8), none⟩,
 ⟨none, .store 1 (.t 141) (.t 140), none⟩])))))))
 (.reg false [
 ⟨(some 142), .bin .add (.t 58) (.k (.one (.v (.int .i64) ((1 : Int))))), none⟩,
 ⟨(some 58), .mv (.t 142), none⟩]))))))))
 (.seq
 (.reg false [
 ⟨(some 143), .load true 5 (.t 8), none⟩,
 ⟨none, .store 5 (.t 6) (.t 143), none⟩])
 .ret))))))
def ms_spec_l34Sum : List MRes := [.cell 6 5 true]
theorem n_spec_l34Sum (NN : Nat) (x : DLL (Sig.tys ag_spec_l34Sum)) : runS NN [fn_spec_l05Ints, fn_spec_l31New] sc_spec_l34Sum ms_spec_l34Sum ag_spec_l34Sum rs_spec_l34Sum x = G_spec_l34Sum NN x := by kernel_rfl
theorem k_spec_l34Sum : chkS Go.Proofs.Try.prog 81 sc_spec_l34Sum.er ms_spec_l34Sum 3 = true := by decide +kernel
theorem p_spec_l34Sum : PureSpec Go.Proofs.Try.prog 81 fn_spec_l34Sum.M ∧ chkFun Go.Proofs.Try.prog 81 = true :=
  pure_of_runS (T := [fn_spec_l05Ints, fn_spec_l31New]) (sc := sc_spec_l34Sum) (ms := ms_spec_l34Sum) (args := ag_spec_l34Sum) (res := rs_spec_l34Sum) (SOk.cons p_spec_l05Ints <| SOk.cons p_spec_l31New <| SOk.nil) follows_ok k_spec_l34Sum F_spec_l34Sum fun x y h => (n_spec_l34Sum FUEL x).trans (f_spec_l34Sum x y h)

def fn_spec_AddAutomata : SFn := ⟨34, ag_spec_AddAutomata, mu_spec_AddAutomata, rs_spec_AddAutomata, F_spec_AddAutomata⟩
def sc_spec_AddAutomata : SCode :=
 (.seq
 (.reg false [
 ⟨(some 2), .box 5 (.t 0), none⟩,
 ⟨(some 3), .box 5 (.t 1), none⟩,
 ⟨(some 4), .alloc [.v (.int .i64) ((0 : Int)), .v (.int .i64) ((0 : Int)), .nil [.int .i64], .nil [.int .i64, .int .i64, .list [.int .i64]], .nil [.int .i64]], none⟩,
 ⟨(some 5), .mv (.k (.one (.v (.bool) (false)))), none⟩])
 (.seq
 (.seq
 (.reg false [
 ⟨(some 6), .load true 5 (.t 2), none⟩,
 ⟨(some 7), .load true 5 (.t 3), none⟩,
 ⟨(some 8), .call .froz 77 [(.t 6), (.t 7)], none⟩,
 ⟨(some 9), .un .not (.t 8), none⟩,
 ⟨(some 10), .mv (.t 9), none⟩,
 ⟨(some 11), .fieldA 1 (.t 2), (some (10, false))⟩,
 ⟨(some 12), .load false 1 (.t 11), (some (10, false))⟩,
 ⟨(some 13), .fieldA 1 (.t 3), (some (10, false))⟩,
 ⟨(some 14), .load false 1 (.t 13), (some (10, false))⟩,
 ⟨(some 15), .bin .add (.t 12) (.t 14), (some (10, false))⟩,
 ⟨(some 16), .bin .gtr (.t 15) (.k (.one (.v (.int .i64) ((12 : Int))))), (some (10, false))⟩,
 ⟨(some 17), .pick (.t 10) (.k (.one (.v (.bool) (true)))) (.t 16), none⟩])
 (.cond (.t 17)
 (.seq
 (.reg false [
 ⟨(some 18), .build [.v (.int .i64) ((0 : Int)), .v (.int .i64) ((0 : Int)), .nil [.int .i64], .nil [.int .i64, .int .i64, .list [.int .i64]], .nil [.int .i64]] [], none⟩,
 ⟨none, .store 5 (.t 4) (.t 18), none⟩,
 ⟨(some 5), .mv (.k (.one (.v (.bool) (false)))), none⟩])
 .ret)
 .skip))
 (.seq
 (.reg false [
 ⟨(some 19), .load true 5 (.t 2), none⟩,
 ⟨(some 20), .load true 5 (.t 3), none⟩,
 ⟨(some 21), .call .froz 81 [(.t 19), (.t 20), (.k (.one (.v (.int .i64) ((1 : Int)))))], none⟩,
 ⟨none, .store 5 (.t 4) (.t 21), none⟩,
 ⟨(some 5), .mv (.k (.one (.v (.bool) (true)))), none⟩])
 .ret)))
def ms_spec_AddAutomata : List MRes := [.cell 4 5 true, .tmp 5]
theorem n_spec_AddAutomata (NN : Nat) (x : DLL (Sig.tys ag_spec_AddAutomata)) : runS NN [fn_spec_l34Alike, fn_spec_l34Sum] sc_spec_AddAutomata ms_spec_AddAutomata ag_spec_AddAutomata rs_spec_AddAutomata x = G_spec_AddAutomata NN x := by kernel_rfl
theorem k_spec_AddAutomata : chkS Go.Proofs.Try.prog 34 sc_spec_AddAutomata.er ms_spec_AddAutomata 2 = true := by decide +kernel
theorem p_spec_AddAutomata : PureSpec Go.Proofs.Try.prog 34 fn_spec_AddAutomata.M ∧ chkFun Go.Proofs.Try.prog 34 = true :=
  pure_of_runS (T := [fn_spec_l34Alike, fn_spec_l34Sum]) (sc := sc_spec_AddAutomata) (ms := ms_spec_AddAutomata) (args := ag_spec_AddAutomata) (res := rs_spec_AddAutomata) (SOk.cons p_spec_l34Alike <| SOk.cons p_spec_l34Sum <| SOk.nil) follows_ok k_spec_AddAutomata F_spec_AddAutomata fun x y h => (n_spec_AddAutomata FUEL x).trans (f_spec_AddAutomata x y h)

def fn_impl_IsPrime : SFn := ⟨57, ag_impl_IsPrime, mu_impl_IsPrime, rs_impl_IsPrime, F_impl_IsPrime⟩
def sc_impl_IsPrime : SCode :=
 (.seq
 (.reg false [
 ⟨(some 2), .mv (.k (.one (.v (.bool) (false)))), none⟩])
 (.seq
 (.seq
 (.reg false [
 ⟨(some 4), .mv (.t 0), none⟩,
 ⟨(some 5), .bin .lss (.t 4) (.k (.one (.v (.int .i64) ((2 : Int))))), none⟩,
 ⟨(some 6), .mv (.t 5), none⟩,
 ⟨(some 7), .mv (.t 0), (some (6, false))⟩,
 ⟨(some 8), .bin .gtr (.t 7) (.k (.one (.v (.int .i64) ((1000003 : Int))))), (some (6, false))⟩,
 ⟨(some 9), .pick (.t 6) (.k (.one (.v (.bool) (true)))) (.t 8), none⟩])
 (.cond (.t 9)
 (.seq
 (.reg false [
 ⟨(some 2), .mv (.k (.one (.v (.bool) (false)))), none⟩])
 .ret)
 .skip))
 (.seq
 (.seq
 (.reg false [
 ⟨(some 3), .mv (.k (.one (.v (.int .i64) ((2 : Int))))), none⟩])
 (.join ⟨[], []⟩ [] []
 (.block 0
 (.loop 0 ⟨[(0, .one (.c (.v (.int .i64)))), (3, .one (.c (.v (.int .i64))))], []⟩ [] []
 (.seq
 (.seq
 (.reg false [
 ⟨(some 10), .mv (.t 3), none⟩,
 ⟨(some 11), .mv (.t 3), none⟩,
 ⟨(some 12), .bin .mul (.t 10) (.t 11), none⟩,
 ⟨(some 13), .mv (.t 0), none⟩,
 ⟨(some 14), .bin .leq (.t 12) (.t 13), none⟩])
 (.cond (.t 14)
 .skip
 (.exit 0)))
 (.seq
 (.block 1
 (.seq
 (.reg false [
 ⟨(some 17), .mv (.t 0), none⟩,
 ⟨(some 18), .mv (.t 3), none⟩,
 ⟨(some 19), .bin .rem (.t 17) (.t 18), none⟩,
 ⟨(some 20), .bin .eql (.t 19) (.k (.one (.v (.int .i64) ((0 : Int))))), none⟩])
 (.cond (.t 20)
 (.seq
 (.reg false [
 ⟨(some 2), .mv (.k (.one (.v (.bool) (false)))), none⟩])
 .ret)
 .skip)))
 (.reg false [
 ⟨(some 15), .mv (.t 3), none⟩,
 ⟨(some 16), .bin .add (.t 15) (.k (.one (.v (.int .i64) ((1 : Int))))), none⟩,
 ⟨(some 3), .mv (.t 16), none⟩])))))))
 (.seq
 (.reg false [
 ⟨(some 2), .mv (.k (.one (.v (.bool) (true)))), none⟩])
 .ret))))
def ms_impl_IsPrime : List MRes := [.tmp 2]
theorem n_impl_IsPrime (NN : Nat) (x : DLL (Sig.tys ag_impl_IsPrime)) : runS NN [] sc_impl_IsPrime ms_impl_IsPrime ag_impl_IsPrime rs_impl_IsPrime x = G_impl_IsPrime NN x := by kernel_rfl
theorem k_impl_IsPrime : chkS Go.Proofs.Try.prog 57 sc_impl_IsPrime.er ms_impl_IsPrime 1 = true := by decide +kernel
theorem p_impl_IsPrime : PureSpec Go.Proofs.Try.prog 57 fn_impl_IsPrime.M ∧ chkFun Go.Proofs.Try.prog 57 = true :=
  pure_of_runS (T := []) (sc := sc_impl_IsPrime) (ms := ms_impl_IsPrime) (args := ag_impl_IsPrime) (res := rs_impl_IsPrime) (SOk.nil) follows_ok k_impl_IsPrime F_impl_IsPrime fun x y h => (n_impl_IsPrime FUEL x).trans (f_impl_IsPrime x y h)

def fn_impl_inMod : SFn := ⟨58, ag_impl_inMod, mu_impl_inMod, rs_impl_inMod, F_impl_inMod⟩
def sc_impl_inMod : SCode :=
 (.seq
 (.reg false [
 ⟨(some 4), .mv (.k (.one (.v (.bool) (false)))), none⟩])
 (.seq
 (.seq
 (.reg false [
 ⟨(some 7), .mv (.t 1), none⟩,
 ⟨(some 8), .len (.t 7), none⟩,
 ⟨(some 9), .mv (.k (.one (.v (.int .i64) ((0 : Int))))), none⟩])
 (.join ⟨[], []⟩ [] []
 (.block 0
 (.loop 0 ⟨[(0, .one (.c (.v (.int .i64)))), (7, .one (.c (.v (.list [.int .i64])))), (8, .one (.c (.v (.int .i64)))), (9, .one (.c (.v (.int .i64))))], []⟩ [] []
 (.seq
 (.reg false [
 ⟨(some 10), .bin .lss (.t 9) (.t 8), none⟩])
 (.seq
 (.cond (.t 10)
 .skip
 (.exit 0))
 (.seq
 (.block 1
 (.seq
 (.reg false [
 ⟨(some 11), .idxA 1 (.t 7) (.t 9), none⟩,
 ⟨(some 12), .load false 1 (.t 11), none⟩,
 ⟨(some 6), .mv (.t 12), none⟩])
 (.seq
 (.reg false [
 ⟨(some 13), .mv (.t 6), none⟩,
 ⟨(some 14), .bin .lss (.t 13) (.k (.one (.v (.int .i64) ((0 : Int))))), none⟩,
 ⟨(some 15), .mv (.t 14), none⟩,
 ⟨(some 16), .mv (.t 6), (some (15, false))⟩,
 ⟨(some 17), .mv (.t 0), (some (15, false))⟩,
 ⟨(some 18), .bin .geq (.t 16) (.t 17), (some (15, false))⟩,
 ⟨(some 19), .pick (.t 15) (.k (.one (.v (.bool) (true)))) (.t 18), none⟩])
 (.cond (.t 19)
 (.seq
 (.reg false [
 ⟨(some 4), .mv (.k (.one (.v (.bool) (false)))), none⟩])
 .ret)
 .skip))))
 (.reg false [
 ⟨(some 20), .bin .add (.t 9) (.k (.one (.v (.int .i64) ((1 : Int))))), none⟩,
 ⟨(some 9), .mv (.t 20), none⟩]))))))))
 (.seq
 (.reg false [
 ⟨(some 4), .mv (.k (.one (.v (.bool) (true)))), none⟩])
 .ret)))
def ms_impl_inMod : List MRes := [.tmp 4]
theorem n_impl_inMod (NN : Nat) (x : DLL (Sig.tys ag_impl_inMod)) : runS NN [] sc_impl_inMod ms_impl_inMod ag_impl_inMod rs_impl_inMod x = G_impl_inMod NN x := by kernel_rfl
theorem k_impl_inMod : chkS Go.Proofs.Try.prog 58 sc_impl_inMod.er ms_impl_inMod 2 = true := by decide +kernel
theorem p_impl_inMod : PureSpec Go.Proofs.Try.prog 58 fn_impl_inMod.M ∧ chkFun Go.Proofs.Try.prog 58 = true :=
  pure_of_runS (T := []) (sc := sc_impl_inMod) (ms := ms_impl_inMod) (args := ag_impl_inMod) (res := rs_impl_inMod) (SOk.nil) follows_ok k_impl_inMod F_impl_inMod fun x y h => (n_impl_inMod FUEL x).trans (f_impl_inMod x y h)

def fn_impl_MatrixOk : SFn := ⟨59, ag_impl_MatrixOk, mu_impl_MatrixOk, rs_impl_MatrixOk, F_impl_MatrixOk⟩
def sc_impl_MatrixOk : SCode :=
 (.seq
 (.reg false [
 ⟨(some 3), .box 3 (.t 1), none⟩,
 ⟨(some 4), .mv (.k (.one (.v (.bool) (false)))), none⟩])
 (.seq
 (.seq
 (.reg false [
 ⟨(some 5), .mv (.t 0), none⟩,
 ⟨(some 6), .call .froz 57 [(.t 5)], none⟩,
 ⟨(some 7), .un .not (.t 6), none⟩,
 ⟨(some 8), .mv (.t 7), none⟩,
 ⟨(some 9), .fieldA 0 (.t 3), (some (8, false))⟩,
 ⟨(some 10), .load false 1 (.t 9), (some (8, false))⟩,
 ⟨(some 11), .bin .lss (.t 10) (.k (.one (.v (.int .i64) ((0 : Int))))), (some (8, false))⟩,
 ⟨(some 12), .pick (.t 8) (.k (.one (.v (.bool) (true)))) (.t 11), none⟩,
 ⟨(some 13), .mv (.t 12), none⟩,
 ⟨(some 14), .fieldA 1 (.t 3), (some (13, false))⟩,
 ⟨(some 15), .load false 1 (.t 14), (some (13, false))⟩,
 ⟨(some 16), .bin .lss (.t 15) (.k (.one (.v (.int .i64) ((0 : Int))))), (some (13, false))⟩,
 ⟨(some 17), .pick (.t 13) (.k (.one (.v (.bool) (true)))) (.t 16), none⟩,
 ⟨(some 18), .mv (.t 17), none⟩,
 ⟨(some 19), .fieldA 0 (.t 3), (some (18, false))⟩,
 ⟨(some 20), .load false 1 (.t 19), (some (18, false))⟩,
 ⟨(some 21), .bin .gtr (.t 20) (.k (.one (.v (.int .i64) ((64 : Int))))), (some (18, false))⟩,
 ⟨(some 22), .pick (.t 18) (.k (.one (.v (.bool) (true)))) (.t 21), none⟩,
 ⟨(some 23), .mv (.t 22), none⟩,
 ⟨(some 24), .fieldA 1 (.t 3), (some (23, false))⟩,
 ⟨(some 25), .load false 1 (.t 24), (some (23, false))⟩,
 ⟨(some 26), .bin .gtr (.t 25) (.k (.one (.v (.int .i64) ((64 : Int))))), (some (23, false))⟩,
 ⟨(some 27), .pick (.t 23) (.k (.one (.v (.bool) (true)))) (.t 26), none⟩])
 (.cond (.t 27)
 (.seq
 (.reg false [
 ⟨(some 4), .mv (.k (.one (.v (.bool) (false)))), none⟩])
 .ret)
 .skip))
 (.seq
 (.reg false [
 ⟨(some 28), .fieldA 2 (.t 3), none⟩,
 ⟨(some 29), .load false 1 (.t 28), none⟩,
 ⟨(some 30), .len (.t 29), none⟩,
 ⟨(some 31), .fieldA 0 (.t 3), none⟩,
 ⟨(some 32), .load false 1 (.t 31), none⟩,
 ⟨(some 33), .fieldA 1 (.t 3), none⟩,
 ⟨(some 34), .load false 1 (.t 33), none⟩,
 ⟨(some 35), .bin .mul (.t 32) (.t 34), none⟩,
 ⟨(some 36), .bin .eql (.t 30) (.t 35), none⟩,
 ⟨(some 37), .mv (.t 36), none⟩,
 ⟨(some 38), .mv (.t 0), (some (37, true))⟩,
 ⟨(some 39), .fieldA 2 (.t 3), (some (37, true))⟩,
 ⟨(some 40), .load false 1 (.t 39), (some (37, true))⟩,
 ⟨(some 41), .call .froz 58 [(.t 38), (.t 40)], (some (37, true))⟩,
 ⟨(some 42), .pick (.t 37) (.t 41) (.k (.one (.v (.bool) (false)))), none⟩,
 ⟨(some 4), .mv (.t 42), none⟩])
 .ret)))
def ms_impl_MatrixOk : List MRes := [.tmp 4]
theorem n_impl_MatrixOk (NN : Nat) (x : DLL (Sig.tys ag_impl_MatrixOk)) : runS NN [fn_impl_IsPrime, fn_impl_inMod] sc_impl_MatrixOk ms_impl_MatrixOk ag_impl_MatrixOk rs_impl_MatrixOk x = G_impl_MatrixOk NN x := by kernel_rfl
theorem k_impl_MatrixOk : chkS Go.Proofs.Try.prog 59 sc_impl_MatrixOk.er ms_impl_MatrixOk 2 = true := by decide +kernel
theorem p_impl_MatrixOk : PureSpec Go.Proofs.Try.prog 59 fn_impl_MatrixOk.M ∧ chkFun Go.Proofs.Try.prog 59 = true :=
  pure_of_runS (T := [fn_impl_IsPrime, fn_impl_inMod]) (sc := sc_impl_MatrixOk) (ms := ms_impl_MatrixOk) (args := ag_impl_MatrixOk) (res := rs_impl_MatrixOk) (SOk.cons p_impl_IsPrime <| SOk.cons p_impl_inMod <| SOk.nil) follows_ok k_impl_MatrixOk F_impl_MatrixOk fun x y h => (n_impl_MatrixOk FUEL x).trans (f_impl_MatrixOk x y h)

def fn_impl_AutomatonOk : SFn := ⟨18, ag_impl_AutomatonOk, mu_impl_AutomatonOk, rs_impl_AutomatonOk, F_impl_AutomatonOk⟩
def sc_impl_AutomatonOk : SCode :=
 (.seq
 (.reg false [
 ⟨(some 1), .box 5 (.t 0), none⟩,
 ⟨(some 2), .mv (.k (.one (.v (.bool) (false)))), none⟩])
 (.seq
 (.seq
 (.reg false [
 ⟨(some 5), .fieldA 0 (.t 1), none⟩,
 ⟨(some 6), .load false 1 (.t 5), none⟩,
 ⟨(some 7), .call .froz 57 [(.t 6)], none⟩,
 ⟨(some 8), .un .not (.t 7), none⟩,
 ⟨(some 9), .mv (.t 8), none⟩,
 ⟨(some 10), .fieldA 1 (.t 1), (some (9, false))⟩,
 ⟨(some 11), .load false 1 (.t 10), (some (9, false))⟩,
 ⟨(some 12), .bin .lss (.t 11) (.k (.one (.v (.int .i64) ((0 : Int))))), (some (9, false))⟩,
 ⟨(some 13), .pick (.t 9) (.k (.one (.v (.bool) (true)))) (.t 12), none⟩,
 ⟨(some 14), .mv (.t 13), none⟩,
 ⟨(some 15), .fieldA 1 (.t 1), (some (14, false))⟩,
 ⟨(some 16), .load false 1 (.t 15), (some (14, false))⟩,
 ⟨(some 17), .bin .gtr (.t 16) (.k (.one (.v (.int .i64) ((12 : Int))))), (some (14, false))⟩,
 ⟨(some 18), .pick (.t 14) (.k (.one (.v (.bool) (true)))) (.t 17), none⟩,
 ⟨(some 19), .mv (.t 18), none⟩,
 ⟨(some 20), .fieldA 2 (.t 1), (some (19, false))⟩,
 ⟨(some 21), .load false 1 (.t 20), (some (19, false))⟩,
 ⟨(some 22), .len (.t 21), (some (19, false))⟩,
 ⟨(some 23), .fieldA 1 (.t 1), (some (19, false))⟩,
 ⟨(some 24), .load false 1 (.t 23), (some (19, false))⟩,
 ⟨(some 25), .bin .neq (.t 22) (.t 24), (some (19, false))⟩,
 ⟨(some 26), .pick (.t 19) (.k (.one (.v (.bool) (true)))) (.t 25), none⟩,
 ⟨(some 27), .mv (.t 26), none⟩,
 ⟨(some 28), .fieldA 4 (.t 1), (some (27, false))⟩,
 ⟨(some 29), .load false 1 (.t 28), (some (27, false))⟩,
 ⟨(some 30), .len (.t 29), (some (27, false))⟩,
 ⟨(some 31), .fieldA 1 (.t 1), (some (27, false))⟩,
 ⟨(some 32), .load false 1 (.t 31), (some (27, false))⟩,
 ⟨(some 33), .bin .neq (.t 30) (.t 32), (some (27, false))⟩,
 ⟨(some 34), .pick (.t 27) (.k (.one (.v (.bool) (true)))) (.t 33), none⟩])
 (.cond (.t 34)
 (.seq
 (.reg false [
 ⟨(some 2), .mv (.k (.one (.v (.bool) (false)))), none⟩])
 .ret)
 .skip))
 (.seq
 (.seq
 (.reg false [
 ⟨(some 35), .fieldA 0 (.t 1), none⟩,
 ⟨(some 36), .load false 1 (.t 35), none⟩,
 ⟨(some 37), .fieldA 2 (.t 1), none⟩,
 ⟨(some 38), .load false 1 (.t 37), none⟩,
 ⟨(some 39), .call .froz 58 [(.t 36), (.t 38)], none⟩,
 ⟨(some 40), .un .not (.t 39), none⟩,
 ⟨(some 41), .mv (.t 40), none⟩,
 ⟨(some 42), .fieldA 0 (.t 1), (some (41, false))⟩,
 ⟨(some 43), .load false 1 (.t 42), (some (41, false))⟩,
 ⟨(some 44), .fieldA 4 (.t 1), (some (41, false))⟩,
 ⟨(some 45), .load false 1 (.t 44), (some (41, false))⟩,
 ⟨(some 46), .call .froz 58 [(.t 43), (.t 45)], (some (41, false))⟩,
 ⟨(some 47), .un .not (.t 46), (some (41, false))⟩,
 ⟨(some 48), .pick (.t 41) (.k (.one (.v (.bool) (true)))) (.t 47), none⟩,
 ⟨(some 49), .mv (.t 48), none⟩,
 ⟨(some 50), .fieldA 3 (.t 1), (some (49, false))⟩,
 ⟨(some 51), .load false 1 (.t 50), (some (49, false))⟩,
 ⟨(some 52), .len (.t 51), (some (49, false))⟩,
 ⟨(some 53), .bin .lss (.t 52) (.k (.one (.v (.int .i64) ((1 : Int))))), (some (49, false))⟩,
 ⟨(some 54), .pick (.t 49) (.k (.one (.v (.bool) (true)))) (.t 53), none⟩,
 ⟨(some 55), .mv (.t 54), none⟩,
 ⟨(some 56), .fieldA 3 (.t 1), (some (55, false))⟩,
 ⟨(some 57), .load false 1 (.t 56), (some (55, false))⟩,
 ⟨(some 58), .len (.t 57), (some (55, false))⟩,
 ⟨(some 59), .bin .gtr (.t 58) (.k (.one (.v (.int .i64) ((4 : Int))))), (some (55, false))⟩,
 ⟨(some 60), .pick (.t 55) (.k (.one (.v (.bool) (true)))) (.t 59), none⟩])
 (.cond (.t 60)
 (.seq
 (.reg false [
 ⟨(some 2), .mv (.k (.one (.v (.bool) (false)))), none⟩])
 .ret)
 .skip))
 (.seq
 (.seq
 (.reg false [
 ⟨(some 61), .fieldA 3 (.t 1), none⟩,
 ⟨(some 62), .load false 1 (.t 61), none⟩,
 ⟨(some 63), .len (.t 62), none⟩,
 ⟨(some 64), .mv (.k (.one (.v (.int .i64) ((0 : Int))))), none⟩])
 (.join ⟨[], []⟩ [1] []
 (.block 0
 (.loop 0 ⟨[(1, .one (.c (.ptr0 1 0))), (62, .one (.c (.v (.list [.int .i64, .int .i64, .list [.int .i64]])))), (63, .one (.c (.v (.int .i64)))), (64, .one (.c (.v (.int .i64))))], [(1, .box [.c (.v (.int .i64)), .c (.v (.int .i64)), .c (.v (.list [.int .i64])), .c (.v (.list [.int .i64, .int .i64, .list [.int .i64]])), .c (.v (.list [.int .i64]))])]⟩ [1, 4] []
 (.seq
 (.reg false [
 ⟨(some 65), .bin .lss (.t 64) (.t 63), none⟩])
 (.seq
 (.cond (.t 65)
 .skip
 (.exit 0))
 (.seq
 (.block 1
 (.seq
 (.reg false [
 ⟨(some 66), .idxA 3 (.t 62) (.t 64), none⟩,
 ⟨(some 67), .load true 3 (.t 66), none⟩,
 ⟨(some 4), .alloc [.v (.int .i64) ((0 : Int)), .v (.int .i64) ((0 : Int)), .nil [.int .i64]], none⟩,
 ⟨none, .store 3 (.t 4) (.t 67), none⟩])
 (.seq
 (.reg false [
 ⟨(some 68), .fieldA 0 (.t 1), none⟩,
 ⟨(some 69), .load false 1 (.t 68), none⟩,
 ⟨(some 70), .load true 3 (.t 4), none⟩,
 ⟨(some 71), .call .froz 59 [(.t 69), (.t 70)], none⟩,
 ⟨(some 72), .un .not (.t 71), none⟩,
 ⟨(some 73), .mv (.t 72), none⟩,
 ⟨(some 74), .fieldA 0 (.t 4), (some (73, false))⟩,
 ⟨(some 75), .load false 1 (.t 74), (some (73, false))⟩,
 ⟨(some 76), .fieldA 1 (.t 1), (some (73, false))⟩,
 ⟨(some 77), .load false 1 (.t 76), (some (73, false))⟩,
 ⟨(some 78), .bin .neq (.t 75) (.t 77), (some (73, false))⟩,
 ⟨(some 79), .pick (.t 73) (.k (.one (.v (.bool) (true)))) (.t 78), none⟩,
 ⟨(some 80), .mv (.t 79), none⟩,
 ⟨(some 81), .fieldA 1 (.t 4), (some (80, false))⟩,
 ⟨(some 82), .load false 1 (.t 81), (some (80, false))⟩,
 ⟨(some 83), .fieldA 1 (.t 1), (some (80, false))⟩,
 ⟨(some 84), .load false 1 (.t 83), (some (80, false))⟩,
 ⟨(some 85), .bin .neq (.t 82) (.t 84), (some (80, false))⟩,
 ⟨(some 86), .pick (.t 80) (.k (.one (.v (.bool) (true)))) (.t 85), none⟩])
 (.cond (.t 86)
 (.seq
 (.reg false [
 ⟨(some 2), .mv (.k (.one (.v (.bool) (false)))), none⟩])
 .ret)
 .skip))))
 (.reg false [
 ⟨(some 87), .bin .add (.t 64) (.k (.one (.v (.int .i64) ((1 : Int))))), none⟩,
 ⟨(some 64), .mv (.t 87), none⟩]))))))))
 (.seq
 (.reg false [
 ⟨(some 2), .mv (.k (.one (.v (.bool) (true)))), none⟩])
 .ret)))))
def ms_impl_AutomatonOk : List MRes := [.tmp 2]
theorem n_impl_AutomatonOk (NN : Nat) (x : DLL (Sig.tys ag_impl_AutomatonOk)) : runS NN [fn_impl_IsPrime, fn_impl_inMod, fn_impl_MatrixOk] sc_impl_AutomatonOk ms_impl_AutomatonOk ag_impl_AutomatonOk rs_impl_AutomatonOk x = G_impl_AutomatonOk NN x := by kernel_rfl
theorem k_impl_AutomatonOk : chkS Go.Proofs.Try.prog 18 sc_impl_AutomatonOk.er ms_impl_AutomatonOk 1 = true := by decide +kernel
theorem p_impl_AutomatonOk : PureSpec Go.Proofs.Try.prog 18 fn_impl_AutomatonOk.M ∧ chkFun Go.Proofs.Try.prog 18 = true :=
  pure_of_runS (T := [fn_impl_IsPrime, fn_impl_inMod, fn_impl_MatrixOk]) (sc := sc_impl_AutomatonOk) (ms := ms_impl_AutomatonOk) (args := ag_impl_AutomatonOk) (res := rs_impl_AutomatonOk) (SOk.cons p_impl_IsPrime <| SOk.cons p_impl_inMod <| SOk.cons p_impl_MatrixOk <| SOk.nil) follows_ok k_impl_AutomatonOk F_impl_AutomatonOk fun x y h => (n_impl_AutomatonOk FUEL x).trans (f_impl_AutomatonOk x y h)

def fn_impl_sameLetters : SFn := ⟨65, ag_impl_sameLetters, mu_impl_sameLetters, rs_impl_sameLetters, F_impl_sameLetters⟩
def sc_impl_sameLetters : SCode :=
 (.seq
 (.reg false [
 ⟨(some 2), .box 5 (.t 0), none⟩,
 ⟨(some 3), .box 5 (.t 1), none⟩,
 ⟨(some 4), .mv (.k (.one (.v (.bool) (false)))), none⟩])
 (.seq
 (.reg false [
 ⟨(some 5), .load true 5 (.t 2), none⟩,
 ⟨(some 6), .call .froz 18 [(.t 5)], none⟩,
 ⟨(some 7), .mv (.t 6), none⟩,
 ⟨(some 8), .load true 5 (.t 3), (some (7, true))⟩,
 ⟨(some 9), .call .froz 18 [(.t 8)], (some (7, true))⟩,
 ⟨(some 10), .pick (.t 7) (.t 9) (.k (.one (.v (.bool) (false)))), none⟩,
 ⟨(some 11), .mv (.t 10), none⟩,
 ⟨(some 12), .fieldA 0 (.t 2), (some (11, true))⟩,
 ⟨(some 13), .load false 1 (.t 12), (some (11, true))⟩,
 ⟨(some 14), .fieldA 0 (.t 3), (some (11, true))⟩,
 ⟨(some 15), .load false 1 (.t 14), (some (11, true))⟩,
 ⟨(some 16), .bin .eql (.t 13) (.t 15), (some (11, true))⟩,
 ⟨(some 17), .pick (.t 11) (.t 16) (.k (.one (.v (.bool) (false)))), none⟩,
 ⟨(some 18), .mv (.t 17), none⟩,
 ⟨(some 19), .fieldA 3 (.t 2), (some (18, true))⟩,
 ⟨(some 20), .load false 1 (.t 19), (some (18, true))⟩,
 ⟨(some 21), .len (.t 20), (some (18, true))⟩,
 ⟨(some 22), .fieldA 3 (.t 3), (some (18, true))⟩,
 ⟨(some 23), .load false 1 (.t 22), (some (18, true))⟩,
 ⟨(some 24), .len (.t 23), (some (18, true))⟩,
 ⟨(some 25), .bin .eql (.t 21) (.t 24), (some (18, true))⟩,
 ⟨(some 26), .pick (.t 18) (.t 25) (.k (.one (.v (.bool) (false)))), none⟩,
 ⟨(some 4), .mv (.t 26), none⟩])
 .ret))
def ms_impl_sameLetters : List MRes := [.tmp 4]
theorem n_impl_sameLetters (NN : Nat) (x : DLL (Sig.tys ag_impl_sameLetters)) : runS NN [fn_impl_AutomatonOk] sc_impl_sameLetters ms_impl_sameLetters ag_impl_sameLetters rs_impl_sameLetters x = G_impl_sameLetters NN x := by kernel_rfl
theorem k_impl_sameLetters : chkS Go.Proofs.Try.prog 65 sc_impl_sameLetters.er ms_impl_sameLetters 2 = true := by decide +kernel
theorem p_impl_sameLetters : PureSpec Go.Proofs.Try.prog 65 fn_impl_sameLetters.M ∧ chkFun Go.Proofs.Try.prog 65 = true :=
  pure_of_runS (T := [fn_impl_AutomatonOk]) (sc := sc_impl_sameLetters) (ms := ms_impl_sameLetters) (args := ag_impl_sameLetters) (res := rs_impl_sameLetters) (SOk.cons p_impl_AutomatonOk <| SOk.nil) follows_ok k_impl_sameLetters F_impl_sameLetters fun x y h => (n_impl_sameLetters FUEL x).trans (f_impl_sameLetters x y h)

def fn_impl_copyInts : SFn := ⟨76, ag_impl_copyInts, mu_impl_copyInts, rs_impl_copyInts, F_impl_copyInts⟩
def sc_impl_copyInts : SCode :=
 (.seq
 (.reg false [
 ⟨(some 2), .mv (.k (.one (.nil [.int .i64]))), none⟩])
 (.seq
 (.reg false [
 ⟨(some 3), .mv (.t 0), none⟩,
 ⟨(some 4), .append true [.int .i64] 8 (.k (.one (.nil [.int .i64]))) (.t 3), none⟩,
 ⟨(some 2), .mv (.t 4), none⟩])
 .ret))
def ms_impl_copyInts : List MRes := [.tmp 2]
theorem n_impl_copyInts (NN : Nat) (x : DLL (Sig.tys ag_impl_copyInts)) : runS NN [] sc_impl_copyInts ms_impl_copyInts ag_impl_copyInts rs_impl_copyInts x = G_impl_copyInts NN x := by kernel_rfl
theorem k_impl_copyInts : chkS Go.Proofs.Try.prog 76 sc_impl_copyInts.er ms_impl_copyInts 1 = true := by decide +kernel
theorem p_impl_copyInts : PureSpec Go.Proofs.Try.prog 76 fn_impl_copyInts.M ∧ chkFun Go.Proofs.Try.prog 76 = true :=
  pure_of_runS (T := []) (sc := sc_impl_copyInts) (ms := ms_impl_copyInts) (args := ag_impl_copyInts) (res := rs_impl_copyInts) (SOk.nil) follows_ok k_impl_copyInts F_impl_copyInts fun x y h => (n_impl_copyInts FUEL x).trans (f_impl_copyInts x y h)

def fn_impl_emptyMatrix : SFn := ⟨102, ag_impl_emptyMatrix, mu_impl_emptyMatrix, rs_impl_emptyMatrix, F_impl_emptyMatrix⟩
def sc_impl_emptyMatrix : SCode :=
 (.seq
 (.reg false [
 ⟨(some 4), .alloc [.v (.int .i64) ((0 : Int)), .v (.int .i64) ((0 : Int)), .nil [.int .i64]], none⟩])
 (.seq
 (.reg false [
 ⟨(some 5), .mv (.t 0), none⟩,
 ⟨(some 6), .mv (.t 1), none⟩,
 ⟨(some 7), .mv (.t 0), none⟩,
 ⟨(some 8), .mv (.t 1), none⟩,
 ⟨(some 9), .bin .mul (.t 7) (.t 8), none⟩,
 ⟨(some 10), .mkslice .froz [.int .i64] 8 (0 : Int) (.t 9) (.t 9), none⟩,
 ⟨(some 11), .build [.v (.int .i64) ((0 : Int)), .v (.int .i64) ((0 : Int)), .nil [.int .i64]] [(0, 1, (.t 5)), (1, 1, (.t 6)), (2, 1, (.t 10))], none⟩,
 ⟨none, .store 3 (.t 4) (.t 11), none⟩])
 .ret))
def ms_impl_emptyMatrix : List MRes := [.cell 4 3 true]
theorem n_impl_emptyMatrix (NN : Nat) (x : DLL (Sig.tys ag_impl_emptyMatrix)) : runS NN [] sc_impl_emptyMatrix ms_impl_emptyMatrix ag_impl_emptyMatrix rs_impl_emptyMatrix x = G_impl_emptyMatrix NN x := by kernel_rfl
theorem k_impl_emptyMatrix : chkS Go.Proofs.Try.prog 102 sc_impl_emptyMatrix.er ms_impl_emptyMatrix 2 = true := by decide +kernel
theorem p_impl_emptyMatrix : PureSpec Go.Proofs.Try.prog 102 fn_impl_emptyMatrix.M ∧ chkFun Go.Proofs.Try.prog 102 = true :=
  pure_of_runS (T := []) (sc := sc_impl_emptyMatrix) (ms := ms_impl_emptyMatrix) (args := ag_impl_emptyMatrix) (res := rs_impl_emptyMatrix) (SOk.nil) follows_ok k_impl_emptyMatrix F_impl_emptyMatrix fun x y h => (n_impl_emptyMatrix FUEL x).trans (f_impl_emptyMatrix x y h)

def fn_impl_Matrix_at : SFn := ⟨104, ag_impl_Matrix_at, mu_impl_Matrix_at, rs_impl_Matrix_at, F_impl_Matrix_at⟩
def sc_impl_Matrix_at : SCode :=
 (.seq
 (.reg false [
 ⟨(some 3), .box 3 (.t 0), none⟩,
 ⟨(some 6), .mv (.k (.one (.v (.int .i64) ((0 : Int))))), none⟩])
 (.seq
 (.reg false [
 ⟨(some 7), .fieldA 2 (.t 3), none⟩,
 ⟨(some 8), .load false 1 (.t 7), none⟩,
 ⟨(some 9), .mv (.t 1), none⟩,
 ⟨(some 10), .fieldA 1 (.t 3), none⟩,
 ⟨(some 11), .load false 1 (.t 10), none⟩,
 ⟨(some 12), .bin .mul (.t 9) (.t 11), none⟩,
 ⟨(some 13), .mv (.t 2), none⟩,
 ⟨(some 14), .bin .add (.t 12) (.t 13), none⟩,
 ⟨(some 15), .idxA 1 (.t 8) (.t 14), none⟩,
 ⟨(some 16), .load false 1 (.t 15), none⟩,
 ⟨(some 6), .mv (.t 16), none⟩])
 .ret))
def ms_impl_Matrix_at : List MRes := [.tmp 6]
theorem n_impl_Matrix_at (NN : Nat) (x : DLL (Sig.tys ag_impl_Matrix_at)) : runS NN [] sc_impl_Matrix_at ms_impl_Matrix_at ag_impl_Matrix_at rs_impl_Matrix_at x = G_impl_Matrix_at NN x := by kernel_rfl
theorem k_impl_Matrix_at : chkS Go.Proofs.Try.prog 104 sc_impl_Matrix_at.er ms_impl_Matrix_at 3 = true := by decide +kernel
theorem p_impl_Matrix_at : PureSpec Go.Proofs.Try.prog 104 fn_impl_Matrix_at.M ∧ chkFun Go.Proofs.Try.prog 104 = true :=
  pure_of_runS (T := []) (sc := sc_impl_Matrix_at) (ms := ms_impl_Matrix_at) (args := ag_impl_Matrix_at) (res := rs_impl_Matrix_at) (SOk.nil) follows_ok k_impl_Matrix_at F_impl_Matrix_at fun x y h => (n_impl_Matrix_at FUEL x).trans (f_impl_Matrix_at x y h)

def fn_impl_Matrix_set : SFn := ⟨103, ag_impl_Matrix_set, mu_impl_Matrix_set, rs_impl_Matrix_set, F_impl_Matrix_set⟩
def sc_impl_Matrix_set : SCode :=
 (.seq
 (.reg false [
 ⟨(some 4), .box 3 (.t 0), none⟩])
 (.reg false [
 ⟨(some 8), .fieldA 2 (.t 4), none⟩,
 ⟨(some 9), .load false 1 (.t 8), none⟩,
 ⟨(some 10), .mv (.t 1), none⟩,
 ⟨(some 11), .fieldA 1 (.t 4), none⟩,
 ⟨(some 12), .load false 1 (.t 11), none⟩,
 ⟨(some 13), .bin .mul (.t 10) (.t 12), none⟩,
 ⟨(some 14), .mv (.t 2), none⟩,
 ⟨(some 15), .bin .add (.t 13) (.t 14), none⟩,
 ⟨(some 16), .mv (.t 3), none⟩,
 ⟨(some 17), .idxA 1 (.t 9) (.t 15), none⟩,
 ⟨none, .store 1 (.t 17) (.t 16), none⟩]))
def ms_impl_Matrix_set : List MRes := []
theorem n_impl_Matrix_set (NN : Nat) (x : DLL (Sig.tys ag_impl_Matrix_set)) : runMS NN [] sc_impl_Matrix_set ms_impl_Matrix_set ag_impl_Matrix_set mu_impl_Matrix_set rs_impl_Matrix_set x = G_impl_Matrix_set NN x := by kernel_rfl
theorem k_impl_Matrix_set : chkS Go.Proofs.Try.prog 103 sc_impl_Matrix_set.er ms_impl_Matrix_set 4 = true := by decide +kernel
theorem p_impl_Matrix_set : MutSpec Go.Proofs.Try.prog 103 mu_impl_Matrix_set fn_impl_Matrix_set.MM ∧ chkFun Go.Proofs.Try.prog 103 = true :=
  mut_of_runMS (T := []) (sc := sc_impl_Matrix_set) (ms := ms_impl_Matrix_set) (args := ag_impl_Matrix_set) (mu := mu_impl_Matrix_set) (res := rs_impl_Matrix_set) (SOk.nil) follows_ok k_impl_Matrix_set F_impl_Matrix_set fun x y h => (n_impl_Matrix_set FUEL x).trans (f_impl_Matrix_set x y h)

def fn_impl_rawAddAutomata : SFn := ⟨66, ag_impl_rawAddAutomata, mu_impl_rawAddAutomata, rs_impl_rawAddAutomata, F_impl_rawAddAutomata⟩
def sc_impl_rawAddAutomata : SCode :=
 (.seq
 (.reg false [
 ⟨(some 2), .box 5 (.t 0), none⟩,
 ⟨(some 3), .box 5 (.t 1), none⟩,
 ⟨(some 4), .alloc [.v (.int .i64) ((0 : Int)), .v (.int .i64) ((0 : Int)), .nil [.int .i64], .nil [.int .i64, .int .i64, .list [.int .i64]], .nil [.int .i64]], none⟩])
 (.seq
 (.reg false [
 ⟨(some 13), .fieldA 0 (.t 2), none⟩,
 ⟨(some 14), .load false 1 (.t 13), none⟩,
 ⟨(some 15), .fieldA 1 (.t 2), none⟩,
 ⟨(some 16), .load false 1 (.t 15), none⟩,
 ⟨(some 17), .fieldA 1 (.t 3), none⟩,
 ⟨(some 18), .load false 1 (.t 17), none⟩,
 ⟨(some 19), .bin .add (.t 16) (.t 18), none⟩,
 ⟨(some 20), .build [.v (.int .i64) ((0 : Int)), .v (.int .i64) ((0 : Int)), .nil [.int .i64], .nil [.int .i64, .int .i64, .list [.int .i64]], .nil [.int .i64]] [(0, 1, (.t 14)), (1, 1, (.t 19))], none⟩,
 ⟨(some 5), .alloc [.v (.int .i64) ((0 : Int)), .v (.int .i64) ((0 : Int)), .nil [.int .i64], .nil [.int .i64, .int .i64, .list [.int .i64]], .nil [.int .i64]], none⟩,
 ⟨none, .store 5 (.t 5) (.t 20), none⟩])
 (.seq
 (.reg true [
 ⟨(some 21), .fieldA 2 (.t 2), none⟩,
 ⟨(some 22), .load false 1 (.t 21), none⟩,
 ⟨(some 23), .call .froz 76 [(.t 22)], none⟩,
 ⟨(some 24), .fieldA 2 (.t 3), none⟩,
 ⟨(some 25), .load false 1 (.t 24), none⟩,
 ⟨(some 26), .append true [.int .i64] 8 (.t 23) (.t 25), none⟩,
 ⟨(some 27), .fieldA 2 (.t 5), none⟩,
 ⟨none, .store 1 (.t 27) (.t 26), none⟩])
 (.seq
 (.reg true [
 ⟨(some 28), .fieldA 4 (.t 2), none⟩,
 ⟨(some 29), .load false 1 (.t 28), none⟩,
 ⟨(some 30), .call .froz 76 [(.t 29)], none⟩,
 ⟨(some 31), .fieldA 4 (.t 3), none⟩,
 ⟨(some 32), .load false 1 (.t 31), none⟩,
 ⟨(some 33), .append true [.int .i64] 8 (.t 30) (.t 32), none⟩,
 ⟨(some 34), .fieldA 4 (.t 5), none⟩,
 ⟨none, .store 1 (.t 34) (.t 33), none⟩])
 (.seq
 (.seq
 (.reg false [
 ⟨(some 35), .fieldA 3 (.t 2), none⟩,
 ⟨(some 36), .load false 1 (.t 35), none⟩,
 ⟨(some 37), .len (.t 36), none⟩,
 ⟨(some 38), .mv (.k (.one (.v (.int .i64) ((0 : Int))))), none⟩])
 (.join ⟨[(5, .one (.c (.ptr0 5 0))), (4, .one (.c (.ptr0 4 0)))], [(4, .box [.c (.v (.int .i64)), .c (.v (.int .i64)), .c (.full 500068 1), .c (.full 500069 3), .c (.full 500070 1)]), (5, .box [.c (.v (.int .i64)), .c (.v (.int .i64)), .c (.full 500071 1), .c (.full 500072 3), .c (.full 500073 1)]), (500068, .row true .froz [.int .i64]), (500069, .row true .froz [.int .i64, .int .i64, .list [.int .i64]]), (500070, .row true .froz [.int .i64]), (500071, .row true .froz [.int .i64]), (500072, .row true .froz [.int .i64, .int .i64, .list [.int .i64]]), (500073, .row true .froz [.int .i64])]⟩ [2, 3, 4, 5, 500000, 500001, 500002, 500003, 500004, 500005, 500068, 500069, 500070, 500071, 500072, 500073] [(true, 4, 2, 500068, .froz, []), (true, 4, 3, 500069, .froz, []), (true, 4, 4, 500070, .froz, []), (true, 5, 2, 500071, .froz, []), (true, 5, 3, 500072, .froz, []), (true, 5, 4, 500073, .froz, [])]
 (.block 0
 (.loop 0 ⟨[(2, .one (.c (.ptr0 2 0))), (3, .one (.c (.ptr0 3 0))), (4, .one (.c (.ptr0 4 0))), (5, .one (.c (.ptr0 5 0))), (36, .one (.c (.v (.list [.int .i64, .int .i64, .list [.int .i64]])))), (37, .one (.c (.v (.int .i64)))), (38, .one (.c (.v (.int .i64))))], [(2, .box [.c (.v (.int .i64)), .c (.v (.int .i64)), .c (.v (.list [.int .i64])), .c (.v (.list [.int .i64, .int .i64, .list [.int .i64]])), .c (.v (.list [.int .i64]))]), (3, .box [.c (.v (.int .i64)), .c (.v (.int .i64)), .c (.v (.list [.int .i64])), .c (.v (.list [.int .i64, .int .i64, .list [.int .i64]])), .c (.v (.list [.int .i64]))]), (4, .box [.c (.v (.int .i64)), .c (.v (.int .i64)), .c (.full 500000 1), .c (.full 500001 3), .c (.full 500002 1)]), (5, .box [.c (.v (.int .i64)), .c (.v (.int .i64)), .c (.full 500003 1), .c (.full 500004 3), .c (.full 500005 1)]), (500000, .row true .froz [.int .i64]), (500001, .row true .froz [.int .i64, .int .i64, .list [.int .i64]]), (500002, .row true .froz [.int .i64]), (500003, .row true .froz [.int .i64]), (500004, .row true .froz [.int .i64, .int .i64, .list [.int .i64]]), (500005, .row true .froz [.int .i64])]⟩ [2, 3, 4, 5, 26, 33, 500000, 500001, 500002, 500003, 500004, 500005, 500062, 500063, 500064, 500065, 500066, 500067] [(true, 4, 2, 500000, .froz, []), (true, 4, 3, 500001, .froz, []), (true, 4, 4, 500002, .froz, []), (true, 5, 2, 500003, .froz, []), (true, 5, 3, 500004, .froz, []), (true, 5, 4, 500005, .froz, [])]
 (.seq
 (.reg false [
 ⟨(some 39), .bin .lss (.t 38) (.t 37), none⟩])
 (.seq
 (.cond (.t 39)
 .skip
 (.exit 0))
 (.seq
 (.join ⟨[(38, .one (.c (.v (.int .i64)))), (2, .one (.c (.ptr0 2 0))), (3, .one (.c (.ptr0 3 0))), (4, .one (.c (.ptr0 4 0))), (5, .one (.c (.ptr0 5 0))), (36, .one (.c (.v (.list [.int .i64, .int .i64, .list [.int .i64]])))), (37, .one (.c (.v (.int .i64))))], [(2, .box [.c (.v (.int .i64)), .c (.v (.int .i64)), .c (.v (.list [.int .i64])), .c (.v (.list [.int .i64, .int .i64, .list [.int .i64]])), .c (.v (.list [.int .i64]))]), (3, .box [.c (.v (.int .i64)), .c (.v (.int .i64)), .c (.v (.list [.int .i64])), .c (.v (.list [.int .i64, .int .i64, .list [.int .i64]])), .c (.v (.list [.int .i64]))]), (4, .box [.c (.v (.int .i64)), .c (.v (.int .i64)), .c (.full 500062 1), .c (.full 500063 3), .c (.full 500064 1)]), (5, .box [.c (.v (.int .i64)), .c (.v (.int .i64)), .c (.full 500065 1), .c (.full 500066 3), .c (.full 500067 1)]), (500062, .row true .froz [.int .i64]), (500063, .row true .froz [.int .i64, .int .i64, .list [.int .i64]]), (500064, .row true .froz [.int .i64]), (500065, .row true .froz [.int .i64]), (500066, .row true .froz [.int .i64, .int .i64, .list [.int .i64]]), (500067, .row true .froz [.int .i64])]⟩ [2, 3, 4, 5, 8, 102, 500055, 500056, 500057, 500058, 500060, 500062, 500063, 500064, 500065, 500066, 500067] [(true, 4, 2, 500062, .froz, []), (true, 4, 3, 500063, .froz, []), (true, 4, 4, 500064, .froz, []), (true, 5, 2, 500065, .froz, []), (true, 5, 3, 500066, .froz, []), (true, 5, 4, 500067, .froz, [])]
 (.block 1
 (.seq
 (.reg false [
 ⟨(some 40), .mv (.t 38), none⟩,
 ⟨(some 41), .idxA 3 (.t 36) (.t 38), none⟩,
 ⟨(some 42), .load true 3 (.t 41), none⟩,
 ⟨(some 7), .alloc [.v (.int .i64) ((0 : Int)), .v (.int .i64) ((0 : Int)), .nil [.int .i64]], none⟩,
 ⟨(some 6), .mv (.t 40), none⟩,
 ⟨none, .store 3 (.t 7) (.t 42), none⟩])
 (.seq
 (.reg false [
 ⟨(some 43), .fieldA 1 (.t 5), none⟩,
 ⟨(some 44), .load false 1 (.t 43), none⟩,
 ⟨(some 45), .fieldA 1 (.t 5), none⟩,
 ⟨(some 46), .load false 1 (.t 45), none⟩,
 ⟨(some 47), .call .froz 102 [(.t 44), (.t 46)], none⟩,
 ⟨(some 8), .alloc [.v (.int .i64) ((0 : Int)), .v (.int .i64) ((0 : Int)), .nil [.int .i64]], none⟩,
 ⟨none, .store 3 (.t 8) (.t 47), none⟩])
 (.seq
 (.seq
 (.reg false [
 ⟨(some 9), .mv (.k (.one (.v (.int .i64) ((0 : Int))))), none⟩])
 (.join ⟨[(37, .one (.c (.v (.int .i64)))), (36, .one (.c (.v (.list [.int .i64, .int .i64, .list [.int .i64]])))), (5, .one (.c (.ptr0 5 0))), (4, .one (.c (.ptr0 4 0))), (3, .one (.c (.ptr0 3 0))), (2, .one (.c (.ptr0 2 0))), (38, .one (.c (.v (.int .i64)))), (8, .one (.c (.ptr0 8 0))), (6, .one (.c (.v (.int .i64))))], [(2, .box [.c (.v (.int .i64)), .c (.v (.int .i64)), .c (.v (.list [.int .i64])), .c (.v (.list [.int .i64, .int .i64, .list [.int .i64]])), .c (.v (.list [.int .i64]))]), (3, .box [.c (.v (.int .i64)), .c (.v (.int .i64)), .c (.v (.list [.int .i64])), .c (.v (.list [.int .i64, .int .i64, .list [.int .i64]])), .c (.v (.list [.int .i64]))]), (4, .box [.c (.v (.int .i64)), .c (.v (.int .i64)), .c (.full 500027 1), .c (.full 500028 3), .c (.full 500029 1)]), (5, .box [.c (.v (.int .i64)), .c (.v (.int .i64)), .c (.full 500030 1), .c (.full 500031 3), .c (.full 500032 1)]), (8, .box [.c (.v (.int .i64)), .c (.v (.int .i64)), .c (.full 500033 1)]), (500027, .row true .froz [.int .i64]), (500028, .row true .froz [.int .i64, .int .i64, .list [.int .i64]]), (500029, .row true .froz [.int .i64]), (500030, .row true .froz [.int .i64]), (500031, .row true .froz [.int .i64, .int .i64, .list [.int .i64]]), (500032, .row true .froz [.int .i64]), (500033, .row true .froz [.int .i64])]⟩ [2, 3, 4, 5, 7, 8, 500006, 500007, 500008, 500009, 500010, 500011, 500012, 500027, 500028, 500029, 500030, 500031, 500032, 500033] [(true, 4, 2, 500027, .froz, []), (true, 4, 3, 500028, .froz, []), (true, 4, 4, 500029, .froz, []), (true, 5, 2, 500030, .froz, []), (true, 5, 3, 500031, .froz, []), (true, 5, 4, 500032, .froz, []), (true, 8, 2, 500033, .froz, [])]
 (.block 2
 (.loop 0 ⟨[(2, .one (.c (.ptr0 2 0))), (3, .one (.c (.ptr0 3 0))), (4, .one (.c (.ptr0 4 0))), (5, .one (.c (.ptr0 5 0))), (6, .one (.c (.v (.int .i64)))), (7, .one (.c (.ptr0 7 0))), (8, .one (.c (.ptr0 8 0))), (9, .one (.c (.v (.int .i64)))), (36, .one (.c (.v (.list [.int .i64, .int .i64, .list [.int .i64]])))), (37, .one (.c (.v (.int .i64)))), (38, .one (.c (.v (.int .i64))))], [(2, .box [.c (.v (.int .i64)), .c (.v (.int .i64)), .c (.v (.list [.int .i64])), .c (.v (.list [.int .i64, .int .i64, .list [.int .i64]])), .c (.v (.list [.int .i64]))]), (3, .box [.c (.v (.int .i64)), .c (.v (.int .i64)), .c (.v (.list [.int .i64])), .c (.v (.list [.int .i64, .int .i64, .list [.int .i64]])), .c (.v (.list [.int .i64]))]), (4, .box [.c (.v (.int .i64)), .c (.v (.int .i64)), .c (.full 500006 1), .c (.full 500007 3), .c (.full 500008 1)]), (5, .box [.c (.v (.int .i64)), .c (.v (.int .i64)), .c (.full 500009 1), .c (.full 500010 3), .c (.full 500011 1)]), (7, .box [.c (.v (.int .i64)), .c (.v (.int .i64)), .c (.v (.list [.int .i64]))]), (8, .box [.c (.v (.int .i64)), .c (.v (.int .i64)), .c (.full 500012 1)]), (500006, .row true .froz [.int .i64]), (500007, .row true .froz [.int .i64, .int .i64, .list [.int .i64]]), (500008, .row true .froz [.int .i64]), (500009, .row true .froz [.int .i64]), (500010, .row true .froz [.int .i64, .int .i64, .list [.int .i64]]), (500011, .row true .froz [.int .i64]), (500012, .row true .froz [.int .i64])]⟩ [2, 3, 4, 5, 7, 48000, 8, 500000, 500001, 500002, 500003, 500004, 500005, 500006, 500007, 500008, 500009, 500010, 500011, 500012, 500020, 500021, 500022, 500023, 500024, 500025, 500026] [(true, 4, 2, 500006, .froz, []), (true, 4, 3, 500007, .froz, []), (true, 4, 4, 500008, .froz, []), (true, 5, 2, 500009, .froz, []), (true, 5, 3, 500010, .froz, []), (true, 5, 4, 500011, .froz, []), (true, 8, 2, 500012, .froz, [])]
 (.seq
 (.seq
 (.reg false [
 ⟨(some 48), .mv (.t 9), none⟩,
 ⟨(some 49), .fieldA 1 (.t 2), none⟩,
 ⟨(some 50), .load false 1 (.t 49), none⟩,
 ⟨(some 51), .bin .lss (.t 48) (.t 50), none⟩])
 (.cond (.t 51)
 .skip
 (.exit 2)))
 (.seq
 (.join ⟨[(9, .one (.c (.v (.int .i64)))), (2, .one (.c (.ptr0 2 0))), (3, .one (.c (.ptr0 3 0))), (4, .one (.c (.ptr0 4 0))), (5, .one (.c (.ptr0 5 0))), (6, .one (.c (.v (.int .i64)))), (7, .one (.c (.ptr0 7 0))), (8, .one (.c (.ptr0 8 0))), (36, .one (.c (.v (.list [.int .i64, .int .i64, .list [.int .i64]])))), (37, .one (.c (.v (.int .i64)))), (38, .one (.c (.v (.int .i64))))], [(2, .box [.c (.v (.int .i64)), .c (.v (.int .i64)), .c (.v (.list [.int .i64])), .c (.v (.list [.int .i64, .int .i64, .list [.int .i64]])), .c (.v (.list [.int .i64]))]), (3, .box [.c (.v (.int .i64)), .c (.v (.int .i64)), .c (.v (.list [.int .i64])), .c (.v (.list [.int .i64, .int .i64, .list [.int .i64]])), .c (.v (.list [.int .i64]))]), (4, .box [.c (.v (.int .i64)), .c (.v (.int .i64)), .c (.full 500020 1), .c (.full 500021 3), .c (.full 500022 1)]), (5, .box [.c (.v (.int .i64)), .c (.v (.int .i64)), .c (.full 500023 1), .c (.full 500024 3), .c (.full 500025 1)]), (7, .box [.c (.v (.int .i64)), .c (.v (.int .i64)), .c (.v (.list [.int .i64]))]), (8, .box [.c (.v (.int .i64)), .c (.v (.int .i64)), .c (.full 500026 1)]), (500020, .row true .froz [.int .i64]), (500021, .row true .froz [.int .i64, .int .i64, .list [.int .i64]]), (500022, .row true .froz [.int .i64]), (500023, .row true .froz [.int .i64]), (500024, .row true .froz [.int .i64, .int .i64, .list [.int .i64]]), (500025, .row true .froz [.int .i64]), (500026, .row true .froz [.int .i64])]⟩ [2, 3, 4, 5, 7, 8, 500013, 500014, 500015, 500016, 500017, 500018, 500019, 500020, 500021, 500022, 500023, 500024, 500025, 500026] [(true, 4, 2, 500020, .froz, []), (true, 4, 3, 500021, .froz, []), (true, 4, 4, 500022, .froz, []), (true, 5, 2, 500023, .froz, []), (true, 5, 3, 500024, .froz, []), (true, 5, 4, 500025, .froz, []), (true, 8, 2, 500026, .froz, [])]
 (.block 3
 (.seq
 (.reg false [
 ⟨(some 10), .mv (.k (.one (.v (.int .i64) ((0 : Int))))), none⟩])
 (.block 4
 (.loop 0 ⟨[(2, .one (.c (.ptr0 2 0))), (3, .one (.c (.ptr0 3 0))), (4, .one (.c (.ptr0 4 0))), (5, .one (.c (.ptr0 5 0))), (6, .one (.c (.v (.int .i64)))), (7, .one (.c (.ptr0 7 0))), (8, .one (.c (.ptr0 8 0))), (9, .one (.c (.v (.int .i64)))), (10, .one (.c (.v (.int .i64)))), (36, .one (.c (.v (.list [.int .i64, .int .i64, .list [.int .i64]])))), (37, .one (.c (.v (.int .i64)))), (38, .one (.c (.v (.int .i64))))], [(2, .box [.c (.v (.int .i64)), .c (.v (.int .i64)), .c (.v (.list [.int .i64])), .c (.v (.list [.int .i64, .int .i64, .list [.int .i64]])), .c (.v (.list [.int .i64]))]), (3, .box [.c (.v (.int .i64)), .c (.v (.int .i64)), .c (.v (.list [.int .i64])), .c (.v (.list [.int .i64, .int .i64, .list [.int .i64]])), .c (.v (.list [.int .i64]))]), (4, .box [.c (.v (.int .i64)), .c (.v (.int .i64)), .c (.full 500013 1), .c (.full 500014 3), .c (.full 500015 1)]), (5, .box [.c (.v (.int .i64)), .c (.v (.int .i64)), .c (.full 500016 1), .c (.full 500017 3), .c (.full 500018 1)]), (7, .box [.c (.v (.int .i64)), .c (.v (.int .i64)), .c (.v (.list [.int .i64]))]), (8, .box [.c (.v (.int .i64)), .c (.v (.int .i64)), .c (.full 500019 1)]), (500013, .row true .froz [.int .i64]), (500014, .row true .froz [.int .i64, .int .i64, .list [.int .i64]]), (500015, .row true .froz [.int .i64]), (500016, .row true .froz [.int .i64]), (500017, .row true .froz [.int .i64, .int .i64, .list [.int .i64]]), (500018, .row true .froz [.int .i64]), (500019, .row true .froz [.int .i64])]⟩ [2, 3, 4, 5, 7, 8, 500006, 500007, 500008, 500009, 500010, 500011, 500012, 500013, 500014, 500015, 500016, 500017, 500018, 500019] [(true, 4, 2, 500013, .froz, []), (true, 4, 3, 500014, .froz, []), (true, 4, 4, 500015, .froz, []), (true, 5, 2, 500016, .froz, []), (true, 5, 3, 500017, .froz, []), (true, 5, 4, 500018, .froz, []), (true, 8, 2, 500019, .froz, [])]
 (.seq
 (.seq
 (.reg false [
 ⟨(some 54), .mv (.t 10), none⟩,
 ⟨(some 55), .fieldA 1 (.t 2), none⟩,
 ⟨(some 56), .load false 1 (.t 55), none⟩,
 ⟨(some 57), .bin .lss (.t 54) (.t 56), none⟩])
 (.cond (.t 57)
 .skip
 (.exit 4)))
 (.seq
 (.block 5
 (.reg true [
 ⟨(some 60), .load true 3 (.t 8), none⟩,
 ⟨(some 61), .mv (.t 9), none⟩,
 ⟨(some 62), .mv (.t 10), none⟩,
 ⟨(some 63), .load true 3 (.t 7), none⟩,
 ⟨(some 64), .mv (.t 9), none⟩,
 ⟨(some 65), .mv (.t 10), none⟩,
 ⟨(some 66), .call .froz 104 [(.t 63), (.t 64), (.t 65)], none⟩,
 ⟨(some 67), .callm .froz 103 [(.t 60), (.t 61), (.t 62), (.t 66)], none⟩]))
 (.reg false [
 ⟨(some 58), .mv (.t 10), none⟩,
 ⟨(some 59), .bin .add (.t 58) (.k (.one (.v (.int .i64) ((1 : Int))))), none⟩,
 ⟨(some 10), .mv (.t 59), none⟩]))))))))
 (.reg false [
 ⟨(some 52), .mv (.t 9), none⟩,
 ⟨(some 53), .bin .add (.t 52) (.k (.one (.v (.int .i64) ((1 : Int))))), none⟩,
 ⟨(some 9), .mv (.t 53), none⟩])))))))
 (.seq
 (.seq
 (.reg false [
 ⟨(some 11), .mv (.k (.one (.v (.int .i64) ((0 : Int))))), none⟩])
 (.join ⟨[(8, .one (.c (.ptr0 8 0))), (38, .one (.c (.v (.int .i64)))), (2, .one (.c (.ptr0 2 0))), (3, .one (.c (.ptr0 3 0))), (4, .one (.c (.ptr0 4 0))), (5, .one (.c (.ptr0 5 0))), (36, .one (.c (.v (.list [.int .i64, .int .i64, .list [.int .i64]])))), (37, .one (.c (.v (.int .i64))))], [(2, .box [.c (.v (.int .i64)), .c (.v (.int .i64)), .c (.v (.list [.int .i64])), .c (.v (.list [.int .i64, .int .i64, .list [.int .i64]])), .c (.v (.list [.int .i64]))]), (3, .box [.c (.v (.int .i64)), .c (.v (.int .i64)), .c (.v (.list [.int .i64])), .c (.v (.list [.int .i64, .int .i64, .list [.int .i64]])), .c (.v (.list [.int .i64]))]), (4, .box [.c (.v (.int .i64)), .c (.v (.int .i64)), .c (.full 500055 1), .c (.full 500056 3), .c (.full 500057 1)]), (5, .box [.c (.v (.int .i64)), .c (.v (.int .i64)), .c (.full 500058 1), .c (.full 500059 3), .c (.full 500060 1)]), (8, .box [.c (.v (.int .i64)), .c (.v (.int .i64)), .c (.full 500061 1)]), (500055, .row true .froz [.int .i64]), (500056, .row true .froz [.int .i64, .int .i64, .list [.int .i64]]), (500057, .row true .froz [.int .i64]), (500058, .row true .froz [.int .i64]), (500059, .row true .froz [.int .i64, .int .i64, .list [.int .i64]]), (500060, .row true .froz [.int .i64]), (500061, .row true .froz [.int .i64])]⟩ [2, 3, 4, 5, 8, 500034, 500035, 500036, 500037, 500038, 500039, 500040, 500055, 500056, 500057, 500058, 500059, 500060, 500061] [(true, 4, 2, 500055, .froz, []), (true, 4, 3, 500056, .froz, []), (true, 4, 4, 500057, .froz, []), (true, 5, 2, 500058, .froz, []), (true, 5, 3, 500059, .froz, []), (true, 5, 4, 500060, .froz, []), (true, 8, 2, 500061, .froz, [])]
 (.block 6
 (.loop 0 ⟨[(2, .one (.c (.ptr0 2 0))), (3, .one (.c (.ptr0 3 0))), (4, .one (.c (.ptr0 4 0))), (5, .one (.c (.ptr0 5 0))), (6, .one (.c (.v (.int .i64)))), (8, .one (.c (.ptr0 8 0))), (11, .one (.c (.v (.int .i64)))), (36, .one (.c (.v (.list [.int .i64, .int .i64, .list [.int .i64]])))), (37, .one (.c (.v (.int .i64)))), (38, .one (.c (.v (.int .i64))))], [(2, .box [.c (.v (.int .i64)), .c (.v (.int .i64)), .c (.v (.list [.int .i64])), .c (.v (.list [.int .i64, .int .i64, .list [.int .i64]])), .c (.v (.list [.int .i64]))]), (3, .box [.c (.v (.int .i64)), .c (.v (.int .i64)), .c (.v (.list [.int .i64])), .c (.v (.list [.int .i64, .int .i64, .list [.int .i64]])), .c (.v (.list [.int .i64]))]), (4, .box [.c (.v (.int .i64)), .c (.v (.int .i64)), .c (.full 500034 1), .c (.full 500035 3), .c (.full 500036 1)]), (5, .box [.c (.v (.int .i64)), .c (.v (.int .i64)), .c (.full 500037 1), .c (.full 500038 3), .c (.full 500039 1)]), (8, .box [.c (.v (.int .i64)), .c (.v (.int .i64)), .c (.full 500040 1)]), (500034, .row true .froz [.int .i64]), (500035, .row true .froz [.int .i64, .int .i64, .list [.int .i64]]), (500036, .row true .froz [.int .i64]), (500037, .row true .froz [.int .i64]), (500038, .row true .froz [.int .i64, .int .i64, .list [.int .i64]]), (500039, .row true .froz [.int .i64]), (500040, .row true .froz [.int .i64])]⟩ [2, 3, 4, 5, 8, 500027, 500028, 500029, 500030, 500031, 500032, 500033, 500034, 500035, 500036, 500037, 500038, 500039, 500040, 500048, 500049, 500050, 500051, 500052, 500053, 500054] [(true, 4, 2, 500034, .froz, []), (true, 4, 3, 500035, .froz, []), (true, 4, 4, 500036, .froz, []), (true, 5, 2, 500037, .froz, []), (true, 5, 3, 500038, .froz, []), (true, 5, 4, 500039, .froz, []), (true, 8, 2, 500040, .froz, [])]
 (.seq
 (.seq
 (.reg false [
 ⟨(some 68), .mv (.t 11), none⟩,
 ⟨(some 69), .fieldA 1 (.t 3), none⟩,
 ⟨(some 70), .load false 1 (.t 69), none⟩,
 ⟨(some 71), .bin .lss (.t 68) (.t 70), none⟩])
 (.cond (.t 71)
 .skip
 (.exit 6)))
 (.seq
 (.join ⟨[(11, .one (.c (.v (.int .i64)))), (2, .one (.c (.ptr0 2 0))), (3, .one (.c (.ptr0 3 0))), (4, .one (.c (.ptr0 4 0))), (5, .one (.c (.ptr0 5 0))), (6, .one (.c (.v (.int .i64)))), (8, .one (.c (.ptr0 8 0))), (36, .one (.c (.v (.list [.int .i64, .int .i64, .list [.int .i64]])))), (37, .one (.c (.v (.int .i64)))), (38, .one (.c (.v (.int .i64))))], [(2, .box [.c (.v (.int .i64)), .c (.v (.int .i64)), .c (.v (.list [.int .i64])), .c (.v (.list [.int .i64, .int .i64, .list [.int .i64]])), .c (.v (.list [.int .i64]))]), (3, .box [.c (.v (.int .i64)), .c (.v (.int .i64)), .c (.v (.list [.int .i64])), .c (.v (.list [.int .i64, .int .i64, .list [.int .i64]])), .c (.v (.list [.int .i64]))]), (4, .box [.c (.v (.int .i64)), .c (.v (.int .i64)), .c (.full 500048 1), .c (.full 500049 3), .c (.full 500050 1)]), (5, .box [.c (.v (.int .i64)), .c (.v (.int .i64)), .c (.full 500051 1), .c (.full 500052 3), .c (.full 500053 1)]), (8, .box [.c (.v (.int .i64)), .c (.v (.int .i64)), .c (.full 500054 1)]), (500048, .row true .froz [.int .i64]), (500049, .row true .froz [.int .i64, .int .i64, .list [.int .i64]]), (500050, .row true .froz [.int .i64]), (500051, .row true .froz [.int .i64]), (500052, .row true .froz [.int .i64, .int .i64, .list [.int .i64]]), (500053, .row true .froz [.int .i64]), (500054, .row true .froz [.int .i64])]⟩ [2, 3, 4, 5, 8, 500041, 500042, 500043, 500044, 500045, 500046, 500047, 500048, 500049, 500050, 500051, 500052, 500053, 500054] [(true, 4, 2, 500048, .froz, []), (true, 4, 3, 500049, .froz, []), (true, 4, 4, 500050, .froz, []), (true, 5, 2, 500051, .froz, []), (true, 5, 3, 500052, .froz, []), (true, 5, 4, 500053, .froz, []), (true, 8, 2, 500054, .froz, [])]
 (.block 7
 (.seq
 (.reg false [
 ⟨(some 12), .mv (.k (.one (.v (.int .i64) ((0 : Int))))), none⟩])
 (.block 8
 (.loop 0 ⟨[(2, .one (.c (.ptr0 2 0))), (3, .one (.c (.ptr0 3 0))), (4, .one (.c (.ptr0 4 0))), (5, .one (.c (.ptr0 5 0))), (6, .one (.c (.v (.int .i64)))), (8, .one (.c (.ptr0 8 0))), (11, .one (.c (.v (.int .i64)))), (12, .one (.c (.v (.int .i64)))), (36, .one (.c (.v (.list [.int .i64, .int .i64, .list [.int .i64]])))), (37, .one (.c (.v (.int .i64)))), (38, .one (.c (.v (.int .i64))))], [(2, .box [.c (.v (.int .i64)), .c (.v (.int .i64)), .c (.v (.list [.int .i64])), .c (.v (.list [.int .i64, .int .i64, .list [.int .i64]])), .c (.v (.list [.int .i64]))]), (3, .box [.c (.v (.int .i64)), .c (.v (.int .i64)), .c (.v (.list [.int .i64])), .c (.v (.list [.int .i64, .int .i64, .list [.int .i64]])), .c (.v (.list [.int .i64]))]), (4, .box [.c (.v (.int .i64)), .c (.v (.int .i64)), .c (.full 500041 1), .c (.full 500042 3), .c (.full 500043 1)]), (5, .box [.c (.v (.int .i64)), .c (.v (.int .i64)), .c (.full 500044 1), .c (.full 500045 3), .c (.full 500046 1)]), (8, .box [.c (.v (.int .i64)), .c (.v (.int .i64)), .c (.full 500047 1)]), (500041, .row true .froz [.int .i64]), (500042, .row true .froz [.int .i64, .int .i64, .list [.int .i64]]), (500043, .row true .froz [.int .i64]), (500044, .row true .froz [.int .i64]), (500045, .row true .froz [.int .i64, .int .i64, .list [.int .i64]]), (500046, .row true .froz [.int .i64]), (500047, .row true .froz [.int .i64])]⟩ [2, 3, 4, 5, 8, 500034, 500035, 500036, 500037, 500038, 500039, 500040, 500041, 500042, 500043, 500044, 500045, 500046, 500047] [(true, 4, 2, 500041, .froz, []), (true, 4, 3, 500042, .froz, []), (true, 4, 4, 500043, .froz, []), (true, 5, 2, 500044, .froz, []), (true, 5, 3, 500045, .froz, []), (true, 5, 4, 500046, .froz, []), (true, 8, 2, 500047, .froz, [])]
 (.seq
 (.seq
 (.reg false [
 ⟨(some 74), .mv (.t 12), none⟩,
 ⟨(some 75), .fieldA 1 (.t 3), none⟩,
 ⟨(some 76), .load false 1 (.t 75), none⟩,
 ⟨(some 77), .bin .lss (.t 74) (.t 76), none⟩])
 (.cond (.t 77)
 .skip
 (.exit 8)))
 (.seq
 (.block 9
 (.reg true [
 ⟨(some 80), .load true 3 (.t 8), none⟩,
 ⟨(some 81), .fieldA 1 (.t 2), none⟩,
 ⟨(some 82), .load false 1 (.t 81), none⟩,
 ⟨(some 83), .mv (.t 11), none⟩,
 ⟨(some 84), .bin .add (.t 82) (.t 83), none⟩,
 ⟨(some 85), .fieldA 1 (.t 2), none⟩,
 ⟨(some 86), .load false 1 (.t 85), none⟩,
 ⟨(some 87), .mv (.t 12), none⟩,
 ⟨(some 88), .bin .add (.t 86) (.t 87), none⟩,
 ⟨(some 89), .fieldA 3 (.t 3), none⟩,
 ⟨(some 90), .load false 1 (.t 89), none⟩,
 ⟨(some 91), .mv (.t 6), none⟩,
 ⟨(some 92), .idxA 3 (.t 90) (.t 91), none⟩,
 ⟨(some 93), .load true 3 (.t 92), none⟩,
 ⟨(some 94), .mv (.t 11), none⟩,
 ⟨(some 95), .mv (.t 12), none⟩,
 ⟨(some 96), .call .froz 104 [(.t 93), (.t 94), (.t 95)], none⟩,
 ⟨(some 97), .callm .froz 103 [(.t 80), (.t 84), (.t 88), (.t 96)], none⟩]))
 (.reg false [
 ⟨(some 78), .mv (.t 12), none⟩,
 ⟨(some 79), .bin .add (.t 78) (.k (.one (.v (.int .i64) ((1 : Int))))), none⟩,
 ⟨(some 12), .mv (.t 79), none⟩]))))))))
 (.reg false [
 ⟨(some 72), .mv (.t 11), none⟩,
 ⟨(some 73), .bin .add (.t 72) (.k (.one (.v (.int .i64) ((1 : Int))))), none⟩,
 ⟨(some 11), .mv (.t 73), none⟩])))))))
 (.reg false [
 ⟨(some 98), .fieldA 3 (.t 5), none⟩,
 ⟨(some 99), .load false 1 (.t 98), none⟩,
 ⟨(some 100), .load true 3 (.t 8), none⟩,
 ⟨(some 101), .bslice [.int .i64, .int .i64, .list [.int .i64]] [(.t 100)], none⟩,
 ⟨(some 102), .append false [.int .i64, .int .i64, .list [.int .i64]] 40 (.t 99) (.t 101), none⟩,
 ⟨(some 103), .fieldA 3 (.t 5), none⟩,
 ⟨none, .store 1 (.t 103) (.t 102), none⟩])))))))
 (.reg false [
 ⟨(some 104), .bin .add (.t 38) (.k (.one (.v (.int .i64) ((1 : Int))))), none⟩,
 ⟨(some 38), .mv (.t 104), none⟩]))))))))
 (.seq
 (.reg false [
 ⟨(some 105), .load true 5 (.t 5), none⟩,
 ⟨none, .store 5 (.t 4) (.t 105), none⟩])
 .ret))))))
def ms_impl_rawAddAutomata : List MRes := [.cell 4 5 true]
theorem n_impl_rawAddAutomata (NN : Nat) (x : DLL (Sig.tys ag_impl_rawAddAutomata)) : runS NN [fn_impl_copyInts, fn_impl_emptyMatrix, fn_impl_Matrix_at, fn_impl_Matrix_set] sc_impl_rawAddAutomata ms_impl_rawAddAutomata ag_impl_rawAddAutomata rs_impl_rawAddAutomata x = G_impl_rawAddAutomata NN x := by kernel_rfl
theorem k_impl_rawAddAutomata : chkS Go.Proofs.Try.prog 66 sc_impl_rawAddAutomata.er ms_impl_rawAddAutomata 2 = true := by decide +kernel
theorem p_impl_rawAddAutomata : PureSpec Go.Proofs.Try.prog 66 fn_impl_rawAddAutomata.M ∧ chkFun Go.Proofs.Try.prog 66 = true :=
  pure_of_runS (T := [fn_impl_copyInts, fn_impl_emptyMatrix, fn_impl_Matrix_at, fn_impl_Matrix_set]) (sc := sc_impl_rawAddAutomata) (ms := ms_impl_rawAddAutomata) (args := ag_impl_rawAddAutomata) (res := rs_impl_rawAddAutomata) (SOk.cons p_impl_copyInts <| SOk.cons p_impl_emptyMatrix <| SOk.cons p_impl_Matrix_at <| SOk.consM p_impl_Matrix_set <| SOk.nil) follows_ok k_impl_rawAddAutomata F_impl_rawAddAutomata fun x y h => (n_impl_rawAddAutomata FUEL x).trans (f_impl_rawAddAutomata x y h)

def fn_impl_AddAutomata : SFn := ⟨22, ag_impl_AddAutomata, mu_impl_AddAutomata, rs_impl_AddAutomata, F_impl_AddAutomata⟩
def sc_impl_AddAutomata : SCode :=
 (.seq
 (.reg false [
 ⟨(some 2), .box 5 (.t 0), none⟩,
 ⟨(some 3), .box 5 (.t 1), none⟩,
 ⟨(some 4), .alloc [.v (.int .i64) ((0 : Int)), .v (.int .i64) ((0 : Int)), .nil [.int .i64], .nil [.int .i64, .int .i64, .list [.int .i64]], .nil [.int .i64]], none⟩,
 ⟨(some 5), .mv (.k (.one (.v (.bool) (false)))), none⟩])
 (.seq
 (.seq
 (.reg false [
 ⟨(some 6), .load true 5 (.t 2), none⟩,
 ⟨(some 7), .load true 5 (.t 3), none⟩,
 ⟨(some 8), .call .froz 65 [(.t 6), (.t 7)], none⟩,
 ⟨(some 9), .un .not (.t 8), none⟩,
 ⟨(some 10), .mv (.t 9), none⟩,
 ⟨(some 11), .fieldA 1 (.t 2), (some (10, false))⟩,
 ⟨(some 12), .load false 1 (.t 11), (some (10, false))⟩,
 ⟨(some 13), .fieldA 1 (.t 3), (some (10, false))⟩,
 ⟨(some 14), .load false 1 (.t 13), (some (10, false))⟩,
 ⟨(some 15), .bin .add (.t 12) (.t 14), (some (10, false))⟩,
 ⟨(some 16), .bin .gtr (.t 15) (.k (.one (.v (.int .i64) ((12 : Int))))), (some (10, false))⟩,
 ⟨(some 17), .pick (.t 10) (.k (.one (.v (.bool) (true)))) (.t 16), none⟩])
 (.cond (.t 17)
 (.seq
 (.reg false [
 ⟨(some 18), .build [.v (.int .i64) ((0 : Int)), .v (.int .i64) ((0 : Int)), .nil [.int .i64], .nil [.int .i64, .int .i64, .list [.int .i64]], .nil [.int .i64]] [], none⟩,
 ⟨none, .store 5 (.t 4) (.t 18), none⟩,
 ⟨(some 5), .mv (.k (.one (.v (.bool) (false)))), none⟩])
 .ret)
 .skip))
 (.seq
 (.reg false [
 ⟨(some 19), .load true 5 (.t 2), none⟩,
 ⟨(some 20), .load true 5 (.t 3), none⟩,
 ⟨(some 21), .call .froz 66 [(.t 19), (.t 20)], none⟩,
 ⟨none, .store 5 (.t 4) (.t 21), none⟩,
 ⟨(some 5), .mv (.k (.one (.v (.bool) (true)))), none⟩])
 .ret)))
def ms_impl_AddAutomata : List MRes := [.cell 4 5 true, .tmp 5]
theorem n_impl_AddAutomata (NN : Nat) (x : DLL (Sig.tys ag_impl_AddAutomata)) : runS NN [fn_impl_sameLetters, fn_impl_rawAddAutomata] sc_impl_AddAutomata ms_impl_AddAutomata ag_impl_AddAutomata rs_impl_AddAutomata x = G_impl_AddAutomata NN x := by kernel_rfl
theorem k_impl_AddAutomata : chkS Go.Proofs.Try.prog 22 sc_impl_AddAutomata.er ms_impl_AddAutomata 2 = true := by decide +kernel
theorem p_impl_AddAutomata : PureSpec Go.Proofs.Try.prog 22 fn_impl_AddAutomata.M ∧ chkFun Go.Proofs.Try.prog 22 = true :=
  pure_of_runS (T := [fn_impl_sameLetters, fn_impl_rawAddAutomata]) (sc := sc_impl_AddAutomata) (ms := ms_impl_AddAutomata) (args := ag_impl_AddAutomata) (res := rs_impl_AddAutomata) (SOk.cons p_impl_sameLetters <| SOk.cons p_impl_rawAddAutomata <| SOk.nil) follows_ok k_impl_AddAutomata F_impl_AddAutomata fun x y h => (n_impl_AddAutomata FUEL x).trans (f_impl_AddAutomata x y h)

def fn_laws_eqIntS : SFn := ⟨27, ag_laws_eqIntS, mu_laws_eqIntS, rs_laws_eqIntS, F_laws_eqIntS⟩
def sc_laws_eqIntS : SCode :=
 (.seq
 (.reg false [
 ⟨(some 4), .mv (.k (.one (.v (.bool) (false)))), none⟩])
 (.seq
 (.seq
 (.reg false [
 ⟨(some 6), .mv (.t 0), none⟩,
 ⟨(some 7), .len (.t 6), none⟩,
 ⟨(some 8), .mv (.t 1), none⟩,
 ⟨(some 9), .len (.t 8), none⟩,
 ⟨(some 10), .bin .neq (.t 7) (.t 9), none⟩])
 (.cond (.t 10)
 (.seq
 (.reg false [
 ⟨(some 4), .mv (.k (.one (.v (.bool) (false)))), none⟩])
 .ret)
 .skip))
 (.seq
 (.seq
 (.reg false [
 ⟨(some 5), .mv (.k (.one (.v (.int .i64) ((0 : Int))))), none⟩])
 (.join ⟨[], []⟩ [] []
 (.block 0
 (.loop 0 ⟨[(0, .one (.c (.v (.list [.int .i64])))), (1, .one (.c (.v (.list [.int .i64])))), (5, .one (.c (.v (.int .i64))))], []⟩ [] []
 (.seq
 (.seq
 (.reg false [
 ⟨(some 11), .mv (.t 5), none⟩,
 ⟨(some 12), .mv (.t 0), none⟩,
 ⟨(some 13), .len (.t 12), none⟩,
 ⟨(some 14), .bin .lss (.t 11) (.t 13), none⟩])
 (.cond (.t 14)
 .skip
 (.exit 0)))
 (.seq
 (.block 1
 (.seq
 (.reg true [
 ⟨(some 17), .mv (.t 0), none⟩,
 ⟨(some 18), .mv (.t 5), none⟩,
 ⟨(some 19), .idxA 1 (.t 17) (.t 18), none⟩,
 ⟨(some 20), .load false 1 (.t 19), none⟩,
 ⟨(some 21), .mv (.t 1), none⟩,
 ⟨(some 22), .mv (.t 5), none⟩,
 ⟨(some 23), .idxA 1 (.t 21) (.t 22), none⟩,
 ⟨(some 24), .load false 1 (.t 23), none⟩,
 ⟨(some 25), .bin .neq (.t 20) (.t 24), none⟩])
 (.cond (.t 25)
 (.seq
 (.reg false [
 ⟨(some 4), .mv (.k (.one (.v (.bool) (false)))), none⟩])
 .ret)
 .skip)))
 (.reg false [
 ⟨(some 15), .mv (.t 5), none⟩,
 ⟨(some 16), .bin .add (.t 15) (.k (.one (.v (.int .i64) ((1 : Int))))), none⟩,
 ⟨(some 5), .mv (.t 16), none⟩])))))))
 (.seq
 (.reg false [
 ⟨(some 4), .mv (.k (.one (.v (.bool) (true)))), none⟩])
 .ret))))
def ms_laws_eqIntS : List MRes := [.tmp 4]
theorem n_laws_eqIntS (NN : Nat) (x : DLL (Sig.tys ag_laws_eqIntS)) : runS NN [] sc_laws_eqIntS ms_laws_eqIntS ag_laws_eqIntS rs_laws_eqIntS x = G_laws_eqIntS NN x := by kernel_rfl
theorem k_laws_eqIntS : chkS Go.Proofs.Try.prog 27 sc_laws_eqIntS.er ms_laws_eqIntS 2 = true := by decide +kernel
theorem p_laws_eqIntS : PureSpec Go.Proofs.Try.prog 27 fn_laws_eqIntS.M ∧ chkFun Go.Proofs.Try.prog 27 = true :=
  pure_of_runS (T := []) (sc := sc_laws_eqIntS) (ms := ms_laws_eqIntS) (args := ag_laws_eqIntS) (res := rs_laws_eqIntS) (SOk.nil) follows_ok k_laws_eqIntS F_laws_eqIntS fun x y h => (n_laws_eqIntS FUEL x).trans (f_laws_eqIntS x y h)

def fn_laws_eqMatrix : SFn := ⟨98, ag_laws_eqMatrix, mu_laws_eqMatrix, rs_laws_eqMatrix, F_laws_eqMatrix⟩
def sc_laws_eqMatrix : SCode :=
 (.seq
 (.reg false [
 ⟨(some 2), .box 3 (.t 0), none⟩,
 ⟨(some 3), .box 3 (.t 1), none⟩,
 ⟨(some 4), .mv (.k (.one (.v (.bool) (false)))), none⟩])
 (.seq
 (.seq
 (.reg false [
 ⟨(some 5), .fieldA 0 (.t 2), none⟩,
 ⟨(some 6), .load false 1 (.t 5), none⟩,
 ⟨(some 7), .fieldA 0 (.t 3), none⟩,
 ⟨(some 8), .load false 1 (.t 7), none⟩,
 ⟨(some 9), .bin .neq (.t 6) (.t 8), none⟩])
 (.cond (.t 9)
 (.seq
 (.reg false [
 ⟨(some 4), .mv (.k (.one (.v (.bool) (false)))), none⟩])
 .ret)
 .skip))
 (.seq
 (.seq
 (.reg false [
 ⟨(some 10), .fieldA 1 (.t 2), none⟩,
 ⟨(some 11), .load false 1 (.t 10), none⟩,
 ⟨(some 12), .fieldA 1 (.t 3), none⟩,
 ⟨(some 13), .load false 1 (.t 12), none⟩,
 ⟨(some 14), .bin .neq (.t 11) (.t 13), none⟩])
 (.cond (.t 14)
 (.seq
 (.reg false [
 ⟨(some 4), .mv (.k (.one (.v (.bool) (false)))), none⟩])
 .ret)
 .skip))
 (.seq
 (.seq
 (.reg false [
 ⟨(some 15), .fieldA 2 (.t 2), none⟩,
 ⟨(some 16), .load false 1 (.t 15), none⟩,
 ⟨(some 17), .fieldA 2 (.t 3), none⟩,
 ⟨(some 18), .load false 1 (.t 17), none⟩,
 ⟨(some 19), .call .froz 27 [(.t 16), (.t 18)], none⟩,
 ⟨(some 20), .un .not (.t 19), none⟩])
 (.cond (.t 20)
 (.seq
 (.reg false [
 ⟨(some 4), .mv (.k (.one (.v (.bool) (false)))), none⟩])
 .ret)
 .skip))
 (.seq
 (.reg false [
 ⟨(some 4), .mv (.k (.one (.v (.bool) (true)))), none⟩])
 .ret)))))
def ms_laws_eqMatrix : List MRes := [.tmp 4]
theorem n_laws_eqMatrix (NN : Nat) (x : DLL (Sig.tys ag_laws_eqMatrix)) : runS NN [fn_laws_eqIntS] sc_laws_eqMatrix ms_laws_eqMatrix ag_laws_eqMatrix rs_laws_eqMatrix x = G_laws_eqMatrix NN x := by kernel_rfl
theorem k_laws_eqMatrix : chkS Go.Proofs.Try.prog 98 sc_laws_eqMatrix.er ms_laws_eqMatrix 2 = true := by decide +kernel
theorem p_laws_eqMatrix : PureSpec Go.Proofs.Try.prog 98 fn_laws_eqMatrix.M ∧ chkFun Go.Proofs.Try.prog 98 = true :=
  pure_of_runS (T := [fn_laws_eqIntS]) (sc := sc_laws_eqMatrix) (ms := ms_laws_eqMatrix) (args := ag_laws_eqMatrix) (res := rs_laws_eqMatrix) (SOk.cons p_laws_eqIntS <| SOk.nil) follows_ok k_laws_eqMatrix F_laws_eqMatrix fun x y h => (n_laws_eqMatrix FUEL x).trans (f_laws_eqMatrix x y h)

def fn_laws_eqMatrixS : SFn := ⟨60, ag_laws_eqMatrixS, mu_laws_eqMatrixS, rs_laws_eqMatrixS, F_laws_eqMatrixS⟩
def sc_laws_eqMatrixS : SCode :=
 (.seq
 (.reg false [
 ⟨(some 4), .mv (.k (.one (.v (.bool) (false)))), none⟩])
 (.seq
 (.seq
 (.reg false [
 ⟨(some 6), .mv (.t 0), none⟩,
 ⟨(some 7), .len (.t 6), none⟩,
 ⟨(some 8), .mv (.t 1), none⟩,
 ⟨(some 9), .len (.t 8), none⟩,
 ⟨(some 10), .bin .neq (.t 7) (.t 9), none⟩])
 (.cond (.t 10)
 (.seq
 (.reg false [
 ⟨(some 4), .mv (.k (.one (.v (.bool) (false)))), none⟩])
 .ret)
 .skip))
 (.seq
 (.seq
 (.reg false [
 ⟨(some 5), .mv (.k (.one (.v (.int .i64) ((0 : Int))))), none⟩])
 (.join ⟨[], []⟩ [] []
 (.block 0
 (.loop 0 ⟨[(0, .one (.c (.v (.list [.int .i64, .int .i64, .list [.int .i64]])))), (1, .one (.c (.v (.list [.int .i64, .int .i64, .list [.int .i64]])))), (5, .one (.c (.v (.int .i64))))], []⟩ [] []
 (.seq
 (.seq
 (.reg false [
 ⟨(some 11), .mv (.t 5), none⟩,
 ⟨(some 12), .mv (.t 0), none⟩,
 ⟨(some 13), .len (.t 12), none⟩,
 ⟨(some 14), .bin .lss (.t 11) (.t 13), none⟩])
 (.cond (.t 14)
 .skip
 (.exit 0)))
 (.seq
 (.block 1
 (.seq
 (.reg true [
 ⟨(some 17), .mv (.t 0), none⟩,
 ⟨(some 18), .mv (.t 5), none⟩,
 ⟨(some 19), .idxA 3 (.t 17) (.t 18), none⟩,
 ⟨(some 20), .load true 3 (.t 19), none⟩,
 ⟨(some 21), .mv (.t 1), none⟩,
 ⟨(some 22), .mv (.t 5), none⟩,
 ⟨(some 23), .idxA 3 (.t 21) (.t 22), none⟩,
 ⟨(some 24), .load true 3 (.t 23), none⟩,
 ⟨(some 25), .call .froz 98 [(.t 20), (.t 24)], none⟩,
 ⟨(some 26), .un .not (.t 25), none⟩])
 (.cond (.t 26)
 (.seq
 (.reg false [
 ⟨(some 4), .mv (.k (.one (.v (.bool) (false)))), none⟩])
 .ret)
 .skip)))
 (.reg false [
 ⟨(some 15), .mv (.t 5), none⟩,
 ⟨(some 16), .bin .add (.t 15) (.k (.one (.v (.int .i64) ((1 : Int))))), none⟩,
 ⟨(some 5), .mv (.t 16), none⟩])))))))
 (.seq
 (.reg false [
 ⟨(some 4), .mv (.k (.one (.v (.bool) (true)))), none⟩])
 .ret))))
def ms_laws_eqMatrixS : List MRes := [.tmp 4]
theorem n_laws_eqMatrixS (NN : Nat) (x : DLL (Sig.tys ag_laws_eqMatrixS)) : runS NN [fn_laws_eqMatrix] sc_laws_eqMatrixS ms_laws_eqMatrixS ag_laws_eqMatrixS rs_laws_eqMatrixS x = G_laws_eqMatrixS NN x := by kernel_rfl
theorem k_laws_eqMatrixS : chkS Go.Proofs.Try.prog 60 sc_laws_eqMatrixS.er ms_laws_eqMatrixS 2 = true := by decide +kernel
theorem p_laws_eqMatrixS : PureSpec Go.Proofs.Try.prog 60 fn_laws_eqMatrixS.M ∧ chkFun Go.Proofs.Try.prog 60 = true :=
  pure_of_runS (T := [fn_laws_eqMatrix]) (sc := sc_laws_eqMatrixS) (ms := ms_laws_eqMatrixS) (args := ag_laws_eqMatrixS) (res := rs_laws_eqMatrixS) (SOk.cons p_laws_eqMatrix <| SOk.nil) follows_ok k_laws_eqMatrixS F_laws_eqMatrixS fun x y h => (n_laws_eqMatrixS FUEL x).trans (f_laws_eqMatrixS x y h)

def fn_laws_eqAutomaton : SFn := ⟨19, ag_laws_eqAutomaton, mu_laws_eqAutomaton, rs_laws_eqAutomaton, F_laws_eqAutomaton⟩
def sc_laws_eqAutomaton : SCode :=
 (.seq
 (.reg false [
 ⟨(some 2), .box 5 (.t 0), none⟩,
 ⟨(some 3), .box 5 (.t 1), none⟩,
 ⟨(some 4), .mv (.k (.one (.v (.bool) (false)))), none⟩])
 (.seq
 (.seq
 (.reg false [
 ⟨(some 5), .fieldA 0 (.t 2), none⟩,
 ⟨(some 6), .load false 1 (.t 5), none⟩,
 ⟨(some 7), .fieldA 0 (.t 3), none⟩,
 ⟨(some 8), .load false 1 (.t 7), none⟩,
 ⟨(some 9), .bin .neq (.t 6) (.t 8), none⟩])
 (.cond (.t 9)
 (.seq
 (.reg false [
 ⟨(some 4), .mv (.k (.one (.v (.bool) (false)))), none⟩])
 .ret)
 .skip))
 (.seq
 (.seq
 (.reg false [
 ⟨(some 10), .fieldA 1 (.t 2), none⟩,
 ⟨(some 11), .load false 1 (.t 10), none⟩,
 ⟨(some 12), .fieldA 1 (.t 3), none⟩,
 ⟨(some 13), .load false 1 (.t 12), none⟩,
 ⟨(some 14), .bin .neq (.t 11) (.t 13), none⟩])
 (.cond (.t 14)
 (.seq
 (.reg false [
 ⟨(some 4), .mv (.k (.one (.v (.bool) (false)))), none⟩])
 .ret)
 .skip))
 (.seq
 (.seq
 (.reg false [
 ⟨(some 15), .fieldA 2 (.t 2), none⟩,
 ⟨(some 16), .load false 1 (.t 15), none⟩,
 ⟨(some 17), .fieldA 2 (.t 3), none⟩,
 ⟨(some 18), .load false 1 (.t 17), none⟩,
 ⟨(some 19), .call .froz 27 [(.t 16), (.t 18)], none⟩,
 ⟨(some 20), .un .not (.t 19), none⟩])
 (.cond (.t 20)
 (.seq
 (.reg false [
 ⟨(some 4), .mv (.k (.one (.v (.bool) (false)))), none⟩])
 .ret)
 .skip))
 (.seq
 (.seq
 (.reg false [
 ⟨(some 21), .fieldA 3 (.t 2), none⟩,
 ⟨(some 22), .load false 1 (.t 21), none⟩,
 ⟨(some 23), .fieldA 3 (.t 3), none⟩,
 ⟨(some 24), .load false 1 (.t 23), none⟩,
 ⟨(some 25), .call .froz 60 [(.t 22), (.t 24)], none⟩,
 ⟨(some 26), .un .not (.t 25), none⟩])
 (.cond (.t 26)
 (.seq
 (.reg false [
 ⟨(some 4), .mv (.k (.one (.v (.bool) (false)))), none⟩])
 .ret)
 .skip))
 (.seq
 (.seq
 (.reg false [
 ⟨(some 27), .fieldA 4 (.t 2), none⟩,
 ⟨(some 28), .load false 1 (.t 27), none⟩,
 ⟨(some 29), .fieldA 4 (.t 3), none⟩,
 ⟨(some 30), .load false 1 (.t 29), none⟩,
 ⟨(some 31), .call .froz 27 [(.t 28), (.t 30)], none⟩,
 ⟨(some 32), .un .not (.t 31), none⟩])
 (.cond (.t 32)
 (.seq
 (.reg false [
 ⟨(some 4), .mv (.k (.one (.v (.bool) (false)))), none⟩])
 .ret)
 .skip))
 (.seq
 (.reg false [
 ⟨(some 4), .mv (.k (.one (.v (.bool) (true)))), none⟩])
 .ret)))))))
def ms_laws_eqAutomaton : List MRes := [.tmp 4]
theorem n_laws_eqAutomaton (NN : Nat) (x : DLL (Sig.tys ag_laws_eqAutomaton)) : runS NN [fn_laws_eqIntS, fn_laws_eqMatrixS] sc_laws_eqAutomaton ms_laws_eqAutomaton ag_laws_eqAutomaton rs_laws_eqAutomaton x = G_laws_eqAutomaton NN x := by kernel_rfl
theorem k_laws_eqAutomaton : chkS Go.Proofs.Try.prog 19 sc_laws_eqAutomaton.er ms_laws_eqAutomaton 2 = true := by decide +kernel
theorem p_laws_eqAutomaton : PureSpec Go.Proofs.Try.prog 19 fn_laws_eqAutomaton.M ∧ chkFun Go.Proofs.Try.prog 19 = true :=
  pure_of_runS (T := [fn_laws_eqIntS, fn_laws_eqMatrixS]) (sc := sc_laws_eqAutomaton) (ms := ms_laws_eqAutomaton) (args := ag_laws_eqAutomaton) (res := rs_laws_eqAutomaton) (SOk.cons p_laws_eqIntS <| SOk.cons p_laws_eqMatrixS <| SOk.nil) follows_ok k_laws_eqAutomaton F_laws_eqAutomaton fun x y h => (n_laws_eqAutomaton FUEL x).trans (f_laws_eqAutomaton x y h)

def fn_laws_markIntS : SFn := ⟨40, ag_laws_markIntS, mu_laws_markIntS, rs_laws_markIntS, F_laws_markIntS⟩
def sc_laws_markIntS : SCode :=
 (.seq
 (.reg false [
 ⟨(some 4), .mv (.k (.one (.v (.int .i64) ((0 : Int))))), none⟩])
 (.seq
 (.seq
 (.reg false [
 ⟨(some 5), .mv (.k (.one (.v (.int .i64) ((0 : Int))))), none⟩])
 (.join ⟨[(1, .one (.c (.v (.int .i64))))], [(1000000, .row false .froz [.int .i64])]⟩ [1000000] []
 (.block 0
 (.loop 0 ⟨[(0, .one (.c (.full 1000000 1))), (1, .one (.c (.v (.int .i64)))), (5, .one (.c (.v (.int .i64))))], [(1000000, .row false .froz [.int .i64])]⟩ [1000000, 500000] [(false, 0, 0, 500000, .froz, [])]
 (.seq
 (.seq
 (.reg false [
 ⟨(some 6), .mv (.t 5), none⟩,
 ⟨(some 7), .mv (.t 0), none⟩,
 ⟨(some 8), .len (.t 7), none⟩,
 ⟨(some 9), .bin .lss (.t 6) (.t 8), none⟩])
 (.cond (.t 9)
 .skip
 (.exit 0)))
 (.seq
 (.block 1
 (.seq
 (.reg false [
 ⟨(some 12), .mv (.t 0), none⟩,
 ⟨(some 13), .mv (.t 5), none⟩,
 ⟨(some 14), .mv (.t 1), none⟩,
 ⟨(some 15), .idxA 1 (.t 12) (.t 13), none⟩,
 ⟨none, .store 1 (.t 15) (.t 14), none⟩])
 (.reg false [
 ⟨(some 16), .mv (.t 1), none⟩,
 ⟨(some 17), .bin .add (.t 16) (.k (.one (.v (.int .i64) ((1 : Int))))), none⟩,
 ⟨(some 1), .mv (.t 17), none⟩])))
 (.reg false [
 ⟨(some 10), .mv (.t 5), none⟩,
 ⟨(some 11), .bin .add (.t 10) (.k (.one (.v (.int .i64) ((1 : Int))))), none⟩,
 ⟨(some 5), .mv (.t 11), none⟩])))))))
 (.seq
 (.reg false [
 ⟨(some 18), .mv (.t 1), none⟩,
 ⟨(some 4), .mv (.t 18), none⟩])
 .ret)))
def ms_laws_markIntS : List MRes := [.tmp 4]
theorem n_laws_markIntS (NN : Nat) (x : DLL (Sig.tys ag_laws_markIntS)) : runMS NN [] sc_laws_markIntS ms_laws_markIntS ag_laws_markIntS mu_laws_markIntS rs_laws_markIntS x = G_laws_markIntS NN x := by kernel_rfl
theorem k_laws_markIntS : chkS Go.Proofs.Try.prog 40 sc_laws_markIntS.er ms_laws_markIntS 2 = true := by decide +kernel
theorem p_laws_markIntS : MutSpec Go.Proofs.Try.prog 40 mu_laws_markIntS fn_laws_markIntS.MM ∧ chkFun Go.Proofs.Try.prog 40 = true :=
  mut_of_runMS (T := []) (sc := sc_laws_markIntS) (ms := ms_laws_markIntS) (args := ag_laws_markIntS) (mu := mu_laws_markIntS) (res := rs_laws_markIntS) (SOk.nil) follows_ok k_laws_markIntS F_laws_markIntS fun x y h => (n_laws_markIntS FUEL x).trans (f_laws_markIntS x y h)

def fn_laws_markMatrixS : SFn := ⟨79, ag_laws_markMatrixS, mu_laws_markMatrixS, rs_laws_markMatrixS, F_laws_markMatrixS⟩
def sc_laws_markMatrixS : SCode :=
 (.seq
 (.reg false [
 ⟨(some 4), .mv (.k (.one (.v (.int .i64) ((0 : Int))))), none⟩])
 (.seq
 (.seq
 (.reg false [
 ⟨(some 5), .mv (.k (.one (.v (.int .i64) ((0 : Int))))), none⟩])
 (.join ⟨[(1, .one (.c (.v (.int .i64))))], [(1000000, .row false .live [.int .i64, .int .i64, .list [.int .i64]])]⟩ [1000000] []
 (.block 0
 (.loop 0 ⟨[(0, .one (.c (.full 1000000 3))), (1, .one (.c (.v (.int .i64)))), (5, .one (.c (.v (.int .i64))))], [(1000000, .row false .live [.int .i64, .int .i64, .list [.int .i64]])]⟩ [1000000, 500000] [(false, 0, 0, 500000, .froz, [])]
 (.seq
 (.seq
 (.reg false [
 ⟨(some 6), .mv (.t 5), none⟩,
 ⟨(some 7), .mv (.t 0), none⟩,
 ⟨(some 8), .len (.t 7), none⟩,
 ⟨(some 9), .bin .lss (.t 6) (.t 8), none⟩])
 (.cond (.t 9)
 .skip
 (.exit 0)))
 (.seq
 (.block 1
 (.seq
 (.reg false [
 ⟨(some 12), .mv (.t 0), none⟩,
 ⟨(some 13), .mv (.t 5), none⟩,
 ⟨(some 14), .mv (.t 1), none⟩,
 ⟨(some 15), .idxA 3 (.t 12) (.t 13), none⟩,
 ⟨(some 16), .fieldA 0 (.t 15), none⟩,
 ⟨none, .store 1 (.t 16) (.t 14), none⟩])
 (.seq
 (.reg false [
 ⟨(some 17), .mv (.t 1), none⟩,
 ⟨(some 18), .bin .add (.t 17) (.k (.one (.v (.int .i64) ((1 : Int))))), none⟩,
 ⟨(some 1), .mv (.t 18), none⟩])
 (.seq
 (.reg false [
 ⟨(some 19), .mv (.t 0), none⟩,
 ⟨(some 20), .mv (.t 5), none⟩,
 ⟨(some 21), .mv (.t 1), none⟩,
 ⟨(some 22), .idxA 3 (.t 19) (.t 20), none⟩,
 ⟨(some 23), .fieldA 1 (.t 22), none⟩,
 ⟨none, .store 1 (.t 23) (.t 21), none⟩])
 (.seq
 (.reg false [
 ⟨(some 24), .mv (.t 1), none⟩,
 ⟨(some 25), .bin .add (.t 24) (.k (.one (.v (.int .i64) ((1 : Int))))), none⟩,
 ⟨(some 1), .mv (.t 25), none⟩])
 (.reg false [
 ⟨(some 26), .mv (.t 0), none⟩,
 ⟨(some 27), .mv (.t 5), none⟩,
 ⟨(some 28), .idxA 3 (.t 26) (.t 27), none⟩,
 ⟨(some 29), .fieldA 2 (.t 28), none⟩,
 ⟨(some 30), .load false 1 (.t 29), none⟩,
 ⟨(some 31), .mv (.t 1), none⟩,
 ⟨(some 32), .callm .froz 40 [(.t 30), (.t 31)], none⟩,
 ⟨(some 1), .mv (.t 32), none⟩]))))))
 (.reg false [
 ⟨(some 10), .mv (.t 5), none⟩,
 ⟨(some 11), .bin .add (.t 10) (.k (.one (.v (.int .i64) ((1 : Int))))), none⟩,
 ⟨(some 5), .mv (.t 11), none⟩])))))))
 (.seq
 (.reg false [
 ⟨(some 33), .mv (.t 1), none⟩,
 ⟨(some 4), .mv (.t 33), none⟩])
 .ret)))
def ms_laws_markMatrixS : List MRes := [.tmp 4]
theorem n_laws_markMatrixS (NN : Nat) (x : DLL (Sig.tys ag_laws_markMatrixS)) : runMS NN [fn_laws_markIntS] sc_laws_markMatrixS ms_laws_markMatrixS ag_laws_markMatrixS mu_laws_markMatrixS rs_laws_markMatrixS x = G_laws_markMatrixS NN x := by kernel_rfl
theorem k_laws_markMatrixS : chkS Go.Proofs.Try.prog 79 sc_laws_markMatrixS.er ms_laws_markMatrixS 2 = true := by decide +kernel
theorem p_laws_markMatrixS : MutSpec Go.Proofs.Try.prog 79 mu_laws_markMatrixS fn_laws_markMatrixS.MM ∧ chkFun Go.Proofs.Try.prog 79 = true :=
  mut_of_runMS (T := [fn_laws_markIntS]) (sc := sc_laws_markMatrixS) (ms := ms_laws_markMatrixS) (args := ag_laws_markMatrixS) (mu := mu_laws_markMatrixS) (res := rs_laws_markMatrixS) (SOk.consM p_laws_markIntS <| SOk.nil) follows_ok k_laws_markMatrixS F_laws_markMatrixS fun x y h => (n_laws_markMatrixS FUEL x).trans (f_laws_markMatrixS x y h)

def fn_laws_markAutomaton : SFn := ⟨32, ag_laws_markAutomaton, mu_laws_markAutomaton, rs_laws_markAutomaton, F_laws_markAutomaton⟩
def sc_laws_markAutomaton : SCode :=
 (.seq
 (.reg false [
 ⟨(some 2), .box 5 (.t 0), none⟩,
 ⟨(some 4), .mv (.k (.one (.v (.int .i64) ((0 : Int))))), none⟩])
 (.seq
 (.reg false [
 ⟨(some 5), .fieldA 2 (.t 2), none⟩,
 ⟨(some 6), .load false 1 (.t 5), none⟩,
 ⟨(some 7), .mv (.t 1), none⟩,
 ⟨(some 8), .callm .live 40 [(.t 6), (.t 7)], none⟩,
 ⟨(some 1), .mv (.t 8), none⟩])
 (.seq
 (.reg false [
 ⟨(some 9), .fieldA 3 (.t 2), none⟩,
 ⟨(some 10), .load false 1 (.t 9), none⟩,
 ⟨(some 11), .mv (.t 1), none⟩,
 ⟨(some 12), .callm .live 79 [(.t 10), (.t 11)], none⟩,
 ⟨(some 1), .mv (.t 12), none⟩])
 (.seq
 (.reg false [
 ⟨(some 13), .fieldA 4 (.t 2), none⟩,
 ⟨(some 14), .load false 1 (.t 13), none⟩,
 ⟨(some 15), .mv (.t 1), none⟩,
 ⟨(some 16), .callm .live 40 [(.t 14), (.t 15)], none⟩,
 ⟨(some 1), .mv (.t 16), none⟩])
 (.seq
 (.reg false [
 ⟨(some 17), .mv (.t 1), none⟩,
 ⟨(some 4), .mv (.t 17), none⟩])
 .ret)))))
def ms_laws_markAutomaton : List MRes := [.tmp 4]
theorem n_laws_markAutomaton (NN : Nat) (x : DLL (Sig.tys ag_laws_markAutomaton)) : runMS NN [fn_laws_markIntS, fn_laws_markMatrixS] sc_laws_markAutomaton ms_laws_markAutomaton ag_laws_markAutomaton mu_laws_markAutomaton rs_laws_markAutomaton x = G_laws_markAutomaton NN x := by kernel_rfl
theorem k_laws_markAutomaton : chkS Go.Proofs.Try.prog 32 sc_laws_markAutomaton.er ms_laws_markAutomaton 2 = true := by decide +kernel
theorem p_laws_markAutomaton : MutSpec Go.Proofs.Try.prog 32 mu_laws_markAutomaton fn_laws_markAutomaton.MM ∧ chkFun Go.Proofs.Try.prog 32 = true :=
  mut_of_runMS (T := [fn_laws_markIntS, fn_laws_markMatrixS]) (sc := sc_laws_markAutomaton) (ms := ms_laws_markAutomaton) (args := ag_laws_markAutomaton) (mu := mu_laws_markAutomaton) (res := rs_laws_markAutomaton) (SOk.consM p_laws_markIntS <| SOk.consM p_laws_markMatrixS <| SOk.nil) follows_ok k_laws_markAutomaton F_laws_markAutomaton fun x y h => (n_laws_markAutomaton FUEL x).trans (f_laws_markAutomaton x y h)

def fn_laws_heldIntS : SFn := ⟨41, ag_laws_heldIntS, mu_laws_heldIntS, rs_laws_heldIntS, F_laws_heldIntS⟩
def sc_laws_heldIntS : SCode :=
 (.seq
 (.reg false [
 ⟨(some 4), .mv (.k (.one (.v (.int .i64) ((0 : Int))))), none⟩])
 (.seq
 (.seq
 (.reg false [
 ⟨(some 5), .mv (.k (.one (.v (.int .i64) ((0 : Int))))), none⟩])
 (.join ⟨[(1, .one (.c (.v (.int .i64))))], []⟩ [] []
 (.block 0
 (.loop 0 ⟨[(0, .one (.c (.v (.list [.int .i64])))), (1, .one (.c (.v (.int .i64)))), (5, .one (.c (.v (.int .i64))))], []⟩ [] []
 (.seq
 (.seq
 (.reg false [
 ⟨(some 6), .mv (.t 5), none⟩,
 ⟨(some 7), .mv (.t 0), none⟩,
 ⟨(some 8), .len (.t 7), none⟩,
 ⟨(some 9), .bin .lss (.t 6) (.t 8), none⟩])
 (.cond (.t 9)
 .skip
 (.exit 0)))
 (.seq
 (.block 1
 (.seq
 (.seq
 (.reg false [
 ⟨(some 12), .mv (.t 0), none⟩,
 ⟨(some 13), .mv (.t 5), none⟩,
 ⟨(some 14), .idxA 1 (.t 12) (.t 13), none⟩,
 ⟨(some 15), .load false 1 (.t 14), none⟩,
 ⟨(some 16), .mv (.t 1), none⟩,
 ⟨(some 17), .bin .neq (.t 15) (.t 16), none⟩])
 (.cond (.t 17)
 (.seq
 (.reg false [
 ⟨(some 4), .mv (.k (.one (.v (.int .i64) (((-1) : Int))))), none⟩])
 .ret)
 .skip))
 (.reg false [
 ⟨(some 18), .mv (.t 1), none⟩,
 ⟨(some 19), .bin .add (.t 18) (.k (.one (.v (.int .i64) ((1 : Int))))), none⟩,
 ⟨(some 1), .mv (.t 19), none⟩])))
 (.reg false [
 ⟨(some 10), .mv (.t 5), none⟩,
 ⟨(some 11), .bin .add (.t 10) (.k (.one (.v (.int .i64) ((1 : Int))))), none⟩,
 ⟨(some 5), .mv (.t 11), none⟩])))))))
 (.seq
 (.reg false [
 ⟨(some 20), .mv (.t 1), none⟩,
 ⟨(some 4), .mv (.t 20), none⟩])
 .ret)))
def ms_laws_heldIntS : List MRes := [.tmp 4]
theorem n_laws_heldIntS (NN : Nat) (x : DLL (Sig.tys ag_laws_heldIntS)) : runS NN [] sc_laws_heldIntS ms_laws_heldIntS ag_laws_heldIntS rs_laws_heldIntS x = G_laws_heldIntS NN x := by kernel_rfl
theorem k_laws_heldIntS : chkS Go.Proofs.Try.prog 41 sc_laws_heldIntS.er ms_laws_heldIntS 2 = true := by decide +kernel
theorem p_laws_heldIntS : PureSpec Go.Proofs.Try.prog 41 fn_laws_heldIntS.M ∧ chkFun Go.Proofs.Try.prog 41 = true :=
  pure_of_runS (T := []) (sc := sc_laws_heldIntS) (ms := ms_laws_heldIntS) (args := ag_laws_heldIntS) (res := rs_laws_heldIntS) (SOk.nil) follows_ok k_laws_heldIntS F_laws_heldIntS fun x y h => (n_laws_heldIntS FUEL x).trans (f_laws_heldIntS x y h)

def fn_laws_heldMatrixS : SFn := ⟨80, ag_laws_heldMatrixS, mu_laws_heldMatrixS, rs_laws_heldMatrixS, F_laws_heldMatrixS⟩
def sc_laws_heldMatrixS : SCode :=
 (.seq
 (.reg false [
 ⟨(some 4), .mv (.k (.one (.v (.int .i64) ((0 : Int))))), none⟩])
 (.seq
 (.seq
 (.reg false [
 ⟨(some 5), .mv (.k (.one (.v (.int .i64) ((0 : Int))))), none⟩])
 (.join ⟨[(1, .one (.c (.v (.int .i64))))], []⟩ [] []
 (.block 0
 (.loop 0 ⟨[(0, .one (.c (.v (.list [.int .i64, .int .i64, .list [.int .i64]])))), (1, .one (.c (.v (.int .i64)))), (5, .one (.c (.v (.int .i64))))], []⟩ [] []
 (.seq
 (.seq
 (.reg false [
 ⟨(some 6), .mv (.t 5), none⟩,
 ⟨(some 7), .mv (.t 0), none⟩,
 ⟨(some 8), .len (.t 7), none⟩,
 ⟨(some 9), .bin .lss (.t 6) (.t 8), none⟩])
 (.cond (.t 9)
 .skip
 (.exit 0)))
 (.seq
 (.block 1
 (.seq
 (.seq
 (.reg false [
 ⟨(some 12), .mv (.t 0), none⟩,
 ⟨(some 13), .mv (.t 5), none⟩,
 ⟨(some 14), .idxA 3 (.t 12) (.t 13), none⟩,
 ⟨(some 15), .fieldA 0 (.t 14), none⟩,
 ⟨(some 16), .load false 1 (.t 15), none⟩,
 ⟨(some 17), .mv (.t 1), none⟩,
 ⟨(some 18), .bin .neq (.t 16) (.t 17), none⟩])
 (.cond (.t 18)
 (.seq
 (.reg false [
 ⟨(some 4), .mv (.k (.one (.v (.int .i64) (((-1) : Int))))), none⟩])
 .ret)
 .skip))
 (.seq
 (.reg false [
 ⟨(some 19), .mv (.t 1), none⟩,
 ⟨(some 20), .bin .add (.t 19) (.k (.one (.v (.int .i64) ((1 : Int))))), none⟩,
 ⟨(some 1), .mv (.t 20), none⟩])
 (.seq
 (.seq
 (.reg false [
 ⟨(some 21), .mv (.t 0), none⟩,
 ⟨(some 22), .mv (.t 5), none⟩,
 ⟨(some 23), .idxA 3 (.t 21) (.t 22), none⟩,
 ⟨(some 24), .fieldA 1 (.t 23), none⟩,
 ⟨(some 25), .load false 1 (.t 24), none⟩,
 ⟨(some 26), .mv (.t 1), none⟩,
 ⟨(some 27), .bin .neq (.t 25) (.t 26), none⟩])
 (.cond (.t 27)
 (.seq
 (.reg false [
 ⟨(some 4), .mv (.k (.one (.v (.int .i64) (((-1) : Int))))), none⟩])
 .ret)
 .skip))
 (.seq
 (.reg false [
 ⟨(some 28), .mv (.t 1), none⟩,
 ⟨(some 29), .bin .add (.t 28) (.k (.one (.v (.int .i64) ((1 : Int))))), none⟩,
 ⟨(some 1), .mv (.t 29), none⟩])
 (.seq
 (.reg false [
 ⟨(some 30), .mv (.t 0), none⟩,
 ⟨(some 31), .mv (.t 5), none⟩,
 ⟨(some 32), .idxA 3 (.t 30) (.t 31), none⟩,
 ⟨(some 33), .fieldA 2 (.t 32), none⟩,
 ⟨(some 34), .load false 1 (.t 33), none⟩,
 ⟨(some 35), .mv (.t 1), none⟩,
 ⟨(some 36), .call .froz 41 [(.t 34), (.t 35)], none⟩,
 ⟨(some 1), .mv (.t 36), none⟩])
 (.seq
 (.reg false [
 ⟨(some 37), .mv (.t 1), none⟩,
 ⟨(some 38), .bin .lss (.t 37) (.k (.one (.v (.int .i64) ((0 : Int))))), none⟩])
 (.cond (.t 38)
 (.seq
 (.reg false [
 ⟨(some 4), .mv (.k (.one (.v (.int .i64) (((-1) : Int))))), none⟩])
 .ret)
 .skip))))))))
 (.reg false [
 ⟨(some 10), .mv (.t 5), none⟩,
 ⟨(some 11), .bin .add (.t 10) (.k (.one (.v (.int .i64) ((1 : Int))))), none⟩,
 ⟨(some 5), .mv (.t 11), none⟩])))))))
 (.seq
 (.reg false [
 ⟨(some 39), .mv (.t 1), none⟩,
 ⟨(some 4), .mv (.t 39), none⟩])
 .ret)))
def ms_laws_heldMatrixS : List MRes := [.tmp 4]
theorem n_laws_heldMatrixS (NN : Nat) (x : DLL (Sig.tys ag_laws_heldMatrixS)) : runS NN [fn_laws_heldIntS] sc_laws_heldMatrixS ms_laws_heldMatrixS ag_laws_heldMatrixS rs_laws_heldMatrixS x = G_laws_heldMatrixS NN x := by kernel_rfl
theorem k_laws_heldMatrixS : chkS Go.Proofs.Try.prog 80 sc_laws_heldMatrixS.er ms_laws_heldMatrixS 2 = true := by decide +kernel
theorem p_laws_heldMatrixS : PureSpec Go.Proofs.Try.prog 80 fn_laws_heldMatrixS.M ∧ chkFun Go.Proofs.Try.prog 80 = true :=
  pure_of_runS (T := [fn_laws_heldIntS]) (sc := sc_laws_heldMatrixS) (ms := ms_laws_heldMatrixS) (args := ag_laws_heldMatrixS) (res := rs_laws_heldMatrixS) (SOk.cons p_laws_heldIntS <| SOk.nil) follows_ok k_laws_heldMatrixS F_laws_heldMatrixS fun x y h => (n_laws_heldMatrixS FUEL x).trans (f_laws_heldMatrixS x y h)

def fn_laws_heldAutomaton : SFn := ⟨33, ag_laws_heldAutomaton, mu_laws_heldAutomaton, rs_laws_heldAutomaton, F_laws_heldAutomaton⟩
def sc_laws_heldAutomaton : SCode :=
 (.seq
 (.reg false [
 ⟨(some 2), .box 5 (.t 0), none⟩,
 ⟨(some 4), .mv (.k (.one (.v (.int .i64) ((0 : Int))))), none⟩])
 (.seq
 (.reg false [
 ⟨(some 5), .fieldA 2 (.t 2), none⟩,
 ⟨(some 6), .load false 1 (.t 5), none⟩,
 ⟨(some 7), .mv (.t 1), none⟩,
 ⟨(some 8), .call .froz 41 [(.t 6), (.t 7)], none⟩,
 ⟨(some 1), .mv (.t 8), none⟩])
 (.seq
 (.seq
 (.reg false [
 ⟨(some 9), .mv (.t 1), none⟩,
 ⟨(some 10), .bin .lss (.t 9) (.k (.one (.v (.int .i64) ((0 : Int))))), none⟩])
 (.cond (.t 10)
 (.seq
 (.reg false [
 ⟨(some 4), .mv (.k (.one (.v (.int .i64) (((-1) : Int))))), none⟩])
 .ret)
 .skip))
 (.seq
 (.reg false [
 ⟨(some 11), .fieldA 3 (.t 2), none⟩,
 ⟨(some 12), .load false 1 (.t 11), none⟩,
 ⟨(some 13), .mv (.t 1), none⟩,
 ⟨(some 14), .call .froz 80 [(.t 12), (.t 13)], none⟩,
 ⟨(some 1), .mv (.t 14), none⟩])
 (.seq
 (.seq
 (.reg false [
 ⟨(some 15), .mv (.t 1), none⟩,
 ⟨(some 16), .bin .lss (.t 15) (.k (.one (.v (.int .i64) ((0 : Int))))), none⟩])
 (.cond (.t 16)
 (.seq
 (.reg false [
 ⟨(some 4), .mv (.k (.one (.v (.int .i64) (((-1) : Int))))), none⟩])
 .ret)
 .skip))
 (.seq
 (.reg false [
 ⟨(some 17), .fieldA 4 (.t 2), none⟩,
 ⟨(some 18), .load false 1 (.t 17), none⟩,
 ⟨(some 19), .mv (.t 1), none⟩,
 ⟨(some 20), .call .froz 41 [(.t 18), (.t 19)], none⟩,
 ⟨(some 1), .mv (.t 20), none⟩])
 (.seq
 (.seq
 (.reg false [
 ⟨(some 21), .mv (.t 1), none⟩,
 ⟨(some 22), .bin .lss (.t 21) (.k (.one (.v (.int .i64) ((0 : Int))))), none⟩])
 (.cond (.t 22)
 (.seq
 (.reg false [
 ⟨(some 4), .mv (.k (.one (.v (.int .i64) (((-1) : Int))))), none⟩])
 .ret)
 .skip))
 (.seq
 (.reg false [
 ⟨(some 23), .mv (.t 1), none⟩,
 ⟨(some 4), .mv (.t 23), none⟩])
 .ret))))))))
def ms_laws_heldAutomaton : List MRes := [.tmp 4]
theorem n_laws_heldAutomaton (NN : Nat) (x : DLL (Sig.tys ag_laws_heldAutomaton)) : runS NN [fn_laws_heldIntS, fn_laws_heldMatrixS] sc_laws_heldAutomaton ms_laws_heldAutomaton ag_laws_heldAutomaton rs_laws_heldAutomaton x = G_laws_heldAutomaton NN x := by kernel_rfl
theorem k_laws_heldAutomaton : chkS Go.Proofs.Try.prog 33 sc_laws_heldAutomaton.er ms_laws_heldAutomaton 2 = true := by decide +kernel
theorem p_laws_heldAutomaton : PureSpec Go.Proofs.Try.prog 33 fn_laws_heldAutomaton.M ∧ chkFun Go.Proofs.Try.prog 33 = true :=
  pure_of_runS (T := [fn_laws_heldIntS, fn_laws_heldMatrixS]) (sc := sc_laws_heldAutomaton) (ms := ms_laws_heldAutomaton) (args := ag_laws_heldAutomaton) (res := rs_laws_heldAutomaton) (SOk.cons p_laws_heldIntS <| SOk.cons p_laws_heldMatrixS <| SOk.nil) follows_ok k_laws_heldAutomaton F_laws_heldAutomaton fun x y h => (n_laws_heldAutomaton FUEL x).trans (f_laws_heldAutomaton x y h)

def fn_laws_FnExactAddAutomata : SFn := ⟨8, ag_laws_FnExactAddAutomata, mu_laws_FnExactAddAutomata, rs_laws_FnExactAddAutomata, F_laws_FnExactAddAutomata⟩
def sc_laws_FnExactAddAutomata : SCode :=
 (.seq
 (.reg false [
 ⟨(some 2), .box 5 (.t 0), none⟩,
 ⟨(some 3), .box 5 (.t 1), none⟩,
 ⟨(some 4), .mv (.k (.one (.v (.bool) (false)))), none⟩])
 (.seq
 (.reg false [
 ⟨(some 5), .mv (.k (.one (.v (.int .i64) ((1048576 : Int))))), none⟩])
 (.seq
 (.reg false [
 ⟨(some 17), .load true 5 (.t 2), none⟩,
 ⟨(some 18), .mv (.t 5), none⟩,
 ⟨(some 19), .call .live 15 [(.t 17), (.t 18)], none⟩,
 ⟨(some 5), .mv (.t 19), none⟩])
 (.seq
 (.seq
 (.reg false [
 ⟨(some 20), .mv (.t 5), none⟩,
 ⟨(some 21), .bin .lss (.t 20) (.k (.one (.v (.int .i64) ((0 : Int))))), none⟩])
 (.cond (.t 21)
 (.seq
 (.reg false [
 ⟨(some 4), .mv (.k (.one (.v (.bool) (true)))), none⟩])
 .ret)
 .skip))
 (.seq
 (.reg false [
 ⟨(some 22), .load true 5 (.t 3), none⟩,
 ⟨(some 23), .mv (.t 5), none⟩,
 ⟨(some 24), .call .live 15 [(.t 22), (.t 23)], none⟩,
 ⟨(some 5), .mv (.t 24), none⟩])
 (.seq
 (.seq
 (.reg false [
 ⟨(some 25), .mv (.t 5), none⟩,
 ⟨(some 26), .bin .lss (.t 25) (.k (.one (.v (.int .i64) ((0 : Int))))), none⟩])
 (.cond (.t 26)
 (.seq
 (.reg false [
 ⟨(some 4), .mv (.k (.one (.v (.bool) (true)))), none⟩])
 .ret)
 .skip))
 (.seq
 (.reg true [
 ⟨(some 28), .load true 5 (.t 2), none⟩,
 ⟨(some 29), .call .live 17 [(.t 28)], none⟩,
 ⟨(some 30), .load true 5 (.t 3), none⟩,
 ⟨(some 31), .call .live 17 [(.t 30)], none⟩,
 ⟨(some 32), .call .live 34 [(.t 29), (.t 31)], none⟩,
 ⟨(some 27), .mv (.t 32), none⟩,
 ⟨(some 33), .ext 0 (.t 27), none⟩,
 ⟨(some 34), .ext 1 (.t 27), none⟩,
 ⟨(some 6), .alloc [.v (.int .i64) ((0 : Int)), .v (.int .i64) ((0 : Int)), .nil [.int .i64], .nil [.int .i64, .int .i64, .list [.int .i64]], .nil [.int .i64]], none⟩,
 ⟨none, .store 5 (.t 6) (.t 33), none⟩,
 ⟨(some 7), .mv (.t 34), none⟩])
 (.seq
 (.reg false [
 ⟨(some 35), .load true 5 (.t 2), none⟩,
 ⟨(some 36), .call .live 17 [(.t 35)], none⟩,
 ⟨(some 8), .alloc [.v (.int .i64) ((0 : Int)), .v (.int .i64) ((0 : Int)), .nil [.int .i64], .nil [.int .i64, .int .i64, .list [.int .i64]], .nil [.int .i64]], none⟩,
 ⟨none, .store 5 (.t 8) (.t 36), none⟩])
 (.seq
 (.reg false [
 ⟨(some 37), .load true 5 (.t 3), none⟩,
 ⟨(some 38), .call .live 17 [(.t 37)], none⟩,
 ⟨(some 9), .alloc [.v (.int .i64) ((0 : Int)), .v (.int .i64) ((0 : Int)), .nil [.int .i64], .nil [.int .i64, .int .i64, .list [.int .i64]], .nil [.int .i64]], none⟩,
 ⟨none, .store 5 (.t 9) (.t 38), none⟩])
 (.seq
 (.reg false [
 ⟨(some 40), .load true 5 (.t 8), none⟩,
 ⟨(some 41), .load true 5 (.t 9), none⟩,
 ⟨(some 42), .call .live 22 [(.t 40), (.t 41)], none⟩,
 ⟨(some 39), .mv (.t 42), none⟩,
 ⟨(some 43), .ext 0 (.t 39), none⟩,
 ⟨(some 44), .ext 1 (.t 39), none⟩,
 ⟨(some 10), .alloc [.v (.int .i64) ((0 : Int)), .v (.int .i64) ((0 : Int)), .nil [.int .i64], .nil [.int .i64, .int .i64, .list [.int .i64]], .nil [.int .i64]], none⟩,
 ⟨none, .store 5 (.t 10) (.t 43), none⟩,
 ⟨(some 11), .mv (.t 44), none⟩])
 (.seq
 (.seq
 (.reg false [
 ⟨(some 45), .load true 5 (.t 10), none⟩,
 ⟨(some 46), .load true 5 (.t 6), none⟩,
 ⟨(some 47), .call .live 19 [(.t 45), (.t 46)], none⟩,
 ⟨(some 48), .un .not (.t 47), none⟩,
 ⟨(some 49), .mv (.t 48), none⟩,
 ⟨(some 50), .mv (.t 11), (some (49, false))⟩,
 ⟨(some 51), .mv (.t 7), (some (49, false))⟩,
 ⟨(some 52), .binb .neq (.t 50) (.t 51), (some (49, false))⟩,
 ⟨(some 53), .pick (.t 49) (.k (.one (.v (.bool) (true)))) (.t 52), none⟩])
 (.cond (.t 53)
 (.seq
 (.reg false [
 ⟨(some 4), .mv (.k (.one (.v (.bool) (false)))), none⟩])
 .ret)
 .skip))
 (.seq
 (.seq
 (.reg true [
 ⟨(some 54), .load true 5 (.t 8), none⟩,
 ⟨(some 55), .load true 5 (.t 2), none⟩,
 ⟨(some 56), .call .live 17 [(.t 55)], none⟩,
 ⟨(some 57), .call .live 19 [(.t 54), (.t 56)], none⟩,
 ⟨(some 58), .un .not (.t 57), none⟩])
 (.cond (.t 58)
 (.seq
 (.reg false [
 ⟨(some 4), .mv (.k (.one (.v (.bool) (false)))), none⟩])
 .ret)
 .skip))
 (.seq
 (.seq
 (.reg true [
 ⟨(some 59), .load true 5 (.t 9), none⟩,
 ⟨(some 60), .load true 5 (.t 3), none⟩,
 ⟨(some 61), .call .live 17 [(.t 60)], none⟩,
 ⟨(some 62), .call .live 19 [(.t 59), (.t 61)], none⟩,
 ⟨(some 63), .un .not (.t 62), none⟩])
 (.cond (.t 63)
 (.seq
 (.reg false [
 ⟨(some 4), .mv (.k (.one (.v (.bool) (false)))), none⟩])
 .ret)
 .skip))
 (.seq
 (.reg false [
 ⟨(some 12), .mv (.k (.one (.v (.int .i64) ((1 : Int))))), none⟩])
 (.seq
 (.reg false [
 ⟨(some 64), .load true 5 (.t 8), none⟩,
 ⟨(some 65), .mv (.t 12), none⟩,
 ⟨(some 66), .callm .live 32 [(.t 64), (.t 65)], none⟩,
 ⟨(some 12), .mv (.t 66), none⟩])
 (.seq
 (.reg false [
 ⟨(some 67), .load true 5 (.t 9), none⟩,
 ⟨(some 68), .mv (.t 12), none⟩,
 ⟨(some 69), .callm .live 32 [(.t 67), (.t 68)], none⟩,
 ⟨(some 12), .mv (.t 69), none⟩])
 (.seq
 (.seq
 (.reg false [
 ⟨(some 70), .mv (.t 12), none⟩,
 ⟨(some 71), .bin .lss (.t 70) (.k (.one (.v (.int .i64) ((0 : Int))))), none⟩,
 ⟨(some 72), .mv (.t 71), none⟩,
 ⟨(some 73), .load true 5 (.t 10), (some (72, false))⟩,
 ⟨(some 74), .load true 5 (.t 6), (some (72, false))⟩,
 ⟨(some 75), .call .live 19 [(.t 73), (.t 74)], (some (72, false))⟩,
 ⟨(some 76), .un .not (.t 75), (some (72, false))⟩,
 ⟨(some 77), .pick (.t 72) (.k (.one (.v (.bool) (true)))) (.t 76), none⟩,
 ⟨(some 78), .mv (.t 77), none⟩,
 ⟨(some 79), .mv (.t 11), (some (78, false))⟩,
 ⟨(some 80), .mv (.t 7), (some (78, false))⟩,
 ⟨(some 81), .binb .neq (.t 79) (.t 80), (some (78, false))⟩,
 ⟨(some 82), .pick (.t 78) (.k (.one (.v (.bool) (true)))) (.t 81), none⟩])
 (.cond (.t 82)
 (.seq
 (.reg false [
 ⟨(some 4), .mv (.k (.one (.v (.bool) (false)))), none⟩])
 .ret)
 .skip))
 (.seq
 (.reg false [
 ⟨(some 13), .mv (.k (.one (.v (.int .i64) ((1 : Int))))), none⟩])
 (.seq
 (.reg false [
 ⟨(some 83), .load true 5 (.t 10), none⟩,
 ⟨(some 84), .mv (.t 13), none⟩,
 ⟨(some 85), .callm .live 32 [(.t 83), (.t 84)], none⟩,
 ⟨(some 13), .mv (.t 85), none⟩])
 (.seq
 (.reg false [
 ⟨(some 14), .mv (.k (.one (.v (.int .i64) ((1 : Int))))), none⟩])
 (.seq
 (.reg false [
 ⟨(some 86), .load true 5 (.t 10), none⟩,
 ⟨(some 87), .mv (.t 14), none⟩,
 ⟨(some 88), .call .live 33 [(.t 86), (.t 87)], none⟩,
 ⟨(some 14), .mv (.t 88), none⟩])
 (.seq
 (.seq
 (.reg false [
 ⟨(some 89), .mv (.t 14), none⟩,
 ⟨(some 90), .bin .lss (.t 89) (.k (.one (.v (.int .i64) ((0 : Int))))), none⟩])
 (.cond (.t 90)
 (.seq
 (.reg false [
 ⟨(some 4), .mv (.k (.one (.v (.bool) (false)))), none⟩])
 .ret)
 .skip))
 (.seq
 (.seq
 (.reg false [
 ⟨(some 91), .mv (.t 14), none⟩,
 ⟨(some 92), .mv (.t 13), none⟩,
 ⟨(some 93), .bin .neq (.t 91) (.t 92), none⟩])
 (.cond (.t 93)
 (.seq
 (.reg false [
 ⟨(some 4), .mv (.k (.one (.v (.bool) (false)))), none⟩])
 .ret)
 .skip))
 (.seq
 (.reg true [
 ⟨(some 95), .load true 5 (.t 2), none⟩,
 ⟨(some 96), .call .live 17 [(.t 95)], none⟩,
 ⟨(some 97), .load true 5 (.t 3), none⟩,
 ⟨(some 98), .call .live 17 [(.t 97)], none⟩,
 ⟨(some 99), .call .live 22 [(.t 96), (.t 98)], none⟩,
 ⟨(some 94), .mv (.t 99), none⟩,
 ⟨(some 100), .ext 0 (.t 94), none⟩,
 ⟨(some 101), .ext 1 (.t 94), none⟩,
 ⟨(some 15), .alloc [.v (.int .i64) ((0 : Int)), .v (.int .i64) ((0 : Int)), .nil [.int .i64], .nil [.int .i64, .int .i64, .list [.int .i64]], .nil [.int .i64]], none⟩,
 ⟨none, .store 5 (.t 15) (.t 100), none⟩,
 ⟨(some 16), .mv (.t 101), none⟩])
 (.seq
 (.seq
 (.reg false [
 ⟨(some 102), .load true 5 (.t 15), none⟩,
 ⟨(some 103), .load true 5 (.t 6), none⟩,
 ⟨(some 104), .call .live 19 [(.t 102), (.t 103)], none⟩,
 ⟨(some 105), .un .not (.t 104), none⟩,
 ⟨(some 106), .mv (.t 105), none⟩,
 ⟨(some 107), .mv (.t 16), (some (106, false))⟩,
 ⟨(some 108), .mv (.t 7), (some (106, false))⟩,
 ⟨(some 109), .binb .neq (.t 107) (.t 108), (some (106, false))⟩,
 ⟨(some 110), .pick (.t 106) (.k (.one (.v (.bool) (true)))) (.t 109), none⟩])
 (.cond (.t 110)
 (.seq
 (.reg false [
 ⟨(some 4), .mv (.k (.one (.v (.bool) (false)))), none⟩])
 .ret)
 .skip))
 (.seq
 (.reg false [
 ⟨(some 14), .mv (.k (.one (.v (.int .i64) ((1 : Int))))), none⟩])
 (.seq
 (.reg false [
 ⟨(some 111), .load true 5 (.t 10), none⟩,
 ⟨(some 112), .mv (.t 14), none⟩,
 ⟨(some 113), .call .live 33 [(.t 111), (.t 112)], none⟩,
 ⟨(some 14), .mv (.t 113), none⟩])
 (.seq
 (.seq
 (.reg false [
 ⟨(some 114), .mv (.t 14), none⟩,
 ⟨(some 115), .bin .lss (.t 114) (.k (.one (.v (.int .i64) ((0 : Int))))), none⟩])
 (.cond (.t 115)
 (.seq
 (.reg false [
 ⟨(some 4), .mv (.k (.one (.v (.bool) (false)))), none⟩])
 .ret)
 .skip))
 (.seq
 (.seq
 (.reg false [
 ⟨(some 116), .mv (.t 14), none⟩,
 ⟨(some 117), .mv (.t 13), none⟩,
 ⟨(some 118), .bin .neq (.t 116) (.t 117), none⟩])
 (.cond (.t 118)
 (.seq
 (.reg false [
 ⟨(some 4), .mv (.k (.one (.v (.bool) (false)))), none⟩])
 .ret)
 .skip))
 (.seq
 (.reg false [
 ⟨(some 4), .mv (.k (.one (.v (.bool) (true)))), none⟩])
 .ret))))))))))))))))))))))))))))))
def ms_laws_FnExactAddAutomata : List MRes := [.tmp 4]
theorem n_laws_FnExactAddAutomata (NN : Nat) (x : DLL (Sig.tys ag_laws_FnExactAddAutomata)) : runS NN [fn_laws_szAutomaton, fn_laws_toAutomaton, fn_spec_AddAutomata, fn_impl_AddAutomata, fn_laws_eqAutomaton, fn_laws_markAutomaton, fn_laws_heldAutomaton] sc_laws_FnExactAddAutomata ms_laws_FnExactAddAutomata ag_laws_FnExactAddAutomata rs_laws_FnExactAddAutomata x = G_laws_FnExactAddAutomata NN x := by kernel_rfl
theorem k_laws_FnExactAddAutomata : chkS Go.Proofs.Try.prog 8 sc_laws_FnExactAddAutomata.er ms_laws_FnExactAddAutomata 2 = true := by decide +kernel
theorem p_laws_FnExactAddAutomata : PureSpec Go.Proofs.Try.prog 8 fn_laws_FnExactAddAutomata.M ∧ chkFun Go.Proofs.Try.prog 8 = true :=
  pure_of_runS (T := [fn_laws_szAutomaton, fn_laws_toAutomaton, fn_spec_AddAutomata, fn_impl_AddAutomata, fn_laws_eqAutomaton, fn_laws_markAutomaton, fn_laws_heldAutomaton]) (sc := sc_laws_FnExactAddAutomata) (ms := ms_laws_FnExactAddAutomata) (args := ag_laws_FnExactAddAutomata) (res := rs_laws_FnExactAddAutomata) (SOk.cons p_laws_szAutomaton <| SOk.cons p_laws_toAutomaton <| SOk.cons p_spec_AddAutomata <| SOk.cons p_impl_AddAutomata <| SOk.cons p_laws_eqAutomaton <| SOk.consM p_laws_markAutomaton <| SOk.cons p_laws_heldAutomaton <| SOk.nil) follows_ok k_laws_FnExactAddAutomata F_laws_FnExactAddAutomata fun x y h => (n_laws_FnExactAddAutomata FUEL x).trans (f_laws_FnExactAddAutomata x y h)

end Go.Am
