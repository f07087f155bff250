/- A_Pfaffian: the code of the functions of FnExactPfaffian. No condition. -/
import Derived.Test.YtfhgjmihpplnjaaLPfaffian
import Derived.Test.YtfhgjmihpplnjaaBr2
import Derived.KernelRfl
import Derived.Test.YtfhgjmihpplnjaaRows
set_option linter.unusedVariables false
set_option maxRecDepth 100000
namespace Go.Am
theorem follows_ok : Go.Proofs.Try.prog.follows .mixedOrders = true := by decide +kernel
def fn_laws_szIntS : SFn := ⟨47, ag_laws_szIntS, mu_laws_szIntS, rs_laws_szIntS, F_laws_szIntS⟩
def sc_laws_szIntS : SCode :=
 (.seq
 (.reg false [
 ⟨(some 4), .mv (.k (.one (.v (.int .i64) ((0 : Int))))), none⟩])
 (.seq
 (.reg false [
 ⟨(some 5), .mv (.t 1), none⟩,
 ⟨(some 6), .mv (.t 0), none⟩,
 ⟨(some 7), .len (.t 6), none⟩,
 ⟨(some 8), .bin .sub (.t 5) (.t 7), none⟩,
 ⟨(some 1), .mv (.t 8), none⟩])
 (.seq
 (.seq
 (.reg false [
 ⟨(some 9), .mv (.t 1), none⟩,
 ⟨(some 10), .bin .lss (.t 9) (.k (.one (.v (.int .i64) ((0 : Int))))), none⟩])
 (.cond (.t 10)
 (.seq
 (.reg false [
 ⟨(some 4), .mv (.k (.one (.v (.int .i64) (((-1) : Int))))), none⟩])
 .ret)
 .skip))
 (.seq
 (.reg false [
 ⟨(some 11), .mv (.t 1), none⟩,
 ⟨(some 4), .mv (.t 11), none⟩])
 .ret))))
def ms_laws_szIntS : List MRes := [.tmp 4]
theorem n_laws_szIntS (NN : Nat) (x : DLL (Sig.tys ag_laws_szIntS)) : runS NN [] sc_laws_szIntS ms_laws_szIntS ag_laws_szIntS rs_laws_szIntS x = G_laws_szIntS NN x := by kernel_rfl
theorem k_laws_szIntS : chkS Go.Proofs.Try.prog 47 sc_laws_szIntS.er ms_laws_szIntS 2 = true := by decide +kernel
theorem p_laws_szIntS : PureSpec Go.Proofs.Try.prog 47 fn_laws_szIntS.M ∧ chkFun Go.Proofs.Try.prog 47 = true :=
  pure_of_runS (T := []) (sc := sc_laws_szIntS) (ms := ms_laws_szIntS) (args := ag_laws_szIntS) (res := rs_laws_szIntS) (SOk.nil) follows_ok k_laws_szIntS F_laws_szIntS fun x y h => (n_laws_szIntS FUEL x).trans (f_laws_szIntS x y h)

def fn_laws_szMatrix : SFn := ⟨15, ag_laws_szMatrix, mu_laws_szMatrix, rs_laws_szMatrix, F_laws_szMatrix⟩
def sc_laws_szMatrix : SCode :=
 (.seq
 (.reg false [
 ⟨(some 2), .box 3 (.t 0), none⟩,
 ⟨(some 4), .mv (.k (.one (.v (.int .i64) ((0 : Int))))), none⟩])
 (.seq
 (.reg false [
 ⟨(some 5), .fieldA 2 (.t 2), none⟩,
 ⟨(some 6), .load false 1 (.t 5), none⟩,
 ⟨(some 7), .mv (.t 1), none⟩,
 ⟨(some 8), .call .froz 47 [(.t 6), (.t 7)], none⟩,
 ⟨(some 1), .mv (.t 8), none⟩])
 (.seq
 (.seq
 (.reg false [
 ⟨(some 9), .mv (.t 1), none⟩,
 ⟨(some 10), .bin .lss (.t 9) (.k (.one (.v (.int .i64) ((0 : Int))))), none⟩])
 (.cond (.t 10)
 (.seq
 (.reg false [
 ⟨(some 4), .mv (.k (.one (.v (.int .i64) (((-1) : Int))))), none⟩])
 .ret)
 .skip))
 (.seq
 (.reg false [
 ⟨(some 11), .mv (.t 1), none⟩,
 ⟨(some 4), .mv (.t 11), none⟩])
 .ret))))
def ms_laws_szMatrix : List MRes := [.tmp 4]
theorem n_laws_szMatrix (NN : Nat) (x : DLL (Sig.tys ag_laws_szMatrix)) : runS NN [fn_laws_szIntS] sc_laws_szMatrix ms_laws_szMatrix ag_laws_szMatrix rs_laws_szMatrix x = G_laws_szMatrix NN x := by kernel_rfl
theorem k_laws_szMatrix : chkS Go.Proofs.Try.prog 15 sc_laws_szMatrix.er ms_laws_szMatrix 2 = true := by decide +kernel
theorem p_laws_szMatrix : PureSpec Go.Proofs.Try.prog 15 fn_laws_szMatrix.M ∧ chkFun Go.Proofs.Try.prog 15 = true :=
  pure_of_runS (T := [fn_laws_szIntS]) (sc := sc_laws_szMatrix) (ms := ms_laws_szMatrix) (args := ag_laws_szMatrix) (res := rs_laws_szMatrix) (SOk.cons p_laws_szIntS <| SOk.nil) follows_ok k_laws_szMatrix F_laws_szMatrix fun x y h => (n_laws_szMatrix FUEL x).trans (f_laws_szMatrix x y h)

def fn_laws_toIntS : SFn := ⟨50, ag_laws_toIntS, mu_laws_toIntS, rs_laws_toIntS, F_laws_toIntS⟩
def sc_laws_toIntS : SCode :=
 (.seq
 (.reg false [
 ⟨(some 2), .mv (.k (.one (.nil [.int .i64]))), none⟩])
 (.seq
 (.reg false [
 ⟨(some 5), .mv (.t 0), none⟩,
 ⟨(some 6), .len (.t 5), none⟩,
 ⟨(some 7), .mkslice .froz [.int .i64] 8 (0 : Int) (.t 6) (.t 6), none⟩,
 ⟨(some 3), .mv (.t 7), none⟩])
 (.seq
 (.seq
 (.reg false [
 ⟨(some 4), .mv (.k (.one (.v (.int .i64) ((0 : Int))))), none⟩])
 (.join ⟨[(3, .one (.c (.full 500001 1)))], [(500001, .row true .froz [.int .i64])]⟩ [500000, 500001] [(false, 3, 0, 500001, .froz, [])]
 (.block 0
 (.loop 0 ⟨[(0, .one (.c (.v (.list [.int .i64])))), (3, .one (.c (.full 500000 1))), (4, .one (.c (.v (.int .i64))))], [(500000, .row true .froz [.int .i64])]⟩ [7, 500000] [(false, 3, 0, 500000, .froz, [])]
 (.seq
 (.seq
 (.reg false [
 ⟨(some 8), .mv (.t 4), none⟩,
 ⟨(some 9), .mv (.t 0), none⟩,
 ⟨(some 10), .len (.t 9), none⟩,
 ⟨(some 11), .bin .lss (.t 8) (.t 10), none⟩])
 (.cond (.t 11)
 .skip
 (.exit 0)))
 (.seq
 (.block 1
 (.reg false [
 ⟨(some 14), .mv (.t 3), none⟩,
 ⟨(some 15), .mv (.t 4), none⟩,
 ⟨(some 16), .mv (.t 0), none⟩,
 ⟨(some 17), .mv (.t 4), none⟩,
 ⟨(some 18), .idxA 1 (.t 16) (.t 17), none⟩,
 ⟨(some 19), .load false 1 (.t 18), none⟩,
 ⟨(some 20), .idxA 1 (.t 14) (.t 15), none⟩,
 ⟨none, .store 1 (.t 20) (.t 19), none⟩]))
 (.reg false [
 ⟨(some 12), .mv (.t 4), none⟩,
 ⟨(some 13), .bin .add (.t 12) (.k (.one (.v (.int .i64) ((1 : Int))))), none⟩,
 ⟨(some 4), .mv (.t 13), none⟩])))))))
 (.seq
 (.reg false [
 ⟨(some 21), .mv (.t 3), none⟩,
 ⟨(some 2), .mv (.t 21), none⟩])
 .ret))))
def ms_laws_toIntS : List MRes := [.tmp 2]
theorem n_laws_toIntS (NN : Nat) (x : DLL (Sig.tys ag_laws_toIntS)) : runS NN [] sc_laws_toIntS ms_laws_toIntS ag_laws_toIntS rs_laws_toIntS x = G_laws_toIntS NN x := by kernel_rfl
theorem k_laws_toIntS : chkS Go.Proofs.Try.prog 50 sc_laws_toIntS.er ms_laws_toIntS 1 = true := by decide +kernel
theorem p_laws_toIntS : PureSpec Go.Proofs.Try.prog 50 fn_laws_toIntS.M ∧ chkFun Go.Proofs.Try.prog 50 = true :=
  pure_of_runS (T := []) (sc := sc_laws_toIntS) (ms := ms_laws_toIntS) (args := ag_laws_toIntS) (res := rs_laws_toIntS) (SOk.nil) follows_ok k_laws_toIntS F_laws_toIntS fun x y h => (n_laws_toIntS FUEL x).trans (f_laws_toIntS x y h)

def fn_laws_toMatrix : SFn := ⟨17, ag_laws_toMatrix, mu_laws_toMatrix, rs_laws_toMatrix, F_laws_toMatrix⟩
def sc_laws_toMatrix : SCode :=
 (.seq
 (.reg false [
 ⟨(some 1), .box 3 (.t 0), none⟩,
 ⟨(some 2), .alloc [.v (.int .i64) ((0 : Int)), .v (.int .i64) ((0 : Int)), .nil [.int .i64]], none⟩])
 (.seq
 (.reg false [
 ⟨(some 3), .alloc [.v (.int .i64) ((0 : Int)), .v (.int .i64) ((0 : Int)), .nil [.int .i64]], none⟩])
 (.seq
 (.reg false [
 ⟨(some 4), .fieldA 0 (.t 1), none⟩,
 ⟨(some 5), .load false 1 (.t 4), none⟩,
 ⟨(some 6), .fieldA 0 (.t 3), none⟩,
 ⟨none, .store 1 (.t 6) (.t 5), none⟩])
 (.seq
 (.reg false [
 ⟨(some 7), .fieldA 1 (.t 1), none⟩,
 ⟨(some 8), .load false 1 (.t 7), none⟩,
 ⟨(some 9), .fieldA 1 (.t 3), none⟩,
 ⟨none, .store 1 (.t 9) (.t 8), none⟩])
 (.seq
 (.reg false [
 ⟨(some 10), .fieldA 2 (.t 1), none⟩,
 ⟨(some 11), .load false 1 (.t 10), none⟩,
 ⟨(some 12), .call .froz 50 [(.t 11)], none⟩,
 ⟨(some 13), .fieldA 2 (.t 3), none⟩,
 ⟨none, .store 1 (.t 13) (.t 12), none⟩])
 (.seq
 (.reg false [
 ⟨(some 14), .load true 3 (.t 3), none⟩,
 ⟨none, .store 3 (.t 2) (.t 14), none⟩])
 .ret))))))
def ms_laws_toMatrix : List MRes := [.cell 2 3 true]
theorem n_laws_toMatrix (NN : Nat) (x : DLL (Sig.tys ag_laws_toMatrix)) : runS NN [fn_laws_toIntS] sc_laws_toMatrix ms_laws_toMatrix ag_laws_toMatrix rs_laws_toMatrix x = G_laws_toMatrix NN x := by kernel_rfl
theorem k_laws_toMatrix : chkS Go.Proofs.Try.prog 17 sc_laws_toMatrix.er ms_laws_toMatrix 1 = true := by decide +kernel
theorem p_laws_toMatrix : PureSpec Go.Proofs.Try.prog 17 fn_laws_toMatrix.M ∧ chkFun Go.Proofs.Try.prog 17 = true :=
  pure_of_runS (T := [fn_laws_toIntS]) (sc := sc_laws_toMatrix) (ms := ms_laws_toMatrix) (args := ag_laws_toMatrix) (res := rs_laws_toMatrix) (SOk.cons p_laws_toIntS <| SOk.nil) follows_ok k_laws_toMatrix F_laws_toMatrix fun x y h => (n_laws_toMatrix FUEL x).trans (f_laws_toMatrix x y h)

def fn_spec_l01In : SFn := ⟨78, ag_spec_l01In, mu_spec_l01In, rs_spec_l01In, F_spec_l01In⟩
def sc_spec_l01In : SCode :=
 (.seq
 (.reg false [
 ⟨(some 6), .mv (.k (.one (.v (.bool) (false)))), none⟩])
 (.seq
 (.reg false [
 ⟨(some 7), .mv (.t 0), none⟩,
 ⟨(some 8), .mv (.t 1), none⟩,
 ⟨(some 9), .bin .geq (.t 7) (.t 8), none⟩,
 ⟨(some 10), .mv (.t 9), none⟩,
 ⟨(some 11), .mv (.t 0), (some (10, true))⟩,
 ⟨(some 12), .mv (.t 2), (some (10, true))⟩,
 ⟨(some 13), .bin .leq (.t 11) (.t 12), (some (10, true))⟩,
 ⟨(some 14), .pick (.t 10) (.t 13) (.k (.one (.v (.bool) (false)))), none⟩,
 ⟨(some 6), .mv (.t 14), none⟩])
 .ret))
def ms_spec_l01In : List MRes := [.tmp 6]
theorem n_spec_l01In (NN : Nat) (x : DLL (Sig.tys ag_spec_l01In)) : runS NN [] sc_spec_l01In ms_spec_l01In ag_spec_l01In rs_spec_l01In x = G_spec_l01In NN x := by kernel_rfl
theorem k_spec_l01In : chkS Go.Proofs.Try.prog 78 sc_spec_l01In.er ms_spec_l01In 3 = true := by decide +kernel
theorem p_spec_l01In : PureSpec Go.Proofs.Try.prog 78 fn_spec_l01In.M ∧ chkFun Go.Proofs.Try.prog 78 = true :=
  pure_of_runS (T := []) (sc := sc_spec_l01In) (ms := ms_spec_l01In) (args := ag_spec_l01In) (res := rs_spec_l01In) (SOk.nil) follows_ok k_spec_l01In F_spec_l01In fun x y h => (n_spec_l01In FUEL x).trans (f_spec_l01In x y h)

def fn_spec_IsPrime : SFn := ⟨77, ag_spec_IsPrime, mu_spec_IsPrime, rs_spec_IsPrime, F_spec_IsPrime⟩
def sc_spec_IsPrime : SCode :=
 (.seq
 (.reg false [
 ⟨(some 2), .mv (.k (.one (.v (.bool) (false)))), none⟩])
 (.seq
 (.seq
 (.reg false [
 ⟨(some 3), .mv (.k (.one (.v (.int .i64) ((2 : Int))))), none⟩])
 (.join ⟨[(0, .one (.c (.v (.int .i64))))], []⟩ [] []
 (.block 0
 (.loop 0 ⟨[(0, .one (.c (.v (.int .i64)))), (3, .one (.c (.v (.int .i64))))], []⟩ [] []
 (.seq
 (.seq
 (.reg false [
 ⟨(some 4), .mv (.t 3), none⟩,
 ⟨(some 5), .mv (.t 3), none⟩,
 ⟨(some 6), .bin .mul (.t 4) (.t 5), none⟩,
 ⟨(some 7), .mv (.t 0), none⟩,
 ⟨(some 8), .bin .leq (.t 6) (.t 7), none⟩,
 ⟨(some 9), .mv (.t 8), none⟩,
 ⟨(some 10), .mv (.t 0), (some (9, true))⟩,
 ⟨(some 11), .bin .leq (.t 10) (.k (.one (.v (.int .i64) ((1000003 : Int))))), (some (9, true))⟩,
 ⟨(some 12), .pick (.t 9) (.t 11) (.k (.one (.v (.bool) (false)))), none⟩])
 (.cond (.t 12)
 .skip
 (.exit 0)))
 (.seq
 (.block 1
 (.seq
 (.reg false [
 ⟨(some 15), .mv (.t 0), none⟩,
 ⟨(some 16), .mv (.t 3), none⟩,
 ⟨(some 17), .bin .rem (.t 15) (.t 16), none⟩,
 ⟨(some 18), .bin .eql (.t 17) (.k (.one (.v (.int .i64) ((0 : Int))))), none⟩])
 (.cond (.t 18)
 (.seq
 (.reg false [
 ⟨(some 2), .mv (.k (.one (.v (.bool) (false)))), none⟩])
 .ret)
 .skip)))
 (.reg false [
 ⟨(some 13), .mv (.t 3), none⟩,
 ⟨(some 14), .bin .add (.t 13) (.k (.one (.v (.int .i64) ((1 : Int))))), none⟩,
 ⟨(some 3), .mv (.t 14), none⟩])))))))
 (.seq
 (.reg false [
 ⟨(some 19), .mv (.t 0), none⟩,
 ⟨(some 20), .call .froz 78 [(.t 19), (.k (.one (.v (.int .i64) ((2 : Int))))), (.k (.one (.v (.int .i64) ((1000003 : Int)))))], none⟩,
 ⟨(some 2), .mv (.t 20), none⟩])
 .ret)))
def ms_spec_IsPrime : List MRes := [.tmp 2]
theorem n_spec_IsPrime (NN : Nat) (x : DLL (Sig.tys ag_spec_IsPrime)) : runS NN [fn_spec_l01In] sc_spec_IsPrime ms_spec_IsPrime ag_spec_IsPrime rs_spec_IsPrime x = G_spec_IsPrime NN x := by kernel_rfl
theorem k_spec_IsPrime : chkS Go.Proofs.Try.prog 77 sc_spec_IsPrime.er ms_spec_IsPrime 1 = true := by decide +kernel
theorem p_spec_IsPrime : PureSpec Go.Proofs.Try.prog 77 fn_spec_IsPrime.M ∧ chkFun Go.Proofs.Try.prog 77 = true :=
  pure_of_runS (T := [fn_spec_l01In]) (sc := sc_spec_IsPrime) (ms := ms_spec_IsPrime) (args := ag_spec_IsPrime) (res := rs_spec_IsPrime) (SOk.cons p_spec_l01In <| SOk.nil) follows_ok k_spec_IsPrime F_spec_IsPrime fun x y h => (n_spec_IsPrime FUEL x).trans (f_spec_IsPrime x y h)

def fn_spec_MatrixOk : SFn := ⟨48, ag_spec_MatrixOk, mu_spec_MatrixOk, rs_spec_MatrixOk, F_spec_MatrixOk⟩
def sc_spec_MatrixOk : SCode :=
 (.seq
 (.reg false [
 ⟨(some 3), .box 3 (.t 1), none⟩,
 ⟨(some 4), .mv (.k (.one (.v (.bool) (false)))), none⟩])
 (.seq
 (.seq
 (.reg false [
 ⟨(some 7), .mv (.t 0), none⟩,
 ⟨(some 8), .call .froz 77 [(.t 7)], none⟩,
 ⟨(some 9), .un .not (.t 8), none⟩,
 ⟨(some 10), .mv (.t 9), none⟩,
 ⟨(some 11), .fieldA 0 (.t 3), (some (10, false))⟩,
 ⟨(some 12), .load false 1 (.t 11), (some (10, false))⟩,
 ⟨(some 13), .call .froz 78 [(.t 12), (.k (.one (.v (.int .i64) ((0 : Int))))), (.k (.one (.v (.int .i64) ((64 : Int)))))], (some (10, false))⟩,
 ⟨(some 14), .un .not (.t 13), (some (10, false))⟩,
 ⟨(some 15), .pick (.t 10) (.k (.one (.v (.bool) (true)))) (.t 14), none⟩,
 ⟨(some 16), .mv (.t 15), none⟩,
 ⟨(some 17), .fieldA 1 (.t 3), (some (16, false))⟩,
 ⟨(some 18), .load false 1 (.t 17), (some (16, false))⟩,
 ⟨(some 19), .call .froz 78 [(.t 18), (.k (.one (.v (.int .i64) ((0 : Int))))), (.k (.one (.v (.int .i64) ((64 : Int)))))], (some (16, false))⟩,
 ⟨(some 20), .un .not (.t 19), (some (16, false))⟩,
 ⟨(some 21), .pick (.t 16) (.k (.one (.v (.bool) (true)))) (.t 20), none⟩,
 ⟨(some 22), .mv (.t 21), none⟩,
 ⟨(some 23), .fieldA 2 (.t 3), (some (22, false))⟩,
 ⟨(some 24), .load false 1 (.t 23), (some (22, false))⟩,
 ⟨(some 25), .len (.t 24), (some (22, false))⟩,
 ⟨(some 26), .fieldA 0 (.t 3), (some (22, false))⟩,
 ⟨(some 27), .load false 1 (.t 26), (some (22, false))⟩,
 ⟨(some 28), .fieldA 1 (.t 3), (some (22, false))⟩,
 ⟨(some 29), .load false 1 (.t 28), (some (22, false))⟩,
 ⟨(some 30), .bin .mul (.t 27) (.t 29), (some (22, false))⟩,
 ⟨(some 31), .bin .neq (.t 25) (.t 30), (some (22, false))⟩,
 ⟨(some 32), .pick (.t 22) (.k (.one (.v (.bool) (true)))) (.t 31), none⟩])
 (.cond (.t 32)
 (.seq
 (.reg false [
 ⟨(some 4), .mv (.k (.one (.v (.bool) (false)))), none⟩])
 .ret)
 .skip))
 (.seq
 (.seq
 (.reg false [
 ⟨(some 33), .fieldA 2 (.t 3), none⟩,
 ⟨(some 34), .load false 1 (.t 33), none⟩,
 ⟨(some 35), .len (.t 34), none⟩,
 ⟨(some 36), .mv (.k (.one (.v (.int .i64) ((0 : Int))))), none⟩])
 (.join ⟨[], []⟩ [] []
 (.block 0
 (.loop 0 ⟨[(0, .one (.c (.v (.int .i64)))), (34, .one (.c (.v (.list [.int .i64])))), (35, .one (.c (.v (.int .i64)))), (36, .one (.c (.v (.int .i64))))], []⟩ [3] []
 (.seq
 (.reg false [
 ⟨(some 37), .bin .lss (.t 36) (.t 35), none⟩])
 (.seq
 (.cond (.t 37)
 .skip
 (.exit 0))
 (.seq
 (.block 1
 (.seq
 (.reg false [
 ⟨(some 38), .idxA 1 (.t 34) (.t 36), none⟩,
 ⟨(some 39), .load false 1 (.t 38), none⟩,
 ⟨(some 6), .mv (.t 39), none⟩])
 (.seq
 (.reg false [
 ⟨(some 40), .mv (.t 6), none⟩,
 ⟨(some 41), .mv (.t 0), none⟩,
 ⟨(some 42), .bin .sub (.t 41) (.k (.one (.v (.int .i64) ((1 : Int))))), none⟩,
 ⟨(some 43), .call .froz 78 [(.t 40), (.k (.one (.v (.int .i64) ((0 : Int))))), (.t 42)], none⟩,
 ⟨(some 44), .un .not (.t 43), none⟩])
 (.cond (.t 44)
 (.seq
 (.reg false [
 ⟨(some 4), .mv (.k (.one (.v (.bool) (false)))), none⟩])
 .ret)
 .skip))))
 (.reg false [
 ⟨(some 45), .bin .add (.t 36) (.k (.one (.v (.int .i64) ((1 : Int))))), none⟩,
 ⟨(some 36), .mv (.t 45), none⟩]))))))))
 (.seq
 (.reg false [
 ⟨(some 4), .mv (.k (.one (.v (.bool) (true)))), none⟩])
 .ret))))
def ms_spec_MatrixOk : List MRes := [.tmp 4]
theorem n_spec_MatrixOk (NN : Nat) (x : DLL (Sig.tys ag_spec_MatrixOk)) : runS NN [fn_spec_IsPrime, fn_spec_l01In] sc_spec_MatrixOk ms_spec_MatrixOk ag_spec_MatrixOk rs_spec_MatrixOk x = G_spec_MatrixOk NN x := by kernel_rfl
theorem k_spec_MatrixOk : chkS Go.Proofs.Try.prog 48 sc_spec_MatrixOk.er ms_spec_MatrixOk 2 = true := by decide +kernel
theorem p_spec_MatrixOk : PureSpec Go.Proofs.Try.prog 48 fn_spec_MatrixOk.M ∧ chkFun Go.Proofs.Try.prog 48 = true :=
  pure_of_runS (T := [fn_spec_IsPrime, fn_spec_l01In]) (sc := sc_spec_MatrixOk) (ms := ms_spec_MatrixOk) (args := ag_spec_MatrixOk) (res := rs_spec_MatrixOk) (SOk.cons p_spec_IsPrime <| SOk.cons p_spec_l01In <| SOk.nil) follows_ok k_spec_MatrixOk F_spec_MatrixOk fun x y h => (n_spec_MatrixOk FUEL x).trans (f_spec_MatrixOk x y h)

def fn_spec_l05Ints : SFn := ⟨69, ag_spec_l05Ints, mu_spec_l05Ints, rs_spec_l05Ints, F_spec_l05Ints⟩
def sc_spec_l05Ints : SCode :=
 (.seq
 (.reg false [
 ⟨(some 2), .mv (.k (.one (.nil [.int .i64]))), none⟩])
 (.seq
 (.reg false [
 ⟨(some 3), .bslice [.int .i64] [], none⟩,
 ⟨(some 4), .mv (.t 0), none⟩,
 ⟨(some 5), .append true [.int .i64] 8 (.t 3) (.t 4), none⟩,
 ⟨(some 2), .mv (.t 5), none⟩])
 .ret))
def ms_spec_l05Ints : List MRes := [.tmp 2]
theorem n_spec_l05Ints (NN : Nat) (x : DLL (Sig.tys ag_spec_l05Ints)) : runS NN [] sc_spec_l05Ints ms_spec_l05Ints ag_spec_l05Ints rs_spec_l05Ints x = G_spec_l05Ints NN x := by kernel_rfl
theorem k_spec_l05Ints : chkS Go.Proofs.Try.prog 69 sc_spec_l05Ints.er ms_spec_l05Ints 1 = true := by decide +kernel
theorem p_spec_l05Ints : PureSpec Go.Proofs.Try.prog 69 fn_spec_l05Ints.M ∧ chkFun Go.Proofs.Try.prog 69 = true :=
  pure_of_runS (T := []) (sc := sc_spec_l05Ints) (ms := ms_spec_l05Ints) (args := ag_spec_l05Ints) (res := rs_spec_l05Ints) (SOk.nil) follows_ok k_spec_l05Ints F_spec_l05Ints fun x y h => (n_spec_l05Ints FUEL x).trans (f_spec_l05Ints x y h)

def fn_spec_l31Swap : SFn := ⟨70, ag_spec_l31Swap, mu_spec_l31Swap, rs_spec_l31Swap, F_spec_l31Swap⟩
def sc_spec_l31Swap : SCode :=
 (.seq
 (.reg false [
 ⟨(some 3), .box 3 (.t 0), none⟩])
 (.seq
 (.reg false [
 ⟨(some 6), .mv (.k (.one (.v (.int .i64) ((0 : Int))))), none⟩])
 (.block 0
 (.loop 0 ⟨[(1, .one (.c (.v (.int .i64)))), (2, .one (.c (.v (.int .i64)))), (3, .one (.c (.ptr0 3 0))), (6, .one (.c (.v (.int .i64))))], [(1000000, .row false .froz [.int .i64]), (3, .box [.c (.v (.int .i64)), .c (.v (.int .i64)), .c (.full 1000000 1)])]⟩ [1000000, 3, 500000] [(true, 3, 2, 500000, .froz, [])]
 (.seq
 (.seq
 (.reg false [
 ⟨(some 8), .mv (.t 6), none⟩,
 ⟨(some 9), .fieldA 1 (.t 3), none⟩,
 ⟨(some 10), .load false 1 (.t 9), none⟩,
 ⟨(some 11), .bin .lss (.t 8) (.t 10), none⟩])
 (.cond (.t 11)
 .skip
 (.exit 0)))
 (.seq
 (.block 1
 (.seq
 (.reg false [
 ⟨(some 14), .fieldA 2 (.t 3), none⟩,
 ⟨(some 15), .load false 1 (.t 14), none⟩,
 ⟨(some 16), .mv (.t 1), none⟩,
 ⟨(some 17), .fieldA 1 (.t 3), none⟩,
 ⟨(some 18), .load false 1 (.t 17), none⟩,
 ⟨(some 19), .bin .mul (.t 16) (.t 18), none⟩,
 ⟨(some 20), .mv (.t 6), none⟩,
 ⟨(some 21), .bin .add (.t 19) (.t 20), none⟩,
 ⟨(some 22), .idxA 1 (.t 15) (.t 21), none⟩,
 ⟨(some 23), .load false 1 (.t 22), none⟩,
 ⟨(some 7), .mv (.t 23), none⟩])
 (.seq
 (.reg true [
 ⟨(some 24), .fieldA 2 (.t 3), none⟩,
 ⟨(some 25), .load false 1 (.t 24), none⟩,
 ⟨(some 26), .mv (.t 1), none⟩,
 ⟨(some 27), .fieldA 1 (.t 3), none⟩,
 ⟨(some 28), .load false 1 (.t 27), none⟩,
 ⟨(some 29), .bin .mul (.t 26) (.t 28), none⟩,
 ⟨(some 30), .mv (.t 6), none⟩,
 ⟨(some 31), .bin .add (.t 29) (.t 30), none⟩,
 ⟨(some 32), .fieldA 2 (.t 3), none⟩,
 ⟨(some 33), .load false 1 (.t 32), none⟩,
 ⟨(some 34), .mv (.t 2), none⟩,
 ⟨(some 35), .fieldA 1 (.t 3), none⟩,
 ⟨(some 36), .load false 1 (.t 35), none⟩,
 ⟨(some 37), .bin .mul (.t 34) (.t 36), none⟩,
 ⟨(some 38), .mv (.t 6), none⟩,
 ⟨(some 39), .bin .add (.t 37) (.t 38), none⟩,
 ⟨(some 40), .idxA 1 (.t 33) (.t 39), none⟩,
 ⟨(some 41), .load false 1 (.t 40), none⟩,
 ⟨(some 42), .idxA 1 (.t 25) (.t 31), none⟩,
 ⟨none, .store 1 (.t 42) (.t 41), none⟩])
 (.reg false [
 ⟨(some 43), .fieldA 2 (.t 3), none⟩,
 ⟨(some 44), .load false 1 (.t 43), none⟩,
 ⟨(some 45), .mv (.t 2), none⟩,
 ⟨(some 46), .fieldA 1 (.t 3), none⟩,
 ⟨(some 47), .load false 1 (.t 46), none⟩,
 ⟨(some 48), .bin .mul (.t 45) (.t 47), none⟩,
 ⟨(some 49), .mv (.t 6), none⟩,
 ⟨(some 50), .bin .add (.t 48) (.t 49), none⟩,
 ⟨(some 51), .mv (.t 7), none⟩,
 ⟨(some 52), .idxA 1 (.t 44) (.t 50), none⟩,
 ⟨none, .store 1 (.t 52) (.t 51), none⟩]))))
 (.reg false [
 ⟨(some 12), .mv (.t 6), none⟩,
 ⟨(some 13), .bin .add (.t 12) (.k (.one (.v (.int .i64) ((1 : Int))))), none⟩,
 ⟨(some 6), .mv (.t 13), none⟩])))))))
def ms_spec_l31Swap : List MRes := []
theorem n_spec_l31Swap (NN : Nat) (x : DLL (Sig.tys ag_spec_l31Swap)) : runMS NN [] sc_spec_l31Swap ms_spec_l31Swap ag_spec_l31Swap mu_spec_l31Swap rs_spec_l31Swap x = G_spec_l31Swap NN x := by kernel_rfl
theorem k_spec_l31Swap : chkS Go.Proofs.Try.prog 70 sc_spec_l31Swap.er ms_spec_l31Swap 3 = true := by decide +kernel
theorem p_spec_l31Swap : MutSpec Go.Proofs.Try.prog 70 mu_spec_l31Swap fn_spec_l31Swap.MM ∧ chkFun Go.Proofs.Try.prog 70 = true :=
  mut_of_runMS (T := []) (sc := sc_spec_l31Swap) (ms := ms_spec_l31Swap) (args := ag_spec_l31Swap) (mu := mu_spec_l31Swap) (res := rs_spec_l31Swap) (SOk.nil) follows_ok k_spec_l31Swap F_spec_l31Swap fun x y h => (n_spec_l31Swap FUEL x).trans (f_spec_l31Swap x y h)

def fn_spec_l31New : SFn := ⟨76, ag_spec_l31New, mu_spec_l31New, rs_spec_l31New, F_spec_l31New⟩
def sc_spec_l31New : SCode :=
 (.seq
 (.reg false [
 ⟨(some 4), .alloc [.v (.int .i64) ((0 : Int)), .v (.int .i64) ((0 : Int)), .nil [.int .i64]], none⟩])
 (.seq
 (.reg false [
 ⟨(some 5), .mv (.t 0), none⟩,
 ⟨(some 6), .mv (.t 1), none⟩,
 ⟨(some 7), .mv (.t 0), none⟩,
 ⟨(some 8), .mv (.t 1), none⟩,
 ⟨(some 9), .bin .mul (.t 7) (.t 8), none⟩,
 ⟨(some 10), .mkslice .froz [.int .i64] 8 (0 : Int) (.t 9) (.t 9), none⟩,
 ⟨(some 11), .build [.v (.int .i64) ((0 : Int)), .v (.int .i64) ((0 : Int)), .nil [.int .i64]] [(0, 1, (.t 5)), (1, 1, (.t 6)), (2, 1, (.t 10))], none⟩,
 ⟨none, .store 3 (.t 4) (.t 11), none⟩])
 .ret))
def ms_spec_l31New : List MRes := [.cell 4 3 true]
theorem n_spec_l31New (NN : Nat) (x : DLL (Sig.tys ag_spec_l31New)) : runS NN [] sc_spec_l31New ms_spec_l31New ag_spec_l31New rs_spec_l31New x = G_spec_l31New NN x := by kernel_rfl
theorem k_spec_l31New : chkS Go.Proofs.Try.prog 76 sc_spec_l31New.er ms_spec_l31New 2 = true := by decide +kernel
theorem p_spec_l31New : PureSpec Go.Proofs.Try.prog 76 fn_spec_l31New.M ∧ chkFun Go.Proofs.Try.prog 76 = true :=
  pure_of_runS (T := []) (sc := sc_spec_l31New) (ms := ms_spec_l31New) (args := ag_spec_l31New) (res := rs_spec_l31New) (SOk.nil) follows_ok k_spec_l31New F_spec_l31New fun x y h => (n_spec_l31New FUEL x).trans (f_spec_l31New x y h)

def fn_spec_l31Turn : SFn := ⟨49, ag_spec_l31Turn, mu_spec_l31Turn, rs_spec_l31Turn, F_spec_l31Turn⟩
def sc_spec_l31Turn : SCode :=
 (.seq
 (.reg false [
 ⟨(some 1), .box 3 (.t 0), none⟩,
 ⟨(some 2), .alloc [.v (.int .i64) ((0 : Int)), .v (.int .i64) ((0 : Int)), .nil [.int .i64]], none⟩])
 (.seq
 (.reg false [
 ⟨(some 6), .fieldA 1 (.t 1), none⟩,
 ⟨(some 7), .load false 1 (.t 6), none⟩,
 ⟨(some 8), .fieldA 0 (.t 1), none⟩,
 ⟨(some 9), .load false 1 (.t 8), none⟩,
 ⟨(some 10), .call .froz 76 [(.t 7), (.t 9)], none⟩,
 ⟨(some 3), .alloc [.v (.int .i64) ((0 : Int)), .v (.int .i64) ((0 : Int)), .nil [.int .i64]], none⟩,
 ⟨none, .store 3 (.t 3) (.t 10), none⟩])
 (.seq
 (.seq
 (.reg false [
 ⟨(some 4), .mv (.k (.one (.v (.int .i64) ((0 : Int))))), none⟩])
 (.join ⟨[(3, .one (.c (.ptr0 3 0))), (2, .one (.c (.ptr0 2 0)))], [(2, .box [.c (.v (.int .i64)), .c (.v (.int .i64)), .c (.full 500006 1)]), (3, .box [.c (.v (.int .i64)), .c (.v (.int .i64)), .c (.full 500007 1)]), (500006, .row true .froz [.int .i64]), (500007, .row true .froz [.int .i64])]⟩ [1, 2, 3, 500000, 500001, 500006, 500007] [(true, 2, 2, 500006, .froz, []), (true, 3, 2, 500007, .froz, [])]
 (.block 0
 (.loop 0 ⟨[(1, .one (.c (.ptr0 1 0))), (2, .one (.c (.ptr0 2 0))), (3, .one (.c (.ptr0 3 0))), (4, .one (.c (.v (.int .i64))))], [(1, .box [.c (.v (.int .i64)), .c (.v (.int .i64)), .c (.v (.list [.int .i64]))]), (2, .box [.c (.v (.int .i64)), .c (.v (.int .i64)), .c (.full 500000 1)]), (3, .box [.c (.v (.int .i64)), .c (.v (.int .i64)), .c (.full 500001 1)]), (500000, .row true .froz [.int .i64]), (500001, .row true .froz [.int .i64])]⟩ [1, 2, 11000, 3, 500000, 500001, 500004, 500005] [(true, 2, 2, 500000, .froz, []), (true, 3, 2, 500001, .froz, [])]
 (.seq
 (.seq
 (.reg false [
 ⟨(some 11), .mv (.t 4), none⟩,
 ⟨(some 12), .fieldA 0 (.t 1), none⟩,
 ⟨(some 13), .load false 1 (.t 12), none⟩,
 ⟨(some 14), .bin .lss (.t 11) (.t 13), none⟩])
 (.cond (.t 14)
 .skip
 (.exit 0)))
 (.seq
 (.join ⟨[(4, .one (.c (.v (.int .i64)))), (1, .one (.c (.ptr0 1 0))), (2, .one (.c (.ptr0 2 0))), (3, .one (.c (.ptr0 3 0)))], [(1, .box [.c (.v (.int .i64)), .c (.v (.int .i64)), .c (.v (.list [.int .i64]))]), (2, .box [.c (.v (.int .i64)), .c (.v (.int .i64)), .c (.full 500004 1)]), (3, .box [.c (.v (.int .i64)), .c (.v (.int .i64)), .c (.full 500005 1)]), (500004, .row true .froz [.int .i64]), (500005, .row true .froz [.int .i64])]⟩ [1, 2, 3, 500002, 500003, 500004, 500005] [(true, 2, 2, 500004, .froz, []), (true, 3, 2, 500005, .froz, [])]
 (.block 1
 (.seq
 (.reg false [
 ⟨(some 5), .mv (.k (.one (.v (.int .i64) ((0 : Int))))), none⟩])
 (.block 2
 (.loop 0 ⟨[(1, .one (.c (.ptr0 1 0))), (2, .one (.c (.ptr0 2 0))), (3, .one (.c (.ptr0 3 0))), (4, .one (.c (.v (.int .i64)))), (5, .one (.c (.v (.int .i64))))], [(1, .box [.c (.v (.int .i64)), .c (.v (.int .i64)), .c (.v (.list [.int .i64]))]), (2, .box [.c (.v (.int .i64)), .c (.v (.int .i64)), .c (.full 500002 1)]), (3, .box [.c (.v (.int .i64)), .c (.v (.int .i64)), .c (.full 500003 1)]), (500002, .row true .froz [.int .i64]), (500003, .row true .froz [.int .i64])]⟩ [1, 2, 3, 500000, 500001, 500002, 500003] [(true, 2, 2, 500002, .froz, []), (true, 3, 2, 500003, .froz, [])]
 (.seq
 (.seq
 (.reg false [
 ⟨(some 17), .mv (.t 5), none⟩,
 ⟨(some 18), .fieldA 1 (.t 1), none⟩,
 ⟨(some 19), .load false 1 (.t 18), none⟩,
 ⟨(some 20), .bin .lss (.t 17) (.t 19), none⟩])
 (.cond (.t 20)
 .skip
 (.exit 2)))
 (.seq
 (.block 3
 (.reg true [
 ⟨(some 23), .fieldA 2 (.t 3), none⟩,
 ⟨(some 24), .load false 1 (.t 23), none⟩,
 ⟨(some 25), .mv (.t 5), none⟩,
 ⟨(some 26), .fieldA 0 (.t 1), none⟩,
 ⟨(some 27), .load false 1 (.t 26), none⟩,
 ⟨(some 28), .bin .mul (.t 25) (.t 27), none⟩,
 ⟨(some 29), .mv (.t 4), none⟩,
 ⟨(some 30), .bin .add (.t 28) (.t 29), none⟩,
 ⟨(some 31), .fieldA 2 (.t 1), none⟩,
 ⟨(some 32), .load false 1 (.t 31), none⟩,
 ⟨(some 33), .mv (.t 4), none⟩,
 ⟨(some 34), .fieldA 1 (.t 1), none⟩,
 ⟨(some 35), .load false 1 (.t 34), none⟩,
 ⟨(some 36), .bin .mul (.t 33) (.t 35), none⟩,
 ⟨(some 37), .mv (.t 5), none⟩,
 ⟨(some 38), .bin .add (.t 36) (.t 37), none⟩,
 ⟨(some 39), .idxA 1 (.t 32) (.t 38), none⟩,
 ⟨(some 40), .load false 1 (.t 39), none⟩,
 ⟨(some 41), .idxA 1 (.t 24) (.t 30), none⟩,
 ⟨none, .store 1 (.t 41) (.t 40), none⟩]))
 (.reg false [
 ⟨(some 21), .mv (.t 5), none⟩,
 ⟨(some 22), .bin .add (.t 21) (.k (.one (.v (.int .i64) ((1 : Int))))), none⟩,
 ⟨(some 5), .mv (.t 22), none⟩]))))))))
 (.reg false [
 ⟨(some 15), .mv (.t 4), none⟩,
 ⟨(some 16), .bin .add (.t 15) (.k (.one (.v (.int .i64) ((1 : Int))))), none⟩,
 ⟨(some 4), .mv (.t 16), none⟩])))))))
 (.seq
 (.reg false [
 ⟨(some 42), .load true 3 (.t 3), none⟩,
 ⟨none, .store 3 (.t 2) (.t 42), none⟩])
 .ret))))
def ms_spec_l31Turn : List MRes := [.cell 2 3 true]
theorem n_spec_l31Turn (NN : Nat) (x : DLL (Sig.tys ag_spec_l31Turn)) : runS NN [fn_spec_l31New] sc_spec_l31Turn ms_spec_l31Turn ag_spec_l31Turn rs_spec_l31Turn x = G_spec_l31Turn NN x := by kernel_rfl
theorem k_spec_l31Turn : chkS Go.Proofs.Try.prog 49 sc_spec_l31Turn.er ms_spec_l31Turn 1 = true := by decide +kernel
theorem p_spec_l31Turn : PureSpec Go.Proofs.Try.prog 49 fn_spec_l31Turn.M ∧ chkFun Go.Proofs.Try.prog 49 = true :=
  pure_of_runS (T := [fn_spec_l31New]) (sc := sc_spec_l31Turn) (ms := ms_spec_l31Turn) (args := ag_spec_l31Turn) (res := rs_spec_l31Turn) (SOk.cons p_spec_l31New <| SOk.nil) follows_ok k_spec_l31Turn F_spec_l31Turn fun x y h => (n_spec_l31Turn FUEL x).trans (f_spec_l31Turn x y h)

def fn_spec_l31Inverse : SFn := ⟨71, ag_spec_l31Inverse, mu_spec_l31Inverse, rs_spec_l31Inverse, F_spec_l31Inverse⟩
def sc_spec_l31Inverse : SCode :=
 (.seq
 (.reg false [
 ⟨(some 4), .mv (.k (.one (.v (.int .i64) ((0 : Int))))), none⟩])
 (.seq
 (.reg false [
 ⟨(some 5), .mv (.k (.one (.v (.int .i64) ((1 : Int))))), none⟩])
 (.seq
 (.seq
 (.reg false [
 ⟨(some 7), .mv (.t 0), none⟩,
 ⟨(some 8), .bin .sub (.t 7) (.k (.one (.v (.int .i64) ((2 : Int))))), none⟩,
 ⟨(some 6), .mv (.t 8), none⟩])
 (.join ⟨[(5, .one (.c (.v (.int .i64))))], []⟩ [] []
 (.block 0
 (.loop 0 ⟨[(0, .one (.c (.v (.int .i64)))), (1, .one (.c (.v (.int .i64)))), (5, .one (.c (.v (.int .i64)))), (6, .one (.c (.v (.int .i64))))], []⟩ [] []
 (.seq
 (.seq
 (.reg false [
 ⟨(some 9), .mv (.t 6), none⟩,
 ⟨(some 10), .bin .gtr (.t 9) (.k (.one (.v (.int .i64) ((0 : Int))))), none⟩])
 (.cond (.t 10)
 .skip
 (.exit 0)))
 (.seq
 (.block 1
 (.seq
 (.seq
 (.reg false [
 ⟨(some 13), .mv (.t 6), none⟩,
 ⟨(some 14), .bin .rem (.t 13) (.k (.one (.v (.int .i64) ((2 : Int))))), none⟩,
 ⟨(some 15), .bin .eql (.t 14) (.k (.one (.v (.int .i64) ((1 : Int))))), none⟩])
 (.join ⟨[(1, .one (.c (.v (.int .i64)))), (6, .one (.c (.v (.int .i64)))), (0, .one (.c (.v (.int .i64)))), (5, .one (.c (.v (.int .i64))))], []⟩ [] []
 (.cond (.t 15)
 (.reg false [
 ⟨(some 16), .mv (.t 5), none⟩,
 ⟨(some 17), .mv (.t 1), none⟩,
 ⟨(some 18), .bin .mul (.t 16) (.t 17), none⟩,
 ⟨(some 19), .mv (.t 0), none⟩,
 ⟨(some 20), .bin .rem (.t 18) (.t 19), none⟩,
 ⟨(some 5), .mv (.t 20), none⟩])
 .skip)))
 (.reg false [
 ⟨(some 21), .mv (.t 1), none⟩,
 ⟨(some 22), .mv (.t 1), none⟩,
 ⟨(some 23), .bin .mul (.t 21) (.t 22), none⟩,
 ⟨(some 24), .mv (.t 0), none⟩,
 ⟨(some 25), .bin .rem (.t 23) (.t 24), none⟩,
 ⟨(some 1), .mv (.t 25), none⟩])))
 (.reg false [
 ⟨(some 11), .mv (.t 6), none⟩,
 ⟨(some 12), .bin .quo (.t 11) (.k (.one (.v (.int .i64) ((2 : Int))))), none⟩,
 ⟨(some 6), .mv (.t 12), none⟩])))))))
 (.seq
 (.reg false [
 ⟨(some 26), .mv (.t 5), none⟩,
 ⟨(some 4), .mv (.t 26), none⟩])
 .ret))))
def ms_spec_l31Inverse : List MRes := [.tmp 4]
theorem n_spec_l31Inverse (NN : Nat) (x : DLL (Sig.tys ag_spec_l31Inverse)) : runS NN [] sc_spec_l31Inverse ms_spec_l31Inverse ag_spec_l31Inverse rs_spec_l31Inverse x = G_spec_l31Inverse NN x := by kernel_rfl
theorem k_spec_l31Inverse : chkS Go.Proofs.Try.prog 71 sc_spec_l31Inverse.er ms_spec_l31Inverse 2 = true := by decide +kernel
theorem p_spec_l31Inverse : PureSpec Go.Proofs.Try.prog 71 fn_spec_l31Inverse.M ∧ chkFun Go.Proofs.Try.prog 71 = true :=
  pure_of_runS (T := []) (sc := sc_spec_l31Inverse) (ms := ms_spec_l31Inverse) (args := ag_spec_l31Inverse) (res := rs_spec_l31Inverse) (SOk.nil) follows_ok k_spec_l31Inverse F_spec_l31Inverse fun x y h => (n_spec_l31Inverse FUEL x).trans (f_spec_l31Inverse x y h)

def fn_spec_l31Clear : SFn := ⟨72, ag_spec_l31Clear, mu_spec_l31Clear, rs_spec_l31Clear, F_spec_l31Clear⟩
def sc_spec_l31Clear : SCode :=
 (.seq
 (.reg false [
 ⟨(some 6), .box 3 (.t 1), none⟩])
 (.seq
 (.reg false [
 ⟨(some 10), .mv (.k (.one (.v (.int .i64) ((0 : Int))))), none⟩])
 (.block 0
 (.loop 0 ⟨[(0, .one (.c (.v (.int .i64)))), (2, .one (.c (.v (.int .i64)))), (3, .one (.c (.v (.int .i64)))), (4, .one (.c (.v (.int .i64)))), (6, .one (.c (.ptr0 6 0))), (10, .one (.c (.v (.int .i64))))], [(1000000, .row false .froz [.int .i64]), (6, .box [.c (.v (.int .i64)), .c (.v (.int .i64)), .c (.full 1000000 1)])]⟩ [1000000, 6, 500000] [(true, 6, 2, 500000, .froz, [])]
 (.seq
 (.seq
 (.reg false [
 ⟨(some 11), .mv (.t 10), none⟩,
 ⟨(some 12), .fieldA 1 (.t 6), none⟩,
 ⟨(some 13), .load false 1 (.t 12), none⟩,
 ⟨(some 14), .bin .lss (.t 11) (.t 13), none⟩])
 (.cond (.t 14)
 .skip
 (.exit 0)))
 (.seq
 (.block 1
 (.reg true [
 ⟨(some 17), .fieldA 2 (.t 6), none⟩,
 ⟨(some 18), .load false 1 (.t 17), none⟩,
 ⟨(some 19), .mv (.t 2), none⟩,
 ⟨(some 20), .fieldA 1 (.t 6), none⟩,
 ⟨(some 21), .load false 1 (.t 20), none⟩,
 ⟨(some 22), .bin .mul (.t 19) (.t 21), none⟩,
 ⟨(some 23), .mv (.t 10), none⟩,
 ⟨(some 24), .bin .add (.t 22) (.t 23), none⟩,
 ⟨(some 25), .fieldA 2 (.t 6), none⟩,
 ⟨(some 26), .load false 1 (.t 25), none⟩,
 ⟨(some 27), .mv (.t 2), none⟩,
 ⟨(some 28), .fieldA 1 (.t 6), none⟩,
 ⟨(some 29), .load false 1 (.t 28), none⟩,
 ⟨(some 30), .bin .mul (.t 27) (.t 29), none⟩,
 ⟨(some 31), .mv (.t 10), none⟩,
 ⟨(some 32), .bin .add (.t 30) (.t 31), none⟩,
 ⟨(some 33), .idxA 1 (.t 26) (.t 32), none⟩,
 ⟨(some 34), .load false 1 (.t 33), none⟩,
 ⟨(some 35), .mv (.t 0), none⟩,
 ⟨(some 36), .mv (.t 4), none⟩,
 ⟨(some 37), .bin .sub (.t 35) (.t 36), none⟩,
 ⟨(some 38), .fieldA 2 (.t 6), none⟩,
 ⟨(some 39), .load false 1 (.t 38), none⟩,
 ⟨(some 40), .mv (.t 3), none⟩,
 ⟨(some 41), .fieldA 1 (.t 6), none⟩,
 ⟨(some 42), .load false 1 (.t 41), none⟩,
 ⟨(some 43), .bin .mul (.t 40) (.t 42), none⟩,
 ⟨(some 44), .mv (.t 10), none⟩,
 ⟨(some 45), .bin .add (.t 43) (.t 44), none⟩,
 ⟨(some 46), .idxA 1 (.t 39) (.t 45), none⟩,
 ⟨(some 47), .load false 1 (.t 46), none⟩,
 ⟨(some 48), .bin .mul (.t 37) (.t 47), none⟩,
 ⟨(some 49), .bin .add (.t 34) (.t 48), none⟩,
 ⟨(some 50), .mv (.t 0), none⟩,
 ⟨(some 51), .bin .rem (.t 49) (.t 50), none⟩,
 ⟨(some 52), .idxA 1 (.t 18) (.t 24), none⟩,
 ⟨none, .store 1 (.t 52) (.t 51), none⟩]))
 (.reg false [
 ⟨(some 15), .mv (.t 10), none⟩,
 ⟨(some 16), .bin .add (.t 15) (.k (.one (.v (.int .i64) ((1 : Int))))), none⟩,
 ⟨(some 10), .mv (.t 16), none⟩])))))))
def ms_spec_l31Clear : List MRes := []
theorem n_spec_l31Clear (NN : Nat) (x : DLL (Sig.tys ag_spec_l31Clear)) : runMS NN [] sc_spec_l31Clear ms_spec_l31Clear ag_spec_l31Clear mu_spec_l31Clear rs_spec_l31Clear x = G_spec_l31Clear NN x := by kernel_rfl
theorem k_spec_l31Clear : chkS Go.Proofs.Try.prog 72 sc_spec_l31Clear.er ms_spec_l31Clear 5 = true := by decide +kernel
theorem p_spec_l31Clear : MutSpec Go.Proofs.Try.prog 72 mu_spec_l31Clear fn_spec_l31Clear.MM ∧ chkFun Go.Proofs.Try.prog 72 = true :=
  mut_of_runMS (T := []) (sc := sc_spec_l31Clear) (ms := ms_spec_l31Clear) (args := ag_spec_l31Clear) (mu := mu_spec_l31Clear) (res := rs_spec_l31Clear) (SOk.nil) follows_ok k_spec_l31Clear F_spec_l31Clear fun x y h => (n_spec_l31Clear FUEL x).trans (f_spec_l31Clear x y h)

def fn_spec_Pfaffian : SFn := ⟨40, ag_spec_Pfaffian, mu_spec_Pfaffian, rs_spec_Pfaffian, F_spec_Pfaffian⟩
def sc_spec_Pfaffian : SCode :=
 (.seq
 (.reg false [
 ⟨(some 3), .box 3 (.t 1), none⟩,
 ⟨(some 4), .mv (.k (.one (.v (.int .i64) ((0 : Int))))), none⟩,
 ⟨(some 5), .mv (.k (.one (.v (.bool) (false)))), none⟩])
 (.seq
 (.seq
 (.reg false [
 ⟨(some 18), .mv (.t 0), none⟩,
 ⟨(some 19), .load true 3 (.t 3), none⟩,
 ⟨(some 20), .call .froz 48 [(.t 18), (.t 19)], none⟩,
 ⟨(some 21), .un .not (.t 20), none⟩,
 ⟨(some 22), .mv (.t 21), none⟩,
 ⟨(some 23), .fieldA 0 (.t 3), (some (22, false))⟩,
 ⟨(some 24), .load false 1 (.t 23), (some (22, false))⟩,
 ⟨(some 25), .fieldA 1 (.t 3), (some (22, false))⟩,
 ⟨(some 26), .load false 1 (.t 25), (some (22, false))⟩,
 ⟨(some 27), .bin .neq (.t 24) (.t 26), (some (22, false))⟩,
 ⟨(some 28), .pick (.t 22) (.k (.one (.v (.bool) (true)))) (.t 27), none⟩])
 (.cond (.t 28)
 (.seq
 (.reg false [
 ⟨(some 4), .mv (.k (.one (.v (.int .i64) ((0 : Int))))), none⟩,
 ⟨(some 5), .mv (.k (.one (.v (.bool) (false)))), none⟩])
 .ret)
 .skip))
 (.seq
 (.reg false [
 ⟨(some 29), .fieldA 0 (.t 3), none⟩,
 ⟨(some 30), .load false 1 (.t 29), none⟩,
 ⟨(some 6), .mv (.t 30), none⟩])
 (.seq
 (.seq
 (.reg false [
 ⟨(some 7), .mv (.k (.one (.v (.int .i64) ((0 : Int))))), none⟩])
 (.join ⟨[(3, .one (.c (.ptr0 3 0))), (0, .one (.c (.v (.int .i64)))), (6, .one (.c (.v (.int .i64))))], [(3, .box [.c (.v (.int .i64)), .c (.v (.int .i64)), .c (.v (.list [.int .i64]))])]⟩ [3] []
 (.block 0
 (.loop 0 ⟨[(0, .one (.c (.v (.int .i64)))), (3, .one (.c (.ptr0 3 0))), (6, .one (.c (.v (.int .i64)))), (7, .one (.c (.v (.int .i64))))], [(3, .box [.c (.v (.int .i64)), .c (.v (.int .i64)), .c (.v (.list [.int .i64]))])]⟩ [3] []
 (.seq
 (.seq
 (.reg false [
 ⟨(some 31), .mv (.t 7), none⟩,
 ⟨(some 32), .mv (.t 6), none⟩,
 ⟨(some 33), .bin .lss (.t 31) (.t 32), none⟩])
 (.cond (.t 33)
 .skip
 (.exit 0)))
 (.seq
 (.join ⟨[(7, .one (.c (.v (.int .i64)))), (0, .one (.c (.v (.int .i64)))), (3, .one (.c (.ptr0 3 0))), (6, .one (.c (.v (.int .i64))))], [(3, .box [.c (.v (.int .i64)), .c (.v (.int .i64)), .c (.v (.list [.int .i64]))])]⟩ [3] []
 (.block 1
 (.seq
 (.reg false [
 ⟨(some 8), .mv (.k (.one (.v (.int .i64) ((0 : Int))))), none⟩])
 (.block 2
 (.loop 0 ⟨[(0, .one (.c (.v (.int .i64)))), (3, .one (.c (.ptr0 3 0))), (6, .one (.c (.v (.int .i64)))), (7, .one (.c (.v (.int .i64)))), (8, .one (.c (.v (.int .i64))))], [(3, .box [.c (.v (.int .i64)), .c (.v (.int .i64)), .c (.v (.list [.int .i64]))])]⟩ [3] []
 (.seq
 (.seq
 (.reg false [
 ⟨(some 36), .mv (.t 8), none⟩,
 ⟨(some 37), .mv (.t 7), none⟩,
 ⟨(some 38), .bin .leq (.t 36) (.t 37), none⟩])
 (.cond (.t 38)
 .skip
 (.exit 2)))
 (.seq
 (.block 3
 (.seq
 (.reg false [
 ⟨(some 41), .fieldA 2 (.t 3), none⟩,
 ⟨(some 42), .load false 1 (.t 41), none⟩,
 ⟨(some 43), .mv (.t 7), none⟩,
 ⟨(some 44), .mv (.t 6), none⟩,
 ⟨(some 45), .bin .mul (.t 43) (.t 44), none⟩,
 ⟨(some 46), .mv (.t 8), none⟩,
 ⟨(some 47), .bin .add (.t 45) (.t 46), none⟩,
 ⟨(some 48), .idxA 1 (.t 42) (.t 47), none⟩,
 ⟨(some 49), .load false 1 (.t 48), none⟩,
 ⟨(some 9), .mv (.t 49), none⟩])
 (.seq
 (.reg false [
 ⟨(some 50), .mv (.t 9), none⟩,
 ⟨(some 51), .mv (.t 0), none⟩,
 ⟨(some 52), .fieldA 2 (.t 3), none⟩,
 ⟨(some 53), .load false 1 (.t 52), none⟩,
 ⟨(some 54), .mv (.t 8), none⟩,
 ⟨(some 55), .mv (.t 6), none⟩,
 ⟨(some 56), .bin .mul (.t 54) (.t 55), none⟩,
 ⟨(some 57), .mv (.t 7), none⟩,
 ⟨(some 58), .bin .add (.t 56) (.t 57), none⟩,
 ⟨(some 59), .idxA 1 (.t 53) (.t 58), none⟩,
 ⟨(some 60), .load false 1 (.t 59), none⟩,
 ⟨(some 61), .bin .sub (.t 51) (.t 60), none⟩,
 ⟨(some 62), .mv (.t 0), none⟩,
 ⟨(some 63), .bin .rem (.t 61) (.t 62), none⟩,
 ⟨(some 64), .bin .neq (.t 50) (.t 63), none⟩,
 ⟨(some 65), .mv (.t 64), none⟩,
 ⟨(some 66), .mv (.t 7), (some (65, false))⟩,
 ⟨(some 67), .mv (.t 8), (some (65, false))⟩,
 ⟨(some 68), .bin .eql (.t 66) (.t 67), (some (65, false))⟩,
 ⟨(some 69), .mv (.t 68), (some (65, false))⟩,
 ⟨(some 70), .mv (.t 9), (some (69, true))⟩,
 ⟨(some 71), .bin .neq (.t 70) (.k (.one (.v (.int .i64) ((0 : Int))))), (some (69, true))⟩,
 ⟨(some 72), .pick (.t 69) (.t 71) (.k (.one (.v (.bool) (false)))), (some (65, false))⟩,
 ⟨(some 73), .pick (.t 65) (.k (.one (.v (.bool) (true)))) (.t 72), none⟩])
 (.cond (.t 73)
 (.seq
 (.reg false [
 ⟨(some 4), .mv (.k (.one (.v (.int .i64) ((0 : Int))))), none⟩,
 ⟨(some 5), .mv (.k (.one (.v (.bool) (false)))), none⟩])
 .ret)
 .skip))))
 (.reg false [
 ⟨(some 39), .mv (.t 8), none⟩,
 ⟨(some 40), .bin .add (.t 39) (.k (.one (.v (.int .i64) ((1 : Int))))), none⟩,
 ⟨(some 8), .mv (.t 40), none⟩]))))))))
 (.reg false [
 ⟨(some 34), .mv (.t 7), none⟩,
 ⟨(some 35), .bin .add (.t 34) (.k (.one (.v (.int .i64) ((1 : Int))))), none⟩,
 ⟨(some 7), .mv (.t 35), none⟩])))))))
 (.seq
 (.seq
 (.reg false [
 ⟨(some 74), .mv (.t 6), none⟩,
 ⟨(some 75), .bin .rem (.t 74) (.k (.one (.v (.int .i64) ((2 : Int))))), none⟩,
 ⟨(some 76), .bin .eql (.t 75) (.k (.one (.v (.int .i64) ((1 : Int))))), none⟩])
 (.cond (.t 76)
 (.seq
 (.reg false [
 ⟨(some 4), .mv (.k (.one (.v (.int .i64) ((0 : Int))))), none⟩,
 ⟨(some 5), .mv (.k (.one (.v (.bool) (true)))), none⟩])
 .ret)
 .skip))
 (.seq
 (.reg false [
 ⟨(some 77), .mv (.t 6), none⟩,
 ⟨(some 78), .mv (.t 6), none⟩,
 ⟨(some 79), .fieldA 2 (.t 3), none⟩,
 ⟨(some 80), .load false 1 (.t 79), none⟩,
 ⟨(some 81), .call .froz 69 [(.t 80)], none⟩,
 ⟨(some 82), .build [.v (.int .i64) ((0 : Int)), .v (.int .i64) ((0 : Int)), .nil [.int .i64]] [(0, 1, (.t 77)), (1, 1, (.t 78)), (2, 1, (.t 81))], none⟩,
 ⟨(some 10), .alloc [.v (.int .i64) ((0 : Int)), .v (.int .i64) ((0 : Int)), .nil [.int .i64]], none⟩,
 ⟨none, .store 3 (.t 10) (.t 82), none⟩])
 (.seq
 (.reg false [
 ⟨(some 11), .mv (.k (.one (.v (.int .i64) ((1 : Int))))), none⟩])
 (.seq
 (.seq
 (.reg false [
 ⟨(some 12), .mv (.k (.one (.v (.int .i64) ((0 : Int))))), none⟩])
 (.join ⟨[(11, .one (.c (.v (.int .i64))))], []⟩ [10, 500000] []
 (.block 4
 (.loop 0 ⟨[(0, .one (.c (.v (.int .i64)))), (6, .one (.c (.v (.int .i64)))), (10, .one (.c (.ptr0 10 0))), (11, .one (.c (.v (.int .i64)))), (12, .one (.c (.v (.int .i64))))], [(10, .box [.c (.v (.int .i64)), .c (.v (.int .i64)), .c (.full 500000 1)]), (500000, .row true .froz [.int .i64])]⟩ [3, 82000, 10, 500000, 500005] [(true, 10, 2, 500000, .froz, [])]
 (.seq
 (.seq
 (.reg false [
 ⟨(some 83), .mv (.t 12), none⟩,
 ⟨(some 84), .mv (.t 6), none⟩,
 ⟨(some 85), .bin .lss (.t 83) (.t 84), none⟩])
 (.cond (.t 85)
 .skip
 (.exit 4)))
 (.seq
 (.join ⟨[(12, .one (.c (.v (.int .i64)))), (0, .one (.c (.v (.int .i64)))), (6, .one (.c (.v (.int .i64)))), (10, .one (.c (.ptr0 10 0))), (11, .one (.c (.v (.int .i64))))], [(10, .box [.c (.v (.int .i64)), .c (.v (.int .i64)), .c (.full 500005 1)]), (500005, .row true .froz [.int .i64])]⟩ [10, 500004, 500005] [(true, 10, 2, 500005, .froz, [])]
 (.block 5
 (.seq
 (.reg false [
 ⟨(some 88), .mv (.t 12), none⟩,
 ⟨(some 89), .bin .add (.t 88) (.k (.one (.v (.int .i64) ((1 : Int))))), none⟩,
 ⟨(some 13), .mv (.t 89), none⟩])
 (.seq
 (.join ⟨[(13, .one (.c (.v (.int .i64)))), (11, .one (.c (.v (.int .i64)))), (10, .one (.c (.ptr0 10 0))), (6, .one (.c (.v (.int .i64)))), (0, .one (.c (.v (.int .i64)))), (12, .one (.c (.v (.int .i64))))], [(10, .box [.c (.v (.int .i64)), .c (.v (.int .i64)), .c (.full 500002 1)]), (500002, .row true .froz [.int .i64])]⟩ [10, 500001, 500002] [(true, 10, 2, 500002, .froz, [])]
 (.block 6
 (.loop 0 ⟨[(0, .one (.c (.v (.int .i64)))), (6, .one (.c (.v (.int .i64)))), (10, .one (.c (.ptr0 10 0))), (11, .one (.c (.v (.int .i64)))), (12, .one (.c (.v (.int .i64)))), (13, .one (.c (.v (.int .i64))))], [(10, .box [.c (.v (.int .i64)), .c (.v (.int .i64)), .c (.full 500001 1)]), (500001, .row true .froz [.int .i64])]⟩ [10, 500000, 500001] [(true, 10, 2, 500001, .froz, [])]
 (.seq
 (.seq
 (.reg false [
 ⟨(some 90), .mv (.t 13), none⟩,
 ⟨(some 91), .mv (.t 6), none⟩,
 ⟨(some 92), .bin .lss (.t 90) (.t 91), none⟩,
 ⟨(some 93), .mv (.t 92), none⟩,
 ⟨(some 94), .fieldA 2 (.t 10), (some (93, true))⟩,
 ⟨(some 95), .load false 1 (.t 94), (some (93, true))⟩,
 ⟨(some 96), .mv (.t 12), (some (93, true))⟩,
 ⟨(some 97), .mv (.t 6), (some (93, true))⟩,
 ⟨(some 98), .bin .mul (.t 96) (.t 97), (some (93, true))⟩,
 ⟨(some 99), .mv (.t 13), (some (93, true))⟩,
 ⟨(some 100), .bin .add (.t 98) (.t 99), (some (93, true))⟩,
 ⟨(some 101), .idxA 1 (.t 95) (.t 100), (some (93, true))⟩,
 ⟨(some 102), .load false 1 (.t 101), (some (93, true))⟩,
 ⟨(some 103), .bin .eql (.t 102) (.k (.one (.v (.int .i64) ((0 : Int))))), (some (93, true))⟩,
 ⟨(some 104), .pick (.t 93) (.t 103) (.k (.one (.v (.bool) (false)))), none⟩])
 (.cond (.t 104)
 .skip
 (.exit 6)))
 (.block 7
 (.reg false [
 ⟨(some 105), .mv (.t 13), none⟩,
 ⟨(some 106), .bin .add (.t 105) (.k (.one (.v (.int .i64) ((1 : Int))))), none⟩,
 ⟨(some 13), .mv (.t 106), none⟩]))))))
 (.seq
 (.seq
 (.reg false [
 ⟨(some 107), .mv (.t 13), none⟩,
 ⟨(some 108), .mv (.t 6), none⟩,
 ⟨(some 109), .bin .eql (.t 107) (.t 108), none⟩])
 (.cond (.t 109)
 (.seq
 (.reg false [
 ⟨(some 4), .mv (.k (.one (.v (.int .i64) ((0 : Int))))), none⟩,
 ⟨(some 5), .mv (.k (.one (.v (.bool) (true)))), none⟩])
 .ret)
 .skip))
 (.seq
 (.seq
 (.reg false [
 ⟨(some 110), .mv (.t 13), none⟩,
 ⟨(some 111), .mv (.t 12), none⟩,
 ⟨(some 112), .bin .add (.t 111) (.k (.one (.v (.int .i64) ((1 : Int))))), none⟩,
 ⟨(some 113), .bin .gtr (.t 110) (.t 112), none⟩])
 (.join ⟨[(11, .one (.c (.v (.int .i64)))), (10, .one (.c (.ptr0 10 0))), (6, .one (.c (.v (.int .i64)))), (0, .one (.c (.v (.int .i64)))), (12, .one (.c (.v (.int .i64))))], [(10, .box [.c (.v (.int .i64)), .c (.v (.int .i64)), .c (.full 500003 1)]), (500003, .row true .froz [.int .i64])]⟩ [10, 121000, 128000, 500002, 500003] [(true, 10, 2, 500003, .froz, [])]
 (.cond (.t 113)
 (.seq
 (.reg false [
 ⟨(some 114), .load true 3 (.t 10), none⟩,
 ⟨(some 115), .mv (.t 12), none⟩,
 ⟨(some 116), .bin .add (.t 115) (.k (.one (.v (.int .i64) ((1 : Int))))), none⟩,
 ⟨(some 117), .mv (.t 13), none⟩,
 ⟨(some 118), .callm .froz 70 [(.t 114), (.t 116), (.t 117)], none⟩])
 (.seq
 (.reg false [
 ⟨(some 119), .load true 3 (.t 10), none⟩,
 ⟨(some 120), .call .froz 49 [(.t 119)], none⟩,
 ⟨none, .store 3 (.t 10) (.t 120), none⟩])
 (.seq
 (.reg false [
 ⟨(some 121), .load true 3 (.t 10), none⟩,
 ⟨(some 122), .mv (.t 12), none⟩,
 ⟨(some 123), .bin .add (.t 122) (.k (.one (.v (.int .i64) ((1 : Int))))), none⟩,
 ⟨(some 124), .mv (.t 13), none⟩,
 ⟨(some 125), .callm .froz 70 [(.t 121), (.t 123), (.t 124)], none⟩])
 (.seq
 (.reg false [
 ⟨(some 126), .load true 3 (.t 10), none⟩,
 ⟨(some 127), .call .froz 49 [(.t 126)], none⟩,
 ⟨none, .store 3 (.t 10) (.t 127), none⟩])
 (.reg false [
 ⟨(some 128), .mv (.t 0), none⟩,
 ⟨(some 129), .mv (.t 11), none⟩,
 ⟨(some 130), .bin .sub (.t 128) (.t 129), none⟩,
 ⟨(some 131), .mv (.t 0), none⟩,
 ⟨(some 132), .bin .rem (.t 130) (.t 131), none⟩,
 ⟨(some 11), .mv (.t 132), none⟩])))))
 .skip)))
 (.seq
 (.reg false [
 ⟨(some 133), .fieldA 2 (.t 10), none⟩,
 ⟨(some 134), .load false 1 (.t 133), none⟩,
 ⟨(some 135), .mv (.t 12), none⟩,
 ⟨(some 136), .mv (.t 6), none⟩,
 ⟨(some 137), .bin .mul (.t 135) (.t 136), none⟩,
 ⟨(some 138), .mv (.t 12), none⟩,
 ⟨(some 139), .bin .add (.t 137) (.t 138), none⟩,
 ⟨(some 140), .bin .add (.t 139) (.k (.one (.v (.int .i64) ((1 : Int))))), none⟩,
 ⟨(some 141), .idxA 1 (.t 134) (.t 140), none⟩,
 ⟨(some 142), .load false 1 (.t 141), none⟩,
 ⟨(some 14), .mv (.t 142), none⟩])
 (.seq
 (.reg false [
 ⟨(some 143), .mv (.t 11), none⟩,
 ⟨(some 144), .mv (.t 14), none⟩,
 ⟨(some 145), .bin .mul (.t 143) (.t 144), none⟩,
 ⟨(some 146), .mv (.t 0), none⟩,
 ⟨(some 147), .bin .rem (.t 145) (.t 146), none⟩,
 ⟨(some 11), .mv (.t 147), none⟩])
 (.seq
 (.reg false [
 ⟨(some 148), .mv (.t 0), none⟩,
 ⟨(some 149), .mv (.t 14), none⟩,
 ⟨(some 150), .call .froz 71 [(.t 148), (.t 149)], none⟩,
 ⟨(some 15), .mv (.t 150), none⟩])
 (.seq
 (.reg false [
 ⟨(some 151), .mv (.t 12), none⟩,
 ⟨(some 152), .bin .add (.t 151) (.k (.one (.v (.int .i64) ((2 : Int))))), none⟩,
 ⟨(some 16), .mv (.t 152), none⟩])
 (.block 8
 (.loop 0 ⟨[(0, .one (.c (.v (.int .i64)))), (6, .one (.c (.v (.int .i64)))), (10, .one (.c (.ptr0 10 0))), (11, .one (.c (.v (.int .i64)))), (12, .one (.c (.v (.int .i64)))), (15, .one (.c (.v (.int .i64)))), (16, .one (.c (.v (.int .i64))))], [(10, .box [.c (.v (.int .i64)), .c (.v (.int .i64)), .c (.full 500004 1)]), (500004, .row true .froz [.int .i64])]⟩ [10, 180000, 189000, 500003, 500004] [(true, 10, 2, 500004, .froz, [])]
 (.seq
 (.seq
 (.reg false [
 ⟨(some 153), .mv (.t 16), none⟩,
 ⟨(some 154), .mv (.t 6), none⟩,
 ⟨(some 155), .bin .lss (.t 153) (.t 154), none⟩])
 (.cond (.t 155)
 .skip
 (.exit 8)))
 (.seq
 (.block 9
 (.seq
 (.reg false [
 ⟨(some 158), .fieldA 2 (.t 10), none⟩,
 ⟨(some 159), .load false 1 (.t 158), none⟩,
 ⟨(some 160), .mv (.t 12), none⟩,
 ⟨(some 161), .mv (.t 6), none⟩,
 ⟨(some 162), .bin .mul (.t 160) (.t 161), none⟩,
 ⟨(some 163), .mv (.t 16), none⟩,
 ⟨(some 164), .bin .add (.t 162) (.t 163), none⟩,
 ⟨(some 165), .idxA 1 (.t 159) (.t 164), none⟩,
 ⟨(some 166), .load false 1 (.t 165), none⟩,
 ⟨(some 167), .mv (.t 15), none⟩,
 ⟨(some 168), .bin .mul (.t 166) (.t 167), none⟩,
 ⟨(some 169), .mv (.t 0), none⟩,
 ⟨(some 170), .bin .rem (.t 168) (.t 169), none⟩,
 ⟨(some 17), .mv (.t 170), none⟩])
 (.seq
 (.reg false [
 ⟨(some 171), .mv (.t 0), none⟩,
 ⟨(some 172), .load true 3 (.t 10), none⟩,
 ⟨(some 173), .mv (.t 16), none⟩,
 ⟨(some 174), .mv (.t 12), none⟩,
 ⟨(some 175), .bin .add (.t 174) (.k (.one (.v (.int .i64) ((1 : Int))))), none⟩,
 ⟨(some 176), .mv (.t 17), none⟩,
 ⟨(some 177), .callm .froz 72 [(.t 171), (.t 172), (.t 173), (.t 175), (.t 176)], none⟩])
 (.seq
 (.reg false [
 ⟨(some 178), .load true 3 (.t 10), none⟩,
 ⟨(some 179), .call .froz 49 [(.t 178)], none⟩,
 ⟨none, .store 3 (.t 10) (.t 179), none⟩])
 (.seq
 (.reg false [
 ⟨(some 180), .mv (.t 0), none⟩,
 ⟨(some 181), .load true 3 (.t 10), none⟩,
 ⟨(some 182), .mv (.t 16), none⟩,
 ⟨(some 183), .mv (.t 12), none⟩,
 ⟨(some 184), .bin .add (.t 183) (.k (.one (.v (.int .i64) ((1 : Int))))), none⟩,
 ⟨(some 185), .mv (.t 17), none⟩,
 ⟨(some 186), .callm .froz 72 [(.t 180), (.t 181), (.t 182), (.t 184), (.t 185)], none⟩])
 (.reg false [
 ⟨(some 187), .load true 3 (.t 10), none⟩,
 ⟨(some 188), .call .froz 49 [(.t 187)], none⟩,
 ⟨none, .store 3 (.t 10) (.t 188), none⟩]))))))
 (.reg false [
 ⟨(some 156), .mv (.t 16), none⟩,
 ⟨(some 157), .bin .add (.t 156) (.k (.one (.v (.int .i64) ((1 : Int))))), none⟩,
 ⟨(some 16), .mv (.t 157), none⟩])))))))))))))))
 (.reg false [
 ⟨(some 86), .mv (.t 12), none⟩,
 ⟨(some 87), .bin .add (.t 86) (.k (.one (.v (.int .i64) ((2 : Int))))), none⟩,
 ⟨(some 12), .mv (.t 87), none⟩])))))))
 (.seq
 (.reg false [
 ⟨(some 189), .mv (.t 11), none⟩,
 ⟨(some 4), .mv (.t 189), none⟩,
 ⟨(some 5), .mv (.k (.one (.v (.bool) (true)))), none⟩])
 .ret)))))))))
def ms_spec_Pfaffian : List MRes := [.tmp 4, .tmp 5]
theorem n_spec_Pfaffian (NN : Nat) (x : DLL (Sig.tys ag_spec_Pfaffian)) : runS NN [fn_spec_MatrixOk, fn_spec_l05Ints, fn_spec_l31Swap, fn_spec_l31Turn, fn_spec_l31Inverse, fn_spec_l31Clear] sc_spec_Pfaffian ms_spec_Pfaffian ag_spec_Pfaffian rs_spec_Pfaffian x = G_spec_Pfaffian NN x := by kernel_rfl
theorem k_spec_Pfaffian : chkS Go.Proofs.Try.prog 40 sc_spec_Pfaffian.er ms_spec_Pfaffian 2 = true := by decide +kernel
theorem p_spec_Pfaffian : PureSpec Go.Proofs.Try.prog 40 fn_spec_Pfaffian.M ∧ chkFun Go.Proofs.Try.prog 40 = true :=
  pure_of_runS (T := [fn_spec_MatrixOk, fn_spec_l05Ints, fn_spec_l31Swap, fn_spec_l31Turn, fn_spec_l31Inverse, fn_spec_l31Clear]) (sc := sc_spec_Pfaffian) (ms := ms_spec_Pfaffian) (args := ag_spec_Pfaffian) (res := rs_spec_Pfaffian) (SOk.cons p_spec_MatrixOk <| SOk.cons p_spec_l05Ints <| SOk.consM p_spec_l31Swap <| SOk.cons p_spec_l31Turn <| SOk.cons p_spec_l31Inverse <| SOk.consM p_spec_l31Clear <| SOk.nil) follows_ok k_spec_Pfaffian F_spec_Pfaffian fun x y h => (n_spec_Pfaffian FUEL x).trans (f_spec_Pfaffian x y h)

def fn_impl_IsPrime : SFn := ⟨68, ag_impl_IsPrime, mu_impl_IsPrime, rs_impl_IsPrime, F_impl_IsPrime⟩
def sc_impl_IsPrime : SCode :=
 (.seq
 (.reg false [
 ⟨(some 2), .mv (.k (.one (.v (.bool) (false)))), none⟩])
 (.seq
 (.seq
 (.reg false [
 ⟨(some 4), .mv (.t 0), none⟩,
 ⟨(some 5), .bin .lss (.t 4) (.k (.one (.v (.int .i64) ((2 : Int))))), none⟩,
 ⟨(some 6), .mv (.t 5), none⟩,
 ⟨(some 7), .mv (.t 0), (some (6, false))⟩,
 ⟨(some 8), .bin .gtr (.t 7) (.k (.one (.v (.int .i64) ((1000003 : Int))))), (some (6, false))⟩,
 ⟨(some 9), .pick (.t 6) (.k (.one (.v (.bool) (true)))) (.t 8), none⟩])
 (.cond (.t 9)
 (.seq
 (.reg false [
 ⟨(some 2), .mv (.k (.one (.v (.bool) (false)))), none⟩])
 .ret)
 .skip))
 (.seq
 (.seq
 (.reg false [
 ⟨(some 3), .mv (.k (.one (.v (.int .i64) ((2 : Int))))), none⟩])
 (.join ⟨[], []⟩ [] []
 (.block 0
 (.loop 0 ⟨[(0, .one (.c (.v (.int .i64)))), (3, .one (.c (.v (.int .i64))))], []⟩ [] []
 (.seq
 (.seq
 (.reg false [
 ⟨(some 10), .mv (.t 3), none⟩,
 ⟨(some 11), .mv (.t 3), none⟩,
 ⟨(some 12), .bin .mul (.t 10) (.t 11), none⟩,
 ⟨(some 13), .mv (.t 0), none⟩,
 ⟨(some 14), .bin .leq (.t 12) (.t 13), none⟩])
 (.cond (.t 14)
 .skip
 (.exit 0)))
 (.seq
 (.block 1
 (.seq
 (.reg false [
 ⟨(some 17), .mv (.t 0), none⟩,
 ⟨(some 18), .mv (.t 3), none⟩,
 ⟨(some 19), .bin .rem (.t 17) (.t 18), none⟩,
 ⟨(some 20), .bin .eql (.t 19) (.k (.one (.v (.int .i64) ((0 : Int))))), none⟩])
 (.cond (.t 20)
 (.seq
 (.reg false [
 ⟨(some 2), .mv (.k (.one (.v (.bool) (false)))), none⟩])
 .ret)
 .skip)))
 (.reg false [
 ⟨(some 15), .mv (.t 3), none⟩,
 ⟨(some 16), .bin .add (.t 15) (.k (.one (.v (.int .i64) ((1 : Int))))), none⟩,
 ⟨(some 3), .mv (.t 16), none⟩])))))))
 (.seq
 (.reg false [
 ⟨(some 2), .mv (.k (.one (.v (.bool) (true)))), none⟩])
 .ret))))
def ms_impl_IsPrime : List MRes := [.tmp 2]
theorem n_impl_IsPrime (NN : Nat) (x : DLL (Sig.tys ag_impl_IsPrime)) : runS NN [] sc_impl_IsPrime ms_impl_IsPrime ag_impl_IsPrime rs_impl_IsPrime x = G_impl_IsPrime NN x := by kernel_rfl
theorem k_impl_IsPrime : chkS Go.Proofs.Try.prog 68 sc_impl_IsPrime.er ms_impl_IsPrime 1 = true := by decide +kernel
theorem p_impl_IsPrime : PureSpec Go.Proofs.Try.prog 68 fn_impl_IsPrime.M ∧ chkFun Go.Proofs.Try.prog 68 = true :=
  pure_of_runS (T := []) (sc := sc_impl_IsPrime) (ms := ms_impl_IsPrime) (args := ag_impl_IsPrime) (res := rs_impl_IsPrime) (SOk.nil) follows_ok k_impl_IsPrime F_impl_IsPrime fun x y h => (n_impl_IsPrime FUEL x).trans (f_impl_IsPrime x y h)

def fn_impl_inMod : SFn := ⟨79, ag_impl_inMod, mu_impl_inMod, rs_impl_inMod, F_impl_inMod⟩
def sc_impl_inMod : SCode :=
 (.seq
 (.reg false [
 ⟨(some 4), .mv (.k (.one (.v (.bool) (false)))), none⟩])
 (.seq
 (.seq
 (.reg false [
 ⟨(some 7), .mv (.t 1), none⟩,
 ⟨(some 8), .len (.t 7), none⟩,
 ⟨(some 9), .mv (.k (.one (.v (.int .i64) ((0 : Int))))), none⟩])
 (.join ⟨[], []⟩ [] []
 (.block 0
 (.loop 0 ⟨[(0, .one (.c (.v (.int .i64)))), (7, .one (.c (.v (.list [.int .i64])))), (8, .one (.c (.v (.int .i64)))), (9, .one (.c (.v (.int .i64))))], []⟩ [] []
 (.seq
 (.reg false [
 ⟨(some 10), .bin .lss (.t 9) (.t 8), none⟩])
 (.seq
 (.cond (.t 10)
 .skip
 (.exit 0))
 (.seq
 (.block 1
 (.seq
 (.reg false [
 ⟨(some 11), .idxA 1 (.t 7) (.t 9), none⟩,
 ⟨(some 12), .load false 1 (.t 11), none⟩,
 ⟨(some 6), .mv (.t 12), none⟩])
 (.seq
 (.reg false [
 ⟨(some 13), .mv (.t 6), none⟩,
 ⟨(some 14), .bin .lss (.t 13) (.k (.one (.v (.int .i64) ((0 : Int))))), none⟩,
 ⟨(some 15), .mv (.t 14), none⟩,
 ⟨(some 16), .mv (.t 6), (some (15, false))⟩,
 ⟨(some 17), .mv (.t 0), (some (15, false))⟩,
 ⟨(some 18), .bin .geq (.t 16) (.t 17), (some (15, false))⟩,
 ⟨(some 19), .pick (.t 15) (.k (.one (.v (.bool) (true)))) (.t 18), none⟩])
 (.cond (.t 19)
 (.seq
 (.reg false [
 ⟨(some 4), .mv (.k (.one (.v (.bool) (false)))), none⟩])
 .ret)
 .skip))))
 (.reg false [
 ⟨(some 20), .bin .add (.t 9) (.k (.one (.v (.int .i64) ((1 : Int))))), none⟩,
 ⟨(some 9), .mv (.t 20), none⟩]))))))))
 (.seq
 (.reg false [
 ⟨(some 4), .mv (.k (.one (.v (.bool) (true)))), none⟩])
 .ret)))
def ms_impl_inMod : List MRes := [.tmp 4]
theorem n_impl_inMod (NN : Nat) (x : DLL (Sig.tys ag_impl_inMod)) : runS NN [] sc_impl_inMod ms_impl_inMod ag_impl_inMod rs_impl_inMod x = G_impl_inMod NN x := by kernel_rfl
theorem k_impl_inMod : chkS Go.Proofs.Try.prog 79 sc_impl_inMod.er ms_impl_inMod 2 = true := by decide +kernel
theorem p_impl_inMod : PureSpec Go.Proofs.Try.prog 79 fn_impl_inMod.M ∧ chkFun Go.Proofs.Try.prog 79 = true :=
  pure_of_runS (T := []) (sc := sc_impl_inMod) (ms := ms_impl_inMod) (args := ag_impl_inMod) (res := rs_impl_inMod) (SOk.nil) follows_ok k_impl_inMod F_impl_inMod fun x y h => (n_impl_inMod FUEL x).trans (f_impl_inMod x y h)

def fn_impl_MatrixOk : SFn := ⟨51, ag_impl_MatrixOk, mu_impl_MatrixOk, rs_impl_MatrixOk, F_impl_MatrixOk⟩
def sc_impl_MatrixOk : SCode :=
 (.seq
 (.reg false [
 ⟨(some 3), .box 3 (.t 1), none⟩,
 ⟨(some 4), .mv (.k (.one (.v (.bool) (false)))), none⟩])
 (.seq
 (.seq
 (.reg false [
 ⟨(some 5), .mv (.t 0), none⟩,
 ⟨(some 6), .call .froz 68 [(.t 5)], none⟩,
 ⟨(some 7), .un .not (.t 6), none⟩,
 ⟨(some 8), .mv (.t 7), none⟩,
 ⟨(some 9), .fieldA 0 (.t 3), (some (8, false))⟩,
 ⟨(some 10), .load false 1 (.t 9), (some (8, false))⟩,
 ⟨(some 11), .bin .lss (.t 10) (.k (.one (.v (.int .i64) ((0 : Int))))), (some (8, false))⟩,
 ⟨(some 12), .pick (.t 8) (.k (.one (.v (.bool) (true)))) (.t 11), none⟩,
 ⟨(some 13), .mv (.t 12), none⟩,
 ⟨(some 14), .fieldA 1 (.t 3), (some (13, false))⟩,
 ⟨(some 15), .load false 1 (.t 14), (some (13, false))⟩,
 ⟨(some 16), .bin .lss (.t 15) (.k (.one (.v (.int .i64) ((0 : Int))))), (some (13, false))⟩,
 ⟨(some 17), .pick (.t 13) (.k (.one (.v (.bool) (true)))) (.t 16), none⟩,
 ⟨(some 18), .mv (.t 17), none⟩,
 ⟨(some 19), .fieldA 0 (.t 3), (some (18, false))⟩,
 ⟨(some 20), .load false 1 (.t 19), (some (18, false))⟩,
 ⟨(some 21), .bin .gtr (.t 20) (.k (.one (.v (.int .i64) ((64 : Int))))), (some (18, false))⟩,
 ⟨(some 22), .pick (.t 18) (.k (.one (.v (.bool) (true)))) (.t 21), none⟩,
 ⟨(some 23), .mv (.t 22), none⟩,
 ⟨(some 24), .fieldA 1 (.t 3), (some (23, false))⟩,
 ⟨(some 25), .load false 1 (.t 24), (some (23, false))⟩,
 ⟨(some 26), .bin .gtr (.t 25) (.k (.one (.v (.int .i64) ((64 : Int))))), (some (23, false))⟩,
 ⟨(some 27), .pick (.t 23) (.k (.one (.v (.bool) (true)))) (.t 26), none⟩])
 (.cond (.t 27)
 (.seq
 (.reg false [
 ⟨(some 4), .mv (.k (.one (.v (.bool) (false)))), none⟩])
 .ret)
 .skip))
 (.seq
 (.reg false [
 ⟨(some 28), .fieldA 2 (.t 3), none⟩,
 ⟨(some 29), .load false 1 (.t 28), none⟩,
 ⟨(some 30), .len (.t 29), none⟩,
 ⟨(some 31), .fieldA 0 (.t 3), none⟩,
 ⟨(some 32), .load false 1 (.t 31), none⟩,
 ⟨(some 33), .fieldA 1 (.t 3), none⟩,
 ⟨(some 34), .load false 1 (.t 33), none⟩,
 ⟨(some 35), .bin .mul (.t 32) (.t 34), none⟩,
 ⟨(some 36), .bin .eql (.t 30) (.t 35), none⟩,
 ⟨(some 37), .mv (.t 36), none⟩,
 ⟨(some 38), .mv (.t 0), (some (37, true))⟩,
 ⟨(some 39), .fieldA 2 (.t 3), (some (37, true))⟩,
 ⟨(some 40), .load false 1 (.t 39), (some (37, true))⟩,
 ⟨(some 41), .call .froz 79 [(.t 38), (.t 40)], (some (37, true))⟩,
 ⟨(some 42), .pick (.t 37) (.t 41) (.k (.one (.v (.bool) (false)))), none⟩,
 ⟨(some 4), .mv (.t 42), none⟩])
 .ret)))
def ms_impl_MatrixOk : List MRes := [.tmp 4]
theorem n_impl_MatrixOk (NN : Nat) (x : DLL (Sig.tys ag_impl_MatrixOk)) : runS NN [fn_impl_IsPrime, fn_impl_inMod] sc_impl_MatrixOk ms_impl_MatrixOk ag_impl_MatrixOk rs_impl_MatrixOk x = G_impl_MatrixOk NN x := by kernel_rfl
theorem k_impl_MatrixOk : chkS Go.Proofs.Try.prog 51 sc_impl_MatrixOk.er ms_impl_MatrixOk 2 = true := by decide +kernel
theorem p_impl_MatrixOk : PureSpec Go.Proofs.Try.prog 51 fn_impl_MatrixOk.M ∧ chkFun Go.Proofs.Try.prog 51 = true :=
  pure_of_runS (T := [fn_impl_IsPrime, fn_impl_inMod]) (sc := sc_impl_MatrixOk) (ms := ms_impl_MatrixOk) (args := ag_impl_MatrixOk) (res := rs_impl_MatrixOk) (SOk.cons p_impl_IsPrime <| SOk.cons p_impl_inMod <| SOk.nil) follows_ok k_impl_MatrixOk F_impl_MatrixOk fun x y h => (n_impl_MatrixOk FUEL x).trans (f_impl_MatrixOk x y h)

def fn_impl_Matrix_at : SFn := ⟨62, ag_impl_Matrix_at, mu_impl_Matrix_at, rs_impl_Matrix_at, F_impl_Matrix_at⟩
def sc_impl_Matrix_at : SCode :=
 (.seq
 (.reg false [
 ⟨(some 3), .box 3 (.t 0), none⟩,
 ⟨(some 6), .mv (.k (.one (.v (.int .i64) ((0 : Int))))), none⟩])
 (.seq
 (.reg false [
 ⟨(some 7), .fieldA 2 (.t 3), none⟩,
 ⟨(some 8), .load false 1 (.t 7), none⟩,
 ⟨(some 9), .mv (.t 1), none⟩,
 ⟨(some 10), .fieldA 1 (.t 3), none⟩,
 ⟨(some 11), .load false 1 (.t 10), none⟩,
 ⟨(some 12), .bin .mul (.t 9) (.t 11), none⟩,
 ⟨(some 13), .mv (.t 2), none⟩,
 ⟨(some 14), .bin .add (.t 12) (.t 13), none⟩,
 ⟨(some 15), .idxA 1 (.t 8) (.t 14), none⟩,
 ⟨(some 16), .load false 1 (.t 15), none⟩,
 ⟨(some 6), .mv (.t 16), none⟩])
 .ret))
def ms_impl_Matrix_at : List MRes := [.tmp 6]
theorem n_impl_Matrix_at (NN : Nat) (x : DLL (Sig.tys ag_impl_Matrix_at)) : runS NN [] sc_impl_Matrix_at ms_impl_Matrix_at ag_impl_Matrix_at rs_impl_Matrix_at x = G_impl_Matrix_at NN x := by kernel_rfl
theorem k_impl_Matrix_at : chkS Go.Proofs.Try.prog 62 sc_impl_Matrix_at.er ms_impl_Matrix_at 3 = true := by decide +kernel
theorem p_impl_Matrix_at : PureSpec Go.Proofs.Try.prog 62 fn_impl_Matrix_at.M ∧ chkFun Go.Proofs.Try.prog 62 = true :=
  pure_of_runS (T := []) (sc := sc_impl_Matrix_at) (ms := ms_impl_Matrix_at) (args := ag_impl_Matrix_at) (res := rs_impl_Matrix_at) (SOk.nil) follows_ok k_impl_Matrix_at F_impl_Matrix_at fun x y h => (n_impl_Matrix_at FUEL x).trans (f_impl_Matrix_at x y h)

def fn_impl_alternating : SFn := ⟨66, ag_impl_alternating, mu_impl_alternating, rs_impl_alternating, F_impl_alternating⟩
def sc_impl_alternating : SCode :=
 (.seq
 (.reg false [
 ⟨(some 3), .box 3 (.t 1), none⟩,
 ⟨(some 4), .mv (.k (.one (.v (.bool) (false)))), none⟩])
 (.seq
 (.seq
 (.reg false [
 ⟨(some 5), .mv (.k (.one (.v (.int .i64) ((0 : Int))))), none⟩])
 (.join ⟨[], []⟩ [3] []
 (.block 0
 (.loop 0 ⟨[(0, .one (.c (.v (.int .i64)))), (3, .one (.c (.ptr0 3 0))), (5, .one (.c (.v (.int .i64))))], [(3, .box [.c (.v (.int .i64)), .c (.v (.int .i64)), .c (.v (.list [.int .i64]))])]⟩ [3] []
 (.seq
 (.seq
 (.reg false [
 ⟨(some 7), .mv (.t 5), none⟩,
 ⟨(some 8), .fieldA 0 (.t 3), none⟩,
 ⟨(some 9), .load false 1 (.t 8), none⟩,
 ⟨(some 10), .bin .lss (.t 7) (.t 9), none⟩])
 (.cond (.t 10)
 .skip
 (.exit 0)))
 (.seq
 (.join ⟨[(5, .one (.c (.v (.int .i64)))), (0, .one (.c (.v (.int .i64)))), (3, .one (.c (.ptr0 3 0)))], [(3, .box [.c (.v (.int .i64)), .c (.v (.int .i64)), .c (.v (.list [.int .i64]))])]⟩ [3] []
 (.block 1
 (.seq
 (.reg false [
 ⟨(some 6), .mv (.k (.one (.v (.int .i64) ((0 : Int))))), none⟩])
 (.block 2
 (.loop 0 ⟨[(0, .one (.c (.v (.int .i64)))), (3, .one (.c (.ptr0 3 0))), (5, .one (.c (.v (.int .i64)))), (6, .one (.c (.v (.int .i64))))], [(3, .box [.c (.v (.int .i64)), .c (.v (.int .i64)), .c (.v (.list [.int .i64]))])]⟩ [3] []
 (.seq
 (.seq
 (.reg false [
 ⟨(some 13), .mv (.t 6), none⟩,
 ⟨(some 14), .mv (.t 5), none⟩,
 ⟨(some 15), .bin .leq (.t 13) (.t 14), none⟩])
 (.cond (.t 15)
 .skip
 (.exit 2)))
 (.seq
 (.block 3
 (.seq
 (.reg true [
 ⟨(some 18), .load true 3 (.t 3), none⟩,
 ⟨(some 19), .mv (.t 5), none⟩,
 ⟨(some 20), .mv (.t 6), none⟩,
 ⟨(some 21), .call .froz 62 [(.t 18), (.t 19), (.t 20)], none⟩,
 ⟨(some 22), .load true 3 (.t 3), none⟩,
 ⟨(some 23), .mv (.t 6), none⟩,
 ⟨(some 24), .mv (.t 5), none⟩,
 ⟨(some 25), .call .froz 62 [(.t 22), (.t 23), (.t 24)], none⟩,
 ⟨(some 26), .bin .add (.t 21) (.t 25), none⟩,
 ⟨(some 27), .mv (.t 0), none⟩,
 ⟨(some 28), .bin .rem (.t 26) (.t 27), none⟩,
 ⟨(some 29), .bin .neq (.t 28) (.k (.one (.v (.int .i64) ((0 : Int))))), none⟩,
 ⟨(some 30), .mv (.t 29), none⟩,
 ⟨(some 31), .mv (.t 5), (some (30, false))⟩,
 ⟨(some 32), .mv (.t 6), (some (30, false))⟩,
 ⟨(some 33), .bin .eql (.t 31) (.t 32), (some (30, false))⟩,
 ⟨(some 34), .mv (.t 33), (some (30, false))⟩,
 ⟨(some 35), .load true 3 (.t 3), (some (34, true))⟩,
 ⟨(some 36), .mv (.t 5), (some (34, true))⟩,
 ⟨(some 37), .mv (.t 5), (some (34, true))⟩,
 ⟨(some 38), .call .froz 62 [(.t 35), (.t 36), (.t 37)], (some (34, true))⟩,
 ⟨(some 39), .bin .neq (.t 38) (.k (.one (.v (.int .i64) ((0 : Int))))), (some (34, true))⟩,
 ⟨(some 40), .pick (.t 34) (.t 39) (.k (.one (.v (.bool) (false)))), (some (30, false))⟩,
 ⟨(some 41), .pick (.t 30) (.k (.one (.v (.bool) (true)))) (.t 40), none⟩])
 (.cond (.t 41)
 (.seq
 (.reg false [
 ⟨(some 4), .mv (.k (.one (.v (.bool) (false)))), none⟩])
 .ret)
 .skip)))
 (.reg false [
 ⟨(some 16), .mv (.t 6), none⟩,
 ⟨(some 17), .bin .add (.t 16) (.k (.one (.v (.int .i64) ((1 : Int))))), none⟩,
 ⟨(some 6), .mv (.t 17), none⟩]))))))))
 (.reg false [
 ⟨(some 11), .mv (.t 5), none⟩,
 ⟨(some 12), .bin .add (.t 11) (.k (.one (.v (.int .i64) ((1 : Int))))), none⟩,
 ⟨(some 5), .mv (.t 12), none⟩])))))))
 (.seq
 (.reg false [
 ⟨(some 4), .mv (.k (.one (.v (.bool) (true)))), none⟩])
 .ret)))
def ms_impl_alternating : List MRes := [.tmp 4]
theorem n_impl_alternating (NN : Nat) (x : DLL (Sig.tys ag_impl_alternating)) : runS NN [fn_impl_Matrix_at] sc_impl_alternating ms_impl_alternating ag_impl_alternating rs_impl_alternating x = G_impl_alternating NN x := by kernel_rfl
theorem k_impl_alternating : chkS Go.Proofs.Try.prog 66 sc_impl_alternating.er ms_impl_alternating 2 = true := by decide +kernel
theorem p_impl_alternating : PureSpec Go.Proofs.Try.prog 66 fn_impl_alternating.M ∧ chkFun Go.Proofs.Try.prog 66 = true :=
  pure_of_runS (T := [fn_impl_Matrix_at]) (sc := sc_impl_alternating) (ms := ms_impl_alternating) (args := ag_impl_alternating) (res := rs_impl_alternating) (SOk.cons p_impl_Matrix_at <| SOk.nil) follows_ok k_impl_alternating F_impl_alternating fun x y h => (n_impl_alternating FUEL x).trans (f_impl_alternating x y h)

def fn_impl_copyInts : SFn := ⟨74, ag_impl_copyInts, mu_impl_copyInts, rs_impl_copyInts, F_impl_copyInts⟩
def sc_impl_copyInts : SCode :=
 (.seq
 (.reg false [
 ⟨(some 2), .mv (.k (.one (.nil [.int .i64]))), none⟩])
 (.seq
 (.reg false [
 ⟨(some 3), .mv (.t 0), none⟩,
 ⟨(some 4), .append true [.int .i64] 8 (.k (.one (.nil [.int .i64]))) (.t 3), none⟩,
 ⟨(some 2), .mv (.t 4), none⟩])
 .ret))
def ms_impl_copyInts : List MRes := [.tmp 2]
theorem n_impl_copyInts (NN : Nat) (x : DLL (Sig.tys ag_impl_copyInts)) : runS NN [] sc_impl_copyInts ms_impl_copyInts ag_impl_copyInts rs_impl_copyInts x = G_impl_copyInts NN x := by kernel_rfl
theorem k_impl_copyInts : chkS Go.Proofs.Try.prog 74 sc_impl_copyInts.er ms_impl_copyInts 1 = true := by decide +kernel
theorem p_impl_copyInts : PureSpec Go.Proofs.Try.prog 74 fn_impl_copyInts.M ∧ chkFun Go.Proofs.Try.prog 74 = true :=
  pure_of_runS (T := []) (sc := sc_impl_copyInts) (ms := ms_impl_copyInts) (args := ag_impl_copyInts) (res := rs_impl_copyInts) (SOk.nil) follows_ok k_impl_copyInts F_impl_copyInts fun x y h => (n_impl_copyInts FUEL x).trans (f_impl_copyInts x y h)

def fn_impl_copyMatrix : SFn := ⟨61, ag_impl_copyMatrix, mu_impl_copyMatrix, rs_impl_copyMatrix, F_impl_copyMatrix⟩
def sc_impl_copyMatrix : SCode :=
 (.seq
 (.reg false [
 ⟨(some 1), .box 3 (.t 0), none⟩,
 ⟨(some 2), .alloc [.v (.int .i64) ((0 : Int)), .v (.int .i64) ((0 : Int)), .nil [.int .i64]], none⟩])
 (.seq
 (.reg true [
 ⟨(some 3), .fieldA 0 (.t 1), none⟩,
 ⟨(some 4), .load false 1 (.t 3), none⟩,
 ⟨(some 5), .fieldA 1 (.t 1), none⟩,
 ⟨(some 6), .load false 1 (.t 5), none⟩,
 ⟨(some 7), .fieldA 2 (.t 1), none⟩,
 ⟨(some 8), .load false 1 (.t 7), none⟩,
 ⟨(some 9), .call .froz 74 [(.t 8)], none⟩,
 ⟨(some 10), .build [.v (.int .i64) ((0 : Int)), .v (.int .i64) ((0 : Int)), .nil [.int .i64]] [(0, 1, (.t 4)), (1, 1, (.t 6)), (2, 1, (.t 9))], none⟩,
 ⟨none, .store 3 (.t 2) (.t 10), none⟩])
 .ret))
def ms_impl_copyMatrix : List MRes := [.cell 2 3 true]
theorem n_impl_copyMatrix (NN : Nat) (x : DLL (Sig.tys ag_impl_copyMatrix)) : runS NN [fn_impl_copyInts] sc_impl_copyMatrix ms_impl_copyMatrix ag_impl_copyMatrix rs_impl_copyMatrix x = G_impl_copyMatrix NN x := by kernel_rfl
theorem k_impl_copyMatrix : chkS Go.Proofs.Try.prog 61 sc_impl_copyMatrix.er ms_impl_copyMatrix 1 = true := by decide +kernel
theorem p_impl_copyMatrix : PureSpec Go.Proofs.Try.prog 61 fn_impl_copyMatrix.M ∧ chkFun Go.Proofs.Try.prog 61 = true :=
  pure_of_runS (T := [fn_impl_copyInts]) (sc := sc_impl_copyMatrix) (ms := ms_impl_copyMatrix) (args := ag_impl_copyMatrix) (res := rs_impl_copyMatrix) (SOk.cons p_impl_copyInts <| SOk.nil) follows_ok k_impl_copyMatrix F_impl_copyMatrix fun x y h => (n_impl_copyMatrix FUEL x).trans (f_impl_copyMatrix x y h)

def fn_impl_Matrix_set : SFn := ⟨67, ag_impl_Matrix_set, mu_impl_Matrix_set, rs_impl_Matrix_set, F_impl_Matrix_set⟩
def sc_impl_Matrix_set : SCode :=
 (.seq
 (.reg false [
 ⟨(some 4), .box 3 (.t 0), none⟩])
 (.reg false [
 ⟨(some 8), .fieldA 2 (.t 4), none⟩,
 ⟨(some 9), .load false 1 (.t 8), none⟩,
 ⟨(some 10), .mv (.t 1), none⟩,
 ⟨(some 11), .fieldA 1 (.t 4), none⟩,
 ⟨(some 12), .load false 1 (.t 11), none⟩,
 ⟨(some 13), .bin .mul (.t 10) (.t 12), none⟩,
 ⟨(some 14), .mv (.t 2), none⟩,
 ⟨(some 15), .bin .add (.t 13) (.t 14), none⟩,
 ⟨(some 16), .mv (.t 3), none⟩,
 ⟨(some 17), .idxA 1 (.t 9) (.t 15), none⟩,
 ⟨none, .store 1 (.t 17) (.t 16), none⟩]))
def ms_impl_Matrix_set : List MRes := []
theorem n_impl_Matrix_set (NN : Nat) (x : DLL (Sig.tys ag_impl_Matrix_set)) : runMS NN [] sc_impl_Matrix_set ms_impl_Matrix_set ag_impl_Matrix_set mu_impl_Matrix_set rs_impl_Matrix_set x = G_impl_Matrix_set NN x := by kernel_rfl
theorem k_impl_Matrix_set : chkS Go.Proofs.Try.prog 67 sc_impl_Matrix_set.er ms_impl_Matrix_set 4 = true := by decide +kernel
theorem p_impl_Matrix_set : MutSpec Go.Proofs.Try.prog 67 mu_impl_Matrix_set fn_impl_Matrix_set.MM ∧ chkFun Go.Proofs.Try.prog 67 = true :=
  mut_of_runMS (T := []) (sc := sc_impl_Matrix_set) (ms := ms_impl_Matrix_set) (args := ag_impl_Matrix_set) (mu := mu_impl_Matrix_set) (res := rs_impl_Matrix_set) (SOk.nil) follows_ok k_impl_Matrix_set F_impl_Matrix_set fun x y h => (n_impl_Matrix_set FUEL x).trans (f_impl_Matrix_set x y h)

def fn_impl_Matrix_swapRows : SFn := ⟨63, ag_impl_Matrix_swapRows, mu_impl_Matrix_swapRows, rs_impl_Matrix_swapRows, F_impl_Matrix_swapRows⟩
def sc_impl_Matrix_swapRows : SCode :=
 (.seq
 (.reg false [
 ⟨(some 3), .box 3 (.t 0), none⟩])
 (.seq
 (.reg false [
 ⟨(some 6), .mv (.k (.one (.v (.int .i64) ((0 : Int))))), none⟩])
 (.block 0
 (.loop 0 ⟨[(1, .one (.c (.v (.int .i64)))), (2, .one (.c (.v (.int .i64)))), (3, .one (.c (.ptr0 3 0))), (6, .one (.c (.v (.int .i64))))], [(1000000, .row false .froz [.int .i64]), (3, .box [.c (.v (.int .i64)), .c (.v (.int .i64)), .c (.full 1000000 1)])]⟩ [1000000, 3, 500000] [(true, 3, 2, 500000, .froz, [])]
 (.seq
 (.seq
 (.reg false [
 ⟨(some 9), .mv (.t 6), none⟩,
 ⟨(some 10), .fieldA 1 (.t 3), none⟩,
 ⟨(some 11), .load false 1 (.t 10), none⟩,
 ⟨(some 12), .bin .lss (.t 9) (.t 11), none⟩])
 (.cond (.t 12)
 .skip
 (.exit 0)))
 (.seq
 (.block 1
 (.seq
 (.reg true [
 ⟨(some 15), .load true 3 (.t 3), none⟩,
 ⟨(some 16), .mv (.t 1), none⟩,
 ⟨(some 17), .mv (.t 6), none⟩,
 ⟨(some 18), .call .froz 62 [(.t 15), (.t 16), (.t 17)], none⟩,
 ⟨(some 19), .load true 3 (.t 3), none⟩,
 ⟨(some 20), .mv (.t 2), none⟩,
 ⟨(some 21), .mv (.t 6), none⟩,
 ⟨(some 22), .call .froz 62 [(.t 19), (.t 20), (.t 21)], none⟩,
 ⟨(some 7), .mv (.t 18), none⟩,
 ⟨(some 8), .mv (.t 22), none⟩])
 (.seq
 (.reg false [
 ⟨(some 23), .load true 3 (.t 3), none⟩,
 ⟨(some 24), .mv (.t 1), none⟩,
 ⟨(some 25), .mv (.t 6), none⟩,
 ⟨(some 26), .mv (.t 8), none⟩,
 ⟨(some 27), .callm .froz 67 [(.t 23), (.t 24), (.t 25), (.t 26)], none⟩])
 (.reg false [
 ⟨(some 28), .load true 3 (.t 3), none⟩,
 ⟨(some 29), .mv (.t 2), none⟩,
 ⟨(some 30), .mv (.t 6), none⟩,
 ⟨(some 31), .mv (.t 7), none⟩,
 ⟨(some 32), .callm .froz 67 [(.t 28), (.t 29), (.t 30), (.t 31)], none⟩]))))
 (.reg false [
 ⟨(some 13), .mv (.t 6), none⟩,
 ⟨(some 14), .bin .add (.t 13) (.k (.one (.v (.int .i64) ((1 : Int))))), none⟩,
 ⟨(some 6), .mv (.t 14), none⟩])))))))
def ms_impl_Matrix_swapRows : List MRes := []
theorem n_impl_Matrix_swapRows (NN : Nat) (x : DLL (Sig.tys ag_impl_Matrix_swapRows)) : runMS NN [fn_impl_Matrix_at, fn_impl_Matrix_set] sc_impl_Matrix_swapRows ms_impl_Matrix_swapRows ag_impl_Matrix_swapRows mu_impl_Matrix_swapRows rs_impl_Matrix_swapRows x = G_impl_Matrix_swapRows NN x := by kernel_rfl
theorem k_impl_Matrix_swapRows : chkS Go.Proofs.Try.prog 63 sc_impl_Matrix_swapRows.er ms_impl_Matrix_swapRows 3 = true := by decide +kernel
theorem p_impl_Matrix_swapRows : MutSpec Go.Proofs.Try.prog 63 mu_impl_Matrix_swapRows fn_impl_Matrix_swapRows.MM ∧ chkFun Go.Proofs.Try.prog 63 = true :=
  mut_of_runMS (T := [fn_impl_Matrix_at, fn_impl_Matrix_set]) (sc := sc_impl_Matrix_swapRows) (ms := ms_impl_Matrix_swapRows) (args := ag_impl_Matrix_swapRows) (mu := mu_impl_Matrix_swapRows) (res := rs_impl_Matrix_swapRows) (SOk.cons p_impl_Matrix_at <| SOk.consM p_impl_Matrix_set <| SOk.nil) follows_ok k_impl_Matrix_swapRows F_impl_Matrix_swapRows fun x y h => (n_impl_Matrix_swapRows FUEL x).trans (f_impl_Matrix_swapRows x y h)

def fn_impl_emptyMatrix : SFn := ⟨73, ag_impl_emptyMatrix, mu_impl_emptyMatrix, rs_impl_emptyMatrix, F_impl_emptyMatrix⟩
def sc_impl_emptyMatrix : SCode :=
 (.seq
 (.reg false [
 ⟨(some 4), .alloc [.v (.int .i64) ((0 : Int)), .v (.int .i64) ((0 : Int)), .nil [.int .i64]], none⟩])
 (.seq
 (.reg false [
 ⟨(some 5), .mv (.t 0), none⟩,
 ⟨(some 6), .mv (.t 1), none⟩,
 ⟨(some 7), .mv (.t 0), none⟩,
 ⟨(some 8), .mv (.t 1), none⟩,
 ⟨(some 9), .bin .mul (.t 7) (.t 8), none⟩,
 ⟨(some 10), .mkslice .froz [.int .i64] 8 (0 : Int) (.t 9) (.t 9), none⟩,
 ⟨(some 11), .build [.v (.int .i64) ((0 : Int)), .v (.int .i64) ((0 : Int)), .nil [.int .i64]] [(0, 1, (.t 5)), (1, 1, (.t 6)), (2, 1, (.t 10))], none⟩,
 ⟨none, .store 3 (.t 4) (.t 11), none⟩])
 .ret))
def ms_impl_emptyMatrix : List MRes := [.cell 4 3 true]
theorem n_impl_emptyMatrix (NN : Nat) (x : DLL (Sig.tys ag_impl_emptyMatrix)) : runS NN [] sc_impl_emptyMatrix ms_impl_emptyMatrix ag_impl_emptyMatrix rs_impl_emptyMatrix x = G_impl_emptyMatrix NN x := by kernel_rfl
theorem k_impl_emptyMatrix : chkS Go.Proofs.Try.prog 73 sc_impl_emptyMatrix.er ms_impl_emptyMatrix 2 = true := by decide +kernel
theorem p_impl_emptyMatrix : PureSpec Go.Proofs.Try.prog 73 fn_impl_emptyMatrix.M ∧ chkFun Go.Proofs.Try.prog 73 = true :=
  pure_of_runS (T := []) (sc := sc_impl_emptyMatrix) (ms := ms_impl_emptyMatrix) (args := ag_impl_emptyMatrix) (res := rs_impl_emptyMatrix) (SOk.nil) follows_ok k_impl_emptyMatrix F_impl_emptyMatrix fun x y h => (n_impl_emptyMatrix FUEL x).trans (f_impl_emptyMatrix x y h)

def fn_impl_rawTranspose : SFn := ⟨52, ag_impl_rawTranspose, mu_impl_rawTranspose, rs_impl_rawTranspose, F_impl_rawTranspose⟩
def sc_impl_rawTranspose : SCode :=
 (.seq
 (.reg false [
 ⟨(some 1), .box 3 (.t 0), none⟩,
 ⟨(some 2), .alloc [.v (.int .i64) ((0 : Int)), .v (.int .i64) ((0 : Int)), .nil [.int .i64]], none⟩])
 (.seq
 (.reg false [
 ⟨(some 6), .fieldA 1 (.t 1), none⟩,
 ⟨(some 7), .load false 1 (.t 6), none⟩,
 ⟨(some 8), .fieldA 0 (.t 1), none⟩,
 ⟨(some 9), .load false 1 (.t 8), none⟩,
 ⟨(some 10), .call .froz 73 [(.t 7), (.t 9)], none⟩,
 ⟨(some 3), .alloc [.v (.int .i64) ((0 : Int)), .v (.int .i64) ((0 : Int)), .nil [.int .i64]], none⟩,
 ⟨none, .store 3 (.t 3) (.t 10), none⟩])
 (.seq
 (.seq
 (.reg false [
 ⟨(some 4), .mv (.k (.one (.v (.int .i64) ((0 : Int))))), none⟩])
 (.join ⟨[(3, .one (.c (.ptr0 3 0))), (2, .one (.c (.ptr0 2 0)))], [(2, .box [.c (.v (.int .i64)), .c (.v (.int .i64)), .c (.full 500006 1)]), (3, .box [.c (.v (.int .i64)), .c (.v (.int .i64)), .c (.full 500007 1)]), (500006, .row true .froz [.int .i64]), (500007, .row true .froz [.int .i64])]⟩ [1, 2, 3, 500000, 500001, 500006, 500007] [(true, 2, 2, 500006, .froz, []), (true, 3, 2, 500007, .froz, [])]
 (.block 0
 (.loop 0 ⟨[(1, .one (.c (.ptr0 1 0))), (2, .one (.c (.ptr0 2 0))), (3, .one (.c (.ptr0 3 0))), (4, .one (.c (.v (.int .i64))))], [(1, .box [.c (.v (.int .i64)), .c (.v (.int .i64)), .c (.v (.list [.int .i64]))]), (2, .box [.c (.v (.int .i64)), .c (.v (.int .i64)), .c (.full 500000 1)]), (3, .box [.c (.v (.int .i64)), .c (.v (.int .i64)), .c (.full 500001 1)]), (500000, .row true .froz [.int .i64]), (500001, .row true .froz [.int .i64])]⟩ [1, 2, 11000, 3, 500000, 500001, 500004, 500005] [(true, 2, 2, 500000, .froz, []), (true, 3, 2, 500001, .froz, [])]
 (.seq
 (.seq
 (.reg false [
 ⟨(some 11), .mv (.t 4), none⟩,
 ⟨(some 12), .fieldA 0 (.t 1), none⟩,
 ⟨(some 13), .load false 1 (.t 12), none⟩,
 ⟨(some 14), .bin .lss (.t 11) (.t 13), none⟩])
 (.cond (.t 14)
 .skip
 (.exit 0)))
 (.seq
 (.join ⟨[(4, .one (.c (.v (.int .i64)))), (1, .one (.c (.ptr0 1 0))), (2, .one (.c (.ptr0 2 0))), (3, .one (.c (.ptr0 3 0)))], [(1, .box [.c (.v (.int .i64)), .c (.v (.int .i64)), .c (.v (.list [.int .i64]))]), (2, .box [.c (.v (.int .i64)), .c (.v (.int .i64)), .c (.full 500004 1)]), (3, .box [.c (.v (.int .i64)), .c (.v (.int .i64)), .c (.full 500005 1)]), (500004, .row true .froz [.int .i64]), (500005, .row true .froz [.int .i64])]⟩ [1, 2, 3, 500002, 500003, 500004, 500005] [(true, 2, 2, 500004, .froz, []), (true, 3, 2, 500005, .froz, [])]
 (.block 1
 (.seq
 (.reg false [
 ⟨(some 5), .mv (.k (.one (.v (.int .i64) ((0 : Int))))), none⟩])
 (.block 2
 (.loop 0 ⟨[(1, .one (.c (.ptr0 1 0))), (2, .one (.c (.ptr0 2 0))), (3, .one (.c (.ptr0 3 0))), (4, .one (.c (.v (.int .i64)))), (5, .one (.c (.v (.int .i64))))], [(1, .box [.c (.v (.int .i64)), .c (.v (.int .i64)), .c (.v (.list [.int .i64]))]), (2, .box [.c (.v (.int .i64)), .c (.v (.int .i64)), .c (.full 500002 1)]), (3, .box [.c (.v (.int .i64)), .c (.v (.int .i64)), .c (.full 500003 1)]), (500002, .row true .froz [.int .i64]), (500003, .row true .froz [.int .i64])]⟩ [1, 2, 3, 500000, 500001, 500002, 500003] [(true, 2, 2, 500002, .froz, []), (true, 3, 2, 500003, .froz, [])]
 (.seq
 (.seq
 (.reg false [
 ⟨(some 17), .mv (.t 5), none⟩,
 ⟨(some 18), .fieldA 1 (.t 1), none⟩,
 ⟨(some 19), .load false 1 (.t 18), none⟩,
 ⟨(some 20), .bin .lss (.t 17) (.t 19), none⟩])
 (.cond (.t 20)
 .skip
 (.exit 2)))
 (.seq
 (.block 3
 (.reg true [
 ⟨(some 23), .load true 3 (.t 3), none⟩,
 ⟨(some 24), .mv (.t 5), none⟩,
 ⟨(some 25), .mv (.t 4), none⟩,
 ⟨(some 26), .load true 3 (.t 1), none⟩,
 ⟨(some 27), .mv (.t 4), none⟩,
 ⟨(some 28), .mv (.t 5), none⟩,
 ⟨(some 29), .call .froz 62 [(.t 26), (.t 27), (.t 28)], none⟩,
 ⟨(some 30), .callm .froz 67 [(.t 23), (.t 24), (.t 25), (.t 29)], none⟩]))
 (.reg false [
 ⟨(some 21), .mv (.t 5), none⟩,
 ⟨(some 22), .bin .add (.t 21) (.k (.one (.v (.int .i64) ((1 : Int))))), none⟩,
 ⟨(some 5), .mv (.t 22), none⟩]))))))))
 (.reg false [
 ⟨(some 15), .mv (.t 4), none⟩,
 ⟨(some 16), .bin .add (.t 15) (.k (.one (.v (.int .i64) ((1 : Int))))), none⟩,
 ⟨(some 4), .mv (.t 16), none⟩])))))))
 (.seq
 (.reg false [
 ⟨(some 31), .load true 3 (.t 3), none⟩,
 ⟨none, .store 3 (.t 2) (.t 31), none⟩])
 .ret))))
def ms_impl_rawTranspose : List MRes := [.cell 2 3 true]
theorem n_impl_rawTranspose (NN : Nat) (x : DLL (Sig.tys ag_impl_rawTranspose)) : runS NN [fn_impl_emptyMatrix, fn_impl_Matrix_at, fn_impl_Matrix_set] sc_impl_rawTranspose ms_impl_rawTranspose ag_impl_rawTranspose rs_impl_rawTranspose x = G_impl_rawTranspose NN x := by kernel_rfl
theorem k_impl_rawTranspose : chkS Go.Proofs.Try.prog 52 sc_impl_rawTranspose.er ms_impl_rawTranspose 1 = true := by decide +kernel
theorem p_impl_rawTranspose : PureSpec Go.Proofs.Try.prog 52 fn_impl_rawTranspose.M ∧ chkFun Go.Proofs.Try.prog 52 = true :=
  pure_of_runS (T := [fn_impl_emptyMatrix, fn_impl_Matrix_at, fn_impl_Matrix_set]) (sc := sc_impl_rawTranspose) (ms := ms_impl_rawTranspose) (args := ag_impl_rawTranspose) (res := rs_impl_rawTranspose) (SOk.cons p_impl_emptyMatrix <| SOk.cons p_impl_Matrix_at <| SOk.consM p_impl_Matrix_set <| SOk.nil) follows_ok k_impl_rawTranspose F_impl_rawTranspose fun x y h => (n_impl_rawTranspose FUEL x).trans (f_impl_rawTranspose x y h)

def fn_impl_rawInverse : SFn := ⟨64, ag_impl_rawInverse, mu_impl_rawInverse, rs_impl_rawInverse, F_impl_rawInverse⟩
def sc_impl_rawInverse : SCode :=
 (.seq
 (.reg false [
 ⟨(some 4), .mv (.k (.one (.v (.int .i64) ((0 : Int))))), none⟩])
 (.seq
 (.reg false [
 ⟨(some 5), .mv (.k (.one (.v (.int .i64) ((1 : Int))))), none⟩])
 (.seq
 (.seq
 (.reg false [
 ⟨(some 7), .mv (.t 0), none⟩,
 ⟨(some 8), .bin .sub (.t 7) (.k (.one (.v (.int .i64) ((2 : Int))))), none⟩,
 ⟨(some 6), .mv (.t 8), none⟩])
 (.join ⟨[(5, .one (.c (.v (.int .i64))))], []⟩ [] []
 (.block 0
 (.loop 0 ⟨[(0, .one (.c (.v (.int .i64)))), (1, .one (.c (.v (.int .i64)))), (5, .one (.c (.v (.int .i64)))), (6, .one (.c (.v (.int .i64))))], []⟩ [] []
 (.seq
 (.seq
 (.reg false [
 ⟨(some 9), .mv (.t 6), none⟩,
 ⟨(some 10), .bin .gtr (.t 9) (.k (.one (.v (.int .i64) ((0 : Int))))), none⟩])
 (.cond (.t 10)
 .skip
 (.exit 0)))
 (.seq
 (.block 1
 (.seq
 (.seq
 (.reg false [
 ⟨(some 13), .mv (.t 6), none⟩,
 ⟨(some 14), .bin .and (.t 13) (.k (.one (.v (.int .i64) ((1 : Int))))), none⟩,
 ⟨(some 15), .bin .eql (.t 14) (.k (.one (.v (.int .i64) ((1 : Int))))), none⟩])
 (.join ⟨[(1, .one (.c (.v (.int .i64)))), (6, .one (.c (.v (.int .i64)))), (0, .one (.c (.v (.int .i64)))), (5, .one (.c (.v (.int .i64))))], []⟩ [] []
 (.cond (.t 15)
 (.reg false [
 ⟨(some 16), .mv (.t 5), none⟩,
 ⟨(some 17), .mv (.t 1), none⟩,
 ⟨(some 18), .bin .mul (.t 16) (.t 17), none⟩,
 ⟨(some 19), .mv (.t 0), none⟩,
 ⟨(some 20), .bin .rem (.t 18) (.t 19), none⟩,
 ⟨(some 5), .mv (.t 20), none⟩])
 .skip)))
 (.reg false [
 ⟨(some 21), .mv (.t 1), none⟩,
 ⟨(some 22), .mv (.t 1), none⟩,
 ⟨(some 23), .bin .mul (.t 21) (.t 22), none⟩,
 ⟨(some 24), .mv (.t 0), none⟩,
 ⟨(some 25), .bin .rem (.t 23) (.t 24), none⟩,
 ⟨(some 1), .mv (.t 25), none⟩])))
 (.reg false [
 ⟨(some 11), .mv (.t 6), none⟩,
 ⟨(some 12), .bin .shr (.t 11) (.k (.one (.v (.int .u64) ((1 : Int))))), none⟩,
 ⟨(some 6), .mv (.t 12), none⟩])))))))
 (.seq
 (.reg false [
 ⟨(some 26), .mv (.t 5), none⟩,
 ⟨(some 4), .mv (.t 26), none⟩])
 .ret))))
def ms_impl_rawInverse : List MRes := [.tmp 4]
theorem n_impl_rawInverse (NN : Nat) (x : DLL (Sig.tys ag_impl_rawInverse)) : runS NN [] sc_impl_rawInverse ms_impl_rawInverse ag_impl_rawInverse rs_impl_rawInverse x = G_impl_rawInverse NN x := by kernel_rfl
theorem k_impl_rawInverse : chkS Go.Proofs.Try.prog 64 sc_impl_rawInverse.er ms_impl_rawInverse 2 = true := by decide +kernel
theorem p_impl_rawInverse : PureSpec Go.Proofs.Try.prog 64 fn_impl_rawInverse.M ∧ chkFun Go.Proofs.Try.prog 64 = true :=
  pure_of_runS (T := []) (sc := sc_impl_rawInverse) (ms := ms_impl_rawInverse) (args := ag_impl_rawInverse) (res := rs_impl_rawInverse) (SOk.nil) follows_ok k_impl_rawInverse F_impl_rawInverse fun x y h => (n_impl_rawInverse FUEL x).trans (f_impl_rawInverse x y h)

def fn_impl_Pfaffian : SFn := ⟨34, ag_impl_Pfaffian, mu_impl_Pfaffian, rs_impl_Pfaffian, F_impl_Pfaffian⟩
def sc_impl_Pfaffian : SCode :=
 (.seq
 (.reg false [
 ⟨(some 3), .box 3 (.t 1), none⟩,
 ⟨(some 4), .mv (.k (.one (.v (.int .i64) ((0 : Int))))), none⟩,
 ⟨(some 5), .mv (.k (.one (.v (.bool) (false)))), none⟩])
 (.seq
 (.seq
 (.reg false [
 ⟨(some 14), .mv (.t 0), none⟩,
 ⟨(some 15), .load true 3 (.t 3), none⟩,
 ⟨(some 16), .call .froz 51 [(.t 14), (.t 15)], none⟩,
 ⟨(some 17), .un .not (.t 16), none⟩,
 ⟨(some 18), .mv (.t 17), none⟩,
 ⟨(some 19), .fieldA 0 (.t 3), (some (18, false))⟩,
 ⟨(some 20), .load false 1 (.t 19), (some (18, false))⟩,
 ⟨(some 21), .fieldA 1 (.t 3), (some (18, false))⟩,
 ⟨(some 22), .load false 1 (.t 21), (some (18, false))⟩,
 ⟨(some 23), .bin .neq (.t 20) (.t 22), (some (18, false))⟩,
 ⟨(some 24), .pick (.t 18) (.k (.one (.v (.bool) (true)))) (.t 23), none⟩,
 ⟨(some 25), .mv (.t 24), none⟩,
 ⟨(some 26), .mv (.t 0), (some (25, false))⟩,
 ⟨(some 27), .load true 3 (.t 3), (some (25, false))⟩,
 ⟨(some 28), .call .froz 66 [(.t 26), (.t 27)], (some (25, false))⟩,
 ⟨(some 29), .un .not (.t 28), (some (25, false))⟩,
 ⟨(some 30), .pick (.t 25) (.k (.one (.v (.bool) (true)))) (.t 29), none⟩])
 (.cond (.t 30)
 (.seq
 (.reg false [
 ⟨(some 4), .mv (.k (.one (.v (.int .i64) ((0 : Int))))), none⟩,
 ⟨(some 5), .mv (.k (.one (.v (.bool) (false)))), none⟩])
 .ret)
 .skip))
 (.seq
 (.seq
 (.reg false [
 ⟨(some 31), .fieldA 0 (.t 3), none⟩,
 ⟨(some 32), .load false 1 (.t 31), none⟩,
 ⟨(some 33), .bin .rem (.t 32) (.k (.one (.v (.int .i64) ((2 : Int))))), none⟩,
 ⟨(some 34), .bin .eql (.t 33) (.k (.one (.v (.int .i64) ((1 : Int))))), none⟩])
 (.cond (.t 34)
 (.seq
 (.reg false [
 ⟨(some 4), .mv (.k (.one (.v (.int .i64) ((0 : Int))))), none⟩,
 ⟨(some 5), .mv (.k (.one (.v (.bool) (true)))), none⟩])
 .ret)
 .skip))
 (.seq
 (.reg false [
 ⟨(some 35), .load true 3 (.t 3), none⟩,
 ⟨(some 36), .call .froz 61 [(.t 35)], none⟩,
 ⟨(some 6), .alloc [.v (.int .i64) ((0 : Int)), .v (.int .i64) ((0 : Int)), .nil [.int .i64]], none⟩,
 ⟨none, .store 3 (.t 6) (.t 36), none⟩])
 (.seq
 (.reg false [
 ⟨(some 7), .mv (.k (.one (.v (.int .i64) ((1 : Int))))), none⟩])
 (.seq
 (.seq
 (.reg false [
 ⟨(some 8), .mv (.k (.one (.v (.int .i64) ((0 : Int))))), none⟩])
 (.join ⟨[(7, .one (.c (.v (.int .i64))))], []⟩ [6, 500000] []
 (.block 0
 (.loop 0 ⟨[(0, .one (.c (.v (.int .i64)))), (6, .one (.c (.ptr0 6 0))), (7, .one (.c (.v (.int .i64)))), (8, .one (.c (.v (.int .i64))))], [(6, .box [.c (.v (.int .i64)), .c (.v (.int .i64)), .c (.full 500000 1)]), (500000, .row true .froz [.int .i64])]⟩ [3, 37000, 6, 500000, 500007] [(true, 6, 2, 500000, .froz, [])]
 (.seq
 (.seq
 (.reg false [
 ⟨(some 37), .mv (.t 8), none⟩,
 ⟨(some 38), .fieldA 0 (.t 6), none⟩,
 ⟨(some 39), .load false 1 (.t 38), none⟩,
 ⟨(some 40), .bin .lss (.t 37) (.t 39), none⟩])
 (.cond (.t 40)
 .skip
 (.exit 0)))
 (.seq
 (.join ⟨[(8, .one (.c (.v (.int .i64)))), (0, .one (.c (.v (.int .i64)))), (6, .one (.c (.ptr0 6 0))), (7, .one (.c (.v (.int .i64))))], [(6, .box [.c (.v (.int .i64)), .c (.v (.int .i64)), .c (.full 500007 1)]), (500007, .row true .froz [.int .i64])]⟩ [6, 500004, 500007] [(true, 6, 2, 500007, .froz, [])]
 (.block 1
 (.seq
 (.reg false [
 ⟨(some 43), .mv (.t 8), none⟩,
 ⟨(some 44), .bin .add (.t 43) (.k (.one (.v (.int .i64) ((1 : Int))))), none⟩,
 ⟨(some 9), .mv (.t 44), none⟩])
 (.seq
 (.join ⟨[(9, .one (.c (.v (.int .i64)))), (7, .one (.c (.v (.int .i64)))), (6, .one (.c (.ptr0 6 0))), (0, .one (.c (.v (.int .i64)))), (8, .one (.c (.v (.int .i64))))], [(6, .box [.c (.v (.int .i64)), .c (.v (.int .i64)), .c (.full 500002 1)]), (500002, .row true .froz [.int .i64])]⟩ [6, 500001, 500002] [(true, 6, 2, 500002, .froz, [])]
 (.block 2
 (.loop 0 ⟨[(0, .one (.c (.v (.int .i64)))), (6, .one (.c (.ptr0 6 0))), (7, .one (.c (.v (.int .i64)))), (8, .one (.c (.v (.int .i64)))), (9, .one (.c (.v (.int .i64))))], [(6, .box [.c (.v (.int .i64)), .c (.v (.int .i64)), .c (.full 500001 1)]), (500001, .row true .froz [.int .i64])]⟩ [6, 500000, 500001] [(true, 6, 2, 500001, .froz, [])]
 (.seq
 (.seq
 (.reg false [
 ⟨(some 45), .mv (.t 9), none⟩,
 ⟨(some 46), .fieldA 0 (.t 6), none⟩,
 ⟨(some 47), .load false 1 (.t 46), none⟩,
 ⟨(some 48), .bin .lss (.t 45) (.t 47), none⟩,
 ⟨(some 49), .mv (.t 48), none⟩,
 ⟨(some 50), .load true 3 (.t 6), (some (49, true))⟩,
 ⟨(some 51), .mv (.t 8), (some (49, true))⟩,
 ⟨(some 52), .mv (.t 9), (some (49, true))⟩,
 ⟨(some 53), .call .froz 62 [(.t 50), (.t 51), (.t 52)], (some (49, true))⟩,
 ⟨(some 54), .bin .eql (.t 53) (.k (.one (.v (.int .i64) ((0 : Int))))), (some (49, true))⟩,
 ⟨(some 55), .pick (.t 49) (.t 54) (.k (.one (.v (.bool) (false)))), none⟩])
 (.cond (.t 55)
 .skip
 (.exit 2)))
 (.block 3
 (.reg false [
 ⟨(some 56), .mv (.t 9), none⟩,
 ⟨(some 57), .bin .add (.t 56) (.k (.one (.v (.int .i64) ((1 : Int))))), none⟩,
 ⟨(some 9), .mv (.t 57), none⟩]))))))
 (.seq
 (.seq
 (.reg false [
 ⟨(some 58), .mv (.t 9), none⟩,
 ⟨(some 59), .fieldA 0 (.t 6), none⟩,
 ⟨(some 60), .load false 1 (.t 59), none⟩,
 ⟨(some 61), .bin .eql (.t 58) (.t 60), none⟩])
 (.cond (.t 61)
 (.seq
 (.reg false [
 ⟨(some 4), .mv (.k (.one (.v (.int .i64) ((0 : Int))))), none⟩,
 ⟨(some 5), .mv (.k (.one (.v (.bool) (true)))), none⟩])
 .ret)
 .skip))
 (.seq
 (.seq
 (.reg false [
 ⟨(some 62), .mv (.t 9), none⟩,
 ⟨(some 63), .mv (.t 8), none⟩,
 ⟨(some 64), .bin .add (.t 63) (.k (.one (.v (.int .i64) ((1 : Int))))), none⟩,
 ⟨(some 65), .bin .neq (.t 62) (.t 64), none⟩])
 (.join ⟨[(7, .one (.c (.v (.int .i64)))), (6, .one (.c (.ptr0 6 0))), (0, .one (.c (.v (.int .i64)))), (8, .one (.c (.v (.int .i64))))], [(6, .box [.c (.v (.int .i64)), .c (.v (.int .i64)), .c (.full 500003 1)]), (500003, .row true .froz [.int .i64])]⟩ [6, 73000, 80000, 500002, 500003] [(true, 6, 2, 500003, .froz, [])]
 (.cond (.t 65)
 (.seq
 (.reg false [
 ⟨(some 66), .load true 3 (.t 6), none⟩,
 ⟨(some 67), .mv (.t 8), none⟩,
 ⟨(some 68), .bin .add (.t 67) (.k (.one (.v (.int .i64) ((1 : Int))))), none⟩,
 ⟨(some 69), .mv (.t 9), none⟩,
 ⟨(some 70), .callm .froz 63 [(.t 66), (.t 68), (.t 69)], none⟩])
 (.seq
 (.reg false [
 ⟨(some 71), .load true 3 (.t 6), none⟩,
 ⟨(some 72), .call .froz 52 [(.t 71)], none⟩,
 ⟨none, .store 3 (.t 6) (.t 72), none⟩])
 (.seq
 (.reg false [
 ⟨(some 73), .load true 3 (.t 6), none⟩,
 ⟨(some 74), .mv (.t 8), none⟩,
 ⟨(some 75), .bin .add (.t 74) (.k (.one (.v (.int .i64) ((1 : Int))))), none⟩,
 ⟨(some 76), .mv (.t 9), none⟩,
 ⟨(some 77), .callm .froz 63 [(.t 73), (.t 75), (.t 76)], none⟩])
 (.seq
 (.reg false [
 ⟨(some 78), .load true 3 (.t 6), none⟩,
 ⟨(some 79), .call .froz 52 [(.t 78)], none⟩,
 ⟨none, .store 3 (.t 6) (.t 79), none⟩])
 (.reg false [
 ⟨(some 80), .mv (.t 0), none⟩,
 ⟨(some 81), .mv (.t 7), none⟩,
 ⟨(some 82), .bin .sub (.t 80) (.t 81), none⟩,
 ⟨(some 83), .mv (.t 0), none⟩,
 ⟨(some 84), .bin .rem (.t 82) (.t 83), none⟩,
 ⟨(some 7), .mv (.t 84), none⟩])))))
 .skip)))
 (.seq
 (.reg false [
 ⟨(some 85), .mv (.t 7), none⟩,
 ⟨(some 86), .load true 3 (.t 6), none⟩,
 ⟨(some 87), .mv (.t 8), none⟩,
 ⟨(some 88), .mv (.t 8), none⟩,
 ⟨(some 89), .bin .add (.t 88) (.k (.one (.v (.int .i64) ((1 : Int))))), none⟩,
 ⟨(some 90), .call .froz 62 [(.t 86), (.t 87), (.t 89)], none⟩,
 ⟨(some 91), .bin .mul (.t 85) (.t 90), none⟩,
 ⟨(some 92), .mv (.t 0), none⟩,
 ⟨(some 93), .bin .rem (.t 91) (.t 92), none⟩,
 ⟨(some 7), .mv (.t 93), none⟩])
 (.seq
 (.reg false [
 ⟨(some 94), .mv (.t 0), none⟩,
 ⟨(some 95), .load true 3 (.t 6), none⟩,
 ⟨(some 96), .mv (.t 8), none⟩,
 ⟨(some 97), .mv (.t 8), none⟩,
 ⟨(some 98), .bin .add (.t 97) (.k (.one (.v (.int .i64) ((1 : Int))))), none⟩,
 ⟨(some 99), .call .froz 62 [(.t 95), (.t 96), (.t 98)], none⟩,
 ⟨(some 100), .call .froz 64 [(.t 94), (.t 99)], none⟩,
 ⟨(some 10), .mv (.t 100), none⟩])
 (.seq
 (.reg false [
 ⟨(some 101), .mv (.t 8), none⟩,
 ⟨(some 102), .bin .add (.t 101) (.k (.one (.v (.int .i64) ((2 : Int))))), none⟩,
 ⟨(some 11), .mv (.t 102), none⟩])
 (.block 4
 (.loop 0 ⟨[(0, .one (.c (.v (.int .i64)))), (6, .one (.c (.ptr0 6 0))), (7, .one (.c (.v (.int .i64)))), (8, .one (.c (.v (.int .i64)))), (10, .one (.c (.v (.int .i64)))), (11, .one (.c (.v (.int .i64))))], [(6, .box [.c (.v (.int .i64)), .c (.v (.int .i64)), .c (.full 500004 1)]), (500004, .row true .froz [.int .i64])]⟩ [6, 500003, 500004, 500006] [(true, 6, 2, 500004, .froz, [])]
 (.seq
 (.seq
 (.reg false [
 ⟨(some 103), .mv (.t 11), none⟩,
 ⟨(some 104), .fieldA 0 (.t 6), none⟩,
 ⟨(some 105), .load false 1 (.t 104), none⟩,
 ⟨(some 106), .bin .lss (.t 103) (.t 105), none⟩])
 (.cond (.t 106)
 .skip
 (.exit 4)))
 (.seq
 (.join ⟨[(11, .one (.c (.v (.int .i64)))), (0, .one (.c (.v (.int .i64)))), (6, .one (.c (.ptr0 6 0))), (7, .one (.c (.v (.int .i64)))), (8, .one (.c (.v (.int .i64)))), (10, .one (.c (.v (.int .i64))))], [(6, .box [.c (.v (.int .i64)), .c (.v (.int .i64)), .c (.full 500006 1)]), (500006, .row true .froz [.int .i64])]⟩ [6, 500005, 500006] [(true, 6, 2, 500006, .froz, [])]
 (.block 5
 (.seq
 (.reg false [
 ⟨(some 109), .mv (.t 8), none⟩,
 ⟨(some 110), .bin .add (.t 109) (.k (.one (.v (.int .i64) ((2 : Int))))), none⟩,
 ⟨(some 12), .mv (.t 110), none⟩])
 (.block 6
 (.loop 0 ⟨[(0, .one (.c (.v (.int .i64)))), (6, .one (.c (.ptr0 6 0))), (7, .one (.c (.v (.int .i64)))), (8, .one (.c (.v (.int .i64)))), (10, .one (.c (.v (.int .i64)))), (11, .one (.c (.v (.int .i64)))), (12, .one (.c (.v (.int .i64))))], [(6, .box [.c (.v (.int .i64)), .c (.v (.int .i64)), .c (.full 500005 1)]), (500005, .row true .froz [.int .i64])]⟩ [6, 500004, 500005] [(true, 6, 2, 500005, .froz, [])]
 (.seq
 (.seq
 (.reg false [
 ⟨(some 111), .mv (.t 12), none⟩,
 ⟨(some 112), .fieldA 0 (.t 6), none⟩,
 ⟨(some 113), .load false 1 (.t 112), none⟩,
 ⟨(some 114), .bin .lss (.t 111) (.t 113), none⟩])
 (.cond (.t 114)
 .skip
 (.exit 6)))
 (.seq
 (.block 7
 (.seq
 (.reg true [
 ⟨(some 117), .load true 3 (.t 6), none⟩,
 ⟨(some 118), .mv (.t 8), none⟩,
 ⟨(some 119), .bin .add (.t 118) (.k (.one (.v (.int .i64) ((1 : Int))))), none⟩,
 ⟨(some 120), .mv (.t 11), none⟩,
 ⟨(some 121), .call .froz 62 [(.t 117), (.t 119), (.t 120)], none⟩,
 ⟨(some 122), .load true 3 (.t 6), none⟩,
 ⟨(some 123), .mv (.t 8), none⟩,
 ⟨(some 124), .mv (.t 12), none⟩,
 ⟨(some 125), .call .froz 62 [(.t 122), (.t 123), (.t 124)], none⟩,
 ⟨(some 126), .bin .mul (.t 121) (.t 125), none⟩,
 ⟨(some 127), .mv (.t 0), none⟩,
 ⟨(some 128), .load true 3 (.t 6), none⟩,
 ⟨(some 129), .mv (.t 8), none⟩,
 ⟨(some 130), .mv (.t 11), none⟩,
 ⟨(some 131), .call .froz 62 [(.t 128), (.t 129), (.t 130)], none⟩,
 ⟨(some 132), .bin .sub (.t 127) (.t 131), none⟩,
 ⟨(some 133), .load true 3 (.t 6), none⟩,
 ⟨(some 134), .mv (.t 8), none⟩,
 ⟨(some 135), .bin .add (.t 134) (.k (.one (.v (.int .i64) ((1 : Int))))), none⟩,
 ⟨(some 136), .mv (.t 12), none⟩,
 ⟨(some 137), .call .froz 62 [(.t 133), (.t 135), (.t 136)], none⟩,
 ⟨(some 138), .bin .mul (.t 132) (.t 137), none⟩,
 ⟨(some 139), .bin .add (.t 126) (.t 138), none⟩,
 ⟨(some 140), .mv (.t 0), none⟩,
 ⟨(some 141), .bin .rem (.t 139) (.t 140), none⟩,
 ⟨(some 13), .mv (.t 141), none⟩])
 (.reg true [
 ⟨(some 142), .load true 3 (.t 6), none⟩,
 ⟨(some 143), .mv (.t 11), none⟩,
 ⟨(some 144), .mv (.t 12), none⟩,
 ⟨(some 145), .load true 3 (.t 6), none⟩,
 ⟨(some 146), .mv (.t 11), none⟩,
 ⟨(some 147), .mv (.t 12), none⟩,
 ⟨(some 148), .call .froz 62 [(.t 145), (.t 146), (.t 147)], none⟩,
 ⟨(some 149), .mv (.t 13), none⟩,
 ⟨(some 150), .mv (.t 10), none⟩,
 ⟨(some 151), .bin .mul (.t 149) (.t 150), none⟩,
 ⟨(some 152), .bin .add (.t 148) (.t 151), none⟩,
 ⟨(some 153), .mv (.t 0), none⟩,
 ⟨(some 154), .bin .rem (.t 152) (.t 153), none⟩,
 ⟨(some 155), .callm .froz 67 [(.t 142), (.t 143), (.t 144), (.t 154)], none⟩])))
 (.reg false [
 ⟨(some 115), .mv (.t 12), none⟩,
 ⟨(some 116), .bin .add (.t 115) (.k (.one (.v (.int .i64) ((1 : Int))))), none⟩,
 ⟨(some 12), .mv (.t 116), none⟩]))))))))
 (.reg false [
 ⟨(some 107), .mv (.t 11), none⟩,
 ⟨(some 108), .bin .add (.t 107) (.k (.one (.v (.int .i64) ((1 : Int))))), none⟩,
 ⟨(some 11), .mv (.t 108), none⟩]))))))))))))))
 (.reg false [
 ⟨(some 41), .mv (.t 8), none⟩,
 ⟨(some 42), .bin .add (.t 41) (.k (.one (.v (.int .i64) ((2 : Int))))), none⟩,
 ⟨(some 8), .mv (.t 42), none⟩])))))))
 (.seq
 (.reg false [
 ⟨(some 156), .mv (.t 7), none⟩,
 ⟨(some 4), .mv (.t 156), none⟩,
 ⟨(some 5), .mv (.k (.one (.v (.bool) (true)))), none⟩])
 .ret)))))))
def ms_impl_Pfaffian : List MRes := [.tmp 4, .tmp 5]
theorem n_impl_Pfaffian (NN : Nat) (x : DLL (Sig.tys ag_impl_Pfaffian)) : runS NN [fn_impl_MatrixOk, fn_impl_alternating, fn_impl_copyMatrix, fn_impl_Matrix_at, fn_impl_Matrix_swapRows, fn_impl_rawTranspose, fn_impl_rawInverse, fn_impl_Matrix_set] sc_impl_Pfaffian ms_impl_Pfaffian ag_impl_Pfaffian rs_impl_Pfaffian x = G_impl_Pfaffian NN x := by kernel_rfl
theorem k_impl_Pfaffian : chkS Go.Proofs.Try.prog 34 sc_impl_Pfaffian.er ms_impl_Pfaffian 2 = true := by decide +kernel
theorem p_impl_Pfaffian : PureSpec Go.Proofs.Try.prog 34 fn_impl_Pfaffian.M ∧ chkFun Go.Proofs.Try.prog 34 = true :=
  pure_of_runS (T := [fn_impl_MatrixOk, fn_impl_alternating, fn_impl_copyMatrix, fn_impl_Matrix_at, fn_impl_Matrix_swapRows, fn_impl_rawTranspose, fn_impl_rawInverse, fn_impl_Matrix_set]) (sc := sc_impl_Pfaffian) (ms := ms_impl_Pfaffian) (args := ag_impl_Pfaffian) (res := rs_impl_Pfaffian) (SOk.cons p_impl_MatrixOk <| SOk.cons p_impl_alternating <| SOk.cons p_impl_copyMatrix <| SOk.cons p_impl_Matrix_at <| SOk.consM p_impl_Matrix_swapRows <| SOk.cons p_impl_rawTranspose <| SOk.cons p_impl_rawInverse <| SOk.consM p_impl_Matrix_set <| SOk.nil) follows_ok k_impl_Pfaffian F_impl_Pfaffian fun x y h => (n_impl_Pfaffian FUEL x).trans (f_impl_Pfaffian x y h)

def fn_laws_eqIntS : SFn := ⟨37, ag_laws_eqIntS, mu_laws_eqIntS, rs_laws_eqIntS, F_laws_eqIntS⟩
def sc_laws_eqIntS : SCode :=
 (.seq
 (.reg false [
 ⟨(some 4), .mv (.k (.one (.v (.bool) (false)))), none⟩])
 (.seq
 (.seq
 (.reg false [
 ⟨(some 6), .mv (.t 0), none⟩,
 ⟨(some 7), .len (.t 6), none⟩,
 ⟨(some 8), .mv (.t 1), none⟩,
 ⟨(some 9), .len (.t 8), none⟩,
 ⟨(some 10), .bin .neq (.t 7) (.t 9), none⟩])
 (.cond (.t 10)
 (.seq
 (.reg false [
 ⟨(some 4), .mv (.k (.one (.v (.bool) (false)))), none⟩])
 .ret)
 .skip))
 (.seq
 (.seq
 (.reg false [
 ⟨(some 5), .mv (.k (.one (.v (.int .i64) ((0 : Int))))), none⟩])
 (.join ⟨[], []⟩ [] []
 (.block 0
 (.loop 0 ⟨[(0, .one (.c (.v (.list [.int .i64])))), (1, .one (.c (.v (.list [.int .i64])))), (5, .one (.c (.v (.int .i64))))], []⟩ [] []
 (.seq
 (.seq
 (.reg false [
 ⟨(some 11), .mv (.t 5), none⟩,
 ⟨(some 12), .mv (.t 0), none⟩,
 ⟨(some 13), .len (.t 12), none⟩,
 ⟨(some 14), .bin .lss (.t 11) (.t 13), none⟩])
 (.cond (.t 14)
 .skip
 (.exit 0)))
 (.seq
 (.block 1
 (.seq
 (.reg true [
 ⟨(some 17), .mv (.t 0), none⟩,
 ⟨(some 18), .mv (.t 5), none⟩,
 ⟨(some 19), .idxA 1 (.t 17) (.t 18), none⟩,
 ⟨(some 20), .load false 1 (.t 19), none⟩,
 ⟨(some 21), .mv (.t 1), none⟩,
 ⟨(some 22), .mv (.t 5), none⟩,
 ⟨(some 23), .idxA 1 (.t 21) (.t 22), none⟩,
 ⟨(some 24), .load false 1 (.t 23), none⟩,
 ⟨(some 25), .bin .neq (.t 20) (.t 24), none⟩])
 (.cond (.t 25)
 (.seq
 (.reg false [
 ⟨(some 4), .mv (.k (.one (.v (.bool) (false)))), none⟩])
 .ret)
 .skip)))
 (.reg false [
 ⟨(some 15), .mv (.t 5), none⟩,
 ⟨(some 16), .bin .add (.t 15) (.k (.one (.v (.int .i64) ((1 : Int))))), none⟩,
 ⟨(some 5), .mv (.t 16), none⟩])))))))
 (.seq
 (.reg false [
 ⟨(some 4), .mv (.k (.one (.v (.bool) (true)))), none⟩])
 .ret))))
def ms_laws_eqIntS : List MRes := [.tmp 4]
theorem n_laws_eqIntS (NN : Nat) (x : DLL (Sig.tys ag_laws_eqIntS)) : runS NN [] sc_laws_eqIntS ms_laws_eqIntS ag_laws_eqIntS rs_laws_eqIntS x = G_laws_eqIntS NN x := by kernel_rfl
theorem k_laws_eqIntS : chkS Go.Proofs.Try.prog 37 sc_laws_eqIntS.er ms_laws_eqIntS 2 = true := by decide +kernel
theorem p_laws_eqIntS : PureSpec Go.Proofs.Try.prog 37 fn_laws_eqIntS.M ∧ chkFun Go.Proofs.Try.prog 37 = true :=
  pure_of_runS (T := []) (sc := sc_laws_eqIntS) (ms := ms_laws_eqIntS) (args := ag_laws_eqIntS) (res := rs_laws_eqIntS) (SOk.nil) follows_ok k_laws_eqIntS F_laws_eqIntS fun x y h => (n_laws_eqIntS FUEL x).trans (f_laws_eqIntS x y h)

def fn_laws_eqMatrix : SFn := ⟨19, ag_laws_eqMatrix, mu_laws_eqMatrix, rs_laws_eqMatrix, F_laws_eqMatrix⟩
def sc_laws_eqMatrix : SCode :=
 (.seq
 (.reg false [
 ⟨(some 2), .box 3 (.t 0), none⟩,
 ⟨(some 3), .box 3 (.t 1), none⟩,
 ⟨(some 4), .mv (.k (.one (.v (.bool) (false)))), none⟩])
 (.seq
 (.seq
 (.reg false [
 ⟨(some 5), .fieldA 0 (.t 2), none⟩,
 ⟨(some 6), .load false 1 (.t 5), none⟩,
 ⟨(some 7), .fieldA 0 (.t 3), none⟩,
 ⟨(some 8), .load false 1 (.t 7), none⟩,
 ⟨(some 9), .bin .neq (.t 6) (.t 8), none⟩])
 (.cond (.t 9)
 (.seq
 (.reg false [
 ⟨(some 4), .mv (.k (.one (.v (.bool) (false)))), none⟩])
 .ret)
 .skip))
 (.seq
 (.seq
 (.reg false [
 ⟨(some 10), .fieldA 1 (.t 2), none⟩,
 ⟨(some 11), .load false 1 (.t 10), none⟩,
 ⟨(some 12), .fieldA 1 (.t 3), none⟩,
 ⟨(some 13), .load false 1 (.t 12), none⟩,
 ⟨(some 14), .bin .neq (.t 11) (.t 13), none⟩])
 (.cond (.t 14)
 (.seq
 (.reg false [
 ⟨(some 4), .mv (.k (.one (.v (.bool) (false)))), none⟩])
 .ret)
 .skip))
 (.seq
 (.seq
 (.reg false [
 ⟨(some 15), .fieldA 2 (.t 2), none⟩,
 ⟨(some 16), .load false 1 (.t 15), none⟩,
 ⟨(some 17), .fieldA 2 (.t 3), none⟩,
 ⟨(some 18), .load false 1 (.t 17), none⟩,
 ⟨(some 19), .call .froz 37 [(.t 16), (.t 18)], none⟩,
 ⟨(some 20), .un .not (.t 19), none⟩])
 (.cond (.t 20)
 (.seq
 (.reg false [
 ⟨(some 4), .mv (.k (.one (.v (.bool) (false)))), none⟩])
 .ret)
 .skip))
 (.seq
 (.reg false [
 ⟨(some 4), .mv (.k (.one (.v (.bool) (true)))), none⟩])
 .ret)))))
def ms_laws_eqMatrix : List MRes := [.tmp 4]
theorem n_laws_eqMatrix (NN : Nat) (x : DLL (Sig.tys ag_laws_eqMatrix)) : runS NN [fn_laws_eqIntS] sc_laws_eqMatrix ms_laws_eqMatrix ag_laws_eqMatrix rs_laws_eqMatrix x = G_laws_eqMatrix NN x := by kernel_rfl
theorem k_laws_eqMatrix : chkS Go.Proofs.Try.prog 19 sc_laws_eqMatrix.er ms_laws_eqMatrix 2 = true := by decide +kernel
theorem p_laws_eqMatrix : PureSpec Go.Proofs.Try.prog 19 fn_laws_eqMatrix.M ∧ chkFun Go.Proofs.Try.prog 19 = true :=
  pure_of_runS (T := [fn_laws_eqIntS]) (sc := sc_laws_eqMatrix) (ms := ms_laws_eqMatrix) (args := ag_laws_eqMatrix) (res := rs_laws_eqMatrix) (SOk.cons p_laws_eqIntS <| SOk.nil) follows_ok k_laws_eqMatrix F_laws_eqMatrix fun x y h => (n_laws_eqMatrix FUEL x).trans (f_laws_eqMatrix x y h)

def fn_laws_FnExactPfaffian : SFn := ⟨10, ag_laws_FnExactPfaffian, mu_laws_FnExactPfaffian, rs_laws_FnExactPfaffian, F_laws_FnExactPfaffian⟩
def sc_laws_FnExactPfaffian : SCode :=
 (.seq
 (.reg false [
 ⟨(some 3), .box 3 (.t 1), none⟩,
 ⟨(some 4), .mv (.k (.one (.v (.bool) (false)))), none⟩])
 (.seq
 (.reg false [
 ⟨(some 5), .mv (.k (.one (.v (.int .i64) ((1048576 : Int))))), none⟩])
 (.seq
 (.reg false [
 ⟨(some 11), .load true 3 (.t 3), none⟩,
 ⟨(some 12), .mv (.t 5), none⟩,
 ⟨(some 13), .call .froz 15 [(.t 11), (.t 12)], none⟩,
 ⟨(some 5), .mv (.t 13), none⟩])
 (.seq
 (.seq
 (.reg false [
 ⟨(some 14), .mv (.t 5), none⟩,
 ⟨(some 15), .bin .lss (.t 14) (.k (.one (.v (.int .i64) ((0 : Int))))), none⟩])
 (.cond (.t 15)
 (.seq
 (.reg false [
 ⟨(some 4), .mv (.k (.one (.v (.bool) (true)))), none⟩])
 .ret)
 .skip))
 (.seq
 (.reg false [
 ⟨(some 17), .mv (.t 0), none⟩,
 ⟨(some 18), .load true 3 (.t 3), none⟩,
 ⟨(some 19), .call .froz 17 [(.t 18)], none⟩,
 ⟨(some 20), .call .froz 40 [(.t 17), (.t 19)], none⟩,
 ⟨(some 16), .mv (.t 20), none⟩,
 ⟨(some 21), .ext 0 (.t 16), none⟩,
 ⟨(some 22), .ext 1 (.t 16), none⟩,
 ⟨(some 6), .mv (.t 21), none⟩,
 ⟨(some 7), .mv (.t 22), none⟩])
 (.seq
 (.reg false [
 ⟨(some 23), .load true 3 (.t 3), none⟩,
 ⟨(some 24), .call .froz 17 [(.t 23)], none⟩,
 ⟨(some 8), .alloc [.v (.int .i64) ((0 : Int)), .v (.int .i64) ((0 : Int)), .nil [.int .i64]], none⟩,
 ⟨none, .store 3 (.t 8) (.t 24), none⟩])
 (.seq
 (.reg false [
 ⟨(some 26), .mv (.t 0), none⟩,
 ⟨(some 27), .load true 3 (.t 8), none⟩,
 ⟨(some 28), .call .froz 34 [(.t 26), (.t 27)], none⟩,
 ⟨(some 25), .mv (.t 28), none⟩,
 ⟨(some 29), .ext 0 (.t 25), none⟩,
 ⟨(some 30), .ext 1 (.t 25), none⟩,
 ⟨(some 9), .mv (.t 29), none⟩,
 ⟨(some 10), .mv (.t 30), none⟩])
 (.seq
 (.seq
 (.reg false [
 ⟨(some 31), .mv (.t 9), none⟩,
 ⟨(some 32), .mv (.t 6), none⟩,
 ⟨(some 33), .bin .neq (.t 31) (.t 32), none⟩,
 ⟨(some 34), .mv (.t 33), none⟩,
 ⟨(some 35), .mv (.t 10), (some (34, false))⟩,
 ⟨(some 36), .mv (.t 7), (some (34, false))⟩,
 ⟨(some 37), .binb .neq (.t 35) (.t 36), (some (34, false))⟩,
 ⟨(some 38), .pick (.t 34) (.k (.one (.v (.bool) (true)))) (.t 37), none⟩])
 (.cond (.t 38)
 (.seq
 (.reg false [
 ⟨(some 4), .mv (.k (.one (.v (.bool) (false)))), none⟩])
 .ret)
 .skip))
 (.seq
 (.seq
 (.reg true [
 ⟨(some 39), .load true 3 (.t 8), none⟩,
 ⟨(some 40), .load true 3 (.t 3), none⟩,
 ⟨(some 41), .call .froz 17 [(.t 40)], none⟩,
 ⟨(some 42), .call .froz 19 [(.t 39), (.t 41)], none⟩,
 ⟨(some 43), .un .not (.t 42), none⟩])
 (.cond (.t 43)
 (.seq
 (.reg false [
 ⟨(some 4), .mv (.k (.one (.v (.bool) (false)))), none⟩])
 .ret)
 .skip))
 (.seq
 (.reg false [
 ⟨(some 4), .mv (.k (.one (.v (.bool) (true)))), none⟩])
 .ret))))))))))
def ms_laws_FnExactPfaffian : List MRes := [.tmp 4]
theorem n_laws_FnExactPfaffian (NN : Nat) (x : DLL (Sig.tys ag_laws_FnExactPfaffian)) : runS NN [fn_laws_szMatrix, fn_laws_toMatrix, fn_spec_Pfaffian, fn_impl_Pfaffian, fn_laws_eqMatrix] sc_laws_FnExactPfaffian ms_laws_FnExactPfaffian ag_laws_FnExactPfaffian rs_laws_FnExactPfaffian x = G_laws_FnExactPfaffian NN x := by kernel_rfl
theorem k_laws_FnExactPfaffian : chkS Go.Proofs.Try.prog 10 sc_laws_FnExactPfaffian.er ms_laws_FnExactPfaffian 2 = true := by decide +kernel
theorem p_laws_FnExactPfaffian : PureSpec Go.Proofs.Try.prog 10 fn_laws_FnExactPfaffian.M ∧ chkFun Go.Proofs.Try.prog 10 = true :=
  pure_of_runS (T := [fn_laws_szMatrix, fn_laws_toMatrix, fn_spec_Pfaffian, fn_impl_Pfaffian, fn_laws_eqMatrix]) (sc := sc_laws_FnExactPfaffian) (ms := ms_laws_FnExactPfaffian) (args := ag_laws_FnExactPfaffian) (res := rs_laws_FnExactPfaffian) (SOk.cons p_laws_szMatrix <| SOk.cons p_laws_toMatrix <| SOk.cons p_spec_Pfaffian <| SOk.cons p_impl_Pfaffian <| SOk.cons p_laws_eqMatrix <| SOk.nil) follows_ok k_laws_FnExactPfaffian F_laws_FnExactPfaffian fun x y h => (n_laws_FnExactPfaffian FUEL x).trans (f_laws_FnExactPfaffian x y h)

end Go.Am
