/- A_MulMatrix: the code of the functions of FnExactMulMatrix. No condition. -/
import Derived.Test.YtfhgjmihpplnjaaLMulMatrix
import Derived.Test.YtfhgjmihpplnjaaBr2
import Derived.KernelRfl
import Derived.Test.YtfhgjmihpplnjaaRows
set_option linter.unusedVariables false
set_option maxRecDepth 100000
namespace Go.Am
theorem follows_ok : Go.Proofs.Try.prog.follows .mixedOrders = true := by decide +kernel
def fn_laws_szIntS : SFn := ⟨47, ag_laws_szIntS, mu_laws_szIntS, rs_laws_szIntS, F_laws_szIntS⟩
def sc_laws_szIntS : SCode :=
  (.seq
   (.reg false [
     ⟨(some 4), .mv (.k (.one (.v (.int .i64) ((0 : Int))))), none⟩])
  (.seq
   (.reg false [
     ⟨(some 5), .mv (.t 1), none⟩,
     ⟨(some 6), .mv (.t 0), none⟩,
     ⟨(some 7), .len (.t 6), none⟩,
     ⟨(some 8), .bin .sub (.t 5) (.t 7), none⟩,
     ⟨(some 1), .mv (.t 8), none⟩])
  (.seq
   (.seq
    (.reg false [
      ⟨(some 9), .mv (.t 1), none⟩,
      ⟨(some 10), .bin .lss (.t 9) (.k (.one (.v (.int .i64) ((0 : Int))))), none⟩])
   (.cond (.t 10)
     (.seq
      (.reg false [
        ⟨(some 4), .mv (.k (.one (.v (.int .i64) (((-1) : Int))))), none⟩])
     .ret)
     .skip))
  (.seq
   (.reg false [
     ⟨(some 11), .mv (.t 1), none⟩,
     ⟨(some 4), .mv (.t 11), none⟩])
  .ret))))
def ms_laws_szIntS : List MRes := [.tmp 4]
theorem n_laws_szIntS (NN : Nat) (x : DLL (Sig.tys ag_laws_szIntS)) : runS NN [] sc_laws_szIntS ms_laws_szIntS ag_laws_szIntS rs_laws_szIntS x = G_laws_szIntS NN x := by kernel_rfl
theorem k_laws_szIntS : chkS Go.Proofs.Try.prog 47 sc_laws_szIntS.er ms_laws_szIntS 2 = true := by decide +kernel
theorem p_laws_szIntS : PureSpec Go.Proofs.Try.prog 47 fn_laws_szIntS.M ∧ chkFun Go.Proofs.Try.prog 47 = true :=
  pure_of_runS (T := []) (sc := sc_laws_szIntS) (ms := ms_laws_szIntS) (args := ag_laws_szIntS) (res := rs_laws_szIntS) (SOk.nil) follows_ok k_laws_szIntS F_laws_szIntS fun x y h => (n_laws_szIntS FUEL x).trans (f_laws_szIntS x y h)

def fn_laws_szMatrix : SFn := ⟨15, ag_laws_szMatrix, mu_laws_szMatrix, rs_laws_szMatrix, F_laws_szMatrix⟩
def sc_laws_szMatrix : SCode :=
  (.seq
   (.reg false [
     ⟨(some 2), .box 3 (.t 0), none⟩,
     ⟨(some 4), .mv (.k (.one (.v (.int .i64) ((0 : Int))))), none⟩])
  (.seq
   (.reg false [
     ⟨(some 5), .fieldA 2 (.t 2), none⟩,
     ⟨(some 6), .load false 1 (.t 5), none⟩,
     ⟨(some 7), .mv (.t 1), none⟩,
     ⟨(some 8), .call .froz 47 [(.t 6), (.t 7)], none⟩,
     ⟨(some 1), .mv (.t 8), none⟩])
  (.seq
   (.seq
    (.reg false [
      ⟨(some 9), .mv (.t 1), none⟩,
      ⟨(some 10), .bin .lss (.t 9) (.k (.one (.v (.int .i64) ((0 : Int))))), none⟩])
   (.cond (.t 10)
     (.seq
      (.reg false [
        ⟨(some 4), .mv (.k (.one (.v (.int .i64) (((-1) : Int))))), none⟩])
     .ret)
     .skip))
  (.seq
   (.reg false [
     ⟨(some 11), .mv (.t 1), none⟩,
     ⟨(some 4), .mv (.t 11), none⟩])
  .ret))))
def ms_laws_szMatrix : List MRes := [.tmp 4]
theorem n_laws_szMatrix (NN : Nat) (x : DLL (Sig.tys ag_laws_szMatrix)) : runS NN [fn_laws_szIntS] sc_laws_szMatrix ms_laws_szMatrix ag_laws_szMatrix rs_laws_szMatrix x = G_laws_szMatrix NN x := by kernel_rfl
theorem k_laws_szMatrix : chkS Go.Proofs.Try.prog 15 sc_laws_szMatrix.er ms_laws_szMatrix 2 = true := by decide +kernel
theorem p_laws_szMatrix : PureSpec Go.Proofs.Try.prog 15 fn_laws_szMatrix.M ∧ chkFun Go.Proofs.Try.prog 15 = true :=
  pure_of_runS (T := [fn_laws_szIntS]) (sc := sc_laws_szMatrix) (ms := ms_laws_szMatrix) (args := ag_laws_szMatrix) (res := rs_laws_szMatrix) (SOk.cons p_laws_szIntS <| SOk.nil) follows_ok k_laws_szMatrix F_laws_szMatrix fun x y h => (n_laws_szMatrix FUEL x).trans (f_laws_szMatrix x y h)

def fn_laws_toIntS : SFn := ⟨50, ag_laws_toIntS, mu_laws_toIntS, rs_laws_toIntS, F_laws_toIntS⟩
def sc_laws_toIntS : SCode :=
  (.seq
   (.reg false [
     ⟨(some 2), .mv (.k (.one (.nil [.int .i64]))), none⟩])
  (.seq
   (.reg false [
     ⟨(some 5), .mv (.t 0), none⟩,
     ⟨(some 6), .len (.t 5), none⟩,
     ⟨(some 7), .mkslice .froz [.int .i64] 8 (0 : Int) (.t 6) (.t 6), none⟩,
     ⟨(some 3), .mv (.t 7), none⟩])
  (.seq
   (.seq
    (.reg false [
      ⟨(some 4), .mv (.k (.one (.v (.int .i64) ((0 : Int))))), none⟩])
   (.join ⟨[(3, .one (.c (.full 50001 1)))], [(50001, .row true .froz [.int .i64])]⟩ [7, 50000, 50001] [(false, 3, 0, 50001, .froz, [])]
     (.block 0
       (.loop 0 ⟨[(0, .one (.c (.v (.list [.int .i64])))), (3, .one (.c (.full 50000 1))), (4, .one (.c (.v (.int .i64))))], [(50000, .row true .froz [.int .i64])]⟩ [7, 50000, 50001] [(false, 3, 0, 50000, .froz, [])]
         (.seq
          (.seq
           (.reg false [
             ⟨(some 8), .mv (.t 4), none⟩,
             ⟨(some 9), .mv (.t 0), none⟩,
             ⟨(some 10), .len (.t 9), none⟩,
             ⟨(some 11), .bin .lss (.t 8) (.t 10), none⟩])
          (.cond (.t 11)
            .skip
            (.exit 0)))
         (.seq
          (.block 1
            (.reg false [
              ⟨(some 14), .mv (.t 3), none⟩,
              ⟨(some 15), .mv (.t 4), none⟩,
              ⟨(some 16), .mv (.t 0), none⟩,
              ⟨(some 17), .mv (.t 4), none⟩,
              ⟨(some 18), .idxA 1 (.t 16) (.t 17), none⟩,
              ⟨(some 19), .load false 1 (.t 18), none⟩,
              ⟨(some 20), .idxA 1 (.t 14) (.t 15), none⟩,
              ⟨none, .store 1 (.t 20) (.t 19), none⟩]))
         (.reg false [
           ⟨(some 12), .mv (.t 4), none⟩,
           ⟨(some 13), .bin .add (.t 12) (.k (.one (.v (.int .i64) ((1 : Int))))), none⟩,
           ⟨(some 4), .mv (.t 13), none⟩])))))))
  (.seq
   (.reg false [
     ⟨(some 21), .mv (.t 3), none⟩,
     ⟨(some 2), .mv (.t 21), none⟩])
  .ret))))
def ms_laws_toIntS : List MRes := [.tmp 2]
theorem n_laws_toIntS (NN : Nat) (x : DLL (Sig.tys ag_laws_toIntS)) : runS NN [] sc_laws_toIntS ms_laws_toIntS ag_laws_toIntS rs_laws_toIntS x = G_laws_toIntS NN x := by kernel_rfl
theorem k_laws_toIntS : chkS Go.Proofs.Try.prog 50 sc_laws_toIntS.er ms_laws_toIntS 1 = true := by decide +kernel
theorem p_laws_toIntS : PureSpec Go.Proofs.Try.prog 50 fn_laws_toIntS.M ∧ chkFun Go.Proofs.Try.prog 50 = true :=
  pure_of_runS (T := []) (sc := sc_laws_toIntS) (ms := ms_laws_toIntS) (args := ag_laws_toIntS) (res := rs_laws_toIntS) (SOk.nil) follows_ok k_laws_toIntS F_laws_toIntS fun x y h => (n_laws_toIntS FUEL x).trans (f_laws_toIntS x y h)

def fn_laws_toMatrix : SFn := ⟨17, ag_laws_toMatrix, mu_laws_toMatrix, rs_laws_toMatrix, F_laws_toMatrix⟩
def sc_laws_toMatrix : SCode :=
  (.seq
   (.reg false [
     ⟨(some 1), .box 3 (.t 0), none⟩,
     ⟨(some 2), .alloc [.v (.int .i64) ((0 : Int)), .v (.int .i64) ((0 : Int)), .nil [.int .i64]], none⟩])
  (.seq
   (.reg false [
     ⟨(some 3), .alloc [.v (.int .i64) ((0 : Int)), .v (.int .i64) ((0 : Int)), .nil [.int .i64]], none⟩])
  (.seq
   (.reg false [
     ⟨(some 4), .fieldA 0 (.t 1), none⟩,
     ⟨(some 5), .load false 1 (.t 4), none⟩,
     ⟨(some 6), .fieldA 0 (.t 3), none⟩,
     ⟨none, .store 1 (.t 6) (.t 5), none⟩])
  (.seq
   (.reg false [
     ⟨(some 7), .fieldA 1 (.t 1), none⟩,
     ⟨(some 8), .load false 1 (.t 7), none⟩,
     ⟨(some 9), .fieldA 1 (.t 3), none⟩,
     ⟨none, .store 1 (.t 9) (.t 8), none⟩])
  (.seq
   (.reg false [
     ⟨(some 10), .fieldA 2 (.t 1), none⟩,
     ⟨(some 11), .load false 1 (.t 10), none⟩,
     ⟨(some 12), .call .froz 50 [(.t 11)], none⟩,
     ⟨(some 13), .fieldA 2 (.t 3), none⟩,
     ⟨none, .store 1 (.t 13) (.t 12), none⟩])
  (.seq
   (.reg false [
     ⟨(some 14), .load true 3 (.t 3), none⟩,
     ⟨none, .store 3 (.t 2) (.t 14), none⟩])
  .ret))))))
def ms_laws_toMatrix : List MRes := [.cell 2 3 true]
theorem n_laws_toMatrix (NN : Nat) (x : DLL (Sig.tys ag_laws_toMatrix)) : runS NN [fn_laws_toIntS] sc_laws_toMatrix ms_laws_toMatrix ag_laws_toMatrix rs_laws_toMatrix x = G_laws_toMatrix NN x := by kernel_rfl
theorem k_laws_toMatrix : chkS Go.Proofs.Try.prog 17 sc_laws_toMatrix.er ms_laws_toMatrix 1 = true := by decide +kernel
theorem p_laws_toMatrix : PureSpec Go.Proofs.Try.prog 17 fn_laws_toMatrix.M ∧ chkFun Go.Proofs.Try.prog 17 = true :=
  pure_of_runS (T := [fn_laws_toIntS]) (sc := sc_laws_toMatrix) (ms := ms_laws_toMatrix) (args := ag_laws_toMatrix) (res := rs_laws_toMatrix) (SOk.cons p_laws_toIntS <| SOk.nil) follows_ok k_laws_toMatrix F_laws_toMatrix fun x y h => (n_laws_toMatrix FUEL x).trans (f_laws_toMatrix x y h)

def fn_spec_l01In : SFn := ⟨78, ag_spec_l01In, mu_spec_l01In, rs_spec_l01In, F_spec_l01In⟩
def sc_spec_l01In : SCode :=
  (.seq
   (.reg false [
     ⟨(some 6), .mv (.k (.one (.v (.bool) (false)))), none⟩])
  (.seq
   (.reg false [
     ⟨(some 7), .mv (.t 0), none⟩,
     ⟨(some 8), .mv (.t 1), none⟩,
     ⟨(some 9), .bin .geq (.t 7) (.t 8), none⟩,
     ⟨(some 10), .mv (.t 9), none⟩,
     ⟨(some 11), .mv (.t 0), (some (10, true))⟩,
     ⟨(some 12), .mv (.t 2), (some (10, true))⟩,
     ⟨(some 13), .bin .leq (.t 11) (.t 12), (some (10, true))⟩,
     ⟨(some 14), .pick (.t 10) (.t 13) (.k (.one (.v (.bool) (false)))), none⟩,
     ⟨(some 6), .mv (.t 14), none⟩])
  .ret))
def ms_spec_l01In : List MRes := [.tmp 6]
theorem n_spec_l01In (NN : Nat) (x : DLL (Sig.tys ag_spec_l01In)) : runS NN [] sc_spec_l01In ms_spec_l01In ag_spec_l01In rs_spec_l01In x = G_spec_l01In NN x := by kernel_rfl
theorem k_spec_l01In : chkS Go.Proofs.Try.prog 78 sc_spec_l01In.er ms_spec_l01In 3 = true := by decide +kernel
theorem p_spec_l01In : PureSpec Go.Proofs.Try.prog 78 fn_spec_l01In.M ∧ chkFun Go.Proofs.Try.prog 78 = true :=
  pure_of_runS (T := []) (sc := sc_spec_l01In) (ms := ms_spec_l01In) (args := ag_spec_l01In) (res := rs_spec_l01In) (SOk.nil) follows_ok k_spec_l01In F_spec_l01In fun x y h => (n_spec_l01In FUEL x).trans (f_spec_l01In x y h)

def fn_spec_IsPrime : SFn := ⟨77, ag_spec_IsPrime, mu_spec_IsPrime, rs_spec_IsPrime, F_spec_IsPrime⟩
def sc_spec_IsPrime : SCode :=
  (.seq
   (.reg false [
     ⟨(some 2), .mv (.k (.one (.v (.bool) (false)))), none⟩])
  (.seq
   (.seq
    (.reg false [
      ⟨(some 3), .mv (.k (.one (.v (.int .i64) ((2 : Int))))), none⟩])
   (.join ⟨[(0, .one (.c (.v (.int .i64))))], []⟩ [21000, 21001, 21002, 21003, 21004, 21005] []
     (.block 0
       (.loop 0 ⟨[(0, .one (.c (.v (.int .i64)))), (3, .one (.c (.v (.int .i64))))], []⟩ [21000, 21001, 21002, 21003, 21004, 21005] []
         (.seq
          (.seq
           (.reg false [
             ⟨(some 4), .mv (.t 3), none⟩,
             ⟨(some 5), .mv (.t 3), none⟩,
             ⟨(some 6), .bin .mul (.t 4) (.t 5), none⟩,
             ⟨(some 7), .mv (.t 0), none⟩,
             ⟨(some 8), .bin .leq (.t 6) (.t 7), none⟩,
             ⟨(some 9), .mv (.t 8), none⟩,
             ⟨(some 10), .mv (.t 0), (some (9, true))⟩,
             ⟨(some 11), .bin .leq (.t 10) (.k (.one (.v (.int .i64) ((1000003 : Int))))), (some (9, true))⟩,
             ⟨(some 12), .pick (.t 9) (.t 11) (.k (.one (.v (.bool) (false)))), none⟩])
          (.cond (.t 12)
            .skip
            (.exit 0)))
         (.seq
          (.block 1
            (.seq
             (.reg false [
               ⟨(some 15), .mv (.t 0), none⟩,
               ⟨(some 16), .mv (.t 3), none⟩,
               ⟨(some 17), .bin .rem (.t 15) (.t 16), none⟩,
               ⟨(some 18), .bin .eql (.t 17) (.k (.one (.v (.int .i64) ((0 : Int))))), none⟩])
            (.cond (.t 18)
              (.seq
               (.reg false [
                 ⟨(some 2), .mv (.k (.one (.v (.bool) (false)))), none⟩])
              .ret)
              .skip)))
         (.reg false [
           ⟨(some 13), .mv (.t 3), none⟩,
           ⟨(some 14), .bin .add (.t 13) (.k (.one (.v (.int .i64) ((1 : Int))))), none⟩,
           ⟨(some 3), .mv (.t 14), none⟩])))))))
  (.seq
   (.reg false [
     ⟨(some 19), .mv (.t 0), none⟩,
     ⟨(some 20), .call .froz 78 [(.t 19), (.k (.one (.v (.int .i64) ((2 : Int))))), (.k (.one (.v (.int .i64) ((1000003 : Int)))))], none⟩,
     ⟨(some 2), .mv (.t 20), none⟩])
  .ret)))
def ms_spec_IsPrime : List MRes := [.tmp 2]
theorem n_spec_IsPrime (NN : Nat) (x : DLL (Sig.tys ag_spec_IsPrime)) : runS NN [fn_spec_l01In] sc_spec_IsPrime ms_spec_IsPrime ag_spec_IsPrime rs_spec_IsPrime x = G_spec_IsPrime NN x := by kernel_rfl
theorem k_spec_IsPrime : chkS Go.Proofs.Try.prog 77 sc_spec_IsPrime.er ms_spec_IsPrime 1 = true := by decide +kernel
theorem p_spec_IsPrime : PureSpec Go.Proofs.Try.prog 77 fn_spec_IsPrime.M ∧ chkFun Go.Proofs.Try.prog 77 = true :=
  pure_of_runS (T := [fn_spec_l01In]) (sc := sc_spec_IsPrime) (ms := ms_spec_IsPrime) (args := ag_spec_IsPrime) (res := rs_spec_IsPrime) (SOk.cons p_spec_l01In <| SOk.nil) follows_ok k_spec_IsPrime F_spec_IsPrime fun x y h => (n_spec_IsPrime FUEL x).trans (f_spec_IsPrime x y h)

def fn_spec_MatrixOk : SFn := ⟨48, ag_spec_MatrixOk, mu_spec_MatrixOk, rs_spec_MatrixOk, F_spec_MatrixOk⟩
def sc_spec_MatrixOk : SCode :=
  (.seq
   (.reg false [
     ⟨(some 3), .box 3 (.t 1), none⟩,
     ⟨(some 4), .mv (.k (.one (.v (.bool) (false)))), none⟩])
  (.seq
   (.seq
    (.reg false [
      ⟨(some 7), .mv (.t 0), none⟩,
      ⟨(some 8), .call .froz 77 [(.t 7)], none⟩,
      ⟨(some 9), .un .not (.t 8), none⟩,
      ⟨(some 10), .mv (.t 9), none⟩,
      ⟨(some 11), .fieldA 0 (.t 3), (some (10, false))⟩,
      ⟨(some 12), .load false 1 (.t 11), (some (10, false))⟩,
      ⟨(some 13), .call .froz 78 [(.t 12), (.k (.one (.v (.int .i64) ((0 : Int))))), (.k (.one (.v (.int .i64) ((64 : Int)))))], (some (10, false))⟩,
      ⟨(some 14), .un .not (.t 13), (some (10, false))⟩,
      ⟨(some 15), .pick (.t 10) (.k (.one (.v (.bool) (true)))) (.t 14), none⟩,
      ⟨(some 16), .mv (.t 15), none⟩,
      ⟨(some 17), .fieldA 1 (.t 3), (some (16, false))⟩,
      ⟨(some 18), .load false 1 (.t 17), (some (16, false))⟩,
      ⟨(some 19), .call .froz 78 [(.t 18), (.k (.one (.v (.int .i64) ((0 : Int))))), (.k (.one (.v (.int .i64) ((64 : Int)))))], (some (16, false))⟩,
      ⟨(some 20), .un .not (.t 19), (some (16, false))⟩,
      ⟨(some 21), .pick (.t 16) (.k (.one (.v (.bool) (true)))) (.t 20), none⟩,
      ⟨(some 22), .mv (.t 21), none⟩,
      ⟨(some 23), .fieldA 2 (.t 3), (some (22, false))⟩,
      ⟨(some 24), .load false 1 (.t 23), (some (22, false))⟩,
      ⟨(some 25), .len (.t 24), (some (22, false))⟩,
      ⟨(some 26), .fieldA 0 (.t 3), (some (22, false))⟩,
      ⟨(some 27), .load false 1 (.t 26), (some (22, false))⟩,
      ⟨(some 28), .fieldA 1 (.t 3), (some (22, false))⟩,
      ⟨(some 29), .load false 1 (.t 28), (some (22, false))⟩,
      ⟨(some 30), .bin .mul (.t 27) (.t 29), (some (22, false))⟩,
      ⟨(some 31), .bin .neq (.t 25) (.t 30), (some (22, false))⟩,
      ⟨(some 32), .pick (.t 22) (.k (.one (.v (.bool) (true)))) (.t 31), none⟩])
   (.cond (.t 32)
     (.seq
      (.reg false [
        ⟨(some 4), .mv (.k (.one (.v (.bool) (false)))), none⟩])
     .ret)
     .skip))
  (.seq
   (.seq
    (.reg false [
      ⟨(some 33), .fieldA 2 (.t 3), none⟩,
      ⟨(some 34), .load false 1 (.t 33), none⟩,
      ⟨(some 35), .len (.t 34), none⟩,
      ⟨(some 36), .mv (.k (.one (.v (.int .i64) ((0 : Int))))), none⟩])
   (.join ⟨[], []⟩ [3, 9000, 9001, 9002, 9003, 9004, 9005, 14000, 14001, 14002, 14003, 14004, 14005, 20000, 20001, 20002, 20003, 20004, 20005, 44000, 44001, 44002, 44003, 44004, 44005] []
     (.block 0
       (.loop 0 ⟨[(0, .one (.c (.v (.int .i64)))), (34, .one (.c (.v (.list [.int .i64])))), (35, .one (.c (.v (.int .i64)))), (36, .one (.c (.v (.int .i64))))], []⟩ [3, 9000, 9001, 9002, 9003, 9004, 9005, 14000, 14001, 14002, 14003, 14004, 14005, 20000, 20001, 20002, 20003, 20004, 20005, 44000, 44001, 44002, 44003, 44004, 44005] []
         (.seq
          (.reg false [
            ⟨(some 37), .bin .lss (.t 36) (.t 35), none⟩])
         (.seq
          (.cond (.t 37)
            .skip
            (.exit 0))
         (.seq
          (.block 1
            (.seq
             (.reg false [
               ⟨(some 38), .idxA 1 (.t 34) (.t 36), none⟩,
               ⟨(some 39), .load false 1 (.t 38), none⟩,
               ⟨(some 6), .mv (.t 39), none⟩])
            (.seq
             (.reg false [
               ⟨(some 40), .mv (.t 6), none⟩,
               ⟨(some 41), .mv (.t 0), none⟩,
               ⟨(some 42), .bin .sub (.t 41) (.k (.one (.v (.int .i64) ((1 : Int))))), none⟩,
               ⟨(some 43), .call .froz 78 [(.t 40), (.k (.one (.v (.int .i64) ((0 : Int))))), (.t 42)], none⟩,
               ⟨(some 44), .un .not (.t 43), none⟩])
            (.cond (.t 44)
              (.seq
               (.reg false [
                 ⟨(some 4), .mv (.k (.one (.v (.bool) (false)))), none⟩])
              .ret)
              .skip))))
         (.reg false [
           ⟨(some 45), .bin .add (.t 36) (.k (.one (.v (.int .i64) ((1 : Int))))), none⟩,
           ⟨(some 36), .mv (.t 45), none⟩]))))))))
  (.seq
   (.reg false [
     ⟨(some 4), .mv (.k (.one (.v (.bool) (true)))), none⟩])
  .ret))))
def ms_spec_MatrixOk : List MRes := [.tmp 4]
theorem n_spec_MatrixOk (NN : Nat) (x : DLL (Sig.tys ag_spec_MatrixOk)) : runS NN [fn_spec_IsPrime, fn_spec_l01In] sc_spec_MatrixOk ms_spec_MatrixOk ag_spec_MatrixOk rs_spec_MatrixOk x = G_spec_MatrixOk NN x := by kernel_rfl
theorem k_spec_MatrixOk : chkS Go.Proofs.Try.prog 48 sc_spec_MatrixOk.er ms_spec_MatrixOk 2 = true := by decide +kernel
theorem p_spec_MatrixOk : PureSpec Go.Proofs.Try.prog 48 fn_spec_MatrixOk.M ∧ chkFun Go.Proofs.Try.prog 48 = true :=
  pure_of_runS (T := [fn_spec_IsPrime, fn_spec_l01In]) (sc := sc_spec_MatrixOk) (ms := ms_spec_MatrixOk) (args := ag_spec_MatrixOk) (res := rs_spec_MatrixOk) (SOk.cons p_spec_IsPrime <| SOk.cons p_spec_l01In <| SOk.nil) follows_ok k_spec_MatrixOk F_spec_MatrixOk fun x y h => (n_spec_MatrixOk FUEL x).trans (f_spec_MatrixOk x y h)

def fn_spec_l31New : SFn := ⟨76, ag_spec_l31New, mu_spec_l31New, rs_spec_l31New, F_spec_l31New⟩
def sc_spec_l31New : SCode :=
  (.seq
   (.reg false [
     ⟨(some 4), .alloc [.v (.int .i64) ((0 : Int)), .v (.int .i64) ((0 : Int)), .nil [.int .i64]], none⟩])
  (.seq
   (.reg false [
     ⟨(some 5), .mv (.t 0), none⟩,
     ⟨(some 6), .mv (.t 1), none⟩,
     ⟨(some 7), .mv (.t 0), none⟩,
     ⟨(some 8), .mv (.t 1), none⟩,
     ⟨(some 9), .bin .mul (.t 7) (.t 8), none⟩,
     ⟨(some 10), .mkslice .froz [.int .i64] 8 (0 : Int) (.t 9) (.t 9), none⟩,
     ⟨(some 11), .build [.v (.int .i64) ((0 : Int)), .v (.int .i64) ((0 : Int)), .nil [.int .i64]] [(0, 1, (.t 5)), (1, 1, (.t 6)), (2, 1, (.t 10))], none⟩,
     ⟨none, .store 3 (.t 4) (.t 11), none⟩])
  .ret))
def ms_spec_l31New : List MRes := [.cell 4 3 true]
theorem n_spec_l31New (NN : Nat) (x : DLL (Sig.tys ag_spec_l31New)) : runS NN [] sc_spec_l31New ms_spec_l31New ag_spec_l31New rs_spec_l31New x = G_spec_l31New NN x := by kernel_rfl
theorem k_spec_l31New : chkS Go.Proofs.Try.prog 76 sc_spec_l31New.er ms_spec_l31New 2 = true := by decide +kernel
theorem p_spec_l31New : PureSpec Go.Proofs.Try.prog 76 fn_spec_l31New.M ∧ chkFun Go.Proofs.Try.prog 76 = true :=
  pure_of_runS (T := []) (sc := sc_spec_l31New) (ms := ms_spec_l31New) (args := ag_spec_l31New) (res := rs_spec_l31New) (SOk.nil) follows_ok k_spec_l31New F_spec_l31New fun x y h => (n_spec_l31New FUEL x).trans (f_spec_l31New x y h)

def fn_spec_l31Mul : SFn := ⟨53, ag_spec_l31Mul, mu_spec_l31Mul, rs_spec_l31Mul, F_spec_l31Mul⟩
def sc_spec_l31Mul : SCode :=
  (.seq
   (.reg false [
     ⟨(some 4), .box 3 (.t 1), none⟩,
     ⟨(some 5), .box 3 (.t 2), none⟩,
     ⟨(some 6), .alloc [.v (.int .i64) ((0 : Int)), .v (.int .i64) ((0 : Int)), .nil [.int .i64]], none⟩])
  (.seq
   (.reg false [
     ⟨(some 12), .fieldA 0 (.t 4), none⟩,
     ⟨(some 13), .load false 1 (.t 12), none⟩,
     ⟨(some 14), .fieldA 1 (.t 5), none⟩,
     ⟨(some 15), .load false 1 (.t 14), none⟩,
     ⟨(some 16), .call .froz 76 [(.t 13), (.t 15)], none⟩,
     ⟨(some 7), .alloc [.v (.int .i64) ((0 : Int)), .v (.int .i64) ((0 : Int)), .nil [.int .i64]], none⟩,
     ⟨none, .store 3 (.t 7) (.t 16), none⟩])
  (.seq
   (.seq
    (.reg false [
      ⟨(some 8), .mv (.k (.one (.v (.int .i64) ((0 : Int))))), none⟩])
   (.join ⟨[(7, .one (.c (.ptr0 7 0))), (6, .one (.c (.ptr0 6 0)))], [(6, .box [.c (.v (.int .i64)), .c (.v (.int .i64)), .c (.full 50012 1)]), (7, .box [.c (.v (.int .i64)), .c (.v (.int .i64)), .c (.full 50013 1)]), (50012, .row true .froz [.int .i64]), (50013, .row true .froz [.int .i64])]⟩ [4, 5, 6, 17000, 17001, 17002, 17003, 17004, 17005, 7, 50000, 50001, 50002, 50003, 50004, 50005, 50006, 50007, 50008, 50009, 50010, 50011, 50012, 50013] [(true, 6, 2, 50012, .froz, []), (true, 7, 2, 50013, .froz, [])]
     (.block 0
       (.loop 0 ⟨[(0, .one (.c (.v (.int .i64)))), (4, .one (.c (.ptr0 4 0))), (5, .one (.c (.ptr0 5 0))), (6, .one (.c (.ptr0 6 0))), (7, .one (.c (.ptr0 7 0))), (8, .one (.c (.v (.int .i64))))], [(4, .box [.c (.v (.int .i64)), .c (.v (.int .i64)), .c (.v (.list [.int .i64]))]), (5, .box [.c (.v (.int .i64)), .c (.v (.int .i64)), .c (.v (.list [.int .i64]))]), (6, .box [.c (.v (.int .i64)), .c (.v (.int .i64)), .c (.full 50000 1)]), (7, .box [.c (.v (.int .i64)), .c (.v (.int .i64)), .c (.full 50001 1)]), (50000, .row true .froz [.int .i64]), (50001, .row true .froz [.int .i64])]⟩ [4, 5, 6, 17000, 17001, 17002, 17003, 17004, 17005, 7, 50000, 50001, 50002, 50003, 50004, 50005, 50006, 50007, 50008, 50009, 50010, 50011, 50012, 50013] [(true, 6, 2, 50000, .froz, []), (true, 7, 2, 50001, .froz, [])]
         (.seq
          (.seq
           (.reg false [
             ⟨(some 17), .mv (.t 8), none⟩,
             ⟨(some 18), .fieldA 0 (.t 4), none⟩,
             ⟨(some 19), .load false 1 (.t 18), none⟩,
             ⟨(some 20), .bin .lss (.t 17) (.t 19), none⟩])
          (.cond (.t 20)
            .skip
            (.exit 0)))
         (.seq
          (.join ⟨[(8, .one (.c (.v (.int .i64)))), (0, .one (.c (.v (.int .i64)))), (4, .one (.c (.ptr0 4 0))), (5, .one (.c (.ptr0 5 0))), (6, .one (.c (.ptr0 6 0))), (7, .one (.c (.ptr0 7 0)))], [(4, .box [.c (.v (.int .i64)), .c (.v (.int .i64)), .c (.v (.list [.int .i64]))]), (5, .box [.c (.v (.int .i64)), .c (.v (.int .i64)), .c (.v (.list [.int .i64]))]), (6, .box [.c (.v (.int .i64)), .c (.v (.int .i64)), .c (.full 50010 1)]), (7, .box [.c (.v (.int .i64)), .c (.v (.int .i64)), .c (.full 50011 1)]), (50010, .row true .froz [.int .i64]), (50011, .row true .froz [.int .i64])]⟩ [4, 5, 6, 17000, 17001, 17002, 17003, 17004, 17005, 7, 50000, 50001, 50002, 50003, 50004, 50005, 50006, 50007, 50008, 50009, 50010, 50011, 50012, 50013] [(true, 6, 2, 50010, .froz, []), (true, 7, 2, 50011, .froz, [])]
            (.block 1
              (.seq
               (.reg false [
                 ⟨(some 9), .mv (.k (.one (.v (.int .i64) ((0 : Int))))), none⟩])
              (.block 2
                (.loop 0 ⟨[(0, .one (.c (.v (.int .i64)))), (4, .one (.c (.ptr0 4 0))), (5, .one (.c (.ptr0 5 0))), (6, .one (.c (.ptr0 6 0))), (7, .one (.c (.ptr0 7 0))), (8, .one (.c (.v (.int .i64)))), (9, .one (.c (.v (.int .i64))))], [(4, .box [.c (.v (.int .i64)), .c (.v (.int .i64)), .c (.v (.list [.int .i64]))]), (5, .box [.c (.v (.int .i64)), .c (.v (.int .i64)), .c (.v (.list [.int .i64]))]), (6, .box [.c (.v (.int .i64)), .c (.v (.int .i64)), .c (.full 50002 1)]), (7, .box [.c (.v (.int .i64)), .c (.v (.int .i64)), .c (.full 50003 1)]), (50002, .row true .froz [.int .i64]), (50003, .row true .froz [.int .i64])]⟩ [4, 5, 6, 17000, 17001, 17002, 17003, 17004, 17005, 7, 50000, 50001, 50002, 50003, 50004, 50005, 50006, 50007, 50008, 50009, 50010, 50011, 50012, 50013] [(true, 6, 2, 50002, .froz, []), (true, 7, 2, 50003, .froz, [])]
                  (.seq
                   (.seq
                    (.reg false [
                      ⟨(some 23), .mv (.t 9), none⟩,
                      ⟨(some 24), .fieldA 1 (.t 5), none⟩,
                      ⟨(some 25), .load false 1 (.t 24), none⟩,
                      ⟨(some 26), .bin .lss (.t 23) (.t 25), none⟩])
                   (.cond (.t 26)
                     .skip
                     (.exit 2)))
                  (.seq
                   (.join ⟨[(9, .one (.c (.v (.int .i64)))), (0, .one (.c (.v (.int .i64)))), (4, .one (.c (.ptr0 4 0))), (5, .one (.c (.ptr0 5 0))), (6, .one (.c (.ptr0 6 0))), (7, .one (.c (.ptr0 7 0))), (8, .one (.c (.v (.int .i64))))], [(4, .box [.c (.v (.int .i64)), .c (.v (.int .i64)), .c (.v (.list [.int .i64]))]), (5, .box [.c (.v (.int .i64)), .c (.v (.int .i64)), .c (.v (.list [.int .i64]))]), (6, .box [.c (.v (.int .i64)), .c (.v (.int .i64)), .c (.full 50008 1)]), (7, .box [.c (.v (.int .i64)), .c (.v (.int .i64)), .c (.full 50009 1)]), (50008, .row true .froz [.int .i64]), (50009, .row true .froz [.int .i64])]⟩ [4, 5, 6, 17000, 17001, 17002, 17003, 17004, 17005, 7, 50000, 50001, 50002, 50003, 50004, 50005, 50006, 50007, 50008, 50009, 50010, 50011, 50012, 50013] [(true, 6, 2, 50008, .froz, []), (true, 7, 2, 50009, .froz, [])]
                     (.block 3
                       (.seq
                        (.reg false [
                          ⟨(some 10), .mv (.k (.one (.v (.int .i64) ((0 : Int))))), none⟩])
                       (.seq
                        (.seq
                         (.reg false [
                           ⟨(some 11), .mv (.k (.one (.v (.int .i64) ((0 : Int))))), none⟩])
                        (.join ⟨[(10, .one (.c (.v (.int .i64)))), (9, .one (.c (.v (.int .i64)))), (0, .one (.c (.v (.int .i64)))), (4, .one (.c (.ptr0 4 0))), (5, .one (.c (.ptr0 5 0))), (6, .one (.c (.ptr0 6 0))), (7, .one (.c (.ptr0 7 0))), (8, .one (.c (.v (.int .i64))))], [(4, .box [.c (.v (.int .i64)), .c (.v (.int .i64)), .c (.v (.list [.int .i64]))]), (5, .box [.c (.v (.int .i64)), .c (.v (.int .i64)), .c (.v (.list [.int .i64]))]), (6, .box [.c (.v (.int .i64)), .c (.v (.int .i64)), .c (.full 50006 1)]), (7, .box [.c (.v (.int .i64)), .c (.v (.int .i64)), .c (.full 50007 1)]), (50006, .row true .froz [.int .i64]), (50007, .row true .froz [.int .i64])]⟩ [4, 5, 6, 17000, 17001, 17002, 17003, 17004, 17005, 7, 50000, 50001, 50002, 50003, 50004, 50005, 50006, 50007, 50008, 50009, 50010, 50011, 50012, 50013] [(true, 6, 2, 50006, .froz, []), (true, 7, 2, 50007, .froz, [])]
                          (.block 4
                            (.loop 0 ⟨[(0, .one (.c (.v (.int .i64)))), (4, .one (.c (.ptr0 4 0))), (5, .one (.c (.ptr0 5 0))), (6, .one (.c (.ptr0 6 0))), (7, .one (.c (.ptr0 7 0))), (8, .one (.c (.v (.int .i64)))), (9, .one (.c (.v (.int .i64)))), (10, .one (.c (.v (.int .i64)))), (11, .one (.c (.v (.int .i64))))], [(4, .box [.c (.v (.int .i64)), .c (.v (.int .i64)), .c (.v (.list [.int .i64]))]), (5, .box [.c (.v (.int .i64)), .c (.v (.int .i64)), .c (.v (.list [.int .i64]))]), (6, .box [.c (.v (.int .i64)), .c (.v (.int .i64)), .c (.full 50004 1)]), (7, .box [.c (.v (.int .i64)), .c (.v (.int .i64)), .c (.full 50005 1)]), (50004, .row true .froz [.int .i64]), (50005, .row true .froz [.int .i64])]⟩ [4, 5, 6, 17000, 17001, 17002, 17003, 17004, 17005, 7, 50000, 50001, 50002, 50003, 50004, 50005, 50006, 50007, 50008, 50009, 50010, 50011, 50012, 50013] [(true, 6, 2, 50004, .froz, []), (true, 7, 2, 50005, .froz, [])]
                              (.seq
                               (.seq
                                (.reg false [
                                  ⟨(some 29), .mv (.t 11), none⟩,
                                  ⟨(some 30), .fieldA 1 (.t 4), none⟩,
                                  ⟨(some 31), .load false 1 (.t 30), none⟩,
                                  ⟨(some 32), .bin .lss (.t 29) (.t 31), none⟩])
                               (.cond (.t 32)
                                 .skip
                                 (.exit 4)))
                              (.seq
                               (.block 5
                                 (.reg true [
                                   ⟨(some 35), .mv (.t 10), none⟩,
                                   ⟨(some 36), .fieldA 2 (.t 4), none⟩,
                                   ⟨(some 37), .load false 1 (.t 36), none⟩,
                                   ⟨(some 38), .mv (.t 8), none⟩,
                                   ⟨(some 39), .fieldA 1 (.t 4), none⟩,
                                   ⟨(some 40), .load false 1 (.t 39), none⟩,
                                   ⟨(some 41), .bin .mul (.t 38) (.t 40), none⟩,
                                   ⟨(some 42), .mv (.t 11), none⟩,
                                   ⟨(some 43), .bin .add (.t 41) (.t 42), none⟩,
                                   ⟨(some 44), .idxA 1 (.t 37) (.t 43), none⟩,
                                   ⟨(some 45), .load false 1 (.t 44), none⟩,
                                   ⟨(some 46), .fieldA 2 (.t 5), none⟩,
                                   ⟨(some 47), .load false 1 (.t 46), none⟩,
                                   ⟨(some 48), .mv (.t 11), none⟩,
                                   ⟨(some 49), .fieldA 1 (.t 5), none⟩,
                                   ⟨(some 50), .load false 1 (.t 49), none⟩,
                                   ⟨(some 51), .bin .mul (.t 48) (.t 50), none⟩,
                                   ⟨(some 52), .mv (.t 9), none⟩,
                                   ⟨(some 53), .bin .add (.t 51) (.t 52), none⟩,
                                   ⟨(some 54), .idxA 1 (.t 47) (.t 53), none⟩,
                                   ⟨(some 55), .load false 1 (.t 54), none⟩,
                                   ⟨(some 56), .bin .mul (.t 45) (.t 55), none⟩,
                                   ⟨(some 57), .bin .add (.t 35) (.t 56), none⟩,
                                   ⟨(some 58), .mv (.t 0), none⟩,
                                   ⟨(some 59), .bin .rem (.t 57) (.t 58), none⟩,
                                   ⟨(some 10), .mv (.t 59), none⟩]))
                              (.reg false [
                                ⟨(some 33), .mv (.t 11), none⟩,
                                ⟨(some 34), .bin .add (.t 33) (.k (.one (.v (.int .i64) ((1 : Int))))), none⟩,
                                ⟨(some 11), .mv (.t 34), none⟩])))))))
                       (.reg false [
                         ⟨(some 60), .fieldA 2 (.t 7), none⟩,
                         ⟨(some 61), .load false 1 (.t 60), none⟩,
                         ⟨(some 62), .mv (.t 8), none⟩,
                         ⟨(some 63), .fieldA 1 (.t 5), none⟩,
                         ⟨(some 64), .load false 1 (.t 63), none⟩,
                         ⟨(some 65), .bin .mul (.t 62) (.t 64), none⟩,
                         ⟨(some 66), .mv (.t 9), none⟩,
                         ⟨(some 67), .bin .add (.t 65) (.t 66), none⟩,
                         ⟨(some 68), .mv (.t 10), none⟩,
                         ⟨(some 69), .idxA 1 (.t 61) (.t 67), none⟩,
                         ⟨none, .store 1 (.t 69) (.t 68), none⟩])))))
                  (.reg false [
                    ⟨(some 27), .mv (.t 9), none⟩,
                    ⟨(some 28), .bin .add (.t 27) (.k (.one (.v (.int .i64) ((1 : Int))))), none⟩,
                    ⟨(some 9), .mv (.t 28), none⟩]))))))))
         (.reg false [
           ⟨(some 21), .mv (.t 8), none⟩,
           ⟨(some 22), .bin .add (.t 21) (.k (.one (.v (.int .i64) ((1 : Int))))), none⟩,
           ⟨(some 8), .mv (.t 22), none⟩])))))))
  (.seq
   (.reg false [
     ⟨(some 70), .load true 3 (.t 7), none⟩,
     ⟨none, .store 3 (.t 6) (.t 70), none⟩])
  .ret))))
def ms_spec_l31Mul : List MRes := [.cell 6 3 true]
theorem n_spec_l31Mul (NN : Nat) (x : DLL (Sig.tys ag_spec_l31Mul)) : runS NN [fn_spec_l31New] sc_spec_l31Mul ms_spec_l31Mul ag_spec_l31Mul rs_spec_l31Mul x = G_spec_l31Mul NN x := by kernel_rfl
theorem k_spec_l31Mul : chkS Go.Proofs.Try.prog 53 sc_spec_l31Mul.er ms_spec_l31Mul 3 = true := by decide +kernel
theorem p_spec_l31Mul : PureSpec Go.Proofs.Try.prog 53 fn_spec_l31Mul.M ∧ chkFun Go.Proofs.Try.prog 53 = true :=
  pure_of_runS (T := [fn_spec_l31New]) (sc := sc_spec_l31Mul) (ms := ms_spec_l31Mul) (args := ag_spec_l31Mul) (res := rs_spec_l31Mul) (SOk.cons p_spec_l31New <| SOk.nil) follows_ok k_spec_l31Mul F_spec_l31Mul fun x y h => (n_spec_l31Mul FUEL x).trans (f_spec_l31Mul x y h)

def fn_spec_MulMatrix : SFn := ⟨22, ag_spec_MulMatrix, mu_spec_MulMatrix, rs_spec_MulMatrix, F_spec_MulMatrix⟩
def sc_spec_MulMatrix : SCode :=
  (.seq
   (.reg false [
     ⟨(some 4), .box 3 (.t 1), none⟩,
     ⟨(some 5), .box 3 (.t 2), none⟩,
     ⟨(some 6), .alloc [.v (.int .i64) ((0 : Int)), .v (.int .i64) ((0 : Int)), .nil [.int .i64]], none⟩,
     ⟨(some 7), .mv (.k (.one (.v (.bool) (false)))), none⟩])
  (.seq
   (.seq
    (.reg false [
      ⟨(some 8), .mv (.t 0), none⟩,
      ⟨(some 9), .load true 3 (.t 4), none⟩,
      ⟨(some 10), .call .froz 48 [(.t 8), (.t 9)], none⟩,
      ⟨(some 11), .un .not (.t 10), none⟩,
      ⟨(some 12), .mv (.t 11), none⟩,
      ⟨(some 13), .mv (.t 0), (some (12, false))⟩,
      ⟨(some 14), .load true 3 (.t 5), (some (12, false))⟩,
      ⟨(some 15), .call .froz 48 [(.t 13), (.t 14)], (some (12, false))⟩,
      ⟨(some 16), .un .not (.t 15), (some (12, false))⟩,
      ⟨(some 17), .pick (.t 12) (.k (.one (.v (.bool) (true)))) (.t 16), none⟩,
      ⟨(some 18), .mv (.t 17), none⟩,
      ⟨(some 19), .fieldA 1 (.t 4), (some (18, false))⟩,
      ⟨(some 20), .load false 1 (.t 19), (some (18, false))⟩,
      ⟨(some 21), .fieldA 0 (.t 5), (some (18, false))⟩,
      ⟨(some 22), .load false 1 (.t 21), (some (18, false))⟩,
      ⟨(some 23), .bin .neq (.t 20) (.t 22), (some (18, false))⟩,
      ⟨(some 24), .pick (.t 18) (.k (.one (.v (.bool) (true)))) (.t 23), none⟩])
   (.cond (.t 24)
     (.seq
      (.reg false [
        ⟨(some 25), .build [.v (.int .i64) ((0 : Int)), .v (.int .i64) ((0 : Int)), .nil [.int .i64]] [], none⟩,
        ⟨none, .store 3 (.t 6) (.t 25), none⟩,
        ⟨(some 7), .mv (.k (.one (.v (.bool) (false)))), none⟩])
     .ret)
     .skip))
  (.seq
   (.reg false [
     ⟨(some 26), .mv (.t 0), none⟩,
     ⟨(some 27), .load true 3 (.t 4), none⟩,
     ⟨(some 28), .load true 3 (.t 5), none⟩,
     ⟨(some 29), .call .froz 53 [(.t 26), (.t 27), (.t 28)], none⟩,
     ⟨none, .store 3 (.t 6) (.t 29), none⟩,
     ⟨(some 7), .mv (.k (.one (.v (.bool) (true)))), none⟩])
  .ret)))
def ms_spec_MulMatrix : List MRes := [.cell 6 3 true, .tmp 7]
theorem n_spec_MulMatrix (NN : Nat) (x : DLL (Sig.tys ag_spec_MulMatrix)) : runS NN [fn_spec_MatrixOk, fn_spec_l31Mul] sc_spec_MulMatrix ms_spec_MulMatrix ag_spec_MulMatrix rs_spec_MulMatrix x = G_spec_MulMatrix NN x := by kernel_rfl
theorem k_spec_MulMatrix : chkS Go.Proofs.Try.prog 22 sc_spec_MulMatrix.er ms_spec_MulMatrix 3 = true := by decide +kernel
theorem p_spec_MulMatrix : PureSpec Go.Proofs.Try.prog 22 fn_spec_MulMatrix.M ∧ chkFun Go.Proofs.Try.prog 22 = true :=
  pure_of_runS (T := [fn_spec_MatrixOk, fn_spec_l31Mul]) (sc := sc_spec_MulMatrix) (ms := ms_spec_MulMatrix) (args := ag_spec_MulMatrix) (res := rs_spec_MulMatrix) (SOk.cons p_spec_MatrixOk <| SOk.cons p_spec_l31Mul <| SOk.nil) follows_ok k_spec_MulMatrix F_spec_MulMatrix fun x y h => (n_spec_MulMatrix FUEL x).trans (f_spec_MulMatrix x y h)

def fn_impl_IsPrime : SFn := ⟨68, ag_impl_IsPrime, mu_impl_IsPrime, rs_impl_IsPrime, F_impl_IsPrime⟩
def sc_impl_IsPrime : SCode :=
  (.seq
   (.reg false [
     ⟨(some 2), .mv (.k (.one (.v (.bool) (false)))), none⟩])
  (.seq
   (.seq
    (.reg false [
      ⟨(some 4), .mv (.t 0), none⟩,
      ⟨(some 5), .bin .lss (.t 4) (.k (.one (.v (.int .i64) ((2 : Int))))), none⟩,
      ⟨(some 6), .mv (.t 5), none⟩,
      ⟨(some 7), .mv (.t 0), (some (6, false))⟩,
      ⟨(some 8), .bin .gtr (.t 7) (.k (.one (.v (.int .i64) ((1000003 : Int))))), (some (6, false))⟩,
      ⟨(some 9), .pick (.t 6) (.k (.one (.v (.bool) (true)))) (.t 8), none⟩])
   (.cond (.t 9)
     (.seq
      (.reg false [
        ⟨(some 2), .mv (.k (.one (.v (.bool) (false)))), none⟩])
     .ret)
     .skip))
  (.seq
   (.seq
    (.reg false [
      ⟨(some 3), .mv (.k (.one (.v (.int .i64) ((2 : Int))))), none⟩])
   (.join ⟨[], []⟩ [] []
     (.block 0
       (.loop 0 ⟨[(0, .one (.c (.v (.int .i64)))), (3, .one (.c (.v (.int .i64))))], []⟩ [] []
         (.seq
          (.seq
           (.reg false [
             ⟨(some 10), .mv (.t 3), none⟩,
             ⟨(some 11), .mv (.t 3), none⟩,
             ⟨(some 12), .bin .mul (.t 10) (.t 11), none⟩,
             ⟨(some 13), .mv (.t 0), none⟩,
             ⟨(some 14), .bin .leq (.t 12) (.t 13), none⟩])
          (.cond (.t 14)
            .skip
            (.exit 0)))
         (.seq
          (.block 1
            (.seq
             (.reg false [
               ⟨(some 17), .mv (.t 0), none⟩,
               ⟨(some 18), .mv (.t 3), none⟩,
               ⟨(some 19), .bin .rem (.t 17) (.t 18), none⟩,
               ⟨(some 20), .bin .eql (.t 19) (.k (.one (.v (.int .i64) ((0 : Int))))), none⟩])
            (.cond (.t 20)
              (.seq
               (.reg false [
                 ⟨(some 2), .mv (.k (.one (.v (.bool) (false)))), none⟩])
              .ret)
              .skip)))
         (.reg false [
           ⟨(some 15), .mv (.t 3), none⟩,
           ⟨(some 16), .bin .add (.t 15) (.k (.one (.v (.int .i64) ((1 : Int))))), none⟩,
           ⟨(some 3), .mv (.t 16), none⟩])))))))
  (.seq
   (.reg false [
     ⟨(some 2), .mv (.k (.one (.v (.bool) (true)))), none⟩])
  .ret))))
def ms_impl_IsPrime : List MRes := [.tmp 2]
theorem n_impl_IsPrime (NN : Nat) (x : DLL (Sig.tys ag_impl_IsPrime)) : runS NN [] sc_impl_IsPrime ms_impl_IsPrime ag_impl_IsPrime rs_impl_IsPrime x = G_impl_IsPrime NN x := by kernel_rfl
theorem k_impl_IsPrime : chkS Go.Proofs.Try.prog 68 sc_impl_IsPrime.er ms_impl_IsPrime 1 = true := by decide +kernel
theorem p_impl_IsPrime : PureSpec Go.Proofs.Try.prog 68 fn_impl_IsPrime.M ∧ chkFun Go.Proofs.Try.prog 68 = true :=
  pure_of_runS (T := []) (sc := sc_impl_IsPrime) (ms := ms_impl_IsPrime) (args := ag_impl_IsPrime) (res := rs_impl_IsPrime) (SOk.nil) follows_ok k_impl_IsPrime F_impl_IsPrime fun x y h => (n_impl_IsPrime FUEL x).trans (f_impl_IsPrime x y h)

def fn_impl_inMod : SFn := ⟨79, ag_impl_inMod, mu_impl_inMod, rs_impl_inMod, F_impl_inMod⟩
def sc_impl_inMod : SCode :=
  (.seq
   (.reg false [
     ⟨(some 4), .mv (.k (.one (.v (.bool) (false)))), none⟩])
  (.seq
   (.seq
    (.reg false [
      ⟨(some 7), .mv (.t 1), none⟩,
      ⟨(some 8), .len (.t 7), none⟩,
      ⟨(some 9), .mv (.k (.one (.v (.int .i64) ((0 : Int))))), none⟩])
   (.join ⟨[], []⟩ [] []
     (.block 0
       (.loop 0 ⟨[(0, .one (.c (.v (.int .i64)))), (7, .one (.c (.v (.list [.int .i64])))), (8, .one (.c (.v (.int .i64)))), (9, .one (.c (.v (.int .i64))))], []⟩ [] []
         (.seq
          (.reg false [
            ⟨(some 10), .bin .lss (.t 9) (.t 8), none⟩])
         (.seq
          (.cond (.t 10)
            .skip
            (.exit 0))
         (.seq
          (.block 1
            (.seq
             (.reg false [
               ⟨(some 11), .idxA 1 (.t 7) (.t 9), none⟩,
               ⟨(some 12), .load false 1 (.t 11), none⟩,
               ⟨(some 6), .mv (.t 12), none⟩])
            (.seq
             (.reg false [
               ⟨(some 13), .mv (.t 6), none⟩,
               ⟨(some 14), .bin .lss (.t 13) (.k (.one (.v (.int .i64) ((0 : Int))))), none⟩,
               ⟨(some 15), .mv (.t 14), none⟩,
               ⟨(some 16), .mv (.t 6), (some (15, false))⟩,
               ⟨(some 17), .mv (.t 0), (some (15, false))⟩,
               ⟨(some 18), .bin .geq (.t 16) (.t 17), (some (15, false))⟩,
               ⟨(some 19), .pick (.t 15) (.k (.one (.v (.bool) (true)))) (.t 18), none⟩])
            (.cond (.t 19)
              (.seq
               (.reg false [
                 ⟨(some 4), .mv (.k (.one (.v (.bool) (false)))), none⟩])
              .ret)
              .skip))))
         (.reg false [
           ⟨(some 20), .bin .add (.t 9) (.k (.one (.v (.int .i64) ((1 : Int))))), none⟩,
           ⟨(some 9), .mv (.t 20), none⟩]))))))))
  (.seq
   (.reg false [
     ⟨(some 4), .mv (.k (.one (.v (.bool) (true)))), none⟩])
  .ret)))
def ms_impl_inMod : List MRes := [.tmp 4]
theorem n_impl_inMod (NN : Nat) (x : DLL (Sig.tys ag_impl_inMod)) : runS NN [] sc_impl_inMod ms_impl_inMod ag_impl_inMod rs_impl_inMod x = G_impl_inMod NN x := by kernel_rfl
theorem k_impl_inMod : chkS Go.Proofs.Try.prog 79 sc_impl_inMod.er ms_impl_inMod 2 = true := by decide +kernel
theorem p_impl_inMod : PureSpec Go.Proofs.Try.prog 79 fn_impl_inMod.M ∧ chkFun Go.Proofs.Try.prog 79 = true :=
  pure_of_runS (T := []) (sc := sc_impl_inMod) (ms := ms_impl_inMod) (args := ag_impl_inMod) (res := rs_impl_inMod) (SOk.nil) follows_ok k_impl_inMod F_impl_inMod fun x y h => (n_impl_inMod FUEL x).trans (f_impl_inMod x y h)

def fn_impl_MatrixOk : SFn := ⟨51, ag_impl_MatrixOk, mu_impl_MatrixOk, rs_impl_MatrixOk, F_impl_MatrixOk⟩
def sc_impl_MatrixOk : SCode :=
  (.seq
   (.reg false [
     ⟨(some 3), .box 3 (.t 1), none⟩,
     ⟨(some 4), .mv (.k (.one (.v (.bool) (false)))), none⟩])
  (.seq
   (.seq
    (.reg false [
      ⟨(some 5), .mv (.t 0), none⟩,
      ⟨(some 6), .call .froz 68 [(.t 5)], none⟩,
      ⟨(some 7), .un .not (.t 6), none⟩,
      ⟨(some 8), .mv (.t 7), none⟩,
      ⟨(some 9), .fieldA 0 (.t 3), (some (8, false))⟩,
      ⟨(some 10), .load false 1 (.t 9), (some (8, false))⟩,
      ⟨(some 11), .bin .lss (.t 10) (.k (.one (.v (.int .i64) ((0 : Int))))), (some (8, false))⟩,
      ⟨(some 12), .pick (.t 8) (.k (.one (.v (.bool) (true)))) (.t 11), none⟩,
      ⟨(some 13), .mv (.t 12), none⟩,
      ⟨(some 14), .fieldA 1 (.t 3), (some (13, false))⟩,
      ⟨(some 15), .load false 1 (.t 14), (some (13, false))⟩,
      ⟨(some 16), .bin .lss (.t 15) (.k (.one (.v (.int .i64) ((0 : Int))))), (some (13, false))⟩,
      ⟨(some 17), .pick (.t 13) (.k (.one (.v (.bool) (true)))) (.t 16), none⟩,
      ⟨(some 18), .mv (.t 17), none⟩,
      ⟨(some 19), .fieldA 0 (.t 3), (some (18, false))⟩,
      ⟨(some 20), .load false 1 (.t 19), (some (18, false))⟩,
      ⟨(some 21), .bin .gtr (.t 20) (.k (.one (.v (.int .i64) ((64 : Int))))), (some (18, false))⟩,
      ⟨(some 22), .pick (.t 18) (.k (.one (.v (.bool) (true)))) (.t 21), none⟩,
      ⟨(some 23), .mv (.t 22), none⟩,
      ⟨(some 24), .fieldA 1 (.t 3), (some (23, false))⟩,
      ⟨(some 25), .load false 1 (.t 24), (some (23, false))⟩,
      ⟨(some 26), .bin .gtr (.t 25) (.k (.one (.v (.int .i64) ((64 : Int))))), (some (23, false))⟩,
      ⟨(some 27), .pick (.t 23) (.k (.one (.v (.bool) (true)))) (.t 26), none⟩])
   (.cond (.t 27)
     (.seq
      (.reg false [
        ⟨(some 4), .mv (.k (.one (.v (.bool) (false)))), none⟩])
     .ret)
     .skip))
  (.seq
   (.reg false [
     ⟨(some 28), .fieldA 2 (.t 3), none⟩,
     ⟨(some 29), .load false 1 (.t 28), none⟩,
     ⟨(some 30), .len (.t 29), none⟩,
     ⟨(some 31), .fieldA 0 (.t 3), none⟩,
     ⟨(some 32), .load false 1 (.t 31), none⟩,
     ⟨(some 33), .fieldA 1 (.t 3), none⟩,
     ⟨(some 34), .load false 1 (.t 33), none⟩,
     ⟨(some 35), .bin .mul (.t 32) (.t 34), none⟩,
     ⟨(some 36), .bin .eql (.t 30) (.t 35), none⟩,
     ⟨(some 37), .mv (.t 36), none⟩,
     ⟨(some 38), .mv (.t 0), (some (37, true))⟩,
     ⟨(some 39), .fieldA 2 (.t 3), (some (37, true))⟩,
     ⟨(some 40), .load false 1 (.t 39), (some (37, true))⟩,
     ⟨(some 41), .call .froz 79 [(.t 38), (.t 40)], (some (37, true))⟩,
     ⟨(some 42), .pick (.t 37) (.t 41) (.k (.one (.v (.bool) (false)))), none⟩,
     ⟨(some 4), .mv (.t 42), none⟩])
  .ret)))
def ms_impl_MatrixOk : List MRes := [.tmp 4]
theorem n_impl_MatrixOk (NN : Nat) (x : DLL (Sig.tys ag_impl_MatrixOk)) : runS NN [fn_impl_IsPrime, fn_impl_inMod] sc_impl_MatrixOk ms_impl_MatrixOk ag_impl_MatrixOk rs_impl_MatrixOk x = G_impl_MatrixOk NN x := by kernel_rfl
theorem k_impl_MatrixOk : chkS Go.Proofs.Try.prog 51 sc_impl_MatrixOk.er ms_impl_MatrixOk 2 = true := by decide +kernel
theorem p_impl_MatrixOk : PureSpec Go.Proofs.Try.prog 51 fn_impl_MatrixOk.M ∧ chkFun Go.Proofs.Try.prog 51 = true :=
  pure_of_runS (T := [fn_impl_IsPrime, fn_impl_inMod]) (sc := sc_impl_MatrixOk) (ms := ms_impl_MatrixOk) (args := ag_impl_MatrixOk) (res := rs_impl_MatrixOk) (SOk.cons p_impl_IsPrime <| SOk.cons p_impl_inMod <| SOk.nil) follows_ok k_impl_MatrixOk F_impl_MatrixOk fun x y h => (n_impl_MatrixOk FUEL x).trans (f_impl_MatrixOk x y h)

def fn_impl_emptyMatrix : SFn := ⟨73, ag_impl_emptyMatrix, mu_impl_emptyMatrix, rs_impl_emptyMatrix, F_impl_emptyMatrix⟩
def sc_impl_emptyMatrix : SCode :=
  (.seq
   (.reg false [
     ⟨(some 4), .alloc [.v (.int .i64) ((0 : Int)), .v (.int .i64) ((0 : Int)), .nil [.int .i64]], none⟩])
  (.seq
   (.reg false [
     ⟨(some 5), .mv (.t 0), none⟩,
     ⟨(some 6), .mv (.t 1), none⟩,
     ⟨(some 7), .mv (.t 0), none⟩,
     ⟨(some 8), .mv (.t 1), none⟩,
     ⟨(some 9), .bin .mul (.t 7) (.t 8), none⟩,
     ⟨(some 10), .mkslice .froz [.int .i64] 8 (0 : Int) (.t 9) (.t 9), none⟩,
     ⟨(some 11), .build [.v (.int .i64) ((0 : Int)), .v (.int .i64) ((0 : Int)), .nil [.int .i64]] [(0, 1, (.t 5)), (1, 1, (.t 6)), (2, 1, (.t 10))], none⟩,
     ⟨none, .store 3 (.t 4) (.t 11), none⟩])
  .ret))
def ms_impl_emptyMatrix : List MRes := [.cell 4 3 true]
theorem n_impl_emptyMatrix (NN : Nat) (x : DLL (Sig.tys ag_impl_emptyMatrix)) : runS NN [] sc_impl_emptyMatrix ms_impl_emptyMatrix ag_impl_emptyMatrix rs_impl_emptyMatrix x = G_impl_emptyMatrix NN x := by kernel_rfl
theorem k_impl_emptyMatrix : chkS Go.Proofs.Try.prog 73 sc_impl_emptyMatrix.er ms_impl_emptyMatrix 2 = true := by decide +kernel
theorem p_impl_emptyMatrix : PureSpec Go.Proofs.Try.prog 73 fn_impl_emptyMatrix.M ∧ chkFun Go.Proofs.Try.prog 73 = true :=
  pure_of_runS (T := []) (sc := sc_impl_emptyMatrix) (ms := ms_impl_emptyMatrix) (args := ag_impl_emptyMatrix) (res := rs_impl_emptyMatrix) (SOk.nil) follows_ok k_impl_emptyMatrix F_impl_emptyMatrix fun x y h => (n_impl_emptyMatrix FUEL x).trans (f_impl_emptyMatrix x y h)

def fn_impl_Matrix_at : SFn := ⟨62, ag_impl_Matrix_at, mu_impl_Matrix_at, rs_impl_Matrix_at, F_impl_Matrix_at⟩
def sc_impl_Matrix_at : SCode :=
  (.seq
   (.reg false [
     ⟨(some 3), .box 3 (.t 0), none⟩,
     ⟨(some 6), .mv (.k (.one (.v (.int .i64) ((0 : Int))))), none⟩])
  (.seq
   (.reg false [
     ⟨(some 7), .fieldA 2 (.t 3), none⟩,
     ⟨(some 8), .load false 1 (.t 7), none⟩,
     ⟨(some 9), .mv (.t 1), none⟩,
     ⟨(some 10), .fieldA 1 (.t 3), none⟩,
     ⟨(some 11), .load false 1 (.t 10), none⟩,
     ⟨(some 12), .bin .mul (.t 9) (.t 11), none⟩,
     ⟨(some 13), .mv (.t 2), none⟩,
     ⟨(some 14), .bin .add (.t 12) (.t 13), none⟩,
     ⟨(some 15), .idxA 1 (.t 8) (.t 14), none⟩,
     ⟨(some 16), .load false 1 (.t 15), none⟩,
     ⟨(some 6), .mv (.t 16), none⟩])
  .ret))
def ms_impl_Matrix_at : List MRes := [.tmp 6]
theorem n_impl_Matrix_at (NN : Nat) (x : DLL (Sig.tys ag_impl_Matrix_at)) : runS NN [] sc_impl_Matrix_at ms_impl_Matrix_at ag_impl_Matrix_at rs_impl_Matrix_at x = G_impl_Matrix_at NN x := by kernel_rfl
theorem k_impl_Matrix_at : chkS Go.Proofs.Try.prog 62 sc_impl_Matrix_at.er ms_impl_Matrix_at 3 = true := by decide +kernel
theorem p_impl_Matrix_at : PureSpec Go.Proofs.Try.prog 62 fn_impl_Matrix_at.M ∧ chkFun Go.Proofs.Try.prog 62 = true :=
  pure_of_runS (T := []) (sc := sc_impl_Matrix_at) (ms := ms_impl_Matrix_at) (args := ag_impl_Matrix_at) (res := rs_impl_Matrix_at) (SOk.nil) follows_ok k_impl_Matrix_at F_impl_Matrix_at fun x y h => (n_impl_Matrix_at FUEL x).trans (f_impl_Matrix_at x y h)

def fn_impl_Matrix_set : SFn := ⟨67, ag_impl_Matrix_set, mu_impl_Matrix_set, rs_impl_Matrix_set, F_impl_Matrix_set⟩
def sc_impl_Matrix_set : SCode :=
  (.seq
   (.reg false [
     ⟨(some 4), .box 3 (.t 0), none⟩])
  (.reg false [
    ⟨(some 8), .fieldA 2 (.t 4), none⟩,
    ⟨(some 9), .load false 1 (.t 8), none⟩,
    ⟨(some 10), .mv (.t 1), none⟩,
    ⟨(some 11), .fieldA 1 (.t 4), none⟩,
    ⟨(some 12), .load false 1 (.t 11), none⟩,
    ⟨(some 13), .bin .mul (.t 10) (.t 12), none⟩,
    ⟨(some 14), .mv (.t 2), none⟩,
    ⟨(some 15), .bin .add (.t 13) (.t 14), none⟩,
    ⟨(some 16), .mv (.t 3), none⟩,
    ⟨(some 17), .idxA 1 (.t 9) (.t 15), none⟩,
    ⟨none, .store 1 (.t 17) (.t 16), none⟩]))
def ms_impl_Matrix_set : List MRes := []
theorem n_impl_Matrix_set (NN : Nat) (x : DLL (Sig.tys ag_impl_Matrix_set)) : runMS NN [] sc_impl_Matrix_set ms_impl_Matrix_set ag_impl_Matrix_set mu_impl_Matrix_set rs_impl_Matrix_set x = G_impl_Matrix_set NN x := by kernel_rfl
theorem k_impl_Matrix_set : chkS Go.Proofs.Try.prog 67 sc_impl_Matrix_set.er ms_impl_Matrix_set 4 = true := by decide +kernel
theorem p_impl_Matrix_set : MutSpec Go.Proofs.Try.prog 67 mu_impl_Matrix_set fn_impl_Matrix_set.MM ∧ chkFun Go.Proofs.Try.prog 67 = true :=
  mut_of_runMS (T := []) (sc := sc_impl_Matrix_set) (ms := ms_impl_Matrix_set) (args := ag_impl_Matrix_set) (mu := mu_impl_Matrix_set) (res := rs_impl_Matrix_set) (SOk.nil) follows_ok k_impl_Matrix_set F_impl_Matrix_set fun x y h => (n_impl_Matrix_set FUEL x).trans (f_impl_Matrix_set x y h)

def fn_impl_rawMulMatrix : SFn := ⟨54, ag_impl_rawMulMatrix, mu_impl_rawMulMatrix, rs_impl_rawMulMatrix, F_impl_rawMulMatrix⟩
def sc_impl_rawMulMatrix : SCode :=
  (.seq
   (.reg false [
     ⟨(some 4), .box 3 (.t 1), none⟩,
     ⟨(some 5), .box 3 (.t 2), none⟩,
     ⟨(some 6), .alloc [.v (.int .i64) ((0 : Int)), .v (.int .i64) ((0 : Int)), .nil [.int .i64]], none⟩])
  (.seq
   (.reg false [
     ⟨(some 12), .fieldA 0 (.t 4), none⟩,
     ⟨(some 13), .load false 1 (.t 12), none⟩,
     ⟨(some 14), .fieldA 1 (.t 5), none⟩,
     ⟨(some 15), .load false 1 (.t 14), none⟩,
     ⟨(some 16), .call .froz 73 [(.t 13), (.t 15)], none⟩,
     ⟨(some 7), .alloc [.v (.int .i64) ((0 : Int)), .v (.int .i64) ((0 : Int)), .nil [.int .i64]], none⟩,
     ⟨none, .store 3 (.t 7) (.t 16), none⟩])
  (.seq
   (.seq
    (.reg false [
      ⟨(some 8), .mv (.k (.one (.v (.int .i64) ((0 : Int))))), none⟩])
   (.join ⟨[(7, .one (.c (.ptr0 7 0))), (6, .one (.c (.ptr0 6 0)))], [(6, .box [.c (.v (.int .i64)), .c (.v (.int .i64)), .c (.full 50012 1)]), (7, .box [.c (.v (.int .i64)), .c (.v (.int .i64)), .c (.full 50013 1)]), (50012, .row true .froz [.int .i64]), (50013, .row true .froz [.int .i64])]⟩ [4, 5, 6, 17000, 17001, 17002, 17003, 17004, 17005, 7, 40000, 40001, 40002, 40003, 40004, 40005, 44000, 44001, 44002, 44003, 44004, 44005, 53000, 53001, 53002, 53003, 53004, 53005, 50000, 50001, 50002, 50003, 50004, 50005, 50006, 50007, 50008, 50009, 50010, 50011, 50012, 50013] [(true, 6, 2, 50012, .froz, []), (true, 7, 2, 50013, .froz, [])]
     (.block 0
       (.loop 0 ⟨[(0, .one (.c (.v (.int .i64)))), (4, .one (.c (.ptr0 4 0))), (5, .one (.c (.ptr0 5 0))), (6, .one (.c (.ptr0 6 0))), (7, .one (.c (.ptr0 7 0))), (8, .one (.c (.v (.int .i64))))], [(4, .box [.c (.v (.int .i64)), .c (.v (.int .i64)), .c (.v (.list [.int .i64]))]), (5, .box [.c (.v (.int .i64)), .c (.v (.int .i64)), .c (.v (.list [.int .i64]))]), (6, .box [.c (.v (.int .i64)), .c (.v (.int .i64)), .c (.full 50000 1)]), (7, .box [.c (.v (.int .i64)), .c (.v (.int .i64)), .c (.full 50001 1)]), (50000, .row true .froz [.int .i64]), (50001, .row true .froz [.int .i64])]⟩ [4, 5, 6, 17000, 17001, 17002, 17003, 17004, 17005, 7, 40000, 40001, 40002, 40003, 40004, 40005, 44000, 44001, 44002, 44003, 44004, 44005, 53000, 53001, 53002, 53003, 53004, 53005, 50000, 50001, 50002, 50003, 50004, 50005, 50006, 50007, 50008, 50009, 50010, 50011, 50012, 50013] [(true, 6, 2, 50000, .froz, []), (true, 7, 2, 50001, .froz, [])]
         (.seq
          (.seq
           (.reg false [
             ⟨(some 17), .mv (.t 8), none⟩,
             ⟨(some 18), .fieldA 0 (.t 4), none⟩,
             ⟨(some 19), .load false 1 (.t 18), none⟩,
             ⟨(some 20), .bin .lss (.t 17) (.t 19), none⟩])
          (.cond (.t 20)
            .skip
            (.exit 0)))
         (.seq
          (.join ⟨[(8, .one (.c (.v (.int .i64)))), (0, .one (.c (.v (.int .i64)))), (4, .one (.c (.ptr0 4 0))), (5, .one (.c (.ptr0 5 0))), (6, .one (.c (.ptr0 6 0))), (7, .one (.c (.ptr0 7 0)))], [(4, .box [.c (.v (.int .i64)), .c (.v (.int .i64)), .c (.v (.list [.int .i64]))]), (5, .box [.c (.v (.int .i64)), .c (.v (.int .i64)), .c (.v (.list [.int .i64]))]), (6, .box [.c (.v (.int .i64)), .c (.v (.int .i64)), .c (.full 50010 1)]), (7, .box [.c (.v (.int .i64)), .c (.v (.int .i64)), .c (.full 50011 1)]), (50010, .row true .froz [.int .i64]), (50011, .row true .froz [.int .i64])]⟩ [4, 5, 6, 17000, 17001, 17002, 17003, 17004, 17005, 7, 40000, 40001, 40002, 40003, 40004, 40005, 44000, 44001, 44002, 44003, 44004, 44005, 53000, 53001, 53002, 53003, 53004, 53005, 50000, 50001, 50002, 50003, 50004, 50005, 50006, 50007, 50008, 50009, 50010, 50011, 50012, 50013] [(true, 6, 2, 50010, .froz, []), (true, 7, 2, 50011, .froz, [])]
            (.block 1
              (.seq
               (.reg false [
                 ⟨(some 9), .mv (.k (.one (.v (.int .i64) ((0 : Int))))), none⟩])
              (.block 2
                (.loop 0 ⟨[(0, .one (.c (.v (.int .i64)))), (4, .one (.c (.ptr0 4 0))), (5, .one (.c (.ptr0 5 0))), (6, .one (.c (.ptr0 6 0))), (7, .one (.c (.ptr0 7 0))), (8, .one (.c (.v (.int .i64)))), (9, .one (.c (.v (.int .i64))))], [(4, .box [.c (.v (.int .i64)), .c (.v (.int .i64)), .c (.v (.list [.int .i64]))]), (5, .box [.c (.v (.int .i64)), .c (.v (.int .i64)), .c (.v (.list [.int .i64]))]), (6, .box [.c (.v (.int .i64)), .c (.v (.int .i64)), .c (.full 50002 1)]), (7, .box [.c (.v (.int .i64)), .c (.v (.int .i64)), .c (.full 50003 1)]), (50002, .row true .froz [.int .i64]), (50003, .row true .froz [.int .i64])]⟩ [4, 5, 6, 17000, 17001, 17002, 17003, 17004, 17005, 7, 40000, 40001, 40002, 40003, 40004, 40005, 44000, 44001, 44002, 44003, 44004, 44005, 53000, 53001, 53002, 53003, 53004, 53005, 50000, 50001, 50002, 50003, 50004, 50005, 50006, 50007, 50008, 50009, 50010, 50011, 50012, 50013] [(true, 6, 2, 50002, .froz, []), (true, 7, 2, 50003, .froz, [])]
                  (.seq
                   (.seq
                    (.reg false [
                      ⟨(some 23), .mv (.t 9), none⟩,
                      ⟨(some 24), .fieldA 1 (.t 5), none⟩,
                      ⟨(some 25), .load false 1 (.t 24), none⟩,
                      ⟨(some 26), .bin .lss (.t 23) (.t 25), none⟩])
                   (.cond (.t 26)
                     .skip
                     (.exit 2)))
                  (.seq
                   (.join ⟨[(9, .one (.c (.v (.int .i64)))), (0, .one (.c (.v (.int .i64)))), (4, .one (.c (.ptr0 4 0))), (5, .one (.c (.ptr0 5 0))), (6, .one (.c (.ptr0 6 0))), (7, .one (.c (.ptr0 7 0))), (8, .one (.c (.v (.int .i64))))], [(4, .box [.c (.v (.int .i64)), .c (.v (.int .i64)), .c (.v (.list [.int .i64]))]), (5, .box [.c (.v (.int .i64)), .c (.v (.int .i64)), .c (.v (.list [.int .i64]))]), (6, .box [.c (.v (.int .i64)), .c (.v (.int .i64)), .c (.full 50008 1)]), (7, .box [.c (.v (.int .i64)), .c (.v (.int .i64)), .c (.full 50009 1)]), (50008, .row true .froz [.int .i64]), (50009, .row true .froz [.int .i64])]⟩ [4, 5, 6, 17000, 17001, 17002, 17003, 17004, 17005, 7, 40000, 40001, 40002, 40003, 40004, 40005, 44000, 44001, 44002, 44003, 44004, 44005, 53000, 53001, 53002, 53003, 53004, 53005, 50000, 50001, 50002, 50003, 50004, 50005, 50006, 50007, 50008, 50009, 50010, 50011, 50012, 50013] [(true, 6, 2, 50008, .froz, []), (true, 7, 2, 50009, .froz, [])]
                     (.block 3
                       (.seq
                        (.reg false [
                          ⟨(some 10), .mv (.k (.one (.v (.int .i64) ((0 : Int))))), none⟩])
                       (.seq
                        (.seq
                         (.reg false [
                           ⟨(some 11), .mv (.k (.one (.v (.int .i64) ((0 : Int))))), none⟩])
                        (.join ⟨[(10, .one (.c (.v (.int .i64)))), (9, .one (.c (.v (.int .i64)))), (0, .one (.c (.v (.int .i64)))), (4, .one (.c (.ptr0 4 0))), (5, .one (.c (.ptr0 5 0))), (6, .one (.c (.ptr0 6 0))), (7, .one (.c (.ptr0 7 0))), (8, .one (.c (.v (.int .i64))))], [(4, .box [.c (.v (.int .i64)), .c (.v (.int .i64)), .c (.v (.list [.int .i64]))]), (5, .box [.c (.v (.int .i64)), .c (.v (.int .i64)), .c (.v (.list [.int .i64]))]), (6, .box [.c (.v (.int .i64)), .c (.v (.int .i64)), .c (.full 50006 1)]), (7, .box [.c (.v (.int .i64)), .c (.v (.int .i64)), .c (.full 50007 1)]), (50006, .row true .froz [.int .i64]), (50007, .row true .froz [.int .i64])]⟩ [4, 5, 6, 17000, 17001, 17002, 17003, 17004, 17005, 7, 40000, 40001, 40002, 40003, 40004, 40005, 44000, 44001, 44002, 44003, 44004, 44005, 53000, 53001, 53002, 53003, 53004, 53005, 50000, 50001, 50002, 50003, 50004, 50005, 50006, 50007, 50008, 50009, 50010, 50011, 50012, 50013] [(true, 6, 2, 50006, .froz, []), (true, 7, 2, 50007, .froz, [])]
                          (.block 4
                            (.loop 0 ⟨[(0, .one (.c (.v (.int .i64)))), (4, .one (.c (.ptr0 4 0))), (5, .one (.c (.ptr0 5 0))), (6, .one (.c (.ptr0 6 0))), (7, .one (.c (.ptr0 7 0))), (8, .one (.c (.v (.int .i64)))), (9, .one (.c (.v (.int .i64)))), (10, .one (.c (.v (.int .i64)))), (11, .one (.c (.v (.int .i64))))], [(4, .box [.c (.v (.int .i64)), .c (.v (.int .i64)), .c (.v (.list [.int .i64]))]), (5, .box [.c (.v (.int .i64)), .c (.v (.int .i64)), .c (.v (.list [.int .i64]))]), (6, .box [.c (.v (.int .i64)), .c (.v (.int .i64)), .c (.full 50004 1)]), (7, .box [.c (.v (.int .i64)), .c (.v (.int .i64)), .c (.full 50005 1)]), (50004, .row true .froz [.int .i64]), (50005, .row true .froz [.int .i64])]⟩ [4, 5, 6, 17000, 17001, 17002, 17003, 17004, 17005, 7, 40000, 40001, 40002, 40003, 40004, 40005, 44000, 44001, 44002, 44003, 44004, 44005, 53000, 53001, 53002, 53003, 53004, 53005, 50000, 50001, 50002, 50003, 50004, 50005, 50006, 50007, 50008, 50009, 50010, 50011, 50012, 50013] [(true, 6, 2, 50004, .froz, []), (true, 7, 2, 50005, .froz, [])]
                              (.seq
                               (.seq
                                (.reg false [
                                  ⟨(some 29), .mv (.t 11), none⟩,
                                  ⟨(some 30), .fieldA 1 (.t 4), none⟩,
                                  ⟨(some 31), .load false 1 (.t 30), none⟩,
                                  ⟨(some 32), .bin .lss (.t 29) (.t 31), none⟩])
                               (.cond (.t 32)
                                 .skip
                                 (.exit 4)))
                              (.seq
                               (.block 5
                                 (.reg true [
                                   ⟨(some 35), .mv (.t 10), none⟩,
                                   ⟨(some 36), .load true 3 (.t 4), none⟩,
                                   ⟨(some 37), .mv (.t 8), none⟩,
                                   ⟨(some 38), .mv (.t 11), none⟩,
                                   ⟨(some 39), .call .froz 62 [(.t 36), (.t 37), (.t 38)], none⟩,
                                   ⟨(some 40), .load true 3 (.t 5), none⟩,
                                   ⟨(some 41), .mv (.t 11), none⟩,
                                   ⟨(some 42), .mv (.t 9), none⟩,
                                   ⟨(some 43), .call .froz 62 [(.t 40), (.t 41), (.t 42)], none⟩,
                                   ⟨(some 44), .bin .mul (.t 39) (.t 43), none⟩,
                                   ⟨(some 45), .bin .add (.t 35) (.t 44), none⟩,
                                   ⟨(some 46), .mv (.t 0), none⟩,
                                   ⟨(some 47), .bin .rem (.t 45) (.t 46), none⟩,
                                   ⟨(some 10), .mv (.t 47), none⟩]))
                              (.reg false [
                                ⟨(some 33), .mv (.t 11), none⟩,
                                ⟨(some 34), .bin .add (.t 33) (.k (.one (.v (.int .i64) ((1 : Int))))), none⟩,
                                ⟨(some 11), .mv (.t 34), none⟩])))))))
                       (.reg false [
                         ⟨(some 48), .load true 3 (.t 7), none⟩,
                         ⟨(some 49), .mv (.t 8), none⟩,
                         ⟨(some 50), .mv (.t 9), none⟩,
                         ⟨(some 51), .mv (.t 10), none⟩,
                         ⟨(some 52), .callm .froz 67 [(.t 48), (.t 49), (.t 50), (.t 51)], none⟩])))))
                  (.reg false [
                    ⟨(some 27), .mv (.t 9), none⟩,
                    ⟨(some 28), .bin .add (.t 27) (.k (.one (.v (.int .i64) ((1 : Int))))), none⟩,
                    ⟨(some 9), .mv (.t 28), none⟩]))))))))
         (.reg false [
           ⟨(some 21), .mv (.t 8), none⟩,
           ⟨(some 22), .bin .add (.t 21) (.k (.one (.v (.int .i64) ((1 : Int))))), none⟩,
           ⟨(some 8), .mv (.t 22), none⟩])))))))
  (.seq
   (.reg false [
     ⟨(some 53), .load true 3 (.t 7), none⟩,
     ⟨none, .store 3 (.t 6) (.t 53), none⟩])
  .ret))))
def ms_impl_rawMulMatrix : List MRes := [.cell 6 3 true]
theorem n_impl_rawMulMatrix (NN : Nat) (x : DLL (Sig.tys ag_impl_rawMulMatrix)) : runS NN [fn_impl_emptyMatrix, fn_impl_Matrix_at, fn_impl_Matrix_set] sc_impl_rawMulMatrix ms_impl_rawMulMatrix ag_impl_rawMulMatrix rs_impl_rawMulMatrix x = G_impl_rawMulMatrix NN x := by kernel_rfl
theorem k_impl_rawMulMatrix : chkS Go.Proofs.Try.prog 54 sc_impl_rawMulMatrix.er ms_impl_rawMulMatrix 3 = true := by decide +kernel
theorem p_impl_rawMulMatrix : PureSpec Go.Proofs.Try.prog 54 fn_impl_rawMulMatrix.M ∧ chkFun Go.Proofs.Try.prog 54 = true :=
  pure_of_runS (T := [fn_impl_emptyMatrix, fn_impl_Matrix_at, fn_impl_Matrix_set]) (sc := sc_impl_rawMulMatrix) (ms := ms_impl_rawMulMatrix) (args := ag_impl_rawMulMatrix) (res := rs_impl_rawMulMatrix) (SOk.cons p_impl_emptyMatrix <| SOk.cons p_impl_Matrix_at <| SOk.consM p_impl_Matrix_set <| SOk.nil) follows_ok k_impl_rawMulMatrix F_impl_rawMulMatrix fun x y h => (n_impl_rawMulMatrix FUEL x).trans (f_impl_rawMulMatrix x y h)

def fn_impl_MulMatrix : SFn := ⟨23, ag_impl_MulMatrix, mu_impl_MulMatrix, rs_impl_MulMatrix, F_impl_MulMatrix⟩
def sc_impl_MulMatrix : SCode :=
  (.seq
   (.reg false [
     ⟨(some 4), .box 3 (.t 1), none⟩,
     ⟨(some 5), .box 3 (.t 2), none⟩,
     ⟨(some 6), .alloc [.v (.int .i64) ((0 : Int)), .v (.int .i64) ((0 : Int)), .nil [.int .i64]], none⟩,
     ⟨(some 7), .mv (.k (.one (.v (.bool) (false)))), none⟩])
  (.seq
   (.seq
    (.reg false [
      ⟨(some 8), .mv (.t 0), none⟩,
      ⟨(some 9), .load true 3 (.t 4), none⟩,
      ⟨(some 10), .call .froz 51 [(.t 8), (.t 9)], none⟩,
      ⟨(some 11), .un .not (.t 10), none⟩,
      ⟨(some 12), .mv (.t 11), none⟩,
      ⟨(some 13), .mv (.t 0), (some (12, false))⟩,
      ⟨(some 14), .load true 3 (.t 5), (some (12, false))⟩,
      ⟨(some 15), .call .froz 51 [(.t 13), (.t 14)], (some (12, false))⟩,
      ⟨(some 16), .un .not (.t 15), (some (12, false))⟩,
      ⟨(some 17), .pick (.t 12) (.k (.one (.v (.bool) (true)))) (.t 16), none⟩,
      ⟨(some 18), .mv (.t 17), none⟩,
      ⟨(some 19), .fieldA 1 (.t 4), (some (18, false))⟩,
      ⟨(some 20), .load false 1 (.t 19), (some (18, false))⟩,
      ⟨(some 21), .fieldA 0 (.t 5), (some (18, false))⟩,
      ⟨(some 22), .load false 1 (.t 21), (some (18, false))⟩,
      ⟨(some 23), .bin .neq (.t 20) (.t 22), (some (18, false))⟩,
      ⟨(some 24), .pick (.t 18) (.k (.one (.v (.bool) (true)))) (.t 23), none⟩])
   (.cond (.t 24)
     (.seq
      (.reg false [
        ⟨(some 25), .build [.v (.int .i64) ((0 : Int)), .v (.int .i64) ((0 : Int)), .nil [.int .i64]] [], none⟩,
        ⟨none, .store 3 (.t 6) (.t 25), none⟩,
        ⟨(some 7), .mv (.k (.one (.v (.bool) (false)))), none⟩])
     .ret)
     .skip))
  (.seq
   (.reg false [
     ⟨(some 26), .mv (.t 0), none⟩,
     ⟨(some 27), .load true 3 (.t 4), none⟩,
     ⟨(some 28), .load true 3 (.t 5), none⟩,
     ⟨(some 29), .call .froz 54 [(.t 26), (.t 27), (.t 28)], none⟩,
     ⟨none, .store 3 (.t 6) (.t 29), none⟩,
     ⟨(some 7), .mv (.k (.one (.v (.bool) (true)))), none⟩])
  .ret)))
def ms_impl_MulMatrix : List MRes := [.cell 6 3 true, .tmp 7]
theorem n_impl_MulMatrix (NN : Nat) (x : DLL (Sig.tys ag_impl_MulMatrix)) : runS NN [fn_impl_MatrixOk, fn_impl_rawMulMatrix] sc_impl_MulMatrix ms_impl_MulMatrix ag_impl_MulMatrix rs_impl_MulMatrix x = G_impl_MulMatrix NN x := by kernel_rfl
theorem k_impl_MulMatrix : chkS Go.Proofs.Try.prog 23 sc_impl_MulMatrix.er ms_impl_MulMatrix 3 = true := by decide +kernel
theorem p_impl_MulMatrix : PureSpec Go.Proofs.Try.prog 23 fn_impl_MulMatrix.M ∧ chkFun Go.Proofs.Try.prog 23 = true :=
  pure_of_runS (T := [fn_impl_MatrixOk, fn_impl_rawMulMatrix]) (sc := sc_impl_MulMatrix) (ms := ms_impl_MulMatrix) (args := ag_impl_MulMatrix) (res := rs_impl_MulMatrix) (SOk.cons p_impl_MatrixOk <| SOk.cons p_impl_rawMulMatrix <| SOk.nil) follows_ok k_impl_MulMatrix F_impl_MulMatrix fun x y h => (n_impl_MulMatrix FUEL x).trans (f_impl_MulMatrix x y h)

def fn_laws_eqIntS : SFn := ⟨37, ag_laws_eqIntS, mu_laws_eqIntS, rs_laws_eqIntS, F_laws_eqIntS⟩
def sc_laws_eqIntS : SCode :=
  (.seq
   (.reg false [
     ⟨(some 4), .mv (.k (.one (.v (.bool) (false)))), none⟩])
  (.seq
   (.seq
    (.reg false [
      ⟨(some 6), .mv (.t 0), none⟩,
      ⟨(some 7), .len (.t 6), none⟩,
      ⟨(some 8), .mv (.t 1), none⟩,
      ⟨(some 9), .len (.t 8), none⟩,
      ⟨(some 10), .bin .neq (.t 7) (.t 9), none⟩])
   (.cond (.t 10)
     (.seq
      (.reg false [
        ⟨(some 4), .mv (.k (.one (.v (.bool) (false)))), none⟩])
     .ret)
     .skip))
  (.seq
   (.seq
    (.reg false [
      ⟨(some 5), .mv (.k (.one (.v (.int .i64) ((0 : Int))))), none⟩])
   (.join ⟨[], []⟩ [] []
     (.block 0
       (.loop 0 ⟨[(0, .one (.c (.v (.list [.int .i64])))), (1, .one (.c (.v (.list [.int .i64])))), (5, .one (.c (.v (.int .i64))))], []⟩ [] []
         (.seq
          (.seq
           (.reg false [
             ⟨(some 11), .mv (.t 5), none⟩,
             ⟨(some 12), .mv (.t 0), none⟩,
             ⟨(some 13), .len (.t 12), none⟩,
             ⟨(some 14), .bin .lss (.t 11) (.t 13), none⟩])
          (.cond (.t 14)
            .skip
            (.exit 0)))
         (.seq
          (.block 1
            (.seq
             (.reg true [
               ⟨(some 17), .mv (.t 0), none⟩,
               ⟨(some 18), .mv (.t 5), none⟩,
               ⟨(some 19), .idxA 1 (.t 17) (.t 18), none⟩,
               ⟨(some 20), .load false 1 (.t 19), none⟩,
               ⟨(some 21), .mv (.t 1), none⟩,
               ⟨(some 22), .mv (.t 5), none⟩,
               ⟨(some 23), .idxA 1 (.t 21) (.t 22), none⟩,
               ⟨(some 24), .load false 1 (.t 23), none⟩,
               ⟨(some 25), .bin .neq (.t 20) (.t 24), none⟩])
            (.cond (.t 25)
              (.seq
               (.reg false [
                 ⟨(some 4), .mv (.k (.one (.v (.bool) (false)))), none⟩])
              .ret)
              .skip)))
         (.reg false [
           ⟨(some 15), .mv (.t 5), none⟩,
           ⟨(some 16), .bin .add (.t 15) (.k (.one (.v (.int .i64) ((1 : Int))))), none⟩,
           ⟨(some 5), .mv (.t 16), none⟩])))))))
  (.seq
   (.reg false [
     ⟨(some 4), .mv (.k (.one (.v (.bool) (true)))), none⟩])
  .ret))))
def ms_laws_eqIntS : List MRes := [.tmp 4]
theorem n_laws_eqIntS (NN : Nat) (x : DLL (Sig.tys ag_laws_eqIntS)) : runS NN [] sc_laws_eqIntS ms_laws_eqIntS ag_laws_eqIntS rs_laws_eqIntS x = G_laws_eqIntS NN x := by kernel_rfl
theorem k_laws_eqIntS : chkS Go.Proofs.Try.prog 37 sc_laws_eqIntS.er ms_laws_eqIntS 2 = true := by decide +kernel
theorem p_laws_eqIntS : PureSpec Go.Proofs.Try.prog 37 fn_laws_eqIntS.M ∧ chkFun Go.Proofs.Try.prog 37 = true :=
  pure_of_runS (T := []) (sc := sc_laws_eqIntS) (ms := ms_laws_eqIntS) (args := ag_laws_eqIntS) (res := rs_laws_eqIntS) (SOk.nil) follows_ok k_laws_eqIntS F_laws_eqIntS fun x y h => (n_laws_eqIntS FUEL x).trans (f_laws_eqIntS x y h)

def fn_laws_eqMatrix : SFn := ⟨19, ag_laws_eqMatrix, mu_laws_eqMatrix, rs_laws_eqMatrix, F_laws_eqMatrix⟩
def sc_laws_eqMatrix : SCode :=
  (.seq
   (.reg false [
     ⟨(some 2), .box 3 (.t 0), none⟩,
     ⟨(some 3), .box 3 (.t 1), none⟩,
     ⟨(some 4), .mv (.k (.one (.v (.bool) (false)))), none⟩])
  (.seq
   (.seq
    (.reg false [
      ⟨(some 5), .fieldA 0 (.t 2), none⟩,
      ⟨(some 6), .load false 1 (.t 5), none⟩,
      ⟨(some 7), .fieldA 0 (.t 3), none⟩,
      ⟨(some 8), .load false 1 (.t 7), none⟩,
      ⟨(some 9), .bin .neq (.t 6) (.t 8), none⟩])
   (.cond (.t 9)
     (.seq
      (.reg false [
        ⟨(some 4), .mv (.k (.one (.v (.bool) (false)))), none⟩])
     .ret)
     .skip))
  (.seq
   (.seq
    (.reg false [
      ⟨(some 10), .fieldA 1 (.t 2), none⟩,
      ⟨(some 11), .load false 1 (.t 10), none⟩,
      ⟨(some 12), .fieldA 1 (.t 3), none⟩,
      ⟨(some 13), .load false 1 (.t 12), none⟩,
      ⟨(some 14), .bin .neq (.t 11) (.t 13), none⟩])
   (.cond (.t 14)
     (.seq
      (.reg false [
        ⟨(some 4), .mv (.k (.one (.v (.bool) (false)))), none⟩])
     .ret)
     .skip))
  (.seq
   (.seq
    (.reg false [
      ⟨(some 15), .fieldA 2 (.t 2), none⟩,
      ⟨(some 16), .load false 1 (.t 15), none⟩,
      ⟨(some 17), .fieldA 2 (.t 3), none⟩,
      ⟨(some 18), .load false 1 (.t 17), none⟩,
      ⟨(some 19), .call .froz 37 [(.t 16), (.t 18)], none⟩,
      ⟨(some 20), .un .not (.t 19), none⟩])
   (.cond (.t 20)
     (.seq
      (.reg false [
        ⟨(some 4), .mv (.k (.one (.v (.bool) (false)))), none⟩])
     .ret)
     .skip))
  (.seq
   (.reg false [
     ⟨(some 4), .mv (.k (.one (.v (.bool) (true)))), none⟩])
  .ret)))))
def ms_laws_eqMatrix : List MRes := [.tmp 4]
theorem n_laws_eqMatrix (NN : Nat) (x : DLL (Sig.tys ag_laws_eqMatrix)) : runS NN [fn_laws_eqIntS] sc_laws_eqMatrix ms_laws_eqMatrix ag_laws_eqMatrix rs_laws_eqMatrix x = G_laws_eqMatrix NN x := by kernel_rfl
theorem k_laws_eqMatrix : chkS Go.Proofs.Try.prog 19 sc_laws_eqMatrix.er ms_laws_eqMatrix 2 = true := by decide +kernel
theorem p_laws_eqMatrix : PureSpec Go.Proofs.Try.prog 19 fn_laws_eqMatrix.M ∧ chkFun Go.Proofs.Try.prog 19 = true :=
  pure_of_runS (T := [fn_laws_eqIntS]) (sc := sc_laws_eqMatrix) (ms := ms_laws_eqMatrix) (args := ag_laws_eqMatrix) (res := rs_laws_eqMatrix) (SOk.cons p_laws_eqIntS <| SOk.nil) follows_ok k_laws_eqMatrix F_laws_eqMatrix fun x y h => (n_laws_eqMatrix FUEL x).trans (f_laws_eqMatrix x y h)

def fn_laws_markIntS : SFn := ⟨38, ag_laws_markIntS, mu_laws_markIntS, rs_laws_markIntS, F_laws_markIntS⟩
def sc_laws_markIntS : SCode :=
  (.seq
   (.reg false [
     ⟨(some 4), .mv (.k (.one (.v (.int .i64) ((0 : Int))))), none⟩])
  (.seq
   (.seq
    (.reg false [
      ⟨(some 5), .mv (.k (.one (.v (.int .i64) ((0 : Int))))), none⟩])
   (.join ⟨[(1, .one (.c (.v (.int .i64))))], [(1000000, .row false .froz [.int .i64])]⟩ [1000000, 50000] []
     (.block 0
       (.loop 0 ⟨[(0, .one (.c (.full 1000000 1))), (1, .one (.c (.v (.int .i64)))), (5, .one (.c (.v (.int .i64))))], [(1000000, .row false .froz [.int .i64])]⟩ [1000000, 50000] [(false, 0, 0, 50000, .froz, [])]
         (.seq
          (.seq
           (.reg false [
             ⟨(some 6), .mv (.t 5), none⟩,
             ⟨(some 7), .mv (.t 0), none⟩,
             ⟨(some 8), .len (.t 7), none⟩,
             ⟨(some 9), .bin .lss (.t 6) (.t 8), none⟩])
          (.cond (.t 9)
            .skip
            (.exit 0)))
         (.seq
          (.block 1
            (.seq
             (.reg false [
               ⟨(some 12), .mv (.t 0), none⟩,
               ⟨(some 13), .mv (.t 5), none⟩,
               ⟨(some 14), .mv (.t 1), none⟩,
               ⟨(some 15), .idxA 1 (.t 12) (.t 13), none⟩,
               ⟨none, .store 1 (.t 15) (.t 14), none⟩])
            (.reg false [
              ⟨(some 16), .mv (.t 1), none⟩,
              ⟨(some 17), .bin .add (.t 16) (.k (.one (.v (.int .i64) ((1 : Int))))), none⟩,
              ⟨(some 1), .mv (.t 17), none⟩])))
         (.reg false [
           ⟨(some 10), .mv (.t 5), none⟩,
           ⟨(some 11), .bin .add (.t 10) (.k (.one (.v (.int .i64) ((1 : Int))))), none⟩,
           ⟨(some 5), .mv (.t 11), none⟩])))))))
  (.seq
   (.reg false [
     ⟨(some 18), .mv (.t 1), none⟩,
     ⟨(some 4), .mv (.t 18), none⟩])
  .ret)))
def ms_laws_markIntS : List MRes := [.tmp 4]
theorem n_laws_markIntS (NN : Nat) (x : DLL (Sig.tys ag_laws_markIntS)) : runMS NN [] sc_laws_markIntS ms_laws_markIntS ag_laws_markIntS mu_laws_markIntS rs_laws_markIntS x = G_laws_markIntS NN x := by kernel_rfl
theorem k_laws_markIntS : chkS Go.Proofs.Try.prog 38 sc_laws_markIntS.er ms_laws_markIntS 2 = true := by decide +kernel
theorem p_laws_markIntS : MutSpec Go.Proofs.Try.prog 38 mu_laws_markIntS fn_laws_markIntS.MM ∧ chkFun Go.Proofs.Try.prog 38 = true :=
  mut_of_runMS (T := []) (sc := sc_laws_markIntS) (ms := ms_laws_markIntS) (args := ag_laws_markIntS) (mu := mu_laws_markIntS) (res := rs_laws_markIntS) (SOk.nil) follows_ok k_laws_markIntS F_laws_markIntS fun x y h => (n_laws_markIntS FUEL x).trans (f_laws_markIntS x y h)

def fn_laws_markMatrix : SFn := ⟨20, ag_laws_markMatrix, mu_laws_markMatrix, rs_laws_markMatrix, F_laws_markMatrix⟩
def sc_laws_markMatrix : SCode :=
  (.seq
   (.reg false [
     ⟨(some 2), .box 3 (.t 0), none⟩,
     ⟨(some 4), .mv (.k (.one (.v (.int .i64) ((0 : Int))))), none⟩])
  (.seq
   (.reg false [
     ⟨(some 5), .fieldA 2 (.t 2), none⟩,
     ⟨(some 6), .load false 1 (.t 5), none⟩,
     ⟨(some 7), .mv (.t 1), none⟩,
     ⟨(some 8), .callm .froz 38 [(.t 6), (.t 7)], none⟩,
     ⟨(some 1), .mv (.t 8), none⟩])
  (.seq
   (.reg false [
     ⟨(some 9), .mv (.t 1), none⟩,
     ⟨(some 4), .mv (.t 9), none⟩])
  .ret)))
def ms_laws_markMatrix : List MRes := [.tmp 4]
theorem n_laws_markMatrix (NN : Nat) (x : DLL (Sig.tys ag_laws_markMatrix)) : runMS NN [fn_laws_markIntS] sc_laws_markMatrix ms_laws_markMatrix ag_laws_markMatrix mu_laws_markMatrix rs_laws_markMatrix x = G_laws_markMatrix NN x := by kernel_rfl
theorem k_laws_markMatrix : chkS Go.Proofs.Try.prog 20 sc_laws_markMatrix.er ms_laws_markMatrix 2 = true := by decide +kernel
theorem p_laws_markMatrix : MutSpec Go.Proofs.Try.prog 20 mu_laws_markMatrix fn_laws_markMatrix.MM ∧ chkFun Go.Proofs.Try.prog 20 = true :=
  mut_of_runMS (T := [fn_laws_markIntS]) (sc := sc_laws_markMatrix) (ms := ms_laws_markMatrix) (args := ag_laws_markMatrix) (mu := mu_laws_markMatrix) (res := rs_laws_markMatrix) (SOk.consM p_laws_markIntS <| SOk.nil) follows_ok k_laws_markMatrix F_laws_markMatrix fun x y h => (n_laws_markMatrix FUEL x).trans (f_laws_markMatrix x y h)

def fn_laws_heldIntS : SFn := ⟨39, ag_laws_heldIntS, mu_laws_heldIntS, rs_laws_heldIntS, F_laws_heldIntS⟩
def sc_laws_heldIntS : SCode :=
  (.seq
   (.reg false [
     ⟨(some 4), .mv (.k (.one (.v (.int .i64) ((0 : Int))))), none⟩])
  (.seq
   (.seq
    (.reg false [
      ⟨(some 5), .mv (.k (.one (.v (.int .i64) ((0 : Int))))), none⟩])
   (.join ⟨[(1, .one (.c (.v (.int .i64))))], []⟩ [] []
     (.block 0
       (.loop 0 ⟨[(0, .one (.c (.v (.list [.int .i64])))), (1, .one (.c (.v (.int .i64)))), (5, .one (.c (.v (.int .i64))))], []⟩ [] []
         (.seq
          (.seq
           (.reg false [
             ⟨(some 6), .mv (.t 5), none⟩,
             ⟨(some 7), .mv (.t 0), none⟩,
             ⟨(some 8), .len (.t 7), none⟩,
             ⟨(some 9), .bin .lss (.t 6) (.t 8), none⟩])
          (.cond (.t 9)
            .skip
            (.exit 0)))
         (.seq
          (.block 1
            (.seq
             (.seq
              (.reg false [
                ⟨(some 12), .mv (.t 0), none⟩,
                ⟨(some 13), .mv (.t 5), none⟩,
                ⟨(some 14), .idxA 1 (.t 12) (.t 13), none⟩,
                ⟨(some 15), .load false 1 (.t 14), none⟩,
                ⟨(some 16), .mv (.t 1), none⟩,
                ⟨(some 17), .bin .neq (.t 15) (.t 16), none⟩])
             (.cond (.t 17)
               (.seq
                (.reg false [
                  ⟨(some 4), .mv (.k (.one (.v (.int .i64) (((-1) : Int))))), none⟩])
               .ret)
               .skip))
            (.reg false [
              ⟨(some 18), .mv (.t 1), none⟩,
              ⟨(some 19), .bin .add (.t 18) (.k (.one (.v (.int .i64) ((1 : Int))))), none⟩,
              ⟨(some 1), .mv (.t 19), none⟩])))
         (.reg false [
           ⟨(some 10), .mv (.t 5), none⟩,
           ⟨(some 11), .bin .add (.t 10) (.k (.one (.v (.int .i64) ((1 : Int))))), none⟩,
           ⟨(some 5), .mv (.t 11), none⟩])))))))
  (.seq
   (.reg false [
     ⟨(some 20), .mv (.t 1), none⟩,
     ⟨(some 4), .mv (.t 20), none⟩])
  .ret)))
def ms_laws_heldIntS : List MRes := [.tmp 4]
theorem n_laws_heldIntS (NN : Nat) (x : DLL (Sig.tys ag_laws_heldIntS)) : runS NN [] sc_laws_heldIntS ms_laws_heldIntS ag_laws_heldIntS rs_laws_heldIntS x = G_laws_heldIntS NN x := by kernel_rfl
theorem k_laws_heldIntS : chkS Go.Proofs.Try.prog 39 sc_laws_heldIntS.er ms_laws_heldIntS 2 = true := by decide +kernel
theorem p_laws_heldIntS : PureSpec Go.Proofs.Try.prog 39 fn_laws_heldIntS.M ∧ chkFun Go.Proofs.Try.prog 39 = true :=
  pure_of_runS (T := []) (sc := sc_laws_heldIntS) (ms := ms_laws_heldIntS) (args := ag_laws_heldIntS) (res := rs_laws_heldIntS) (SOk.nil) follows_ok k_laws_heldIntS F_laws_heldIntS fun x y h => (n_laws_heldIntS FUEL x).trans (f_laws_heldIntS x y h)

def fn_laws_heldMatrix : SFn := ⟨21, ag_laws_heldMatrix, mu_laws_heldMatrix, rs_laws_heldMatrix, F_laws_heldMatrix⟩
def sc_laws_heldMatrix : SCode :=
  (.seq
   (.reg false [
     ⟨(some 2), .box 3 (.t 0), none⟩,
     ⟨(some 4), .mv (.k (.one (.v (.int .i64) ((0 : Int))))), none⟩])
  (.seq
   (.reg false [
     ⟨(some 5), .fieldA 2 (.t 2), none⟩,
     ⟨(some 6), .load false 1 (.t 5), none⟩,
     ⟨(some 7), .mv (.t 1), none⟩,
     ⟨(some 8), .call .froz 39 [(.t 6), (.t 7)], none⟩,
     ⟨(some 1), .mv (.t 8), none⟩])
  (.seq
   (.seq
    (.reg false [
      ⟨(some 9), .mv (.t 1), none⟩,
      ⟨(some 10), .bin .lss (.t 9) (.k (.one (.v (.int .i64) ((0 : Int))))), none⟩])
   (.cond (.t 10)
     (.seq
      (.reg false [
        ⟨(some 4), .mv (.k (.one (.v (.int .i64) (((-1) : Int))))), none⟩])
     .ret)
     .skip))
  (.seq
   (.reg false [
     ⟨(some 11), .mv (.t 1), none⟩,
     ⟨(some 4), .mv (.t 11), none⟩])
  .ret))))
def ms_laws_heldMatrix : List MRes := [.tmp 4]
theorem n_laws_heldMatrix (NN : Nat) (x : DLL (Sig.tys ag_laws_heldMatrix)) : runS NN [fn_laws_heldIntS] sc_laws_heldMatrix ms_laws_heldMatrix ag_laws_heldMatrix rs_laws_heldMatrix x = G_laws_heldMatrix NN x := by kernel_rfl
theorem k_laws_heldMatrix : chkS Go.Proofs.Try.prog 21 sc_laws_heldMatrix.er ms_laws_heldMatrix 2 = true := by decide +kernel
theorem p_laws_heldMatrix : PureSpec Go.Proofs.Try.prog 21 fn_laws_heldMatrix.M ∧ chkFun Go.Proofs.Try.prog 21 = true :=
  pure_of_runS (T := [fn_laws_heldIntS]) (sc := sc_laws_heldMatrix) (ms := ms_laws_heldMatrix) (args := ag_laws_heldMatrix) (res := rs_laws_heldMatrix) (SOk.cons p_laws_heldIntS <| SOk.nil) follows_ok k_laws_heldMatrix F_laws_heldMatrix fun x y h => (n_laws_heldMatrix FUEL x).trans (f_laws_heldMatrix x y h)

def fn_laws_FnExactMulMatrix : SFn := ⟨4, ag_laws_FnExactMulMatrix, mu_laws_FnExactMulMatrix, rs_laws_FnExactMulMatrix, F_laws_FnExactMulMatrix⟩
def sc_laws_FnExactMulMatrix : SCode :=
  (.seq
   (.reg false [
     ⟨(some 4), .box 3 (.t 1), none⟩,
     ⟨(some 5), .box 3 (.t 2), none⟩,
     ⟨(some 6), .mv (.k (.one (.v (.bool) (false)))), none⟩])
  (.seq
   (.reg false [
     ⟨(some 7), .mv (.k (.one (.v (.int .i64) ((1048576 : Int))))), none⟩])
  (.seq
   (.reg false [
     ⟨(some 19), .load true 3 (.t 4), none⟩,
     ⟨(some 20), .mv (.t 7), none⟩,
     ⟨(some 21), .call .froz 15 [(.t 19), (.t 20)], none⟩,
     ⟨(some 7), .mv (.t 21), none⟩])
  (.seq
   (.seq
    (.reg false [
      ⟨(some 22), .mv (.t 7), none⟩,
      ⟨(some 23), .bin .lss (.t 22) (.k (.one (.v (.int .i64) ((0 : Int))))), none⟩])
   (.cond (.t 23)
     (.seq
      (.reg false [
        ⟨(some 6), .mv (.k (.one (.v (.bool) (true)))), none⟩])
     .ret)
     .skip))
  (.seq
   (.reg false [
     ⟨(some 24), .load true 3 (.t 5), none⟩,
     ⟨(some 25), .mv (.t 7), none⟩,
     ⟨(some 26), .call .froz 15 [(.t 24), (.t 25)], none⟩,
     ⟨(some 7), .mv (.t 26), none⟩])
  (.seq
   (.seq
    (.reg false [
      ⟨(some 27), .mv (.t 7), none⟩,
      ⟨(some 28), .bin .lss (.t 27) (.k (.one (.v (.int .i64) ((0 : Int))))), none⟩])
   (.cond (.t 28)
     (.seq
      (.reg false [
        ⟨(some 6), .mv (.k (.one (.v (.bool) (true)))), none⟩])
     .ret)
     .skip))
  (.seq
   (.reg true [
     ⟨(some 30), .mv (.t 0), none⟩,
     ⟨(some 31), .load true 3 (.t 4), none⟩,
     ⟨(some 32), .call .froz 17 [(.t 31)], none⟩,
     ⟨(some 33), .load true 3 (.t 5), none⟩,
     ⟨(some 34), .call .froz 17 [(.t 33)], none⟩,
     ⟨(some 35), .call .froz 22 [(.t 30), (.t 32), (.t 34)], none⟩,
     ⟨(some 29), .mv (.t 35), none⟩,
     ⟨(some 36), .ext 0 (.t 29), none⟩,
     ⟨(some 37), .ext 1 (.t 29), none⟩,
     ⟨(some 8), .alloc [.v (.int .i64) ((0 : Int)), .v (.int .i64) ((0 : Int)), .nil [.int .i64]], none⟩,
     ⟨none, .store 3 (.t 8) (.t 36), none⟩,
     ⟨(some 9), .mv (.t 37), none⟩])
  (.seq
   (.reg false [
     ⟨(some 38), .load true 3 (.t 4), none⟩,
     ⟨(some 39), .call .froz 17 [(.t 38)], none⟩,
     ⟨(some 10), .alloc [.v (.int .i64) ((0 : Int)), .v (.int .i64) ((0 : Int)), .nil [.int .i64]], none⟩,
     ⟨none, .store 3 (.t 10) (.t 39), none⟩])
  (.seq
   (.reg false [
     ⟨(some 40), .load true 3 (.t 5), none⟩,
     ⟨(some 41), .call .froz 17 [(.t 40)], none⟩,
     ⟨(some 11), .alloc [.v (.int .i64) ((0 : Int)), .v (.int .i64) ((0 : Int)), .nil [.int .i64]], none⟩,
     ⟨none, .store 3 (.t 11) (.t 41), none⟩])
  (.seq
   (.reg false [
     ⟨(some 43), .mv (.t 0), none⟩,
     ⟨(some 44), .load true 3 (.t 10), none⟩,
     ⟨(some 45), .load true 3 (.t 11), none⟩,
     ⟨(some 46), .call .froz 23 [(.t 43), (.t 44), (.t 45)], none⟩,
     ⟨(some 42), .mv (.t 46), none⟩,
     ⟨(some 47), .ext 0 (.t 42), none⟩,
     ⟨(some 48), .ext 1 (.t 42), none⟩,
     ⟨(some 12), .alloc [.v (.int .i64) ((0 : Int)), .v (.int .i64) ((0 : Int)), .nil [.int .i64]], none⟩,
     ⟨none, .store 3 (.t 12) (.t 47), none⟩,
     ⟨(some 13), .mv (.t 48), none⟩])
  (.seq
   (.seq
    (.reg false [
      ⟨(some 49), .load true 3 (.t 12), none⟩,
      ⟨(some 50), .load true 3 (.t 8), none⟩,
      ⟨(some 51), .call .froz 19 [(.t 49), (.t 50)], none⟩,
      ⟨(some 52), .un .not (.t 51), none⟩,
      ⟨(some 53), .mv (.t 52), none⟩,
      ⟨(some 54), .mv (.t 13), (some (53, false))⟩,
      ⟨(some 55), .mv (.t 9), (some (53, false))⟩,
      ⟨(some 56), .binb .neq (.t 54) (.t 55), (some (53, false))⟩,
      ⟨(some 57), .pick (.t 53) (.k (.one (.v (.bool) (true)))) (.t 56), none⟩])
   (.cond (.t 57)
     (.seq
      (.reg false [
        ⟨(some 6), .mv (.k (.one (.v (.bool) (false)))), none⟩])
     .ret)
     .skip))
  (.seq
   (.seq
    (.reg true [
      ⟨(some 58), .load true 3 (.t 10), none⟩,
      ⟨(some 59), .load true 3 (.t 4), none⟩,
      ⟨(some 60), .call .froz 17 [(.t 59)], none⟩,
      ⟨(some 61), .call .froz 19 [(.t 58), (.t 60)], none⟩,
      ⟨(some 62), .un .not (.t 61), none⟩])
   (.cond (.t 62)
     (.seq
      (.reg false [
        ⟨(some 6), .mv (.k (.one (.v (.bool) (false)))), none⟩])
     .ret)
     .skip))
  (.seq
   (.seq
    (.reg true [
      ⟨(some 63), .load true 3 (.t 11), none⟩,
      ⟨(some 64), .load true 3 (.t 5), none⟩,
      ⟨(some 65), .call .froz 17 [(.t 64)], none⟩,
      ⟨(some 66), .call .froz 19 [(.t 63), (.t 65)], none⟩,
      ⟨(some 67), .un .not (.t 66), none⟩])
   (.cond (.t 67)
     (.seq
      (.reg false [
        ⟨(some 6), .mv (.k (.one (.v (.bool) (false)))), none⟩])
     .ret)
     .skip))
  (.seq
   (.reg false [
     ⟨(some 14), .mv (.k (.one (.v (.int .i64) ((1 : Int))))), none⟩])
  (.seq
   (.reg false [
     ⟨(some 68), .load true 3 (.t 10), none⟩,
     ⟨(some 69), .mv (.t 14), none⟩,
     ⟨(some 70), .callm .froz 20 [(.t 68), (.t 69)], none⟩,
     ⟨(some 14), .mv (.t 70), none⟩])
  (.seq
   (.reg false [
     ⟨(some 71), .load true 3 (.t 11), none⟩,
     ⟨(some 72), .mv (.t 14), none⟩,
     ⟨(some 73), .callm .froz 20 [(.t 71), (.t 72)], none⟩,
     ⟨(some 14), .mv (.t 73), none⟩])
  (.seq
   (.seq
    (.reg false [
      ⟨(some 74), .mv (.t 14), none⟩,
      ⟨(some 75), .bin .lss (.t 74) (.k (.one (.v (.int .i64) ((0 : Int))))), none⟩,
      ⟨(some 76), .mv (.t 75), none⟩,
      ⟨(some 77), .load true 3 (.t 12), (some (76, false))⟩,
      ⟨(some 78), .load true 3 (.t 8), (some (76, false))⟩,
      ⟨(some 79), .call .froz 19 [(.t 77), (.t 78)], (some (76, false))⟩,
      ⟨(some 80), .un .not (.t 79), (some (76, false))⟩,
      ⟨(some 81), .pick (.t 76) (.k (.one (.v (.bool) (true)))) (.t 80), none⟩,
      ⟨(some 82), .mv (.t 81), none⟩,
      ⟨(some 83), .mv (.t 13), (some (82, false))⟩,
      ⟨(some 84), .mv (.t 9), (some (82, false))⟩,
      ⟨(some 85), .binb .neq (.t 83) (.t 84), (some (82, false))⟩,
      ⟨(some 86), .pick (.t 82) (.k (.one (.v (.bool) (true)))) (.t 85), none⟩])
   (.cond (.t 86)
     (.seq
      (.reg false [
        ⟨(some 6), .mv (.k (.one (.v (.bool) (false)))), none⟩])
     .ret)
     .skip))
  (.seq
   (.reg false [
     ⟨(some 15), .mv (.k (.one (.v (.int .i64) ((1 : Int))))), none⟩])
  (.seq
   (.reg false [
     ⟨(some 87), .load true 3 (.t 12), none⟩,
     ⟨(some 88), .mv (.t 15), none⟩,
     ⟨(some 89), .callm .froz 20 [(.t 87), (.t 88)], none⟩,
     ⟨(some 15), .mv (.t 89), none⟩])
  (.seq
   (.reg false [
     ⟨(some 16), .mv (.k (.one (.v (.int .i64) ((1 : Int))))), none⟩])
  (.seq
   (.reg false [
     ⟨(some 90), .load true 3 (.t 12), none⟩,
     ⟨(some 91), .mv (.t 16), none⟩,
     ⟨(some 92), .call .froz 21 [(.t 90), (.t 91)], none⟩,
     ⟨(some 16), .mv (.t 92), none⟩])
  (.seq
   (.seq
    (.reg false [
      ⟨(some 93), .mv (.t 16), none⟩,
      ⟨(some 94), .bin .lss (.t 93) (.k (.one (.v (.int .i64) ((0 : Int))))), none⟩])
   (.cond (.t 94)
     (.seq
      (.reg false [
        ⟨(some 6), .mv (.k (.one (.v (.bool) (false)))), none⟩])
     .ret)
     .skip))
  (.seq
   (.seq
    (.reg false [
      ⟨(some 95), .mv (.t 16), none⟩,
      ⟨(some 96), .mv (.t 15), none⟩,
      ⟨(some 97), .bin .neq (.t 95) (.t 96), none⟩])
   (.cond (.t 97)
     (.seq
      (.reg false [
        ⟨(some 6), .mv (.k (.one (.v (.bool) (false)))), none⟩])
     .ret)
     .skip))
  (.seq
   (.reg true [
     ⟨(some 99), .mv (.t 0), none⟩,
     ⟨(some 100), .load true 3 (.t 4), none⟩,
     ⟨(some 101), .call .froz 17 [(.t 100)], none⟩,
     ⟨(some 102), .load true 3 (.t 5), none⟩,
     ⟨(some 103), .call .froz 17 [(.t 102)], none⟩,
     ⟨(some 104), .call .froz 23 [(.t 99), (.t 101), (.t 103)], none⟩,
     ⟨(some 98), .mv (.t 104), none⟩,
     ⟨(some 105), .ext 0 (.t 98), none⟩,
     ⟨(some 106), .ext 1 (.t 98), none⟩,
     ⟨(some 17), .alloc [.v (.int .i64) ((0 : Int)), .v (.int .i64) ((0 : Int)), .nil [.int .i64]], none⟩,
     ⟨none, .store 3 (.t 17) (.t 105), none⟩,
     ⟨(some 18), .mv (.t 106), none⟩])
  (.seq
   (.seq
    (.reg false [
      ⟨(some 107), .load true 3 (.t 17), none⟩,
      ⟨(some 108), .load true 3 (.t 8), none⟩,
      ⟨(some 109), .call .froz 19 [(.t 107), (.t 108)], none⟩,
      ⟨(some 110), .un .not (.t 109), none⟩,
      ⟨(some 111), .mv (.t 110), none⟩,
      ⟨(some 112), .mv (.t 18), (some (111, false))⟩,
      ⟨(some 113), .mv (.t 9), (some (111, false))⟩,
      ⟨(some 114), .binb .neq (.t 112) (.t 113), (some (111, false))⟩,
      ⟨(some 115), .pick (.t 111) (.k (.one (.v (.bool) (true)))) (.t 114), none⟩])
   (.cond (.t 115)
     (.seq
      (.reg false [
        ⟨(some 6), .mv (.k (.one (.v (.bool) (false)))), none⟩])
     .ret)
     .skip))
  (.seq
   (.reg false [
     ⟨(some 16), .mv (.k (.one (.v (.int .i64) ((1 : Int))))), none⟩])
  (.seq
   (.reg false [
     ⟨(some 116), .load true 3 (.t 12), none⟩,
     ⟨(some 117), .mv (.t 16), none⟩,
     ⟨(some 118), .call .froz 21 [(.t 116), (.t 117)], none⟩,
     ⟨(some 16), .mv (.t 118), none⟩])
  (.seq
   (.seq
    (.reg false [
      ⟨(some 119), .mv (.t 16), none⟩,
      ⟨(some 120), .bin .lss (.t 119) (.k (.one (.v (.int .i64) ((0 : Int))))), none⟩])
   (.cond (.t 120)
     (.seq
      (.reg false [
        ⟨(some 6), .mv (.k (.one (.v (.bool) (false)))), none⟩])
     .ret)
     .skip))
  (.seq
   (.seq
    (.reg false [
      ⟨(some 121), .mv (.t 16), none⟩,
      ⟨(some 122), .mv (.t 15), none⟩,
      ⟨(some 123), .bin .neq (.t 121) (.t 122), none⟩])
   (.cond (.t 123)
     (.seq
      (.reg false [
        ⟨(some 6), .mv (.k (.one (.v (.bool) (false)))), none⟩])
     .ret)
     .skip))
  (.seq
   (.reg false [
     ⟨(some 6), .mv (.k (.one (.v (.bool) (true)))), none⟩])
  .ret))))))))))))))))))))))))))))))
def ms_laws_FnExactMulMatrix : List MRes := [.tmp 6]
theorem n_laws_FnExactMulMatrix (NN : Nat) (x : DLL (Sig.tys ag_laws_FnExactMulMatrix)) : runS NN [fn_laws_szMatrix, fn_laws_toMatrix, fn_spec_MulMatrix, fn_impl_MulMatrix, fn_laws_eqMatrix, fn_laws_markMatrix, fn_laws_heldMatrix] sc_laws_FnExactMulMatrix ms_laws_FnExactMulMatrix ag_laws_FnExactMulMatrix rs_laws_FnExactMulMatrix x = G_laws_FnExactMulMatrix NN x := by kernel_rfl
theorem k_laws_FnExactMulMatrix : chkS Go.Proofs.Try.prog 4 sc_laws_FnExactMulMatrix.er ms_laws_FnExactMulMatrix 3 = true := by decide +kernel
theorem p_laws_FnExactMulMatrix : PureSpec Go.Proofs.Try.prog 4 fn_laws_FnExactMulMatrix.M ∧ chkFun Go.Proofs.Try.prog 4 = true :=
  pure_of_runS (T := [fn_laws_szMatrix, fn_laws_toMatrix, fn_spec_MulMatrix, fn_impl_MulMatrix, fn_laws_eqMatrix, fn_laws_markMatrix, fn_laws_heldMatrix]) (sc := sc_laws_FnExactMulMatrix) (ms := ms_laws_FnExactMulMatrix) (args := ag_laws_FnExactMulMatrix) (res := rs_laws_FnExactMulMatrix) (SOk.cons p_laws_szMatrix <| SOk.cons p_laws_toMatrix <| SOk.cons p_spec_MulMatrix <| SOk.cons p_impl_MulMatrix <| SOk.cons p_laws_eqMatrix <| SOk.consM p_laws_markMatrix <| SOk.cons p_laws_heldMatrix <| SOk.nil) follows_ok k_laws_FnExactMulMatrix F_laws_FnExactMulMatrix fun x y h => (n_laws_FnExactMulMatrix FUEL x).trans (f_laws_FnExactMulMatrix x y h)

end Go.Am
