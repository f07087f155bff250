/- A2: the functions of IsIndependent, IsMatching and ComponentCount. No condition. -/
import Derived.Test.YtghahachgjeaeaaA1
import Derived.Test.YtghahachgjeaeaaM2
set_option linter.unusedVariables false
set_option maxRecDepth 100000
namespace Go.Am
def fn_spec_IsIndependent : SFn := ⟨21, ag_spec_IsIndependent, rs_spec_IsIndependent, F_spec_IsIndependent⟩
def sc_spec_IsIndependent : SCode :=
  (.seq
   (.reg false [
     ⟨(some 2), .box 2 (.t 0), none⟩,
     ⟨(some 4), .mv (.k (.one (.v (.bool) (false)))), none⟩])
  (.seq
   (.seq
    (.reg false [
      ⟨(some 7), .load true 2 (.t 2), none⟩,
      ⟨(some 8), .call .froz 12 [(.t 7)], none⟩,
      ⟨(some 9), .un .not (.t 8), none⟩,
      ⟨(some 10), .mv (.t 9), none⟩,
      ⟨(some 11), .mv (.t 1), (some (10, false))⟩,
      ⟨(some 12), .fieldA 0 (.t 2), (some (10, false))⟩,
      ⟨(some 13), .load false 1 (.t 12), (some (10, false))⟩,
      ⟨(some 14), .bin .shl (.k (.one (.v (.int .i64) ((1 : Int))))) (.t 13), (some (10, false))⟩,
      ⟨(some 15), .bin .sub (.t 14) (.k (.one (.v (.int .i64) ((1 : Int))))), (some (10, false))⟩,
      ⟨(some 16), .call .froz 36 [(.t 11), (.k (.one (.v (.int .i64) ((0 : Int))))), (.t 15)], (some (10, false))⟩,
      ⟨(some 17), .un .not (.t 16), (some (10, false))⟩,
      ⟨(some 18), .pick (.t 10) (.k (.one (.v (.bool) (true)))) (.t 17), none⟩])
   (.cond (.t 18)
     (.seq
      (.reg false [
        ⟨(some 4), .mv (.k (.one (.v (.bool) (false)))), none⟩])
     .ret)
     .skip))
  (.seq
   (.seq
    (.reg false [
      ⟨(some 19), .fieldA 1 (.t 2), none⟩,
      ⟨(some 20), .load false 1 (.t 19), none⟩,
      ⟨(some 21), .len (.t 20), none⟩,
      ⟨(some 22), .mv (.k (.one (.v (.int .i64) ((0 : Int))))), none⟩])
   (.join ⟨[], []⟩ [2, 9000, 9001, 9002, 9003, 9004, 9005, 17000, 17001, 17002, 17003, 17004, 17005, 6] []
     (.block 0
       (.loop 0 ⟨[(1, .one (.c (.v (.int .i64)))), (20, .one (.c (.v (.list [.int .i64, .int .i64])))), (21, .one (.c (.v (.int .i64)))), (22, .one (.c (.v (.int .i64))))], []⟩ [2, 9000, 9001, 9002, 9003, 9004, 9005, 17000, 17001, 17002, 17003, 17004, 17005, 6] []
         (.seq
          (.reg false [
            ⟨(some 23), .bin .lss (.t 22) (.t 21), none⟩])
         (.seq
          (.cond (.t 23)
            .skip
            (.exit 0))
         (.seq
          (.block 1
            (.seq
             (.reg false [
               ⟨(some 24), .idxA 2 (.t 20) (.t 22), none⟩,
               ⟨(some 25), .load true 2 (.t 24), none⟩,
               ⟨(some 6), .alloc [.v (.int .i64) ((0 : Int)), .v (.int .i64) ((0 : Int))], none⟩,
               ⟨none, .store 2 (.t 6) (.t 25), none⟩])
            (.seq
             (.reg false [
               ⟨(some 26), .mv (.t 1), none⟩,
               ⟨(some 27), .fieldA 0 (.t 6), none⟩,
               ⟨(some 28), .load false 1 (.t 27), none⟩,
               ⟨(some 29), .bin .shr (.t 26) (.t 28), none⟩,
               ⟨(some 30), .bin .and (.t 29) (.k (.one (.v (.int .i64) ((1 : Int))))), none⟩,
               ⟨(some 31), .bin .eql (.t 30) (.k (.one (.v (.int .i64) ((1 : Int))))), none⟩,
               ⟨(some 32), .mv (.t 31), none⟩,
               ⟨(some 33), .mv (.t 1), (some (32, true))⟩,
               ⟨(some 34), .fieldA 1 (.t 6), (some (32, true))⟩,
               ⟨(some 35), .load false 1 (.t 34), (some (32, true))⟩,
               ⟨(some 36), .bin .shr (.t 33) (.t 35), (some (32, true))⟩,
               ⟨(some 37), .bin .and (.t 36) (.k (.one (.v (.int .i64) ((1 : Int))))), (some (32, true))⟩,
               ⟨(some 38), .bin .eql (.t 37) (.k (.one (.v (.int .i64) ((1 : Int))))), (some (32, true))⟩,
               ⟨(some 39), .pick (.t 32) (.t 38) (.k (.one (.v (.bool) (false)))), none⟩])
            (.cond (.t 39)
              (.seq
               (.reg false [
                 ⟨(some 4), .mv (.k (.one (.v (.bool) (false)))), none⟩])
              .ret)
              .skip))))
         (.reg false [
           ⟨(some 40), .bin .add (.t 22) (.k (.one (.v (.int .i64) ((1 : Int))))), none⟩,
           ⟨(some 22), .mv (.t 40), none⟩]))))))))
  (.seq
   (.reg false [
     ⟨(some 4), .mv (.k (.one (.v (.bool) (true)))), none⟩])
  .ret))))
def ms_spec_IsIndependent : List MRes := [.tmp 4]
theorem n_spec_IsIndependent (NN : Nat) (x : DLL (Sig.tys ag_spec_IsIndependent)) : runS NN [fn_spec_GraphOk, fn_spec_l01In] sc_spec_IsIndependent ms_spec_IsIndependent ag_spec_IsIndependent rs_spec_IsIndependent x = G_spec_IsIndependent NN x := by kernel_rfl
theorem k_spec_IsIndependent : chkS Go.Proofs.Try.prog 21 sc_spec_IsIndependent.er ms_spec_IsIndependent 2 = true := by decide +kernel
theorem p_spec_IsIndependent : PureSpec Go.Proofs.Try.prog 21 fn_spec_IsIndependent.M ∧ chkFun Go.Proofs.Try.prog 21 = true :=
  pure_of_runS (T := [fn_spec_GraphOk, fn_spec_l01In]) (sc := sc_spec_IsIndependent) (ms := ms_spec_IsIndependent) (args := ag_spec_IsIndependent) (res := rs_spec_IsIndependent) (SOk.cons p_spec_GraphOk <| SOk.cons p_spec_l01In <| SOk.nil) follows_ok k_spec_IsIndependent F_spec_IsIndependent fun x y h => (n_spec_IsIndependent FUEL x).trans (f_spec_IsIndependent x y h)

def fn_impl_IsIndependent : SFn := ⟨22, ag_impl_IsIndependent, rs_impl_IsIndependent, F_impl_IsIndependent⟩
def sc_impl_IsIndependent : SCode :=
  (.seq
   (.reg false [
     ⟨(some 2), .box 2 (.t 0), none⟩,
     ⟨(some 4), .mv (.k (.one (.v (.bool) (false)))), none⟩])
  (.seq
   (.seq
    (.reg false [
      ⟨(some 7), .load true 2 (.t 2), none⟩,
      ⟨(some 8), .call .froz 14 [(.t 7)], none⟩,
      ⟨(some 9), .un .not (.t 8), none⟩,
      ⟨(some 10), .mv (.t 9), none⟩,
      ⟨(some 11), .mv (.t 1), (some (10, false))⟩,
      ⟨(some 12), .bin .lss (.t 11) (.k (.one (.v (.int .i64) ((0 : Int))))), (some (10, false))⟩,
      ⟨(some 13), .pick (.t 10) (.k (.one (.v (.bool) (true)))) (.t 12), none⟩,
      ⟨(some 14), .mv (.t 13), none⟩,
      ⟨(some 15), .mv (.t 1), (some (14, false))⟩,
      ⟨(some 16), .fieldA 0 (.t 2), (some (14, false))⟩,
      ⟨(some 17), .load false 1 (.t 16), (some (14, false))⟩,
      ⟨(some 18), .bin .shl (.k (.one (.v (.int .i64) ((1 : Int))))) (.t 17), (some (14, false))⟩,
      ⟨(some 19), .bin .geq (.t 15) (.t 18), (some (14, false))⟩,
      ⟨(some 20), .pick (.t 14) (.k (.one (.v (.bool) (true)))) (.t 19), none⟩])
   (.cond (.t 20)
     (.seq
      (.reg false [
        ⟨(some 4), .mv (.k (.one (.v (.bool) (false)))), none⟩])
     .ret)
     .skip))
  (.seq
   (.seq
    (.reg false [
      ⟨(some 21), .fieldA 1 (.t 2), none⟩,
      ⟨(some 22), .load false 1 (.t 21), none⟩,
      ⟨(some 23), .len (.t 22), none⟩,
      ⟨(some 24), .mv (.k (.one (.v (.int .i64) ((0 : Int))))), none⟩])
   (.join ⟨[], []⟩ [2, 9000, 9001, 9002, 9003, 9004, 9005, 6] []
     (.block 0
       (.loop 0 ⟨[(1, .one (.c (.v (.int .i64)))), (22, .one (.c (.v (.list [.int .i64, .int .i64])))), (23, .one (.c (.v (.int .i64)))), (24, .one (.c (.v (.int .i64))))], []⟩ [2, 9000, 9001, 9002, 9003, 9004, 9005, 6] []
         (.seq
          (.reg false [
            ⟨(some 25), .bin .lss (.t 24) (.t 23), none⟩])
         (.seq
          (.cond (.t 25)
            .skip
            (.exit 0))
         (.seq
          (.block 1
            (.seq
             (.reg false [
               ⟨(some 26), .idxA 2 (.t 22) (.t 24), none⟩,
               ⟨(some 27), .load true 2 (.t 26), none⟩,
               ⟨(some 6), .alloc [.v (.int .i64) ((0 : Int)), .v (.int .i64) ((0 : Int))], none⟩,
               ⟨none, .store 2 (.t 6) (.t 27), none⟩])
            (.seq
             (.reg false [
               ⟨(some 28), .mv (.t 1), none⟩,
               ⟨(some 29), .fieldA 0 (.t 6), none⟩,
               ⟨(some 30), .load false 1 (.t 29), none⟩,
               ⟨(some 31), .bin .shr (.t 28) (.t 30), none⟩,
               ⟨(some 32), .bin .and (.t 31) (.k (.one (.v (.int .i64) ((1 : Int))))), none⟩,
               ⟨(some 33), .bin .eql (.t 32) (.k (.one (.v (.int .i64) ((1 : Int))))), none⟩,
               ⟨(some 34), .mv (.t 33), none⟩,
               ⟨(some 35), .mv (.t 1), (some (34, true))⟩,
               ⟨(some 36), .fieldA 1 (.t 6), (some (34, true))⟩,
               ⟨(some 37), .load false 1 (.t 36), (some (34, true))⟩,
               ⟨(some 38), .bin .shr (.t 35) (.t 37), (some (34, true))⟩,
               ⟨(some 39), .bin .and (.t 38) (.k (.one (.v (.int .i64) ((1 : Int))))), (some (34, true))⟩,
               ⟨(some 40), .bin .eql (.t 39) (.k (.one (.v (.int .i64) ((1 : Int))))), (some (34, true))⟩,
               ⟨(some 41), .pick (.t 34) (.t 40) (.k (.one (.v (.bool) (false)))), none⟩])
            (.cond (.t 41)
              (.seq
               (.reg false [
                 ⟨(some 4), .mv (.k (.one (.v (.bool) (false)))), none⟩])
              .ret)
              .skip))))
         (.reg false [
           ⟨(some 42), .bin .add (.t 24) (.k (.one (.v (.int .i64) ((1 : Int))))), none⟩,
           ⟨(some 24), .mv (.t 42), none⟩]))))))))
  (.seq
   (.reg false [
     ⟨(some 4), .mv (.k (.one (.v (.bool) (true)))), none⟩])
  .ret))))
def ms_impl_IsIndependent : List MRes := [.tmp 4]
theorem n_impl_IsIndependent (NN : Nat) (x : DLL (Sig.tys ag_impl_IsIndependent)) : runS NN [fn_impl_GraphOk] sc_impl_IsIndependent ms_impl_IsIndependent ag_impl_IsIndependent rs_impl_IsIndependent x = G_impl_IsIndependent NN x := by kernel_rfl
theorem k_impl_IsIndependent : chkS Go.Proofs.Try.prog 22 sc_impl_IsIndependent.er ms_impl_IsIndependent 2 = true := by decide +kernel
theorem p_impl_IsIndependent : PureSpec Go.Proofs.Try.prog 22 fn_impl_IsIndependent.M ∧ chkFun Go.Proofs.Try.prog 22 = true :=
  pure_of_runS (T := [fn_impl_GraphOk]) (sc := sc_impl_IsIndependent) (ms := ms_impl_IsIndependent) (args := ag_impl_IsIndependent) (res := rs_impl_IsIndependent) (SOk.cons p_impl_GraphOk <| SOk.nil) follows_ok k_impl_IsIndependent F_impl_IsIndependent fun x y h => (n_impl_IsIndependent FUEL x).trans (f_impl_IsIndependent x y h)

def fn_laws_FnExactIsIndependent : SFn := ⟨5, ag_laws_FnExactIsIndependent, rs_laws_FnExactIsIndependent, F_laws_FnExactIsIndependent⟩
def sc_laws_FnExactIsIndependent : SCode :=
  (.seq
   (.reg false [
     ⟨(some 2), .box 2 (.t 0), none⟩,
     ⟨(some 4), .mv (.k (.one (.v (.bool) (false)))), none⟩])
  (.seq
   (.reg false [
     ⟨(some 5), .mv (.k (.one (.v (.int .i64) ((1048576 : Int))))), none⟩])
  (.seq
   (.reg false [
     ⟨(some 9), .load true 2 (.t 2), none⟩,
     ⟨(some 10), .mv (.t 5), none⟩,
     ⟨(some 11), .call .froz 11 [(.t 9), (.t 10)], none⟩,
     ⟨(some 5), .mv (.t 11), none⟩])
  (.seq
   (.seq
    (.reg false [
      ⟨(some 12), .mv (.t 5), none⟩,
      ⟨(some 13), .bin .lss (.t 12) (.k (.one (.v (.int .i64) ((0 : Int))))), none⟩])
   (.cond (.t 13)
     (.seq
      (.reg false [
        ⟨(some 4), .mv (.k (.one (.v (.bool) (true)))), none⟩])
     .ret)
     .skip))
  (.seq
   (.reg false [
     ⟨(some 14), .load true 2 (.t 2), none⟩,
     ⟨(some 15), .call .froz 13 [(.t 14)], none⟩,
     ⟨(some 16), .mv (.t 1), none⟩,
     ⟨(some 17), .call .froz 21 [(.t 15), (.t 16)], none⟩,
     ⟨(some 6), .mv (.t 17), none⟩])
  (.seq
   (.reg false [
     ⟨(some 18), .load true 2 (.t 2), none⟩,
     ⟨(some 19), .call .froz 13 [(.t 18)], none⟩,
     ⟨(some 7), .alloc [.v (.int .i64) ((0 : Int)), .nil [.int .i64, .int .i64]], none⟩,
     ⟨none, .store 2 (.t 7) (.t 19), none⟩])
  (.seq
   (.reg false [
     ⟨(some 20), .load true 2 (.t 7), none⟩,
     ⟨(some 21), .mv (.t 1), none⟩,
     ⟨(some 22), .call .froz 22 [(.t 20), (.t 21)], none⟩,
     ⟨(some 8), .mv (.t 22), none⟩])
  (.seq
   (.seq
    (.reg false [
      ⟨(some 23), .mv (.t 8), none⟩,
      ⟨(some 24), .mv (.t 6), none⟩,
      ⟨(some 25), .binb .neq (.t 23) (.t 24), none⟩])
   (.cond (.t 25)
     (.seq
      (.reg false [
        ⟨(some 4), .mv (.k (.one (.v (.bool) (false)))), none⟩])
     .ret)
     .skip))
  (.seq
   (.seq
    (.reg true [
      ⟨(some 26), .load true 2 (.t 7), none⟩,
      ⟨(some 27), .load true 2 (.t 2), none⟩,
      ⟨(some 28), .call .froz 13 [(.t 27)], none⟩,
      ⟨(some 29), .call .froz 15 [(.t 26), (.t 28)], none⟩,
      ⟨(some 30), .un .not (.t 29), none⟩])
   (.cond (.t 30)
     (.seq
      (.reg false [
        ⟨(some 4), .mv (.k (.one (.v (.bool) (false)))), none⟩])
     .ret)
     .skip))
  (.seq
   (.reg false [
     ⟨(some 4), .mv (.k (.one (.v (.bool) (true)))), none⟩])
  .ret))))))))))
def ms_laws_FnExactIsIndependent : List MRes := [.tmp 4]
theorem n_laws_FnExactIsIndependent (NN : Nat) (x : DLL (Sig.tys ag_laws_FnExactIsIndependent)) : runS NN [fn_laws_szGraph, fn_laws_toGraph, fn_spec_IsIndependent, fn_impl_IsIndependent, fn_laws_eqGraph] sc_laws_FnExactIsIndependent ms_laws_FnExactIsIndependent ag_laws_FnExactIsIndependent rs_laws_FnExactIsIndependent x = G_laws_FnExactIsIndependent NN x := by kernel_rfl
theorem k_laws_FnExactIsIndependent : chkS Go.Proofs.Try.prog 5 sc_laws_FnExactIsIndependent.er ms_laws_FnExactIsIndependent 2 = true := by decide +kernel
theorem p_laws_FnExactIsIndependent : PureSpec Go.Proofs.Try.prog 5 fn_laws_FnExactIsIndependent.M ∧ chkFun Go.Proofs.Try.prog 5 = true :=
  pure_of_runS (T := [fn_laws_szGraph, fn_laws_toGraph, fn_spec_IsIndependent, fn_impl_IsIndependent, fn_laws_eqGraph]) (sc := sc_laws_FnExactIsIndependent) (ms := ms_laws_FnExactIsIndependent) (args := ag_laws_FnExactIsIndependent) (res := rs_laws_FnExactIsIndependent) (SOk.cons p_laws_szGraph <| SOk.cons p_laws_toGraph <| SOk.cons p_spec_IsIndependent <| SOk.cons p_impl_IsIndependent <| SOk.cons p_laws_eqGraph <| SOk.nil) follows_ok k_laws_FnExactIsIndependent F_laws_FnExactIsIndependent fun x y h => (n_laws_FnExactIsIndependent FUEL x).trans (f_laws_FnExactIsIndependent x y h)

def fn_spec_IsMatching : SFn := ⟨23, ag_spec_IsMatching, rs_spec_IsMatching, F_spec_IsMatching⟩
def sc_spec_IsMatching : SCode :=
  (.seq
   (.reg false [
     ⟨(some 3), .box 2 (.t 0), none⟩,
     ⟨(some 6), .mv (.k (.one (.v (.bool) (false)))), none⟩])
  (.seq
   (.seq
    (.reg false [
      ⟨(some 10), .load true 2 (.t 3), none⟩,
      ⟨(some 11), .call .froz 12 [(.t 10)], none⟩,
      ⟨(some 12), .un .not (.t 11), none⟩,
      ⟨(some 13), .mv (.t 12), none⟩,
      ⟨(some 14), .mv (.t 1), (some (13, false))⟩,
      ⟨(some 15), .fieldA 1 (.t 3), (some (13, false))⟩,
      ⟨(some 16), .load false 1 (.t 15), (some (13, false))⟩,
      ⟨(some 17), .len (.t 16), (some (13, false))⟩,
      ⟨(some 18), .bin .shl (.k (.one (.v (.int .i64) ((1 : Int))))) (.t 17), (some (13, false))⟩,
      ⟨(some 19), .bin .sub (.t 18) (.k (.one (.v (.int .i64) ((1 : Int))))), (some (13, false))⟩,
      ⟨(some 20), .call .froz 36 [(.t 14), (.k (.one (.v (.int .i64) ((0 : Int))))), (.t 19)], (some (13, false))⟩,
      ⟨(some 21), .un .not (.t 20), (some (13, false))⟩,
      ⟨(some 22), .pick (.t 13) (.k (.one (.v (.bool) (true)))) (.t 21), none⟩])
   (.cond (.t 22)
     (.seq
      (.reg false [
        ⟨(some 6), .mv (.k (.one (.v (.bool) (false)))), none⟩])
     .ret)
     .skip))
  (.seq
   (.reg false [
     ⟨(some 7), .mv (.k (.one (.v (.int .i64) ((0 : Int))))), none⟩])
  (.seq
   (.seq
    (.reg false [
      ⟨(some 23), .fieldA 1 (.t 3), none⟩,
      ⟨(some 24), .load false 1 (.t 23), none⟩,
      ⟨(some 25), .len (.t 24), none⟩,
      ⟨(some 26), .mv (.k (.one (.v (.int .i64) ((0 : Int))))), none⟩])
   (.join ⟨[(2, .one (.c (.v (.bool)))), (7, .one (.c (.v (.int .i64)))), (3, .one (.c (.ptr0 3 0)))], [(3, .box [.c (.v (.int .i64)), .c (.v (.list [.int .i64, .int .i64]))])]⟩ [3, 12000, 12001, 12002, 12003, 12004, 12005, 21000, 21001, 21002, 21003, 21004, 21005, 9] []
     (.block 0
       (.loop 0 ⟨[(1, .one (.c (.v (.int .i64)))), (2, .one (.c (.v (.bool)))), (3, .one (.c (.ptr0 3 0))), (7, .one (.c (.v (.int .i64)))), (24, .one (.c (.v (.list [.int .i64, .int .i64])))), (25, .one (.c (.v (.int .i64)))), (26, .one (.c (.v (.int .i64))))], [(3, .box [.c (.v (.int .i64)), .c (.v (.list [.int .i64, .int .i64]))])]⟩ [3, 12000, 12001, 12002, 12003, 12004, 12005, 21000, 21001, 21002, 21003, 21004, 21005, 9] []
         (.seq
          (.reg false [
            ⟨(some 27), .bin .lss (.t 26) (.t 25), none⟩])
         (.seq
          (.cond (.t 27)
            .skip
            (.exit 0))
         (.seq
          (.join ⟨[(26, .one (.c (.v (.int .i64)))), (1, .one (.c (.v (.int .i64)))), (2, .one (.c (.v (.bool)))), (3, .one (.c (.ptr0 3 0))), (7, .one (.c (.v (.int .i64)))), (24, .one (.c (.v (.list [.int .i64, .int .i64])))), (25, .one (.c (.v (.int .i64))))], [(3, .box [.c (.v (.int .i64)), .c (.v (.list [.int .i64, .int .i64]))])]⟩ [3, 12000, 12001, 12002, 12003, 12004, 12005, 21000, 21001, 21002, 21003, 21004, 21005, 9] []
            (.block 1
              (.seq
               (.reg false [
                 ⟨(some 28), .mv (.t 26), none⟩,
                 ⟨(some 29), .idxA 2 (.t 24) (.t 26), none⟩,
                 ⟨(some 30), .load true 2 (.t 29), none⟩,
                 ⟨(some 9), .alloc [.v (.int .i64) ((0 : Int)), .v (.int .i64) ((0 : Int))], none⟩,
                 ⟨(some 8), .mv (.t 28), none⟩,
                 ⟨none, .store 2 (.t 9) (.t 30), none⟩])
              (.seq
               (.seq
                (.reg false [
                  ⟨(some 31), .mv (.t 1), none⟩,
                  ⟨(some 32), .mv (.t 8), none⟩,
                  ⟨(some 33), .bin .shr (.t 31) (.t 32), none⟩,
                  ⟨(some 34), .bin .and (.t 33) (.k (.one (.v (.int .i64) ((1 : Int))))), none⟩,
                  ⟨(some 35), .bin .eql (.t 34) (.k (.one (.v (.int .i64) ((0 : Int))))), none⟩])
               (.cond (.t 35)
                 (.exit 1)
                 .skip))
              (.seq
               (.seq
                (.reg false [
                  ⟨(some 36), .fieldA 0 (.t 9), none⟩,
                  ⟨(some 37), .load false 1 (.t 36), none⟩,
                  ⟨(some 38), .fieldA 1 (.t 9), none⟩,
                  ⟨(some 39), .load false 1 (.t 38), none⟩,
                  ⟨(some 40), .bin .eql (.t 37) (.t 39), none⟩,
                  ⟨(some 41), .mv (.t 40), none⟩,
                  ⟨(some 42), .mv (.t 7), (some (41, false))⟩,
                  ⟨(some 43), .fieldA 0 (.t 9), (some (41, false))⟩,
                  ⟨(some 44), .load false 1 (.t 43), (some (41, false))⟩,
                  ⟨(some 45), .bin .shr (.t 42) (.t 44), (some (41, false))⟩,
                  ⟨(some 46), .bin .and (.t 45) (.k (.one (.v (.int .i64) ((1 : Int))))), (some (41, false))⟩,
                  ⟨(some 47), .bin .eql (.t 46) (.k (.one (.v (.int .i64) ((1 : Int))))), (some (41, false))⟩,
                  ⟨(some 48), .pick (.t 41) (.k (.one (.v (.bool) (true)))) (.t 47), none⟩,
                  ⟨(some 49), .mv (.t 48), none⟩,
                  ⟨(some 50), .mv (.t 7), (some (49, false))⟩,
                  ⟨(some 51), .fieldA 1 (.t 9), (some (49, false))⟩,
                  ⟨(some 52), .load false 1 (.t 51), (some (49, false))⟩,
                  ⟨(some 53), .bin .shr (.t 50) (.t 52), (some (49, false))⟩,
                  ⟨(some 54), .bin .and (.t 53) (.k (.one (.v (.int .i64) ((1 : Int))))), (some (49, false))⟩,
                  ⟨(some 55), .bin .eql (.t 54) (.k (.one (.v (.int .i64) ((1 : Int))))), (some (49, false))⟩,
                  ⟨(some 56), .pick (.t 49) (.k (.one (.v (.bool) (true)))) (.t 55), none⟩])
               (.cond (.t 56)
                 (.seq
                  (.reg false [
                    ⟨(some 6), .mv (.k (.one (.v (.bool) (false)))), none⟩])
                 .ret)
                 .skip))
              (.reg true [
                ⟨(some 57), .mv (.t 7), none⟩,
                ⟨(some 58), .fieldA 0 (.t 9), none⟩,
                ⟨(some 59), .load false 1 (.t 58), none⟩,
                ⟨(some 60), .bin .shl (.k (.one (.v (.int .i64) ((1 : Int))))) (.t 59), none⟩,
                ⟨(some 61), .bin .add (.t 57) (.t 60), none⟩,
                ⟨(some 62), .fieldA 1 (.t 9), none⟩,
                ⟨(some 63), .load false 1 (.t 62), none⟩,
                ⟨(some 64), .bin .shl (.k (.one (.v (.int .i64) ((1 : Int))))) (.t 63), none⟩,
                ⟨(some 65), .bin .add (.t 61) (.t 64), none⟩,
                ⟨(some 7), .mv (.t 65), none⟩]))))))
         (.reg false [
           ⟨(some 66), .bin .add (.t 26) (.k (.one (.v (.int .i64) ((1 : Int))))), none⟩,
           ⟨(some 26), .mv (.t 66), none⟩]))))))))
  (.seq
   (.reg false [
     ⟨(some 67), .mv (.t 2), none⟩,
     ⟨(some 68), .un .not (.t 67), none⟩,
     ⟨(some 69), .mv (.t 68), none⟩,
     ⟨(some 70), .mv (.t 7), (some (69, false))⟩,
     ⟨(some 71), .fieldA 0 (.t 3), (some (69, false))⟩,
     ⟨(some 72), .load false 1 (.t 71), (some (69, false))⟩,
     ⟨(some 73), .bin .shl (.k (.one (.v (.int .i64) ((1 : Int))))) (.t 72), (some (69, false))⟩,
     ⟨(some 74), .bin .sub (.t 73) (.k (.one (.v (.int .i64) ((1 : Int))))), (some (69, false))⟩,
     ⟨(some 75), .bin .eql (.t 70) (.t 74), (some (69, false))⟩,
     ⟨(some 76), .pick (.t 69) (.k (.one (.v (.bool) (true)))) (.t 75), none⟩,
     ⟨(some 6), .mv (.t 76), none⟩])
  .ret)))))
def ms_spec_IsMatching : List MRes := [.tmp 6]
theorem n_spec_IsMatching (NN : Nat) (x : DLL (Sig.tys ag_spec_IsMatching)) : runS NN [fn_spec_GraphOk, fn_spec_l01In] sc_spec_IsMatching ms_spec_IsMatching ag_spec_IsMatching rs_spec_IsMatching x = G_spec_IsMatching NN x := by kernel_rfl
theorem k_spec_IsMatching : chkS Go.Proofs.Try.prog 23 sc_spec_IsMatching.er ms_spec_IsMatching 3 = true := by decide +kernel
theorem p_spec_IsMatching : PureSpec Go.Proofs.Try.prog 23 fn_spec_IsMatching.M ∧ chkFun Go.Proofs.Try.prog 23 = true :=
  pure_of_runS (T := [fn_spec_GraphOk, fn_spec_l01In]) (sc := sc_spec_IsMatching) (ms := ms_spec_IsMatching) (args := ag_spec_IsMatching) (res := rs_spec_IsMatching) (SOk.cons p_spec_GraphOk <| SOk.cons p_spec_l01In <| SOk.nil) follows_ok k_spec_IsMatching F_spec_IsMatching fun x y h => (n_spec_IsMatching FUEL x).trans (f_spec_IsMatching x y h)

def fn_impl_IsMatching : SFn := ⟨24, ag_impl_IsMatching, rs_impl_IsMatching, F_impl_IsMatching⟩
def sc_impl_IsMatching : SCode :=
  (.seq
   (.reg false [
     ⟨(some 3), .box 2 (.t 0), none⟩,
     ⟨(some 6), .mv (.k (.one (.v (.bool) (false)))), none⟩])
  (.seq
   (.seq
    (.reg false [
      ⟨(some 11), .load true 2 (.t 3), none⟩,
      ⟨(some 12), .call .froz 14 [(.t 11)], none⟩,
      ⟨(some 13), .un .not (.t 12), none⟩,
      ⟨(some 14), .mv (.t 13), none⟩,
      ⟨(some 15), .mv (.t 1), (some (14, false))⟩,
      ⟨(some 16), .bin .lss (.t 15) (.k (.one (.v (.int .i64) ((0 : Int))))), (some (14, false))⟩,
      ⟨(some 17), .pick (.t 14) (.k (.one (.v (.bool) (true)))) (.t 16), none⟩,
      ⟨(some 18), .mv (.t 17), none⟩,
      ⟨(some 19), .mv (.t 1), (some (18, false))⟩,
      ⟨(some 20), .fieldA 1 (.t 3), (some (18, false))⟩,
      ⟨(some 21), .load false 1 (.t 20), (some (18, false))⟩,
      ⟨(some 22), .len (.t 21), (some (18, false))⟩,
      ⟨(some 23), .bin .shl (.k (.one (.v (.int .i64) ((1 : Int))))) (.t 22), (some (18, false))⟩,
      ⟨(some 24), .bin .geq (.t 19) (.t 23), (some (18, false))⟩,
      ⟨(some 25), .pick (.t 18) (.k (.one (.v (.bool) (true)))) (.t 24), none⟩])
   (.cond (.t 25)
     (.seq
      (.reg false [
        ⟨(some 6), .mv (.k (.one (.v (.bool) (false)))), none⟩])
     .ret)
     .skip))
  (.seq
   (.reg false [
     ⟨(some 7), .mv (.k (.one (.v (.int .i64) ((0 : Int))))), none⟩])
  (.seq
   (.seq
    (.reg false [
      ⟨(some 26), .fieldA 1 (.t 3), none⟩,
      ⟨(some 27), .load false 1 (.t 26), none⟩,
      ⟨(some 28), .len (.t 27), none⟩,
      ⟨(some 29), .mv (.k (.one (.v (.int .i64) ((0 : Int))))), none⟩])
   (.join ⟨[(2, .one (.c (.v (.bool)))), (7, .one (.c (.v (.int .i64)))), (3, .one (.c (.ptr0 3 0)))], [(3, .box [.c (.v (.int .i64)), .c (.v (.list [.int .i64, .int .i64]))])]⟩ [3, 13000, 13001, 13002, 13003, 13004, 13005, 9] []
     (.block 0
       (.loop 0 ⟨[(1, .one (.c (.v (.int .i64)))), (2, .one (.c (.v (.bool)))), (3, .one (.c (.ptr0 3 0))), (7, .one (.c (.v (.int .i64)))), (27, .one (.c (.v (.list [.int .i64, .int .i64])))), (28, .one (.c (.v (.int .i64)))), (29, .one (.c (.v (.int .i64))))], [(3, .box [.c (.v (.int .i64)), .c (.v (.list [.int .i64, .int .i64]))])]⟩ [3, 13000, 13001, 13002, 13003, 13004, 13005, 9] []
         (.seq
          (.reg false [
            ⟨(some 30), .bin .lss (.t 29) (.t 28), none⟩])
         (.seq
          (.cond (.t 30)
            .skip
            (.exit 0))
         (.seq
          (.join ⟨[(29, .one (.c (.v (.int .i64)))), (1, .one (.c (.v (.int .i64)))), (2, .one (.c (.v (.bool)))), (3, .one (.c (.ptr0 3 0))), (7, .one (.c (.v (.int .i64)))), (27, .one (.c (.v (.list [.int .i64, .int .i64])))), (28, .one (.c (.v (.int .i64))))], [(3, .box [.c (.v (.int .i64)), .c (.v (.list [.int .i64, .int .i64]))])]⟩ [3, 13000, 13001, 13002, 13003, 13004, 13005, 9] []
            (.block 1
              (.seq
               (.reg false [
                 ⟨(some 31), .mv (.t 29), none⟩,
                 ⟨(some 32), .idxA 2 (.t 27) (.t 29), none⟩,
                 ⟨(some 33), .load true 2 (.t 32), none⟩,
                 ⟨(some 9), .alloc [.v (.int .i64) ((0 : Int)), .v (.int .i64) ((0 : Int))], none⟩,
                 ⟨(some 8), .mv (.t 31), none⟩,
                 ⟨none, .store 2 (.t 9) (.t 33), none⟩])
              (.seq
               (.seq
                (.reg false [
                  ⟨(some 34), .mv (.t 1), none⟩,
                  ⟨(some 35), .mv (.t 8), none⟩,
                  ⟨(some 36), .bin .shr (.t 34) (.t 35), none⟩,
                  ⟨(some 37), .bin .and (.t 36) (.k (.one (.v (.int .i64) ((1 : Int))))), none⟩,
                  ⟨(some 38), .bin .eql (.t 37) (.k (.one (.v (.int .i64) ((0 : Int))))), none⟩])
               (.cond (.t 38)
                 (.exit 1)
                 .skip))
              (.seq
               (.reg true [
                 ⟨(some 39), .fieldA 0 (.t 9), none⟩,
                 ⟨(some 40), .load false 1 (.t 39), none⟩,
                 ⟨(some 41), .bin .shl (.k (.one (.v (.int .i64) ((1 : Int))))) (.t 40), none⟩,
                 ⟨(some 42), .fieldA 1 (.t 9), none⟩,
                 ⟨(some 43), .load false 1 (.t 42), none⟩,
                 ⟨(some 44), .bin .shl (.k (.one (.v (.int .i64) ((1 : Int))))) (.t 43), none⟩,
                 ⟨(some 45), .bin .or (.t 41) (.t 44), none⟩,
                 ⟨(some 10), .mv (.t 45), none⟩])
              (.seq
               (.seq
                (.reg false [
                  ⟨(some 46), .fieldA 0 (.t 9), none⟩,
                  ⟨(some 47), .load false 1 (.t 46), none⟩,
                  ⟨(some 48), .fieldA 1 (.t 9), none⟩,
                  ⟨(some 49), .load false 1 (.t 48), none⟩,
                  ⟨(some 50), .bin .eql (.t 47) (.t 49), none⟩,
                  ⟨(some 51), .mv (.t 50), none⟩,
                  ⟨(some 52), .mv (.t 7), (some (51, false))⟩,
                  ⟨(some 53), .mv (.t 10), (some (51, false))⟩,
                  ⟨(some 54), .bin .and (.t 52) (.t 53), (some (51, false))⟩,
                  ⟨(some 55), .bin .neq (.t 54) (.k (.one (.v (.int .i64) ((0 : Int))))), (some (51, false))⟩,
                  ⟨(some 56), .pick (.t 51) (.k (.one (.v (.bool) (true)))) (.t 55), none⟩])
               (.cond (.t 56)
                 (.seq
                  (.reg false [
                    ⟨(some 6), .mv (.k (.one (.v (.bool) (false)))), none⟩])
                 .ret)
                 .skip))
              (.reg false [
                ⟨(some 57), .mv (.t 7), none⟩,
                ⟨(some 58), .mv (.t 10), none⟩,
                ⟨(some 59), .bin .or (.t 57) (.t 58), none⟩,
                ⟨(some 7), .mv (.t 59), none⟩])))))))
         (.reg false [
           ⟨(some 60), .bin .add (.t 29) (.k (.one (.v (.int .i64) ((1 : Int))))), none⟩,
           ⟨(some 29), .mv (.t 60), none⟩]))))))))
  (.seq
   (.reg false [
     ⟨(some 61), .mv (.t 2), none⟩,
     ⟨(some 62), .un .not (.t 61), none⟩,
     ⟨(some 63), .mv (.t 62), none⟩,
     ⟨(some 64), .mv (.t 7), (some (63, false))⟩,
     ⟨(some 65), .fieldA 0 (.t 3), (some (63, false))⟩,
     ⟨(some 66), .load false 1 (.t 65), (some (63, false))⟩,
     ⟨(some 67), .bin .shl (.k (.one (.v (.int .i64) ((1 : Int))))) (.t 66), (some (63, false))⟩,
     ⟨(some 68), .bin .sub (.t 67) (.k (.one (.v (.int .i64) ((1 : Int))))), (some (63, false))⟩,
     ⟨(some 69), .bin .eql (.t 64) (.t 68), (some (63, false))⟩,
     ⟨(some 70), .pick (.t 63) (.k (.one (.v (.bool) (true)))) (.t 69), none⟩,
     ⟨(some 6), .mv (.t 70), none⟩])
  .ret)))))
def ms_impl_IsMatching : List MRes := [.tmp 6]
theorem n_impl_IsMatching (NN : Nat) (x : DLL (Sig.tys ag_impl_IsMatching)) : runS NN [fn_impl_GraphOk] sc_impl_IsMatching ms_impl_IsMatching ag_impl_IsMatching rs_impl_IsMatching x = G_impl_IsMatching NN x := by kernel_rfl
theorem k_impl_IsMatching : chkS Go.Proofs.Try.prog 24 sc_impl_IsMatching.er ms_impl_IsMatching 3 = true := by decide +kernel
theorem p_impl_IsMatching : PureSpec Go.Proofs.Try.prog 24 fn_impl_IsMatching.M ∧ chkFun Go.Proofs.Try.prog 24 = true :=
  pure_of_runS (T := [fn_impl_GraphOk]) (sc := sc_impl_IsMatching) (ms := ms_impl_IsMatching) (args := ag_impl_IsMatching) (res := rs_impl_IsMatching) (SOk.cons p_impl_GraphOk <| SOk.nil) follows_ok k_impl_IsMatching F_impl_IsMatching fun x y h => (n_impl_IsMatching FUEL x).trans (f_impl_IsMatching x y h)

def fn_laws_FnExactIsMatching : SFn := ⟨6, ag_laws_FnExactIsMatching, rs_laws_FnExactIsMatching, F_laws_FnExactIsMatching⟩
def sc_laws_FnExactIsMatching : SCode :=
  (.seq
   (.reg false [
     ⟨(some 3), .box 2 (.t 0), none⟩,
     ⟨(some 6), .mv (.k (.one (.v (.bool) (false)))), none⟩])
  (.seq
   (.reg false [
     ⟨(some 7), .mv (.k (.one (.v (.int .i64) ((1048576 : Int))))), none⟩])
  (.seq
   (.reg false [
     ⟨(some 11), .load true 2 (.t 3), none⟩,
     ⟨(some 12), .mv (.t 7), none⟩,
     ⟨(some 13), .call .froz 11 [(.t 11), (.t 12)], none⟩,
     ⟨(some 7), .mv (.t 13), none⟩])
  (.seq
   (.seq
    (.reg false [
      ⟨(some 14), .mv (.t 7), none⟩,
      ⟨(some 15), .bin .lss (.t 14) (.k (.one (.v (.int .i64) ((0 : Int))))), none⟩])
   (.cond (.t 15)
     (.seq
      (.reg false [
        ⟨(some 6), .mv (.k (.one (.v (.bool) (true)))), none⟩])
     .ret)
     .skip))
  (.seq
   (.reg false [
     ⟨(some 16), .load true 2 (.t 3), none⟩,
     ⟨(some 17), .call .froz 13 [(.t 16)], none⟩,
     ⟨(some 18), .mv (.t 1), none⟩,
     ⟨(some 19), .mv (.t 2), none⟩,
     ⟨(some 20), .call .froz 23 [(.t 17), (.t 18), (.t 19)], none⟩,
     ⟨(some 8), .mv (.t 20), none⟩])
  (.seq
   (.reg false [
     ⟨(some 21), .load true 2 (.t 3), none⟩,
     ⟨(some 22), .call .froz 13 [(.t 21)], none⟩,
     ⟨(some 9), .alloc [.v (.int .i64) ((0 : Int)), .nil [.int .i64, .int .i64]], none⟩,
     ⟨none, .store 2 (.t 9) (.t 22), none⟩])
  (.seq
   (.reg false [
     ⟨(some 23), .load true 2 (.t 9), none⟩,
     ⟨(some 24), .mv (.t 1), none⟩,
     ⟨(some 25), .mv (.t 2), none⟩,
     ⟨(some 26), .call .froz 24 [(.t 23), (.t 24), (.t 25)], none⟩,
     ⟨(some 10), .mv (.t 26), none⟩])
  (.seq
   (.seq
    (.reg false [
      ⟨(some 27), .mv (.t 10), none⟩,
      ⟨(some 28), .mv (.t 8), none⟩,
      ⟨(some 29), .binb .neq (.t 27) (.t 28), none⟩])
   (.cond (.t 29)
     (.seq
      (.reg false [
        ⟨(some 6), .mv (.k (.one (.v (.bool) (false)))), none⟩])
     .ret)
     .skip))
  (.seq
   (.seq
    (.reg true [
      ⟨(some 30), .load true 2 (.t 9), none⟩,
      ⟨(some 31), .load true 2 (.t 3), none⟩,
      ⟨(some 32), .call .froz 13 [(.t 31)], none⟩,
      ⟨(some 33), .call .froz 15 [(.t 30), (.t 32)], none⟩,
      ⟨(some 34), .un .not (.t 33), none⟩])
   (.cond (.t 34)
     (.seq
      (.reg false [
        ⟨(some 6), .mv (.k (.one (.v (.bool) (false)))), none⟩])
     .ret)
     .skip))
  (.seq
   (.reg false [
     ⟨(some 6), .mv (.k (.one (.v (.bool) (true)))), none⟩])
  .ret))))))))))
def ms_laws_FnExactIsMatching : List MRes := [.tmp 6]
theorem n_laws_FnExactIsMatching (NN : Nat) (x : DLL (Sig.tys ag_laws_FnExactIsMatching)) : runS NN [fn_laws_szGraph, fn_laws_toGraph, fn_spec_IsMatching, fn_impl_IsMatching, fn_laws_eqGraph] sc_laws_FnExactIsMatching ms_laws_FnExactIsMatching ag_laws_FnExactIsMatching rs_laws_FnExactIsMatching x = G_laws_FnExactIsMatching NN x := by kernel_rfl
theorem k_laws_FnExactIsMatching : chkS Go.Proofs.Try.prog 6 sc_laws_FnExactIsMatching.er ms_laws_FnExactIsMatching 3 = true := by decide +kernel
theorem p_laws_FnExactIsMatching : PureSpec Go.Proofs.Try.prog 6 fn_laws_FnExactIsMatching.M ∧ chkFun Go.Proofs.Try.prog 6 = true :=
  pure_of_runS (T := [fn_laws_szGraph, fn_laws_toGraph, fn_spec_IsMatching, fn_impl_IsMatching, fn_laws_eqGraph]) (sc := sc_laws_FnExactIsMatching) (ms := ms_laws_FnExactIsMatching) (args := ag_laws_FnExactIsMatching) (res := rs_laws_FnExactIsMatching) (SOk.cons p_laws_szGraph <| SOk.cons p_laws_toGraph <| SOk.cons p_spec_IsMatching <| SOk.cons p_impl_IsMatching <| SOk.cons p_laws_eqGraph <| SOk.nil) follows_ok k_laws_FnExactIsMatching F_laws_FnExactIsMatching fun x y h => (n_laws_FnExactIsMatching FUEL x).trans (f_laws_FnExactIsMatching x y h)

def fn_spec_l36Components : SFn := ⟨52, ag_spec_l36Components, rs_spec_l36Components, F_spec_l36Components⟩
def sc_spec_l36Components : SCode :=
  (.seq
   (.reg false [
     ⟨(some 2), .box 2 (.t 0), none⟩,
     ⟨(some 4), .mv (.k (.one (.v (.int .i64) ((0 : Int))))), none⟩])
  (.seq
   (.reg false [
     ⟨(some 14), .bslice [.int .i64] [], none⟩,
     ⟨(some 5), .mv (.t 14), none⟩])
  (.seq
   (.seq
    (.reg false [
      ⟨(some 6), .mv (.k (.one (.v (.int .i64) ((0 : Int))))), none⟩])
   (.join ⟨[(2, .one (.c (.ptr0 2 0))), (1, .one (.c (.v (.int .i64)))), (5, .one (.c (.full 50001 1)))], [(2, .box [.c (.v (.int .i64)), .c (.v (.list [.int .i64, .int .i64]))]), (50001, .row true .froz [.int .i64])]⟩ [2, 14, 23, 24, 9, 50000, 50001, 50002, 50003, 50004] [(false, 5, 0, 50001, .froz, [])]
     (.block 0
       (.loop 0 ⟨[(1, .one (.c (.v (.int .i64)))), (2, .one (.c (.ptr0 2 0))), (5, .one (.c (.full 50000 1))), (6, .one (.c (.v (.int .i64))))], [(2, .box [.c (.v (.int .i64)), .c (.v (.list [.int .i64, .int .i64]))]), (50000, .row true .froz [.int .i64])]⟩ [2, 14, 23, 24, 9, 50000, 50001, 50002, 50003, 50004] [(false, 5, 0, 50000, .froz, [])]
         (.seq
          (.seq
           (.reg false [
             ⟨(some 15), .mv (.t 6), none⟩,
             ⟨(some 16), .fieldA 0 (.t 2), none⟩,
             ⟨(some 17), .load false 1 (.t 16), none⟩,
             ⟨(some 18), .bin .lss (.t 15) (.t 17), none⟩])
          (.cond (.t 18)
            .skip
            (.exit 0)))
         (.seq
          (.block 1
            (.reg false [
              ⟨(some 21), .mv (.t 5), none⟩,
              ⟨(some 22), .mv (.t 6), none⟩,
              ⟨(some 23), .bslice [.int .i64] [(.t 22)], none⟩,
              ⟨(some 24), .append true [.int .i64] 8 (.t 21) (.t 23), none⟩,
              ⟨(some 5), .mv (.t 24), none⟩]))
         (.reg false [
           ⟨(some 19), .mv (.t 6), none⟩,
           ⟨(some 20), .bin .add (.t 19) (.k (.one (.v (.int .i64) ((1 : Int))))), none⟩,
           ⟨(some 6), .mv (.t 20), none⟩])))))))
  (.seq
   (.reg false [
     ⟨(some 25), .fieldA 0 (.t 2), none⟩,
     ⟨(some 26), .load false 1 (.t 25), none⟩,
     ⟨(some 7), .mv (.t 26), none⟩])
  (.seq
   (.seq
    (.reg false [
      ⟨(some 27), .fieldA 1 (.t 2), none⟩,
      ⟨(some 28), .load false 1 (.t 27), none⟩,
      ⟨(some 29), .len (.t 28), none⟩,
      ⟨(some 30), .mv (.k (.one (.v (.int .i64) ((0 : Int))))), none⟩])
   (.join ⟨[(7, .one (.c (.v (.int .i64))))], []⟩ [2, 14, 23, 24, 9, 50000, 50001, 50002, 50003, 50004] []
     (.block 2
       (.loop 0 ⟨[(1, .one (.c (.v (.int .i64)))), (5, .one (.c (.full 50002 1))), (7, .one (.c (.v (.int .i64)))), (28, .one (.c (.v (.list [.int .i64, .int .i64])))), (29, .one (.c (.v (.int .i64)))), (30, .one (.c (.v (.int .i64))))], [(50002, .row true .froz [.int .i64])]⟩ [2, 14, 23, 24, 9, 50000, 50001, 50002, 50003, 50004] [(false, 5, 0, 50002, .froz, [])]
         (.seq
          (.reg false [
            ⟨(some 31), .bin .lss (.t 30) (.t 29), none⟩])
         (.seq
          (.cond (.t 31)
            .skip
            (.exit 2))
         (.seq
          (.join ⟨[(30, .one (.c (.v (.int .i64)))), (1, .one (.c (.v (.int .i64)))), (5, .one (.c (.full 50004 1))), (7, .one (.c (.v (.int .i64)))), (28, .one (.c (.v (.list [.int .i64, .int .i64])))), (29, .one (.c (.v (.int .i64))))], [(50004, .row true .froz [.int .i64])]⟩ [2, 14, 23, 24, 9, 50000, 50001, 50002, 50003, 50004] [(false, 5, 0, 50004, .froz, [])]
            (.block 3
              (.seq
               (.reg false [
                 ⟨(some 32), .mv (.t 30), none⟩,
                 ⟨(some 33), .idxA 2 (.t 28) (.t 30), none⟩,
                 ⟨(some 34), .load true 2 (.t 33), none⟩,
                 ⟨(some 9), .alloc [.v (.int .i64) ((0 : Int)), .v (.int .i64) ((0 : Int))], none⟩,
                 ⟨(some 8), .mv (.t 32), none⟩,
                 ⟨none, .store 2 (.t 9) (.t 34), none⟩])
              (.seq
               (.reg false [
                 ⟨(some 35), .mv (.t 5), none⟩,
                 ⟨(some 36), .fieldA 0 (.t 9), none⟩,
                 ⟨(some 37), .load false 1 (.t 36), none⟩,
                 ⟨(some 38), .idxA 1 (.t 35) (.t 37), none⟩,
                 ⟨(some 39), .load false 1 (.t 38), none⟩,
                 ⟨(some 10), .mv (.t 39), none⟩])
              (.seq
               (.reg false [
                 ⟨(some 40), .mv (.t 5), none⟩,
                 ⟨(some 41), .fieldA 1 (.t 9), none⟩,
                 ⟨(some 42), .load false 1 (.t 41), none⟩,
                 ⟨(some 43), .idxA 1 (.t 40) (.t 42), none⟩,
                 ⟨(some 44), .load false 1 (.t 43), none⟩,
                 ⟨(some 11), .mv (.t 44), none⟩])
              (.seq
               (.seq
                (.reg false [
                  ⟨(some 45), .mv (.t 1), none⟩,
                  ⟨(some 46), .mv (.t 8), none⟩,
                  ⟨(some 47), .bin .shr (.t 45) (.t 46), none⟩,
                  ⟨(some 48), .bin .and (.t 47) (.k (.one (.v (.int .i64) ((1 : Int))))), none⟩,
                  ⟨(some 49), .bin .eql (.t 48) (.k (.one (.v (.int .i64) ((0 : Int))))), none⟩,
                  ⟨(some 50), .mv (.t 49), none⟩,
                  ⟨(some 51), .mv (.t 10), (some (50, false))⟩,
                  ⟨(some 52), .mv (.t 11), (some (50, false))⟩,
                  ⟨(some 53), .bin .eql (.t 51) (.t 52), (some (50, false))⟩,
                  ⟨(some 54), .pick (.t 50) (.k (.one (.v (.bool) (true)))) (.t 53), none⟩])
               (.cond (.t 54)
                 (.exit 3)
                 .skip))
              (.seq
               (.reg false [
                 ⟨(some 55), .mv (.t 7), none⟩,
                 ⟨(some 56), .bin .sub (.t 55) (.k (.one (.v (.int .i64) ((1 : Int))))), none⟩,
                 ⟨(some 7), .mv (.t 56), none⟩])
              (.seq
               (.reg false [
                 ⟨(some 57), .mv (.t 5), none⟩,
                 ⟨(some 58), .len (.t 57), none⟩,
                 ⟨(some 59), .mv (.k (.one (.v (.int .i64) ((0 : Int))))), none⟩])
              (.block 4
                (.loop 0 ⟨[(1, .one (.c (.v (.int .i64)))), (5, .one (.c (.full 50003 1))), (7, .one (.c (.v (.int .i64)))), (10, .one (.c (.v (.int .i64)))), (11, .one (.c (.v (.int .i64)))), (28, .one (.c (.v (.list [.int .i64, .int .i64])))), (29, .one (.c (.v (.int .i64)))), (30, .one (.c (.v (.int .i64)))), (57, .one (.c (.full 50003 1))), (58, .one (.c (.v (.int .i64)))), (59, .one (.c (.v (.int .i64))))], [(50003, .row true .froz [.int .i64])]⟩ [2, 14, 23, 24, 9, 50000, 50001, 50002, 50003, 50004] [(false, 5, 0, 50003, .froz, [])]
                  (.seq
                   (.reg false [
                     ⟨(some 60), .bin .lss (.t 59) (.t 58), none⟩])
                  (.seq
                   (.cond (.t 60)
                     .skip
                     (.exit 4))
                  (.seq
                   (.block 5
                     (.seq
                      (.reg false [
                        ⟨(some 61), .mv (.t 59), none⟩,
                        ⟨(some 62), .idxA 1 (.t 57) (.t 59), none⟩,
                        ⟨(some 63), .load false 1 (.t 62), none⟩,
                        ⟨(some 12), .mv (.t 61), none⟩,
                        ⟨(some 13), .mv (.t 63), none⟩])
                     (.seq
                      (.reg false [
                        ⟨(some 64), .mv (.t 13), none⟩,
                        ⟨(some 65), .mv (.t 11), none⟩,
                        ⟨(some 66), .bin .eql (.t 64) (.t 65), none⟩])
                     (.cond (.t 66)
                       (.reg false [
                         ⟨(some 67), .mv (.t 5), none⟩,
                         ⟨(some 68), .mv (.t 12), none⟩,
                         ⟨(some 69), .mv (.t 10), none⟩,
                         ⟨(some 70), .idxA 1 (.t 67) (.t 68), none⟩,
                         ⟨none, .store 1 (.t 70) (.t 69), none⟩])
                       .skip))))
                  (.reg false [
                    ⟨(some 71), .bin .add (.t 59) (.k (.one (.v (.int .i64) ((1 : Int))))), none⟩,
                    ⟨(some 59), .mv (.t 71), none⟩]))))))))))))))
         (.reg false [
           ⟨(some 72), .bin .add (.t 30) (.k (.one (.v (.int .i64) ((1 : Int))))), none⟩,
           ⟨(some 30), .mv (.t 72), none⟩]))))))))
  (.seq
   (.reg false [
     ⟨(some 73), .mv (.t 7), none⟩,
     ⟨(some 4), .mv (.t 73), none⟩])
  .ret))))))
def ms_spec_l36Components : List MRes := [.tmp 4]
theorem n_spec_l36Components (NN : Nat) (x : DLL (Sig.tys ag_spec_l36Components)) : runS NN [] sc_spec_l36Components ms_spec_l36Components ag_spec_l36Components rs_spec_l36Components x = G_spec_l36Components NN x := by kernel_rfl
theorem k_spec_l36Components : chkS Go.Proofs.Try.prog 52 sc_spec_l36Components.er ms_spec_l36Components 2 = true := by decide +kernel
theorem p_spec_l36Components : PureSpec Go.Proofs.Try.prog 52 fn_spec_l36Components.M ∧ chkFun Go.Proofs.Try.prog 52 = true :=
  pure_of_runS (T := []) (sc := sc_spec_l36Components) (ms := ms_spec_l36Components) (args := ag_spec_l36Components) (res := rs_spec_l36Components) (SOk.nil) follows_ok k_spec_l36Components F_spec_l36Components fun x y h => (n_spec_l36Components FUEL x).trans (f_spec_l36Components x y h)

def fn_spec_ComponentCount : SFn := ⟨30, ag_spec_ComponentCount, rs_spec_ComponentCount, F_spec_ComponentCount⟩
def sc_spec_ComponentCount : SCode :=
  (.seq
   (.reg false [
     ⟨(some 2), .box 2 (.t 0), none⟩,
     ⟨(some 4), .mv (.k (.one (.v (.int .i64) ((0 : Int))))), none⟩])
  (.seq
   (.seq
    (.reg false [
      ⟨(some 5), .load true 2 (.t 2), none⟩,
      ⟨(some 6), .call .froz 12 [(.t 5)], none⟩,
      ⟨(some 7), .un .not (.t 6), none⟩,
      ⟨(some 8), .mv (.t 7), none⟩,
      ⟨(some 9), .mv (.t 1), (some (8, false))⟩,
      ⟨(some 10), .fieldA 1 (.t 2), (some (8, false))⟩,
      ⟨(some 11), .load false 1 (.t 10), (some (8, false))⟩,
      ⟨(some 12), .len (.t 11), (some (8, false))⟩,
      ⟨(some 13), .bin .shl (.k (.one (.v (.int .i64) ((1 : Int))))) (.t 12), (some (8, false))⟩,
      ⟨(some 14), .bin .sub (.t 13) (.k (.one (.v (.int .i64) ((1 : Int))))), (some (8, false))⟩,
      ⟨(some 15), .call .froz 36 [(.t 9), (.k (.one (.v (.int .i64) ((0 : Int))))), (.t 14)], (some (8, false))⟩,
      ⟨(some 16), .un .not (.t 15), (some (8, false))⟩,
      ⟨(some 17), .pick (.t 8) (.k (.one (.v (.bool) (true)))) (.t 16), none⟩])
   (.cond (.t 17)
     (.seq
      (.reg false [
        ⟨(some 4), .mv (.k (.one (.v (.int .i64) (((-1) : Int))))), none⟩])
     .ret)
     .skip))
  (.seq
   (.reg false [
     ⟨(some 18), .load true 2 (.t 2), none⟩,
     ⟨(some 19), .mv (.t 1), none⟩,
     ⟨(some 20), .call .froz 52 [(.t 18), (.t 19)], none⟩,
     ⟨(some 4), .mv (.t 20), none⟩])
  .ret)))
def ms_spec_ComponentCount : List MRes := [.tmp 4]
theorem n_spec_ComponentCount (NN : Nat) (x : DLL (Sig.tys ag_spec_ComponentCount)) : runS NN [fn_spec_GraphOk, fn_spec_l01In, fn_spec_l36Components] sc_spec_ComponentCount ms_spec_ComponentCount ag_spec_ComponentCount rs_spec_ComponentCount x = G_spec_ComponentCount NN x := by kernel_rfl
theorem k_spec_ComponentCount : chkS Go.Proofs.Try.prog 30 sc_spec_ComponentCount.er ms_spec_ComponentCount 2 = true := by decide +kernel
theorem p_spec_ComponentCount : PureSpec Go.Proofs.Try.prog 30 fn_spec_ComponentCount.M ∧ chkFun Go.Proofs.Try.prog 30 = true :=
  pure_of_runS (T := [fn_spec_GraphOk, fn_spec_l01In, fn_spec_l36Components]) (sc := sc_spec_ComponentCount) (ms := ms_spec_ComponentCount) (args := ag_spec_ComponentCount) (res := rs_spec_ComponentCount) (SOk.cons p_spec_GraphOk <| SOk.cons p_spec_l01In <| SOk.cons p_spec_l36Components <| SOk.nil) follows_ok k_spec_ComponentCount F_spec_ComponentCount fun x y h => (n_spec_ComponentCount FUEL x).trans (f_spec_ComponentCount x y h)

def fn_impl_componentsOf : SFn := ⟨61, ag_impl_componentsOf, rs_impl_componentsOf, F_impl_componentsOf⟩
def sc_impl_componentsOf : SCode :=
  (.seq
   (.reg false [
     ⟨(some 2), .box 2 (.t 0), none⟩,
     ⟨(some 4), .mv (.k (.one (.nil [.int .i64]))), none⟩])
  (.seq
   (.reg false [
     ⟨(some 12), .fieldA 0 (.t 2), none⟩,
     ⟨(some 13), .load false 1 (.t 12), none⟩,
     ⟨(some 14), .mkslice .froz [.int .i64] 8 (0 : Int) (.t 13) (.t 13), none⟩,
     ⟨(some 5), .mv (.t 14), none⟩])
  (.seq
   (.seq
    (.reg false [
      ⟨(some 15), .mv (.t 5), none⟩,
      ⟨(some 16), .len (.t 15), none⟩,
      ⟨(some 17), .mv (.k (.one (.v (.int .i64) ((0 : Int))))), none⟩])
   (.join ⟨[(2, .one (.c (.ptr0 2 0))), (5, .one (.c (.full 50001 1))), (1, .one (.c (.v (.int .i64))))], [(2, .box [.c (.v (.int .i64)), .c (.v (.list [.int .i64, .int .i64]))]), (50001, .row true .froz [.int .i64])]⟩ [2, 14, 8, 50000, 50001, 50002, 50003, 50004, 50005] [(false, 5, 0, 50001, .froz, [])]
     (.block 0
       (.loop 0 ⟨[(1, .one (.c (.v (.int .i64)))), (2, .one (.c (.ptr0 2 0))), (5, .one (.c (.full 50000 1))), (16, .one (.c (.v (.int .i64)))), (17, .one (.c (.v (.int .i64))))], [(2, .box [.c (.v (.int .i64)), .c (.v (.list [.int .i64, .int .i64]))]), (50000, .row true .froz [.int .i64])]⟩ [2, 14, 8, 50000, 50001, 50002, 50003, 50004, 50005] [(false, 5, 0, 50000, .froz, [])]
         (.seq
          (.reg false [
            ⟨(some 18), .bin .lss (.t 17) (.t 16), none⟩])
         (.seq
          (.cond (.t 18)
            .skip
            (.exit 0))
         (.seq
          (.block 1
            (.seq
             (.reg false [
               ⟨(some 19), .mv (.t 17), none⟩,
               ⟨(some 6), .mv (.t 19), none⟩])
            (.reg false [
              ⟨(some 20), .mv (.t 5), none⟩,
              ⟨(some 21), .mv (.t 6), none⟩,
              ⟨(some 22), .mv (.t 6), none⟩,
              ⟨(some 23), .idxA 1 (.t 20) (.t 21), none⟩,
              ⟨none, .store 1 (.t 23) (.t 22), none⟩])))
         (.reg false [
           ⟨(some 24), .bin .add (.t 17) (.k (.one (.v (.int .i64) ((1 : Int))))), none⟩,
           ⟨(some 17), .mv (.t 24), none⟩]))))))))
  (.seq
   (.seq
    (.reg false [
      ⟨(some 25), .fieldA 1 (.t 2), none⟩,
      ⟨(some 26), .load false 1 (.t 25), none⟩,
      ⟨(some 27), .len (.t 26), none⟩,
      ⟨(some 28), .mv (.k (.one (.v (.int .i64) ((0 : Int))))), none⟩])
   (.join ⟨[(5, .one (.c (.full 50005 1)))], [(50005, .row true .froz [.int .i64])]⟩ [2, 14, 8, 50000, 50001, 50002, 50003, 50004, 50005] [(false, 5, 0, 50005, .froz, [])]
     (.block 2
       (.loop 0 ⟨[(1, .one (.c (.v (.int .i64)))), (5, .one (.c (.full 50002 1))), (26, .one (.c (.v (.list [.int .i64, .int .i64])))), (27, .one (.c (.v (.int .i64)))), (28, .one (.c (.v (.int .i64))))], [(50002, .row true .froz [.int .i64])]⟩ [2, 14, 8, 50000, 50001, 50002, 50003, 50004, 50005] [(false, 5, 0, 50002, .froz, [])]
         (.seq
          (.reg false [
            ⟨(some 29), .bin .lss (.t 28) (.t 27), none⟩])
         (.seq
          (.cond (.t 29)
            .skip
            (.exit 2))
         (.seq
          (.join ⟨[(28, .one (.c (.v (.int .i64)))), (1, .one (.c (.v (.int .i64)))), (5, .one (.c (.full 50004 1))), (26, .one (.c (.v (.list [.int .i64, .int .i64])))), (27, .one (.c (.v (.int .i64))))], [(50004, .row true .froz [.int .i64])]⟩ [2, 14, 8, 50000, 50001, 50002, 50003, 50004, 50005] [(false, 5, 0, 50004, .froz, [])]
            (.block 3
              (.seq
               (.reg false [
                 ⟨(some 30), .mv (.t 28), none⟩,
                 ⟨(some 31), .idxA 2 (.t 26) (.t 28), none⟩,
                 ⟨(some 32), .load true 2 (.t 31), none⟩,
                 ⟨(some 8), .alloc [.v (.int .i64) ((0 : Int)), .v (.int .i64) ((0 : Int))], none⟩,
                 ⟨(some 7), .mv (.t 30), none⟩,
                 ⟨none, .store 2 (.t 8) (.t 32), none⟩])
              (.seq
               (.seq
                (.reg false [
                  ⟨(some 33), .mv (.t 1), none⟩,
                  ⟨(some 34), .mv (.t 7), none⟩,
                  ⟨(some 35), .bin .shr (.t 33) (.t 34), none⟩,
                  ⟨(some 36), .bin .and (.t 35) (.k (.one (.v (.int .i64) ((1 : Int))))), none⟩,
                  ⟨(some 37), .bin .eql (.t 36) (.k (.one (.v (.int .i64) ((0 : Int))))), none⟩])
               (.cond (.t 37)
                 (.exit 3)
                 .skip))
              (.seq
               (.reg true [
                 ⟨(some 38), .mv (.t 5), none⟩,
                 ⟨(some 39), .fieldA 0 (.t 8), none⟩,
                 ⟨(some 40), .load false 1 (.t 39), none⟩,
                 ⟨(some 41), .idxA 1 (.t 38) (.t 40), none⟩,
                 ⟨(some 42), .load false 1 (.t 41), none⟩,
                 ⟨(some 43), .mv (.t 5), none⟩,
                 ⟨(some 44), .fieldA 1 (.t 8), none⟩,
                 ⟨(some 45), .load false 1 (.t 44), none⟩,
                 ⟨(some 46), .idxA 1 (.t 43) (.t 45), none⟩,
                 ⟨(some 47), .load false 1 (.t 46), none⟩,
                 ⟨(some 48), .mm false (.t 42) (.t 47), none⟩,
                 ⟨(some 49), .mv (.t 5), none⟩,
                 ⟨(some 50), .fieldA 0 (.t 8), none⟩,
                 ⟨(some 51), .load false 1 (.t 50), none⟩,
                 ⟨(some 52), .idxA 1 (.t 49) (.t 51), none⟩,
                 ⟨(some 53), .load false 1 (.t 52), none⟩,
                 ⟨(some 54), .mv (.t 5), none⟩,
                 ⟨(some 55), .fieldA 1 (.t 8), none⟩,
                 ⟨(some 56), .load false 1 (.t 55), none⟩,
                 ⟨(some 57), .idxA 1 (.t 54) (.t 56), none⟩,
                 ⟨(some 58), .load false 1 (.t 57), none⟩,
                 ⟨(some 59), .mm true (.t 53) (.t 58), none⟩,
                 ⟨(some 9), .mv (.t 48), none⟩,
                 ⟨(some 10), .mv (.t 59), none⟩])
              (.seq
               (.reg false [
                 ⟨(some 60), .mv (.t 5), none⟩,
                 ⟨(some 61), .len (.t 60), none⟩,
                 ⟨(some 62), .mv (.k (.one (.v (.int .i64) ((0 : Int))))), none⟩])
              (.block 4
                (.loop 0 ⟨[(1, .one (.c (.v (.int .i64)))), (5, .one (.c (.full 50003 1))), (9, .one (.c (.v (.int .i64)))), (10, .one (.c (.v (.int .i64)))), (26, .one (.c (.v (.list [.int .i64, .int .i64])))), (27, .one (.c (.v (.int .i64)))), (28, .one (.c (.v (.int .i64)))), (61, .one (.c (.v (.int .i64)))), (62, .one (.c (.v (.int .i64))))], [(50003, .row true .froz [.int .i64])]⟩ [2, 14, 8, 50000, 50001, 50002, 50003, 50004, 50005] [(false, 5, 0, 50003, .froz, [])]
                  (.seq
                   (.reg false [
                     ⟨(some 63), .bin .lss (.t 62) (.t 61), none⟩])
                  (.seq
                   (.cond (.t 63)
                     .skip
                     (.exit 4))
                  (.seq
                   (.block 5
                     (.seq
                      (.reg false [
                        ⟨(some 64), .mv (.t 62), none⟩,
                        ⟨(some 11), .mv (.t 64), none⟩])
                     (.seq
                      (.reg false [
                        ⟨(some 65), .mv (.t 5), none⟩,
                        ⟨(some 66), .mv (.t 11), none⟩,
                        ⟨(some 67), .idxA 1 (.t 65) (.t 66), none⟩,
                        ⟨(some 68), .load false 1 (.t 67), none⟩,
                        ⟨(some 69), .mv (.t 10), none⟩,
                        ⟨(some 70), .bin .eql (.t 68) (.t 69), none⟩])
                     (.cond (.t 70)
                       (.reg false [
                         ⟨(some 71), .mv (.t 5), none⟩,
                         ⟨(some 72), .mv (.t 11), none⟩,
                         ⟨(some 73), .mv (.t 9), none⟩,
                         ⟨(some 74), .idxA 1 (.t 71) (.t 72), none⟩,
                         ⟨none, .store 1 (.t 74) (.t 73), none⟩])
                       .skip))))
                  (.reg false [
                    ⟨(some 75), .bin .add (.t 62) (.k (.one (.v (.int .i64) ((1 : Int))))), none⟩,
                    ⟨(some 62), .mv (.t 75), none⟩]))))))))))))
         (.reg false [
           ⟨(some 76), .bin .add (.t 28) (.k (.one (.v (.int .i64) ((1 : Int))))), none⟩,
           ⟨(some 28), .mv (.t 76), none⟩]))))))))
  (.seq
   (.reg false [
     ⟨(some 77), .mv (.t 5), none⟩,
     ⟨(some 4), .mv (.t 77), none⟩])
  .ret)))))
def ms_impl_componentsOf : List MRes := [.tmp 4]
theorem n_impl_componentsOf (NN : Nat) (x : DLL (Sig.tys ag_impl_componentsOf)) : runS NN [] sc_impl_componentsOf ms_impl_componentsOf ag_impl_componentsOf rs_impl_componentsOf x = G_impl_componentsOf NN x := by kernel_rfl
theorem k_impl_componentsOf : chkS Go.Proofs.Try.prog 61 sc_impl_componentsOf.er ms_impl_componentsOf 2 = true := by decide +kernel
theorem p_impl_componentsOf : PureSpec Go.Proofs.Try.prog 61 fn_impl_componentsOf.M ∧ chkFun Go.Proofs.Try.prog 61 = true :=
  pure_of_runS (T := []) (sc := sc_impl_componentsOf) (ms := ms_impl_componentsOf) (args := ag_impl_componentsOf) (res := rs_impl_componentsOf) (SOk.nil) follows_ok k_impl_componentsOf F_impl_componentsOf fun x y h => (n_impl_componentsOf FUEL x).trans (f_impl_componentsOf x y h)

def fn_impl_rawComponentCount : SFn := ⟨49, ag_impl_rawComponentCount, rs_impl_rawComponentCount, F_impl_rawComponentCount⟩
def sc_impl_rawComponentCount : SCode :=
  (.seq
   (.reg false [
     ⟨(some 2), .box 2 (.t 0), none⟩,
     ⟨(some 4), .mv (.k (.one (.v (.int .i64) ((0 : Int))))), none⟩])
  (.seq
   (.reg false [
     ⟨(some 5), .mv (.k (.one (.v (.int .i64) ((0 : Int))))), none⟩])
  (.seq
   (.seq
    (.reg false [
      ⟨(some 8), .load true 2 (.t 2), none⟩,
      ⟨(some 9), .mv (.t 1), none⟩,
      ⟨(some 10), .call .froz 61 [(.t 8), (.t 9)], none⟩,
      ⟨(some 11), .len (.t 10), none⟩,
      ⟨(some 12), .mv (.k (.one (.v (.int .i64) ((0 : Int))))), none⟩])
   (.join ⟨[(5, .one (.c (.v (.int .i64))))], []⟩ [2, 11000, 11001, 11002, 11003, 11004, 11005, 50000] []
     (.block 0
       (.loop 0 ⟨[(5, .one (.c (.v (.int .i64)))), (10, .one (.c (.full 50000 1))), (11, .one (.c (.v (.int .i64)))), (12, .one (.c (.v (.int .i64))))], [(50000, .row true .froz [.int .i64])]⟩ [2, 11000, 11001, 11002, 11003, 11004, 11005, 50000] [(false, 10, 0, 50000, .froz, [])]
         (.seq
          (.reg false [
            ⟨(some 13), .bin .lss (.t 12) (.t 11), none⟩])
         (.seq
          (.cond (.t 13)
            .skip
            (.exit 0))
         (.seq
          (.block 1
            (.seq
             (.reg false [
               ⟨(some 14), .mv (.t 12), none⟩,
               ⟨(some 15), .idxA 1 (.t 10) (.t 12), none⟩,
               ⟨(some 16), .load false 1 (.t 15), none⟩,
               ⟨(some 6), .mv (.t 14), none⟩,
               ⟨(some 7), .mv (.t 16), none⟩])
            (.seq
             (.reg false [
               ⟨(some 17), .mv (.t 6), none⟩,
               ⟨(some 18), .mv (.t 7), none⟩,
               ⟨(some 19), .bin .eql (.t 17) (.t 18), none⟩])
            (.cond (.t 19)
              (.reg false [
                ⟨(some 20), .mv (.t 5), none⟩,
                ⟨(some 21), .bin .add (.t 20) (.k (.one (.v (.int .i64) ((1 : Int))))), none⟩,
                ⟨(some 5), .mv (.t 21), none⟩])
              .skip))))
         (.reg false [
           ⟨(some 22), .bin .add (.t 12) (.k (.one (.v (.int .i64) ((1 : Int))))), none⟩,
           ⟨(some 12), .mv (.t 22), none⟩]))))))))
  (.seq
   (.reg false [
     ⟨(some 23), .mv (.t 5), none⟩,
     ⟨(some 4), .mv (.t 23), none⟩])
  .ret))))
def ms_impl_rawComponentCount : List MRes := [.tmp 4]
theorem n_impl_rawComponentCount (NN : Nat) (x : DLL (Sig.tys ag_impl_rawComponentCount)) : runS NN [fn_impl_componentsOf] sc_impl_rawComponentCount ms_impl_rawComponentCount ag_impl_rawComponentCount rs_impl_rawComponentCount x = G_impl_rawComponentCount NN x := by kernel_rfl
theorem k_impl_rawComponentCount : chkS Go.Proofs.Try.prog 49 sc_impl_rawComponentCount.er ms_impl_rawComponentCount 2 = true := by decide +kernel
theorem p_impl_rawComponentCount : PureSpec Go.Proofs.Try.prog 49 fn_impl_rawComponentCount.M ∧ chkFun Go.Proofs.Try.prog 49 = true :=
  pure_of_runS (T := [fn_impl_componentsOf]) (sc := sc_impl_rawComponentCount) (ms := ms_impl_rawComponentCount) (args := ag_impl_rawComponentCount) (res := rs_impl_rawComponentCount) (SOk.cons p_impl_componentsOf <| SOk.nil) follows_ok k_impl_rawComponentCount F_impl_rawComponentCount fun x y h => (n_impl_rawComponentCount FUEL x).trans (f_impl_rawComponentCount x y h)

def fn_impl_ComponentCount : SFn := ⟨26, ag_impl_ComponentCount, rs_impl_ComponentCount, F_impl_ComponentCount⟩
def sc_impl_ComponentCount : SCode :=
  (.seq
   (.reg false [
     ⟨(some 2), .box 2 (.t 0), none⟩,
     ⟨(some 4), .mv (.k (.one (.v (.int .i64) ((0 : Int))))), none⟩])
  (.seq
   (.seq
    (.reg false [
      ⟨(some 5), .load true 2 (.t 2), none⟩,
      ⟨(some 6), .call .froz 14 [(.t 5)], none⟩,
      ⟨(some 7), .un .not (.t 6), none⟩,
      ⟨(some 8), .mv (.t 7), none⟩,
      ⟨(some 9), .mv (.t 1), (some (8, false))⟩,
      ⟨(some 10), .bin .lss (.t 9) (.k (.one (.v (.int .i64) ((0 : Int))))), (some (8, false))⟩,
      ⟨(some 11), .pick (.t 8) (.k (.one (.v (.bool) (true)))) (.t 10), none⟩,
      ⟨(some 12), .mv (.t 11), none⟩,
      ⟨(some 13), .mv (.t 1), (some (12, false))⟩,
      ⟨(some 14), .fieldA 1 (.t 2), (some (12, false))⟩,
      ⟨(some 15), .load false 1 (.t 14), (some (12, false))⟩,
      ⟨(some 16), .len (.t 15), (some (12, false))⟩,
      ⟨(some 17), .bin .shl (.k (.one (.v (.int .i64) ((1 : Int))))) (.t 16), (some (12, false))⟩,
      ⟨(some 18), .bin .geq (.t 13) (.t 17), (some (12, false))⟩,
      ⟨(some 19), .pick (.t 12) (.k (.one (.v (.bool) (true)))) (.t 18), none⟩])
   (.cond (.t 19)
     (.seq
      (.reg false [
        ⟨(some 4), .mv (.k (.one (.v (.int .i64) (((-1) : Int))))), none⟩])
     .ret)
     .skip))
  (.seq
   (.reg false [
     ⟨(some 20), .load true 2 (.t 2), none⟩,
     ⟨(some 21), .mv (.t 1), none⟩,
     ⟨(some 22), .call .froz 49 [(.t 20), (.t 21)], none⟩,
     ⟨(some 4), .mv (.t 22), none⟩])
  .ret)))
def ms_impl_ComponentCount : List MRes := [.tmp 4]
theorem n_impl_ComponentCount (NN : Nat) (x : DLL (Sig.tys ag_impl_ComponentCount)) : runS NN [fn_impl_GraphOk, fn_impl_rawComponentCount] sc_impl_ComponentCount ms_impl_ComponentCount ag_impl_ComponentCount rs_impl_ComponentCount x = G_impl_ComponentCount NN x := by kernel_rfl
theorem k_impl_ComponentCount : chkS Go.Proofs.Try.prog 26 sc_impl_ComponentCount.er ms_impl_ComponentCount 2 = true := by decide +kernel
theorem p_impl_ComponentCount : PureSpec Go.Proofs.Try.prog 26 fn_impl_ComponentCount.M ∧ chkFun Go.Proofs.Try.prog 26 = true :=
  pure_of_runS (T := [fn_impl_GraphOk, fn_impl_rawComponentCount]) (sc := sc_impl_ComponentCount) (ms := ms_impl_ComponentCount) (args := ag_impl_ComponentCount) (res := rs_impl_ComponentCount) (SOk.cons p_impl_GraphOk <| SOk.cons p_impl_rawComponentCount <| SOk.nil) follows_ok k_impl_ComponentCount F_impl_ComponentCount fun x y h => (n_impl_ComponentCount FUEL x).trans (f_impl_ComponentCount x y h)

def fn_laws_FnExactComponentCount : SFn := ⟨8, ag_laws_FnExactComponentCount, rs_laws_FnExactComponentCount, F_laws_FnExactComponentCount⟩
def sc_laws_FnExactComponentCount : SCode :=
  (.seq
   (.reg false [
     ⟨(some 2), .box 2 (.t 0), none⟩,
     ⟨(some 4), .mv (.k (.one (.v (.bool) (false)))), none⟩])
  (.seq
   (.reg false [
     ⟨(some 5), .mv (.k (.one (.v (.int .i64) ((1048576 : Int))))), none⟩])
  (.seq
   (.reg false [
     ⟨(some 9), .load true 2 (.t 2), none⟩,
     ⟨(some 10), .mv (.t 5), none⟩,
     ⟨(some 11), .call .froz 11 [(.t 9), (.t 10)], none⟩,
     ⟨(some 5), .mv (.t 11), none⟩])
  (.seq
   (.seq
    (.reg false [
      ⟨(some 12), .mv (.t 5), none⟩,
      ⟨(some 13), .bin .lss (.t 12) (.k (.one (.v (.int .i64) ((0 : Int))))), none⟩])
   (.cond (.t 13)
     (.seq
      (.reg false [
        ⟨(some 4), .mv (.k (.one (.v (.bool) (true)))), none⟩])
     .ret)
     .skip))
  (.seq
   (.reg false [
     ⟨(some 14), .load true 2 (.t 2), none⟩,
     ⟨(some 15), .call .froz 13 [(.t 14)], none⟩,
     ⟨(some 16), .mv (.t 1), none⟩,
     ⟨(some 17), .call .froz 30 [(.t 15), (.t 16)], none⟩,
     ⟨(some 6), .mv (.t 17), none⟩])
  (.seq
   (.reg false [
     ⟨(some 18), .load true 2 (.t 2), none⟩,
     ⟨(some 19), .call .froz 13 [(.t 18)], none⟩,
     ⟨(some 7), .alloc [.v (.int .i64) ((0 : Int)), .nil [.int .i64, .int .i64]], none⟩,
     ⟨none, .store 2 (.t 7) (.t 19), none⟩])
  (.seq
   (.reg false [
     ⟨(some 20), .load true 2 (.t 7), none⟩,
     ⟨(some 21), .mv (.t 1), none⟩,
     ⟨(some 22), .call .froz 26 [(.t 20), (.t 21)], none⟩,
     ⟨(some 8), .mv (.t 22), none⟩])
  (.seq
   (.seq
    (.reg false [
      ⟨(some 23), .mv (.t 8), none⟩,
      ⟨(some 24), .mv (.t 6), none⟩,
      ⟨(some 25), .bin .neq (.t 23) (.t 24), none⟩])
   (.cond (.t 25)
     (.seq
      (.reg false [
        ⟨(some 4), .mv (.k (.one (.v (.bool) (false)))), none⟩])
     .ret)
     .skip))
  (.seq
   (.seq
    (.reg true [
      ⟨(some 26), .load true 2 (.t 7), none⟩,
      ⟨(some 27), .load true 2 (.t 2), none⟩,
      ⟨(some 28), .call .froz 13 [(.t 27)], none⟩,
      ⟨(some 29), .call .froz 15 [(.t 26), (.t 28)], none⟩,
      ⟨(some 30), .un .not (.t 29), none⟩])
   (.cond (.t 30)
     (.seq
      (.reg false [
        ⟨(some 4), .mv (.k (.one (.v (.bool) (false)))), none⟩])
     .ret)
     .skip))
  (.seq
   (.reg false [
     ⟨(some 4), .mv (.k (.one (.v (.bool) (true)))), none⟩])
  .ret))))))))))
def ms_laws_FnExactComponentCount : List MRes := [.tmp 4]
theorem n_laws_FnExactComponentCount (NN : Nat) (x : DLL (Sig.tys ag_laws_FnExactComponentCount)) : runS NN [fn_laws_szGraph, fn_laws_toGraph, fn_spec_ComponentCount, fn_impl_ComponentCount, fn_laws_eqGraph] sc_laws_FnExactComponentCount ms_laws_FnExactComponentCount ag_laws_FnExactComponentCount rs_laws_FnExactComponentCount x = G_laws_FnExactComponentCount NN x := by kernel_rfl
theorem k_laws_FnExactComponentCount : chkS Go.Proofs.Try.prog 8 sc_laws_FnExactComponentCount.er ms_laws_FnExactComponentCount 2 = true := by decide +kernel
theorem p_laws_FnExactComponentCount : PureSpec Go.Proofs.Try.prog 8 fn_laws_FnExactComponentCount.M ∧ chkFun Go.Proofs.Try.prog 8 = true :=
  pure_of_runS (T := [fn_laws_szGraph, fn_laws_toGraph, fn_spec_ComponentCount, fn_impl_ComponentCount, fn_laws_eqGraph]) (sc := sc_laws_FnExactComponentCount) (ms := ms_laws_FnExactComponentCount) (args := ag_laws_FnExactComponentCount) (res := rs_laws_FnExactComponentCount) (SOk.cons p_laws_szGraph <| SOk.cons p_laws_toGraph <| SOk.cons p_spec_ComponentCount <| SOk.cons p_impl_ComponentCount <| SOk.cons p_laws_eqGraph <| SOk.nil) follows_ok k_laws_FnExactComponentCount F_laws_FnExactComponentCount fun x y h => (n_laws_FnExactComponentCount FUEL x).trans (f_laws_FnExactComponentCount x y h)

end Go.Am
