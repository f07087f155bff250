/- A_SwapOperator: the code of the functions of FnExactSwapOperator. No condition. -/
import Derived.Test.YtfhgjmihpplnjaaLSwapOperator
import Derived.Test.YtfhgjmihpplnjaaBr2
import Derived.KernelRfl
import Derived.Test.YtfhgjmihpplnjaaRows
set_option linter.unusedVariables false
set_option maxRecDepth 100000
namespace Go.Am
theorem follows_ok : Go.Proofs.Try.prog.follows .mixedOrders = true := by decide +kernel
def fn_spec_l01In : SFn := ⟨78, ag_spec_l01In, mu_spec_l01In, rs_spec_l01In, F_spec_l01In⟩
def sc_spec_l01In : SCode :=
  (.seq
   (.reg false [
     ⟨(some 6), .mv (.k (.one (.v (.bool) (false)))), none⟩])
  (.seq
   (.reg false [
     ⟨(some 7), .mv (.t 0), none⟩,
     ⟨(some 8), .mv (.t 1), none⟩,
     ⟨(some 9), .bin .geq (.t 7) (.t 8), none⟩,
     ⟨(some 10), .mv (.t 9), none⟩,
     ⟨(some 11), .mv (.t 0), (some (10, true))⟩,
     ⟨(some 12), .mv (.t 2), (some (10, true))⟩,
     ⟨(some 13), .bin .leq (.t 11) (.t 12), (some (10, true))⟩,
     ⟨(some 14), .pick (.t 10) (.t 13) (.k (.one (.v (.bool) (false)))), none⟩,
     ⟨(some 6), .mv (.t 14), none⟩])
  .ret))
def ms_spec_l01In : List MRes := [.tmp 6]
theorem n_spec_l01In (NN : Nat) (x : DLL (Sig.tys ag_spec_l01In)) : runS NN [] sc_spec_l01In ms_spec_l01In ag_spec_l01In rs_spec_l01In x = G_spec_l01In NN x := by kernel_rfl
theorem k_spec_l01In : chkS Go.Proofs.Try.prog 78 sc_spec_l01In.er ms_spec_l01In 3 = true := by decide +kernel
theorem p_spec_l01In : PureSpec Go.Proofs.Try.prog 78 fn_spec_l01In.M ∧ chkFun Go.Proofs.Try.prog 78 = true :=
  pure_of_runS (T := []) (sc := sc_spec_l01In) (ms := ms_spec_l01In) (args := ag_spec_l01In) (res := rs_spec_l01In) (SOk.nil) follows_ok k_spec_l01In F_spec_l01In fun x y h => (n_spec_l01In FUEL x).trans (f_spec_l01In x y h)

def fn_spec_IsPrime : SFn := ⟨77, ag_spec_IsPrime, mu_spec_IsPrime, rs_spec_IsPrime, F_spec_IsPrime⟩
def sc_spec_IsPrime : SCode :=
  (.seq
   (.reg false [
     ⟨(some 2), .mv (.k (.one (.v (.bool) (false)))), none⟩])
  (.seq
   (.seq
    (.reg false [
      ⟨(some 3), .mv (.k (.one (.v (.int .i64) ((2 : Int))))), none⟩])
   (.join ⟨[(0, .one (.c (.v (.int .i64))))], []⟩ [21000, 21001, 21002, 21003, 21004, 21005] []
     (.block 0
       (.loop 0 ⟨[(0, .one (.c (.v (.int .i64)))), (3, .one (.c (.v (.int .i64))))], []⟩ [21000, 21001, 21002, 21003, 21004, 21005] []
         (.seq
          (.seq
           (.reg false [
             ⟨(some 4), .mv (.t 3), none⟩,
             ⟨(some 5), .mv (.t 3), none⟩,
             ⟨(some 6), .bin .mul (.t 4) (.t 5), none⟩,
             ⟨(some 7), .mv (.t 0), none⟩,
             ⟨(some 8), .bin .leq (.t 6) (.t 7), none⟩,
             ⟨(some 9), .mv (.t 8), none⟩,
             ⟨(some 10), .mv (.t 0), (some (9, true))⟩,
             ⟨(some 11), .bin .leq (.t 10) (.k (.one (.v (.int .i64) ((1000003 : Int))))), (some (9, true))⟩,
             ⟨(some 12), .pick (.t 9) (.t 11) (.k (.one (.v (.bool) (false)))), none⟩])
          (.cond (.t 12)
            .skip
            (.exit 0)))
         (.seq
          (.block 1
            (.seq
             (.reg false [
               ⟨(some 15), .mv (.t 0), none⟩,
               ⟨(some 16), .mv (.t 3), none⟩,
               ⟨(some 17), .bin .rem (.t 15) (.t 16), none⟩,
               ⟨(some 18), .bin .eql (.t 17) (.k (.one (.v (.int .i64) ((0 : Int))))), none⟩])
            (.cond (.t 18)
              (.seq
               (.reg false [
                 ⟨(some 2), .mv (.k (.one (.v (.bool) (false)))), none⟩])
              .ret)
              .skip)))
         (.reg false [
           ⟨(some 13), .mv (.t 3), none⟩,
           ⟨(some 14), .bin .add (.t 13) (.k (.one (.v (.int .i64) ((1 : Int))))), none⟩,
           ⟨(some 3), .mv (.t 14), none⟩])))))))
  (.seq
   (.reg false [
     ⟨(some 19), .mv (.t 0), none⟩,
     ⟨(some 20), .call .froz 78 [(.t 19), (.k (.one (.v (.int .i64) ((2 : Int))))), (.k (.one (.v (.int .i64) ((1000003 : Int)))))], none⟩,
     ⟨(some 2), .mv (.t 20), none⟩])
  .ret)))
def ms_spec_IsPrime : List MRes := [.tmp 2]
theorem n_spec_IsPrime (NN : Nat) (x : DLL (Sig.tys ag_spec_IsPrime)) : runS NN [fn_spec_l01In] sc_spec_IsPrime ms_spec_IsPrime ag_spec_IsPrime rs_spec_IsPrime x = G_spec_IsPrime NN x := by kernel_rfl
theorem k_spec_IsPrime : chkS Go.Proofs.Try.prog 77 sc_spec_IsPrime.er ms_spec_IsPrime 1 = true := by decide +kernel
theorem p_spec_IsPrime : PureSpec Go.Proofs.Try.prog 77 fn_spec_IsPrime.M ∧ chkFun Go.Proofs.Try.prog 77 = true :=
  pure_of_runS (T := [fn_spec_l01In]) (sc := sc_spec_IsPrime) (ms := ms_spec_IsPrime) (args := ag_spec_IsPrime) (res := rs_spec_IsPrime) (SOk.cons p_spec_l01In <| SOk.nil) follows_ok k_spec_IsPrime F_spec_IsPrime fun x y h => (n_spec_IsPrime FUEL x).trans (f_spec_IsPrime x y h)

def fn_spec_l31New : SFn := ⟨76, ag_spec_l31New, mu_spec_l31New, rs_spec_l31New, F_spec_l31New⟩
def sc_spec_l31New : SCode :=
  (.seq
   (.reg false [
     ⟨(some 4), .alloc [.v (.int .i64) ((0 : Int)), .v (.int .i64) ((0 : Int)), .nil [.int .i64]], none⟩])
  (.seq
   (.reg false [
     ⟨(some 5), .mv (.t 0), none⟩,
     ⟨(some 6), .mv (.t 1), none⟩,
     ⟨(some 7), .mv (.t 0), none⟩,
     ⟨(some 8), .mv (.t 1), none⟩,
     ⟨(some 9), .bin .mul (.t 7) (.t 8), none⟩,
     ⟨(some 10), .mkslice .froz [.int .i64] 8 (0 : Int) (.t 9) (.t 9), none⟩,
     ⟨(some 11), .build [.v (.int .i64) ((0 : Int)), .v (.int .i64) ((0 : Int)), .nil [.int .i64]] [(0, 1, (.t 5)), (1, 1, (.t 6)), (2, 1, (.t 10))], none⟩,
     ⟨none, .store 3 (.t 4) (.t 11), none⟩])
  .ret))
def ms_spec_l31New : List MRes := [.cell 4 3 true]
theorem n_spec_l31New (NN : Nat) (x : DLL (Sig.tys ag_spec_l31New)) : runS NN [] sc_spec_l31New ms_spec_l31New ag_spec_l31New rs_spec_l31New x = G_spec_l31New NN x := by kernel_rfl
theorem k_spec_l31New : chkS Go.Proofs.Try.prog 76 sc_spec_l31New.er ms_spec_l31New 2 = true := by decide +kernel
theorem p_spec_l31New : PureSpec Go.Proofs.Try.prog 76 fn_spec_l31New.M ∧ chkFun Go.Proofs.Try.prog 76 = true :=
  pure_of_runS (T := []) (sc := sc_spec_l31New) (ms := ms_spec_l31New) (args := ag_spec_l31New) (res := rs_spec_l31New) (SOk.nil) follows_ok k_spec_l31New F_spec_l31New fun x y h => (n_spec_l31New FUEL x).trans (f_spec_l31New x y h)

def fn_spec_SwapOperator : SFn := ⟨45, ag_spec_SwapOperator, mu_spec_SwapOperator, rs_spec_SwapOperator, F_spec_SwapOperator⟩
def sc_spec_SwapOperator : SCode :=
  (.seq
   (.reg false [
     ⟨(some 6), .alloc [.v (.int .i64) ((0 : Int)), .v (.int .i64) ((0 : Int)), .nil [.int .i64]], none⟩,
     ⟨(some 7), .mv (.k (.one (.v (.bool) (false)))), none⟩])
  (.seq
   (.seq
    (.reg false [
      ⟨(some 11), .mv (.t 0), none⟩,
      ⟨(some 12), .call .froz 77 [(.t 11)], none⟩,
      ⟨(some 13), .un .not (.t 12), none⟩,
      ⟨(some 14), .mv (.t 13), none⟩,
      ⟨(some 15), .mv (.t 1), (some (14, false))⟩,
      ⟨(some 16), .call .froz 78 [(.t 15), (.k (.one (.v (.int .i64) ((1 : Int))))), (.k (.one (.v (.int .i64) ((8 : Int)))))], (some (14, false))⟩,
      ⟨(some 17), .un .not (.t 16), (some (14, false))⟩,
      ⟨(some 18), .pick (.t 14) (.k (.one (.v (.bool) (true)))) (.t 17), none⟩,
      ⟨(some 19), .mv (.t 18), none⟩,
      ⟨(some 20), .mv (.t 2), (some (19, false))⟩,
      ⟨(some 21), .call .froz 78 [(.t 20), (.k (.one (.v (.int .i64) ((1 : Int))))), (.k (.one (.v (.int .i64) ((8 : Int)))))], (some (19, false))⟩,
      ⟨(some 22), .un .not (.t 21), (some (19, false))⟩,
      ⟨(some 23), .pick (.t 19) (.k (.one (.v (.bool) (true)))) (.t 22), none⟩])
   (.cond (.t 23)
     (.seq
      (.reg false [
        ⟨(some 24), .build [.v (.int .i64) ((0 : Int)), .v (.int .i64) ((0 : Int)), .nil [.int .i64]] [], none⟩,
        ⟨none, .store 3 (.t 6) (.t 24), none⟩,
        ⟨(some 7), .mv (.k (.one (.v (.bool) (false)))), none⟩])
     .ret)
     .skip))
  (.seq
   (.reg false [
     ⟨(some 25), .mv (.t 1), none⟩,
     ⟨(some 26), .mv (.t 2), none⟩,
     ⟨(some 27), .bin .mul (.t 25) (.t 26), none⟩,
     ⟨(some 28), .mv (.t 1), none⟩,
     ⟨(some 29), .mv (.t 2), none⟩,
     ⟨(some 30), .bin .mul (.t 28) (.t 29), none⟩,
     ⟨(some 31), .call .froz 76 [(.t 27), (.t 30)], none⟩,
     ⟨(some 8), .alloc [.v (.int .i64) ((0 : Int)), .v (.int .i64) ((0 : Int)), .nil [.int .i64]], none⟩,
     ⟨none, .store 3 (.t 8) (.t 31), none⟩])
  (.seq
   (.seq
    (.reg false [
      ⟨(some 9), .mv (.k (.one (.v (.int .i64) ((0 : Int))))), none⟩])
   (.join ⟨[(8, .one (.c (.ptr0 8 0))), (6, .one (.c (.ptr0 6 0)))], [(6, .box [.c (.v (.int .i64)), .c (.v (.int .i64)), .c (.full 50006 1)]), (8, .box [.c (.v (.int .i64)), .c (.v (.int .i64)), .c (.full 50007 1)]), (50006, .row true .froz [.int .i64]), (50007, .row true .froz [.int .i64])]⟩ [6, 13000, 13001, 13002, 13003, 13004, 13005, 17000, 17001, 17002, 17003, 17004, 17005, 22000, 22001, 22002, 22003, 22004, 22005, 32000, 32001, 32002, 32003, 32004, 32005, 8, 50000, 50001, 50002, 50003, 50004, 50005, 50006, 50007] [(true, 6, 2, 50006, .froz, []), (true, 8, 2, 50007, .froz, [])]
     (.block 0
       (.loop 0 ⟨[(1, .one (.c (.v (.int .i64)))), (2, .one (.c (.v (.int .i64)))), (6, .one (.c (.ptr0 6 0))), (8, .one (.c (.ptr0 8 0))), (9, .one (.c (.v (.int .i64))))], [(6, .box [.c (.v (.int .i64)), .c (.v (.int .i64)), .c (.full 50000 1)]), (8, .box [.c (.v (.int .i64)), .c (.v (.int .i64)), .c (.full 50001 1)]), (50000, .row true .froz [.int .i64]), (50001, .row true .froz [.int .i64])]⟩ [6, 13000, 13001, 13002, 13003, 13004, 13005, 17000, 17001, 17002, 17003, 17004, 17005, 22000, 22001, 22002, 22003, 22004, 22005, 32000, 32001, 32002, 32003, 32004, 32005, 8, 50000, 50001, 50002, 50003, 50004, 50005, 50006, 50007] [(true, 6, 2, 50000, .froz, []), (true, 8, 2, 50001, .froz, [])]
         (.seq
          (.seq
           (.reg false [
             ⟨(some 32), .mv (.t 9), none⟩,
             ⟨(some 33), .mv (.t 1), none⟩,
             ⟨(some 34), .bin .lss (.t 32) (.t 33), none⟩])
          (.cond (.t 34)
            .skip
            (.exit 0)))
         (.seq
          (.join ⟨[(9, .one (.c (.v (.int .i64)))), (1, .one (.c (.v (.int .i64)))), (2, .one (.c (.v (.int .i64)))), (6, .one (.c (.ptr0 6 0))), (8, .one (.c (.ptr0 8 0)))], [(6, .box [.c (.v (.int .i64)), .c (.v (.int .i64)), .c (.full 50004 1)]), (8, .box [.c (.v (.int .i64)), .c (.v (.int .i64)), .c (.full 50005 1)]), (50004, .row true .froz [.int .i64]), (50005, .row true .froz [.int .i64])]⟩ [6, 13000, 13001, 13002, 13003, 13004, 13005, 17000, 17001, 17002, 17003, 17004, 17005, 22000, 22001, 22002, 22003, 22004, 22005, 32000, 32001, 32002, 32003, 32004, 32005, 8, 50000, 50001, 50002, 50003, 50004, 50005, 50006, 50007] [(true, 6, 2, 50004, .froz, []), (true, 8, 2, 50005, .froz, [])]
            (.block 1
              (.seq
               (.reg false [
                 ⟨(some 10), .mv (.k (.one (.v (.int .i64) ((0 : Int))))), none⟩])
              (.block 2
                (.loop 0 ⟨[(1, .one (.c (.v (.int .i64)))), (2, .one (.c (.v (.int .i64)))), (6, .one (.c (.ptr0 6 0))), (8, .one (.c (.ptr0 8 0))), (9, .one (.c (.v (.int .i64)))), (10, .one (.c (.v (.int .i64))))], [(6, .box [.c (.v (.int .i64)), .c (.v (.int .i64)), .c (.full 50002 1)]), (8, .box [.c (.v (.int .i64)), .c (.v (.int .i64)), .c (.full 50003 1)]), (50002, .row true .froz [.int .i64]), (50003, .row true .froz [.int .i64])]⟩ [6, 13000, 13001, 13002, 13003, 13004, 13005, 17000, 17001, 17002, 17003, 17004, 17005, 22000, 22001, 22002, 22003, 22004, 22005, 32000, 32001, 32002, 32003, 32004, 32005, 8, 50000, 50001, 50002, 50003, 50004, 50005, 50006, 50007] [(true, 6, 2, 50002, .froz, []), (true, 8, 2, 50003, .froz, [])]
                  (.seq
                   (.seq
                    (.reg false [
                      ⟨(some 37), .mv (.t 10), none⟩,
                      ⟨(some 38), .mv (.t 2), none⟩,
                      ⟨(some 39), .bin .lss (.t 37) (.t 38), none⟩])
                   (.cond (.t 39)
                     .skip
                     (.exit 2)))
                  (.seq
                   (.block 3
                     (.reg false [
                       ⟨(some 42), .fieldA 2 (.t 8), none⟩,
                       ⟨(some 43), .load false 1 (.t 42), none⟩,
                       ⟨(some 44), .mv (.t 10), none⟩,
                       ⟨(some 45), .mv (.t 1), none⟩,
                       ⟨(some 46), .bin .mul (.t 44) (.t 45), none⟩,
                       ⟨(some 47), .mv (.t 9), none⟩,
                       ⟨(some 48), .bin .add (.t 46) (.t 47), none⟩,
                       ⟨(some 49), .mv (.t 1), none⟩,
                       ⟨(some 50), .bin .mul (.t 48) (.t 49), none⟩,
                       ⟨(some 51), .mv (.t 2), none⟩,
                       ⟨(some 52), .bin .mul (.t 50) (.t 51), none⟩,
                       ⟨(some 53), .mv (.t 9), none⟩,
                       ⟨(some 54), .mv (.t 2), none⟩,
                       ⟨(some 55), .bin .mul (.t 53) (.t 54), none⟩,
                       ⟨(some 56), .bin .add (.t 52) (.t 55), none⟩,
                       ⟨(some 57), .mv (.t 10), none⟩,
                       ⟨(some 58), .bin .add (.t 56) (.t 57), none⟩,
                       ⟨(some 59), .idxA 1 (.t 43) (.t 58), none⟩,
                       ⟨none, .store 1 (.t 59) (.k (.one (.v (.int .i64) ((1 : Int))))), none⟩]))
                  (.reg false [
                    ⟨(some 40), .mv (.t 10), none⟩,
                    ⟨(some 41), .bin .add (.t 40) (.k (.one (.v (.int .i64) ((1 : Int))))), none⟩,
                    ⟨(some 10), .mv (.t 41), none⟩]))))))))
         (.reg false [
           ⟨(some 35), .mv (.t 9), none⟩,
           ⟨(some 36), .bin .add (.t 35) (.k (.one (.v (.int .i64) ((1 : Int))))), none⟩,
           ⟨(some 9), .mv (.t 36), none⟩])))))))
  (.seq
   (.reg false [
     ⟨(some 60), .load true 3 (.t 8), none⟩,
     ⟨none, .store 3 (.t 6) (.t 60), none⟩,
     ⟨(some 7), .mv (.k (.one (.v (.bool) (true)))), none⟩])
  .ret)))))
def ms_spec_SwapOperator : List MRes := [.cell 6 3 true, .tmp 7]
theorem n_spec_SwapOperator (NN : Nat) (x : DLL (Sig.tys ag_spec_SwapOperator)) : runS NN [fn_spec_IsPrime, fn_spec_l01In, fn_spec_l31New] sc_spec_SwapOperator ms_spec_SwapOperator ag_spec_SwapOperator rs_spec_SwapOperator x = G_spec_SwapOperator NN x := by kernel_rfl
theorem k_spec_SwapOperator : chkS Go.Proofs.Try.prog 45 sc_spec_SwapOperator.er ms_spec_SwapOperator 3 = true := by decide +kernel
theorem p_spec_SwapOperator : PureSpec Go.Proofs.Try.prog 45 fn_spec_SwapOperator.M ∧ chkFun Go.Proofs.Try.prog 45 = true :=
  pure_of_runS (T := [fn_spec_IsPrime, fn_spec_l01In, fn_spec_l31New]) (sc := sc_spec_SwapOperator) (ms := ms_spec_SwapOperator) (args := ag_spec_SwapOperator) (res := rs_spec_SwapOperator) (SOk.cons p_spec_IsPrime <| SOk.cons p_spec_l01In <| SOk.cons p_spec_l31New <| SOk.nil) follows_ok k_spec_SwapOperator F_spec_SwapOperator fun x y h => (n_spec_SwapOperator FUEL x).trans (f_spec_SwapOperator x y h)

def fn_impl_IsPrime : SFn := ⟨68, ag_impl_IsPrime, mu_impl_IsPrime, rs_impl_IsPrime, F_impl_IsPrime⟩
def sc_impl_IsPrime : SCode :=
  (.seq
   (.reg false [
     ⟨(some 2), .mv (.k (.one (.v (.bool) (false)))), none⟩])
  (.seq
   (.seq
    (.reg false [
      ⟨(some 4), .mv (.t 0), none⟩,
      ⟨(some 5), .bin .lss (.t 4) (.k (.one (.v (.int .i64) ((2 : Int))))), none⟩,
      ⟨(some 6), .mv (.t 5), none⟩,
      ⟨(some 7), .mv (.t 0), (some (6, false))⟩,
      ⟨(some 8), .bin .gtr (.t 7) (.k (.one (.v (.int .i64) ((1000003 : Int))))), (some (6, false))⟩,
      ⟨(some 9), .pick (.t 6) (.k (.one (.v (.bool) (true)))) (.t 8), none⟩])
   (.cond (.t 9)
     (.seq
      (.reg false [
        ⟨(some 2), .mv (.k (.one (.v (.bool) (false)))), none⟩])
     .ret)
     .skip))
  (.seq
   (.seq
    (.reg false [
      ⟨(some 3), .mv (.k (.one (.v (.int .i64) ((2 : Int))))), none⟩])
   (.join ⟨[], []⟩ [] []
     (.block 0
       (.loop 0 ⟨[(0, .one (.c (.v (.int .i64)))), (3, .one (.c (.v (.int .i64))))], []⟩ [] []
         (.seq
          (.seq
           (.reg false [
             ⟨(some 10), .mv (.t 3), none⟩,
             ⟨(some 11), .mv (.t 3), none⟩,
             ⟨(some 12), .bin .mul (.t 10) (.t 11), none⟩,
             ⟨(some 13), .mv (.t 0), none⟩,
             ⟨(some 14), .bin .leq (.t 12) (.t 13), none⟩])
          (.cond (.t 14)
            .skip
            (.exit 0)))
         (.seq
          (.block 1
            (.seq
             (.reg false [
               ⟨(some 17), .mv (.t 0), none⟩,
               ⟨(some 18), .mv (.t 3), none⟩,
               ⟨(some 19), .bin .rem (.t 17) (.t 18), none⟩,
               ⟨(some 20), .bin .eql (.t 19) (.k (.one (.v (.int .i64) ((0 : Int))))), none⟩])
            (.cond (.t 20)
              (.seq
               (.reg false [
                 ⟨(some 2), .mv (.k (.one (.v (.bool) (false)))), none⟩])
              .ret)
              .skip)))
         (.reg false [
           ⟨(some 15), .mv (.t 3), none⟩,
           ⟨(some 16), .bin .add (.t 15) (.k (.one (.v (.int .i64) ((1 : Int))))), none⟩,
           ⟨(some 3), .mv (.t 16), none⟩])))))))
  (.seq
   (.reg false [
     ⟨(some 2), .mv (.k (.one (.v (.bool) (true)))), none⟩])
  .ret))))
def ms_impl_IsPrime : List MRes := [.tmp 2]
theorem n_impl_IsPrime (NN : Nat) (x : DLL (Sig.tys ag_impl_IsPrime)) : runS NN [] sc_impl_IsPrime ms_impl_IsPrime ag_impl_IsPrime rs_impl_IsPrime x = G_impl_IsPrime NN x := by kernel_rfl
theorem k_impl_IsPrime : chkS Go.Proofs.Try.prog 68 sc_impl_IsPrime.er ms_impl_IsPrime 1 = true := by decide +kernel
theorem p_impl_IsPrime : PureSpec Go.Proofs.Try.prog 68 fn_impl_IsPrime.M ∧ chkFun Go.Proofs.Try.prog 68 = true :=
  pure_of_runS (T := []) (sc := sc_impl_IsPrime) (ms := ms_impl_IsPrime) (args := ag_impl_IsPrime) (res := rs_impl_IsPrime) (SOk.nil) follows_ok k_impl_IsPrime F_impl_IsPrime fun x y h => (n_impl_IsPrime FUEL x).trans (f_impl_IsPrime x y h)

def fn_impl_emptyMatrix : SFn := ⟨73, ag_impl_emptyMatrix, mu_impl_emptyMatrix, rs_impl_emptyMatrix, F_impl_emptyMatrix⟩
def sc_impl_emptyMatrix : SCode :=
  (.seq
   (.reg false [
     ⟨(some 4), .alloc [.v (.int .i64) ((0 : Int)), .v (.int .i64) ((0 : Int)), .nil [.int .i64]], none⟩])
  (.seq
   (.reg false [
     ⟨(some 5), .mv (.t 0), none⟩,
     ⟨(some 6), .mv (.t 1), none⟩,
     ⟨(some 7), .mv (.t 0), none⟩,
     ⟨(some 8), .mv (.t 1), none⟩,
     ⟨(some 9), .bin .mul (.t 7) (.t 8), none⟩,
     ⟨(some 10), .mkslice .froz [.int .i64] 8 (0 : Int) (.t 9) (.t 9), none⟩,
     ⟨(some 11), .build [.v (.int .i64) ((0 : Int)), .v (.int .i64) ((0 : Int)), .nil [.int .i64]] [(0, 1, (.t 5)), (1, 1, (.t 6)), (2, 1, (.t 10))], none⟩,
     ⟨none, .store 3 (.t 4) (.t 11), none⟩])
  .ret))
def ms_impl_emptyMatrix : List MRes := [.cell 4 3 true]
theorem n_impl_emptyMatrix (NN : Nat) (x : DLL (Sig.tys ag_impl_emptyMatrix)) : runS NN [] sc_impl_emptyMatrix ms_impl_emptyMatrix ag_impl_emptyMatrix rs_impl_emptyMatrix x = G_impl_emptyMatrix NN x := by kernel_rfl
theorem k_impl_emptyMatrix : chkS Go.Proofs.Try.prog 73 sc_impl_emptyMatrix.er ms_impl_emptyMatrix 2 = true := by decide +kernel
theorem p_impl_emptyMatrix : PureSpec Go.Proofs.Try.prog 73 fn_impl_emptyMatrix.M ∧ chkFun Go.Proofs.Try.prog 73 = true :=
  pure_of_runS (T := []) (sc := sc_impl_emptyMatrix) (ms := ms_impl_emptyMatrix) (args := ag_impl_emptyMatrix) (res := rs_impl_emptyMatrix) (SOk.nil) follows_ok k_impl_emptyMatrix F_impl_emptyMatrix fun x y h => (n_impl_emptyMatrix FUEL x).trans (f_impl_emptyMatrix x y h)

def fn_impl_Matrix_set : SFn := ⟨67, ag_impl_Matrix_set, mu_impl_Matrix_set, rs_impl_Matrix_set, F_impl_Matrix_set⟩
def sc_impl_Matrix_set : SCode :=
  (.seq
   (.reg false [
     ⟨(some 4), .box 3 (.t 0), none⟩])
  (.reg false [
    ⟨(some 8), .fieldA 2 (.t 4), none⟩,
    ⟨(some 9), .load false 1 (.t 8), none⟩,
    ⟨(some 10), .mv (.t 1), none⟩,
    ⟨(some 11), .fieldA 1 (.t 4), none⟩,
    ⟨(some 12), .load false 1 (.t 11), none⟩,
    ⟨(some 13), .bin .mul (.t 10) (.t 12), none⟩,
    ⟨(some 14), .mv (.t 2), none⟩,
    ⟨(some 15), .bin .add (.t 13) (.t 14), none⟩,
    ⟨(some 16), .mv (.t 3), none⟩,
    ⟨(some 17), .idxA 1 (.t 9) (.t 15), none⟩,
    ⟨none, .store 1 (.t 17) (.t 16), none⟩]))
def ms_impl_Matrix_set : List MRes := []
theorem n_impl_Matrix_set (NN : Nat) (x : DLL (Sig.tys ag_impl_Matrix_set)) : runMS NN [] sc_impl_Matrix_set ms_impl_Matrix_set ag_impl_Matrix_set mu_impl_Matrix_set rs_impl_Matrix_set x = G_impl_Matrix_set NN x := by kernel_rfl
theorem k_impl_Matrix_set : chkS Go.Proofs.Try.prog 67 sc_impl_Matrix_set.er ms_impl_Matrix_set 4 = true := by decide +kernel
theorem p_impl_Matrix_set : MutSpec Go.Proofs.Try.prog 67 mu_impl_Matrix_set fn_impl_Matrix_set.MM ∧ chkFun Go.Proofs.Try.prog 67 = true :=
  mut_of_runMS (T := []) (sc := sc_impl_Matrix_set) (ms := ms_impl_Matrix_set) (args := ag_impl_Matrix_set) (mu := mu_impl_Matrix_set) (res := rs_impl_Matrix_set) (SOk.nil) follows_ok k_impl_Matrix_set F_impl_Matrix_set fun x y h => (n_impl_Matrix_set FUEL x).trans (f_impl_Matrix_set x y h)

def fn_impl_SwapOperator : SFn := ⟨46, ag_impl_SwapOperator, mu_impl_SwapOperator, rs_impl_SwapOperator, F_impl_SwapOperator⟩
def sc_impl_SwapOperator : SCode :=
  (.seq
   (.reg false [
     ⟨(some 6), .alloc [.v (.int .i64) ((0 : Int)), .v (.int .i64) ((0 : Int)), .nil [.int .i64]], none⟩,
     ⟨(some 7), .mv (.k (.one (.v (.bool) (false)))), none⟩])
  (.seq
   (.seq
    (.reg false [
      ⟨(some 11), .mv (.t 0), none⟩,
      ⟨(some 12), .call .froz 68 [(.t 11)], none⟩,
      ⟨(some 13), .un .not (.t 12), none⟩,
      ⟨(some 14), .mv (.t 13), none⟩,
      ⟨(some 15), .mv (.t 1), (some (14, false))⟩,
      ⟨(some 16), .bin .lss (.t 15) (.k (.one (.v (.int .i64) ((1 : Int))))), (some (14, false))⟩,
      ⟨(some 17), .pick (.t 14) (.k (.one (.v (.bool) (true)))) (.t 16), none⟩,
      ⟨(some 18), .mv (.t 17), none⟩,
      ⟨(some 19), .mv (.t 1), (some (18, false))⟩,
      ⟨(some 20), .bin .gtr (.t 19) (.k (.one (.v (.int .i64) ((8 : Int))))), (some (18, false))⟩,
      ⟨(some 21), .pick (.t 18) (.k (.one (.v (.bool) (true)))) (.t 20), none⟩,
      ⟨(some 22), .mv (.t 21), none⟩,
      ⟨(some 23), .mv (.t 2), (some (22, false))⟩,
      ⟨(some 24), .bin .lss (.t 23) (.k (.one (.v (.int .i64) ((1 : Int))))), (some (22, false))⟩,
      ⟨(some 25), .pick (.t 22) (.k (.one (.v (.bool) (true)))) (.t 24), none⟩,
      ⟨(some 26), .mv (.t 25), none⟩,
      ⟨(some 27), .mv (.t 2), (some (26, false))⟩,
      ⟨(some 28), .bin .gtr (.t 27) (.k (.one (.v (.int .i64) ((8 : Int))))), (some (26, false))⟩,
      ⟨(some 29), .pick (.t 26) (.k (.one (.v (.bool) (true)))) (.t 28), none⟩,
      ⟨(some 30), .mv (.t 29), none⟩,
      ⟨(some 31), .mv (.t 1), (some (30, false))⟩,
      ⟨(some 32), .mv (.t 2), (some (30, false))⟩,
      ⟨(some 33), .bin .mul (.t 31) (.t 32), (some (30, false))⟩,
      ⟨(some 34), .bin .gtr (.t 33) (.k (.one (.v (.int .i64) ((64 : Int))))), (some (30, false))⟩,
      ⟨(some 35), .pick (.t 30) (.k (.one (.v (.bool) (true)))) (.t 34), none⟩])
   (.cond (.t 35)
     (.seq
      (.reg false [
        ⟨(some 36), .build [.v (.int .i64) ((0 : Int)), .v (.int .i64) ((0 : Int)), .nil [.int .i64]] [], none⟩,
        ⟨none, .store 3 (.t 6) (.t 36), none⟩,
        ⟨(some 7), .mv (.k (.one (.v (.bool) (false)))), none⟩])
     .ret)
     .skip))
  (.seq
   (.reg false [
     ⟨(some 37), .mv (.t 1), none⟩,
     ⟨(some 38), .mv (.t 2), none⟩,
     ⟨(some 39), .bin .mul (.t 37) (.t 38), none⟩,
     ⟨(some 40), .mv (.t 1), none⟩,
     ⟨(some 41), .mv (.t 2), none⟩,
     ⟨(some 42), .bin .mul (.t 40) (.t 41), none⟩,
     ⟨(some 43), .call .froz 73 [(.t 39), (.t 42)], none⟩,
     ⟨(some 8), .alloc [.v (.int .i64) ((0 : Int)), .v (.int .i64) ((0 : Int)), .nil [.int .i64]], none⟩,
     ⟨none, .store 3 (.t 8) (.t 43), none⟩])
  (.seq
   (.seq
    (.reg false [
      ⟨(some 9), .mv (.k (.one (.v (.int .i64) ((0 : Int))))), none⟩])
   (.join ⟨[(8, .one (.c (.ptr0 8 0))), (6, .one (.c (.ptr0 6 0)))], [(6, .box [.c (.v (.int .i64)), .c (.v (.int .i64)), .c (.full 50006 1)]), (8, .box [.c (.v (.int .i64)), .c (.v (.int .i64)), .c (.full 50007 1)]), (50006, .row true .froz [.int .i64]), (50007, .row true .froz [.int .i64])]⟩ [6, 13000, 13001, 13002, 13003, 13004, 13005, 44000, 44001, 44002, 44003, 44004, 44005, 8, 66000, 66001, 66002, 66003, 66004, 66005, 50000, 50001, 50002, 50003, 50004, 50005, 50006, 50007] [(true, 6, 2, 50006, .froz, []), (true, 8, 2, 50007, .froz, [])]
     (.block 0
       (.loop 0 ⟨[(1, .one (.c (.v (.int .i64)))), (2, .one (.c (.v (.int .i64)))), (6, .one (.c (.ptr0 6 0))), (8, .one (.c (.ptr0 8 0))), (9, .one (.c (.v (.int .i64))))], [(6, .box [.c (.v (.int .i64)), .c (.v (.int .i64)), .c (.full 50000 1)]), (8, .box [.c (.v (.int .i64)), .c (.v (.int .i64)), .c (.full 50001 1)]), (50000, .row true .froz [.int .i64]), (50001, .row true .froz [.int .i64])]⟩ [6, 13000, 13001, 13002, 13003, 13004, 13005, 44000, 44001, 44002, 44003, 44004, 44005, 8, 66000, 66001, 66002, 66003, 66004, 66005, 50000, 50001, 50002, 50003, 50004, 50005, 50006, 50007] [(true, 6, 2, 50000, .froz, []), (true, 8, 2, 50001, .froz, [])]
         (.seq
          (.seq
           (.reg false [
             ⟨(some 44), .mv (.t 9), none⟩,
             ⟨(some 45), .mv (.t 1), none⟩,
             ⟨(some 46), .bin .lss (.t 44) (.t 45), none⟩])
          (.cond (.t 46)
            .skip
            (.exit 0)))
         (.seq
          (.join ⟨[(9, .one (.c (.v (.int .i64)))), (1, .one (.c (.v (.int .i64)))), (2, .one (.c (.v (.int .i64)))), (6, .one (.c (.ptr0 6 0))), (8, .one (.c (.ptr0 8 0)))], [(6, .box [.c (.v (.int .i64)), .c (.v (.int .i64)), .c (.full 50004 1)]), (8, .box [.c (.v (.int .i64)), .c (.v (.int .i64)), .c (.full 50005 1)]), (50004, .row true .froz [.int .i64]), (50005, .row true .froz [.int .i64])]⟩ [6, 13000, 13001, 13002, 13003, 13004, 13005, 44000, 44001, 44002, 44003, 44004, 44005, 8, 66000, 66001, 66002, 66003, 66004, 66005, 50000, 50001, 50002, 50003, 50004, 50005, 50006, 50007] [(true, 6, 2, 50004, .froz, []), (true, 8, 2, 50005, .froz, [])]
            (.block 1
              (.seq
               (.reg false [
                 ⟨(some 10), .mv (.k (.one (.v (.int .i64) ((0 : Int))))), none⟩])
              (.block 2
                (.loop 0 ⟨[(1, .one (.c (.v (.int .i64)))), (2, .one (.c (.v (.int .i64)))), (6, .one (.c (.ptr0 6 0))), (8, .one (.c (.ptr0 8 0))), (9, .one (.c (.v (.int .i64)))), (10, .one (.c (.v (.int .i64))))], [(6, .box [.c (.v (.int .i64)), .c (.v (.int .i64)), .c (.full 50002 1)]), (8, .box [.c (.v (.int .i64)), .c (.v (.int .i64)), .c (.full 50003 1)]), (50002, .row true .froz [.int .i64]), (50003, .row true .froz [.int .i64])]⟩ [6, 13000, 13001, 13002, 13003, 13004, 13005, 44000, 44001, 44002, 44003, 44004, 44005, 8, 66000, 66001, 66002, 66003, 66004, 66005, 50000, 50001, 50002, 50003, 50004, 50005, 50006, 50007] [(true, 6, 2, 50002, .froz, []), (true, 8, 2, 50003, .froz, [])]
                  (.seq
                   (.seq
                    (.reg false [
                      ⟨(some 49), .mv (.t 10), none⟩,
                      ⟨(some 50), .mv (.t 2), none⟩,
                      ⟨(some 51), .bin .lss (.t 49) (.t 50), none⟩])
                   (.cond (.t 51)
                     .skip
                     (.exit 2)))
                  (.seq
                   (.block 3
                     (.reg false [
                       ⟨(some 54), .load true 3 (.t 8), none⟩,
                       ⟨(some 55), .mv (.t 10), none⟩,
                       ⟨(some 56), .mv (.t 1), none⟩,
                       ⟨(some 57), .bin .mul (.t 55) (.t 56), none⟩,
                       ⟨(some 58), .mv (.t 9), none⟩,
                       ⟨(some 59), .bin .add (.t 57) (.t 58), none⟩,
                       ⟨(some 60), .mv (.t 9), none⟩,
                       ⟨(some 61), .mv (.t 2), none⟩,
                       ⟨(some 62), .bin .mul (.t 60) (.t 61), none⟩,
                       ⟨(some 63), .mv (.t 10), none⟩,
                       ⟨(some 64), .bin .add (.t 62) (.t 63), none⟩,
                       ⟨(some 65), .callm .froz 67 [(.t 54), (.t 59), (.t 64), (.k (.one (.v (.int .i64) ((1 : Int)))))], none⟩]))
                  (.reg false [
                    ⟨(some 52), .mv (.t 10), none⟩,
                    ⟨(some 53), .bin .add (.t 52) (.k (.one (.v (.int .i64) ((1 : Int))))), none⟩,
                    ⟨(some 10), .mv (.t 53), none⟩]))))))))
         (.reg false [
           ⟨(some 47), .mv (.t 9), none⟩,
           ⟨(some 48), .bin .add (.t 47) (.k (.one (.v (.int .i64) ((1 : Int))))), none⟩,
           ⟨(some 9), .mv (.t 48), none⟩])))))))
  (.seq
   (.reg false [
     ⟨(some 66), .load true 3 (.t 8), none⟩,
     ⟨none, .store 3 (.t 6) (.t 66), none⟩,
     ⟨(some 7), .mv (.k (.one (.v (.bool) (true)))), none⟩])
  .ret)))))
def ms_impl_SwapOperator : List MRes := [.cell 6 3 true, .tmp 7]
theorem n_impl_SwapOperator (NN : Nat) (x : DLL (Sig.tys ag_impl_SwapOperator)) : runS NN [fn_impl_IsPrime, fn_impl_emptyMatrix, fn_impl_Matrix_set] sc_impl_SwapOperator ms_impl_SwapOperator ag_impl_SwapOperator rs_impl_SwapOperator x = G_impl_SwapOperator NN x := by kernel_rfl
theorem k_impl_SwapOperator : chkS Go.Proofs.Try.prog 46 sc_impl_SwapOperator.er ms_impl_SwapOperator 3 = true := by decide +kernel
theorem p_impl_SwapOperator : PureSpec Go.Proofs.Try.prog 46 fn_impl_SwapOperator.M ∧ chkFun Go.Proofs.Try.prog 46 = true :=
  pure_of_runS (T := [fn_impl_IsPrime, fn_impl_emptyMatrix, fn_impl_Matrix_set]) (sc := sc_impl_SwapOperator) (ms := ms_impl_SwapOperator) (args := ag_impl_SwapOperator) (res := rs_impl_SwapOperator) (SOk.cons p_impl_IsPrime <| SOk.cons p_impl_emptyMatrix <| SOk.consM p_impl_Matrix_set <| SOk.nil) follows_ok k_impl_SwapOperator F_impl_SwapOperator fun x y h => (n_impl_SwapOperator FUEL x).trans (f_impl_SwapOperator x y h)

def fn_laws_eqIntS : SFn := ⟨37, ag_laws_eqIntS, mu_laws_eqIntS, rs_laws_eqIntS, F_laws_eqIntS⟩
def sc_laws_eqIntS : SCode :=
  (.seq
   (.reg false [
     ⟨(some 4), .mv (.k (.one (.v (.bool) (false)))), none⟩])
  (.seq
   (.seq
    (.reg false [
      ⟨(some 6), .mv (.t 0), none⟩,
      ⟨(some 7), .len (.t 6), none⟩,
      ⟨(some 8), .mv (.t 1), none⟩,
      ⟨(some 9), .len (.t 8), none⟩,
      ⟨(some 10), .bin .neq (.t 7) (.t 9), none⟩])
   (.cond (.t 10)
     (.seq
      (.reg false [
        ⟨(some 4), .mv (.k (.one (.v (.bool) (false)))), none⟩])
     .ret)
     .skip))
  (.seq
   (.seq
    (.reg false [
      ⟨(some 5), .mv (.k (.one (.v (.int .i64) ((0 : Int))))), none⟩])
   (.join ⟨[], []⟩ [] []
     (.block 0
       (.loop 0 ⟨[(0, .one (.c (.v (.list [.int .i64])))), (1, .one (.c (.v (.list [.int .i64])))), (5, .one (.c (.v (.int .i64))))], []⟩ [] []
         (.seq
          (.seq
           (.reg false [
             ⟨(some 11), .mv (.t 5), none⟩,
             ⟨(some 12), .mv (.t 0), none⟩,
             ⟨(some 13), .len (.t 12), none⟩,
             ⟨(some 14), .bin .lss (.t 11) (.t 13), none⟩])
          (.cond (.t 14)
            .skip
            (.exit 0)))
         (.seq
          (.block 1
            (.seq
             (.reg true [
               ⟨(some 17), .mv (.t 0), none⟩,
               ⟨(some 18), .mv (.t 5), none⟩,
               ⟨(some 19), .idxA 1 (.t 17) (.t 18), none⟩,
               ⟨(some 20), .load false 1 (.t 19), none⟩,
               ⟨(some 21), .mv (.t 1), none⟩,
               ⟨(some 22), .mv (.t 5), none⟩,
               ⟨(some 23), .idxA 1 (.t 21) (.t 22), none⟩,
               ⟨(some 24), .load false 1 (.t 23), none⟩,
               ⟨(some 25), .bin .neq (.t 20) (.t 24), none⟩])
            (.cond (.t 25)
              (.seq
               (.reg false [
                 ⟨(some 4), .mv (.k (.one (.v (.bool) (false)))), none⟩])
              .ret)
              .skip)))
         (.reg false [
           ⟨(some 15), .mv (.t 5), none⟩,
           ⟨(some 16), .bin .add (.t 15) (.k (.one (.v (.int .i64) ((1 : Int))))), none⟩,
           ⟨(some 5), .mv (.t 16), none⟩])))))))
  (.seq
   (.reg false [
     ⟨(some 4), .mv (.k (.one (.v (.bool) (true)))), none⟩])
  .ret))))
def ms_laws_eqIntS : List MRes := [.tmp 4]
theorem n_laws_eqIntS (NN : Nat) (x : DLL (Sig.tys ag_laws_eqIntS)) : runS NN [] sc_laws_eqIntS ms_laws_eqIntS ag_laws_eqIntS rs_laws_eqIntS x = G_laws_eqIntS NN x := by kernel_rfl
theorem k_laws_eqIntS : chkS Go.Proofs.Try.prog 37 sc_laws_eqIntS.er ms_laws_eqIntS 2 = true := by decide +kernel
theorem p_laws_eqIntS : PureSpec Go.Proofs.Try.prog 37 fn_laws_eqIntS.M ∧ chkFun Go.Proofs.Try.prog 37 = true :=
  pure_of_runS (T := []) (sc := sc_laws_eqIntS) (ms := ms_laws_eqIntS) (args := ag_laws_eqIntS) (res := rs_laws_eqIntS) (SOk.nil) follows_ok k_laws_eqIntS F_laws_eqIntS fun x y h => (n_laws_eqIntS FUEL x).trans (f_laws_eqIntS x y h)

def fn_laws_eqMatrix : SFn := ⟨19, ag_laws_eqMatrix, mu_laws_eqMatrix, rs_laws_eqMatrix, F_laws_eqMatrix⟩
def sc_laws_eqMatrix : SCode :=
  (.seq
   (.reg false [
     ⟨(some 2), .box 3 (.t 0), none⟩,
     ⟨(some 3), .box 3 (.t 1), none⟩,
     ⟨(some 4), .mv (.k (.one (.v (.bool) (false)))), none⟩])
  (.seq
   (.seq
    (.reg false [
      ⟨(some 5), .fieldA 0 (.t 2), none⟩,
      ⟨(some 6), .load false 1 (.t 5), none⟩,
      ⟨(some 7), .fieldA 0 (.t 3), none⟩,
      ⟨(some 8), .load false 1 (.t 7), none⟩,
      ⟨(some 9), .bin .neq (.t 6) (.t 8), none⟩])
   (.cond (.t 9)
     (.seq
      (.reg false [
        ⟨(some 4), .mv (.k (.one (.v (.bool) (false)))), none⟩])
     .ret)
     .skip))
  (.seq
   (.seq
    (.reg false [
      ⟨(some 10), .fieldA 1 (.t 2), none⟩,
      ⟨(some 11), .load false 1 (.t 10), none⟩,
      ⟨(some 12), .fieldA 1 (.t 3), none⟩,
      ⟨(some 13), .load false 1 (.t 12), none⟩,
      ⟨(some 14), .bin .neq (.t 11) (.t 13), none⟩])
   (.cond (.t 14)
     (.seq
      (.reg false [
        ⟨(some 4), .mv (.k (.one (.v (.bool) (false)))), none⟩])
     .ret)
     .skip))
  (.seq
   (.seq
    (.reg false [
      ⟨(some 15), .fieldA 2 (.t 2), none⟩,
      ⟨(some 16), .load false 1 (.t 15), none⟩,
      ⟨(some 17), .fieldA 2 (.t 3), none⟩,
      ⟨(some 18), .load false 1 (.t 17), none⟩,
      ⟨(some 19), .call .froz 37 [(.t 16), (.t 18)], none⟩,
      ⟨(some 20), .un .not (.t 19), none⟩])
   (.cond (.t 20)
     (.seq
      (.reg false [
        ⟨(some 4), .mv (.k (.one (.v (.bool) (false)))), none⟩])
     .ret)
     .skip))
  (.seq
   (.reg false [
     ⟨(some 4), .mv (.k (.one (.v (.bool) (true)))), none⟩])
  .ret)))))
def ms_laws_eqMatrix : List MRes := [.tmp 4]
theorem n_laws_eqMatrix (NN : Nat) (x : DLL (Sig.tys ag_laws_eqMatrix)) : runS NN [fn_laws_eqIntS] sc_laws_eqMatrix ms_laws_eqMatrix ag_laws_eqMatrix rs_laws_eqMatrix x = G_laws_eqMatrix NN x := by kernel_rfl
theorem k_laws_eqMatrix : chkS Go.Proofs.Try.prog 19 sc_laws_eqMatrix.er ms_laws_eqMatrix 2 = true := by decide +kernel
theorem p_laws_eqMatrix : PureSpec Go.Proofs.Try.prog 19 fn_laws_eqMatrix.M ∧ chkFun Go.Proofs.Try.prog 19 = true :=
  pure_of_runS (T := [fn_laws_eqIntS]) (sc := sc_laws_eqMatrix) (ms := ms_laws_eqMatrix) (args := ag_laws_eqMatrix) (res := rs_laws_eqMatrix) (SOk.cons p_laws_eqIntS <| SOk.nil) follows_ok k_laws_eqMatrix F_laws_eqMatrix fun x y h => (n_laws_eqMatrix FUEL x).trans (f_laws_eqMatrix x y h)

def fn_laws_markIntS : SFn := ⟨38, ag_laws_markIntS, mu_laws_markIntS, rs_laws_markIntS, F_laws_markIntS⟩
def sc_laws_markIntS : SCode :=
  (.seq
   (.reg false [
     ⟨(some 4), .mv (.k (.one (.v (.int .i64) ((0 : Int))))), none⟩])
  (.seq
   (.seq
    (.reg false [
      ⟨(some 5), .mv (.k (.one (.v (.int .i64) ((0 : Int))))), none⟩])
   (.join ⟨[(1, .one (.c (.v (.int .i64))))], [(1000000, .row false .froz [.int .i64])]⟩ [1000000, 50000] []
     (.block 0
       (.loop 0 ⟨[(0, .one (.c (.full 1000000 1))), (1, .one (.c (.v (.int .i64)))), (5, .one (.c (.v (.int .i64))))], [(1000000, .row false .froz [.int .i64])]⟩ [1000000, 50000] [(false, 0, 0, 50000, .froz, [])]
         (.seq
          (.seq
           (.reg false [
             ⟨(some 6), .mv (.t 5), none⟩,
             ⟨(some 7), .mv (.t 0), none⟩,
             ⟨(some 8), .len (.t 7), none⟩,
             ⟨(some 9), .bin .lss (.t 6) (.t 8), none⟩])
          (.cond (.t 9)
            .skip
            (.exit 0)))
         (.seq
          (.block 1
            (.seq
             (.reg false [
               ⟨(some 12), .mv (.t 0), none⟩,
               ⟨(some 13), .mv (.t 5), none⟩,
               ⟨(some 14), .mv (.t 1), none⟩,
               ⟨(some 15), .idxA 1 (.t 12) (.t 13), none⟩,
               ⟨none, .store 1 (.t 15) (.t 14), none⟩])
            (.reg false [
              ⟨(some 16), .mv (.t 1), none⟩,
              ⟨(some 17), .bin .add (.t 16) (.k (.one (.v (.int .i64) ((1 : Int))))), none⟩,
              ⟨(some 1), .mv (.t 17), none⟩])))
         (.reg false [
           ⟨(some 10), .mv (.t 5), none⟩,
           ⟨(some 11), .bin .add (.t 10) (.k (.one (.v (.int .i64) ((1 : Int))))), none⟩,
           ⟨(some 5), .mv (.t 11), none⟩])))))))
  (.seq
   (.reg false [
     ⟨(some 18), .mv (.t 1), none⟩,
     ⟨(some 4), .mv (.t 18), none⟩])
  .ret)))
def ms_laws_markIntS : List MRes := [.tmp 4]
theorem n_laws_markIntS (NN : Nat) (x : DLL (Sig.tys ag_laws_markIntS)) : runMS NN [] sc_laws_markIntS ms_laws_markIntS ag_laws_markIntS mu_laws_markIntS rs_laws_markIntS x = G_laws_markIntS NN x := by kernel_rfl
theorem k_laws_markIntS : chkS Go.Proofs.Try.prog 38 sc_laws_markIntS.er ms_laws_markIntS 2 = true := by decide +kernel
theorem p_laws_markIntS : MutSpec Go.Proofs.Try.prog 38 mu_laws_markIntS fn_laws_markIntS.MM ∧ chkFun Go.Proofs.Try.prog 38 = true :=
  mut_of_runMS (T := []) (sc := sc_laws_markIntS) (ms := ms_laws_markIntS) (args := ag_laws_markIntS) (mu := mu_laws_markIntS) (res := rs_laws_markIntS) (SOk.nil) follows_ok k_laws_markIntS F_laws_markIntS fun x y h => (n_laws_markIntS FUEL x).trans (f_laws_markIntS x y h)

def fn_laws_markMatrix : SFn := ⟨20, ag_laws_markMatrix, mu_laws_markMatrix, rs_laws_markMatrix, F_laws_markMatrix⟩
def sc_laws_markMatrix : SCode :=
  (.seq
   (.reg false [
     ⟨(some 2), .box 3 (.t 0), none⟩,
     ⟨(some 4), .mv (.k (.one (.v (.int .i64) ((0 : Int))))), none⟩])
  (.seq
   (.reg false [
     ⟨(some 5), .fieldA 2 (.t 2), none⟩,
     ⟨(some 6), .load false 1 (.t 5), none⟩,
     ⟨(some 7), .mv (.t 1), none⟩,
     ⟨(some 8), .callm .froz 38 [(.t 6), (.t 7)], none⟩,
     ⟨(some 1), .mv (.t 8), none⟩])
  (.seq
   (.reg false [
     ⟨(some 9), .mv (.t 1), none⟩,
     ⟨(some 4), .mv (.t 9), none⟩])
  .ret)))
def ms_laws_markMatrix : List MRes := [.tmp 4]
theorem n_laws_markMatrix (NN : Nat) (x : DLL (Sig.tys ag_laws_markMatrix)) : runMS NN [fn_laws_markIntS] sc_laws_markMatrix ms_laws_markMatrix ag_laws_markMatrix mu_laws_markMatrix rs_laws_markMatrix x = G_laws_markMatrix NN x := by kernel_rfl
theorem k_laws_markMatrix : chkS Go.Proofs.Try.prog 20 sc_laws_markMatrix.er ms_laws_markMatrix 2 = true := by decide +kernel
theorem p_laws_markMatrix : MutSpec Go.Proofs.Try.prog 20 mu_laws_markMatrix fn_laws_markMatrix.MM ∧ chkFun Go.Proofs.Try.prog 20 = true :=
  mut_of_runMS (T := [fn_laws_markIntS]) (sc := sc_laws_markMatrix) (ms := ms_laws_markMatrix) (args := ag_laws_markMatrix) (mu := mu_laws_markMatrix) (res := rs_laws_markMatrix) (SOk.consM p_laws_markIntS <| SOk.nil) follows_ok k_laws_markMatrix F_laws_markMatrix fun x y h => (n_laws_markMatrix FUEL x).trans (f_laws_markMatrix x y h)

def fn_laws_heldIntS : SFn := ⟨39, ag_laws_heldIntS, mu_laws_heldIntS, rs_laws_heldIntS, F_laws_heldIntS⟩
def sc_laws_heldIntS : SCode :=
  (.seq
   (.reg false [
     ⟨(some 4), .mv (.k (.one (.v (.int .i64) ((0 : Int))))), none⟩])
  (.seq
   (.seq
    (.reg false [
      ⟨(some 5), .mv (.k (.one (.v (.int .i64) ((0 : Int))))), none⟩])
   (.join ⟨[(1, .one (.c (.v (.int .i64))))], []⟩ [] []
     (.block 0
       (.loop 0 ⟨[(0, .one (.c (.v (.list [.int .i64])))), (1, .one (.c (.v (.int .i64)))), (5, .one (.c (.v (.int .i64))))], []⟩ [] []
         (.seq
          (.seq
           (.reg false [
             ⟨(some 6), .mv (.t 5), none⟩,
             ⟨(some 7), .mv (.t 0), none⟩,
             ⟨(some 8), .len (.t 7), none⟩,
             ⟨(some 9), .bin .lss (.t 6) (.t 8), none⟩])
          (.cond (.t 9)
            .skip
            (.exit 0)))
         (.seq
          (.block 1
            (.seq
             (.seq
              (.reg false [
                ⟨(some 12), .mv (.t 0), none⟩,
                ⟨(some 13), .mv (.t 5), none⟩,
                ⟨(some 14), .idxA 1 (.t 12) (.t 13), none⟩,
                ⟨(some 15), .load false 1 (.t 14), none⟩,
                ⟨(some 16), .mv (.t 1), none⟩,
                ⟨(some 17), .bin .neq (.t 15) (.t 16), none⟩])
             (.cond (.t 17)
               (.seq
                (.reg false [
                  ⟨(some 4), .mv (.k (.one (.v (.int .i64) (((-1) : Int))))), none⟩])
               .ret)
               .skip))
            (.reg false [
              ⟨(some 18), .mv (.t 1), none⟩,
              ⟨(some 19), .bin .add (.t 18) (.k (.one (.v (.int .i64) ((1 : Int))))), none⟩,
              ⟨(some 1), .mv (.t 19), none⟩])))
         (.reg false [
           ⟨(some 10), .mv (.t 5), none⟩,
           ⟨(some 11), .bin .add (.t 10) (.k (.one (.v (.int .i64) ((1 : Int))))), none⟩,
           ⟨(some 5), .mv (.t 11), none⟩])))))))
  (.seq
   (.reg false [
     ⟨(some 20), .mv (.t 1), none⟩,
     ⟨(some 4), .mv (.t 20), none⟩])
  .ret)))
def ms_laws_heldIntS : List MRes := [.tmp 4]
theorem n_laws_heldIntS (NN : Nat) (x : DLL (Sig.tys ag_laws_heldIntS)) : runS NN [] sc_laws_heldIntS ms_laws_heldIntS ag_laws_heldIntS rs_laws_heldIntS x = G_laws_heldIntS NN x := by kernel_rfl
theorem k_laws_heldIntS : chkS Go.Proofs.Try.prog 39 sc_laws_heldIntS.er ms_laws_heldIntS 2 = true := by decide +kernel
theorem p_laws_heldIntS : PureSpec Go.Proofs.Try.prog 39 fn_laws_heldIntS.M ∧ chkFun Go.Proofs.Try.prog 39 = true :=
  pure_of_runS (T := []) (sc := sc_laws_heldIntS) (ms := ms_laws_heldIntS) (args := ag_laws_heldIntS) (res := rs_laws_heldIntS) (SOk.nil) follows_ok k_laws_heldIntS F_laws_heldIntS fun x y h => (n_laws_heldIntS FUEL x).trans (f_laws_heldIntS x y h)

def fn_laws_heldMatrix : SFn := ⟨21, ag_laws_heldMatrix, mu_laws_heldMatrix, rs_laws_heldMatrix, F_laws_heldMatrix⟩
def sc_laws_heldMatrix : SCode :=
  (.seq
   (.reg false [
     ⟨(some 2), .box 3 (.t 0), none⟩,
     ⟨(some 4), .mv (.k (.one (.v (.int .i64) ((0 : Int))))), none⟩])
  (.seq
   (.reg false [
     ⟨(some 5), .fieldA 2 (.t 2), none⟩,
     ⟨(some 6), .load false 1 (.t 5), none⟩,
     ⟨(some 7), .mv (.t 1), none⟩,
     ⟨(some 8), .call .froz 39 [(.t 6), (.t 7)], none⟩,
     ⟨(some 1), .mv (.t 8), none⟩])
  (.seq
   (.seq
    (.reg false [
      ⟨(some 9), .mv (.t 1), none⟩,
      ⟨(some 10), .bin .lss (.t 9) (.k (.one (.v (.int .i64) ((0 : Int))))), none⟩])
   (.cond (.t 10)
     (.seq
      (.reg false [
        ⟨(some 4), .mv (.k (.one (.v (.int .i64) (((-1) : Int))))), none⟩])
     .ret)
     .skip))
  (.seq
   (.reg false [
     ⟨(some 11), .mv (.t 1), none⟩,
     ⟨(some 4), .mv (.t 11), none⟩])
  .ret))))
def ms_laws_heldMatrix : List MRes := [.tmp 4]
theorem n_laws_heldMatrix (NN : Nat) (x : DLL (Sig.tys ag_laws_heldMatrix)) : runS NN [fn_laws_heldIntS] sc_laws_heldMatrix ms_laws_heldMatrix ag_laws_heldMatrix rs_laws_heldMatrix x = G_laws_heldMatrix NN x := by kernel_rfl
theorem k_laws_heldMatrix : chkS Go.Proofs.Try.prog 21 sc_laws_heldMatrix.er ms_laws_heldMatrix 2 = true := by decide +kernel
theorem p_laws_heldMatrix : PureSpec Go.Proofs.Try.prog 21 fn_laws_heldMatrix.M ∧ chkFun Go.Proofs.Try.prog 21 = true :=
  pure_of_runS (T := [fn_laws_heldIntS]) (sc := sc_laws_heldMatrix) (ms := ms_laws_heldMatrix) (args := ag_laws_heldMatrix) (res := rs_laws_heldMatrix) (SOk.cons p_laws_heldIntS <| SOk.nil) follows_ok k_laws_heldMatrix F_laws_heldMatrix fun x y h => (n_laws_heldMatrix FUEL x).trans (f_laws_heldMatrix x y h)

def fn_laws_FnExactSwapOperator : SFn := ⟨14, ag_laws_FnExactSwapOperator, mu_laws_FnExactSwapOperator, rs_laws_FnExactSwapOperator, F_laws_FnExactSwapOperator⟩
def sc_laws_FnExactSwapOperator : SCode :=
  (.seq
   (.reg false [
     ⟨(some 6), .mv (.k (.one (.v (.bool) (false)))), none⟩])
  (.seq
   (.reg false [
     ⟨(some 16), .mv (.t 0), none⟩,
     ⟨(some 17), .mv (.t 1), none⟩,
     ⟨(some 18), .mv (.t 2), none⟩,
     ⟨(some 19), .call .froz 45 [(.t 16), (.t 17), (.t 18)], none⟩,
     ⟨(some 15), .mv (.t 19), none⟩,
     ⟨(some 20), .ext 0 (.t 15), none⟩,
     ⟨(some 21), .ext 1 (.t 15), none⟩,
     ⟨(some 7), .alloc [.v (.int .i64) ((0 : Int)), .v (.int .i64) ((0 : Int)), .nil [.int .i64]], none⟩,
     ⟨none, .store 3 (.t 7) (.t 20), none⟩,
     ⟨(some 8), .mv (.t 21), none⟩])
  (.seq
   (.reg false [
     ⟨(some 23), .mv (.t 0), none⟩,
     ⟨(some 24), .mv (.t 1), none⟩,
     ⟨(some 25), .mv (.t 2), none⟩,
     ⟨(some 26), .call .froz 46 [(.t 23), (.t 24), (.t 25)], none⟩,
     ⟨(some 22), .mv (.t 26), none⟩,
     ⟨(some 27), .ext 0 (.t 22), none⟩,
     ⟨(some 28), .ext 1 (.t 22), none⟩,
     ⟨(some 9), .alloc [.v (.int .i64) ((0 : Int)), .v (.int .i64) ((0 : Int)), .nil [.int .i64]], none⟩,
     ⟨none, .store 3 (.t 9) (.t 27), none⟩,
     ⟨(some 10), .mv (.t 28), none⟩])
  (.seq
   (.seq
    (.reg false [
      ⟨(some 29), .load true 3 (.t 9), none⟩,
      ⟨(some 30), .load true 3 (.t 7), none⟩,
      ⟨(some 31), .call .froz 19 [(.t 29), (.t 30)], none⟩,
      ⟨(some 32), .un .not (.t 31), none⟩,
      ⟨(some 33), .mv (.t 32), none⟩,
      ⟨(some 34), .mv (.t 10), (some (33, false))⟩,
      ⟨(some 35), .mv (.t 8), (some (33, false))⟩,
      ⟨(some 36), .binb .neq (.t 34) (.t 35), (some (33, false))⟩,
      ⟨(some 37), .pick (.t 33) (.k (.one (.v (.bool) (true)))) (.t 36), none⟩])
   (.cond (.t 37)
     (.seq
      (.reg false [
        ⟨(some 6), .mv (.k (.one (.v (.bool) (false)))), none⟩])
     .ret)
     .skip))
  (.seq
   (.reg false [
     ⟨(some 11), .mv (.k (.one (.v (.int .i64) ((1 : Int))))), none⟩])
  (.seq
   (.reg false [
     ⟨(some 38), .load true 3 (.t 9), none⟩,
     ⟨(some 39), .mv (.t 11), none⟩,
     ⟨(some 40), .callm .froz 20 [(.t 38), (.t 39)], none⟩,
     ⟨(some 11), .mv (.t 40), none⟩])
  (.seq
   (.reg false [
     ⟨(some 12), .mv (.k (.one (.v (.int .i64) ((1 : Int))))), none⟩])
  (.seq
   (.reg false [
     ⟨(some 41), .load true 3 (.t 9), none⟩,
     ⟨(some 42), .mv (.t 12), none⟩,
     ⟨(some 43), .call .froz 21 [(.t 41), (.t 42)], none⟩,
     ⟨(some 12), .mv (.t 43), none⟩])
  (.seq
   (.seq
    (.reg false [
      ⟨(some 44), .mv (.t 12), none⟩,
      ⟨(some 45), .bin .lss (.t 44) (.k (.one (.v (.int .i64) ((0 : Int))))), none⟩])
   (.cond (.t 45)
     (.seq
      (.reg false [
        ⟨(some 6), .mv (.k (.one (.v (.bool) (false)))), none⟩])
     .ret)
     .skip))
  (.seq
   (.seq
    (.reg false [
      ⟨(some 46), .mv (.t 12), none⟩,
      ⟨(some 47), .mv (.t 11), none⟩,
      ⟨(some 48), .bin .neq (.t 46) (.t 47), none⟩])
   (.cond (.t 48)
     (.seq
      (.reg false [
        ⟨(some 6), .mv (.k (.one (.v (.bool) (false)))), none⟩])
     .ret)
     .skip))
  (.seq
   (.reg false [
     ⟨(some 50), .mv (.t 0), none⟩,
     ⟨(some 51), .mv (.t 1), none⟩,
     ⟨(some 52), .mv (.t 2), none⟩,
     ⟨(some 53), .call .froz 46 [(.t 50), (.t 51), (.t 52)], none⟩,
     ⟨(some 49), .mv (.t 53), none⟩,
     ⟨(some 54), .ext 0 (.t 49), none⟩,
     ⟨(some 55), .ext 1 (.t 49), none⟩,
     ⟨(some 13), .alloc [.v (.int .i64) ((0 : Int)), .v (.int .i64) ((0 : Int)), .nil [.int .i64]], none⟩,
     ⟨none, .store 3 (.t 13) (.t 54), none⟩,
     ⟨(some 14), .mv (.t 55), none⟩])
  (.seq
   (.seq
    (.reg false [
      ⟨(some 56), .load true 3 (.t 13), none⟩,
      ⟨(some 57), .load true 3 (.t 7), none⟩,
      ⟨(some 58), .call .froz 19 [(.t 56), (.t 57)], none⟩,
      ⟨(some 59), .un .not (.t 58), none⟩,
      ⟨(some 60), .mv (.t 59), none⟩,
      ⟨(some 61), .mv (.t 14), (some (60, false))⟩,
      ⟨(some 62), .mv (.t 8), (some (60, false))⟩,
      ⟨(some 63), .binb .neq (.t 61) (.t 62), (some (60, false))⟩,
      ⟨(some 64), .pick (.t 60) (.k (.one (.v (.bool) (true)))) (.t 63), none⟩])
   (.cond (.t 64)
     (.seq
      (.reg false [
        ⟨(some 6), .mv (.k (.one (.v (.bool) (false)))), none⟩])
     .ret)
     .skip))
  (.seq
   (.reg false [
     ⟨(some 12), .mv (.k (.one (.v (.int .i64) ((1 : Int))))), none⟩])
  (.seq
   (.reg false [
     ⟨(some 65), .load true 3 (.t 9), none⟩,
     ⟨(some 66), .mv (.t 12), none⟩,
     ⟨(some 67), .call .froz 21 [(.t 65), (.t 66)], none⟩,
     ⟨(some 12), .mv (.t 67), none⟩])
  (.seq
   (.seq
    (.reg false [
      ⟨(some 68), .mv (.t 12), none⟩,
      ⟨(some 69), .bin .lss (.t 68) (.k (.one (.v (.int .i64) ((0 : Int))))), none⟩])
   (.cond (.t 69)
     (.seq
      (.reg false [
        ⟨(some 6), .mv (.k (.one (.v (.bool) (false)))), none⟩])
     .ret)
     .skip))
  (.seq
   (.seq
    (.reg false [
      ⟨(some 70), .mv (.t 12), none⟩,
      ⟨(some 71), .mv (.t 11), none⟩,
      ⟨(some 72), .bin .neq (.t 70) (.t 71), none⟩])
   (.cond (.t 72)
     (.seq
      (.reg false [
        ⟨(some 6), .mv (.k (.one (.v (.bool) (false)))), none⟩])
     .ret)
     .skip))
  (.seq
   (.reg false [
     ⟨(some 6), .mv (.k (.one (.v (.bool) (true)))), none⟩])
  .ret)))))))))))))))))
def ms_laws_FnExactSwapOperator : List MRes := [.tmp 6]
theorem n_laws_FnExactSwapOperator (NN : Nat) (x : DLL (Sig.tys ag_laws_FnExactSwapOperator)) : runS NN [fn_spec_SwapOperator, fn_impl_SwapOperator, fn_laws_eqMatrix, fn_laws_markMatrix, fn_laws_heldMatrix] sc_laws_FnExactSwapOperator ms_laws_FnExactSwapOperator ag_laws_FnExactSwapOperator rs_laws_FnExactSwapOperator x = G_laws_FnExactSwapOperator NN x := by kernel_rfl
theorem k_laws_FnExactSwapOperator : chkS Go.Proofs.Try.prog 14 sc_laws_FnExactSwapOperator.er ms_laws_FnExactSwapOperator 3 = true := by decide +kernel
theorem p_laws_FnExactSwapOperator : PureSpec Go.Proofs.Try.prog 14 fn_laws_FnExactSwapOperator.M ∧ chkFun Go.Proofs.Try.prog 14 = true :=
  pure_of_runS (T := [fn_spec_SwapOperator, fn_impl_SwapOperator, fn_laws_eqMatrix, fn_laws_markMatrix, fn_laws_heldMatrix]) (sc := sc_laws_FnExactSwapOperator) (ms := ms_laws_FnExactSwapOperator) (args := ag_laws_FnExactSwapOperator) (res := rs_laws_FnExactSwapOperator) (SOk.cons p_spec_SwapOperator <| SOk.cons p_impl_SwapOperator <| SOk.cons p_laws_eqMatrix <| SOk.consM p_laws_markMatrix <| SOk.cons p_laws_heldMatrix <| SOk.nil) follows_ok k_laws_FnExactSwapOperator F_laws_FnExactSwapOperator fun x y h => (n_laws_FnExactSwapOperator FUEL x).trans (f_laws_FnExactSwapOperator x y h)

end Go.Am
