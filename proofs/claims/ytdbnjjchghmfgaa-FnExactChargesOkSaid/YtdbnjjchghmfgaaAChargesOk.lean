/- A_ChargesOk: the code of the functions of FnExactChargesOk. No condition. -/
import Derived.Test.YtdbnjjchghmfgaaLChargesOk
import Derived.Test.YtdbnjjchghmfgaaBr2
import Derived.KernelRfl
import Derived.Test.YtdbnjjchghmfgaaRows
set_option linter.unusedVariables false
set_option maxRecDepth 100000
namespace Go.Am
theorem follows_ok : Go.Proofs.Try.prog.follows .mixedOrders = true := by decide +kernel
def fn_laws_szIntS : SFn := ⟨131, ag_laws_szIntS, mu_laws_szIntS, rs_laws_szIntS, F_laws_szIntS⟩
def sc_laws_szIntS : SCode :=
  (.seq
   (.reg false [
     ⟨(some 4), .mv (.k (.one (.v (.int .i64) ((0 : Int))))), none⟩])
  (.seq
   (.reg false [
     ⟨(some 5), .mv (.t 1), none⟩,
     ⟨(some 6), .mv (.t 0), none⟩,
     ⟨(some 7), .len (.t 6), none⟩,
     ⟨(some 8), .bin .sub (.t 5) (.t 7), none⟩,
     ⟨(some 1), .mv (.t 8), none⟩])
  (.seq
   (.seq
    (.reg false [
      ⟨(some 9), .mv (.t 1), none⟩,
      ⟨(some 10), .bin .lss (.t 9) (.k (.one (.v (.int .i64) ((0 : Int))))), none⟩])
   (.cond (.t 10)
     (.seq
      (.reg false [
        ⟨(some 4), .mv (.k (.one (.v (.int .i64) (((-1) : Int))))), none⟩])
     .ret)
     .skip))
  (.seq
   (.reg false [
     ⟨(some 11), .mv (.t 1), none⟩,
     ⟨(some 4), .mv (.t 11), none⟩])
  .ret))))
def ms_laws_szIntS : List MRes := [.tmp 4]
theorem n_laws_szIntS (NN : Nat) (x : DLL (Sig.tys ag_laws_szIntS)) : runS NN [] sc_laws_szIntS ms_laws_szIntS ag_laws_szIntS rs_laws_szIntS x = G_laws_szIntS NN x := by kernel_rfl
theorem k_laws_szIntS : chkS Go.Proofs.Try.prog 131 sc_laws_szIntS.er ms_laws_szIntS 2 = true := by decide +kernel
theorem p_laws_szIntS : PureSpec Go.Proofs.Try.prog 131 fn_laws_szIntS.M ∧ chkFun Go.Proofs.Try.prog 131 = true :=
  pure_of_runS (T := []) (sc := sc_laws_szIntS) (ms := ms_laws_szIntS) (args := ag_laws_szIntS) (res := rs_laws_szIntS) (SOk.nil) follows_ok k_laws_szIntS F_laws_szIntS fun x y h => (n_laws_szIntS FUEL x).trans (f_laws_szIntS x y h)

def fn_laws_szTensor : SFn := ⟨44, ag_laws_szTensor, mu_laws_szTensor, rs_laws_szTensor, F_laws_szTensor⟩
def sc_laws_szTensor : SCode :=
  (.seq
   (.reg false [
     ⟨(some 2), .box 3 (.t 0), none⟩,
     ⟨(some 4), .mv (.k (.one (.v (.int .i64) ((0 : Int))))), none⟩])
  (.seq
   (.reg false [
     ⟨(some 5), .fieldA 0 (.t 2), none⟩,
     ⟨(some 6), .load false 1 (.t 5), none⟩,
     ⟨(some 7), .mv (.t 1), none⟩,
     ⟨(some 8), .call .froz 131 [(.t 6), (.t 7)], none⟩,
     ⟨(some 1), .mv (.t 8), none⟩])
  (.seq
   (.seq
    (.reg false [
      ⟨(some 9), .mv (.t 1), none⟩,
      ⟨(some 10), .bin .lss (.t 9) (.k (.one (.v (.int .i64) ((0 : Int))))), none⟩])
   (.cond (.t 10)
     (.seq
      (.reg false [
        ⟨(some 4), .mv (.k (.one (.v (.int .i64) (((-1) : Int))))), none⟩])
     .ret)
     .skip))
  (.seq
   (.reg false [
     ⟨(some 11), .fieldA 1 (.t 2), none⟩,
     ⟨(some 12), .load false 1 (.t 11), none⟩,
     ⟨(some 13), .mv (.t 1), none⟩,
     ⟨(some 14), .call .froz 131 [(.t 12), (.t 13)], none⟩,
     ⟨(some 1), .mv (.t 14), none⟩])
  (.seq
   (.seq
    (.reg false [
      ⟨(some 15), .mv (.t 1), none⟩,
      ⟨(some 16), .bin .lss (.t 15) (.k (.one (.v (.int .i64) ((0 : Int))))), none⟩])
   (.cond (.t 16)
     (.seq
      (.reg false [
        ⟨(some 4), .mv (.k (.one (.v (.int .i64) (((-1) : Int))))), none⟩])
     .ret)
     .skip))
  (.seq
   (.reg false [
     ⟨(some 17), .fieldA 2 (.t 2), none⟩,
     ⟨(some 18), .load false 1 (.t 17), none⟩,
     ⟨(some 19), .mv (.t 1), none⟩,
     ⟨(some 20), .call .froz 131 [(.t 18), (.t 19)], none⟩,
     ⟨(some 1), .mv (.t 20), none⟩])
  (.seq
   (.seq
    (.reg false [
      ⟨(some 21), .mv (.t 1), none⟩,
      ⟨(some 22), .bin .lss (.t 21) (.k (.one (.v (.int .i64) ((0 : Int))))), none⟩])
   (.cond (.t 22)
     (.seq
      (.reg false [
        ⟨(some 4), .mv (.k (.one (.v (.int .i64) (((-1) : Int))))), none⟩])
     .ret)
     .skip))
  (.seq
   (.reg false [
     ⟨(some 23), .mv (.t 1), none⟩,
     ⟨(some 4), .mv (.t 23), none⟩])
  .ret))))))))
def ms_laws_szTensor : List MRes := [.tmp 4]
theorem n_laws_szTensor (NN : Nat) (x : DLL (Sig.tys ag_laws_szTensor)) : runS NN [fn_laws_szIntS] sc_laws_szTensor ms_laws_szTensor ag_laws_szTensor rs_laws_szTensor x = G_laws_szTensor NN x := by kernel_rfl
theorem k_laws_szTensor : chkS Go.Proofs.Try.prog 44 sc_laws_szTensor.er ms_laws_szTensor 2 = true := by decide +kernel
theorem p_laws_szTensor : PureSpec Go.Proofs.Try.prog 44 fn_laws_szTensor.M ∧ chkFun Go.Proofs.Try.prog 44 = true :=
  pure_of_runS (T := [fn_laws_szIntS]) (sc := sc_laws_szTensor) (ms := ms_laws_szTensor) (args := ag_laws_szTensor) (res := rs_laws_szTensor) (SOk.cons p_laws_szIntS <| SOk.nil) follows_ok k_laws_szTensor F_laws_szTensor fun x y h => (n_laws_szTensor FUEL x).trans (f_laws_szTensor x y h)

def fn_laws_szIntSS : SFn := ⟨132, ag_laws_szIntSS, mu_laws_szIntSS, rs_laws_szIntSS, F_laws_szIntSS⟩
def sc_laws_szIntSS : SCode :=
  (.seq
   (.reg false [
     ⟨(some 4), .mv (.k (.one (.v (.int .i64) ((0 : Int))))), none⟩])
  (.seq
   (.reg false [
     ⟨(some 6), .mv (.t 1), none⟩,
     ⟨(some 7), .mv (.t 0), none⟩,
     ⟨(some 8), .len (.t 7), none⟩,
     ⟨(some 9), .bin .sub (.t 6) (.t 8), none⟩,
     ⟨(some 1), .mv (.t 9), none⟩])
  (.seq
   (.seq
    (.reg false [
      ⟨(some 10), .mv (.t 1), none⟩,
      ⟨(some 11), .bin .lss (.t 10) (.k (.one (.v (.int .i64) ((0 : Int))))), none⟩])
   (.cond (.t 11)
     (.seq
      (.reg false [
        ⟨(some 4), .mv (.k (.one (.v (.int .i64) (((-1) : Int))))), none⟩])
     .ret)
     .skip))
  (.seq
   (.seq
    (.reg false [
      ⟨(some 5), .mv (.k (.one (.v (.int .i64) ((0 : Int))))), none⟩])
   (.join ⟨[(1, .one (.c (.v (.int .i64))))], []⟩ [24000, 24001, 24002, 24003, 24004, 24005] []
     (.block 0
       (.loop 0 ⟨[(0, .one (.c (.v (.list [.list [.int .i64]])))), (1, .one (.c (.v (.int .i64)))), (5, .one (.c (.v (.int .i64))))], []⟩ [24000, 24001, 24002, 24003, 24004, 24005] []
         (.seq
          (.seq
           (.reg false [
             ⟨(some 12), .mv (.t 5), none⟩,
             ⟨(some 13), .mv (.t 0), none⟩,
             ⟨(some 14), .len (.t 13), none⟩,
             ⟨(some 15), .bin .lss (.t 12) (.t 14), none⟩])
          (.cond (.t 15)
            .skip
            (.exit 0)))
         (.seq
          (.block 1
            (.seq
             (.reg false [
               ⟨(some 18), .mv (.t 0), none⟩,
               ⟨(some 19), .mv (.t 5), none⟩,
               ⟨(some 20), .idxA 1 (.t 18) (.t 19), none⟩,
               ⟨(some 21), .load false 1 (.t 20), none⟩,
               ⟨(some 22), .mv (.t 1), none⟩,
               ⟨(some 23), .call .froz 131 [(.t 21), (.t 22)], none⟩,
               ⟨(some 1), .mv (.t 23), none⟩])
            (.seq
             (.reg false [
               ⟨(some 24), .mv (.t 1), none⟩,
               ⟨(some 25), .bin .lss (.t 24) (.k (.one (.v (.int .i64) ((0 : Int))))), none⟩])
            (.cond (.t 25)
              (.seq
               (.reg false [
                 ⟨(some 4), .mv (.k (.one (.v (.int .i64) (((-1) : Int))))), none⟩])
              .ret)
              .skip))))
         (.reg false [
           ⟨(some 16), .mv (.t 5), none⟩,
           ⟨(some 17), .bin .add (.t 16) (.k (.one (.v (.int .i64) ((1 : Int))))), none⟩,
           ⟨(some 5), .mv (.t 17), none⟩])))))))
  (.seq
   (.reg false [
     ⟨(some 26), .mv (.t 1), none⟩,
     ⟨(some 4), .mv (.t 26), none⟩])
  .ret)))))
def ms_laws_szIntSS : List MRes := [.tmp 4]
theorem n_laws_szIntSS (NN : Nat) (x : DLL (Sig.tys ag_laws_szIntSS)) : runS NN [fn_laws_szIntS] sc_laws_szIntSS ms_laws_szIntSS ag_laws_szIntSS rs_laws_szIntSS x = G_laws_szIntSS NN x := by kernel_rfl
theorem k_laws_szIntSS : chkS Go.Proofs.Try.prog 132 sc_laws_szIntSS.er ms_laws_szIntSS 2 = true := by decide +kernel
theorem p_laws_szIntSS : PureSpec Go.Proofs.Try.prog 132 fn_laws_szIntSS.M ∧ chkFun Go.Proofs.Try.prog 132 = true :=
  pure_of_runS (T := [fn_laws_szIntS]) (sc := sc_laws_szIntSS) (ms := ms_laws_szIntSS) (args := ag_laws_szIntSS) (res := rs_laws_szIntSS) (SOk.cons p_laws_szIntS <| SOk.nil) follows_ok k_laws_szIntSS F_laws_szIntSS fun x y h => (n_laws_szIntSS FUEL x).trans (f_laws_szIntSS x y h)

def fn_laws_szCharges : SFn := ⟨45, ag_laws_szCharges, mu_laws_szCharges, rs_laws_szCharges, F_laws_szCharges⟩
def sc_laws_szCharges : SCode :=
  (.seq
   (.reg false [
     ⟨(some 2), .box 2 (.t 0), none⟩,
     ⟨(some 4), .mv (.k (.one (.v (.int .i64) ((0 : Int))))), none⟩])
  (.seq
   (.reg false [
     ⟨(some 5), .fieldA 1 (.t 2), none⟩,
     ⟨(some 6), .load false 1 (.t 5), none⟩,
     ⟨(some 7), .mv (.t 1), none⟩,
     ⟨(some 8), .call .froz 132 [(.t 6), (.t 7)], none⟩,
     ⟨(some 1), .mv (.t 8), none⟩])
  (.seq
   (.seq
    (.reg false [
      ⟨(some 9), .mv (.t 1), none⟩,
      ⟨(some 10), .bin .lss (.t 9) (.k (.one (.v (.int .i64) ((0 : Int))))), none⟩])
   (.cond (.t 10)
     (.seq
      (.reg false [
        ⟨(some 4), .mv (.k (.one (.v (.int .i64) (((-1) : Int))))), none⟩])
     .ret)
     .skip))
  (.seq
   (.reg false [
     ⟨(some 11), .mv (.t 1), none⟩,
     ⟨(some 4), .mv (.t 11), none⟩])
  .ret))))
def ms_laws_szCharges : List MRes := [.tmp 4]
theorem n_laws_szCharges (NN : Nat) (x : DLL (Sig.tys ag_laws_szCharges)) : runS NN [fn_laws_szIntSS] sc_laws_szCharges ms_laws_szCharges ag_laws_szCharges rs_laws_szCharges x = G_laws_szCharges NN x := by kernel_rfl
theorem k_laws_szCharges : chkS Go.Proofs.Try.prog 45 sc_laws_szCharges.er ms_laws_szCharges 2 = true := by decide +kernel
theorem p_laws_szCharges : PureSpec Go.Proofs.Try.prog 45 fn_laws_szCharges.M ∧ chkFun Go.Proofs.Try.prog 45 = true :=
  pure_of_runS (T := [fn_laws_szIntSS]) (sc := sc_laws_szCharges) (ms := ms_laws_szCharges) (args := ag_laws_szCharges) (res := rs_laws_szCharges) (SOk.cons p_laws_szIntSS <| SOk.nil) follows_ok k_laws_szCharges F_laws_szCharges fun x y h => (n_laws_szCharges FUEL x).trans (f_laws_szCharges x y h)

def fn_laws_toIntS : SFn := ⟨135, ag_laws_toIntS, mu_laws_toIntS, rs_laws_toIntS, F_laws_toIntS⟩
def sc_laws_toIntS : SCode :=
  (.seq
   (.reg false [
     ⟨(some 2), .mv (.k (.one (.nil [.int .i64]))), none⟩])
  (.seq
   (.reg false [
     ⟨(some 5), .mv (.t 0), none⟩,
     ⟨(some 6), .len (.t 5), none⟩,
     ⟨(some 7), .mkslice .froz [.int .i64] 8 (0 : Int) (.t 6) (.t 6), none⟩,
     ⟨(some 3), .mv (.t 7), none⟩])
  (.seq
   (.seq
    (.reg false [
      ⟨(some 4), .mv (.k (.one (.v (.int .i64) ((0 : Int))))), none⟩])
   (.join ⟨[(3, .one (.c (.full 50001 1)))], [(50001, .row true .froz [.int .i64])]⟩ [7, 50000, 50001] [(false, 3, 0, 50001, .froz, [])]
     (.block 0
       (.loop 0 ⟨[(0, .one (.c (.v (.list [.int .i64])))), (3, .one (.c (.full 50000 1))), (4, .one (.c (.v (.int .i64))))], [(50000, .row true .froz [.int .i64])]⟩ [7, 50000, 50001] [(false, 3, 0, 50000, .froz, [])]
         (.seq
          (.seq
           (.reg false [
             ⟨(some 8), .mv (.t 4), none⟩,
             ⟨(some 9), .mv (.t 0), none⟩,
             ⟨(some 10), .len (.t 9), none⟩,
             ⟨(some 11), .bin .lss (.t 8) (.t 10), none⟩])
          (.cond (.t 11)
            .skip
            (.exit 0)))
         (.seq
          (.block 1
            (.reg false [
              ⟨(some 14), .mv (.t 3), none⟩,
              ⟨(some 15), .mv (.t 4), none⟩,
              ⟨(some 16), .mv (.t 0), none⟩,
              ⟨(some 17), .mv (.t 4), none⟩,
              ⟨(some 18), .idxA 1 (.t 16) (.t 17), none⟩,
              ⟨(some 19), .load false 1 (.t 18), none⟩,
              ⟨(some 20), .idxA 1 (.t 14) (.t 15), none⟩,
              ⟨none, .store 1 (.t 20) (.t 19), none⟩]))
         (.reg false [
           ⟨(some 12), .mv (.t 4), none⟩,
           ⟨(some 13), .bin .add (.t 12) (.k (.one (.v (.int .i64) ((1 : Int))))), none⟩,
           ⟨(some 4), .mv (.t 13), none⟩])))))))
  (.seq
   (.reg false [
     ⟨(some 21), .mv (.t 3), none⟩,
     ⟨(some 2), .mv (.t 21), none⟩])
  .ret))))
def ms_laws_toIntS : List MRes := [.tmp 2]
theorem n_laws_toIntS (NN : Nat) (x : DLL (Sig.tys ag_laws_toIntS)) : runS NN [] sc_laws_toIntS ms_laws_toIntS ag_laws_toIntS rs_laws_toIntS x = G_laws_toIntS NN x := by kernel_rfl
theorem k_laws_toIntS : chkS Go.Proofs.Try.prog 135 sc_laws_toIntS.er ms_laws_toIntS 1 = true := by decide +kernel
theorem p_laws_toIntS : PureSpec Go.Proofs.Try.prog 135 fn_laws_toIntS.M ∧ chkFun Go.Proofs.Try.prog 135 = true :=
  pure_of_runS (T := []) (sc := sc_laws_toIntS) (ms := ms_laws_toIntS) (args := ag_laws_toIntS) (res := rs_laws_toIntS) (SOk.nil) follows_ok k_laws_toIntS F_laws_toIntS fun x y h => (n_laws_toIntS FUEL x).trans (f_laws_toIntS x y h)

def fn_laws_toTensor : SFn := ⟨47, ag_laws_toTensor, mu_laws_toTensor, rs_laws_toTensor, F_laws_toTensor⟩
def sc_laws_toTensor : SCode :=
  (.seq
   (.reg false [
     ⟨(some 1), .box 3 (.t 0), none⟩,
     ⟨(some 2), .alloc [.nil [.int .i64], .nil [.int .i64], .nil [.int .i64]], none⟩])
  (.seq
   (.reg false [
     ⟨(some 3), .alloc [.nil [.int .i64], .nil [.int .i64], .nil [.int .i64]], none⟩])
  (.seq
   (.reg false [
     ⟨(some 4), .fieldA 0 (.t 1), none⟩,
     ⟨(some 5), .load false 1 (.t 4), none⟩,
     ⟨(some 6), .call .froz 135 [(.t 5)], none⟩,
     ⟨(some 7), .fieldA 0 (.t 3), none⟩,
     ⟨none, .store 1 (.t 7) (.t 6), none⟩])
  (.seq
   (.reg false [
     ⟨(some 8), .fieldA 1 (.t 1), none⟩,
     ⟨(some 9), .load false 1 (.t 8), none⟩,
     ⟨(some 10), .call .froz 135 [(.t 9)], none⟩,
     ⟨(some 11), .fieldA 1 (.t 3), none⟩,
     ⟨none, .store 1 (.t 11) (.t 10), none⟩])
  (.seq
   (.reg false [
     ⟨(some 12), .fieldA 2 (.t 1), none⟩,
     ⟨(some 13), .load false 1 (.t 12), none⟩,
     ⟨(some 14), .call .froz 135 [(.t 13)], none⟩,
     ⟨(some 15), .fieldA 2 (.t 3), none⟩,
     ⟨none, .store 1 (.t 15) (.t 14), none⟩])
  (.seq
   (.reg false [
     ⟨(some 16), .load true 3 (.t 3), none⟩,
     ⟨none, .store 3 (.t 2) (.t 16), none⟩])
  .ret))))))
def ms_laws_toTensor : List MRes := [.cell 2 3 true]
theorem n_laws_toTensor (NN : Nat) (x : DLL (Sig.tys ag_laws_toTensor)) : runS NN [fn_laws_toIntS] sc_laws_toTensor ms_laws_toTensor ag_laws_toTensor rs_laws_toTensor x = G_laws_toTensor NN x := by kernel_rfl
theorem k_laws_toTensor : chkS Go.Proofs.Try.prog 47 sc_laws_toTensor.er ms_laws_toTensor 1 = true := by decide +kernel
theorem p_laws_toTensor : PureSpec Go.Proofs.Try.prog 47 fn_laws_toTensor.M ∧ chkFun Go.Proofs.Try.prog 47 = true :=
  pure_of_runS (T := [fn_laws_toIntS]) (sc := sc_laws_toTensor) (ms := ms_laws_toTensor) (args := ag_laws_toTensor) (res := rs_laws_toTensor) (SOk.cons p_laws_toIntS <| SOk.nil) follows_ok k_laws_toTensor F_laws_toTensor fun x y h => (n_laws_toTensor FUEL x).trans (f_laws_toTensor x y h)

def fn_laws_toIntSS : SFn := ⟨136, ag_laws_toIntSS, mu_laws_toIntSS, rs_laws_toIntSS, F_laws_toIntSS⟩
def sc_laws_toIntSS : SCode :=
  (.seq
   (.reg false [
     ⟨(some 2), .mv (.k (.one (.nil [.list [.int .i64]]))), none⟩])
  (.seq
   (.reg false [
     ⟨(some 5), .mv (.t 0), none⟩,
     ⟨(some 6), .len (.t 5), none⟩,
     ⟨(some 7), .mkslice .froz [.list [.int .i64]] 24 [] (.t 6) (.t 6), none⟩,
     ⟨(some 3), .mv (.t 7), none⟩])
  (.seq
   (.seq
    (.reg false [
      ⟨(some 4), .mv (.k (.one (.v (.int .i64) ((0 : Int))))), none⟩])
   (.join ⟨[(3, .one (.c (.full 50001 1)))], [(50001, .row true .froz [.list [.int .i64]])]⟩ [7, 21000, 21001, 21002, 21003, 21004, 21005, 50000, 50001] [(false, 3, 0, 50001, .froz, [])]
     (.block 0
       (.loop 0 ⟨[(0, .one (.c (.v (.list [.list [.int .i64]])))), (3, .one (.c (.full 50000 1))), (4, .one (.c (.v (.int .i64))))], [(50000, .row true .froz [.list [.int .i64]])]⟩ [7, 21000, 21001, 21002, 21003, 21004, 21005, 50000, 50001] [(false, 3, 0, 50000, .froz, [])]
         (.seq
          (.seq
           (.reg false [
             ⟨(some 8), .mv (.t 4), none⟩,
             ⟨(some 9), .mv (.t 0), none⟩,
             ⟨(some 10), .len (.t 9), none⟩,
             ⟨(some 11), .bin .lss (.t 8) (.t 10), none⟩])
          (.cond (.t 11)
            .skip
            (.exit 0)))
         (.seq
          (.block 1
            (.reg false [
              ⟨(some 14), .mv (.t 3), none⟩,
              ⟨(some 15), .mv (.t 4), none⟩,
              ⟨(some 16), .mv (.t 0), none⟩,
              ⟨(some 17), .mv (.t 4), none⟩,
              ⟨(some 18), .idxA 1 (.t 16) (.t 17), none⟩,
              ⟨(some 19), .load false 1 (.t 18), none⟩,
              ⟨(some 20), .call .froz 135 [(.t 19)], none⟩,
              ⟨(some 21), .idxA 1 (.t 14) (.t 15), none⟩,
              ⟨none, .store 1 (.t 21) (.t 20), none⟩]))
         (.reg false [
           ⟨(some 12), .mv (.t 4), none⟩,
           ⟨(some 13), .bin .add (.t 12) (.k (.one (.v (.int .i64) ((1 : Int))))), none⟩,
           ⟨(some 4), .mv (.t 13), none⟩])))))))
  (.seq
   (.reg false [
     ⟨(some 22), .mv (.t 3), none⟩,
     ⟨(some 2), .mv (.t 22), none⟩])
  .ret))))
def ms_laws_toIntSS : List MRes := [.tmp 2]
theorem n_laws_toIntSS (NN : Nat) (x : DLL (Sig.tys ag_laws_toIntSS)) : runS NN [fn_laws_toIntS] sc_laws_toIntSS ms_laws_toIntSS ag_laws_toIntSS rs_laws_toIntSS x = G_laws_toIntSS NN x := by kernel_rfl
theorem k_laws_toIntSS : chkS Go.Proofs.Try.prog 136 sc_laws_toIntSS.er ms_laws_toIntSS 1 = true := by decide +kernel
theorem p_laws_toIntSS : PureSpec Go.Proofs.Try.prog 136 fn_laws_toIntSS.M ∧ chkFun Go.Proofs.Try.prog 136 = true :=
  pure_of_runS (T := [fn_laws_toIntS]) (sc := sc_laws_toIntSS) (ms := ms_laws_toIntSS) (args := ag_laws_toIntSS) (res := rs_laws_toIntSS) (SOk.cons p_laws_toIntS <| SOk.nil) follows_ok k_laws_toIntSS F_laws_toIntSS fun x y h => (n_laws_toIntSS FUEL x).trans (f_laws_toIntSS x y h)

def fn_laws_toCharges : SFn := ⟨48, ag_laws_toCharges, mu_laws_toCharges, rs_laws_toCharges, F_laws_toCharges⟩
def sc_laws_toCharges : SCode :=
  (.seq
   (.reg false [
     ⟨(some 1), .box 2 (.t 0), none⟩,
     ⟨(some 2), .alloc [.v (.int .i64) ((0 : Int)), .nil [.list [.int .i64]]], none⟩])
  (.seq
   (.reg false [
     ⟨(some 3), .alloc [.v (.int .i64) ((0 : Int)), .nil [.list [.int .i64]]], none⟩])
  (.seq
   (.reg false [
     ⟨(some 4), .fieldA 0 (.t 1), none⟩,
     ⟨(some 5), .load false 1 (.t 4), none⟩,
     ⟨(some 6), .fieldA 0 (.t 3), none⟩,
     ⟨none, .store 1 (.t 6) (.t 5), none⟩])
  (.seq
   (.reg false [
     ⟨(some 7), .fieldA 1 (.t 1), none⟩,
     ⟨(some 8), .load false 1 (.t 7), none⟩,
     ⟨(some 9), .call .froz 136 [(.t 8)], none⟩,
     ⟨(some 10), .fieldA 1 (.t 3), none⟩,
     ⟨none, .store 1 (.t 10) (.t 9), none⟩])
  (.seq
   (.reg false [
     ⟨(some 11), .load true 2 (.t 3), none⟩,
     ⟨none, .store 2 (.t 2) (.t 11), none⟩])
  .ret)))))
def ms_laws_toCharges : List MRes := [.cell 2 2 true]
theorem n_laws_toCharges (NN : Nat) (x : DLL (Sig.tys ag_laws_toCharges)) : runS NN [fn_laws_toIntSS] sc_laws_toCharges ms_laws_toCharges ag_laws_toCharges rs_laws_toCharges x = G_laws_toCharges NN x := by kernel_rfl
theorem k_laws_toCharges : chkS Go.Proofs.Try.prog 48 sc_laws_toCharges.er ms_laws_toCharges 1 = true := by decide +kernel
theorem p_laws_toCharges : PureSpec Go.Proofs.Try.prog 48 fn_laws_toCharges.M ∧ chkFun Go.Proofs.Try.prog 48 = true :=
  pure_of_runS (T := [fn_laws_toIntSS]) (sc := sc_laws_toCharges) (ms := ms_laws_toCharges) (args := ag_laws_toCharges) (res := rs_laws_toCharges) (SOk.cons p_laws_toIntSS <| SOk.nil) follows_ok k_laws_toCharges F_laws_toCharges fun x y h => (n_laws_toCharges FUEL x).trans (f_laws_toCharges x y h)

def fn_spec_l01In : SFn := ⟨134, ag_spec_l01In, mu_spec_l01In, rs_spec_l01In, F_spec_l01In⟩
def sc_spec_l01In : SCode :=
  (.seq
   (.reg false [
     ⟨(some 6), .mv (.k (.one (.v (.bool) (false)))), none⟩])
  (.seq
   (.reg false [
     ⟨(some 7), .mv (.t 0), none⟩,
     ⟨(some 8), .mv (.t 1), none⟩,
     ⟨(some 9), .bin .geq (.t 7) (.t 8), none⟩,
     ⟨(some 10), .mv (.t 9), none⟩,
     ⟨(some 11), .mv (.t 0), (some (10, true))⟩,
     ⟨(some 12), .mv (.t 2), (some (10, true))⟩,
     ⟨(some 13), .bin .leq (.t 11) (.t 12), (some (10, true))⟩,
     ⟨(some 14), .pick (.t 10) (.t 13) (.k (.one (.v (.bool) (false)))), none⟩,
     ⟨(some 6), .mv (.t 14), none⟩])
  .ret))
def ms_spec_l01In : List MRes := [.tmp 6]
theorem n_spec_l01In (NN : Nat) (x : DLL (Sig.tys ag_spec_l01In)) : runS NN [] sc_spec_l01In ms_spec_l01In ag_spec_l01In rs_spec_l01In x = G_spec_l01In NN x := by kernel_rfl
theorem k_spec_l01In : chkS Go.Proofs.Try.prog 134 sc_spec_l01In.er ms_spec_l01In 3 = true := by decide +kernel
theorem p_spec_l01In : PureSpec Go.Proofs.Try.prog 134 fn_spec_l01In.M ∧ chkFun Go.Proofs.Try.prog 134 = true :=
  pure_of_runS (T := []) (sc := sc_spec_l01In) (ms := ms_spec_l01In) (args := ag_spec_l01In) (res := rs_spec_l01In) (SOk.nil) follows_ok k_spec_l01In F_spec_l01In fun x y h => (n_spec_l01In FUEL x).trans (f_spec_l01In x y h)

def fn_spec_l05Find : SFn := ⟨109, ag_spec_l05Find, mu_spec_l05Find, rs_spec_l05Find, F_spec_l05Find⟩
def sc_spec_l05Find : SCode :=
  (.seq
   (.reg false [
     ⟨(some 4), .mv (.k (.one (.v (.int .i64) ((0 : Int))))), none⟩])
  (.seq
   (.seq
    (.reg false [
      ⟨(some 7), .mv (.t 0), none⟩,
      ⟨(some 8), .len (.t 7), none⟩,
      ⟨(some 9), .mv (.k (.one (.v (.int .i64) ((0 : Int))))), none⟩])
   (.join ⟨[], []⟩ [] []
     (.block 0
       (.loop 0 ⟨[(1, .one (.c (.v (.int .i64)))), (7, .one (.c (.v (.list [.int .i64])))), (8, .one (.c (.v (.int .i64)))), (9, .one (.c (.v (.int .i64))))], []⟩ [] []
         (.seq
          (.reg false [
            ⟨(some 10), .bin .lss (.t 9) (.t 8), none⟩])
         (.seq
          (.cond (.t 10)
            .skip
            (.exit 0))
         (.seq
          (.block 1
            (.seq
             (.reg false [
               ⟨(some 11), .mv (.t 9), none⟩,
               ⟨(some 12), .idxA 1 (.t 7) (.t 9), none⟩,
               ⟨(some 13), .load false 1 (.t 12), none⟩,
               ⟨(some 5), .mv (.t 11), none⟩,
               ⟨(some 6), .mv (.t 13), none⟩])
            (.seq
             (.reg false [
               ⟨(some 14), .mv (.t 6), none⟩,
               ⟨(some 15), .mv (.t 1), none⟩,
               ⟨(some 16), .bin .eql (.t 14) (.t 15), none⟩])
            (.cond (.t 16)
              (.seq
               (.reg false [
                 ⟨(some 17), .mv (.t 5), none⟩,
                 ⟨(some 4), .mv (.t 17), none⟩])
              .ret)
              .skip))))
         (.reg false [
           ⟨(some 18), .bin .add (.t 9) (.k (.one (.v (.int .i64) ((1 : Int))))), none⟩,
           ⟨(some 9), .mv (.t 18), none⟩]))))))))
  (.seq
   (.reg false [
     ⟨(some 4), .mv (.k (.one (.v (.int .i64) (((-1) : Int))))), none⟩])
  .ret)))
def ms_spec_l05Find : List MRes := [.tmp 4]
theorem n_spec_l05Find (NN : Nat) (x : DLL (Sig.tys ag_spec_l05Find)) : runS NN [] sc_spec_l05Find ms_spec_l05Find ag_spec_l05Find rs_spec_l05Find x = G_spec_l05Find NN x := by kernel_rfl
theorem k_spec_l05Find : chkS Go.Proofs.Try.prog 109 sc_spec_l05Find.er ms_spec_l05Find 2 = true := by decide +kernel
theorem p_spec_l05Find : PureSpec Go.Proofs.Try.prog 109 fn_spec_l05Find.M ∧ chkFun Go.Proofs.Try.prog 109 = true :=
  pure_of_runS (T := []) (sc := sc_spec_l05Find) (ms := ms_spec_l05Find) (args := ag_spec_l05Find) (res := rs_spec_l05Find) (SOk.nil) follows_ok k_spec_l05Find F_spec_l05Find fun x y h => (n_spec_l05Find FUEL x).trans (f_spec_l05Find x y h)

def fn_spec_l05Axes : SFn := ⟨204, ag_spec_l05Axes, mu_spec_l05Axes, rs_spec_l05Axes, F_spec_l05Axes⟩
def sc_spec_l05Axes : SCode :=
  (.seq
   (.reg false [
     ⟨(some 4), .mv (.k (.one (.v (.bool) (false)))), none⟩])
  (.seq
   (.seq
    (.reg false [
      ⟨(some 7), .mv (.t 0), none⟩,
      ⟨(some 8), .len (.t 7), none⟩,
      ⟨(some 9), .bin .gtr (.t 8) (.k (.one (.v (.int .i64) ((12 : Int))))), none⟩,
      ⟨(some 10), .mv (.t 9), none⟩,
      ⟨(some 11), .mv (.t 0), (some (10, false))⟩,
      ⟨(some 12), .len (.t 11), (some (10, false))⟩,
      ⟨(some 13), .mv (.t 1), (some (10, false))⟩,
      ⟨(some 14), .len (.t 13), (some (10, false))⟩,
      ⟨(some 15), .bin .neq (.t 12) (.t 14), (some (10, false))⟩,
      ⟨(some 16), .pick (.t 10) (.k (.one (.v (.bool) (true)))) (.t 15), none⟩])
   (.cond (.t 16)
     (.seq
      (.reg false [
        ⟨(some 4), .mv (.k (.one (.v (.bool) (false)))), none⟩])
     .ret)
     .skip))
  (.seq
   (.seq
    (.reg false [
      ⟨(some 17), .mv (.t 0), none⟩,
      ⟨(some 18), .len (.t 17), none⟩,
      ⟨(some 19), .mv (.k (.one (.v (.int .i64) ((0 : Int))))), none⟩])
   (.join ⟨[], []⟩ [26000, 26001, 26002, 26003, 26004, 26005, 33000, 33001, 33002, 33003, 33004, 33005, 41000, 41001, 41002, 41003, 41004, 41005] []
     (.block 0
       (.loop 0 ⟨[(0, .one (.c (.v (.list [.int .i64])))), (1, .one (.c (.v (.list [.int .i64])))), (17, .one (.c (.v (.list [.int .i64])))), (18, .one (.c (.v (.int .i64)))), (19, .one (.c (.v (.int .i64))))], []⟩ [26000, 26001, 26002, 26003, 26004, 26005, 33000, 33001, 33002, 33003, 33004, 33005, 41000, 41001, 41002, 41003, 41004, 41005] []
         (.seq
          (.reg false [
            ⟨(some 20), .bin .lss (.t 19) (.t 18), none⟩])
         (.seq
          (.cond (.t 20)
            .skip
            (.exit 0))
         (.seq
          (.block 1
            (.seq
             (.reg false [
               ⟨(some 21), .mv (.t 19), none⟩,
               ⟨(some 22), .idxA 1 (.t 17) (.t 19), none⟩,
               ⟨(some 23), .load false 1 (.t 22), none⟩,
               ⟨(some 5), .mv (.t 21), none⟩,
               ⟨(some 6), .mv (.t 23), none⟩])
            (.seq
             (.reg false [
               ⟨(some 24), .mv (.t 6), none⟩,
               ⟨(some 25), .call .froz 134 [(.t 24), (.k (.one (.v (.int .i64) ((0 : Int))))), (.k (.one (.v (.int .i64) ((99 : Int)))))], none⟩,
               ⟨(some 26), .un .not (.t 25), none⟩,
               ⟨(some 27), .mv (.t 26), none⟩,
               ⟨(some 28), .mv (.t 1), (some (27, false))⟩,
               ⟨(some 29), .mv (.t 5), (some (27, false))⟩,
               ⟨(some 30), .idxA 1 (.t 28) (.t 29), (some (27, false))⟩,
               ⟨(some 31), .load false 1 (.t 30), (some (27, false))⟩,
               ⟨(some 32), .call .froz 134 [(.t 31), (.k (.one (.v (.int .i64) ((1 : Int))))), (.k (.one (.v (.int .i64) ((8 : Int)))))], (some (27, false))⟩,
               ⟨(some 33), .un .not (.t 32), (some (27, false))⟩,
               ⟨(some 34), .pick (.t 27) (.k (.one (.v (.bool) (true)))) (.t 33), none⟩,
               ⟨(some 35), .mv (.t 34), none⟩,
               ⟨(some 36), .mv (.t 0), (some (35, false))⟩,
               ⟨(some 37), .mv (.t 5), (some (35, false))⟩,
               ⟨(some 38), .slice 1 (.t 36) none (some (.t 37)), (some (35, false))⟩,
               ⟨(some 39), .mv (.t 6), (some (35, false))⟩,
               ⟨(some 40), .call .froz 109 [(.t 38), (.t 39)], (some (35, false))⟩,
               ⟨(some 41), .bin .geq (.t 40) (.k (.one (.v (.int .i64) ((0 : Int))))), (some (35, false))⟩,
               ⟨(some 42), .pick (.t 35) (.k (.one (.v (.bool) (true)))) (.t 41), none⟩])
            (.cond (.t 42)
              (.seq
               (.reg false [
                 ⟨(some 4), .mv (.k (.one (.v (.bool) (false)))), none⟩])
              .ret)
              .skip))))
         (.reg false [
           ⟨(some 43), .bin .add (.t 19) (.k (.one (.v (.int .i64) ((1 : Int))))), none⟩,
           ⟨(some 19), .mv (.t 43), none⟩]))))))))
  (.seq
   (.reg false [
     ⟨(some 4), .mv (.k (.one (.v (.bool) (true)))), none⟩])
  .ret))))
def ms_spec_l05Axes : List MRes := [.tmp 4]
theorem n_spec_l05Axes (NN : Nat) (x : DLL (Sig.tys ag_spec_l05Axes)) : runS NN [fn_spec_l01In, fn_spec_l05Find] sc_spec_l05Axes ms_spec_l05Axes ag_spec_l05Axes rs_spec_l05Axes x = G_spec_l05Axes NN x := by kernel_rfl
theorem k_spec_l05Axes : chkS Go.Proofs.Try.prog 204 sc_spec_l05Axes.er ms_spec_l05Axes 2 = true := by decide +kernel
theorem p_spec_l05Axes : PureSpec Go.Proofs.Try.prog 204 fn_spec_l05Axes.M ∧ chkFun Go.Proofs.Try.prog 204 = true :=
  pure_of_runS (T := [fn_spec_l01In, fn_spec_l05Find]) (sc := sc_spec_l05Axes) (ms := ms_spec_l05Axes) (args := ag_spec_l05Axes) (res := rs_spec_l05Axes) (SOk.cons p_spec_l01In <| SOk.cons p_spec_l05Find <| SOk.nil) follows_ok k_spec_l05Axes F_spec_l05Axes fun x y h => (n_spec_l05Axes FUEL x).trans (f_spec_l05Axes x y h)

def fn_spec_l05Product : SFn := ⟨142, ag_spec_l05Product, mu_spec_l05Product, rs_spec_l05Product, F_spec_l05Product⟩
def sc_spec_l05Product : SCode :=
  (.seq
   (.reg false [
     ⟨(some 4), .mv (.k (.one (.v (.int .i64) ((0 : Int))))), none⟩])
  (.seq
   (.reg false [
     ⟨(some 5), .mv (.k (.one (.v (.int .i64) ((1 : Int))))), none⟩])
  (.seq
   (.seq
    (.reg false [
      ⟨(some 8), .mv (.t 0), none⟩,
      ⟨(some 9), .len (.t 8), none⟩,
      ⟨(some 10), .mv (.k (.one (.v (.int .i64) ((0 : Int))))), none⟩])
   (.join ⟨[(5, .one (.c (.v (.int .i64))))], []⟩ [] []
     (.block 0
       (.loop 0 ⟨[(1, .one (.c (.v (.int .i64)))), (5, .one (.c (.v (.int .i64)))), (8, .one (.c (.v (.list [.int .i64])))), (9, .one (.c (.v (.int .i64)))), (10, .one (.c (.v (.int .i64))))], []⟩ [] []
         (.seq
          (.reg false [
            ⟨(some 11), .bin .lss (.t 10) (.t 9), none⟩])
         (.seq
          (.cond (.t 11)
            .skip
            (.exit 0))
         (.seq
          (.block 1
            (.seq
             (.reg false [
               ⟨(some 12), .idxA 1 (.t 8) (.t 10), none⟩,
               ⟨(some 13), .load false 1 (.t 12), none⟩,
               ⟨(some 7), .mv (.t 13), none⟩])
            (.reg false [
              ⟨(some 14), .mv (.t 5), none⟩,
              ⟨(some 15), .mv (.t 7), none⟩,
              ⟨(some 16), .bin .mul (.t 14) (.t 15), none⟩,
              ⟨(some 17), .mv (.t 1), none⟩,
              ⟨(some 18), .bin .add (.t 17) (.k (.one (.v (.int .i64) ((1 : Int))))), none⟩,
              ⟨(some 19), .mm false (.t 16) (.t 18), none⟩,
              ⟨(some 5), .mv (.t 19), none⟩])))
         (.reg false [
           ⟨(some 20), .bin .add (.t 10) (.k (.one (.v (.int .i64) ((1 : Int))))), none⟩,
           ⟨(some 10), .mv (.t 20), none⟩]))))))))
  (.seq
   (.reg false [
     ⟨(some 21), .mv (.t 5), none⟩,
     ⟨(some 4), .mv (.t 21), none⟩])
  .ret))))
def ms_spec_l05Product : List MRes := [.tmp 4]
theorem n_spec_l05Product (NN : Nat) (x : DLL (Sig.tys ag_spec_l05Product)) : runS NN [] sc_spec_l05Product ms_spec_l05Product ag_spec_l05Product rs_spec_l05Product x = G_spec_l05Product NN x := by kernel_rfl
theorem k_spec_l05Product : chkS Go.Proofs.Try.prog 142 sc_spec_l05Product.er ms_spec_l05Product 2 = true := by decide +kernel
theorem p_spec_l05Product : PureSpec Go.Proofs.Try.prog 142 fn_spec_l05Product.M ∧ chkFun Go.Proofs.Try.prog 142 = true :=
  pure_of_runS (T := []) (sc := sc_spec_l05Product) (ms := ms_spec_l05Product) (args := ag_spec_l05Product) (res := rs_spec_l05Product) (SOk.nil) follows_ok k_spec_l05Product F_spec_l05Product fun x y h => (n_spec_l05Product FUEL x).trans (f_spec_l05Product x y h)

def fn_spec_TensorSize : SFn := ⟨133, ag_spec_TensorSize, mu_spec_TensorSize, rs_spec_TensorSize, F_spec_TensorSize⟩
def sc_spec_TensorSize : SCode :=
  (.seq
   (.reg false [
     ⟨(some 1), .box 3 (.t 0), none⟩,
     ⟨(some 2), .mv (.k (.one (.v (.int .i64) ((0 : Int))))), none⟩])
  (.seq
   (.seq
    (.reg false [
      ⟨(some 4), .fieldA 0 (.t 1), none⟩,
      ⟨(some 5), .load false 1 (.t 4), none⟩,
      ⟨(some 6), .fieldA 1 (.t 1), none⟩,
      ⟨(some 7), .load false 1 (.t 6), none⟩,
      ⟨(some 8), .call .froz 204 [(.t 5), (.t 7)], none⟩,
      ⟨(some 9), .un .not (.t 8), none⟩])
   (.cond (.t 9)
     (.seq
      (.reg false [
        ⟨(some 2), .mv (.k (.one (.v (.int .i64) (((-1) : Int))))), none⟩])
     .ret)
     .skip))
  (.seq
   (.reg false [
     ⟨(some 10), .fieldA 1 (.t 1), none⟩,
     ⟨(some 11), .load false 1 (.t 10), none⟩,
     ⟨(some 12), .call .froz 142 [(.t 11), (.k (.one (.v (.int .i64) ((4096 : Int)))))], none⟩,
     ⟨(some 3), .mv (.t 12), none⟩])
  (.seq
   (.seq
    (.reg false [
      ⟨(some 13), .mv (.t 3), none⟩,
      ⟨(some 14), .bin .gtr (.t 13) (.k (.one (.v (.int .i64) ((4096 : Int))))), none⟩])
   (.cond (.t 14)
     (.seq
      (.reg false [
        ⟨(some 2), .mv (.k (.one (.v (.int .i64) (((-1) : Int))))), none⟩])
     .ret)
     .skip))
  (.seq
   (.reg false [
     ⟨(some 15), .mv (.t 3), none⟩,
     ⟨(some 2), .mv (.t 15), none⟩])
  .ret)))))
def ms_spec_TensorSize : List MRes := [.tmp 2]
theorem n_spec_TensorSize (NN : Nat) (x : DLL (Sig.tys ag_spec_TensorSize)) : runS NN [fn_spec_l05Axes, fn_spec_l05Product] sc_spec_TensorSize ms_spec_TensorSize ag_spec_TensorSize rs_spec_TensorSize x = G_spec_TensorSize NN x := by kernel_rfl
theorem k_spec_TensorSize : chkS Go.Proofs.Try.prog 133 sc_spec_TensorSize.er ms_spec_TensorSize 1 = true := by decide +kernel
theorem p_spec_TensorSize : PureSpec Go.Proofs.Try.prog 133 fn_spec_TensorSize.M ∧ chkFun Go.Proofs.Try.prog 133 = true :=
  pure_of_runS (T := [fn_spec_l05Axes, fn_spec_l05Product]) (sc := sc_spec_TensorSize) (ms := ms_spec_TensorSize) (args := ag_spec_TensorSize) (res := rs_spec_TensorSize) (SOk.cons p_spec_l05Axes <| SOk.cons p_spec_l05Product <| SOk.nil) follows_ok k_spec_TensorSize F_spec_TensorSize fun x y h => (n_spec_TensorSize FUEL x).trans (f_spec_TensorSize x y h)

def fn_spec_ChargesOk : SFn := ⟨46, ag_spec_ChargesOk, mu_spec_ChargesOk, rs_spec_ChargesOk, F_spec_ChargesOk⟩
def sc_spec_ChargesOk : SCode :=
  (.seq
   (.reg false [
     ⟨(some 2), .box 3 (.t 0), none⟩,
     ⟨(some 3), .box 2 (.t 1), none⟩,
     ⟨(some 4), .mv (.k (.one (.v (.bool) (false)))), none⟩])
  (.seq
   (.seq
    (.reg false [
      ⟨(some 9), .load true 3 (.t 2), none⟩,
      ⟨(some 10), .call .froz 133 [(.t 9)], none⟩,
      ⟨(some 11), .bin .lss (.t 10) (.k (.one (.v (.int .i64) ((0 : Int))))), none⟩,
      ⟨(some 12), .mv (.t 11), none⟩,
      ⟨(some 13), .fieldA 0 (.t 3), (some (12, false))⟩,
      ⟨(some 14), .load false 1 (.t 13), (some (12, false))⟩,
      ⟨(some 15), .call .froz 134 [(.t 14), (.k (.one (.v (.int .i64) ((1 : Int))))), (.k (.one (.v (.int .i64) ((12 : Int)))))], (some (12, false))⟩,
      ⟨(some 16), .un .not (.t 15), (some (12, false))⟩,
      ⟨(some 17), .pick (.t 12) (.k (.one (.v (.bool) (true)))) (.t 16), none⟩,
      ⟨(some 18), .mv (.t 17), none⟩,
      ⟨(some 19), .fieldA 1 (.t 3), (some (18, false))⟩,
      ⟨(some 20), .load false 1 (.t 19), (some (18, false))⟩,
      ⟨(some 21), .len (.t 20), (some (18, false))⟩,
      ⟨(some 22), .fieldA 1 (.t 2), (some (18, false))⟩,
      ⟨(some 23), .load false 1 (.t 22), (some (18, false))⟩,
      ⟨(some 24), .len (.t 23), (some (18, false))⟩,
      ⟨(some 25), .bin .neq (.t 21) (.t 24), (some (18, false))⟩,
      ⟨(some 26), .pick (.t 18) (.k (.one (.v (.bool) (true)))) (.t 25), none⟩])
   (.cond (.t 26)
     (.seq
      (.reg false [
        ⟨(some 4), .mv (.k (.one (.v (.bool) (false)))), none⟩])
     .ret)
     .skip))
  (.seq
   (.seq
    (.reg false [
      ⟨(some 27), .fieldA 1 (.t 2), none⟩,
      ⟨(some 28), .load false 1 (.t 27), none⟩,
      ⟨(some 29), .len (.t 28), none⟩,
      ⟨(some 30), .mv (.k (.one (.v (.int .i64) ((0 : Int))))), none⟩])
   (.join ⟨[], []⟩ [2, 3, 11000, 11001, 11002, 11003, 11004, 11005, 16000, 16001, 16002, 16003, 16004, 16005, 58000, 58001, 58002, 58003, 58004, 58005] []
     (.block 0
       (.loop 0 ⟨[(3, .one (.c (.ptr0 3 0))), (28, .one (.c (.v (.list [.int .i64])))), (29, .one (.c (.v (.int .i64)))), (30, .one (.c (.v (.int .i64))))], [(3, .box [.c (.v (.int .i64)), .c (.v (.list [.list [.int .i64]]))])]⟩ [2, 3, 11000, 11001, 11002, 11003, 11004, 11005, 16000, 16001, 16002, 16003, 16004, 16005, 58000, 58001, 58002, 58003, 58004, 58005] []
         (.seq
          (.reg false [
            ⟨(some 31), .bin .lss (.t 30) (.t 29), none⟩])
         (.seq
          (.cond (.t 31)
            .skip
            (.exit 0))
         (.seq
          (.join ⟨[(30, .one (.c (.v (.int .i64)))), (3, .one (.c (.ptr0 3 0))), (28, .one (.c (.v (.list [.int .i64])))), (29, .one (.c (.v (.int .i64))))], [(3, .box [.c (.v (.int .i64)), .c (.v (.list [.list [.int .i64]]))])]⟩ [2, 3, 11000, 11001, 11002, 11003, 11004, 11005, 16000, 16001, 16002, 16003, 16004, 16005, 58000, 58001, 58002, 58003, 58004, 58005] []
            (.block 1
              (.seq
               (.reg false [
                 ⟨(some 32), .mv (.t 30), none⟩,
                 ⟨(some 33), .idxA 1 (.t 28) (.t 30), none⟩,
                 ⟨(some 34), .load false 1 (.t 33), none⟩,
                 ⟨(some 5), .mv (.t 32), none⟩,
                 ⟨(some 6), .mv (.t 34), none⟩])
              (.seq
               (.seq
                (.reg false [
                  ⟨(some 35), .fieldA 1 (.t 3), none⟩,
                  ⟨(some 36), .load false 1 (.t 35), none⟩,
                  ⟨(some 37), .mv (.t 5), none⟩,
                  ⟨(some 38), .idxA 1 (.t 36) (.t 37), none⟩,
                  ⟨(some 39), .load false 1 (.t 38), none⟩,
                  ⟨(some 40), .len (.t 39), none⟩,
                  ⟨(some 41), .mv (.t 6), none⟩,
                  ⟨(some 42), .bin .neq (.t 40) (.t 41), none⟩])
               (.cond (.t 42)
                 (.seq
                  (.reg false [
                    ⟨(some 4), .mv (.k (.one (.v (.bool) (false)))), none⟩])
                 .ret)
                 .skip))
              (.seq
               (.reg false [
                 ⟨(some 43), .fieldA 1 (.t 3), none⟩,
                 ⟨(some 44), .load false 1 (.t 43), none⟩,
                 ⟨(some 45), .mv (.t 5), none⟩,
                 ⟨(some 46), .idxA 1 (.t 44) (.t 45), none⟩,
                 ⟨(some 47), .load false 1 (.t 46), none⟩,
                 ⟨(some 48), .len (.t 47), none⟩,
                 ⟨(some 49), .mv (.k (.one (.v (.int .i64) ((0 : Int))))), none⟩])
              (.block 2
                (.loop 0 ⟨[(3, .one (.c (.ptr0 3 0))), (28, .one (.c (.v (.list [.int .i64])))), (29, .one (.c (.v (.int .i64)))), (30, .one (.c (.v (.int .i64)))), (47, .one (.c (.v (.list [.int .i64])))), (48, .one (.c (.v (.int .i64)))), (49, .one (.c (.v (.int .i64))))], [(3, .box [.c (.v (.int .i64)), .c (.v (.list [.list [.int .i64]]))])]⟩ [2, 3, 11000, 11001, 11002, 11003, 11004, 11005, 16000, 16001, 16002, 16003, 16004, 16005, 58000, 58001, 58002, 58003, 58004, 58005] []
                  (.seq
                   (.reg false [
                     ⟨(some 50), .bin .lss (.t 49) (.t 48), none⟩])
                  (.seq
                   (.cond (.t 50)
                     .skip
                     (.exit 2))
                  (.seq
                   (.block 3
                     (.seq
                      (.reg false [
                        ⟨(some 51), .idxA 1 (.t 47) (.t 49), none⟩,
                        ⟨(some 52), .load false 1 (.t 51), none⟩,
                        ⟨(some 8), .mv (.t 52), none⟩])
                     (.seq
                      (.reg false [
                        ⟨(some 53), .mv (.t 8), none⟩,
                        ⟨(some 54), .fieldA 0 (.t 3), none⟩,
                        ⟨(some 55), .load false 1 (.t 54), none⟩,
                        ⟨(some 56), .bin .sub (.t 55) (.k (.one (.v (.int .i64) ((1 : Int))))), none⟩,
                        ⟨(some 57), .call .froz 134 [(.t 53), (.k (.one (.v (.int .i64) ((0 : Int))))), (.t 56)], none⟩,
                        ⟨(some 58), .un .not (.t 57), none⟩])
                     (.cond (.t 58)
                       (.seq
                        (.reg false [
                          ⟨(some 4), .mv (.k (.one (.v (.bool) (false)))), none⟩])
                       .ret)
                       .skip))))
                  (.reg false [
                    ⟨(some 59), .bin .add (.t 49) (.k (.one (.v (.int .i64) ((1 : Int))))), none⟩,
                    ⟨(some 49), .mv (.t 59), none⟩])))))))))))
         (.reg false [
           ⟨(some 60), .bin .add (.t 30) (.k (.one (.v (.int .i64) ((1 : Int))))), none⟩,
           ⟨(some 30), .mv (.t 60), none⟩]))))))))
  (.seq
   (.reg false [
     ⟨(some 4), .mv (.k (.one (.v (.bool) (true)))), none⟩])
  .ret))))
def ms_spec_ChargesOk : List MRes := [.tmp 4]
theorem n_spec_ChargesOk (NN : Nat) (x : DLL (Sig.tys ag_spec_ChargesOk)) : runS NN [fn_spec_TensorSize, fn_spec_l01In] sc_spec_ChargesOk ms_spec_ChargesOk ag_spec_ChargesOk rs_spec_ChargesOk x = G_spec_ChargesOk NN x := by kernel_rfl
theorem k_spec_ChargesOk : chkS Go.Proofs.Try.prog 46 sc_spec_ChargesOk.er ms_spec_ChargesOk 2 = true := by decide +kernel
theorem p_spec_ChargesOk : PureSpec Go.Proofs.Try.prog 46 fn_spec_ChargesOk.M ∧ chkFun Go.Proofs.Try.prog 46 = true :=
  pure_of_runS (T := [fn_spec_TensorSize, fn_spec_l01In]) (sc := sc_spec_ChargesOk) (ms := ms_spec_ChargesOk) (args := ag_spec_ChargesOk) (res := rs_spec_ChargesOk) (SOk.cons p_spec_TensorSize <| SOk.cons p_spec_l01In <| SOk.nil) follows_ok k_spec_ChargesOk F_spec_ChargesOk fun x y h => (n_spec_ChargesOk FUEL x).trans (f_spec_ChargesOk x y h)

def fn_impl_hasInt : SFn := ⟨198, ag_impl_hasInt, mu_impl_hasInt, rs_impl_hasInt, F_impl_hasInt⟩
def sc_impl_hasInt : SCode :=
  (.seq
   (.reg false [
     ⟨(some 4), .mv (.k (.one (.v (.bool) (false)))), none⟩])
  (.seq
   (.seq
    (.reg false [
      ⟨(some 7), .mv (.t 0), none⟩,
      ⟨(some 8), .len (.t 7), none⟩,
      ⟨(some 9), .mv (.k (.one (.v (.int .i64) ((0 : Int))))), none⟩])
   (.join ⟨[], []⟩ [] []
     (.block 0
       (.loop 0 ⟨[(1, .one (.c (.v (.int .i64)))), (7, .one (.c (.v (.list [.int .i64])))), (8, .one (.c (.v (.int .i64)))), (9, .one (.c (.v (.int .i64))))], []⟩ [] []
         (.seq
          (.reg false [
            ⟨(some 10), .bin .lss (.t 9) (.t 8), none⟩])
         (.seq
          (.cond (.t 10)
            .skip
            (.exit 0))
         (.seq
          (.block 1
            (.seq
             (.reg false [
               ⟨(some 11), .idxA 1 (.t 7) (.t 9), none⟩,
               ⟨(some 12), .load false 1 (.t 11), none⟩,
               ⟨(some 6), .mv (.t 12), none⟩])
            (.seq
             (.reg false [
               ⟨(some 13), .mv (.t 1), none⟩,
               ⟨(some 14), .mv (.t 6), none⟩,
               ⟨(some 15), .bin .eql (.t 13) (.t 14), none⟩])
            (.cond (.t 15)
              (.seq
               (.reg false [
                 ⟨(some 4), .mv (.k (.one (.v (.bool) (true)))), none⟩])
              .ret)
              .skip))))
         (.reg false [
           ⟨(some 16), .bin .add (.t 9) (.k (.one (.v (.int .i64) ((1 : Int))))), none⟩,
           ⟨(some 9), .mv (.t 16), none⟩]))))))))
  (.seq
   (.reg false [
     ⟨(some 4), .mv (.k (.one (.v (.bool) (false)))), none⟩])
  .ret)))
def ms_impl_hasInt : List MRes := [.tmp 4]
theorem n_impl_hasInt (NN : Nat) (x : DLL (Sig.tys ag_impl_hasInt)) : runS NN [] sc_impl_hasInt ms_impl_hasInt ag_impl_hasInt rs_impl_hasInt x = G_impl_hasInt NN x := by kernel_rfl
theorem k_impl_hasInt : chkS Go.Proofs.Try.prog 198 sc_impl_hasInt.er ms_impl_hasInt 2 = true := by decide +kernel
theorem p_impl_hasInt : PureSpec Go.Proofs.Try.prog 198 fn_impl_hasInt.M ∧ chkFun Go.Proofs.Try.prog 198 = true :=
  pure_of_runS (T := []) (sc := sc_impl_hasInt) (ms := ms_impl_hasInt) (args := ag_impl_hasInt) (res := rs_impl_hasInt) (SOk.nil) follows_ok k_impl_hasInt F_impl_hasInt fun x y h => (n_impl_hasInt FUEL x).trans (f_impl_hasInt x y h)

def fn_impl_TensorSize : SFn := ⟨95, ag_impl_TensorSize, mu_impl_TensorSize, rs_impl_TensorSize, F_impl_TensorSize⟩
def sc_impl_TensorSize : SCode :=
  (.seq
   (.reg false [
     ⟨(some 1), .box 3 (.t 0), none⟩,
     ⟨(some 2), .mv (.k (.one (.v (.int .i64) ((0 : Int))))), none⟩])
  (.seq
   (.seq
    (.reg false [
      ⟨(some 7), .fieldA 0 (.t 1), none⟩,
      ⟨(some 8), .load false 1 (.t 7), none⟩,
      ⟨(some 9), .len (.t 8), none⟩,
      ⟨(some 10), .bin .gtr (.t 9) (.k (.one (.v (.int .i64) ((12 : Int))))), none⟩,
      ⟨(some 11), .mv (.t 10), none⟩,
      ⟨(some 12), .fieldA 0 (.t 1), (some (11, false))⟩,
      ⟨(some 13), .load false 1 (.t 12), (some (11, false))⟩,
      ⟨(some 14), .len (.t 13), (some (11, false))⟩,
      ⟨(some 15), .fieldA 1 (.t 1), (some (11, false))⟩,
      ⟨(some 16), .load false 1 (.t 15), (some (11, false))⟩,
      ⟨(some 17), .len (.t 16), (some (11, false))⟩,
      ⟨(some 18), .bin .neq (.t 14) (.t 17), (some (11, false))⟩,
      ⟨(some 19), .pick (.t 11) (.k (.one (.v (.bool) (true)))) (.t 18), none⟩])
   (.cond (.t 19)
     (.seq
      (.reg false [
        ⟨(some 2), .mv (.k (.one (.v (.int .i64) (((-1) : Int))))), none⟩])
     .ret)
     .skip))
  (.seq
   (.reg false [
     ⟨(some 3), .mv (.k (.one (.v (.int .i64) ((1 : Int))))), none⟩])
  (.seq
   (.seq
    (.reg false [
      ⟨(some 20), .fieldA 0 (.t 1), none⟩,
      ⟨(some 21), .load false 1 (.t 20), none⟩,
      ⟨(some 22), .len (.t 21), none⟩,
      ⟨(some 23), .mv (.k (.one (.v (.int .i64) ((0 : Int))))), none⟩])
   (.join ⟨[(3, .one (.c (.v (.int .i64))))], []⟩ [1, 41000, 41001, 41002, 41003, 41004, 41005] []
     (.block 0
       (.loop 0 ⟨[(1, .one (.c (.ptr0 1 0))), (3, .one (.c (.v (.int .i64)))), (21, .one (.c (.v (.list [.int .i64])))), (22, .one (.c (.v (.int .i64)))), (23, .one (.c (.v (.int .i64))))], [(1, .box [.c (.v (.list [.int .i64])), .c (.v (.list [.int .i64])), .c (.v (.list [.int .i64]))])]⟩ [1, 41000, 41001, 41002, 41003, 41004, 41005] []
         (.seq
          (.reg false [
            ⟨(some 24), .bin .lss (.t 23) (.t 22), none⟩])
         (.seq
          (.cond (.t 24)
            .skip
            (.exit 0))
         (.seq
          (.block 1
            (.seq
             (.reg false [
               ⟨(some 25), .mv (.t 23), none⟩,
               ⟨(some 26), .idxA 1 (.t 21) (.t 23), none⟩,
               ⟨(some 27), .load false 1 (.t 26), none⟩,
               ⟨(some 4), .mv (.t 25), none⟩,
               ⟨(some 5), .mv (.t 27), none⟩])
            (.seq
             (.seq
              (.reg false [
                ⟨(some 28), .mv (.t 5), none⟩,
                ⟨(some 29), .bin .lss (.t 28) (.k (.one (.v (.int .i64) ((0 : Int))))), none⟩,
                ⟨(some 30), .mv (.t 29), none⟩,
                ⟨(some 31), .mv (.t 5), (some (30, false))⟩,
                ⟨(some 32), .bin .gtr (.t 31) (.k (.one (.v (.int .i64) ((99 : Int))))), (some (30, false))⟩,
                ⟨(some 33), .pick (.t 30) (.k (.one (.v (.bool) (true)))) (.t 32), none⟩,
                ⟨(some 34), .mv (.t 33), none⟩,
                ⟨(some 35), .fieldA 0 (.t 1), (some (34, false))⟩,
                ⟨(some 36), .load false 1 (.t 35), (some (34, false))⟩,
                ⟨(some 37), .mv (.t 4), (some (34, false))⟩,
                ⟨(some 38), .slice 1 (.t 36) none (some (.t 37)), (some (34, false))⟩,
                ⟨(some 39), .mv (.t 5), (some (34, false))⟩,
                ⟨(some 40), .call .froz 198 [(.t 38), (.t 39)], (some (34, false))⟩,
                ⟨(some 41), .pick (.t 34) (.k (.one (.v (.bool) (true)))) (.t 40), none⟩])
             (.cond (.t 41)
               (.seq
                (.reg false [
                  ⟨(some 2), .mv (.k (.one (.v (.int .i64) (((-1) : Int))))), none⟩])
               .ret)
               .skip))
            (.seq
             (.reg false [
               ⟨(some 42), .fieldA 1 (.t 1), none⟩,
               ⟨(some 43), .load false 1 (.t 42), none⟩,
               ⟨(some 44), .mv (.t 4), none⟩,
               ⟨(some 45), .idxA 1 (.t 43) (.t 44), none⟩,
               ⟨(some 46), .load false 1 (.t 45), none⟩,
               ⟨(some 6), .mv (.t 46), none⟩])
            (.seq
             (.seq
              (.reg false [
                ⟨(some 47), .mv (.t 6), none⟩,
                ⟨(some 48), .bin .lss (.t 47) (.k (.one (.v (.int .i64) ((1 : Int))))), none⟩,
                ⟨(some 49), .mv (.t 48), none⟩,
                ⟨(some 50), .mv (.t 6), (some (49, false))⟩,
                ⟨(some 51), .bin .gtr (.t 50) (.k (.one (.v (.int .i64) ((8 : Int))))), (some (49, false))⟩,
                ⟨(some 52), .pick (.t 49) (.k (.one (.v (.bool) (true)))) (.t 51), none⟩,
                ⟨(some 53), .mv (.t 52), none⟩,
                ⟨(some 54), .mv (.t 3), (some (53, false))⟩,
                ⟨(some 55), .mv (.t 6), (some (53, false))⟩,
                ⟨(some 56), .bin .mul (.t 54) (.t 55), (some (53, false))⟩,
                ⟨(some 57), .bin .gtr (.t 56) (.k (.one (.v (.int .i64) ((4096 : Int))))), (some (53, false))⟩,
                ⟨(some 58), .pick (.t 53) (.k (.one (.v (.bool) (true)))) (.t 57), none⟩])
             (.cond (.t 58)
               (.seq
                (.reg false [
                  ⟨(some 2), .mv (.k (.one (.v (.int .i64) (((-1) : Int))))), none⟩])
               .ret)
               .skip))
            (.reg false [
              ⟨(some 59), .mv (.t 3), none⟩,
              ⟨(some 60), .mv (.t 6), none⟩,
              ⟨(some 61), .bin .mul (.t 59) (.t 60), none⟩,
              ⟨(some 3), .mv (.t 61), none⟩]))))))
         (.reg false [
           ⟨(some 62), .bin .add (.t 23) (.k (.one (.v (.int .i64) ((1 : Int))))), none⟩,
           ⟨(some 23), .mv (.t 62), none⟩]))))))))
  (.seq
   (.reg false [
     ⟨(some 63), .mv (.t 3), none⟩,
     ⟨(some 2), .mv (.t 63), none⟩])
  .ret)))))
def ms_impl_TensorSize : List MRes := [.tmp 2]
theorem n_impl_TensorSize (NN : Nat) (x : DLL (Sig.tys ag_impl_TensorSize)) : runS NN [fn_impl_hasInt] sc_impl_TensorSize ms_impl_TensorSize ag_impl_TensorSize rs_impl_TensorSize x = G_impl_TensorSize NN x := by kernel_rfl
theorem k_impl_TensorSize : chkS Go.Proofs.Try.prog 95 sc_impl_TensorSize.er ms_impl_TensorSize 1 = true := by decide +kernel
theorem p_impl_TensorSize : PureSpec Go.Proofs.Try.prog 95 fn_impl_TensorSize.M ∧ chkFun Go.Proofs.Try.prog 95 = true :=
  pure_of_runS (T := [fn_impl_hasInt]) (sc := sc_impl_TensorSize) (ms := ms_impl_TensorSize) (args := ag_impl_TensorSize) (res := rs_impl_TensorSize) (SOk.cons p_impl_hasInt <| SOk.nil) follows_ok k_impl_TensorSize F_impl_TensorSize fun x y h => (n_impl_TensorSize FUEL x).trans (f_impl_TensorSize x y h)

def fn_impl_inMod : SFn := ⟨119, ag_impl_inMod, mu_impl_inMod, rs_impl_inMod, F_impl_inMod⟩
def sc_impl_inMod : SCode :=
  (.seq
   (.reg false [
     ⟨(some 4), .mv (.k (.one (.v (.bool) (false)))), none⟩])
  (.seq
   (.seq
    (.reg false [
      ⟨(some 7), .mv (.t 1), none⟩,
      ⟨(some 8), .len (.t 7), none⟩,
      ⟨(some 9), .mv (.k (.one (.v (.int .i64) ((0 : Int))))), none⟩])
   (.join ⟨[], []⟩ [] []
     (.block 0
       (.loop 0 ⟨[(0, .one (.c (.v (.int .i64)))), (7, .one (.c (.v (.list [.int .i64])))), (8, .one (.c (.v (.int .i64)))), (9, .one (.c (.v (.int .i64))))], []⟩ [] []
         (.seq
          (.reg false [
            ⟨(some 10), .bin .lss (.t 9) (.t 8), none⟩])
         (.seq
          (.cond (.t 10)
            .skip
            (.exit 0))
         (.seq
          (.block 1
            (.seq
             (.reg false [
               ⟨(some 11), .idxA 1 (.t 7) (.t 9), none⟩,
               ⟨(some 12), .load false 1 (.t 11), none⟩,
               ⟨(some 6), .mv (.t 12), none⟩])
            (.seq
             (.reg false [
               ⟨(some 13), .mv (.t 6), none⟩,
               ⟨(some 14), .bin .lss (.t 13) (.k (.one (.v (.int .i64) ((0 : Int))))), none⟩,
               ⟨(some 15), .mv (.t 14), none⟩,
               ⟨(some 16), .mv (.t 6), (some (15, false))⟩,
               ⟨(some 17), .mv (.t 0), (some (15, false))⟩,
               ⟨(some 18), .bin .geq (.t 16) (.t 17), (some (15, false))⟩,
               ⟨(some 19), .pick (.t 15) (.k (.one (.v (.bool) (true)))) (.t 18), none⟩])
            (.cond (.t 19)
              (.seq
               (.reg false [
                 ⟨(some 4), .mv (.k (.one (.v (.bool) (false)))), none⟩])
              .ret)
              .skip))))
         (.reg false [
           ⟨(some 20), .bin .add (.t 9) (.k (.one (.v (.int .i64) ((1 : Int))))), none⟩,
           ⟨(some 9), .mv (.t 20), none⟩]))))))))
  (.seq
   (.reg false [
     ⟨(some 4), .mv (.k (.one (.v (.bool) (true)))), none⟩])
  .ret)))
def ms_impl_inMod : List MRes := [.tmp 4]
theorem n_impl_inMod (NN : Nat) (x : DLL (Sig.tys ag_impl_inMod)) : runS NN [] sc_impl_inMod ms_impl_inMod ag_impl_inMod rs_impl_inMod x = G_impl_inMod NN x := by kernel_rfl
theorem k_impl_inMod : chkS Go.Proofs.Try.prog 119 sc_impl_inMod.er ms_impl_inMod 2 = true := by decide +kernel
theorem p_impl_inMod : PureSpec Go.Proofs.Try.prog 119 fn_impl_inMod.M ∧ chkFun Go.Proofs.Try.prog 119 = true :=
  pure_of_runS (T := []) (sc := sc_impl_inMod) (ms := ms_impl_inMod) (args := ag_impl_inMod) (res := rs_impl_inMod) (SOk.nil) follows_ok k_impl_inMod F_impl_inMod fun x y h => (n_impl_inMod FUEL x).trans (f_impl_inMod x y h)

def fn_impl_ChargesOk : SFn := ⟨37, ag_impl_ChargesOk, mu_impl_ChargesOk, rs_impl_ChargesOk, F_impl_ChargesOk⟩
def sc_impl_ChargesOk : SCode :=
  (.seq
   (.reg false [
     ⟨(some 2), .box 3 (.t 0), none⟩,
     ⟨(some 3), .box 2 (.t 1), none⟩,
     ⟨(some 4), .mv (.k (.one (.v (.bool) (false)))), none⟩])
  (.seq
   (.seq
    (.reg false [
      ⟨(some 7), .load true 3 (.t 2), none⟩,
      ⟨(some 8), .call .froz 95 [(.t 7)], none⟩,
      ⟨(some 9), .bin .eql (.t 8) (.k (.one (.v (.int .i64) (((-1) : Int))))), none⟩,
      ⟨(some 10), .mv (.t 9), none⟩,
      ⟨(some 11), .fieldA 0 (.t 3), (some (10, false))⟩,
      ⟨(some 12), .load false 1 (.t 11), (some (10, false))⟩,
      ⟨(some 13), .bin .lss (.t 12) (.k (.one (.v (.int .i64) ((1 : Int))))), (some (10, false))⟩,
      ⟨(some 14), .pick (.t 10) (.k (.one (.v (.bool) (true)))) (.t 13), none⟩,
      ⟨(some 15), .mv (.t 14), none⟩,
      ⟨(some 16), .fieldA 0 (.t 3), (some (15, false))⟩,
      ⟨(some 17), .load false 1 (.t 16), (some (15, false))⟩,
      ⟨(some 18), .bin .gtr (.t 17) (.k (.one (.v (.int .i64) ((12 : Int))))), (some (15, false))⟩,
      ⟨(some 19), .pick (.t 15) (.k (.one (.v (.bool) (true)))) (.t 18), none⟩,
      ⟨(some 20), .mv (.t 19), none⟩,
      ⟨(some 21), .fieldA 1 (.t 3), (some (20, false))⟩,
      ⟨(some 22), .load false 1 (.t 21), (some (20, false))⟩,
      ⟨(some 23), .len (.t 22), (some (20, false))⟩,
      ⟨(some 24), .fieldA 1 (.t 2), (some (20, false))⟩,
      ⟨(some 25), .load false 1 (.t 24), (some (20, false))⟩,
      ⟨(some 26), .len (.t 25), (some (20, false))⟩,
      ⟨(some 27), .bin .neq (.t 23) (.t 26), (some (20, false))⟩,
      ⟨(some 28), .pick (.t 20) (.k (.one (.v (.bool) (true)))) (.t 27), none⟩])
   (.cond (.t 28)
     (.seq
      (.reg false [
        ⟨(some 4), .mv (.k (.one (.v (.bool) (false)))), none⟩])
     .ret)
     .skip))
  (.seq
   (.seq
    (.reg false [
      ⟨(some 29), .fieldA 1 (.t 3), none⟩,
      ⟨(some 30), .load false 1 (.t 29), none⟩,
      ⟨(some 31), .len (.t 30), none⟩,
      ⟨(some 32), .mv (.k (.one (.v (.int .i64) ((0 : Int))))), none⟩])
   (.join ⟨[], []⟩ [2, 3, 9000, 9001, 9002, 9003, 9004, 9005, 50000, 50001, 50002, 50003, 50004, 50005] []
     (.block 0
       (.loop 0 ⟨[(2, .one (.c (.ptr0 2 0))), (3, .one (.c (.ptr0 3 0))), (30, .one (.c (.v (.list [.list [.int .i64]])))), (31, .one (.c (.v (.int .i64)))), (32, .one (.c (.v (.int .i64))))], [(2, .box [.c (.v (.list [.int .i64])), .c (.v (.list [.int .i64])), .c (.v (.list [.int .i64]))]), (3, .box [.c (.v (.int .i64)), .c (.v (.list [.list [.int .i64]]))])]⟩ [2, 3, 9000, 9001, 9002, 9003, 9004, 9005, 50000, 50001, 50002, 50003, 50004, 50005] []
         (.seq
          (.reg false [
            ⟨(some 33), .bin .lss (.t 32) (.t 31), none⟩])
         (.seq
          (.cond (.t 33)
            .skip
            (.exit 0))
         (.seq
          (.block 1
            (.seq
             (.reg false [
               ⟨(some 34), .mv (.t 32), none⟩,
               ⟨(some 35), .idxA 1 (.t 30) (.t 32), none⟩,
               ⟨(some 36), .load false 1 (.t 35), none⟩,
               ⟨(some 5), .mv (.t 34), none⟩,
               ⟨(some 6), .mv (.t 36), none⟩])
            (.seq
             (.reg false [
               ⟨(some 37), .mv (.t 6), none⟩,
               ⟨(some 38), .len (.t 37), none⟩,
               ⟨(some 39), .fieldA 1 (.t 2), none⟩,
               ⟨(some 40), .load false 1 (.t 39), none⟩,
               ⟨(some 41), .mv (.t 5), none⟩,
               ⟨(some 42), .idxA 1 (.t 40) (.t 41), none⟩,
               ⟨(some 43), .load false 1 (.t 42), none⟩,
               ⟨(some 44), .bin .neq (.t 38) (.t 43), none⟩,
               ⟨(some 45), .mv (.t 44), none⟩,
               ⟨(some 46), .fieldA 0 (.t 3), (some (45, false))⟩,
               ⟨(some 47), .load false 1 (.t 46), (some (45, false))⟩,
               ⟨(some 48), .mv (.t 6), (some (45, false))⟩,
               ⟨(some 49), .call .froz 119 [(.t 47), (.t 48)], (some (45, false))⟩,
               ⟨(some 50), .un .not (.t 49), (some (45, false))⟩,
               ⟨(some 51), .pick (.t 45) (.k (.one (.v (.bool) (true)))) (.t 50), none⟩])
            (.cond (.t 51)
              (.seq
               (.reg false [
                 ⟨(some 4), .mv (.k (.one (.v (.bool) (false)))), none⟩])
              .ret)
              .skip))))
         (.reg false [
           ⟨(some 52), .bin .add (.t 32) (.k (.one (.v (.int .i64) ((1 : Int))))), none⟩,
           ⟨(some 32), .mv (.t 52), none⟩]))))))))
  (.seq
   (.reg false [
     ⟨(some 4), .mv (.k (.one (.v (.bool) (true)))), none⟩])
  .ret))))
def ms_impl_ChargesOk : List MRes := [.tmp 4]
theorem n_impl_ChargesOk (NN : Nat) (x : DLL (Sig.tys ag_impl_ChargesOk)) : runS NN [fn_impl_TensorSize, fn_impl_inMod] sc_impl_ChargesOk ms_impl_ChargesOk ag_impl_ChargesOk rs_impl_ChargesOk x = G_impl_ChargesOk NN x := by kernel_rfl
theorem k_impl_ChargesOk : chkS Go.Proofs.Try.prog 37 sc_impl_ChargesOk.er ms_impl_ChargesOk 2 = true := by decide +kernel
theorem p_impl_ChargesOk : PureSpec Go.Proofs.Try.prog 37 fn_impl_ChargesOk.M ∧ chkFun Go.Proofs.Try.prog 37 = true :=
  pure_of_runS (T := [fn_impl_TensorSize, fn_impl_inMod]) (sc := sc_impl_ChargesOk) (ms := ms_impl_ChargesOk) (args := ag_impl_ChargesOk) (res := rs_impl_ChargesOk) (SOk.cons p_impl_TensorSize <| SOk.cons p_impl_inMod <| SOk.nil) follows_ok k_impl_ChargesOk F_impl_ChargesOk fun x y h => (n_impl_ChargesOk FUEL x).trans (f_impl_ChargesOk x y h)

def fn_laws_eqIntS : SFn := ⟨137, ag_laws_eqIntS, mu_laws_eqIntS, rs_laws_eqIntS, F_laws_eqIntS⟩
def sc_laws_eqIntS : SCode :=
  (.seq
   (.reg false [
     ⟨(some 4), .mv (.k (.one (.v (.bool) (false)))), none⟩])
  (.seq
   (.seq
    (.reg false [
      ⟨(some 6), .mv (.t 0), none⟩,
      ⟨(some 7), .len (.t 6), none⟩,
      ⟨(some 8), .mv (.t 1), none⟩,
      ⟨(some 9), .len (.t 8), none⟩,
      ⟨(some 10), .bin .neq (.t 7) (.t 9), none⟩])
   (.cond (.t 10)
     (.seq
      (.reg false [
        ⟨(some 4), .mv (.k (.one (.v (.bool) (false)))), none⟩])
     .ret)
     .skip))
  (.seq
   (.seq
    (.reg false [
      ⟨(some 5), .mv (.k (.one (.v (.int .i64) ((0 : Int))))), none⟩])
   (.join ⟨[], []⟩ [] []
     (.block 0
       (.loop 0 ⟨[(0, .one (.c (.v (.list [.int .i64])))), (1, .one (.c (.v (.list [.int .i64])))), (5, .one (.c (.v (.int .i64))))], []⟩ [] []
         (.seq
          (.seq
           (.reg false [
             ⟨(some 11), .mv (.t 5), none⟩,
             ⟨(some 12), .mv (.t 0), none⟩,
             ⟨(some 13), .len (.t 12), none⟩,
             ⟨(some 14), .bin .lss (.t 11) (.t 13), none⟩])
          (.cond (.t 14)
            .skip
            (.exit 0)))
         (.seq
          (.block 1
            (.seq
             (.reg true [
               ⟨(some 17), .mv (.t 0), none⟩,
               ⟨(some 18), .mv (.t 5), none⟩,
               ⟨(some 19), .idxA 1 (.t 17) (.t 18), none⟩,
               ⟨(some 20), .load false 1 (.t 19), none⟩,
               ⟨(some 21), .mv (.t 1), none⟩,
               ⟨(some 22), .mv (.t 5), none⟩,
               ⟨(some 23), .idxA 1 (.t 21) (.t 22), none⟩,
               ⟨(some 24), .load false 1 (.t 23), none⟩,
               ⟨(some 25), .bin .neq (.t 20) (.t 24), none⟩])
            (.cond (.t 25)
              (.seq
               (.reg false [
                 ⟨(some 4), .mv (.k (.one (.v (.bool) (false)))), none⟩])
              .ret)
              .skip)))
         (.reg false [
           ⟨(some 15), .mv (.t 5), none⟩,
           ⟨(some 16), .bin .add (.t 15) (.k (.one (.v (.int .i64) ((1 : Int))))), none⟩,
           ⟨(some 5), .mv (.t 16), none⟩])))))))
  (.seq
   (.reg false [
     ⟨(some 4), .mv (.k (.one (.v (.bool) (true)))), none⟩])
  .ret))))
def ms_laws_eqIntS : List MRes := [.tmp 4]
theorem n_laws_eqIntS (NN : Nat) (x : DLL (Sig.tys ag_laws_eqIntS)) : runS NN [] sc_laws_eqIntS ms_laws_eqIntS ag_laws_eqIntS rs_laws_eqIntS x = G_laws_eqIntS NN x := by kernel_rfl
theorem k_laws_eqIntS : chkS Go.Proofs.Try.prog 137 sc_laws_eqIntS.er ms_laws_eqIntS 2 = true := by decide +kernel
theorem p_laws_eqIntS : PureSpec Go.Proofs.Try.prog 137 fn_laws_eqIntS.M ∧ chkFun Go.Proofs.Try.prog 137 = true :=
  pure_of_runS (T := []) (sc := sc_laws_eqIntS) (ms := ms_laws_eqIntS) (args := ag_laws_eqIntS) (res := rs_laws_eqIntS) (SOk.nil) follows_ok k_laws_eqIntS F_laws_eqIntS fun x y h => (n_laws_eqIntS FUEL x).trans (f_laws_eqIntS x y h)

def fn_laws_eqTensor : SFn := ⟨49, ag_laws_eqTensor, mu_laws_eqTensor, rs_laws_eqTensor, F_laws_eqTensor⟩
def sc_laws_eqTensor : SCode :=
  (.seq
   (.reg false [
     ⟨(some 2), .box 3 (.t 0), none⟩,
     ⟨(some 3), .box 3 (.t 1), none⟩,
     ⟨(some 4), .mv (.k (.one (.v (.bool) (false)))), none⟩])
  (.seq
   (.seq
    (.reg false [
      ⟨(some 5), .fieldA 0 (.t 2), none⟩,
      ⟨(some 6), .load false 1 (.t 5), none⟩,
      ⟨(some 7), .fieldA 0 (.t 3), none⟩,
      ⟨(some 8), .load false 1 (.t 7), none⟩,
      ⟨(some 9), .call .froz 137 [(.t 6), (.t 8)], none⟩,
      ⟨(some 10), .un .not (.t 9), none⟩])
   (.cond (.t 10)
     (.seq
      (.reg false [
        ⟨(some 4), .mv (.k (.one (.v (.bool) (false)))), none⟩])
     .ret)
     .skip))
  (.seq
   (.seq
    (.reg false [
      ⟨(some 11), .fieldA 1 (.t 2), none⟩,
      ⟨(some 12), .load false 1 (.t 11), none⟩,
      ⟨(some 13), .fieldA 1 (.t 3), none⟩,
      ⟨(some 14), .load false 1 (.t 13), none⟩,
      ⟨(some 15), .call .froz 137 [(.t 12), (.t 14)], none⟩,
      ⟨(some 16), .un .not (.t 15), none⟩])
   (.cond (.t 16)
     (.seq
      (.reg false [
        ⟨(some 4), .mv (.k (.one (.v (.bool) (false)))), none⟩])
     .ret)
     .skip))
  (.seq
   (.seq
    (.reg false [
      ⟨(some 17), .fieldA 2 (.t 2), none⟩,
      ⟨(some 18), .load false 1 (.t 17), none⟩,
      ⟨(some 19), .fieldA 2 (.t 3), none⟩,
      ⟨(some 20), .load false 1 (.t 19), none⟩,
      ⟨(some 21), .call .froz 137 [(.t 18), (.t 20)], none⟩,
      ⟨(some 22), .un .not (.t 21), none⟩])
   (.cond (.t 22)
     (.seq
      (.reg false [
        ⟨(some 4), .mv (.k (.one (.v (.bool) (false)))), none⟩])
     .ret)
     .skip))
  (.seq
   (.reg false [
     ⟨(some 4), .mv (.k (.one (.v (.bool) (true)))), none⟩])
  .ret)))))
def ms_laws_eqTensor : List MRes := [.tmp 4]
theorem n_laws_eqTensor (NN : Nat) (x : DLL (Sig.tys ag_laws_eqTensor)) : runS NN [fn_laws_eqIntS] sc_laws_eqTensor ms_laws_eqTensor ag_laws_eqTensor rs_laws_eqTensor x = G_laws_eqTensor NN x := by kernel_rfl
theorem k_laws_eqTensor : chkS Go.Proofs.Try.prog 49 sc_laws_eqTensor.er ms_laws_eqTensor 2 = true := by decide +kernel
theorem p_laws_eqTensor : PureSpec Go.Proofs.Try.prog 49 fn_laws_eqTensor.M ∧ chkFun Go.Proofs.Try.prog 49 = true :=
  pure_of_runS (T := [fn_laws_eqIntS]) (sc := sc_laws_eqTensor) (ms := ms_laws_eqTensor) (args := ag_laws_eqTensor) (res := rs_laws_eqTensor) (SOk.cons p_laws_eqIntS <| SOk.nil) follows_ok k_laws_eqTensor F_laws_eqTensor fun x y h => (n_laws_eqTensor FUEL x).trans (f_laws_eqTensor x y h)

def fn_laws_eqIntSS : SFn := ⟨138, ag_laws_eqIntSS, mu_laws_eqIntSS, rs_laws_eqIntSS, F_laws_eqIntSS⟩
def sc_laws_eqIntSS : SCode :=
  (.seq
   (.reg false [
     ⟨(some 4), .mv (.k (.one (.v (.bool) (false)))), none⟩])
  (.seq
   (.seq
    (.reg false [
      ⟨(some 6), .mv (.t 0), none⟩,
      ⟨(some 7), .len (.t 6), none⟩,
      ⟨(some 8), .mv (.t 1), none⟩,
      ⟨(some 9), .len (.t 8), none⟩,
      ⟨(some 10), .bin .neq (.t 7) (.t 9), none⟩])
   (.cond (.t 10)
     (.seq
      (.reg false [
        ⟨(some 4), .mv (.k (.one (.v (.bool) (false)))), none⟩])
     .ret)
     .skip))
  (.seq
   (.seq
    (.reg false [
      ⟨(some 5), .mv (.k (.one (.v (.int .i64) ((0 : Int))))), none⟩])
   (.join ⟨[], []⟩ [26000, 26001, 26002, 26003, 26004, 26005] []
     (.block 0
       (.loop 0 ⟨[(0, .one (.c (.v (.list [.list [.int .i64]])))), (1, .one (.c (.v (.list [.list [.int .i64]])))), (5, .one (.c (.v (.int .i64))))], []⟩ [26000, 26001, 26002, 26003, 26004, 26005] []
         (.seq
          (.seq
           (.reg false [
             ⟨(some 11), .mv (.t 5), none⟩,
             ⟨(some 12), .mv (.t 0), none⟩,
             ⟨(some 13), .len (.t 12), none⟩,
             ⟨(some 14), .bin .lss (.t 11) (.t 13), none⟩])
          (.cond (.t 14)
            .skip
            (.exit 0)))
         (.seq
          (.block 1
            (.seq
             (.reg true [
               ⟨(some 17), .mv (.t 0), none⟩,
               ⟨(some 18), .mv (.t 5), none⟩,
               ⟨(some 19), .idxA 1 (.t 17) (.t 18), none⟩,
               ⟨(some 20), .load false 1 (.t 19), none⟩,
               ⟨(some 21), .mv (.t 1), none⟩,
               ⟨(some 22), .mv (.t 5), none⟩,
               ⟨(some 23), .idxA 1 (.t 21) (.t 22), none⟩,
               ⟨(some 24), .load false 1 (.t 23), none⟩,
               ⟨(some 25), .call .froz 137 [(.t 20), (.t 24)], none⟩,
               ⟨(some 26), .un .not (.t 25), none⟩])
            (.cond (.t 26)
              (.seq
               (.reg false [
                 ⟨(some 4), .mv (.k (.one (.v (.bool) (false)))), none⟩])
              .ret)
              .skip)))
         (.reg false [
           ⟨(some 15), .mv (.t 5), none⟩,
           ⟨(some 16), .bin .add (.t 15) (.k (.one (.v (.int .i64) ((1 : Int))))), none⟩,
           ⟨(some 5), .mv (.t 16), none⟩])))))))
  (.seq
   (.reg false [
     ⟨(some 4), .mv (.k (.one (.v (.bool) (true)))), none⟩])
  .ret))))
def ms_laws_eqIntSS : List MRes := [.tmp 4]
theorem n_laws_eqIntSS (NN : Nat) (x : DLL (Sig.tys ag_laws_eqIntSS)) : runS NN [fn_laws_eqIntS] sc_laws_eqIntSS ms_laws_eqIntSS ag_laws_eqIntSS rs_laws_eqIntSS x = G_laws_eqIntSS NN x := by kernel_rfl
theorem k_laws_eqIntSS : chkS Go.Proofs.Try.prog 138 sc_laws_eqIntSS.er ms_laws_eqIntSS 2 = true := by decide +kernel
theorem p_laws_eqIntSS : PureSpec Go.Proofs.Try.prog 138 fn_laws_eqIntSS.M ∧ chkFun Go.Proofs.Try.prog 138 = true :=
  pure_of_runS (T := [fn_laws_eqIntS]) (sc := sc_laws_eqIntSS) (ms := ms_laws_eqIntSS) (args := ag_laws_eqIntSS) (res := rs_laws_eqIntSS) (SOk.cons p_laws_eqIntS <| SOk.nil) follows_ok k_laws_eqIntSS F_laws_eqIntSS fun x y h => (n_laws_eqIntSS FUEL x).trans (f_laws_eqIntSS x y h)

def fn_laws_eqCharges : SFn := ⟨50, ag_laws_eqCharges, mu_laws_eqCharges, rs_laws_eqCharges, F_laws_eqCharges⟩
def sc_laws_eqCharges : SCode :=
  (.seq
   (.reg false [
     ⟨(some 2), .box 2 (.t 0), none⟩,
     ⟨(some 3), .box 2 (.t 1), none⟩,
     ⟨(some 4), .mv (.k (.one (.v (.bool) (false)))), none⟩])
  (.seq
   (.seq
    (.reg false [
      ⟨(some 5), .fieldA 0 (.t 2), none⟩,
      ⟨(some 6), .load false 1 (.t 5), none⟩,
      ⟨(some 7), .fieldA 0 (.t 3), none⟩,
      ⟨(some 8), .load false 1 (.t 7), none⟩,
      ⟨(some 9), .bin .neq (.t 6) (.t 8), none⟩])
   (.cond (.t 9)
     (.seq
      (.reg false [
        ⟨(some 4), .mv (.k (.one (.v (.bool) (false)))), none⟩])
     .ret)
     .skip))
  (.seq
   (.seq
    (.reg false [
      ⟨(some 10), .fieldA 1 (.t 2), none⟩,
      ⟨(some 11), .load false 1 (.t 10), none⟩,
      ⟨(some 12), .fieldA 1 (.t 3), none⟩,
      ⟨(some 13), .load false 1 (.t 12), none⟩,
      ⟨(some 14), .call .froz 138 [(.t 11), (.t 13)], none⟩,
      ⟨(some 15), .un .not (.t 14), none⟩])
   (.cond (.t 15)
     (.seq
      (.reg false [
        ⟨(some 4), .mv (.k (.one (.v (.bool) (false)))), none⟩])
     .ret)
     .skip))
  (.seq
   (.reg false [
     ⟨(some 4), .mv (.k (.one (.v (.bool) (true)))), none⟩])
  .ret))))
def ms_laws_eqCharges : List MRes := [.tmp 4]
theorem n_laws_eqCharges (NN : Nat) (x : DLL (Sig.tys ag_laws_eqCharges)) : runS NN [fn_laws_eqIntSS] sc_laws_eqCharges ms_laws_eqCharges ag_laws_eqCharges rs_laws_eqCharges x = G_laws_eqCharges NN x := by kernel_rfl
theorem k_laws_eqCharges : chkS Go.Proofs.Try.prog 50 sc_laws_eqCharges.er ms_laws_eqCharges 2 = true := by decide +kernel
theorem p_laws_eqCharges : PureSpec Go.Proofs.Try.prog 50 fn_laws_eqCharges.M ∧ chkFun Go.Proofs.Try.prog 50 = true :=
  pure_of_runS (T := [fn_laws_eqIntSS]) (sc := sc_laws_eqCharges) (ms := ms_laws_eqCharges) (args := ag_laws_eqCharges) (res := rs_laws_eqCharges) (SOk.cons p_laws_eqIntSS <| SOk.nil) follows_ok k_laws_eqCharges F_laws_eqCharges fun x y h => (n_laws_eqCharges FUEL x).trans (f_laws_eqCharges x y h)

def fn_laws_FnExactChargesOk : SFn := ⟨7, ag_laws_FnExactChargesOk, mu_laws_FnExactChargesOk, rs_laws_FnExactChargesOk, F_laws_FnExactChargesOk⟩
def sc_laws_FnExactChargesOk : SCode :=
  (.seq
   (.reg false [
     ⟨(some 2), .box 3 (.t 0), none⟩,
     ⟨(some 3), .box 2 (.t 1), none⟩,
     ⟨(some 4), .mv (.k (.one (.v (.bool) (false)))), none⟩])
  (.seq
   (.reg false [
     ⟨(some 5), .mv (.k (.one (.v (.int .i64) ((1048576 : Int))))), none⟩])
  (.seq
   (.reg false [
     ⟨(some 10), .load true 3 (.t 2), none⟩,
     ⟨(some 11), .mv (.t 5), none⟩,
     ⟨(some 12), .call .froz 44 [(.t 10), (.t 11)], none⟩,
     ⟨(some 5), .mv (.t 12), none⟩])
  (.seq
   (.seq
    (.reg false [
      ⟨(some 13), .mv (.t 5), none⟩,
      ⟨(some 14), .bin .lss (.t 13) (.k (.one (.v (.int .i64) ((0 : Int))))), none⟩])
   (.cond (.t 14)
     (.seq
      (.reg false [
        ⟨(some 4), .mv (.k (.one (.v (.bool) (true)))), none⟩])
     .ret)
     .skip))
  (.seq
   (.reg false [
     ⟨(some 15), .load true 2 (.t 3), none⟩,
     ⟨(some 16), .mv (.t 5), none⟩,
     ⟨(some 17), .call .froz 45 [(.t 15), (.t 16)], none⟩,
     ⟨(some 5), .mv (.t 17), none⟩])
  (.seq
   (.seq
    (.reg false [
      ⟨(some 18), .mv (.t 5), none⟩,
      ⟨(some 19), .bin .lss (.t 18) (.k (.one (.v (.int .i64) ((0 : Int))))), none⟩])
   (.cond (.t 19)
     (.seq
      (.reg false [
        ⟨(some 4), .mv (.k (.one (.v (.bool) (true)))), none⟩])
     .ret)
     .skip))
  (.seq
   (.reg true [
     ⟨(some 20), .load true 3 (.t 2), none⟩,
     ⟨(some 21), .call .froz 47 [(.t 20)], none⟩,
     ⟨(some 22), .load true 2 (.t 3), none⟩,
     ⟨(some 23), .call .froz 48 [(.t 22)], none⟩,
     ⟨(some 24), .call .froz 46 [(.t 21), (.t 23)], none⟩,
     ⟨(some 6), .mv (.t 24), none⟩])
  (.seq
   (.reg false [
     ⟨(some 25), .load true 3 (.t 2), none⟩,
     ⟨(some 26), .call .froz 47 [(.t 25)], none⟩,
     ⟨(some 7), .alloc [.nil [.int .i64], .nil [.int .i64], .nil [.int .i64]], none⟩,
     ⟨none, .store 3 (.t 7) (.t 26), none⟩])
  (.seq
   (.reg false [
     ⟨(some 27), .load true 2 (.t 3), none⟩,
     ⟨(some 28), .call .froz 48 [(.t 27)], none⟩,
     ⟨(some 8), .alloc [.v (.int .i64) ((0 : Int)), .nil [.list [.int .i64]]], none⟩,
     ⟨none, .store 2 (.t 8) (.t 28), none⟩])
  (.seq
   (.reg false [
     ⟨(some 29), .load true 3 (.t 7), none⟩,
     ⟨(some 30), .load true 2 (.t 8), none⟩,
     ⟨(some 31), .call .froz 37 [(.t 29), (.t 30)], none⟩,
     ⟨(some 9), .mv (.t 31), none⟩])
  (.seq
   (.seq
    (.reg false [
      ⟨(some 32), .mv (.t 9), none⟩,
      ⟨(some 33), .mv (.t 6), none⟩,
      ⟨(some 34), .binb .neq (.t 32) (.t 33), none⟩])
   (.cond (.t 34)
     (.seq
      (.reg false [
        ⟨(some 4), .mv (.k (.one (.v (.bool) (false)))), none⟩])
     .ret)
     .skip))
  (.seq
   (.seq
    (.reg true [
      ⟨(some 35), .load true 3 (.t 7), none⟩,
      ⟨(some 36), .load true 3 (.t 2), none⟩,
      ⟨(some 37), .call .froz 47 [(.t 36)], none⟩,
      ⟨(some 38), .call .froz 49 [(.t 35), (.t 37)], none⟩,
      ⟨(some 39), .un .not (.t 38), none⟩])
   (.cond (.t 39)
     (.seq
      (.reg false [
        ⟨(some 4), .mv (.k (.one (.v (.bool) (false)))), none⟩])
     .ret)
     .skip))
  (.seq
   (.seq
    (.reg true [
      ⟨(some 40), .load true 2 (.t 8), none⟩,
      ⟨(some 41), .load true 2 (.t 3), none⟩,
      ⟨(some 42), .call .froz 48 [(.t 41)], none⟩,
      ⟨(some 43), .call .froz 50 [(.t 40), (.t 42)], none⟩,
      ⟨(some 44), .un .not (.t 43), none⟩])
   (.cond (.t 44)
     (.seq
      (.reg false [
        ⟨(some 4), .mv (.k (.one (.v (.bool) (false)))), none⟩])
     .ret)
     .skip))
  (.seq
   (.reg false [
     ⟨(some 4), .mv (.k (.one (.v (.bool) (true)))), none⟩])
  .ret))))))))))))))
def ms_laws_FnExactChargesOk : List MRes := [.tmp 4]
theorem n_laws_FnExactChargesOk (NN : Nat) (x : DLL (Sig.tys ag_laws_FnExactChargesOk)) : runS NN [fn_laws_szTensor, fn_laws_szCharges, fn_laws_toTensor, fn_laws_toCharges, fn_spec_ChargesOk, fn_impl_ChargesOk, fn_laws_eqTensor, fn_laws_eqCharges] sc_laws_FnExactChargesOk ms_laws_FnExactChargesOk ag_laws_FnExactChargesOk rs_laws_FnExactChargesOk x = G_laws_FnExactChargesOk NN x := by kernel_rfl
theorem k_laws_FnExactChargesOk : chkS Go.Proofs.Try.prog 7 sc_laws_FnExactChargesOk.er ms_laws_FnExactChargesOk 2 = true := by decide +kernel
theorem p_laws_FnExactChargesOk : PureSpec Go.Proofs.Try.prog 7 fn_laws_FnExactChargesOk.M ∧ chkFun Go.Proofs.Try.prog 7 = true :=
  pure_of_runS (T := [fn_laws_szTensor, fn_laws_szCharges, fn_laws_toTensor, fn_laws_toCharges, fn_spec_ChargesOk, fn_impl_ChargesOk, fn_laws_eqTensor, fn_laws_eqCharges]) (sc := sc_laws_FnExactChargesOk) (ms := ms_laws_FnExactChargesOk) (args := ag_laws_FnExactChargesOk) (res := rs_laws_FnExactChargesOk) (SOk.cons p_laws_szTensor <| SOk.cons p_laws_szCharges <| SOk.cons p_laws_toTensor <| SOk.cons p_laws_toCharges <| SOk.cons p_spec_ChargesOk <| SOk.cons p_impl_ChargesOk <| SOk.cons p_laws_eqTensor <| SOk.cons p_laws_eqCharges <| SOk.nil) follows_ok k_laws_FnExactChargesOk F_laws_FnExactChargesOk fun x y h => (n_laws_FnExactChargesOk FUEL x).trans (f_laws_FnExactChargesOk x y h)

end Go.Am
