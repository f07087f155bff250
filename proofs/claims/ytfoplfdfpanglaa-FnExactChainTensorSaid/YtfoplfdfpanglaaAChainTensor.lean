/- A_ChainTensor: the code of the functions of FnExactChainTensor. No condition. -/
import Derived.Test.YtfoplfdfpanglaaLChainTensor
import Derived.Test.YtfoplfdfpanglaaBr2
import Derived.KernelRfl
import Derived.Test.YtfoplfdfpanglaaRows
set_option linter.unusedVariables false
set_option maxRecDepth 100000
namespace Go.Am
theorem follows_ok : Go.Proofs.Try.prog.follows .mixedOrders = true := by decide +kernel
def fn_laws_szIntS : SFn := ⟨90, ag_laws_szIntS, mu_laws_szIntS, rs_laws_szIntS, F_laws_szIntS⟩
def sc_laws_szIntS : SCode :=
 (.seq
 (.reg false [
 ⟨(some 4), .mv (.k (.one (.v (.int .i64) ((0 : Int))))), none⟩])
 (.seq
 (.reg false [
 ⟨(some 5), .mv (.t 1), none⟩,
 ⟨(some 6), .mv (.t 0), none⟩,
 ⟨(some 7), .len (.t 6), none⟩,
 ⟨(some 8), .bin .sub (.t 5) (.t 7), none⟩,
 ⟨(some 1), .mv (.t 8), none⟩])
 (.seq
 (.seq
 (.reg false [
 ⟨(some 9), .mv (.t 1), none⟩,
 ⟨(some 10), .bin .lss (.t 9) (.k (.one (.v (.int .i64) ((0 : Int))))), none⟩])
 (.cond (.t 10)
 (.seq
 (.reg false [
 ⟨(some 4), .mv (.k (.one (.v (.int .i64) (((-1) : Int))))), none⟩])
 .ret)
 .skip))
 (.seq
 (.reg false [
 ⟨(some 11), .mv (.t 1), none⟩,
 ⟨(some 4), .mv (.t 11), none⟩])
 .ret))))
def ms_laws_szIntS : List MRes := [.tmp 4]
theorem n_laws_szIntS (NN : Nat) (x : DLL (Sig.tys ag_laws_szIntS)) : runS NN [] sc_laws_szIntS ms_laws_szIntS ag_laws_szIntS rs_laws_szIntS x = G_laws_szIntS NN x := by kernel_rfl
theorem k_laws_szIntS : chkS Go.Proofs.Try.prog 90 sc_laws_szIntS.er ms_laws_szIntS 2 = true := by decide +kernel
theorem p_laws_szIntS : PureSpec Go.Proofs.Try.prog 90 fn_laws_szIntS.M ∧ chkFun Go.Proofs.Try.prog 90 = true :=
  pure_of_runS (T := []) (sc := sc_laws_szIntS) (ms := ms_laws_szIntS) (args := ag_laws_szIntS) (res := rs_laws_szIntS) (SOk.nil) follows_ok k_laws_szIntS F_laws_szIntS fun x y h => (n_laws_szIntS FUEL x).trans (f_laws_szIntS x y h)

def fn_laws_szSite : SFn := ⟨125, ag_laws_szSite, mu_laws_szSite, rs_laws_szSite, F_laws_szSite⟩
def sc_laws_szSite : SCode :=
 (.seq
 (.reg false [
 ⟨(some 2), .box 4 (.t 0), none⟩,
 ⟨(some 4), .mv (.k (.one (.v (.int .i64) ((0 : Int))))), none⟩])
 (.seq
 (.reg false [
 ⟨(some 5), .fieldA 3 (.t 2), none⟩,
 ⟨(some 6), .load false 1 (.t 5), none⟩,
 ⟨(some 7), .mv (.t 1), none⟩,
 ⟨(some 8), .call .froz 90 [(.t 6), (.t 7)], none⟩,
 ⟨(some 1), .mv (.t 8), none⟩])
 (.seq
 (.seq
 (.reg false [
 ⟨(some 9), .mv (.t 1), none⟩,
 ⟨(some 10), .bin .lss (.t 9) (.k (.one (.v (.int .i64) ((0 : Int))))), none⟩])
 (.cond (.t 10)
 (.seq
 (.reg false [
 ⟨(some 4), .mv (.k (.one (.v (.int .i64) (((-1) : Int))))), none⟩])
 .ret)
 .skip))
 (.seq
 (.reg false [
 ⟨(some 11), .mv (.t 1), none⟩,
 ⟨(some 4), .mv (.t 11), none⟩])
 .ret))))
def ms_laws_szSite : List MRes := [.tmp 4]
theorem n_laws_szSite (NN : Nat) (x : DLL (Sig.tys ag_laws_szSite)) : runS NN [fn_laws_szIntS] sc_laws_szSite ms_laws_szSite ag_laws_szSite rs_laws_szSite x = G_laws_szSite NN x := by kernel_rfl
theorem k_laws_szSite : chkS Go.Proofs.Try.prog 125 sc_laws_szSite.er ms_laws_szSite 2 = true := by decide +kernel
theorem p_laws_szSite : PureSpec Go.Proofs.Try.prog 125 fn_laws_szSite.M ∧ chkFun Go.Proofs.Try.prog 125 = true :=
  pure_of_runS (T := [fn_laws_szIntS]) (sc := sc_laws_szSite) (ms := ms_laws_szSite) (args := ag_laws_szSite) (res := rs_laws_szSite) (SOk.cons p_laws_szIntS <| SOk.nil) follows_ok k_laws_szSite F_laws_szSite fun x y h => (n_laws_szSite FUEL x).trans (f_laws_szSite x y h)

def fn_laws_szSiteS : SFn := ⟨62, ag_laws_szSiteS, mu_laws_szSiteS, rs_laws_szSiteS, F_laws_szSiteS⟩
def sc_laws_szSiteS : SCode :=
 (.seq
 (.reg false [
 ⟨(some 4), .mv (.k (.one (.v (.int .i64) ((0 : Int))))), none⟩])
 (.seq
 (.reg false [
 ⟨(some 6), .mv (.t 1), none⟩,
 ⟨(some 7), .mv (.t 0), none⟩,
 ⟨(some 8), .len (.t 7), none⟩,
 ⟨(some 9), .bin .sub (.t 6) (.t 8), none⟩,
 ⟨(some 1), .mv (.t 9), none⟩])
 (.seq
 (.seq
 (.reg false [
 ⟨(some 10), .mv (.t 1), none⟩,
 ⟨(some 11), .bin .lss (.t 10) (.k (.one (.v (.int .i64) ((0 : Int))))), none⟩])
 (.cond (.t 11)
 (.seq
 (.reg false [
 ⟨(some 4), .mv (.k (.one (.v (.int .i64) (((-1) : Int))))), none⟩])
 .ret)
 .skip))
 (.seq
 (.seq
 (.reg false [
 ⟨(some 5), .mv (.k (.one (.v (.int .i64) ((0 : Int))))), none⟩])
 (.join ⟨[(1, .one (.c (.v (.int .i64))))], []⟩ [] []
 (.block 0
 (.loop 0 ⟨[(0, .one (.c (.v (.list [.int .i64, .int .i64, .int .i64, .list [.int .i64]])))), (1, .one (.c (.v (.int .i64)))), (5, .one (.c (.v (.int .i64))))], []⟩ [] []
 (.seq
 (.seq
 (.reg false [
 ⟨(some 12), .mv (.t 5), none⟩,
 ⟨(some 13), .mv (.t 0), none⟩,
 ⟨(some 14), .len (.t 13), none⟩,
 ⟨(some 15), .bin .lss (.t 12) (.t 14), none⟩])
 (.cond (.t 15)
 .skip
 (.exit 0)))
 (.seq
 (.block 1
 (.seq
 (.reg false [
 ⟨(some 18), .mv (.t 0), none⟩,
 ⟨(some 19), .mv (.t 5), none⟩,
 ⟨(some 20), .idxA 4 (.t 18) (.t 19), none⟩,
 ⟨(some 21), .load true 4 (.t 20), none⟩,
 ⟨(some 22), .mv (.t 1), none⟩,
 ⟨(some 23), .call .froz 125 [(.t 21), (.t 22)], none⟩,
 ⟨(some 1), .mv (.t 23), none⟩])
 (.seq
 (.reg false [
 ⟨(some 24), .mv (.t 1), none⟩,
 ⟨(some 25), .bin .lss (.t 24) (.k (.one (.v (.int .i64) ((0 : Int))))), none⟩])
 (.cond (.t 25)
 (.seq
 (.reg false [
 ⟨(some 4), .mv (.k (.one (.v (.int .i64) (((-1) : Int))))), none⟩])
 .ret)
 .skip))))
 (.reg false [
 ⟨(some 16), .mv (.t 5), none⟩,
 ⟨(some 17), .bin .add (.t 16) (.k (.one (.v (.int .i64) ((1 : Int))))), none⟩,
 ⟨(some 5), .mv (.t 17), none⟩])))))))
 (.seq
 (.reg false [
 ⟨(some 26), .mv (.t 1), none⟩,
 ⟨(some 4), .mv (.t 26), none⟩])
 .ret)))))
def ms_laws_szSiteS : List MRes := [.tmp 4]
theorem n_laws_szSiteS (NN : Nat) (x : DLL (Sig.tys ag_laws_szSiteS)) : runS NN [fn_laws_szSite] sc_laws_szSiteS ms_laws_szSiteS ag_laws_szSiteS rs_laws_szSiteS x = G_laws_szSiteS NN x := by kernel_rfl
theorem k_laws_szSiteS : chkS Go.Proofs.Try.prog 62 sc_laws_szSiteS.er ms_laws_szSiteS 2 = true := by decide +kernel
theorem p_laws_szSiteS : PureSpec Go.Proofs.Try.prog 62 fn_laws_szSiteS.M ∧ chkFun Go.Proofs.Try.prog 62 = true :=
  pure_of_runS (T := [fn_laws_szSite]) (sc := sc_laws_szSiteS) (ms := ms_laws_szSiteS) (args := ag_laws_szSiteS) (res := rs_laws_szSiteS) (SOk.cons p_laws_szSite <| SOk.nil) follows_ok k_laws_szSiteS F_laws_szSiteS fun x y h => (n_laws_szSiteS FUEL x).trans (f_laws_szSiteS x y h)

def fn_laws_szChain : SFn := ⟨15, ag_laws_szChain, mu_laws_szChain, rs_laws_szChain, F_laws_szChain⟩
def sc_laws_szChain : SCode :=
 (.seq
 (.reg false [
 ⟨(some 2), .box 2 (.t 0), none⟩,
 ⟨(some 4), .mv (.k (.one (.v (.int .i64) ((0 : Int))))), none⟩])
 (.seq
 (.reg false [
 ⟨(some 5), .fieldA 1 (.t 2), none⟩,
 ⟨(some 6), .load false 1 (.t 5), none⟩,
 ⟨(some 7), .mv (.t 1), none⟩,
 ⟨(some 8), .call .froz 62 [(.t 6), (.t 7)], none⟩,
 ⟨(some 1), .mv (.t 8), none⟩])
 (.seq
 (.seq
 (.reg false [
 ⟨(some 9), .mv (.t 1), none⟩,
 ⟨(some 10), .bin .lss (.t 9) (.k (.one (.v (.int .i64) ((0 : Int))))), none⟩])
 (.cond (.t 10)
 (.seq
 (.reg false [
 ⟨(some 4), .mv (.k (.one (.v (.int .i64) (((-1) : Int))))), none⟩])
 .ret)
 .skip))
 (.seq
 (.reg false [
 ⟨(some 11), .mv (.t 1), none⟩,
 ⟨(some 4), .mv (.t 11), none⟩])
 .ret))))
def ms_laws_szChain : List MRes := [.tmp 4]
theorem n_laws_szChain (NN : Nat) (x : DLL (Sig.tys ag_laws_szChain)) : runS NN [fn_laws_szSiteS] sc_laws_szChain ms_laws_szChain ag_laws_szChain rs_laws_szChain x = G_laws_szChain NN x := by kernel_rfl
theorem k_laws_szChain : chkS Go.Proofs.Try.prog 15 sc_laws_szChain.er ms_laws_szChain 2 = true := by decide +kernel
theorem p_laws_szChain : PureSpec Go.Proofs.Try.prog 15 fn_laws_szChain.M ∧ chkFun Go.Proofs.Try.prog 15 = true :=
  pure_of_runS (T := [fn_laws_szSiteS]) (sc := sc_laws_szChain) (ms := ms_laws_szChain) (args := ag_laws_szChain) (res := rs_laws_szChain) (SOk.cons p_laws_szSiteS <| SOk.nil) follows_ok k_laws_szChain F_laws_szChain fun x y h => (n_laws_szChain FUEL x).trans (f_laws_szChain x y h)

def fn_laws_toIntS : SFn := ⟨27, ag_laws_toIntS, mu_laws_toIntS, rs_laws_toIntS, F_laws_toIntS⟩
def sc_laws_toIntS : SCode :=
 (.seq
 (.reg false [
 ⟨(some 2), .mv (.k (.one (.nil [.int .i64]))), none⟩])
 (.seq
 (.reg false [
 ⟨(some 5), .mv (.t 0), none⟩,
 ⟨(some 6), .len (.t 5), none⟩,
 ⟨(some 7), .mkslice .froz [.int .i64] 8 (0 : Int) (.t 6) (.t 6), none⟩,
 ⟨(some 3), .mv (.t 7), none⟩])
 (.seq
 (.seq
 (.reg false [
 ⟨(some 4), .mv (.k (.one (.v (.int .i64) ((0 : Int))))), none⟩])
 (.join ⟨[(3, .one (.c (.full 500001 1)))], [(500001, .row true .froz [.int .i64])]⟩ [500000, 500001] [(false, 3, 0, 500001, .froz, [])]
 (.block 0
 (.loop 0 ⟨[(0, .one (.c (.v (.list [.int .i64])))), (3, .one (.c (.full 500000 1))), (4, .one (.c (.v (.int .i64))))], [(500000, .row true .froz [.int .i64])]⟩ [7, 500000] [(false, 3, 0, 500000, .froz, [])]
 (.seq
 (.seq
 (.reg false [
 ⟨(some 8), .mv (.t 4), none⟩,
 ⟨(some 9), .mv (.t 0), none⟩,
 ⟨(some 10), .len (.t 9), none⟩,
 ⟨(some 11), .bin .lss (.t 8) (.t 10), none⟩])
 (.cond (.t 11)
 .skip
 (.exit 0)))
 (.seq
 (.block 1
 (.reg false [
 ⟨(some 14), .mv (.t 3), none⟩,
 ⟨(some 15), .mv (.t 4), none⟩,
 ⟨(some 16), .mv (.t 0), none⟩,
 ⟨(some 17), .mv (.t 4), none⟩,
 ⟨(some 18), .idxA 1 (.t 16) (.t 17), none⟩,
 ⟨(some 19), .load false 1 (.t 18), none⟩,
 ⟨(some 20), .idxA 1 (.t 14) (.t 15), none⟩,
 ⟨none, .store 1 (.t 20) (.t 19), none⟩]))
 (.reg false [
 ⟨(some 12), .mv (.t 4), none⟩,
 ⟨(some 13), .bin .add (.t 12) (.k (.one (.v (.int .i64) ((1 : Int))))), none⟩,
 ⟨(some 4), .mv (.t 13), none⟩])))))))
 (.seq
 (.reg false [
 ⟨(some 21), .mv (.t 3), none⟩,
 ⟨(some 2), .mv (.t 21), none⟩])
 .ret))))
def ms_laws_toIntS : List MRes := [.tmp 2]
theorem n_laws_toIntS (NN : Nat) (x : DLL (Sig.tys ag_laws_toIntS)) : runS NN [] sc_laws_toIntS ms_laws_toIntS ag_laws_toIntS rs_laws_toIntS x = G_laws_toIntS NN x := by kernel_rfl
theorem k_laws_toIntS : chkS Go.Proofs.Try.prog 27 sc_laws_toIntS.er ms_laws_toIntS 1 = true := by decide +kernel
theorem p_laws_toIntS : PureSpec Go.Proofs.Try.prog 27 fn_laws_toIntS.M ∧ chkFun Go.Proofs.Try.prog 27 = true :=
  pure_of_runS (T := []) (sc := sc_laws_toIntS) (ms := ms_laws_toIntS) (args := ag_laws_toIntS) (res := rs_laws_toIntS) (SOk.nil) follows_ok k_laws_toIntS F_laws_toIntS fun x y h => (n_laws_toIntS FUEL x).trans (f_laws_toIntS x y h)

def fn_laws_toSite : SFn := ⟨126, ag_laws_toSite, mu_laws_toSite, rs_laws_toSite, F_laws_toSite⟩
def sc_laws_toSite : SCode :=
 (.seq
 (.reg false [
 ⟨(some 1), .box 4 (.t 0), none⟩,
 ⟨(some 2), .alloc [.v (.int .i64) ((0 : Int)), .v (.int .i64) ((0 : Int)), .v (.int .i64) ((0 : Int)), .nil [.int .i64]], none⟩])
 (.seq
 (.reg false [
 ⟨(some 3), .alloc [.v (.int .i64) ((0 : Int)), .v (.int .i64) ((0 : Int)), .v (.int .i64) ((0 : Int)), .nil [.int .i64]], none⟩])
 (.seq
 (.reg false [
 ⟨(some 4), .fieldA 0 (.t 1), none⟩,
 ⟨(some 5), .load false 1 (.t 4), none⟩,
 ⟨(some 6), .fieldA 0 (.t 3), none⟩,
 ⟨none, .store 1 (.t 6) (.t 5), none⟩])
 (.seq
 (.reg false [
 ⟨(some 7), .fieldA 1 (.t 1), none⟩,
 ⟨(some 8), .load false 1 (.t 7), none⟩,
 ⟨(some 9), .fieldA 1 (.t 3), none⟩,
 ⟨none, .store 1 (.t 9) (.t 8), none⟩])
 (.seq
 (.reg false [
 ⟨(some 10), .fieldA 2 (.t 1), none⟩,
 ⟨(some 11), .load false 1 (.t 10), none⟩,
 ⟨(some 12), .fieldA 2 (.t 3), none⟩,
 ⟨none, .store 1 (.t 12) (.t 11), none⟩])
 (.seq
 (.reg false [
 ⟨(some 13), .fieldA 3 (.t 1), none⟩,
 ⟨(some 14), .load false 1 (.t 13), none⟩,
 ⟨(some 15), .call .froz 27 [(.t 14)], none⟩,
 ⟨(some 16), .fieldA 3 (.t 3), none⟩,
 ⟨none, .store 1 (.t 16) (.t 15), none⟩])
 (.seq
 (.reg false [
 ⟨(some 17), .load true 4 (.t 3), none⟩,
 ⟨none, .store 4 (.t 2) (.t 17), none⟩])
 .ret)))))))
def ms_laws_toSite : List MRes := [.cell 2 4 true]
theorem n_laws_toSite (NN : Nat) (x : DLL (Sig.tys ag_laws_toSite)) : runS NN [fn_laws_toIntS] sc_laws_toSite ms_laws_toSite ag_laws_toSite rs_laws_toSite x = G_laws_toSite NN x := by kernel_rfl
theorem k_laws_toSite : chkS Go.Proofs.Try.prog 126 sc_laws_toSite.er ms_laws_toSite 1 = true := by decide +kernel
theorem p_laws_toSite : PureSpec Go.Proofs.Try.prog 126 fn_laws_toSite.M ∧ chkFun Go.Proofs.Try.prog 126 = true :=
  pure_of_runS (T := [fn_laws_toIntS]) (sc := sc_laws_toSite) (ms := ms_laws_toSite) (args := ag_laws_toSite) (res := rs_laws_toSite) (SOk.cons p_laws_toIntS <| SOk.nil) follows_ok k_laws_toSite F_laws_toSite fun x y h => (n_laws_toSite FUEL x).trans (f_laws_toSite x y h)

def fn_laws_toSiteS : SFn := ⟨67, ag_laws_toSiteS, mu_laws_toSiteS, rs_laws_toSiteS, F_laws_toSiteS⟩
def sc_laws_toSiteS : SCode :=
 (.seq
 (.reg false [
 ⟨(some 2), .mv (.k (.one (.nil [.int .i64, .int .i64, .int .i64, .list [.int .i64]]))), none⟩])
 (.seq
 (.reg false [
 ⟨(some 5), .mv (.t 0), none⟩,
 ⟨(some 6), .len (.t 5), none⟩,
 ⟨(some 7), .mkslice .froz [.int .i64, .int .i64, .int .i64, .list [.int .i64]] 48 ((0 : Int), ((0 : Int), ((0 : Int), []))) (.t 6) (.t 6), none⟩,
 ⟨(some 3), .mv (.t 7), none⟩])
 (.seq
 (.seq
 (.reg false [
 ⟨(some 4), .mv (.k (.one (.v (.int .i64) ((0 : Int))))), none⟩])
 (.join ⟨[(3, .one (.c (.full 500001 4)))], [(500001, .row true .froz [.int .i64, .int .i64, .int .i64, .list [.int .i64]])]⟩ [500000, 500001] [(false, 3, 0, 500001, .froz, [])]
 (.block 0
 (.loop 0 ⟨[(0, .one (.c (.v (.list [.int .i64, .int .i64, .int .i64, .list [.int .i64]])))), (3, .one (.c (.full 500000 4))), (4, .one (.c (.v (.int .i64))))], [(500000, .row true .froz [.int .i64, .int .i64, .int .i64, .list [.int .i64]])]⟩ [7, 500000] [(false, 3, 0, 500000, .froz, [])]
 (.seq
 (.seq
 (.reg false [
 ⟨(some 8), .mv (.t 4), none⟩,
 ⟨(some 9), .mv (.t 0), none⟩,
 ⟨(some 10), .len (.t 9), none⟩,
 ⟨(some 11), .bin .lss (.t 8) (.t 10), none⟩])
 (.cond (.t 11)
 .skip
 (.exit 0)))
 (.seq
 (.block 1
 (.reg false [
 ⟨(some 14), .mv (.t 3), none⟩,
 ⟨(some 15), .mv (.t 4), none⟩,
 ⟨(some 16), .mv (.t 0), none⟩,
 ⟨(some 17), .mv (.t 4), none⟩,
 ⟨(some 18), .idxA 4 (.t 16) (.t 17), none⟩,
 ⟨(some 19), .load true 4 (.t 18), none⟩,
 ⟨(some 20), .call .froz 126 [(.t 19)], none⟩,
 ⟨(some 21), .idxA 4 (.t 14) (.t 15), none⟩,
 ⟨none, .store 4 (.t 21) (.t 20), none⟩]))
 (.reg false [
 ⟨(some 12), .mv (.t 4), none⟩,
 ⟨(some 13), .bin .add (.t 12) (.k (.one (.v (.int .i64) ((1 : Int))))), none⟩,
 ⟨(some 4), .mv (.t 13), none⟩])))))))
 (.seq
 (.reg false [
 ⟨(some 22), .mv (.t 3), none⟩,
 ⟨(some 2), .mv (.t 22), none⟩])
 .ret))))
def ms_laws_toSiteS : List MRes := [.tmp 2]
theorem n_laws_toSiteS (NN : Nat) (x : DLL (Sig.tys ag_laws_toSiteS)) : runS NN [fn_laws_toSite] sc_laws_toSiteS ms_laws_toSiteS ag_laws_toSiteS rs_laws_toSiteS x = G_laws_toSiteS NN x := by kernel_rfl
theorem k_laws_toSiteS : chkS Go.Proofs.Try.prog 67 sc_laws_toSiteS.er ms_laws_toSiteS 1 = true := by decide +kernel
theorem p_laws_toSiteS : PureSpec Go.Proofs.Try.prog 67 fn_laws_toSiteS.M ∧ chkFun Go.Proofs.Try.prog 67 = true :=
  pure_of_runS (T := [fn_laws_toSite]) (sc := sc_laws_toSiteS) (ms := ms_laws_toSiteS) (args := ag_laws_toSiteS) (res := rs_laws_toSiteS) (SOk.cons p_laws_toSite <| SOk.nil) follows_ok k_laws_toSiteS F_laws_toSiteS fun x y h => (n_laws_toSiteS FUEL x).trans (f_laws_toSiteS x y h)

def fn_laws_toChain : SFn := ⟨17, ag_laws_toChain, mu_laws_toChain, rs_laws_toChain, F_laws_toChain⟩
def sc_laws_toChain : SCode :=
 (.seq
 (.reg false [
 ⟨(some 1), .box 2 (.t 0), none⟩,
 ⟨(some 2), .alloc [.v (.int .i64) ((0 : Int)), .nil [.int .i64, .int .i64, .int .i64, .list [.int .i64]]], none⟩])
 (.seq
 (.reg false [
 ⟨(some 3), .alloc [.v (.int .i64) ((0 : Int)), .nil [.int .i64, .int .i64, .int .i64, .list [.int .i64]]], none⟩])
 (.seq
 (.reg false [
 ⟨(some 4), .fieldA 0 (.t 1), none⟩,
 ⟨(some 5), .load false 1 (.t 4), none⟩,
 ⟨(some 6), .fieldA 0 (.t 3), none⟩,
 ⟨none, .store 1 (.t 6) (.t 5), none⟩])
 (.seq
 (.reg false [
 ⟨(some 7), .fieldA 1 (.t 1), none⟩,
 ⟨(some 8), .load false 1 (.t 7), none⟩,
 ⟨(some 9), .call .froz 67 [(.t 8)], none⟩,
 ⟨(some 10), .fieldA 1 (.t 3), none⟩,
 ⟨none, .store 1 (.t 10) (.t 9), none⟩])
 (.seq
 (.reg false [
 ⟨(some 11), .load true 2 (.t 3), none⟩,
 ⟨none, .store 2 (.t 2) (.t 11), none⟩])
 .ret)))))
def ms_laws_toChain : List MRes := [.cell 2 2 true]
theorem n_laws_toChain (NN : Nat) (x : DLL (Sig.tys ag_laws_toChain)) : runS NN [fn_laws_toSiteS] sc_laws_toChain ms_laws_toChain ag_laws_toChain rs_laws_toChain x = G_laws_toChain NN x := by kernel_rfl
theorem k_laws_toChain : chkS Go.Proofs.Try.prog 17 sc_laws_toChain.er ms_laws_toChain 1 = true := by decide +kernel
theorem p_laws_toChain : PureSpec Go.Proofs.Try.prog 17 fn_laws_toChain.M ∧ chkFun Go.Proofs.Try.prog 17 = true :=
  pure_of_runS (T := [fn_laws_toSiteS]) (sc := sc_laws_toChain) (ms := ms_laws_toChain) (args := ag_laws_toChain) (res := rs_laws_toChain) (SOk.cons p_laws_toSiteS <| SOk.nil) follows_ok k_laws_toChain F_laws_toChain fun x y h => (n_laws_toChain FUEL x).trans (f_laws_toChain x y h)

def fn_spec_l01In : SFn := ⟨64, ag_spec_l01In, mu_spec_l01In, rs_spec_l01In, F_spec_l01In⟩
def sc_spec_l01In : SCode :=
 (.seq
 (.reg false [
 ⟨(some 6), .mv (.k (.one (.v (.bool) (false)))), none⟩])
 (.seq
 (.reg false [
 ⟨(some 7), .mv (.t 0), none⟩,
 ⟨(some 8), .mv (.t 1), none⟩,
 ⟨(some 9), .bin .geq (.t 7) (.t 8), none⟩,
 ⟨(some 10), .mv (.t 9), none⟩,
 ⟨(some 11), .mv (.t 0), (some (10, true))⟩,
 ⟨(some 12), .mv (.t 2), (some (10, true))⟩,
 ⟨(some 13), .bin .leq (.t 11) (.t 12), (some (10, true))⟩,
 ⟨(some 14), .pick (.t 10) (.t 13) (.k (.one (.v (.bool) (false)))), none⟩,
 ⟨(some 6), .mv (.t 14), none⟩])
 .ret))
def ms_spec_l01In : List MRes := [.tmp 6]
theorem n_spec_l01In (NN : Nat) (x : DLL (Sig.tys ag_spec_l01In)) : runS NN [] sc_spec_l01In ms_spec_l01In ag_spec_l01In rs_spec_l01In x = G_spec_l01In NN x := by kernel_rfl
theorem k_spec_l01In : chkS Go.Proofs.Try.prog 64 sc_spec_l01In.er ms_spec_l01In 3 = true := by decide +kernel
theorem p_spec_l01In : PureSpec Go.Proofs.Try.prog 64 fn_spec_l01In.M ∧ chkFun Go.Proofs.Try.prog 64 = true :=
  pure_of_runS (T := []) (sc := sc_spec_l01In) (ms := ms_spec_l01In) (args := ag_spec_l01In) (res := rs_spec_l01In) (SOk.nil) follows_ok k_spec_l01In F_spec_l01In fun x y h => (n_spec_l01In FUEL x).trans (f_spec_l01In x y h)

def fn_spec_IsPrime : SFn := ⟨63, ag_spec_IsPrime, mu_spec_IsPrime, rs_spec_IsPrime, F_spec_IsPrime⟩
def sc_spec_IsPrime : SCode :=
 (.seq
 (.reg false [
 ⟨(some 2), .mv (.k (.one (.v (.bool) (false)))), none⟩])
 (.seq
 (.seq
 (.reg false [
 ⟨(some 3), .mv (.k (.one (.v (.int .i64) ((2 : Int))))), none⟩])
 (.join ⟨[(0, .one (.c (.v (.int .i64))))], []⟩ [] []
 (.block 0
 (.loop 0 ⟨[(0, .one (.c (.v (.int .i64)))), (3, .one (.c (.v (.int .i64))))], []⟩ [] []
 (.seq
 (.seq
 (.reg false [
 ⟨(some 4), .mv (.t 3), none⟩,
 ⟨(some 5), .mv (.t 3), none⟩,
 ⟨(some 6), .bin .mul (.t 4) (.t 5), none⟩,
 ⟨(some 7), .mv (.t 0), none⟩,
 ⟨(some 8), .bin .leq (.t 6) (.t 7), none⟩,
 ⟨(some 9), .mv (.t 8), none⟩,
 ⟨(some 10), .mv (.t 0), (some (9, true))⟩,
 ⟨(some 11), .bin .leq (.t 10) (.k (.one (.v (.int .i64) ((1000003 : Int))))), (some (9, true))⟩,
 ⟨(some 12), .pick (.t 9) (.t 11) (.k (.one (.v (.bool) (false)))), none⟩])
 (.cond (.t 12)
 .skip
 (.exit 0)))
 (.seq
 (.block 1
 (.seq
 (.reg false [
 ⟨(some 15), .mv (.t 0), none⟩,
 ⟨(some 16), .mv (.t 3), none⟩,
 ⟨(some 17), .bin .rem (.t 15) (.t 16), none⟩,
 ⟨(some 18), .bin .eql (.t 17) (.k (.one (.v (.int .i64) ((0 : Int))))), none⟩])
 (.cond (.t 18)
 (.seq
 (.reg false [
 ⟨(some 2), .mv (.k (.one (.v (.bool) (false)))), none⟩])
 .ret)
 .skip)))
 (.reg false [
 ⟨(some 13), .mv (.t 3), none⟩,
 ⟨(some 14), .bin .add (.t 13) (.k (.one (.v (.int .i64) ((1 : Int))))), none⟩,
 ⟨(some 3), .mv (.t 14), none⟩])))))))
 (.seq
 (.reg false [
 ⟨(some 19), .mv (.t 0), none⟩,
 ⟨(some 20), .call .froz 64 [(.t 19), (.k (.one (.v (.int .i64) ((2 : Int))))), (.k (.one (.v (.int .i64) ((1000003 : Int)))))], none⟩,
 ⟨(some 2), .mv (.t 20), none⟩])
 .ret)))
def ms_spec_IsPrime : List MRes := [.tmp 2]
theorem n_spec_IsPrime (NN : Nat) (x : DLL (Sig.tys ag_spec_IsPrime)) : runS NN [fn_spec_l01In] sc_spec_IsPrime ms_spec_IsPrime ag_spec_IsPrime rs_spec_IsPrime x = G_spec_IsPrime NN x := by kernel_rfl
theorem k_spec_IsPrime : chkS Go.Proofs.Try.prog 63 sc_spec_IsPrime.er ms_spec_IsPrime 1 = true := by decide +kernel
theorem p_spec_IsPrime : PureSpec Go.Proofs.Try.prog 63 fn_spec_IsPrime.M ∧ chkFun Go.Proofs.Try.prog 63 = true :=
  pure_of_runS (T := [fn_spec_l01In]) (sc := sc_spec_IsPrime) (ms := ms_spec_IsPrime) (args := ag_spec_IsPrime) (res := rs_spec_IsPrime) (SOk.cons p_spec_l01In <| SOk.nil) follows_ok k_spec_IsPrime F_spec_IsPrime fun x y h => (n_spec_IsPrime FUEL x).trans (f_spec_IsPrime x y h)

def fn_spec_l32Dims : SFn := ⟨66, ag_spec_l32Dims, mu_spec_l32Dims, rs_spec_l32Dims, F_spec_l32Dims⟩
def sc_spec_l32Dims : SCode :=
 (.seq
 (.reg false [
 ⟨(some 1), .box 2 (.t 0), none⟩,
 ⟨(some 2), .mv (.k (.one (.nil [.int .i64]))), none⟩])
 (.seq
 (.reg false [
 ⟨(some 6), .bslice [.int .i64] [], none⟩,
 ⟨(some 3), .mv (.t 6), none⟩])
 (.seq
 (.seq
 (.reg false [
 ⟨(some 7), .fieldA 1 (.t 1), none⟩,
 ⟨(some 8), .load false 1 (.t 7), none⟩,
 ⟨(some 9), .len (.t 8), none⟩,
 ⟨(some 10), .mv (.k (.one (.v (.int .i64) ((0 : Int))))), none⟩])
 (.join ⟨[(3, .one (.c (.full 500001 1)))], [(500001, .row true .froz [.int .i64])]⟩ [500000, 500001] [(false, 3, 0, 500001, .froz, [])]
 (.block 0
 (.loop 0 ⟨[(3, .one (.c (.full 500000 1))), (8, .one (.c (.v (.list [.int .i64, .int .i64, .int .i64, .list [.int .i64]])))), (9, .one (.c (.v (.int .i64)))), (10, .one (.c (.v (.int .i64))))], [(500000, .row true .froz [.int .i64])]⟩ [1, 6, 5, 17, 18, 500000] [(false, 3, 0, 500000, .froz, [])]
 (.seq
 (.reg false [
 ⟨(some 11), .bin .lss (.t 10) (.t 9), none⟩])
 (.seq
 (.cond (.t 11)
 .skip
 (.exit 0))
 (.seq
 (.block 1
 (.seq
 (.reg false [
 ⟨(some 12), .idxA 4 (.t 8) (.t 10), none⟩,
 ⟨(some 13), .load true 4 (.t 12), none⟩,
 ⟨(some 5), .alloc [.v (.int .i64) ((0 : Int)), .v (.int .i64) ((0 : Int)), .v (.int .i64) ((0 : Int)), .nil [.int .i64]], none⟩,
 ⟨none, .store 4 (.t 5) (.t 13), none⟩])
 (.reg false [
 ⟨(some 14), .mv (.t 3), none⟩,
 ⟨(some 15), .fieldA 1 (.t 5), none⟩,
 ⟨(some 16), .load false 1 (.t 15), none⟩,
 ⟨(some 17), .bslice [.int .i64] [(.t 16)], none⟩,
 ⟨(some 18), .append true [.int .i64] 8 (.t 14) (.t 17), none⟩,
 ⟨(some 3), .mv (.t 18), none⟩])))
 (.reg false [
 ⟨(some 19), .bin .add (.t 10) (.k (.one (.v (.int .i64) ((1 : Int))))), none⟩,
 ⟨(some 10), .mv (.t 19), none⟩]))))))))
 (.seq
 (.reg false [
 ⟨(some 20), .mv (.t 3), none⟩,
 ⟨(some 2), .mv (.t 20), none⟩])
 .ret))))
def ms_spec_l32Dims : List MRes := [.tmp 2]
theorem n_spec_l32Dims (NN : Nat) (x : DLL (Sig.tys ag_spec_l32Dims)) : runS NN [] sc_spec_l32Dims ms_spec_l32Dims ag_spec_l32Dims rs_spec_l32Dims x = G_spec_l32Dims NN x := by kernel_rfl
theorem k_spec_l32Dims : chkS Go.Proofs.Try.prog 66 sc_spec_l32Dims.er ms_spec_l32Dims 1 = true := by decide +kernel
theorem p_spec_l32Dims : PureSpec Go.Proofs.Try.prog 66 fn_spec_l32Dims.M ∧ chkFun Go.Proofs.Try.prog 66 = true :=
  pure_of_runS (T := []) (sc := sc_spec_l32Dims) (ms := ms_spec_l32Dims) (args := ag_spec_l32Dims) (res := rs_spec_l32Dims) (SOk.nil) follows_ok k_spec_l32Dims F_spec_l32Dims fun x y h => (n_spec_l32Dims FUEL x).trans (f_spec_l32Dims x y h)

def fn_spec_l05Product : SFn := ⟨65, ag_spec_l05Product, mu_spec_l05Product, rs_spec_l05Product, F_spec_l05Product⟩
def sc_spec_l05Product : SCode :=
 (.seq
 (.reg false [
 ⟨(some 4), .mv (.k (.one (.v (.int .i64) ((0 : Int))))), none⟩])
 (.seq
 (.reg false [
 ⟨(some 5), .mv (.k (.one (.v (.int .i64) ((1 : Int))))), none⟩])
 (.seq
 (.seq
 (.reg false [
 ⟨(some 8), .mv (.t 0), none⟩,
 ⟨(some 9), .len (.t 8), none⟩,
 ⟨(some 10), .mv (.k (.one (.v (.int .i64) ((0 : Int))))), none⟩])
 (.join ⟨[(5, .one (.c (.v (.int .i64))))], []⟩ [] []
 (.block 0
 (.loop 0 ⟨[(1, .one (.c (.v (.int .i64)))), (5, .one (.c (.v (.int .i64)))), (8, .one (.c (.v (.list [.int .i64])))), (9, .one (.c (.v (.int .i64)))), (10, .one (.c (.v (.int .i64))))], []⟩ [] []
 (.seq
 (.reg false [
 ⟨(some 11), .bin .lss (.t 10) (.t 9), none⟩])
 (.seq
 (.cond (.t 11)
 .skip
 (.exit 0))
 (.seq
 (.block 1
 (.seq
 (.reg false [
 ⟨(some 12), .idxA 1 (.t 8) (.t 10), none⟩,
 ⟨(some 13), .load false 1 (.t 12), none⟩,
 ⟨(some 7), .mv (.t 13), none⟩])
 (.reg false [
 ⟨(some 14), .mv (.t 5), none⟩,
 ⟨(some 15), .mv (.t 7), none⟩,
 ⟨(some 16), .bin .mul (.t 14) (.t 15), none⟩,
 ⟨(some 17), .mv (.t 1), none⟩,
 ⟨(some 18), .bin .add (.t 17) (.k (.one (.v (.int .i64) ((1 : Int))))), none⟩,
 ⟨(some 19), .mm false (.t 16) (.t 18), none⟩,
 ⟨(some 5), .mv (.t 19), none⟩])))
 (.reg false [
 ⟨(some 20), .bin .add (.t 10) (.k (.one (.v (.int .i64) ((1 : Int))))), none⟩,
 ⟨(some 10), .mv (.t 20), none⟩]))))))))
 (.seq
 (.reg false [
 ⟨(some 21), .mv (.t 5), none⟩,
 ⟨(some 4), .mv (.t 21), none⟩])
 .ret))))
def ms_spec_l05Product : List MRes := [.tmp 4]
theorem n_spec_l05Product (NN : Nat) (x : DLL (Sig.tys ag_spec_l05Product)) : runS NN [] sc_spec_l05Product ms_spec_l05Product ag_spec_l05Product rs_spec_l05Product x = G_spec_l05Product NN x := by kernel_rfl
theorem k_spec_l05Product : chkS Go.Proofs.Try.prog 65 sc_spec_l05Product.er ms_spec_l05Product 2 = true := by decide +kernel
theorem p_spec_l05Product : PureSpec Go.Proofs.Try.prog 65 fn_spec_l05Product.M ∧ chkFun Go.Proofs.Try.prog 65 = true :=
  pure_of_runS (T := []) (sc := sc_spec_l05Product) (ms := ms_spec_l05Product) (args := ag_spec_l05Product) (res := rs_spec_l05Product) (SOk.nil) follows_ok k_spec_l05Product F_spec_l05Product fun x y h => (n_spec_l05Product FUEL x).trans (f_spec_l05Product x y h)

def fn_spec_ChainOk : SFn := ⟨16, ag_spec_ChainOk, mu_spec_ChainOk, rs_spec_ChainOk, F_spec_ChainOk⟩
def sc_spec_ChainOk : SCode :=
 (.seq
 (.reg false [
 ⟨(some 1), .box 2 (.t 0), none⟩,
 ⟨(some 2), .mv (.k (.one (.v (.bool) (false)))), none⟩])
 (.seq
 (.seq
 (.reg false [
 ⟨(some 8), .fieldA 0 (.t 1), none⟩,
 ⟨(some 9), .load false 1 (.t 8), none⟩,
 ⟨(some 10), .call .froz 63 [(.t 9)], none⟩,
 ⟨(some 11), .un .not (.t 10), none⟩,
 ⟨(some 12), .mv (.t 11), none⟩,
 ⟨(some 13), .fieldA 1 (.t 1), (some (12, false))⟩,
 ⟨(some 14), .load false 1 (.t 13), (some (12, false))⟩,
 ⟨(some 15), .len (.t 14), (some (12, false))⟩,
 ⟨(some 16), .call .froz 64 [(.t 15), (.k (.one (.v (.int .i64) ((1 : Int))))), (.k (.one (.v (.int .i64) ((8 : Int)))))], (some (12, false))⟩,
 ⟨(some 17), .un .not (.t 16), (some (12, false))⟩,
 ⟨(some 18), .pick (.t 12) (.k (.one (.v (.bool) (true)))) (.t 17), none⟩])
 (.cond (.t 18)
 (.seq
 (.reg false [
 ⟨(some 2), .mv (.k (.one (.v (.bool) (false)))), none⟩])
 .ret)
 .skip))
 (.seq
 (.reg false [
 ⟨(some 3), .mv (.k (.one (.v (.int .i64) ((1 : Int))))), none⟩])
 (.seq
 (.seq
 (.reg false [
 ⟨(some 19), .fieldA 1 (.t 1), none⟩,
 ⟨(some 20), .load false 1 (.t 19), none⟩,
 ⟨(some 21), .len (.t 20), none⟩,
 ⟨(some 22), .mv (.k (.one (.v (.int .i64) ((0 : Int))))), none⟩])
 (.join ⟨[(3, .one (.c (.v (.int .i64)))), (1, .one (.c (.ptr0 1 0)))], [(1, .box [.c (.v (.int .i64)), .c (.v (.list [.int .i64, .int .i64, .int .i64, .list [.int .i64]]))])]⟩ [1] []
 (.block 0
 (.loop 0 ⟨[(1, .one (.c (.ptr0 1 0))), (3, .one (.c (.v (.int .i64)))), (20, .one (.c (.v (.list [.int .i64, .int .i64, .int .i64, .list [.int .i64]])))), (21, .one (.c (.v (.int .i64)))), (22, .one (.c (.v (.int .i64))))], [(1, .box [.c (.v (.int .i64)), .c (.v (.list [.int .i64, .int .i64, .int .i64, .list [.int .i64]]))])]⟩ [1] []
 (.seq
 (.reg false [
 ⟨(some 23), .bin .lss (.t 22) (.t 21), none⟩])
 (.seq
 (.cond (.t 23)
 .skip
 (.exit 0))
 (.seq
 (.join ⟨[(22, .one (.c (.v (.int .i64)))), (1, .one (.c (.ptr0 1 0))), (3, .one (.c (.v (.int .i64)))), (20, .one (.c (.v (.list [.int .i64, .int .i64, .int .i64, .list [.int .i64]])))), (21, .one (.c (.v (.int .i64))))], [(1, .box [.c (.v (.int .i64)), .c (.v (.list [.int .i64, .int .i64, .int .i64, .list [.int .i64]]))])]⟩ [1, 5] []
 (.block 1
 (.seq
 (.reg false [
 ⟨(some 24), .idxA 4 (.t 20) (.t 22), none⟩,
 ⟨(some 25), .load true 4 (.t 24), none⟩,
 ⟨(some 5), .alloc [.v (.int .i64) ((0 : Int)), .v (.int .i64) ((0 : Int)), .v (.int .i64) ((0 : Int)), .nil [.int .i64]], none⟩,
 ⟨none, .store 4 (.t 5) (.t 25), none⟩])
 (.seq
 (.seq
 (.reg false [
 ⟨(some 26), .fieldA 0 (.t 5), none⟩,
 ⟨(some 27), .load false 1 (.t 26), none⟩,
 ⟨(some 28), .mv (.t 3), none⟩,
 ⟨(some 29), .bin .neq (.t 27) (.t 28), none⟩,
 ⟨(some 30), .mv (.t 29), none⟩,
 ⟨(some 31), .fieldA 1 (.t 5), (some (30, false))⟩,
 ⟨(some 32), .load false 1 (.t 31), (some (30, false))⟩,
 ⟨(some 33), .call .froz 64 [(.t 32), (.k (.one (.v (.int .i64) ((1 : Int))))), (.k (.one (.v (.int .i64) ((8 : Int)))))], (some (30, false))⟩,
 ⟨(some 34), .un .not (.t 33), (some (30, false))⟩,
 ⟨(some 35), .pick (.t 30) (.k (.one (.v (.bool) (true)))) (.t 34), none⟩,
 ⟨(some 36), .mv (.t 35), none⟩,
 ⟨(some 37), .fieldA 2 (.t 5), (some (36, false))⟩,
 ⟨(some 38), .load false 1 (.t 37), (some (36, false))⟩,
 ⟨(some 39), .call .froz 64 [(.t 38), (.k (.one (.v (.int .i64) ((0 : Int))))), (.k (.one (.v (.int .i64) ((32 : Int)))))], (some (36, false))⟩,
 ⟨(some 40), .un .not (.t 39), (some (36, false))⟩,
 ⟨(some 41), .pick (.t 36) (.k (.one (.v (.bool) (true)))) (.t 40), none⟩,
 ⟨(some 42), .mv (.t 41), none⟩,
 ⟨(some 43), .fieldA 3 (.t 5), (some (42, false))⟩,
 ⟨(some 44), .load false 1 (.t 43), (some (42, false))⟩,
 ⟨(some 45), .len (.t 44), (some (42, false))⟩,
 ⟨(some 46), .fieldA 0 (.t 5), (some (42, false))⟩,
 ⟨(some 47), .load false 1 (.t 46), (some (42, false))⟩,
 ⟨(some 48), .fieldA 1 (.t 5), (some (42, false))⟩,
 ⟨(some 49), .load false 1 (.t 48), (some (42, false))⟩,
 ⟨(some 50), .bin .mul (.t 47) (.t 49), (some (42, false))⟩,
 ⟨(some 51), .fieldA 2 (.t 5), (some (42, false))⟩,
 ⟨(some 52), .load false 1 (.t 51), (some (42, false))⟩,
 ⟨(some 53), .bin .mul (.t 50) (.t 52), (some (42, false))⟩,
 ⟨(some 54), .bin .neq (.t 45) (.t 53), (some (42, false))⟩,
 ⟨(some 55), .pick (.t 42) (.k (.one (.v (.bool) (true)))) (.t 54), none⟩])
 (.cond (.t 55)
 (.seq
 (.reg false [
 ⟨(some 2), .mv (.k (.one (.v (.bool) (false)))), none⟩])
 .ret)
 .skip))
 (.seq
 (.seq
 (.reg false [
 ⟨(some 56), .fieldA 3 (.t 5), none⟩,
 ⟨(some 57), .load false 1 (.t 56), none⟩,
 ⟨(some 58), .len (.t 57), none⟩,
 ⟨(some 59), .mv (.k (.one (.v (.int .i64) ((0 : Int))))), none⟩])
 (.join ⟨[(5, .one (.c (.ptr0 5 0))), (22, .one (.c (.v (.int .i64)))), (1, .one (.c (.ptr0 1 0))), (20, .one (.c (.v (.list [.int .i64, .int .i64, .int .i64, .list [.int .i64]])))), (21, .one (.c (.v (.int .i64))))], [(1, .box [.c (.v (.int .i64)), .c (.v (.list [.int .i64, .int .i64, .int .i64, .list [.int .i64]]))]), (5, .box [.c (.v (.int .i64)), .c (.v (.int .i64)), .c (.v (.int .i64)), .c (.v (.list [.int .i64]))])]⟩ [1, 5] []
 (.block 2
 (.loop 0 ⟨[(1, .one (.c (.ptr0 1 0))), (5, .one (.c (.ptr0 5 0))), (20, .one (.c (.v (.list [.int .i64, .int .i64, .int .i64, .list [.int .i64]])))), (21, .one (.c (.v (.int .i64)))), (22, .one (.c (.v (.int .i64)))), (57, .one (.c (.v (.list [.int .i64])))), (58, .one (.c (.v (.int .i64)))), (59, .one (.c (.v (.int .i64))))], [(1, .box [.c (.v (.int .i64)), .c (.v (.list [.int .i64, .int .i64, .int .i64, .list [.int .i64]]))]), (5, .box [.c (.v (.int .i64)), .c (.v (.int .i64)), .c (.v (.int .i64)), .c (.v (.list [.int .i64]))])]⟩ [1, 5] []
 (.seq
 (.reg false [
 ⟨(some 60), .bin .lss (.t 59) (.t 58), none⟩])
 (.seq
 (.cond (.t 60)
 .skip
 (.exit 2))
 (.seq
 (.block 3
 (.seq
 (.reg false [
 ⟨(some 61), .idxA 1 (.t 57) (.t 59), none⟩,
 ⟨(some 62), .load false 1 (.t 61), none⟩,
 ⟨(some 7), .mv (.t 62), none⟩])
 (.seq
 (.reg false [
 ⟨(some 63), .mv (.t 7), none⟩,
 ⟨(some 64), .fieldA 0 (.t 1), none⟩,
 ⟨(some 65), .load false 1 (.t 64), none⟩,
 ⟨(some 66), .bin .sub (.t 65) (.k (.one (.v (.int .i64) ((1 : Int))))), none⟩,
 ⟨(some 67), .call .froz 64 [(.t 63), (.k (.one (.v (.int .i64) ((0 : Int))))), (.t 66)], none⟩,
 ⟨(some 68), .un .not (.t 67), none⟩])
 (.cond (.t 68)
 (.seq
 (.reg false [
 ⟨(some 2), .mv (.k (.one (.v (.bool) (false)))), none⟩])
 .ret)
 .skip))))
 (.reg false [
 ⟨(some 69), .bin .add (.t 59) (.k (.one (.v (.int .i64) ((1 : Int))))), none⟩,
 ⟨(some 59), .mv (.t 69), none⟩]))))))))
 (.reg false [
 ⟨(some 70), .fieldA 2 (.t 5), none⟩,
 ⟨(some 71), .load false 1 (.t 70), none⟩,
 ⟨(some 3), .mv (.t 71), none⟩]))))))
 (.reg false [
 ⟨(some 72), .bin .add (.t 22) (.k (.one (.v (.int .i64) ((1 : Int))))), none⟩,
 ⟨(some 22), .mv (.t 72), none⟩]))))))))
 (.seq
 (.reg false [
 ⟨(some 73), .mv (.t 3), none⟩,
 ⟨(some 74), .bin .eql (.t 73) (.k (.one (.v (.int .i64) ((1 : Int))))), none⟩,
 ⟨(some 75), .mv (.t 74), none⟩,
 ⟨(some 76), .load true 2 (.t 1), (some (75, true))⟩,
 ⟨(some 77), .call .froz 66 [(.t 76)], (some (75, true))⟩,
 ⟨(some 78), .call .froz 65 [(.t 77), (.k (.one (.v (.int .i64) ((4096 : Int)))))], (some (75, true))⟩,
 ⟨(some 79), .bin .leq (.t 78) (.k (.one (.v (.int .i64) ((4096 : Int))))), (some (75, true))⟩,
 ⟨(some 80), .pick (.t 75) (.t 79) (.k (.one (.v (.bool) (false)))), none⟩,
 ⟨(some 2), .mv (.t 80), none⟩])
 .ret)))))
def ms_spec_ChainOk : List MRes := [.tmp 2]
theorem n_spec_ChainOk (NN : Nat) (x : DLL (Sig.tys ag_spec_ChainOk)) : runS NN [fn_spec_IsPrime, fn_spec_l01In, fn_spec_l32Dims, fn_spec_l05Product] sc_spec_ChainOk ms_spec_ChainOk ag_spec_ChainOk rs_spec_ChainOk x = G_spec_ChainOk NN x := by kernel_rfl
theorem k_spec_ChainOk : chkS Go.Proofs.Try.prog 16 sc_spec_ChainOk.er ms_spec_ChainOk 1 = true := by decide +kernel
theorem p_spec_ChainOk : PureSpec Go.Proofs.Try.prog 16 fn_spec_ChainOk.M ∧ chkFun Go.Proofs.Try.prog 16 = true :=
  pure_of_runS (T := [fn_spec_IsPrime, fn_spec_l01In, fn_spec_l32Dims, fn_spec_l05Product]) (sc := sc_spec_ChainOk) (ms := ms_spec_ChainOk) (args := ag_spec_ChainOk) (res := rs_spec_ChainOk) (SOk.cons p_spec_IsPrime <| SOk.cons p_spec_l01In <| SOk.cons p_spec_l32Dims <| SOk.cons p_spec_l05Product <| SOk.nil) follows_ok k_spec_ChainOk F_spec_ChainOk fun x y h => (n_spec_ChainOk FUEL x).trans (f_spec_ChainOk x y h)

def fn_spec_l05Index : SFn := ⟨131, ag_spec_l05Index, mu_spec_l05Index, rs_spec_l05Index, F_spec_l05Index⟩
def sc_spec_l05Index : SCode :=
 (.seq
 (.reg false [
 ⟨(some 4), .mv (.k (.one (.nil [.int .i64]))), none⟩])
 (.seq
 (.reg false [
 ⟨(some 7), .mv (.t 0), none⟩,
 ⟨(some 8), .len (.t 7), none⟩,
 ⟨(some 9), .mkslice .froz [.int .i64] 8 (0 : Int) (.t 8) (.t 8), none⟩,
 ⟨(some 5), .mv (.t 9), none⟩])
 (.seq
 (.seq
 (.reg false [
 ⟨(some 10), .mv (.t 0), none⟩,
 ⟨(some 11), .len (.t 10), none⟩,
 ⟨(some 12), .bin .sub (.t 11) (.k (.one (.v (.int .i64) ((1 : Int))))), none⟩,
 ⟨(some 6), .mv (.t 12), none⟩])
 (.join ⟨[(5, .one (.c (.full 500001 1)))], [(500001, .row true .froz [.int .i64])]⟩ [500000, 500001] [(false, 5, 0, 500001, .froz, [])]
 (.block 0
 (.loop 0 ⟨[(0, .one (.c (.v (.list [.int .i64])))), (1, .one (.c (.v (.int .i64)))), (5, .one (.c (.full 500000 1))), (6, .one (.c (.v (.int .i64))))], [(500000, .row true .froz [.int .i64])]⟩ [9, 500000] [(false, 5, 0, 500000, .froz, [])]
 (.seq
 (.seq
 (.reg false [
 ⟨(some 13), .mv (.t 6), none⟩,
 ⟨(some 14), .bin .geq (.t 13) (.k (.one (.v (.int .i64) ((0 : Int))))), none⟩])
 (.cond (.t 14)
 .skip
 (.exit 0)))
 (.seq
 (.block 1
 (.seq
 (.reg false [
 ⟨(some 17), .mv (.t 5), none⟩,
 ⟨(some 18), .mv (.t 6), none⟩,
 ⟨(some 19), .mv (.t 1), none⟩,
 ⟨(some 20), .mv (.t 0), none⟩,
 ⟨(some 21), .mv (.t 6), none⟩,
 ⟨(some 22), .idxA 1 (.t 20) (.t 21), none⟩,
 ⟨(some 23), .load false 1 (.t 22), none⟩,
 ⟨(some 24), .bin .rem (.t 19) (.t 23), none⟩,
 ⟨(some 25), .idxA 1 (.t 17) (.t 18), none⟩,
 ⟨none, .store 1 (.t 25) (.t 24), none⟩])
 (.reg false [
 ⟨(some 26), .mv (.t 1), none⟩,
 ⟨(some 27), .mv (.t 0), none⟩,
 ⟨(some 28), .mv (.t 6), none⟩,
 ⟨(some 29), .idxA 1 (.t 27) (.t 28), none⟩,
 ⟨(some 30), .load false 1 (.t 29), none⟩,
 ⟨(some 31), .bin .quo (.t 26) (.t 30), none⟩,
 ⟨(some 1), .mv (.t 31), none⟩])))
 (.reg false [
 ⟨(some 15), .mv (.t 6), none⟩,
 ⟨(some 16), .bin .sub (.t 15) (.k (.one (.v (.int .i64) ((1 : Int))))), none⟩,
 ⟨(some 6), .mv (.t 16), none⟩])))))))
 (.seq
 (.reg false [
 ⟨(some 32), .mv (.t 5), none⟩,
 ⟨(some 4), .mv (.t 32), none⟩])
 .ret))))
def ms_spec_l05Index : List MRes := [.tmp 4]
theorem n_spec_l05Index (NN : Nat) (x : DLL (Sig.tys ag_spec_l05Index)) : runS NN [] sc_spec_l05Index ms_spec_l05Index ag_spec_l05Index rs_spec_l05Index x = G_spec_l05Index NN x := by kernel_rfl
theorem k_spec_l05Index : chkS Go.Proofs.Try.prog 131 sc_spec_l05Index.er ms_spec_l05Index 2 = true := by decide +kernel
theorem p_spec_l05Index : PureSpec Go.Proofs.Try.prog 131 fn_spec_l05Index.M ∧ chkFun Go.Proofs.Try.prog 131 = true :=
  pure_of_runS (T := []) (sc := sc_spec_l05Index) (ms := ms_spec_l05Index) (args := ag_spec_l05Index) (res := rs_spec_l05Index) (SOk.nil) follows_ok k_spec_l05Index F_spec_l05Index fun x y h => (n_spec_l05Index FUEL x).trans (f_spec_l05Index x y h)

def fn_spec_l31New : SFn := ⟨77, ag_spec_l31New, mu_spec_l31New, rs_spec_l31New, F_spec_l31New⟩
def sc_spec_l31New : SCode :=
 (.seq
 (.reg false [
 ⟨(some 4), .alloc [.v (.int .i64) ((0 : Int)), .v (.int .i64) ((0 : Int)), .nil [.int .i64]], none⟩])
 (.seq
 (.reg false [
 ⟨(some 5), .mv (.t 0), none⟩,
 ⟨(some 6), .mv (.t 1), none⟩,
 ⟨(some 7), .mv (.t 0), none⟩,
 ⟨(some 8), .mv (.t 1), none⟩,
 ⟨(some 9), .bin .mul (.t 7) (.t 8), none⟩,
 ⟨(some 10), .mkslice .froz [.int .i64] 8 (0 : Int) (.t 9) (.t 9), none⟩,
 ⟨(some 11), .build [.v (.int .i64) ((0 : Int)), .v (.int .i64) ((0 : Int)), .nil [.int .i64]] [(0, 1, (.t 5)), (1, 1, (.t 6)), (2, 1, (.t 10))], none⟩,
 ⟨none, .store 3 (.t 4) (.t 11), none⟩])
 .ret))
def ms_spec_l31New : List MRes := [.cell 4 3 true]
theorem n_spec_l31New (NN : Nat) (x : DLL (Sig.tys ag_spec_l31New)) : runS NN [] sc_spec_l31New ms_spec_l31New ag_spec_l31New rs_spec_l31New x = G_spec_l31New NN x := by kernel_rfl
theorem k_spec_l31New : chkS Go.Proofs.Try.prog 77 sc_spec_l31New.er ms_spec_l31New 2 = true := by decide +kernel
theorem p_spec_l31New : PureSpec Go.Proofs.Try.prog 77 fn_spec_l31New.M ∧ chkFun Go.Proofs.Try.prog 77 = true :=
  pure_of_runS (T := []) (sc := sc_spec_l31New) (ms := ms_spec_l31New) (args := ag_spec_l31New) (res := rs_spec_l31New) (SOk.nil) follows_ok k_spec_l31New F_spec_l31New fun x y h => (n_spec_l31New FUEL x).trans (f_spec_l31New x y h)

def fn_spec_l32At : SFn := ⟨80, ag_spec_l32At, mu_spec_l32At, rs_spec_l32At, F_spec_l32At⟩
def sc_spec_l32At : SCode :=
 (.seq
 (.reg false [
 ⟨(some 2), .box 4 (.t 0), none⟩,
 ⟨(some 4), .alloc [.v (.int .i64) ((0 : Int)), .v (.int .i64) ((0 : Int)), .nil [.int .i64]], none⟩])
 (.seq
 (.reg false [
 ⟨(some 8), .fieldA 0 (.t 2), none⟩,
 ⟨(some 9), .load false 1 (.t 8), none⟩,
 ⟨(some 10), .fieldA 2 (.t 2), none⟩,
 ⟨(some 11), .load false 1 (.t 10), none⟩,
 ⟨(some 12), .call .froz 77 [(.t 9), (.t 11)], none⟩,
 ⟨(some 5), .alloc [.v (.int .i64) ((0 : Int)), .v (.int .i64) ((0 : Int)), .nil [.int .i64]], none⟩,
 ⟨none, .store 3 (.t 5) (.t 12), none⟩])
 (.seq
 (.seq
 (.reg false [
 ⟨(some 6), .mv (.k (.one (.v (.int .i64) ((0 : Int))))), none⟩])
 (.join ⟨[(5, .one (.c (.ptr0 5 0))), (4, .one (.c (.ptr0 4 0)))], [(4, .box [.c (.v (.int .i64)), .c (.v (.int .i64)), .c (.full 500006 1)]), (5, .box [.c (.v (.int .i64)), .c (.v (.int .i64)), .c (.full 500007 1)]), (500006, .row true .froz [.int .i64]), (500007, .row true .froz [.int .i64])]⟩ [2, 4, 5, 500000, 500001, 500006, 500007] [(true, 4, 2, 500006, .froz, []), (true, 5, 2, 500007, .froz, [])]
 (.block 0
 (.loop 0 ⟨[(1, .one (.c (.v (.int .i64)))), (2, .one (.c (.ptr0 2 0))), (4, .one (.c (.ptr0 4 0))), (5, .one (.c (.ptr0 5 0))), (6, .one (.c (.v (.int .i64))))], [(2, .box [.c (.v (.int .i64)), .c (.v (.int .i64)), .c (.v (.int .i64)), .c (.v (.list [.int .i64]))]), (4, .box [.c (.v (.int .i64)), .c (.v (.int .i64)), .c (.full 500000 1)]), (5, .box [.c (.v (.int .i64)), .c (.v (.int .i64)), .c (.full 500001 1)]), (500000, .row true .froz [.int .i64]), (500001, .row true .froz [.int .i64])]⟩ [2, 4, 13000, 5, 500000, 500001, 500004, 500005] [(true, 4, 2, 500000, .froz, []), (true, 5, 2, 500001, .froz, [])]
 (.seq
 (.seq
 (.reg false [
 ⟨(some 13), .mv (.t 6), none⟩,
 ⟨(some 14), .fieldA 0 (.t 2), none⟩,
 ⟨(some 15), .load false 1 (.t 14), none⟩,
 ⟨(some 16), .bin .lss (.t 13) (.t 15), none⟩])
 (.cond (.t 16)
 .skip
 (.exit 0)))
 (.seq
 (.join ⟨[(6, .one (.c (.v (.int .i64)))), (1, .one (.c (.v (.int .i64)))), (2, .one (.c (.ptr0 2 0))), (4, .one (.c (.ptr0 4 0))), (5, .one (.c (.ptr0 5 0)))], [(2, .box [.c (.v (.int .i64)), .c (.v (.int .i64)), .c (.v (.int .i64)), .c (.v (.list [.int .i64]))]), (4, .box [.c (.v (.int .i64)), .c (.v (.int .i64)), .c (.full 500004 1)]), (5, .box [.c (.v (.int .i64)), .c (.v (.int .i64)), .c (.full 500005 1)]), (500004, .row true .froz [.int .i64]), (500005, .row true .froz [.int .i64])]⟩ [2, 4, 5, 500002, 500003, 500004, 500005] [(true, 4, 2, 500004, .froz, []), (true, 5, 2, 500005, .froz, [])]
 (.block 1
 (.seq
 (.reg false [
 ⟨(some 7), .mv (.k (.one (.v (.int .i64) ((0 : Int))))), none⟩])
 (.block 2
 (.loop 0 ⟨[(1, .one (.c (.v (.int .i64)))), (2, .one (.c (.ptr0 2 0))), (4, .one (.c (.ptr0 4 0))), (5, .one (.c (.ptr0 5 0))), (6, .one (.c (.v (.int .i64)))), (7, .one (.c (.v (.int .i64))))], [(2, .box [.c (.v (.int .i64)), .c (.v (.int .i64)), .c (.v (.int .i64)), .c (.v (.list [.int .i64]))]), (4, .box [.c (.v (.int .i64)), .c (.v (.int .i64)), .c (.full 500002 1)]), (5, .box [.c (.v (.int .i64)), .c (.v (.int .i64)), .c (.full 500003 1)]), (500002, .row true .froz [.int .i64]), (500003, .row true .froz [.int .i64])]⟩ [2, 4, 5, 500000, 500001, 500002, 500003] [(true, 4, 2, 500002, .froz, []), (true, 5, 2, 500003, .froz, [])]
 (.seq
 (.seq
 (.reg false [
 ⟨(some 19), .mv (.t 7), none⟩,
 ⟨(some 20), .fieldA 2 (.t 2), none⟩,
 ⟨(some 21), .load false 1 (.t 20), none⟩,
 ⟨(some 22), .bin .lss (.t 19) (.t 21), none⟩])
 (.cond (.t 22)
 .skip
 (.exit 2)))
 (.seq
 (.block 3
 (.reg true [
 ⟨(some 25), .fieldA 2 (.t 5), none⟩,
 ⟨(some 26), .load false 1 (.t 25), none⟩,
 ⟨(some 27), .mv (.t 6), none⟩,
 ⟨(some 28), .fieldA 2 (.t 2), none⟩,
 ⟨(some 29), .load false 1 (.t 28), none⟩,
 ⟨(some 30), .bin .mul (.t 27) (.t 29), none⟩,
 ⟨(some 31), .mv (.t 7), none⟩,
 ⟨(some 32), .bin .add (.t 30) (.t 31), none⟩,
 ⟨(some 33), .fieldA 3 (.t 2), none⟩,
 ⟨(some 34), .load false 1 (.t 33), none⟩,
 ⟨(some 35), .mv (.t 6), none⟩,
 ⟨(some 36), .fieldA 1 (.t 2), none⟩,
 ⟨(some 37), .load false 1 (.t 36), none⟩,
 ⟨(some 38), .bin .mul (.t 35) (.t 37), none⟩,
 ⟨(some 39), .mv (.t 1), none⟩,
 ⟨(some 40), .bin .add (.t 38) (.t 39), none⟩,
 ⟨(some 41), .fieldA 2 (.t 2), none⟩,
 ⟨(some 42), .load false 1 (.t 41), none⟩,
 ⟨(some 43), .bin .mul (.t 40) (.t 42), none⟩,
 ⟨(some 44), .mv (.t 7), none⟩,
 ⟨(some 45), .bin .add (.t 43) (.t 44), none⟩,
 ⟨(some 46), .idxA 1 (.t 34) (.t 45), none⟩,
 ⟨(some 47), .load false 1 (.t 46), none⟩,
 ⟨(some 48), .idxA 1 (.t 26) (.t 32), none⟩,
 ⟨none, .store 1 (.t 48) (.t 47), none⟩]))
 (.reg false [
 ⟨(some 23), .mv (.t 7), none⟩,
 ⟨(some 24), .bin .add (.t 23) (.k (.one (.v (.int .i64) ((1 : Int))))), none⟩,
 ⟨(some 7), .mv (.t 24), none⟩]))))))))
 (.reg false [
 ⟨(some 17), .mv (.t 6), none⟩,
 ⟨(some 18), .bin .add (.t 17) (.k (.one (.v (.int .i64) ((1 : Int))))), none⟩,
 ⟨(some 6), .mv (.t 18), none⟩])))))))
 (.seq
 (.reg false [
 ⟨(some 49), .load true 3 (.t 5), none⟩,
 ⟨none, .store 3 (.t 4) (.t 49), none⟩])
 .ret))))
def ms_spec_l32At : List MRes := [.cell 4 3 true]
theorem n_spec_l32At (NN : Nat) (x : DLL (Sig.tys ag_spec_l32At)) : runS NN [fn_spec_l31New] sc_spec_l32At ms_spec_l32At ag_spec_l32At rs_spec_l32At x = G_spec_l32At NN x := by kernel_rfl
theorem k_spec_l32At : chkS Go.Proofs.Try.prog 80 sc_spec_l32At.er ms_spec_l32At 2 = true := by decide +kernel
theorem p_spec_l32At : PureSpec Go.Proofs.Try.prog 80 fn_spec_l32At.M ∧ chkFun Go.Proofs.Try.prog 80 = true :=
  pure_of_runS (T := [fn_spec_l31New]) (sc := sc_spec_l32At) (ms := ms_spec_l32At) (args := ag_spec_l32At) (res := rs_spec_l32At) (SOk.cons p_spec_l31New <| SOk.nil) follows_ok k_spec_l32At F_spec_l32At fun x y h => (n_spec_l32At FUEL x).trans (f_spec_l32At x y h)

def fn_spec_l31Mul : SFn := ⟨78, ag_spec_l31Mul, mu_spec_l31Mul, rs_spec_l31Mul, F_spec_l31Mul⟩
def sc_spec_l31Mul : SCode :=
 (.seq
 (.reg false [
 ⟨(some 4), .box 3 (.t 1), none⟩,
 ⟨(some 5), .box 3 (.t 2), none⟩,
 ⟨(some 6), .alloc [.v (.int .i64) ((0 : Int)), .v (.int .i64) ((0 : Int)), .nil [.int .i64]], none⟩])
 (.seq
 (.reg false [
 ⟨(some 12), .fieldA 0 (.t 4), none⟩,
 ⟨(some 13), .load false 1 (.t 12), none⟩,
 ⟨(some 14), .fieldA 1 (.t 5), none⟩,
 ⟨(some 15), .load false 1 (.t 14), none⟩,
 ⟨(some 16), .call .froz 77 [(.t 13), (.t 15)], none⟩,
 ⟨(some 7), .alloc [.v (.int .i64) ((0 : Int)), .v (.int .i64) ((0 : Int)), .nil [.int .i64]], none⟩,
 ⟨none, .store 3 (.t 7) (.t 16), none⟩])
 (.seq
 (.seq
 (.reg false [
 ⟨(some 8), .mv (.k (.one (.v (.int .i64) ((0 : Int))))), none⟩])
 (.join ⟨[(7, .one (.c (.ptr0 7 0))), (6, .one (.c (.ptr0 6 0)))], [(6, .box [.c (.v (.int .i64)), .c (.v (.int .i64)), .c (.full 500012 1)]), (7, .box [.c (.v (.int .i64)), .c (.v (.int .i64)), .c (.full 500013 1)]), (500012, .row true .froz [.int .i64]), (500013, .row true .froz [.int .i64])]⟩ [4, 5, 6, 7, 500000, 500001, 500012, 500013] [(true, 6, 2, 500012, .froz, []), (true, 7, 2, 500013, .froz, [])]
 (.block 0
 (.loop 0 ⟨[(0, .one (.c (.v (.int .i64)))), (4, .one (.c (.ptr0 4 0))), (5, .one (.c (.ptr0 5 0))), (6, .one (.c (.ptr0 6 0))), (7, .one (.c (.ptr0 7 0))), (8, .one (.c (.v (.int .i64))))], [(4, .box [.c (.v (.int .i64)), .c (.v (.int .i64)), .c (.v (.list [.int .i64]))]), (5, .box [.c (.v (.int .i64)), .c (.v (.int .i64)), .c (.v (.list [.int .i64]))]), (6, .box [.c (.v (.int .i64)), .c (.v (.int .i64)), .c (.full 500000 1)]), (7, .box [.c (.v (.int .i64)), .c (.v (.int .i64)), .c (.full 500001 1)]), (500000, .row true .froz [.int .i64]), (500001, .row true .froz [.int .i64])]⟩ [4, 5, 6, 17000, 7, 500000, 500001, 500010, 500011] [(true, 6, 2, 500000, .froz, []), (true, 7, 2, 500001, .froz, [])]
 (.seq
 (.seq
 (.reg false [
 ⟨(some 17), .mv (.t 8), none⟩,
 ⟨(some 18), .fieldA 0 (.t 4), none⟩,
 ⟨(some 19), .load false 1 (.t 18), none⟩,
 ⟨(some 20), .bin .lss (.t 17) (.t 19), none⟩])
 (.cond (.t 20)
 .skip
 (.exit 0)))
 (.seq
 (.join ⟨[(8, .one (.c (.v (.int .i64)))), (0, .one (.c (.v (.int .i64)))), (4, .one (.c (.ptr0 4 0))), (5, .one (.c (.ptr0 5 0))), (6, .one (.c (.ptr0 6 0))), (7, .one (.c (.ptr0 7 0)))], [(4, .box [.c (.v (.int .i64)), .c (.v (.int .i64)), .c (.v (.list [.int .i64]))]), (5, .box [.c (.v (.int .i64)), .c (.v (.int .i64)), .c (.v (.list [.int .i64]))]), (6, .box [.c (.v (.int .i64)), .c (.v (.int .i64)), .c (.full 500010 1)]), (7, .box [.c (.v (.int .i64)), .c (.v (.int .i64)), .c (.full 500011 1)]), (500010, .row true .froz [.int .i64]), (500011, .row true .froz [.int .i64])]⟩ [4, 5, 6, 7, 500002, 500003, 500010, 500011] [(true, 6, 2, 500010, .froz, []), (true, 7, 2, 500011, .froz, [])]
 (.block 1
 (.seq
 (.reg false [
 ⟨(some 9), .mv (.k (.one (.v (.int .i64) ((0 : Int))))), none⟩])
 (.block 2
 (.loop 0 ⟨[(0, .one (.c (.v (.int .i64)))), (4, .one (.c (.ptr0 4 0))), (5, .one (.c (.ptr0 5 0))), (6, .one (.c (.ptr0 6 0))), (7, .one (.c (.ptr0 7 0))), (8, .one (.c (.v (.int .i64)))), (9, .one (.c (.v (.int .i64))))], [(4, .box [.c (.v (.int .i64)), .c (.v (.int .i64)), .c (.v (.list [.int .i64]))]), (5, .box [.c (.v (.int .i64)), .c (.v (.int .i64)), .c (.v (.list [.int .i64]))]), (6, .box [.c (.v (.int .i64)), .c (.v (.int .i64)), .c (.full 500002 1)]), (7, .box [.c (.v (.int .i64)), .c (.v (.int .i64)), .c (.full 500003 1)]), (500002, .row true .froz [.int .i64]), (500003, .row true .froz [.int .i64])]⟩ [4, 5, 6, 7, 500000, 500001, 500002, 500003, 500008, 500009] [(true, 6, 2, 500002, .froz, []), (true, 7, 2, 500003, .froz, [])]
 (.seq
 (.seq
 (.reg false [
 ⟨(some 23), .mv (.t 9), none⟩,
 ⟨(some 24), .fieldA 1 (.t 5), none⟩,
 ⟨(some 25), .load false 1 (.t 24), none⟩,
 ⟨(some 26), .bin .lss (.t 23) (.t 25), none⟩])
 (.cond (.t 26)
 .skip
 (.exit 2)))
 (.seq
 (.join ⟨[(9, .one (.c (.v (.int .i64)))), (0, .one (.c (.v (.int .i64)))), (4, .one (.c (.ptr0 4 0))), (5, .one (.c (.ptr0 5 0))), (6, .one (.c (.ptr0 6 0))), (7, .one (.c (.ptr0 7 0))), (8, .one (.c (.v (.int .i64))))], [(4, .box [.c (.v (.int .i64)), .c (.v (.int .i64)), .c (.v (.list [.int .i64]))]), (5, .box [.c (.v (.int .i64)), .c (.v (.int .i64)), .c (.v (.list [.int .i64]))]), (6, .box [.c (.v (.int .i64)), .c (.v (.int .i64)), .c (.full 500008 1)]), (7, .box [.c (.v (.int .i64)), .c (.v (.int .i64)), .c (.full 500009 1)]), (500008, .row true .froz [.int .i64]), (500009, .row true .froz [.int .i64])]⟩ [4, 5, 6, 7, 500006, 500007, 500008, 500009] [(true, 6, 2, 500008, .froz, []), (true, 7, 2, 500009, .froz, [])]
 (.block 3
 (.seq
 (.reg false [
 ⟨(some 10), .mv (.k (.one (.v (.int .i64) ((0 : Int))))), none⟩])
 (.seq
 (.seq
 (.reg false [
 ⟨(some 11), .mv (.k (.one (.v (.int .i64) ((0 : Int))))), none⟩])
 (.join ⟨[(10, .one (.c (.v (.int .i64)))), (9, .one (.c (.v (.int .i64)))), (0, .one (.c (.v (.int .i64)))), (4, .one (.c (.ptr0 4 0))), (5, .one (.c (.ptr0 5 0))), (6, .one (.c (.ptr0 6 0))), (7, .one (.c (.ptr0 7 0))), (8, .one (.c (.v (.int .i64))))], [(4, .box [.c (.v (.int .i64)), .c (.v (.int .i64)), .c (.v (.list [.int .i64]))]), (5, .box [.c (.v (.int .i64)), .c (.v (.int .i64)), .c (.v (.list [.int .i64]))]), (6, .box [.c (.v (.int .i64)), .c (.v (.int .i64)), .c (.full 500006 1)]), (7, .box [.c (.v (.int .i64)), .c (.v (.int .i64)), .c (.full 500007 1)]), (500006, .row true .froz [.int .i64]), (500007, .row true .froz [.int .i64])]⟩ [4, 5, 6, 7, 500004, 500005, 500006, 500007] [(true, 6, 2, 500006, .froz, []), (true, 7, 2, 500007, .froz, [])]
 (.block 4
 (.loop 0 ⟨[(0, .one (.c (.v (.int .i64)))), (4, .one (.c (.ptr0 4 0))), (5, .one (.c (.ptr0 5 0))), (6, .one (.c (.ptr0 6 0))), (7, .one (.c (.ptr0 7 0))), (8, .one (.c (.v (.int .i64)))), (9, .one (.c (.v (.int .i64)))), (10, .one (.c (.v (.int .i64)))), (11, .one (.c (.v (.int .i64))))], [(4, .box [.c (.v (.int .i64)), .c (.v (.int .i64)), .c (.v (.list [.int .i64]))]), (5, .box [.c (.v (.int .i64)), .c (.v (.int .i64)), .c (.v (.list [.int .i64]))]), (6, .box [.c (.v (.int .i64)), .c (.v (.int .i64)), .c (.full 500004 1)]), (7, .box [.c (.v (.int .i64)), .c (.v (.int .i64)), .c (.full 500005 1)]), (500004, .row true .froz [.int .i64]), (500005, .row true .froz [.int .i64])]⟩ [4, 5, 6, 7, 500002, 500003, 500004, 500005] [(true, 6, 2, 500004, .froz, []), (true, 7, 2, 500005, .froz, [])]
 (.seq
 (.seq
 (.reg false [
 ⟨(some 29), .mv (.t 11), none⟩,
 ⟨(some 30), .fieldA 1 (.t 4), none⟩,
 ⟨(some 31), .load false 1 (.t 30), none⟩,
 ⟨(some 32), .bin .lss (.t 29) (.t 31), none⟩])
 (.cond (.t 32)
 .skip
 (.exit 4)))
 (.seq
 (.block 5
 (.reg true [
 ⟨(some 35), .mv (.t 10), none⟩,
 ⟨(some 36), .fieldA 2 (.t 4), none⟩,
 ⟨(some 37), .load false 1 (.t 36), none⟩,
 ⟨(some 38), .mv (.t 8), none⟩,
 ⟨(some 39), .fieldA 1 (.t 4), none⟩,
 ⟨(some 40), .load false 1 (.t 39), none⟩,
 ⟨(some 41), .bin .mul (.t 38) (.t 40), none⟩,
 ⟨(some 42), .mv (.t 11), none⟩,
 ⟨(some 43), .bin .add (.t 41) (.t 42), none⟩,
 ⟨(some 44), .idxA 1 (.t 37) (.t 43), none⟩,
 ⟨(some 45), .load false 1 (.t 44), none⟩,
 ⟨(some 46), .fieldA 2 (.t 5), none⟩,
 ⟨(some 47), .load false 1 (.t 46), none⟩,
 ⟨(some 48), .mv (.t 11), none⟩,
 ⟨(some 49), .fieldA 1 (.t 5), none⟩,
 ⟨(some 50), .load false 1 (.t 49), none⟩,
 ⟨(some 51), .bin .mul (.t 48) (.t 50), none⟩,
 ⟨(some 52), .mv (.t 9), none⟩,
 ⟨(some 53), .bin .add (.t 51) (.t 52), none⟩,
 ⟨(some 54), .idxA 1 (.t 47) (.t 53), none⟩,
 ⟨(some 55), .load false 1 (.t 54), none⟩,
 ⟨(some 56), .bin .mul (.t 45) (.t 55), none⟩,
 ⟨(some 57), .bin .add (.t 35) (.t 56), none⟩,
 ⟨(some 58), .mv (.t 0), none⟩,
 ⟨(some 59), .bin .rem (.t 57) (.t 58), none⟩,
 ⟨(some 10), .mv (.t 59), none⟩]))
 (.reg false [
 ⟨(some 33), .mv (.t 11), none⟩,
 ⟨(some 34), .bin .add (.t 33) (.k (.one (.v (.int .i64) ((1 : Int))))), none⟩,
 ⟨(some 11), .mv (.t 34), none⟩])))))))
 (.reg false [
 ⟨(some 60), .fieldA 2 (.t 7), none⟩,
 ⟨(some 61), .load false 1 (.t 60), none⟩,
 ⟨(some 62), .mv (.t 8), none⟩,
 ⟨(some 63), .fieldA 1 (.t 5), none⟩,
 ⟨(some 64), .load false 1 (.t 63), none⟩,
 ⟨(some 65), .bin .mul (.t 62) (.t 64), none⟩,
 ⟨(some 66), .mv (.t 9), none⟩,
 ⟨(some 67), .bin .add (.t 65) (.t 66), none⟩,
 ⟨(some 68), .mv (.t 10), none⟩,
 ⟨(some 69), .idxA 1 (.t 61) (.t 67), none⟩,
 ⟨none, .store 1 (.t 69) (.t 68), none⟩])))))
 (.reg false [
 ⟨(some 27), .mv (.t 9), none⟩,
 ⟨(some 28), .bin .add (.t 27) (.k (.one (.v (.int .i64) ((1 : Int))))), none⟩,
 ⟨(some 9), .mv (.t 28), none⟩]))))))))
 (.reg false [
 ⟨(some 21), .mv (.t 8), none⟩,
 ⟨(some 22), .bin .add (.t 21) (.k (.one (.v (.int .i64) ((1 : Int))))), none⟩,
 ⟨(some 8), .mv (.t 22), none⟩])))))))
 (.seq
 (.reg false [
 ⟨(some 70), .load true 3 (.t 7), none⟩,
 ⟨none, .store 3 (.t 6) (.t 70), none⟩])
 .ret))))
def ms_spec_l31Mul : List MRes := [.cell 6 3 true]
theorem n_spec_l31Mul (NN : Nat) (x : DLL (Sig.tys ag_spec_l31Mul)) : runS NN [fn_spec_l31New] sc_spec_l31Mul ms_spec_l31Mul ag_spec_l31Mul rs_spec_l31Mul x = G_spec_l31Mul NN x := by kernel_rfl
theorem k_spec_l31Mul : chkS Go.Proofs.Try.prog 78 sc_spec_l31Mul.er ms_spec_l31Mul 3 = true := by decide +kernel
theorem p_spec_l31Mul : PureSpec Go.Proofs.Try.prog 78 fn_spec_l31Mul.M ∧ chkFun Go.Proofs.Try.prog 78 = true :=
  pure_of_runS (T := [fn_spec_l31New]) (sc := sc_spec_l31Mul) (ms := ms_spec_l31Mul) (args := ag_spec_l31Mul) (res := rs_spec_l31Mul) (SOk.cons p_spec_l31New <| SOk.nil) follows_ok k_spec_l31Mul F_spec_l31Mul fun x y h => (n_spec_l31Mul FUEL x).trans (f_spec_l31Mul x y h)

def fn_spec_l32Elem : SFn := ⟨72, ag_spec_l32Elem, mu_spec_l32Elem, rs_spec_l32Elem, F_spec_l32Elem⟩
def sc_spec_l32Elem : SCode :=
 (.seq
 (.reg false [
 ⟨(some 2), .box 2 (.t 0), none⟩,
 ⟨(some 4), .mv (.k (.one (.v (.int .i64) ((0 : Int))))), none⟩])
 (.seq
 (.reg false [
 ⟨(some 8), .bslice [.int .i64] [(.k (.one (.v (.int .i64) ((1 : Int)))))], none⟩,
 ⟨(some 9), .build [.v (.int .i64) ((0 : Int)), .v (.int .i64) ((0 : Int)), .nil [.int .i64]] [(0, 1, (.k (.one (.v (.int .i64) ((1 : Int)))))), (1, 1, (.k (.one (.v (.int .i64) ((1 : Int)))))), (2, 1, (.t 8))], none⟩,
 ⟨(some 5), .alloc [.v (.int .i64) ((0 : Int)), .v (.int .i64) ((0 : Int)), .nil [.int .i64]], none⟩,
 ⟨none, .store 3 (.t 5) (.t 9), none⟩])
 (.seq
 (.seq
 (.reg false [
 ⟨(some 10), .fieldA 1 (.t 2), none⟩,
 ⟨(some 11), .load false 1 (.t 10), none⟩,
 ⟨(some 12), .len (.t 11), none⟩,
 ⟨(some 13), .mv (.k (.one (.v (.int .i64) ((0 : Int))))), none⟩])
 (.join ⟨[(5, .one (.c (.ptr0 5 0)))], [(5, .box [.c (.v (.int .i64)), .c (.v (.int .i64)), .c (.full 500001 1)]), (500001, .row true .froz [.int .i64])]⟩ [2, 5, 500000, 500001] [(true, 5, 2, 500001, .froz, [])]
 (.block 0
 (.loop 0 ⟨[(1, .one (.c (.v (.list [.int .i64])))), (2, .one (.c (.ptr0 2 0))), (5, .one (.c (.ptr0 5 0))), (11, .one (.c (.v (.list [.int .i64, .int .i64, .int .i64, .list [.int .i64]])))), (12, .one (.c (.v (.int .i64)))), (13, .one (.c (.v (.int .i64))))], [(2, .box [.c (.v (.int .i64)), .c (.v (.list [.int .i64, .int .i64, .int .i64, .list [.int .i64]]))]), (5, .box [.c (.v (.int .i64)), .c (.v (.int .i64)), .c (.full 500000 1)]), (500000, .row true .froz [.int .i64])]⟩ [2, 8, 5, 7, 27000, 28000, 500000] [(true, 5, 2, 500000, .froz, [])]
 (.seq
 (.reg false [
 ⟨(some 14), .bin .lss (.t 13) (.t 12), none⟩])
 (.seq
 (.cond (.t 14)
 .skip
 (.exit 0))
 (.seq
 (.block 1
 (.seq
 (.reg false [
 ⟨(some 15), .mv (.t 13), none⟩,
 ⟨(some 16), .idxA 4 (.t 11) (.t 13), none⟩,
 ⟨(some 17), .load true 4 (.t 16), none⟩,
 ⟨(some 7), .alloc [.v (.int .i64) ((0 : Int)), .v (.int .i64) ((0 : Int)), .v (.int .i64) ((0 : Int)), .nil [.int .i64]], none⟩,
 ⟨(some 6), .mv (.t 15), none⟩,
 ⟨none, .store 4 (.t 7) (.t 17), none⟩])
 (.reg true [
 ⟨(some 18), .fieldA 0 (.t 2), none⟩,
 ⟨(some 19), .load false 1 (.t 18), none⟩,
 ⟨(some 20), .load true 3 (.t 5), none⟩,
 ⟨(some 21), .load true 4 (.t 7), none⟩,
 ⟨(some 22), .mv (.t 1), none⟩,
 ⟨(some 23), .mv (.t 6), none⟩,
 ⟨(some 24), .idxA 1 (.t 22) (.t 23), none⟩,
 ⟨(some 25), .load false 1 (.t 24), none⟩,
 ⟨(some 26), .call .froz 80 [(.t 21), (.t 25)], none⟩,
 ⟨(some 27), .call .froz 78 [(.t 19), (.t 20), (.t 26)], none⟩,
 ⟨none, .store 3 (.t 5) (.t 27), none⟩])))
 (.reg false [
 ⟨(some 28), .bin .add (.t 13) (.k (.one (.v (.int .i64) ((1 : Int))))), none⟩,
 ⟨(some 13), .mv (.t 28), none⟩]))))))))
 (.seq
 (.reg false [
 ⟨(some 29), .fieldA 2 (.t 5), none⟩,
 ⟨(some 30), .load false 1 (.t 29), none⟩,
 ⟨(some 31), .idxA 1 (.t 30) (.k (.one (.v (.int .i64) ((0 : Int))))), none⟩,
 ⟨(some 32), .load false 1 (.t 31), none⟩,
 ⟨(some 4), .mv (.t 32), none⟩])
 .ret))))
def ms_spec_l32Elem : List MRes := [.tmp 4]
theorem n_spec_l32Elem (NN : Nat) (x : DLL (Sig.tys ag_spec_l32Elem)) : runS NN [fn_spec_l32At, fn_spec_l31Mul] sc_spec_l32Elem ms_spec_l32Elem ag_spec_l32Elem rs_spec_l32Elem x = G_spec_l32Elem NN x := by kernel_rfl
theorem k_spec_l32Elem : chkS Go.Proofs.Try.prog 72 sc_spec_l32Elem.er ms_spec_l32Elem 2 = true := by decide +kernel
theorem p_spec_l32Elem : PureSpec Go.Proofs.Try.prog 72 fn_spec_l32Elem.M ∧ chkFun Go.Proofs.Try.prog 72 = true :=
  pure_of_runS (T := [fn_spec_l32At, fn_spec_l31Mul]) (sc := sc_spec_l32Elem) (ms := ms_spec_l32Elem) (args := ag_spec_l32Elem) (res := rs_spec_l32Elem) (SOk.cons p_spec_l32At <| SOk.cons p_spec_l31Mul <| SOk.nil) follows_ok k_spec_l32Elem F_spec_l32Elem fun x y h => (n_spec_l32Elem FUEL x).trans (f_spec_l32Elem x y h)

def fn_spec_l32Tensor : SFn := ⟨86, ag_spec_l32Tensor, mu_spec_l32Tensor, rs_spec_l32Tensor, F_spec_l32Tensor⟩
def sc_spec_l32Tensor : SCode :=
 (.seq
 (.reg false [
 ⟨(some 1), .box 2 (.t 0), none⟩,
 ⟨(some 2), .alloc [.nil [.int .i64], .nil [.int .i64], .nil [.int .i64]], none⟩])
 (.seq
 (.reg false [
 ⟨(some 6), .load true 2 (.t 1), none⟩,
 ⟨(some 7), .call .froz 66 [(.t 6)], none⟩,
 ⟨(some 8), .build [.nil [.int .i64], .nil [.int .i64], .nil [.int .i64]] [(1, 1, (.t 7))], none⟩,
 ⟨(some 3), .alloc [.nil [.int .i64], .nil [.int .i64], .nil [.int .i64]], none⟩,
 ⟨none, .store 3 (.t 3) (.t 8), none⟩])
 (.seq
 (.seq
 (.reg false [
 ⟨(some 9), .fieldA 1 (.t 1), none⟩,
 ⟨(some 10), .load false 1 (.t 9), none⟩,
 ⟨(some 11), .len (.t 10), none⟩,
 ⟨(some 12), .mv (.k (.one (.v (.int .i64) ((0 : Int))))), none⟩])
 (.join ⟨[(2, .one (.c (.ptr0 2 0))), (3, .one (.c (.ptr0 3 0))), (1, .one (.c (.ptr0 1 0)))], [(1, .box [.c (.v (.int .i64)), .c (.v (.list [.int .i64, .int .i64, .int .i64, .list [.int .i64]]))]), (2, .box [.c (.full 500006 1), .c (.full 500007 1), .c (.full 500008 1)]), (3, .box [.c (.full 500009 1), .c (.full 500010 1), .c (.full 500011 1)]), (500006, .row true .froz [.int .i64]), (500007, .row true .froz [.int .i64]), (500008, .row true .froz [.int .i64]), (500009, .row true .froz [.int .i64]), (500010, .row true .froz [.int .i64]), (500011, .row true .froz [.int .i64])]⟩ [1, 2, 3, 500000, 500001, 500002, 500003, 500004, 500005, 500006, 500007, 500008, 500009, 500010, 500011] [(true, 2, 0, 500006, .froz, []), (true, 2, 1, 500007, .froz, []), (true, 2, 2, 500008, .froz, []), (true, 3, 0, 500009, .froz, []), (true, 3, 1, 500010, .froz, []), (true, 3, 2, 500011, .froz, [])]
 (.block 0
 (.loop 0 ⟨[(1, .one (.c (.ptr0 1 0))), (2, .one (.c (.ptr0 2 0))), (3, .one (.c (.ptr0 3 0))), (11, .one (.c (.v (.int .i64)))), (12, .one (.c (.v (.int .i64))))], [(1, .box [.c (.v (.int .i64)), .c (.v (.list [.int .i64, .int .i64, .int .i64, .list [.int .i64]]))]), (2, .box [.c (.full 500000 1), .c (.full 500001 1), .c (.full 500002 1)]), (3, .box [.c (.full 500003 1), .c (.full 500004 1), .c (.full 500005 1)]), (500000, .row true .froz [.int .i64]), (500001, .row true .froz [.int .i64]), (500002, .row true .froz [.int .i64]), (500003, .row true .froz [.int .i64]), (500004, .row true .froz [.int .i64]), (500005, .row true .froz [.int .i64])]⟩ [1, 2, 8000, 3, 18, 19, 500000, 500001, 500002, 500003, 500004, 500005] [(true, 2, 0, 500000, .froz, []), (true, 2, 1, 500001, .froz, []), (true, 2, 2, 500002, .froz, []), (true, 3, 0, 500003, .froz, []), (true, 3, 1, 500004, .froz, []), (true, 3, 2, 500005, .froz, [])]
 (.seq
 (.reg false [
 ⟨(some 13), .bin .lss (.t 12) (.t 11), none⟩])
 (.seq
 (.cond (.t 13)
 .skip
 (.exit 0))
 (.seq
 (.block 1
 (.seq
 (.reg false [
 ⟨(some 14), .mv (.t 12), none⟩,
 ⟨(some 4), .mv (.t 14), none⟩])
 (.reg false [
 ⟨(some 15), .fieldA 0 (.t 3), none⟩,
 ⟨(some 16), .load false 1 (.t 15), none⟩,
 ⟨(some 17), .mv (.t 4), none⟩,
 ⟨(some 18), .bslice [.int .i64] [(.t 17)], none⟩,
 ⟨(some 19), .append true [.int .i64] 8 (.t 16) (.t 18), none⟩,
 ⟨(some 20), .fieldA 0 (.t 3), none⟩,
 ⟨none, .store 1 (.t 20) (.t 19), none⟩])))
 (.reg false [
 ⟨(some 21), .bin .add (.t 12) (.k (.one (.v (.int .i64) ((1 : Int))))), none⟩,
 ⟨(some 12), .mv (.t 21), none⟩]))))))))
 (.seq
 (.seq
 (.reg false [
 ⟨(some 5), .mv (.k (.one (.v (.int .i64) ((0 : Int))))), none⟩])
 (.join ⟨[(3, .one (.c (.ptr0 3 0))), (2, .one (.c (.ptr0 2 0)))], [(2, .box [.c (.full 500018 1), .c (.full 500019 1), .c (.full 500020 1)]), (3, .box [.c (.full 500021 1), .c (.full 500022 1), .c (.full 500023 1)]), (500018, .row true .froz [.int .i64]), (500019, .row true .froz [.int .i64]), (500020, .row true .froz [.int .i64]), (500021, .row true .froz [.int .i64]), (500022, .row true .froz [.int .i64]), (500023, .row true .froz [.int .i64])]⟩ [1, 2, 3, 500012, 500013, 500014, 500015, 500016, 500017, 500018, 500019, 500020, 500021, 500022, 500023] [(true, 2, 0, 500018, .froz, []), (true, 2, 1, 500019, .froz, []), (true, 2, 2, 500020, .froz, []), (true, 3, 0, 500021, .froz, []), (true, 3, 1, 500022, .froz, []), (true, 3, 2, 500023, .froz, [])]
 (.block 2
 (.loop 0 ⟨[(1, .one (.c (.ptr0 1 0))), (2, .one (.c (.ptr0 2 0))), (3, .one (.c (.ptr0 3 0))), (5, .one (.c (.v (.int .i64))))], [(1, .box [.c (.v (.int .i64)), .c (.v (.list [.int .i64, .int .i64, .int .i64, .list [.int .i64]]))]), (2, .box [.c (.full 500012 1), .c (.full 500013 1), .c (.full 500014 1)]), (3, .box [.c (.full 500015 1), .c (.full 500016 1), .c (.full 500017 1)]), (500012, .row true .froz [.int .i64]), (500013, .row true .froz [.int .i64]), (500014, .row true .froz [.int .i64]), (500015, .row true .froz [.int .i64]), (500016, .row true .froz [.int .i64]), (500017, .row true .froz [.int .i64])]⟩ [1, 2, 3, 36000, 37, 38, 500006, 500007, 500008, 500009, 500010, 500011, 500012, 500013, 500014, 500015, 500016, 500017] [(true, 2, 0, 500012, .froz, []), (true, 2, 1, 500013, .froz, []), (true, 2, 2, 500014, .froz, []), (true, 3, 0, 500015, .froz, []), (true, 3, 1, 500016, .froz, []), (true, 3, 2, 500017, .froz, [])]
 (.seq
 (.seq
 (.reg false [
 ⟨(some 22), .mv (.t 5), none⟩,
 ⟨(some 23), .fieldA 1 (.t 3), none⟩,
 ⟨(some 24), .load false 1 (.t 23), none⟩,
 ⟨(some 25), .call .froz 65 [(.t 24), (.k (.one (.v (.int .i64) ((4096 : Int)))))], none⟩,
 ⟨(some 26), .bin .lss (.t 22) (.t 25), none⟩])
 (.cond (.t 26)
 .skip
 (.exit 2)))
 (.seq
 (.block 3
 (.regD [(0, 8), (1, 8)] [
 ⟨(some 29), .fieldA 2 (.t 3), none⟩,
 ⟨(some 30), .load false 1 (.t 29), none⟩,
 ⟨(some 31), .load true 2 (.t 1), none⟩,
 ⟨(some 32), .fieldA 1 (.t 3), none⟩,
 ⟨(some 33), .load false 1 (.t 32), none⟩,
 ⟨(some 34), .mv (.t 5), none⟩,
 ⟨(some 35), .call .froz 131 [(.t 33), (.t 34)], none⟩,
 ⟨(some 36), .call .froz 72 [(.t 31), (.t 35)], none⟩,
 ⟨(some 37), .bslice [.int .i64] [(.t 36)], none⟩,
 ⟨(some 38), .append true [.int .i64] 8 (.t 30) (.t 37), none⟩,
 ⟨(some 39), .fieldA 2 (.t 3), none⟩,
 ⟨none, .store 1 (.t 39) (.t 38), none⟩]))
 (.reg false [
 ⟨(some 27), .mv (.t 5), none⟩,
 ⟨(some 28), .bin .add (.t 27) (.k (.one (.v (.int .i64) ((1 : Int))))), none⟩,
 ⟨(some 5), .mv (.t 28), none⟩])))))))
 (.seq
 (.reg false [
 ⟨(some 40), .load true 3 (.t 3), none⟩,
 ⟨none, .store 3 (.t 2) (.t 40), none⟩])
 .ret)))))
def ms_spec_l32Tensor : List MRes := [.cell 2 3 true]
theorem n_spec_l32Tensor (NN : Nat) (x : DLL (Sig.tys ag_spec_l32Tensor)) : runS NN [fn_spec_l32Dims, fn_spec_l05Product, fn_spec_l05Index, fn_spec_l32Elem] sc_spec_l32Tensor ms_spec_l32Tensor ag_spec_l32Tensor rs_spec_l32Tensor x = G_spec_l32Tensor NN x := by kernel_rfl
theorem k_spec_l32Tensor : chkS Go.Proofs.Try.prog 86 sc_spec_l32Tensor.er ms_spec_l32Tensor 1 = true := by decide +kernel
theorem p_spec_l32Tensor : PureSpec Go.Proofs.Try.prog 86 fn_spec_l32Tensor.M ∧ chkFun Go.Proofs.Try.prog 86 = true :=
  pure_of_runS (T := [fn_spec_l32Dims, fn_spec_l05Product, fn_spec_l05Index, fn_spec_l32Elem]) (sc := sc_spec_l32Tensor) (ms := ms_spec_l32Tensor) (args := ag_spec_l32Tensor) (res := rs_spec_l32Tensor) (SOk.cons p_spec_l32Dims <| SOk.cons p_spec_l05Product <| SOk.cons p_spec_l05Index <| SOk.cons p_spec_l32Elem <| SOk.nil) follows_ok k_spec_l32Tensor F_spec_l32Tensor fun x y h => (n_spec_l32Tensor FUEL x).trans (f_spec_l32Tensor x y h)

def fn_spec_ChainTensor : SFn := ⟨31, ag_spec_ChainTensor, mu_spec_ChainTensor, rs_spec_ChainTensor, F_spec_ChainTensor⟩
def sc_spec_ChainTensor : SCode :=
 (.seq
 (.reg false [
 ⟨(some 1), .box 2 (.t 0), none⟩,
 ⟨(some 2), .alloc [.nil [.int .i64], .nil [.int .i64], .nil [.int .i64]], none⟩])
 (.seq
 (.seq
 (.reg false [
 ⟨(some 3), .load true 2 (.t 1), none⟩,
 ⟨(some 4), .call .froz 16 [(.t 3)], none⟩,
 ⟨(some 5), .un .not (.t 4), none⟩])
 (.cond (.t 5)
 (.seq
 (.reg false [
 ⟨(some 6), .build [.nil [.int .i64], .nil [.int .i64], .nil [.int .i64]] [], none⟩,
 ⟨none, .store 3 (.t 2) (.t 6), none⟩])
 .ret)
 .skip))
 (.seq
 (.reg false [
 ⟨(some 7), .load true 2 (.t 1), none⟩,
 ⟨(some 8), .call .froz 86 [(.t 7)], none⟩,
 ⟨none, .store 3 (.t 2) (.t 8), none⟩])
 .ret)))
def ms_spec_ChainTensor : List MRes := [.cell 2 3 true]
theorem n_spec_ChainTensor (NN : Nat) (x : DLL (Sig.tys ag_spec_ChainTensor)) : runS NN [fn_spec_ChainOk, fn_spec_l32Tensor] sc_spec_ChainTensor ms_spec_ChainTensor ag_spec_ChainTensor rs_spec_ChainTensor x = G_spec_ChainTensor NN x := by kernel_rfl
theorem k_spec_ChainTensor : chkS Go.Proofs.Try.prog 31 sc_spec_ChainTensor.er ms_spec_ChainTensor 1 = true := by decide +kernel
theorem p_spec_ChainTensor : PureSpec Go.Proofs.Try.prog 31 fn_spec_ChainTensor.M ∧ chkFun Go.Proofs.Try.prog 31 = true :=
  pure_of_runS (T := [fn_spec_ChainOk, fn_spec_l32Tensor]) (sc := sc_spec_ChainTensor) (ms := ms_spec_ChainTensor) (args := ag_spec_ChainTensor) (res := rs_spec_ChainTensor) (SOk.cons p_spec_ChainOk <| SOk.cons p_spec_l32Tensor <| SOk.nil) follows_ok k_spec_ChainTensor F_spec_ChainTensor fun x y h => (n_spec_ChainTensor FUEL x).trans (f_spec_ChainTensor x y h)

def fn_impl_IsPrime : SFn := ⟨68, ag_impl_IsPrime, mu_impl_IsPrime, rs_impl_IsPrime, F_impl_IsPrime⟩
def sc_impl_IsPrime : SCode :=
 (.seq
 (.reg false [
 ⟨(some 2), .mv (.k (.one (.v (.bool) (false)))), none⟩])
 (.seq
 (.seq
 (.reg false [
 ⟨(some 4), .mv (.t 0), none⟩,
 ⟨(some 5), .bin .lss (.t 4) (.k (.one (.v (.int .i64) ((2 : Int))))), none⟩,
 ⟨(some 6), .mv (.t 5), none⟩,
 ⟨(some 7), .mv (.t 0), (some (6, false))⟩,
 ⟨(some 8), .bin .gtr (.t 7) (.k (.one (.v (.int .i64) ((1000003 : Int))))), (some (6, false))⟩,
 ⟨(some 9), .pick (.t 6) (.k (.one (.v (.bool) (true)))) (.t 8), none⟩])
 (.cond (.t 9)
 (.seq
 (.reg false [
 ⟨(some 2), .mv (.k (.one (.v (.bool) (false)))), none⟩])
 .ret)
 .skip))
 (.seq
 (.seq
 (.reg false [
 ⟨(some 3), .mv (.k (.one (.v (.int .i64) ((2 : Int))))), none⟩])
 (.join ⟨[], []⟩ [] []
 (.block 0
 (.loop 0 ⟨[(0, .one (.c (.v (.int .i64)))), (3, .one (.c (.v (.int .i64))))], []⟩ [] []
 (.seq
 (.seq
 (.reg false [
 ⟨(some 10), .mv (.t 3), none⟩,
 ⟨(some 11), .mv (.t 3), none⟩,
 ⟨(some 12), .bin .mul (.t 10) (.t 11), none⟩,
 ⟨(some 13), .mv (.t 0), none⟩,
 ⟨(some 14), .bin .leq (.t 12) (.t 13), none⟩])
 (.cond (.t 14)
 .skip
 (.exit 0)))
 (.seq
 (.block 1
 (.seq
 (.reg false [
 ⟨(some 17), .mv (.t 0), none⟩,
 ⟨(some 18), .mv (.t 3), none⟩,
 ⟨(some 19), .bin .rem (.t 17) (.t 18), none⟩,
 ⟨(some 20), .bin .eql (.t 19) (.k (.one (.v (.int .i64) ((0 : Int))))), none⟩])
 (.cond (.t 20)
 (.seq
 (.reg false [
 ⟨(some 2), .mv (.k (.one (.v (.bool) (false)))), none⟩])
 .ret)
 .skip)))
 (.reg false [
 ⟨(some 15), .mv (.t 3), none⟩,
 ⟨(some 16), .bin .add (.t 15) (.k (.one (.v (.int .i64) ((1 : Int))))), none⟩,
 ⟨(some 3), .mv (.t 16), none⟩])))))))
 (.seq
 (.reg false [
 ⟨(some 2), .mv (.k (.one (.v (.bool) (true)))), none⟩])
 .ret))))
def ms_impl_IsPrime : List MRes := [.tmp 2]
theorem n_impl_IsPrime (NN : Nat) (x : DLL (Sig.tys ag_impl_IsPrime)) : runS NN [] sc_impl_IsPrime ms_impl_IsPrime ag_impl_IsPrime rs_impl_IsPrime x = G_impl_IsPrime NN x := by kernel_rfl
theorem k_impl_IsPrime : chkS Go.Proofs.Try.prog 68 sc_impl_IsPrime.er ms_impl_IsPrime 1 = true := by decide +kernel
theorem p_impl_IsPrime : PureSpec Go.Proofs.Try.prog 68 fn_impl_IsPrime.M ∧ chkFun Go.Proofs.Try.prog 68 = true :=
  pure_of_runS (T := []) (sc := sc_impl_IsPrime) (ms := ms_impl_IsPrime) (args := ag_impl_IsPrime) (res := rs_impl_IsPrime) (SOk.nil) follows_ok k_impl_IsPrime F_impl_IsPrime fun x y h => (n_impl_IsPrime FUEL x).trans (f_impl_IsPrime x y h)

def fn_impl_inMod : SFn := ⟨127, ag_impl_inMod, mu_impl_inMod, rs_impl_inMod, F_impl_inMod⟩
def sc_impl_inMod : SCode :=
 (.seq
 (.reg false [
 ⟨(some 4), .mv (.k (.one (.v (.bool) (false)))), none⟩])
 (.seq
 (.seq
 (.reg false [
 ⟨(some 7), .mv (.t 1), none⟩,
 ⟨(some 8), .len (.t 7), none⟩,
 ⟨(some 9), .mv (.k (.one (.v (.int .i64) ((0 : Int))))), none⟩])
 (.join ⟨[], []⟩ [] []
 (.block 0
 (.loop 0 ⟨[(0, .one (.c (.v (.int .i64)))), (7, .one (.c (.v (.list [.int .i64])))), (8, .one (.c (.v (.int .i64)))), (9, .one (.c (.v (.int .i64))))], []⟩ [] []
 (.seq
 (.reg false [
 ⟨(some 10), .bin .lss (.t 9) (.t 8), none⟩])
 (.seq
 (.cond (.t 10)
 .skip
 (.exit 0))
 (.seq
 (.block 1
 (.seq
 (.reg false [
 ⟨(some 11), .idxA 1 (.t 7) (.t 9), none⟩,
 ⟨(some 12), .load false 1 (.t 11), none⟩,
 ⟨(some 6), .mv (.t 12), none⟩])
 (.seq
 (.reg false [
 ⟨(some 13), .mv (.t 6), none⟩,
 ⟨(some 14), .bin .lss (.t 13) (.k (.one (.v (.int .i64) ((0 : Int))))), none⟩,
 ⟨(some 15), .mv (.t 14), none⟩,
 ⟨(some 16), .mv (.t 6), (some (15, false))⟩,
 ⟨(some 17), .mv (.t 0), (some (15, false))⟩,
 ⟨(some 18), .bin .geq (.t 16) (.t 17), (some (15, false))⟩,
 ⟨(some 19), .pick (.t 15) (.k (.one (.v (.bool) (true)))) (.t 18), none⟩])
 (.cond (.t 19)
 (.seq
 (.reg false [
 ⟨(some 4), .mv (.k (.one (.v (.bool) (false)))), none⟩])
 .ret)
 .skip))))
 (.reg false [
 ⟨(some 20), .bin .add (.t 9) (.k (.one (.v (.int .i64) ((1 : Int))))), none⟩,
 ⟨(some 9), .mv (.t 20), none⟩]))))))))
 (.seq
 (.reg false [
 ⟨(some 4), .mv (.k (.one (.v (.bool) (true)))), none⟩])
 .ret)))
def ms_impl_inMod : List MRes := [.tmp 4]
theorem n_impl_inMod (NN : Nat) (x : DLL (Sig.tys ag_impl_inMod)) : runS NN [] sc_impl_inMod ms_impl_inMod ag_impl_inMod rs_impl_inMod x = G_impl_inMod NN x := by kernel_rfl
theorem k_impl_inMod : chkS Go.Proofs.Try.prog 127 sc_impl_inMod.er ms_impl_inMod 2 = true := by decide +kernel
theorem p_impl_inMod : PureSpec Go.Proofs.Try.prog 127 fn_impl_inMod.M ∧ chkFun Go.Proofs.Try.prog 127 = true :=
  pure_of_runS (T := []) (sc := sc_impl_inMod) (ms := ms_impl_inMod) (args := ag_impl_inMod) (res := rs_impl_inMod) (SOk.nil) follows_ok k_impl_inMod F_impl_inMod fun x y h => (n_impl_inMod FUEL x).trans (f_impl_inMod x y h)

def fn_impl_siteOk : SFn := ⟨69, ag_impl_siteOk, mu_impl_siteOk, rs_impl_siteOk, F_impl_siteOk⟩
def sc_impl_siteOk : SCode :=
 (.seq
 (.reg false [
 ⟨(some 3), .box 4 (.t 1), none⟩,
 ⟨(some 4), .mv (.k (.one (.v (.bool) (false)))), none⟩])
 (.seq
 (.seq
 (.reg false [
 ⟨(some 5), .fieldA 0 (.t 3), none⟩,
 ⟨(some 6), .load false 1 (.t 5), none⟩,
 ⟨(some 7), .bin .lss (.t 6) (.k (.one (.v (.int .i64) ((0 : Int))))), none⟩,
 ⟨(some 8), .mv (.t 7), none⟩,
 ⟨(some 9), .fieldA 0 (.t 3), (some (8, false))⟩,
 ⟨(some 10), .load false 1 (.t 9), (some (8, false))⟩,
 ⟨(some 11), .bin .gtr (.t 10) (.k (.one (.v (.int .i64) ((32 : Int))))), (some (8, false))⟩,
 ⟨(some 12), .pick (.t 8) (.k (.one (.v (.bool) (true)))) (.t 11), none⟩,
 ⟨(some 13), .mv (.t 12), none⟩,
 ⟨(some 14), .fieldA 2 (.t 3), (some (13, false))⟩,
 ⟨(some 15), .load false 1 (.t 14), (some (13, false))⟩,
 ⟨(some 16), .bin .lss (.t 15) (.k (.one (.v (.int .i64) ((0 : Int))))), (some (13, false))⟩,
 ⟨(some 17), .pick (.t 13) (.k (.one (.v (.bool) (true)))) (.t 16), none⟩,
 ⟨(some 18), .mv (.t 17), none⟩,
 ⟨(some 19), .fieldA 2 (.t 3), (some (18, false))⟩,
 ⟨(some 20), .load false 1 (.t 19), (some (18, false))⟩,
 ⟨(some 21), .bin .gtr (.t 20) (.k (.one (.v (.int .i64) ((32 : Int))))), (some (18, false))⟩,
 ⟨(some 22), .pick (.t 18) (.k (.one (.v (.bool) (true)))) (.t 21), none⟩,
 ⟨(some 23), .mv (.t 22), none⟩,
 ⟨(some 24), .fieldA 1 (.t 3), (some (23, false))⟩,
 ⟨(some 25), .load false 1 (.t 24), (some (23, false))⟩,
 ⟨(some 26), .bin .lss (.t 25) (.k (.one (.v (.int .i64) ((1 : Int))))), (some (23, false))⟩,
 ⟨(some 27), .pick (.t 23) (.k (.one (.v (.bool) (true)))) (.t 26), none⟩,
 ⟨(some 28), .mv (.t 27), none⟩,
 ⟨(some 29), .fieldA 1 (.t 3), (some (28, false))⟩,
 ⟨(some 30), .load false 1 (.t 29), (some (28, false))⟩,
 ⟨(some 31), .bin .gtr (.t 30) (.k (.one (.v (.int .i64) ((8 : Int))))), (some (28, false))⟩,
 ⟨(some 32), .pick (.t 28) (.k (.one (.v (.bool) (true)))) (.t 31), none⟩])
 (.cond (.t 32)
 (.seq
 (.reg false [
 ⟨(some 4), .mv (.k (.one (.v (.bool) (false)))), none⟩])
 .ret)
 .skip))
 (.seq
 (.reg false [
 ⟨(some 33), .fieldA 3 (.t 3), none⟩,
 ⟨(some 34), .load false 1 (.t 33), none⟩,
 ⟨(some 35), .len (.t 34), none⟩,
 ⟨(some 36), .fieldA 0 (.t 3), none⟩,
 ⟨(some 37), .load false 1 (.t 36), none⟩,
 ⟨(some 38), .fieldA 1 (.t 3), none⟩,
 ⟨(some 39), .load false 1 (.t 38), none⟩,
 ⟨(some 40), .bin .mul (.t 37) (.t 39), none⟩,
 ⟨(some 41), .fieldA 2 (.t 3), none⟩,
 ⟨(some 42), .load false 1 (.t 41), none⟩,
 ⟨(some 43), .bin .mul (.t 40) (.t 42), none⟩,
 ⟨(some 44), .bin .eql (.t 35) (.t 43), none⟩,
 ⟨(some 45), .mv (.t 44), none⟩,
 ⟨(some 46), .mv (.t 0), (some (45, true))⟩,
 ⟨(some 47), .fieldA 3 (.t 3), (some (45, true))⟩,
 ⟨(some 48), .load false 1 (.t 47), (some (45, true))⟩,
 ⟨(some 49), .call .froz 127 [(.t 46), (.t 48)], (some (45, true))⟩,
 ⟨(some 50), .pick (.t 45) (.t 49) (.k (.one (.v (.bool) (false)))), none⟩,
 ⟨(some 4), .mv (.t 50), none⟩])
 .ret)))
def ms_impl_siteOk : List MRes := [.tmp 4]
theorem n_impl_siteOk (NN : Nat) (x : DLL (Sig.tys ag_impl_siteOk)) : runS NN [fn_impl_inMod] sc_impl_siteOk ms_impl_siteOk ag_impl_siteOk rs_impl_siteOk x = G_impl_siteOk NN x := by kernel_rfl
theorem k_impl_siteOk : chkS Go.Proofs.Try.prog 69 sc_impl_siteOk.er ms_impl_siteOk 2 = true := by decide +kernel
theorem p_impl_siteOk : PureSpec Go.Proofs.Try.prog 69 fn_impl_siteOk.M ∧ chkFun Go.Proofs.Try.prog 69 = true :=
  pure_of_runS (T := [fn_impl_inMod]) (sc := sc_impl_siteOk) (ms := ms_impl_siteOk) (args := ag_impl_siteOk) (res := rs_impl_siteOk) (SOk.cons p_impl_inMod <| SOk.nil) follows_ok k_impl_siteOk F_impl_siteOk fun x y h => (n_impl_siteOk FUEL x).trans (f_impl_siteOk x y h)

def fn_impl_ChainOk : SFn := ⟨18, ag_impl_ChainOk, mu_impl_ChainOk, rs_impl_ChainOk, F_impl_ChainOk⟩
def sc_impl_ChainOk : SCode :=
 (.seq
 (.reg false [
 ⟨(some 1), .box 2 (.t 0), none⟩,
 ⟨(some 2), .mv (.k (.one (.v (.bool) (false)))), none⟩])
 (.seq
 (.seq
 (.reg false [
 ⟨(some 7), .fieldA 0 (.t 1), none⟩,
 ⟨(some 8), .load false 1 (.t 7), none⟩,
 ⟨(some 9), .call .froz 68 [(.t 8)], none⟩,
 ⟨(some 10), .un .not (.t 9), none⟩,
 ⟨(some 11), .mv (.t 10), none⟩,
 ⟨(some 12), .fieldA 1 (.t 1), (some (11, false))⟩,
 ⟨(some 13), .load false 1 (.t 12), (some (11, false))⟩,
 ⟨(some 14), .len (.t 13), (some (11, false))⟩,
 ⟨(some 15), .bin .lss (.t 14) (.k (.one (.v (.int .i64) ((1 : Int))))), (some (11, false))⟩,
 ⟨(some 16), .pick (.t 11) (.k (.one (.v (.bool) (true)))) (.t 15), none⟩,
 ⟨(some 17), .mv (.t 16), none⟩,
 ⟨(some 18), .fieldA 1 (.t 1), (some (17, false))⟩,
 ⟨(some 19), .load false 1 (.t 18), (some (17, false))⟩,
 ⟨(some 20), .len (.t 19), (some (17, false))⟩,
 ⟨(some 21), .bin .gtr (.t 20) (.k (.one (.v (.int .i64) ((8 : Int))))), (some (17, false))⟩,
 ⟨(some 22), .pick (.t 17) (.k (.one (.v (.bool) (true)))) (.t 21), none⟩])
 (.cond (.t 22)
 (.seq
 (.reg false [
 ⟨(some 2), .mv (.k (.one (.v (.bool) (false)))), none⟩])
 .ret)
 .skip))
 (.seq
 (.reg false [
 ⟨(some 3), .mv (.k (.one (.v (.int .i64) ((1 : Int))))), none⟩,
 ⟨(some 4), .mv (.k (.one (.v (.int .i64) ((1 : Int))))), none⟩])
 (.seq
 (.seq
 (.reg false [
 ⟨(some 23), .fieldA 1 (.t 1), none⟩,
 ⟨(some 24), .load false 1 (.t 23), none⟩,
 ⟨(some 25), .len (.t 24), none⟩,
 ⟨(some 26), .mv (.k (.one (.v (.int .i64) ((0 : Int))))), none⟩])
 (.join ⟨[(3, .one (.c (.v (.int .i64)))), (4, .one (.c (.v (.int .i64))))], []⟩ [1] []
 (.block 0
 (.loop 0 ⟨[(1, .one (.c (.ptr0 1 0))), (3, .one (.c (.v (.int .i64)))), (4, .one (.c (.v (.int .i64)))), (24, .one (.c (.v (.list [.int .i64, .int .i64, .int .i64, .list [.int .i64]])))), (25, .one (.c (.v (.int .i64)))), (26, .one (.c (.v (.int .i64))))], [(1, .box [.c (.v (.int .i64)), .c (.v (.list [.int .i64, .int .i64, .int .i64, .list [.int .i64]]))])]⟩ [1, 6] []
 (.seq
 (.reg false [
 ⟨(some 27), .bin .lss (.t 26) (.t 25), none⟩])
 (.seq
 (.cond (.t 27)
 .skip
 (.exit 0))
 (.seq
 (.block 1
 (.seq
 (.reg false [
 ⟨(some 28), .idxA 4 (.t 24) (.t 26), none⟩,
 ⟨(some 29), .load true 4 (.t 28), none⟩,
 ⟨(some 6), .alloc [.v (.int .i64) ((0 : Int)), .v (.int .i64) ((0 : Int)), .v (.int .i64) ((0 : Int)), .nil [.int .i64]], none⟩,
 ⟨none, .store 4 (.t 6) (.t 29), none⟩])
 (.seq
 (.seq
 (.reg false [
 ⟨(some 30), .fieldA 0 (.t 1), none⟩,
 ⟨(some 31), .load false 1 (.t 30), none⟩,
 ⟨(some 32), .load true 4 (.t 6), none⟩,
 ⟨(some 33), .call .froz 69 [(.t 31), (.t 32)], none⟩,
 ⟨(some 34), .un .not (.t 33), none⟩,
 ⟨(some 35), .mv (.t 34), none⟩,
 ⟨(some 36), .fieldA 0 (.t 6), (some (35, false))⟩,
 ⟨(some 37), .load false 1 (.t 36), (some (35, false))⟩,
 ⟨(some 38), .mv (.t 3), (some (35, false))⟩,
 ⟨(some 39), .bin .neq (.t 37) (.t 38), (some (35, false))⟩,
 ⟨(some 40), .pick (.t 35) (.k (.one (.v (.bool) (true)))) (.t 39), none⟩])
 (.cond (.t 40)
 (.seq
 (.reg false [
 ⟨(some 2), .mv (.k (.one (.v (.bool) (false)))), none⟩])
 .ret)
 .skip))
 (.seq
 (.reg false [
 ⟨(some 41), .fieldA 2 (.t 6), none⟩,
 ⟨(some 42), .load false 1 (.t 41), none⟩,
 ⟨(some 3), .mv (.t 42), none⟩])
 (.reg false [
 ⟨(some 43), .mv (.t 4), none⟩,
 ⟨(some 44), .fieldA 1 (.t 6), none⟩,
 ⟨(some 45), .load false 1 (.t 44), none⟩,
 ⟨(some 46), .bin .mul (.t 43) (.t 45), none⟩,
 ⟨(some 4), .mv (.t 46), none⟩])))))
 (.reg false [
 ⟨(some 47), .bin .add (.t 26) (.k (.one (.v (.int .i64) ((1 : Int))))), none⟩,
 ⟨(some 26), .mv (.t 47), none⟩]))))))))
 (.seq
 (.reg false [
 ⟨(some 48), .mv (.t 3), none⟩,
 ⟨(some 49), .bin .eql (.t 48) (.k (.one (.v (.int .i64) ((1 : Int))))), none⟩,
 ⟨(some 50), .mv (.t 49), none⟩,
 ⟨(some 51), .mv (.t 4), (some (50, true))⟩,
 ⟨(some 52), .bin .leq (.t 51) (.k (.one (.v (.int .i64) ((4096 : Int))))), (some (50, true))⟩,
 ⟨(some 53), .pick (.t 50) (.t 52) (.k (.one (.v (.bool) (false)))), none⟩,
 ⟨(some 2), .mv (.t 53), none⟩])
 .ret)))))
def ms_impl_ChainOk : List MRes := [.tmp 2]
theorem n_impl_ChainOk (NN : Nat) (x : DLL (Sig.tys ag_impl_ChainOk)) : runS NN [fn_impl_IsPrime, fn_impl_siteOk] sc_impl_ChainOk ms_impl_ChainOk ag_impl_ChainOk rs_impl_ChainOk x = G_impl_ChainOk NN x := by kernel_rfl
theorem k_impl_ChainOk : chkS Go.Proofs.Try.prog 18 sc_impl_ChainOk.er ms_impl_ChainOk 1 = true := by decide +kernel
theorem p_impl_ChainOk : PureSpec Go.Proofs.Try.prog 18 fn_impl_ChainOk.M ∧ chkFun Go.Proofs.Try.prog 18 = true :=
  pure_of_runS (T := [fn_impl_IsPrime, fn_impl_siteOk]) (sc := sc_impl_ChainOk) (ms := ms_impl_ChainOk) (args := ag_impl_ChainOk) (res := rs_impl_ChainOk) (SOk.cons p_impl_IsPrime <| SOk.cons p_impl_siteOk <| SOk.nil) follows_ok k_impl_ChainOk F_impl_ChainOk fun x y h => (n_impl_ChainOk FUEL x).trans (f_impl_ChainOk x y h)

def fn_impl_chainDims : SFn := ⟨74, ag_impl_chainDims, mu_impl_chainDims, rs_impl_chainDims, F_impl_chainDims⟩
def sc_impl_chainDims : SCode :=
 (.seq
 (.reg false [
 ⟨(some 1), .box 2 (.t 0), none⟩,
 ⟨(some 2), .mv (.k (.one (.nil [.int .i64]))), none⟩])
 (.seq
 (.reg false [
 ⟨(some 3), .mv (.k (.one (.nil [.int .i64]))), none⟩])
 (.seq
 (.seq
 (.reg false [
 ⟨(some 6), .fieldA 1 (.t 1), none⟩,
 ⟨(some 7), .load false 1 (.t 6), none⟩,
 ⟨(some 8), .len (.t 7), none⟩,
 ⟨(some 9), .mv (.k (.one (.v (.int .i64) ((0 : Int))))), none⟩])
 (.join ⟨[(3, .one (.c (.full 500001 1)))], [(500001, .row true .froz [.int .i64])]⟩ [500000, 500001] [(false, 3, 0, 500001, .froz, [])]
 (.block 0
 (.loop 0 ⟨[(3, .one (.c (.full 500000 1))), (7, .one (.c (.v (.list [.int .i64, .int .i64, .int .i64, .list [.int .i64]])))), (8, .one (.c (.v (.int .i64)))), (9, .one (.c (.v (.int .i64))))], [(500000, .row true .froz [.int .i64])]⟩ [1, 5, 16, 17, 500000] [(false, 3, 0, 500000, .froz, [])]
 (.seq
 (.reg false [
 ⟨(some 10), .bin .lss (.t 9) (.t 8), none⟩])
 (.seq
 (.cond (.t 10)
 .skip
 (.exit 0))
 (.seq
 (.block 1
 (.seq
 (.reg false [
 ⟨(some 11), .idxA 4 (.t 7) (.t 9), none⟩,
 ⟨(some 12), .load true 4 (.t 11), none⟩,
 ⟨(some 5), .alloc [.v (.int .i64) ((0 : Int)), .v (.int .i64) ((0 : Int)), .v (.int .i64) ((0 : Int)), .nil [.int .i64]], none⟩,
 ⟨none, .store 4 (.t 5) (.t 12), none⟩])
 (.reg false [
 ⟨(some 13), .mv (.t 3), none⟩,
 ⟨(some 14), .fieldA 1 (.t 5), none⟩,
 ⟨(some 15), .load false 1 (.t 14), none⟩,
 ⟨(some 16), .bslice [.int .i64] [(.t 15)], none⟩,
 ⟨(some 17), .append true [.int .i64] 8 (.t 13) (.t 16), none⟩,
 ⟨(some 3), .mv (.t 17), none⟩])))
 (.reg false [
 ⟨(some 18), .bin .add (.t 9) (.k (.one (.v (.int .i64) ((1 : Int))))), none⟩,
 ⟨(some 9), .mv (.t 18), none⟩]))))))))
 (.seq
 (.reg false [
 ⟨(some 19), .mv (.t 3), none⟩,
 ⟨(some 2), .mv (.t 19), none⟩])
 .ret))))
def ms_impl_chainDims : List MRes := [.tmp 2]
theorem n_impl_chainDims (NN : Nat) (x : DLL (Sig.tys ag_impl_chainDims)) : runS NN [] sc_impl_chainDims ms_impl_chainDims ag_impl_chainDims rs_impl_chainDims x = G_impl_chainDims NN x := by kernel_rfl
theorem k_impl_chainDims : chkS Go.Proofs.Try.prog 74 sc_impl_chainDims.er ms_impl_chainDims 1 = true := by decide +kernel
theorem p_impl_chainDims : PureSpec Go.Proofs.Try.prog 74 fn_impl_chainDims.M ∧ chkFun Go.Proofs.Try.prog 74 = true :=
  pure_of_runS (T := []) (sc := sc_impl_chainDims) (ms := ms_impl_chainDims) (args := ag_impl_chainDims) (res := rs_impl_chainDims) (SOk.nil) follows_ok k_impl_chainDims F_impl_chainDims fun x y h => (n_impl_chainDims FUEL x).trans (f_impl_chainDims x y h)

def fn_impl_Site_at : SFn := ⟨96, ag_impl_Site_at, mu_impl_Site_at, rs_impl_Site_at, F_impl_Site_at⟩
def sc_impl_Site_at : SCode :=
 (.seq
 (.reg false [
 ⟨(some 4), .box 4 (.t 0), none⟩,
 ⟨(some 8), .mv (.k (.one (.v (.int .i64) ((0 : Int))))), none⟩])
 (.seq
 (.reg false [
 ⟨(some 9), .fieldA 3 (.t 4), none⟩,
 ⟨(some 10), .load false 1 (.t 9), none⟩,
 ⟨(some 11), .mv (.t 1), none⟩,
 ⟨(some 12), .fieldA 1 (.t 4), none⟩,
 ⟨(some 13), .load false 1 (.t 12), none⟩,
 ⟨(some 14), .bin .mul (.t 11) (.t 13), none⟩,
 ⟨(some 15), .mv (.t 2), none⟩,
 ⟨(some 16), .bin .add (.t 14) (.t 15), none⟩,
 ⟨(some 17), .fieldA 2 (.t 4), none⟩,
 ⟨(some 18), .load false 1 (.t 17), none⟩,
 ⟨(some 19), .bin .mul (.t 16) (.t 18), none⟩,
 ⟨(some 20), .mv (.t 3), none⟩,
 ⟨(some 21), .bin .add (.t 19) (.t 20), none⟩,
 ⟨(some 22), .idxA 1 (.t 10) (.t 21), none⟩,
 ⟨(some 23), .load false 1 (.t 22), none⟩,
 ⟨(some 8), .mv (.t 23), none⟩])
 .ret))
def ms_impl_Site_at : List MRes := [.tmp 8]
theorem n_impl_Site_at (NN : Nat) (x : DLL (Sig.tys ag_impl_Site_at)) : runS NN [] sc_impl_Site_at ms_impl_Site_at ag_impl_Site_at rs_impl_Site_at x = G_impl_Site_at NN x := by kernel_rfl
theorem k_impl_Site_at : chkS Go.Proofs.Try.prog 96 sc_impl_Site_at.er ms_impl_Site_at 4 = true := by decide +kernel
theorem p_impl_Site_at : PureSpec Go.Proofs.Try.prog 96 fn_impl_Site_at.M ∧ chkFun Go.Proofs.Try.prog 96 = true :=
  pure_of_runS (T := []) (sc := sc_impl_Site_at) (ms := ms_impl_Site_at) (args := ag_impl_Site_at) (res := rs_impl_Site_at) (SOk.nil) follows_ok k_impl_Site_at F_impl_Site_at fun x y h => (n_impl_Site_at FUEL x).trans (f_impl_Site_at x y h)

def fn_impl_rawChainAt : SFn := ⟨75, ag_impl_rawChainAt, mu_impl_rawChainAt, rs_impl_rawChainAt, F_impl_rawChainAt⟩
def sc_impl_rawChainAt : SCode :=
 (.seq
 (.reg false [
 ⟨(some 2), .box 2 (.t 0), none⟩,
 ⟨(some 4), .mv (.k (.one (.v (.int .i64) ((0 : Int))))), none⟩])
 (.seq
 (.reg false [
 ⟨(some 12), .bslice [.int .i64] [(.k (.one (.v (.int .i64) ((1 : Int)))))], none⟩,
 ⟨(some 5), .mv (.t 12), none⟩])
 (.seq
 (.seq
 (.reg false [
 ⟨(some 13), .fieldA 1 (.t 2), none⟩,
 ⟨(some 14), .load false 1 (.t 13), none⟩,
 ⟨(some 15), .len (.t 14), none⟩,
 ⟨(some 16), .mv (.k (.one (.v (.int .i64) ((0 : Int))))), none⟩])
 (.join ⟨[(5, .one (.c (.full 500009 1)))], [(500009, .row true .froz [.int .i64])]⟩ [2, 500000, 500009] [(false, 5, 0, 500009, .froz, [])]
 (.block 0
 (.loop 0 ⟨[(1, .one (.c (.v (.list [.int .i64])))), (2, .one (.c (.ptr0 2 0))), (5, .one (.c (.full 500000 1))), (14, .one (.c (.v (.list [.int .i64, .int .i64, .int .i64, .list [.int .i64]])))), (15, .one (.c (.v (.int .i64)))), (16, .one (.c (.v (.int .i64))))], [(2, .box [.c (.v (.int .i64)), .c (.v (.list [.int .i64, .int .i64, .int .i64, .list [.int .i64]]))]), (500000, .row true .froz [.int .i64])]⟩ [2, 12, 500000, 500008] [(false, 5, 0, 500000, .froz, [])]
 (.seq
 (.reg false [
 ⟨(some 17), .bin .lss (.t 16) (.t 15), none⟩])
 (.seq
 (.cond (.t 17)
 .skip
 (.exit 0))
 (.seq
 (.join ⟨[(16, .one (.c (.v (.int .i64)))), (1, .one (.c (.v (.list [.int .i64])))), (2, .one (.c (.ptr0 2 0))), (5, .one (.c (.full 500008 1))), (14, .one (.c (.v (.list [.int .i64, .int .i64, .int .i64, .list [.int .i64]])))), (15, .one (.c (.v (.int .i64))))], [(2, .box [.c (.v (.int .i64)), .c (.v (.list [.int .i64, .int .i64, .int .i64, .list [.int .i64]]))]), (500008, .row true .froz [.int .i64])]⟩ [2, 500007, 500008] [(false, 5, 0, 500008, .froz, [])]
 (.block 1
 (.seq
 (.reg false [
 ⟨(some 18), .mv (.t 16), none⟩,
 ⟨(some 19), .idxA 4 (.t 14) (.t 16), none⟩,
 ⟨(some 20), .load true 4 (.t 19), none⟩,
 ⟨(some 7), .alloc [.v (.int .i64) ((0 : Int)), .v (.int .i64) ((0 : Int)), .v (.int .i64) ((0 : Int)), .nil [.int .i64]], none⟩,
 ⟨(some 6), .mv (.t 18), none⟩,
 ⟨none, .store 4 (.t 7) (.t 20), none⟩])
 (.seq
 (.reg false [
 ⟨(some 21), .fieldA 2 (.t 7), none⟩,
 ⟨(some 22), .load false 1 (.t 21), none⟩,
 ⟨(some 23), .mkslice .froz [.int .i64] 8 (0 : Int) (.t 22) (.t 22), none⟩,
 ⟨(some 8), .mv (.t 23), none⟩])
 (.seq
 (.seq
 (.reg false [
 ⟨(some 24), .mv (.t 8), none⟩,
 ⟨(some 25), .len (.t 24), none⟩,
 ⟨(some 26), .mv (.k (.one (.v (.int .i64) ((0 : Int))))), none⟩])
 (.join ⟨[(8, .one (.c (.full 500007 1))), (16, .one (.c (.v (.int .i64)))), (1, .one (.c (.v (.list [.int .i64])))), (2, .one (.c (.ptr0 2 0))), (14, .one (.c (.v (.list [.int .i64, .int .i64, .int .i64, .list [.int .i64]])))), (15, .one (.c (.v (.int .i64))))], [(2, .box [.c (.v (.int .i64)), .c (.v (.list [.int .i64, .int .i64, .int .i64, .list [.int .i64]]))]), (500007, .row true .froz [.int .i64])]⟩ [2, 7, 500001, 500002, 500007] [(false, 8, 0, 500007, .froz, [])]
 (.block 2
 (.loop 0 ⟨[(1, .one (.c (.v (.list [.int .i64])))), (2, .one (.c (.ptr0 2 0))), (5, .one (.c (.full 500001 1))), (6, .one (.c (.v (.int .i64)))), (7, .one (.c (.ptr0 7 0))), (8, .one (.c (.full 500002 1))), (14, .one (.c (.v (.list [.int .i64, .int .i64, .int .i64, .list [.int .i64]])))), (15, .one (.c (.v (.int .i64)))), (16, .one (.c (.v (.int .i64)))), (25, .one (.c (.v (.int .i64)))), (26, .one (.c (.v (.int .i64))))], [(2, .box [.c (.v (.int .i64)), .c (.v (.list [.int .i64, .int .i64, .int .i64, .list [.int .i64]]))]), (7, .box [.c (.v (.int .i64)), .c (.v (.int .i64)), .c (.v (.int .i64)), .c (.v (.list [.int .i64]))]), (500001, .row true .froz [.int .i64]), (500002, .row true .froz [.int .i64])]⟩ [2, 7, 23, 500000, 500001, 500002, 500005, 500006] [(false, 5, 0, 500001, .froz, []), (false, 8, 0, 500002, .froz, [])]
 (.seq
 (.reg false [
 ⟨(some 27), .bin .lss (.t 26) (.t 25), none⟩])
 (.seq
 (.cond (.t 27)
 .skip
 (.exit 2))
 (.seq
 (.join ⟨[(26, .one (.c (.v (.int .i64)))), (1, .one (.c (.v (.list [.int .i64])))), (2, .one (.c (.ptr0 2 0))), (5, .one (.c (.full 500005 1))), (6, .one (.c (.v (.int .i64)))), (7, .one (.c (.ptr0 7 0))), (8, .one (.c (.full 500006 1))), (14, .one (.c (.v (.list [.int .i64, .int .i64, .int .i64, .list [.int .i64]])))), (15, .one (.c (.v (.int .i64)))), (16, .one (.c (.v (.int .i64)))), (25, .one (.c (.v (.int .i64))))], [(2, .box [.c (.v (.int .i64)), .c (.v (.list [.int .i64, .int .i64, .int .i64, .list [.int .i64]]))]), (7, .box [.c (.v (.int .i64)), .c (.v (.int .i64)), .c (.v (.int .i64)), .c (.v (.list [.int .i64]))]), (500005, .row true .froz [.int .i64]), (500006, .row true .froz [.int .i64])]⟩ [2, 7, 500003, 500004, 500005, 500006] [(false, 5, 0, 500005, .froz, []), (false, 8, 0, 500006, .froz, [])]
 (.block 3
 (.seq
 (.reg false [
 ⟨(some 28), .mv (.t 26), none⟩,
 ⟨(some 9), .mv (.t 28), none⟩])
 (.seq
 (.reg false [
 ⟨(some 29), .mv (.t 5), none⟩,
 ⟨(some 30), .len (.t 29), none⟩,
 ⟨(some 31), .mv (.k (.one (.v (.int .i64) ((0 : Int))))), none⟩])
 (.block 4
 (.loop 0 ⟨[(1, .one (.c (.v (.list [.int .i64])))), (2, .one (.c (.ptr0 2 0))), (5, .one (.c (.full 500003 1))), (6, .one (.c (.v (.int .i64)))), (7, .one (.c (.ptr0 7 0))), (8, .one (.c (.full 500004 1))), (9, .one (.c (.v (.int .i64)))), (14, .one (.c (.v (.list [.int .i64, .int .i64, .int .i64, .list [.int .i64]])))), (15, .one (.c (.v (.int .i64)))), (16, .one (.c (.v (.int .i64)))), (25, .one (.c (.v (.int .i64)))), (26, .one (.c (.v (.int .i64)))), (29, .one (.c (.full 500003 1))), (30, .one (.c (.v (.int .i64)))), (31, .one (.c (.v (.int .i64))))], [(2, .box [.c (.v (.int .i64)), .c (.v (.list [.int .i64, .int .i64, .int .i64, .list [.int .i64]]))]), (7, .box [.c (.v (.int .i64)), .c (.v (.int .i64)), .c (.v (.int .i64)), .c (.v (.list [.int .i64]))]), (500003, .row true .froz [.int .i64]), (500004, .row true .froz [.int .i64])]⟩ [2, 7, 500001, 500002, 500003, 500004] [(false, 5, 0, 500003, .froz, []), (false, 8, 0, 500004, .froz, [])]
 (.seq
 (.reg false [
 ⟨(some 32), .bin .lss (.t 31) (.t 30), none⟩])
 (.seq
 (.cond (.t 32)
 .skip
 (.exit 4))
 (.seq
 (.block 5
 (.seq
 (.reg false [
 ⟨(some 33), .mv (.t 31), none⟩,
 ⟨(some 34), .idxA 1 (.t 29) (.t 31), none⟩,
 ⟨(some 35), .load false 1 (.t 34), none⟩,
 ⟨(some 10), .mv (.t 33), none⟩,
 ⟨(some 11), .mv (.t 35), none⟩])
 (.reg true [
 ⟨(some 36), .mv (.t 8), none⟩,
 ⟨(some 37), .mv (.t 9), none⟩,
 ⟨(some 38), .mv (.t 8), none⟩,
 ⟨(some 39), .mv (.t 9), none⟩,
 ⟨(some 40), .idxA 1 (.t 38) (.t 39), none⟩,
 ⟨(some 41), .load false 1 (.t 40), none⟩,
 ⟨(some 42), .mv (.t 11), none⟩,
 ⟨(some 43), .load true 4 (.t 7), none⟩,
 ⟨(some 44), .mv (.t 10), none⟩,
 ⟨(some 45), .mv (.t 1), none⟩,
 ⟨(some 46), .mv (.t 6), none⟩,
 ⟨(some 47), .idxA 1 (.t 45) (.t 46), none⟩,
 ⟨(some 48), .load false 1 (.t 47), none⟩,
 ⟨(some 49), .mv (.t 9), none⟩,
 ⟨(some 50), .call .froz 96 [(.t 43), (.t 44), (.t 48), (.t 49)], none⟩,
 ⟨(some 51), .bin .mul (.t 42) (.t 50), none⟩,
 ⟨(some 52), .bin .add (.t 41) (.t 51), none⟩,
 ⟨(some 53), .fieldA 0 (.t 2), none⟩,
 ⟨(some 54), .load false 1 (.t 53), none⟩,
 ⟨(some 55), .bin .rem (.t 52) (.t 54), none⟩,
 ⟨(some 56), .idxA 1 (.t 36) (.t 37), none⟩,
 ⟨none, .store 1 (.t 56) (.t 55), none⟩])))
 (.reg false [
 ⟨(some 57), .bin .add (.t 31) (.k (.one (.v (.int .i64) ((1 : Int))))), none⟩,
 ⟨(some 31), .mv (.t 57), none⟩]))))))))))
 (.reg false [
 ⟨(some 58), .bin .add (.t 26) (.k (.one (.v (.int .i64) ((1 : Int))))), none⟩,
 ⟨(some 26), .mv (.t 58), none⟩]))))))))
 (.reg false [
 ⟨(some 59), .mv (.t 8), none⟩,
 ⟨(some 5), .mv (.t 59), none⟩]))))))
 (.reg false [
 ⟨(some 60), .bin .add (.t 16) (.k (.one (.v (.int .i64) ((1 : Int))))), none⟩,
 ⟨(some 16), .mv (.t 60), none⟩]))))))))
 (.seq
 (.reg false [
 ⟨(some 61), .mv (.t 5), none⟩,
 ⟨(some 62), .idxA 1 (.t 61) (.k (.one (.v (.int .i64) ((0 : Int))))), none⟩,
 ⟨(some 63), .load false 1 (.t 62), none⟩,
 ⟨(some 4), .mv (.t 63), none⟩])
 .ret))))
def ms_impl_rawChainAt : List MRes := [.tmp 4]
theorem n_impl_rawChainAt (NN : Nat) (x : DLL (Sig.tys ag_impl_rawChainAt)) : runS NN [fn_impl_Site_at] sc_impl_rawChainAt ms_impl_rawChainAt ag_impl_rawChainAt rs_impl_rawChainAt x = G_impl_rawChainAt NN x := by kernel_rfl
theorem k_impl_rawChainAt : chkS Go.Proofs.Try.prog 75 sc_impl_rawChainAt.er ms_impl_rawChainAt 2 = true := by decide +kernel
theorem p_impl_rawChainAt : PureSpec Go.Proofs.Try.prog 75 fn_impl_rawChainAt.M ∧ chkFun Go.Proofs.Try.prog 75 = true :=
  pure_of_runS (T := [fn_impl_Site_at]) (sc := sc_impl_rawChainAt) (ms := ms_impl_rawChainAt) (args := ag_impl_rawChainAt) (res := rs_impl_rawChainAt) (SOk.cons p_impl_Site_at <| SOk.nil) follows_ok k_impl_rawChainAt F_impl_rawChainAt fun x y h => (n_impl_rawChainAt FUEL x).trans (f_impl_rawChainAt x y h)

def fn_impl_nextIndex : SFn := ⟨87, ag_impl_nextIndex, mu_impl_nextIndex, rs_impl_nextIndex, F_impl_nextIndex⟩
def sc_impl_nextIndex : SCode :=
 (.seq
 (.reg false [
 ⟨(some 4), .mv (.k (.one (.v (.bool) (false)))), none⟩])
 (.seq
 (.seq
 (.reg false [
 ⟨(some 6), .mv (.t 0), none⟩,
 ⟨(some 7), .len (.t 6), none⟩,
 ⟨(some 8), .bin .sub (.t 7) (.k (.one (.v (.int .i64) ((1 : Int))))), none⟩,
 ⟨(some 5), .mv (.t 8), none⟩])
 (.join ⟨[], [(1000000, .row false .froz [.int .i64])]⟩ [1000000] []
 (.block 0
 (.loop 0 ⟨[(0, .one (.c (.v (.list [.int .i64])))), (1, .one (.c (.full 1000000 1))), (5, .one (.c (.v (.int .i64))))], [(1000000, .row false .froz [.int .i64])]⟩ [1000000, 500000] [(false, 1, 0, 500000, .froz, [])]
 (.seq
 (.seq
 (.reg false [
 ⟨(some 9), .mv (.t 5), none⟩,
 ⟨(some 10), .bin .geq (.t 9) (.k (.one (.v (.int .i64) ((0 : Int))))), none⟩])
 (.cond (.t 10)
 .skip
 (.exit 0)))
 (.seq
 (.block 1
 (.seq
 (.reg false [
 ⟨(some 13), .mv (.t 1), none⟩,
 ⟨(some 14), .mv (.t 5), none⟩,
 ⟨(some 15), .idxA 1 (.t 13) (.t 14), none⟩,
 ⟨(some 16), .load false 1 (.t 15), none⟩,
 ⟨(some 17), .bin .add (.t 16) (.k (.one (.v (.int .i64) ((1 : Int))))), none⟩,
 ⟨(some 18), .idxA 1 (.t 13) (.t 14), none⟩,
 ⟨none, .store 1 (.t 18) (.t 17), none⟩])
 (.seq
 (.seq
 (.reg true [
 ⟨(some 19), .mv (.t 1), none⟩,
 ⟨(some 20), .mv (.t 5), none⟩,
 ⟨(some 21), .idxA 1 (.t 19) (.t 20), none⟩,
 ⟨(some 22), .load false 1 (.t 21), none⟩,
 ⟨(some 23), .mv (.t 0), none⟩,
 ⟨(some 24), .mv (.t 5), none⟩,
 ⟨(some 25), .idxA 1 (.t 23) (.t 24), none⟩,
 ⟨(some 26), .load false 1 (.t 25), none⟩,
 ⟨(some 27), .bin .lss (.t 22) (.t 26), none⟩])
 (.cond (.t 27)
 (.seq
 (.reg false [
 ⟨(some 4), .mv (.k (.one (.v (.bool) (true)))), none⟩])
 .ret)
 .skip))
 (.reg false [
 ⟨(some 28), .mv (.t 1), none⟩,
 ⟨(some 29), .mv (.t 5), none⟩,
 ⟨(some 30), .idxA 1 (.t 28) (.t 29), none⟩,
 ⟨none, .store 1 (.t 30) (.k (.one (.v (.int .i64) ((0 : Int))))), none⟩]))))
 (.reg false [
 ⟨(some 11), .mv (.t 5), none⟩,
 ⟨(some 12), .bin .sub (.t 11) (.k (.one (.v (.int .i64) ((1 : Int))))), none⟩,
 ⟨(some 5), .mv (.t 12), none⟩])))))))
 (.seq
 (.reg false [
 ⟨(some 4), .mv (.k (.one (.v (.bool) (false)))), none⟩])
 .ret)))
def ms_impl_nextIndex : List MRes := [.tmp 4]
theorem n_impl_nextIndex (NN : Nat) (x : DLL (Sig.tys ag_impl_nextIndex)) : runMS NN [] sc_impl_nextIndex ms_impl_nextIndex ag_impl_nextIndex mu_impl_nextIndex rs_impl_nextIndex x = G_impl_nextIndex NN x := by kernel_rfl
theorem k_impl_nextIndex : chkS Go.Proofs.Try.prog 87 sc_impl_nextIndex.er ms_impl_nextIndex 2 = true := by decide +kernel
theorem p_impl_nextIndex : MutSpec Go.Proofs.Try.prog 87 mu_impl_nextIndex fn_impl_nextIndex.MM ∧ chkFun Go.Proofs.Try.prog 87 = true :=
  mut_of_runMS (T := []) (sc := sc_impl_nextIndex) (ms := ms_impl_nextIndex) (args := ag_impl_nextIndex) (mu := mu_impl_nextIndex) (res := rs_impl_nextIndex) (SOk.nil) follows_ok k_impl_nextIndex F_impl_nextIndex fun x y h => (n_impl_nextIndex FUEL x).trans (f_impl_nextIndex x y h)

def fn_impl_ChainTensor : SFn := ⟨32, ag_impl_ChainTensor, mu_impl_ChainTensor, rs_impl_ChainTensor, F_impl_ChainTensor⟩
def sc_impl_ChainTensor : SCode :=
 (.seq
 (.reg false [
 ⟨(some 1), .box 2 (.t 0), none⟩,
 ⟨(some 2), .alloc [.nil [.int .i64], .nil [.int .i64], .nil [.int .i64]], none⟩])
 (.seq
 (.seq
 (.reg false [
 ⟨(some 6), .load true 2 (.t 1), none⟩,
 ⟨(some 7), .call .froz 18 [(.t 6)], none⟩,
 ⟨(some 8), .un .not (.t 7), none⟩])
 (.cond (.t 8)
 (.seq
 (.reg false [
 ⟨(some 9), .build [.nil [.int .i64], .nil [.int .i64], .nil [.int .i64]] [], none⟩,
 ⟨none, .store 3 (.t 2) (.t 9), none⟩])
 .ret)
 .skip))
 (.seq
 (.reg false [
 ⟨(some 10), .load true 2 (.t 1), none⟩,
 ⟨(some 11), .call .froz 74 [(.t 10)], none⟩,
 ⟨(some 12), .build [.nil [.int .i64], .nil [.int .i64], .nil [.int .i64]] [(1, 1, (.t 11))], none⟩,
 ⟨(some 3), .alloc [.nil [.int .i64], .nil [.int .i64], .nil [.int .i64]], none⟩,
 ⟨none, .store 3 (.t 3) (.t 12), none⟩])
 (.seq
 (.seq
 (.reg false [
 ⟨(some 13), .fieldA 1 (.t 1), none⟩,
 ⟨(some 14), .load false 1 (.t 13), none⟩,
 ⟨(some 15), .len (.t 14), none⟩,
 ⟨(some 16), .mv (.k (.one (.v (.int .i64) ((0 : Int))))), none⟩])
 (.join ⟨[(3, .one (.c (.ptr0 3 0))), (2, .one (.c (.ptr0 2 0))), (1, .one (.c (.ptr0 1 0)))], [(1, .box [.c (.v (.int .i64)), .c (.v (.list [.int .i64, .int .i64, .int .i64, .list [.int .i64]]))]), (2, .box [.c (.full 500006 1), .c (.full 500007 1), .c (.full 500008 1)]), (3, .box [.c (.full 500009 1), .c (.full 500010 1), .c (.full 500011 1)]), (500006, .row true .froz [.int .i64]), (500007, .row true .froz [.int .i64]), (500008, .row true .froz [.int .i64]), (500009, .row true .froz [.int .i64]), (500010, .row true .froz [.int .i64]), (500011, .row true .froz [.int .i64])]⟩ [1, 2, 3, 500000, 500001, 500002, 500003, 500004, 500005, 500006, 500007, 500008, 500009, 500010, 500011] [(true, 2, 0, 500006, .froz, []), (true, 2, 1, 500007, .froz, []), (true, 2, 2, 500008, .froz, []), (true, 3, 0, 500009, .froz, []), (true, 3, 1, 500010, .froz, []), (true, 3, 2, 500011, .froz, [])]
 (.block 0
 (.loop 0 ⟨[(1, .one (.c (.ptr0 1 0))), (2, .one (.c (.ptr0 2 0))), (3, .one (.c (.ptr0 3 0))), (15, .one (.c (.v (.int .i64)))), (16, .one (.c (.v (.int .i64))))], [(1, .box [.c (.v (.int .i64)), .c (.v (.list [.int .i64, .int .i64, .int .i64, .list [.int .i64]]))]), (2, .box [.c (.full 500000 1), .c (.full 500001 1), .c (.full 500002 1)]), (3, .box [.c (.full 500003 1), .c (.full 500004 1), .c (.full 500005 1)]), (500000, .row true .froz [.int .i64]), (500001, .row true .froz [.int .i64]), (500002, .row true .froz [.int .i64]), (500003, .row true .froz [.int .i64]), (500004, .row true .froz [.int .i64]), (500005, .row true .froz [.int .i64])]⟩ [1, 2, 12000, 3, 22, 23, 500000, 500001, 500002, 500003, 500004, 500005] [(true, 2, 0, 500000, .froz, []), (true, 2, 1, 500001, .froz, []), (true, 2, 2, 500002, .froz, []), (true, 3, 0, 500003, .froz, []), (true, 3, 1, 500004, .froz, []), (true, 3, 2, 500005, .froz, [])]
 (.seq
 (.reg false [
 ⟨(some 17), .bin .lss (.t 16) (.t 15), none⟩])
 (.seq
 (.cond (.t 17)
 .skip
 (.exit 0))
 (.seq
 (.block 1
 (.seq
 (.reg false [
 ⟨(some 18), .mv (.t 16), none⟩,
 ⟨(some 4), .mv (.t 18), none⟩])
 (.reg false [
 ⟨(some 19), .fieldA 0 (.t 3), none⟩,
 ⟨(some 20), .load false 1 (.t 19), none⟩,
 ⟨(some 21), .mv (.t 4), none⟩,
 ⟨(some 22), .bslice [.int .i64] [(.t 21)], none⟩,
 ⟨(some 23), .append true [.int .i64] 8 (.t 20) (.t 22), none⟩,
 ⟨(some 24), .fieldA 0 (.t 3), none⟩,
 ⟨none, .store 1 (.t 24) (.t 23), none⟩])))
 (.reg false [
 ⟨(some 25), .bin .add (.t 16) (.k (.one (.v (.int .i64) ((1 : Int))))), none⟩,
 ⟨(some 16), .mv (.t 25), none⟩]))))))))
 (.seq
 (.reg false [
 ⟨(some 26), .fieldA 1 (.t 3), none⟩,
 ⟨(some 27), .load false 1 (.t 26), none⟩,
 ⟨(some 28), .len (.t 27), none⟩,
 ⟨(some 29), .mkslice .froz [.int .i64] 8 (0 : Int) (.t 28) (.t 28), none⟩,
 ⟨(some 5), .mv (.t 29), none⟩])
 (.block 2
 (.loop 0 ⟨[(1, .one (.c (.ptr0 1 0))), (2, .one (.c (.ptr0 2 0))), (3, .one (.c (.ptr0 3 0))), (5, .one (.c (.full 500018 1)))], [(1, .box [.c (.v (.int .i64)), .c (.v (.list [.int .i64, .int .i64, .int .i64, .list [.int .i64]]))]), (2, .box [.c (.full 500012 1), .c (.full 500013 1), .c (.full 500014 1)]), (3, .box [.c (.full 500015 1), .c (.full 500016 1), .c (.full 500017 1)]), (500012, .row true .froz [.int .i64]), (500013, .row true .froz [.int .i64]), (500014, .row true .froz [.int .i64]), (500015, .row true .froz [.int .i64]), (500016, .row true .froz [.int .i64]), (500017, .row true .froz [.int .i64]), (500018, .row true .froz [.int .i64])]⟩ [1, 2, 3, 29, 35, 36, 500006, 500007, 500008, 500009, 500010, 500011, 500012, 500013, 500014, 500015, 500016, 500017, 500018] [(true, 2, 0, 500012, .froz, []), (true, 2, 1, 500013, .froz, []), (true, 2, 2, 500014, .froz, []), (true, 3, 0, 500015, .froz, []), (true, 3, 1, 500016, .froz, []), (true, 3, 2, 500017, .froz, []), (false, 5, 0, 500018, .froz, [])]
 (.block 3
 (.seq
 (.regD [(0, 5), (1, 5)] [
 ⟨(some 30), .fieldA 2 (.t 3), none⟩,
 ⟨(some 31), .load false 1 (.t 30), none⟩,
 ⟨(some 32), .load true 2 (.t 1), none⟩,
 ⟨(some 33), .mv (.t 5), none⟩,
 ⟨(some 34), .call .froz 75 [(.t 32), (.t 33)], none⟩,
 ⟨(some 35), .bslice [.int .i64] [(.t 34)], none⟩,
 ⟨(some 36), .append true [.int .i64] 8 (.t 31) (.t 35), none⟩,
 ⟨(some 37), .fieldA 2 (.t 3), none⟩,
 ⟨none, .store 1 (.t 37) (.t 36), none⟩])
 (.seq
 (.reg false [
 ⟨(some 38), .fieldA 1 (.t 3), none⟩,
 ⟨(some 39), .load false 1 (.t 38), none⟩,
 ⟨(some 40), .mv (.t 5), none⟩,
 ⟨(some 41), .callm .froz 87 [(.t 39), (.t 40)], none⟩,
 ⟨(some 42), .un .not (.t 41), none⟩])
 (.cond (.t 42)
 (.seq
 (.reg false [
 ⟨(some 43), .load true 3 (.t 3), none⟩,
 ⟨none, .store 3 (.t 2) (.t 43), none⟩])
 .ret)
 .skip)))))))))))
def ms_impl_ChainTensor : List MRes := [.cell 2 3 true]
theorem n_impl_ChainTensor (NN : Nat) (x : DLL (Sig.tys ag_impl_ChainTensor)) : runS NN [fn_impl_ChainOk, fn_impl_chainDims, fn_impl_rawChainAt, fn_impl_nextIndex] sc_impl_ChainTensor ms_impl_ChainTensor ag_impl_ChainTensor rs_impl_ChainTensor x = G_impl_ChainTensor NN x := by kernel_rfl
theorem k_impl_ChainTensor : chkS Go.Proofs.Try.prog 32 sc_impl_ChainTensor.er ms_impl_ChainTensor 1 = true := by decide +kernel
theorem p_impl_ChainTensor : PureSpec Go.Proofs.Try.prog 32 fn_impl_ChainTensor.M ∧ chkFun Go.Proofs.Try.prog 32 = true :=
  pure_of_runS (T := [fn_impl_ChainOk, fn_impl_chainDims, fn_impl_rawChainAt, fn_impl_nextIndex]) (sc := sc_impl_ChainTensor) (ms := ms_impl_ChainTensor) (args := ag_impl_ChainTensor) (res := rs_impl_ChainTensor) (SOk.cons p_impl_ChainOk <| SOk.cons p_impl_chainDims <| SOk.cons p_impl_rawChainAt <| SOk.consM p_impl_nextIndex <| SOk.nil) follows_ok k_impl_ChainTensor F_impl_ChainTensor fun x y h => (n_impl_ChainTensor FUEL x).trans (f_impl_ChainTensor x y h)

def fn_laws_eqIntS : SFn := ⟨22, ag_laws_eqIntS, mu_laws_eqIntS, rs_laws_eqIntS, F_laws_eqIntS⟩
def sc_laws_eqIntS : SCode :=
 (.seq
 (.reg false [
 ⟨(some 4), .mv (.k (.one (.v (.bool) (false)))), none⟩])
 (.seq
 (.seq
 (.reg false [
 ⟨(some 6), .mv (.t 0), none⟩,
 ⟨(some 7), .len (.t 6), none⟩,
 ⟨(some 8), .mv (.t 1), none⟩,
 ⟨(some 9), .len (.t 8), none⟩,
 ⟨(some 10), .bin .neq (.t 7) (.t 9), none⟩])
 (.cond (.t 10)
 (.seq
 (.reg false [
 ⟨(some 4), .mv (.k (.one (.v (.bool) (false)))), none⟩])
 .ret)
 .skip))
 (.seq
 (.seq
 (.reg false [
 ⟨(some 5), .mv (.k (.one (.v (.int .i64) ((0 : Int))))), none⟩])
 (.join ⟨[], []⟩ [] []
 (.block 0
 (.loop 0 ⟨[(0, .one (.c (.v (.list [.int .i64])))), (1, .one (.c (.v (.list [.int .i64])))), (5, .one (.c (.v (.int .i64))))], []⟩ [] []
 (.seq
 (.seq
 (.reg false [
 ⟨(some 11), .mv (.t 5), none⟩,
 ⟨(some 12), .mv (.t 0), none⟩,
 ⟨(some 13), .len (.t 12), none⟩,
 ⟨(some 14), .bin .lss (.t 11) (.t 13), none⟩])
 (.cond (.t 14)
 .skip
 (.exit 0)))
 (.seq
 (.block 1
 (.seq
 (.reg true [
 ⟨(some 17), .mv (.t 0), none⟩,
 ⟨(some 18), .mv (.t 5), none⟩,
 ⟨(some 19), .idxA 1 (.t 17) (.t 18), none⟩,
 ⟨(some 20), .load false 1 (.t 19), none⟩,
 ⟨(some 21), .mv (.t 1), none⟩,
 ⟨(some 22), .mv (.t 5), none⟩,
 ⟨(some 23), .idxA 1 (.t 21) (.t 22), none⟩,
 ⟨(some 24), .load false 1 (.t 23), none⟩,
 ⟨(some 25), .bin .neq (.t 20) (.t 24), none⟩])
 (.cond (.t 25)
 (.seq
 (.reg false [
 ⟨(some 4), .mv (.k (.one (.v (.bool) (false)))), none⟩])
 .ret)
 .skip)))
 (.reg false [
 ⟨(some 15), .mv (.t 5), none⟩,
 ⟨(some 16), .bin .add (.t 15) (.k (.one (.v (.int .i64) ((1 : Int))))), none⟩,
 ⟨(some 5), .mv (.t 16), none⟩])))))))
 (.seq
 (.reg false [
 ⟨(some 4), .mv (.k (.one (.v (.bool) (true)))), none⟩])
 .ret))))
def ms_laws_eqIntS : List MRes := [.tmp 4]
theorem n_laws_eqIntS (NN : Nat) (x : DLL (Sig.tys ag_laws_eqIntS)) : runS NN [] sc_laws_eqIntS ms_laws_eqIntS ag_laws_eqIntS rs_laws_eqIntS x = G_laws_eqIntS NN x := by kernel_rfl
theorem k_laws_eqIntS : chkS Go.Proofs.Try.prog 22 sc_laws_eqIntS.er ms_laws_eqIntS 2 = true := by decide +kernel
theorem p_laws_eqIntS : PureSpec Go.Proofs.Try.prog 22 fn_laws_eqIntS.M ∧ chkFun Go.Proofs.Try.prog 22 = true :=
  pure_of_runS (T := []) (sc := sc_laws_eqIntS) (ms := ms_laws_eqIntS) (args := ag_laws_eqIntS) (res := rs_laws_eqIntS) (SOk.nil) follows_ok k_laws_eqIntS F_laws_eqIntS fun x y h => (n_laws_eqIntS FUEL x).trans (f_laws_eqIntS x y h)

def fn_laws_eqTensor : SFn := ⟨33, ag_laws_eqTensor, mu_laws_eqTensor, rs_laws_eqTensor, F_laws_eqTensor⟩
def sc_laws_eqTensor : SCode :=
 (.seq
 (.reg false [
 ⟨(some 2), .box 3 (.t 0), none⟩,
 ⟨(some 3), .box 3 (.t 1), none⟩,
 ⟨(some 4), .mv (.k (.one (.v (.bool) (false)))), none⟩])
 (.seq
 (.seq
 (.reg false [
 ⟨(some 5), .fieldA 0 (.t 2), none⟩,
 ⟨(some 6), .load false 1 (.t 5), none⟩,
 ⟨(some 7), .fieldA 0 (.t 3), none⟩,
 ⟨(some 8), .load false 1 (.t 7), none⟩,
 ⟨(some 9), .call .froz 22 [(.t 6), (.t 8)], none⟩,
 ⟨(some 10), .un .not (.t 9), none⟩])
 (.cond (.t 10)
 (.seq
 (.reg false [
 ⟨(some 4), .mv (.k (.one (.v (.bool) (false)))), none⟩])
 .ret)
 .skip))
 (.seq
 (.seq
 (.reg false [
 ⟨(some 11), .fieldA 1 (.t 2), none⟩,
 ⟨(some 12), .load false 1 (.t 11), none⟩,
 ⟨(some 13), .fieldA 1 (.t 3), none⟩,
 ⟨(some 14), .load false 1 (.t 13), none⟩,
 ⟨(some 15), .call .froz 22 [(.t 12), (.t 14)], none⟩,
 ⟨(some 16), .un .not (.t 15), none⟩])
 (.cond (.t 16)
 (.seq
 (.reg false [
 ⟨(some 4), .mv (.k (.one (.v (.bool) (false)))), none⟩])
 .ret)
 .skip))
 (.seq
 (.seq
 (.reg false [
 ⟨(some 17), .fieldA 2 (.t 2), none⟩,
 ⟨(some 18), .load false 1 (.t 17), none⟩,
 ⟨(some 19), .fieldA 2 (.t 3), none⟩,
 ⟨(some 20), .load false 1 (.t 19), none⟩,
 ⟨(some 21), .call .froz 22 [(.t 18), (.t 20)], none⟩,
 ⟨(some 22), .un .not (.t 21), none⟩])
 (.cond (.t 22)
 (.seq
 (.reg false [
 ⟨(some 4), .mv (.k (.one (.v (.bool) (false)))), none⟩])
 .ret)
 .skip))
 (.seq
 (.reg false [
 ⟨(some 4), .mv (.k (.one (.v (.bool) (true)))), none⟩])
 .ret)))))
def ms_laws_eqTensor : List MRes := [.tmp 4]
theorem n_laws_eqTensor (NN : Nat) (x : DLL (Sig.tys ag_laws_eqTensor)) : runS NN [fn_laws_eqIntS] sc_laws_eqTensor ms_laws_eqTensor ag_laws_eqTensor rs_laws_eqTensor x = G_laws_eqTensor NN x := by kernel_rfl
theorem k_laws_eqTensor : chkS Go.Proofs.Try.prog 33 sc_laws_eqTensor.er ms_laws_eqTensor 2 = true := by decide +kernel
theorem p_laws_eqTensor : PureSpec Go.Proofs.Try.prog 33 fn_laws_eqTensor.M ∧ chkFun Go.Proofs.Try.prog 33 = true :=
  pure_of_runS (T := [fn_laws_eqIntS]) (sc := sc_laws_eqTensor) (ms := ms_laws_eqTensor) (args := ag_laws_eqTensor) (res := rs_laws_eqTensor) (SOk.cons p_laws_eqIntS <| SOk.nil) follows_ok k_laws_eqTensor F_laws_eqTensor fun x y h => (n_laws_eqTensor FUEL x).trans (f_laws_eqTensor x y h)

def fn_laws_eqSite : SFn := ⟨128, ag_laws_eqSite, mu_laws_eqSite, rs_laws_eqSite, F_laws_eqSite⟩
def sc_laws_eqSite : SCode :=
 (.seq
 (.reg false [
 ⟨(some 2), .box 4 (.t 0), none⟩,
 ⟨(some 3), .box 4 (.t 1), none⟩,
 ⟨(some 4), .mv (.k (.one (.v (.bool) (false)))), none⟩])
 (.seq
 (.seq
 (.reg false [
 ⟨(some 5), .fieldA 0 (.t 2), none⟩,
 ⟨(some 6), .load false 1 (.t 5), none⟩,
 ⟨(some 7), .fieldA 0 (.t 3), none⟩,
 ⟨(some 8), .load false 1 (.t 7), none⟩,
 ⟨(some 9), .bin .neq (.t 6) (.t 8), none⟩])
 (.cond (.t 9)
 (.seq
 (.reg false [
 ⟨(some 4), .mv (.k (.one (.v (.bool) (false)))), none⟩])
 .ret)
 .skip))
 (.seq
 (.seq
 (.reg false [
 ⟨(some 10), .fieldA 1 (.t 2), none⟩,
 ⟨(some 11), .load false 1 (.t 10), none⟩,
 ⟨(some 12), .fieldA 1 (.t 3), none⟩,
 ⟨(some 13), .load false 1 (.t 12), none⟩,
 ⟨(some 14), .bin .neq (.t 11) (.t 13), none⟩])
 (.cond (.t 14)
 (.seq
 (.reg false [
 ⟨(some 4), .mv (.k (.one (.v (.bool) (false)))), none⟩])
 .ret)
 .skip))
 (.seq
 (.seq
 (.reg false [
 ⟨(some 15), .fieldA 2 (.t 2), none⟩,
 ⟨(some 16), .load false 1 (.t 15), none⟩,
 ⟨(some 17), .fieldA 2 (.t 3), none⟩,
 ⟨(some 18), .load false 1 (.t 17), none⟩,
 ⟨(some 19), .bin .neq (.t 16) (.t 18), none⟩])
 (.cond (.t 19)
 (.seq
 (.reg false [
 ⟨(some 4), .mv (.k (.one (.v (.bool) (false)))), none⟩])
 .ret)
 .skip))
 (.seq
 (.seq
 (.reg false [
 ⟨(some 20), .fieldA 3 (.t 2), none⟩,
 ⟨(some 21), .load false 1 (.t 20), none⟩,
 ⟨(some 22), .fieldA 3 (.t 3), none⟩,
 ⟨(some 23), .load false 1 (.t 22), none⟩,
 ⟨(some 24), .call .froz 22 [(.t 21), (.t 23)], none⟩,
 ⟨(some 25), .un .not (.t 24), none⟩])
 (.cond (.t 25)
 (.seq
 (.reg false [
 ⟨(some 4), .mv (.k (.one (.v (.bool) (false)))), none⟩])
 .ret)
 .skip))
 (.seq
 (.reg false [
 ⟨(some 4), .mv (.k (.one (.v (.bool) (true)))), none⟩])
 .ret))))))
def ms_laws_eqSite : List MRes := [.tmp 4]
theorem n_laws_eqSite (NN : Nat) (x : DLL (Sig.tys ag_laws_eqSite)) : runS NN [fn_laws_eqIntS] sc_laws_eqSite ms_laws_eqSite ag_laws_eqSite rs_laws_eqSite x = G_laws_eqSite NN x := by kernel_rfl
theorem k_laws_eqSite : chkS Go.Proofs.Try.prog 128 sc_laws_eqSite.er ms_laws_eqSite 2 = true := by decide +kernel
theorem p_laws_eqSite : PureSpec Go.Proofs.Try.prog 128 fn_laws_eqSite.M ∧ chkFun Go.Proofs.Try.prog 128 = true :=
  pure_of_runS (T := [fn_laws_eqIntS]) (sc := sc_laws_eqSite) (ms := ms_laws_eqSite) (args := ag_laws_eqSite) (res := rs_laws_eqSite) (SOk.cons p_laws_eqIntS <| SOk.nil) follows_ok k_laws_eqSite F_laws_eqSite fun x y h => (n_laws_eqSite FUEL x).trans (f_laws_eqSite x y h)

def fn_laws_eqSiteS : SFn := ⟨70, ag_laws_eqSiteS, mu_laws_eqSiteS, rs_laws_eqSiteS, F_laws_eqSiteS⟩
def sc_laws_eqSiteS : SCode :=
 (.seq
 (.reg false [
 ⟨(some 4), .mv (.k (.one (.v (.bool) (false)))), none⟩])
 (.seq
 (.seq
 (.reg false [
 ⟨(some 6), .mv (.t 0), none⟩,
 ⟨(some 7), .len (.t 6), none⟩,
 ⟨(some 8), .mv (.t 1), none⟩,
 ⟨(some 9), .len (.t 8), none⟩,
 ⟨(some 10), .bin .neq (.t 7) (.t 9), none⟩])
 (.cond (.t 10)
 (.seq
 (.reg false [
 ⟨(some 4), .mv (.k (.one (.v (.bool) (false)))), none⟩])
 .ret)
 .skip))
 (.seq
 (.seq
 (.reg false [
 ⟨(some 5), .mv (.k (.one (.v (.int .i64) ((0 : Int))))), none⟩])
 (.join ⟨[], []⟩ [] []
 (.block 0
 (.loop 0 ⟨[(0, .one (.c (.v (.list [.int .i64, .int .i64, .int .i64, .list [.int .i64]])))), (1, .one (.c (.v (.list [.int .i64, .int .i64, .int .i64, .list [.int .i64]])))), (5, .one (.c (.v (.int .i64))))], []⟩ [] []
 (.seq
 (.seq
 (.reg false [
 ⟨(some 11), .mv (.t 5), none⟩,
 ⟨(some 12), .mv (.t 0), none⟩,
 ⟨(some 13), .len (.t 12), none⟩,
 ⟨(some 14), .bin .lss (.t 11) (.t 13), none⟩])
 (.cond (.t 14)
 .skip
 (.exit 0)))
 (.seq
 (.block 1
 (.seq
 (.reg true [
 ⟨(some 17), .mv (.t 0), none⟩,
 ⟨(some 18), .mv (.t 5), none⟩,
 ⟨(some 19), .idxA 4 (.t 17) (.t 18), none⟩,
 ⟨(some 20), .load true 4 (.t 19), none⟩,
 ⟨(some 21), .mv (.t 1), none⟩,
 ⟨(some 22), .mv (.t 5), none⟩,
 ⟨(some 23), .idxA 4 (.t 21) (.t 22), none⟩,
 ⟨(some 24), .load true 4 (.t 23), none⟩,
 ⟨(some 25), .call .froz 128 [(.t 20), (.t 24)], none⟩,
 ⟨(some 26), .un .not (.t 25), none⟩])
 (.cond (.t 26)
 (.seq
 (.reg false [
 ⟨(some 4), .mv (.k (.one (.v (.bool) (false)))), none⟩])
 .ret)
 .skip)))
 (.reg false [
 ⟨(some 15), .mv (.t 5), none⟩,
 ⟨(some 16), .bin .add (.t 15) (.k (.one (.v (.int .i64) ((1 : Int))))), none⟩,
 ⟨(some 5), .mv (.t 16), none⟩])))))))
 (.seq
 (.reg false [
 ⟨(some 4), .mv (.k (.one (.v (.bool) (true)))), none⟩])
 .ret))))
def ms_laws_eqSiteS : List MRes := [.tmp 4]
theorem n_laws_eqSiteS (NN : Nat) (x : DLL (Sig.tys ag_laws_eqSiteS)) : runS NN [fn_laws_eqSite] sc_laws_eqSiteS ms_laws_eqSiteS ag_laws_eqSiteS rs_laws_eqSiteS x = G_laws_eqSiteS NN x := by kernel_rfl
theorem k_laws_eqSiteS : chkS Go.Proofs.Try.prog 70 sc_laws_eqSiteS.er ms_laws_eqSiteS 2 = true := by decide +kernel
theorem p_laws_eqSiteS : PureSpec Go.Proofs.Try.prog 70 fn_laws_eqSiteS.M ∧ chkFun Go.Proofs.Try.prog 70 = true :=
  pure_of_runS (T := [fn_laws_eqSite]) (sc := sc_laws_eqSiteS) (ms := ms_laws_eqSiteS) (args := ag_laws_eqSiteS) (res := rs_laws_eqSiteS) (SOk.cons p_laws_eqSite <| SOk.nil) follows_ok k_laws_eqSiteS F_laws_eqSiteS fun x y h => (n_laws_eqSiteS FUEL x).trans (f_laws_eqSiteS x y h)

def fn_laws_eqChain : SFn := ⟨19, ag_laws_eqChain, mu_laws_eqChain, rs_laws_eqChain, F_laws_eqChain⟩
def sc_laws_eqChain : SCode :=
 (.seq
 (.reg false [
 ⟨(some 2), .box 2 (.t 0), none⟩,
 ⟨(some 3), .box 2 (.t 1), none⟩,
 ⟨(some 4), .mv (.k (.one (.v (.bool) (false)))), none⟩])
 (.seq
 (.seq
 (.reg false [
 ⟨(some 5), .fieldA 0 (.t 2), none⟩,
 ⟨(some 6), .load false 1 (.t 5), none⟩,
 ⟨(some 7), .fieldA 0 (.t 3), none⟩,
 ⟨(some 8), .load false 1 (.t 7), none⟩,
 ⟨(some 9), .bin .neq (.t 6) (.t 8), none⟩])
 (.cond (.t 9)
 (.seq
 (.reg false [
 ⟨(some 4), .mv (.k (.one (.v (.bool) (false)))), none⟩])
 .ret)
 .skip))
 (.seq
 (.seq
 (.reg false [
 ⟨(some 10), .fieldA 1 (.t 2), none⟩,
 ⟨(some 11), .load false 1 (.t 10), none⟩,
 ⟨(some 12), .fieldA 1 (.t 3), none⟩,
 ⟨(some 13), .load false 1 (.t 12), none⟩,
 ⟨(some 14), .call .froz 70 [(.t 11), (.t 13)], none⟩,
 ⟨(some 15), .un .not (.t 14), none⟩])
 (.cond (.t 15)
 (.seq
 (.reg false [
 ⟨(some 4), .mv (.k (.one (.v (.bool) (false)))), none⟩])
 .ret)
 .skip))
 (.seq
 (.reg false [
 ⟨(some 4), .mv (.k (.one (.v (.bool) (true)))), none⟩])
 .ret))))
def ms_laws_eqChain : List MRes := [.tmp 4]
theorem n_laws_eqChain (NN : Nat) (x : DLL (Sig.tys ag_laws_eqChain)) : runS NN [fn_laws_eqSiteS] sc_laws_eqChain ms_laws_eqChain ag_laws_eqChain rs_laws_eqChain x = G_laws_eqChain NN x := by kernel_rfl
theorem k_laws_eqChain : chkS Go.Proofs.Try.prog 19 sc_laws_eqChain.er ms_laws_eqChain 2 = true := by decide +kernel
theorem p_laws_eqChain : PureSpec Go.Proofs.Try.prog 19 fn_laws_eqChain.M ∧ chkFun Go.Proofs.Try.prog 19 = true :=
  pure_of_runS (T := [fn_laws_eqSiteS]) (sc := sc_laws_eqChain) (ms := ms_laws_eqChain) (args := ag_laws_eqChain) (res := rs_laws_eqChain) (SOk.cons p_laws_eqSiteS <| SOk.nil) follows_ok k_laws_eqChain F_laws_eqChain fun x y h => (n_laws_eqChain FUEL x).trans (f_laws_eqChain x y h)

def fn_laws_markIntS : SFn := ⟨24, ag_laws_markIntS, mu_laws_markIntS, rs_laws_markIntS, F_laws_markIntS⟩
def sc_laws_markIntS : SCode :=
 (.seq
 (.reg false [
 ⟨(some 4), .mv (.k (.one (.v (.int .i64) ((0 : Int))))), none⟩])
 (.seq
 (.seq
 (.reg false [
 ⟨(some 5), .mv (.k (.one (.v (.int .i64) ((0 : Int))))), none⟩])
 (.join ⟨[(1, .one (.c (.v (.int .i64))))], [(1000000, .row false .froz [.int .i64])]⟩ [1000000] []
 (.block 0
 (.loop 0 ⟨[(0, .one (.c (.full 1000000 1))), (1, .one (.c (.v (.int .i64)))), (5, .one (.c (.v (.int .i64))))], [(1000000, .row false .froz [.int .i64])]⟩ [1000000, 500000] [(false, 0, 0, 500000, .froz, [])]
 (.seq
 (.seq
 (.reg false [
 ⟨(some 6), .mv (.t 5), none⟩,
 ⟨(some 7), .mv (.t 0), none⟩,
 ⟨(some 8), .len (.t 7), none⟩,
 ⟨(some 9), .bin .lss (.t 6) (.t 8), none⟩])
 (.cond (.t 9)
 .skip
 (.exit 0)))
 (.seq
 (.block 1
 (.seq
 (.reg false [
 ⟨(some 12), .mv (.t 0), none⟩,
 ⟨(some 13), .mv (.t 5), none⟩,
 ⟨(some 14), .mv (.t 1), none⟩,
 ⟨(some 15), .idxA 1 (.t 12) (.t 13), none⟩,
 ⟨none, .store 1 (.t 15) (.t 14), none⟩])
 (.reg false [
 ⟨(some 16), .mv (.t 1), none⟩,
 ⟨(some 17), .bin .add (.t 16) (.k (.one (.v (.int .i64) ((1 : Int))))), none⟩,
 ⟨(some 1), .mv (.t 17), none⟩])))
 (.reg false [
 ⟨(some 10), .mv (.t 5), none⟩,
 ⟨(some 11), .bin .add (.t 10) (.k (.one (.v (.int .i64) ((1 : Int))))), none⟩,
 ⟨(some 5), .mv (.t 11), none⟩])))))))
 (.seq
 (.reg false [
 ⟨(some 18), .mv (.t 1), none⟩,
 ⟨(some 4), .mv (.t 18), none⟩])
 .ret)))
def ms_laws_markIntS : List MRes := [.tmp 4]
theorem n_laws_markIntS (NN : Nat) (x : DLL (Sig.tys ag_laws_markIntS)) : runMS NN [] sc_laws_markIntS ms_laws_markIntS ag_laws_markIntS mu_laws_markIntS rs_laws_markIntS x = G_laws_markIntS NN x := by kernel_rfl
theorem k_laws_markIntS : chkS Go.Proofs.Try.prog 24 sc_laws_markIntS.er ms_laws_markIntS 2 = true := by decide +kernel
theorem p_laws_markIntS : MutSpec Go.Proofs.Try.prog 24 mu_laws_markIntS fn_laws_markIntS.MM ∧ chkFun Go.Proofs.Try.prog 24 = true :=
  mut_of_runMS (T := []) (sc := sc_laws_markIntS) (ms := ms_laws_markIntS) (args := ag_laws_markIntS) (mu := mu_laws_markIntS) (res := rs_laws_markIntS) (SOk.nil) follows_ok k_laws_markIntS F_laws_markIntS fun x y h => (n_laws_markIntS FUEL x).trans (f_laws_markIntS x y h)

def fn_laws_markSiteS : SFn := ⟨71, ag_laws_markSiteS, mu_laws_markSiteS, rs_laws_markSiteS, F_laws_markSiteS⟩
def sc_laws_markSiteS : SCode :=
 (.seq
 (.reg false [
 ⟨(some 4), .mv (.k (.one (.v (.int .i64) ((0 : Int))))), none⟩])
 (.seq
 (.seq
 (.reg false [
 ⟨(some 5), .mv (.k (.one (.v (.int .i64) ((0 : Int))))), none⟩])
 (.join ⟨[(1, .one (.c (.v (.int .i64))))], [(1000000, .row false .live [.int .i64, .int .i64, .int .i64, .list [.int .i64]])]⟩ [1000000] []
 (.block 0
 (.loop 0 ⟨[(0, .one (.c (.full 1000000 4))), (1, .one (.c (.v (.int .i64)))), (5, .one (.c (.v (.int .i64))))], [(1000000, .row false .live [.int .i64, .int .i64, .int .i64, .list [.int .i64]])]⟩ [1000000, 500000] [(false, 0, 0, 500000, .froz, [])]
 (.seq
 (.seq
 (.reg false [
 ⟨(some 6), .mv (.t 5), none⟩,
 ⟨(some 7), .mv (.t 0), none⟩,
 ⟨(some 8), .len (.t 7), none⟩,
 ⟨(some 9), .bin .lss (.t 6) (.t 8), none⟩])
 (.cond (.t 9)
 .skip
 (.exit 0)))
 (.seq
 (.block 1
 (.seq
 (.reg false [
 ⟨(some 12), .mv (.t 0), none⟩,
 ⟨(some 13), .mv (.t 5), none⟩,
 ⟨(some 14), .mv (.t 1), none⟩,
 ⟨(some 15), .idxA 4 (.t 12) (.t 13), none⟩,
 ⟨(some 16), .fieldA 0 (.t 15), none⟩,
 ⟨none, .store 1 (.t 16) (.t 14), none⟩])
 (.seq
 (.reg false [
 ⟨(some 17), .mv (.t 1), none⟩,
 ⟨(some 18), .bin .add (.t 17) (.k (.one (.v (.int .i64) ((1 : Int))))), none⟩,
 ⟨(some 1), .mv (.t 18), none⟩])
 (.seq
 (.reg false [
 ⟨(some 19), .mv (.t 0), none⟩,
 ⟨(some 20), .mv (.t 5), none⟩,
 ⟨(some 21), .mv (.t 1), none⟩,
 ⟨(some 22), .idxA 4 (.t 19) (.t 20), none⟩,
 ⟨(some 23), .fieldA 1 (.t 22), none⟩,
 ⟨none, .store 1 (.t 23) (.t 21), none⟩])
 (.seq
 (.reg false [
 ⟨(some 24), .mv (.t 1), none⟩,
 ⟨(some 25), .bin .add (.t 24) (.k (.one (.v (.int .i64) ((1 : Int))))), none⟩,
 ⟨(some 1), .mv (.t 25), none⟩])
 (.seq
 (.reg false [
 ⟨(some 26), .mv (.t 0), none⟩,
 ⟨(some 27), .mv (.t 5), none⟩,
 ⟨(some 28), .mv (.t 1), none⟩,
 ⟨(some 29), .idxA 4 (.t 26) (.t 27), none⟩,
 ⟨(some 30), .fieldA 2 (.t 29), none⟩,
 ⟨none, .store 1 (.t 30) (.t 28), none⟩])
 (.seq
 (.reg false [
 ⟨(some 31), .mv (.t 1), none⟩,
 ⟨(some 32), .bin .add (.t 31) (.k (.one (.v (.int .i64) ((1 : Int))))), none⟩,
 ⟨(some 1), .mv (.t 32), none⟩])
 (.reg false [
 ⟨(some 33), .mv (.t 0), none⟩,
 ⟨(some 34), .mv (.t 5), none⟩,
 ⟨(some 35), .idxA 4 (.t 33) (.t 34), none⟩,
 ⟨(some 36), .fieldA 3 (.t 35), none⟩,
 ⟨(some 37), .load false 1 (.t 36), none⟩,
 ⟨(some 38), .mv (.t 1), none⟩,
 ⟨(some 39), .callm .froz 24 [(.t 37), (.t 38)], none⟩,
 ⟨(some 1), .mv (.t 39), none⟩]))))))))
 (.reg false [
 ⟨(some 10), .mv (.t 5), none⟩,
 ⟨(some 11), .bin .add (.t 10) (.k (.one (.v (.int .i64) ((1 : Int))))), none⟩,
 ⟨(some 5), .mv (.t 11), none⟩])))))))
 (.seq
 (.reg false [
 ⟨(some 40), .mv (.t 1), none⟩,
 ⟨(some 4), .mv (.t 40), none⟩])
 .ret)))
def ms_laws_markSiteS : List MRes := [.tmp 4]
theorem n_laws_markSiteS (NN : Nat) (x : DLL (Sig.tys ag_laws_markSiteS)) : runMS NN [fn_laws_markIntS] sc_laws_markSiteS ms_laws_markSiteS ag_laws_markSiteS mu_laws_markSiteS rs_laws_markSiteS x = G_laws_markSiteS NN x := by kernel_rfl
theorem k_laws_markSiteS : chkS Go.Proofs.Try.prog 71 sc_laws_markSiteS.er ms_laws_markSiteS 2 = true := by decide +kernel
theorem p_laws_markSiteS : MutSpec Go.Proofs.Try.prog 71 mu_laws_markSiteS fn_laws_markSiteS.MM ∧ chkFun Go.Proofs.Try.prog 71 = true :=
  mut_of_runMS (T := [fn_laws_markIntS]) (sc := sc_laws_markSiteS) (ms := ms_laws_markSiteS) (args := ag_laws_markSiteS) (mu := mu_laws_markSiteS) (res := rs_laws_markSiteS) (SOk.consM p_laws_markIntS <| SOk.nil) follows_ok k_laws_markSiteS F_laws_markSiteS fun x y h => (n_laws_markSiteS FUEL x).trans (f_laws_markSiteS x y h)

def fn_laws_markChain : SFn := ⟨23, ag_laws_markChain, mu_laws_markChain, rs_laws_markChain, F_laws_markChain⟩
def sc_laws_markChain : SCode :=
 (.seq
 (.reg false [
 ⟨(some 2), .box 2 (.t 0), none⟩,
 ⟨(some 4), .mv (.k (.one (.v (.int .i64) ((0 : Int))))), none⟩])
 (.seq
 (.reg false [
 ⟨(some 5), .fieldA 1 (.t 2), none⟩,
 ⟨(some 6), .load false 1 (.t 5), none⟩,
 ⟨(some 7), .mv (.t 1), none⟩,
 ⟨(some 8), .callm .live 71 [(.t 6), (.t 7)], none⟩,
 ⟨(some 1), .mv (.t 8), none⟩])
 (.seq
 (.reg false [
 ⟨(some 9), .mv (.t 1), none⟩,
 ⟨(some 4), .mv (.t 9), none⟩])
 .ret)))
def ms_laws_markChain : List MRes := [.tmp 4]
theorem n_laws_markChain (NN : Nat) (x : DLL (Sig.tys ag_laws_markChain)) : runMS NN [fn_laws_markSiteS] sc_laws_markChain ms_laws_markChain ag_laws_markChain mu_laws_markChain rs_laws_markChain x = G_laws_markChain NN x := by kernel_rfl
theorem k_laws_markChain : chkS Go.Proofs.Try.prog 23 sc_laws_markChain.er ms_laws_markChain 2 = true := by decide +kernel
theorem p_laws_markChain : MutSpec Go.Proofs.Try.prog 23 mu_laws_markChain fn_laws_markChain.MM ∧ chkFun Go.Proofs.Try.prog 23 = true :=
  mut_of_runMS (T := [fn_laws_markSiteS]) (sc := sc_laws_markChain) (ms := ms_laws_markChain) (args := ag_laws_markChain) (mu := mu_laws_markChain) (res := rs_laws_markChain) (SOk.consM p_laws_markSiteS <| SOk.nil) follows_ok k_laws_markChain F_laws_markChain fun x y h => (n_laws_markChain FUEL x).trans (f_laws_markChain x y h)

def fn_laws_markTensor : SFn := ⟨34, ag_laws_markTensor, mu_laws_markTensor, rs_laws_markTensor, F_laws_markTensor⟩
def sc_laws_markTensor : SCode :=
 (.seq
 (.reg false [
 ⟨(some 2), .box 3 (.t 0), none⟩,
 ⟨(some 4), .mv (.k (.one (.v (.int .i64) ((0 : Int))))), none⟩])
 (.seq
 (.reg false [
 ⟨(some 5), .fieldA 0 (.t 2), none⟩,
 ⟨(some 6), .load false 1 (.t 5), none⟩,
 ⟨(some 7), .mv (.t 1), none⟩,
 ⟨(some 8), .callm .froz 24 [(.t 6), (.t 7)], none⟩,
 ⟨(some 1), .mv (.t 8), none⟩])
 (.seq
 (.reg false [
 ⟨(some 9), .fieldA 1 (.t 2), none⟩,
 ⟨(some 10), .load false 1 (.t 9), none⟩,
 ⟨(some 11), .mv (.t 1), none⟩,
 ⟨(some 12), .callm .froz 24 [(.t 10), (.t 11)], none⟩,
 ⟨(some 1), .mv (.t 12), none⟩])
 (.seq
 (.reg false [
 ⟨(some 13), .fieldA 2 (.t 2), none⟩,
 ⟨(some 14), .load false 1 (.t 13), none⟩,
 ⟨(some 15), .mv (.t 1), none⟩,
 ⟨(some 16), .callm .froz 24 [(.t 14), (.t 15)], none⟩,
 ⟨(some 1), .mv (.t 16), none⟩])
 (.seq
 (.reg false [
 ⟨(some 17), .mv (.t 1), none⟩,
 ⟨(some 4), .mv (.t 17), none⟩])
 .ret)))))
def ms_laws_markTensor : List MRes := [.tmp 4]
theorem n_laws_markTensor (NN : Nat) (x : DLL (Sig.tys ag_laws_markTensor)) : runMS NN [fn_laws_markIntS] sc_laws_markTensor ms_laws_markTensor ag_laws_markTensor mu_laws_markTensor rs_laws_markTensor x = G_laws_markTensor NN x := by kernel_rfl
theorem k_laws_markTensor : chkS Go.Proofs.Try.prog 34 sc_laws_markTensor.er ms_laws_markTensor 2 = true := by decide +kernel
theorem p_laws_markTensor : MutSpec Go.Proofs.Try.prog 34 mu_laws_markTensor fn_laws_markTensor.MM ∧ chkFun Go.Proofs.Try.prog 34 = true :=
  mut_of_runMS (T := [fn_laws_markIntS]) (sc := sc_laws_markTensor) (ms := ms_laws_markTensor) (args := ag_laws_markTensor) (mu := mu_laws_markTensor) (res := rs_laws_markTensor) (SOk.consM p_laws_markIntS <| SOk.nil) follows_ok k_laws_markTensor F_laws_markTensor fun x y h => (n_laws_markTensor FUEL x).trans (f_laws_markTensor x y h)

def fn_laws_heldIntS : SFn := ⟨25, ag_laws_heldIntS, mu_laws_heldIntS, rs_laws_heldIntS, F_laws_heldIntS⟩
def sc_laws_heldIntS : SCode :=
 (.seq
 (.reg false [
 ⟨(some 4), .mv (.k (.one (.v (.int .i64) ((0 : Int))))), none⟩])
 (.seq
 (.seq
 (.reg false [
 ⟨(some 5), .mv (.k (.one (.v (.int .i64) ((0 : Int))))), none⟩])
 (.join ⟨[(1, .one (.c (.v (.int .i64))))], []⟩ [] []
 (.block 0
 (.loop 0 ⟨[(0, .one (.c (.v (.list [.int .i64])))), (1, .one (.c (.v (.int .i64)))), (5, .one (.c (.v (.int .i64))))], []⟩ [] []
 (.seq
 (.seq
 (.reg false [
 ⟨(some 6), .mv (.t 5), none⟩,
 ⟨(some 7), .mv (.t 0), none⟩,
 ⟨(some 8), .len (.t 7), none⟩,
 ⟨(some 9), .bin .lss (.t 6) (.t 8), none⟩])
 (.cond (.t 9)
 .skip
 (.exit 0)))
 (.seq
 (.block 1
 (.seq
 (.seq
 (.reg false [
 ⟨(some 12), .mv (.t 0), none⟩,
 ⟨(some 13), .mv (.t 5), none⟩,
 ⟨(some 14), .idxA 1 (.t 12) (.t 13), none⟩,
 ⟨(some 15), .load false 1 (.t 14), none⟩,
 ⟨(some 16), .mv (.t 1), none⟩,
 ⟨(some 17), .bin .neq (.t 15) (.t 16), none⟩])
 (.cond (.t 17)
 (.seq
 (.reg false [
 ⟨(some 4), .mv (.k (.one (.v (.int .i64) (((-1) : Int))))), none⟩])
 .ret)
 .skip))
 (.reg false [
 ⟨(some 18), .mv (.t 1), none⟩,
 ⟨(some 19), .bin .add (.t 18) (.k (.one (.v (.int .i64) ((1 : Int))))), none⟩,
 ⟨(some 1), .mv (.t 19), none⟩])))
 (.reg false [
 ⟨(some 10), .mv (.t 5), none⟩,
 ⟨(some 11), .bin .add (.t 10) (.k (.one (.v (.int .i64) ((1 : Int))))), none⟩,
 ⟨(some 5), .mv (.t 11), none⟩])))))))
 (.seq
 (.reg false [
 ⟨(some 20), .mv (.t 1), none⟩,
 ⟨(some 4), .mv (.t 20), none⟩])
 .ret)))
def ms_laws_heldIntS : List MRes := [.tmp 4]
theorem n_laws_heldIntS (NN : Nat) (x : DLL (Sig.tys ag_laws_heldIntS)) : runS NN [] sc_laws_heldIntS ms_laws_heldIntS ag_laws_heldIntS rs_laws_heldIntS x = G_laws_heldIntS NN x := by kernel_rfl
theorem k_laws_heldIntS : chkS Go.Proofs.Try.prog 25 sc_laws_heldIntS.er ms_laws_heldIntS 2 = true := by decide +kernel
theorem p_laws_heldIntS : PureSpec Go.Proofs.Try.prog 25 fn_laws_heldIntS.M ∧ chkFun Go.Proofs.Try.prog 25 = true :=
  pure_of_runS (T := []) (sc := sc_laws_heldIntS) (ms := ms_laws_heldIntS) (args := ag_laws_heldIntS) (res := rs_laws_heldIntS) (SOk.nil) follows_ok k_laws_heldIntS F_laws_heldIntS fun x y h => (n_laws_heldIntS FUEL x).trans (f_laws_heldIntS x y h)

def fn_laws_heldTensor : SFn := ⟨35, ag_laws_heldTensor, mu_laws_heldTensor, rs_laws_heldTensor, F_laws_heldTensor⟩
def sc_laws_heldTensor : SCode :=
 (.seq
 (.reg false [
 ⟨(some 2), .box 3 (.t 0), none⟩,
 ⟨(some 4), .mv (.k (.one (.v (.int .i64) ((0 : Int))))), none⟩])
 (.seq
 (.reg false [
 ⟨(some 5), .fieldA 0 (.t 2), none⟩,
 ⟨(some 6), .load false 1 (.t 5), none⟩,
 ⟨(some 7), .mv (.t 1), none⟩,
 ⟨(some 8), .call .froz 25 [(.t 6), (.t 7)], none⟩,
 ⟨(some 1), .mv (.t 8), none⟩])
 (.seq
 (.seq
 (.reg false [
 ⟨(some 9), .mv (.t 1), none⟩,
 ⟨(some 10), .bin .lss (.t 9) (.k (.one (.v (.int .i64) ((0 : Int))))), none⟩])
 (.cond (.t 10)
 (.seq
 (.reg false [
 ⟨(some 4), .mv (.k (.one (.v (.int .i64) (((-1) : Int))))), none⟩])
 .ret)
 .skip))
 (.seq
 (.reg false [
 ⟨(some 11), .fieldA 1 (.t 2), none⟩,
 ⟨(some 12), .load false 1 (.t 11), none⟩,
 ⟨(some 13), .mv (.t 1), none⟩,
 ⟨(some 14), .call .froz 25 [(.t 12), (.t 13)], none⟩,
 ⟨(some 1), .mv (.t 14), none⟩])
 (.seq
 (.seq
 (.reg false [
 ⟨(some 15), .mv (.t 1), none⟩,
 ⟨(some 16), .bin .lss (.t 15) (.k (.one (.v (.int .i64) ((0 : Int))))), none⟩])
 (.cond (.t 16)
 (.seq
 (.reg false [
 ⟨(some 4), .mv (.k (.one (.v (.int .i64) (((-1) : Int))))), none⟩])
 .ret)
 .skip))
 (.seq
 (.reg false [
 ⟨(some 17), .fieldA 2 (.t 2), none⟩,
 ⟨(some 18), .load false 1 (.t 17), none⟩,
 ⟨(some 19), .mv (.t 1), none⟩,
 ⟨(some 20), .call .froz 25 [(.t 18), (.t 19)], none⟩,
 ⟨(some 1), .mv (.t 20), none⟩])
 (.seq
 (.seq
 (.reg false [
 ⟨(some 21), .mv (.t 1), none⟩,
 ⟨(some 22), .bin .lss (.t 21) (.k (.one (.v (.int .i64) ((0 : Int))))), none⟩])
 (.cond (.t 22)
 (.seq
 (.reg false [
 ⟨(some 4), .mv (.k (.one (.v (.int .i64) (((-1) : Int))))), none⟩])
 .ret)
 .skip))
 (.seq
 (.reg false [
 ⟨(some 23), .mv (.t 1), none⟩,
 ⟨(some 4), .mv (.t 23), none⟩])
 .ret))))))))
def ms_laws_heldTensor : List MRes := [.tmp 4]
theorem n_laws_heldTensor (NN : Nat) (x : DLL (Sig.tys ag_laws_heldTensor)) : runS NN [fn_laws_heldIntS] sc_laws_heldTensor ms_laws_heldTensor ag_laws_heldTensor rs_laws_heldTensor x = G_laws_heldTensor NN x := by kernel_rfl
theorem k_laws_heldTensor : chkS Go.Proofs.Try.prog 35 sc_laws_heldTensor.er ms_laws_heldTensor 2 = true := by decide +kernel
theorem p_laws_heldTensor : PureSpec Go.Proofs.Try.prog 35 fn_laws_heldTensor.M ∧ chkFun Go.Proofs.Try.prog 35 = true :=
  pure_of_runS (T := [fn_laws_heldIntS]) (sc := sc_laws_heldTensor) (ms := ms_laws_heldTensor) (args := ag_laws_heldTensor) (res := rs_laws_heldTensor) (SOk.cons p_laws_heldIntS <| SOk.nil) follows_ok k_laws_heldTensor F_laws_heldTensor fun x y h => (n_laws_heldTensor FUEL x).trans (f_laws_heldTensor x y h)

def fn_laws_FnExactChainTensor : SFn := ⟨7, ag_laws_FnExactChainTensor, mu_laws_FnExactChainTensor, rs_laws_FnExactChainTensor, F_laws_FnExactChainTensor⟩
def sc_laws_FnExactChainTensor : SCode :=
 (.seq
 (.reg false [
 ⟨(some 1), .box 2 (.t 0), none⟩,
 ⟨(some 2), .mv (.k (.one (.v (.bool) (false)))), none⟩])
 (.seq
 (.reg false [
 ⟨(some 3), .mv (.k (.one (.v (.int .i64) ((1048576 : Int))))), none⟩])
 (.seq
 (.reg false [
 ⟨(some 11), .load true 2 (.t 1), none⟩,
 ⟨(some 12), .mv (.t 3), none⟩,
 ⟨(some 13), .call .live 15 [(.t 11), (.t 12)], none⟩,
 ⟨(some 3), .mv (.t 13), none⟩])
 (.seq
 (.seq
 (.reg false [
 ⟨(some 14), .mv (.t 3), none⟩,
 ⟨(some 15), .bin .lss (.t 14) (.k (.one (.v (.int .i64) ((0 : Int))))), none⟩])
 (.cond (.t 15)
 (.seq
 (.reg false [
 ⟨(some 2), .mv (.k (.one (.v (.bool) (true)))), none⟩])
 .ret)
 .skip))
 (.seq
 (.reg false [
 ⟨(some 16), .load true 2 (.t 1), none⟩,
 ⟨(some 17), .call .live 17 [(.t 16)], none⟩,
 ⟨(some 18), .call .live 31 [(.t 17)], none⟩,
 ⟨(some 4), .alloc [.nil [.int .i64], .nil [.int .i64], .nil [.int .i64]], none⟩,
 ⟨none, .store 3 (.t 4) (.t 18), none⟩])
 (.seq
 (.reg false [
 ⟨(some 19), .load true 2 (.t 1), none⟩,
 ⟨(some 20), .call .live 17 [(.t 19)], none⟩,
 ⟨(some 5), .alloc [.v (.int .i64) ((0 : Int)), .nil [.int .i64, .int .i64, .int .i64, .list [.int .i64]]], none⟩,
 ⟨none, .store 2 (.t 5) (.t 20), none⟩])
 (.seq
 (.reg false [
 ⟨(some 21), .load true 2 (.t 5), none⟩,
 ⟨(some 22), .call .live 32 [(.t 21)], none⟩,
 ⟨(some 6), .alloc [.nil [.int .i64], .nil [.int .i64], .nil [.int .i64]], none⟩,
 ⟨none, .store 3 (.t 6) (.t 22), none⟩])
 (.seq
 (.seq
 (.reg false [
 ⟨(some 23), .load true 3 (.t 6), none⟩,
 ⟨(some 24), .load true 3 (.t 4), none⟩,
 ⟨(some 25), .call .live 33 [(.t 23), (.t 24)], none⟩,
 ⟨(some 26), .un .not (.t 25), none⟩])
 (.cond (.t 26)
 (.seq
 (.reg false [
 ⟨(some 2), .mv (.k (.one (.v (.bool) (false)))), none⟩])
 .ret)
 .skip))
 (.seq
 (.seq
 (.reg true [
 ⟨(some 27), .load true 2 (.t 5), none⟩,
 ⟨(some 28), .load true 2 (.t 1), none⟩,
 ⟨(some 29), .call .live 17 [(.t 28)], none⟩,
 ⟨(some 30), .call .live 19 [(.t 27), (.t 29)], none⟩,
 ⟨(some 31), .un .not (.t 30), none⟩])
 (.cond (.t 31)
 (.seq
 (.reg false [
 ⟨(some 2), .mv (.k (.one (.v (.bool) (false)))), none⟩])
 .ret)
 .skip))
 (.seq
 (.reg false [
 ⟨(some 7), .mv (.k (.one (.v (.int .i64) ((1 : Int))))), none⟩])
 (.seq
 (.reg false [
 ⟨(some 32), .load true 2 (.t 5), none⟩,
 ⟨(some 33), .mv (.t 7), none⟩,
 ⟨(some 34), .callm .live 23 [(.t 32), (.t 33)], none⟩,
 ⟨(some 7), .mv (.t 34), none⟩])
 (.seq
 (.seq
 (.reg false [
 ⟨(some 35), .mv (.t 7), none⟩,
 ⟨(some 36), .bin .lss (.t 35) (.k (.one (.v (.int .i64) ((0 : Int))))), none⟩,
 ⟨(some 37), .mv (.t 36), none⟩,
 ⟨(some 38), .load true 3 (.t 6), (some (37, false))⟩,
 ⟨(some 39), .load true 3 (.t 4), (some (37, false))⟩,
 ⟨(some 40), .call .live 33 [(.t 38), (.t 39)], (some (37, false))⟩,
 ⟨(some 41), .un .not (.t 40), (some (37, false))⟩,
 ⟨(some 42), .pick (.t 37) (.k (.one (.v (.bool) (true)))) (.t 41), none⟩])
 (.cond (.t 42)
 (.seq
 (.reg false [
 ⟨(some 2), .mv (.k (.one (.v (.bool) (false)))), none⟩])
 .ret)
 .skip))
 (.seq
 (.reg false [
 ⟨(some 8), .mv (.k (.one (.v (.int .i64) ((1 : Int))))), none⟩])
 (.seq
 (.reg false [
 ⟨(some 43), .load true 3 (.t 6), none⟩,
 ⟨(some 44), .mv (.t 8), none⟩,
 ⟨(some 45), .callm .live 34 [(.t 43), (.t 44)], none⟩,
 ⟨(some 8), .mv (.t 45), none⟩])
 (.seq
 (.reg false [
 ⟨(some 9), .mv (.k (.one (.v (.int .i64) ((1 : Int))))), none⟩])
 (.seq
 (.reg false [
 ⟨(some 46), .load true 3 (.t 6), none⟩,
 ⟨(some 47), .mv (.t 9), none⟩,
 ⟨(some 48), .call .live 35 [(.t 46), (.t 47)], none⟩,
 ⟨(some 9), .mv (.t 48), none⟩])
 (.seq
 (.seq
 (.reg false [
 ⟨(some 49), .mv (.t 9), none⟩,
 ⟨(some 50), .bin .lss (.t 49) (.k (.one (.v (.int .i64) ((0 : Int))))), none⟩])
 (.cond (.t 50)
 (.seq
 (.reg false [
 ⟨(some 2), .mv (.k (.one (.v (.bool) (false)))), none⟩])
 .ret)
 .skip))
 (.seq
 (.seq
 (.reg false [
 ⟨(some 51), .mv (.t 9), none⟩,
 ⟨(some 52), .mv (.t 8), none⟩,
 ⟨(some 53), .bin .neq (.t 51) (.t 52), none⟩])
 (.cond (.t 53)
 (.seq
 (.reg false [
 ⟨(some 2), .mv (.k (.one (.v (.bool) (false)))), none⟩])
 .ret)
 .skip))
 (.seq
 (.reg false [
 ⟨(some 54), .load true 2 (.t 1), none⟩,
 ⟨(some 55), .call .live 17 [(.t 54)], none⟩,
 ⟨(some 56), .call .live 32 [(.t 55)], none⟩,
 ⟨(some 10), .alloc [.nil [.int .i64], .nil [.int .i64], .nil [.int .i64]], none⟩,
 ⟨none, .store 3 (.t 10) (.t 56), none⟩])
 (.seq
 (.seq
 (.reg false [
 ⟨(some 57), .load true 3 (.t 10), none⟩,
 ⟨(some 58), .load true 3 (.t 4), none⟩,
 ⟨(some 59), .call .live 33 [(.t 57), (.t 58)], none⟩,
 ⟨(some 60), .un .not (.t 59), none⟩])
 (.cond (.t 60)
 (.seq
 (.reg false [
 ⟨(some 2), .mv (.k (.one (.v (.bool) (false)))), none⟩])
 .ret)
 .skip))
 (.seq
 (.reg false [
 ⟨(some 9), .mv (.k (.one (.v (.int .i64) ((1 : Int))))), none⟩])
 (.seq
 (.reg false [
 ⟨(some 61), .load true 3 (.t 6), none⟩,
 ⟨(some 62), .mv (.t 9), none⟩,
 ⟨(some 63), .call .live 35 [(.t 61), (.t 62)], none⟩,
 ⟨(some 9), .mv (.t 63), none⟩])
 (.seq
 (.seq
 (.reg false [
 ⟨(some 64), .mv (.t 9), none⟩,
 ⟨(some 65), .bin .lss (.t 64) (.k (.one (.v (.int .i64) ((0 : Int))))), none⟩])
 (.cond (.t 65)
 (.seq
 (.reg false [
 ⟨(some 2), .mv (.k (.one (.v (.bool) (false)))), none⟩])
 .ret)
 .skip))
 (.seq
 (.seq
 (.reg false [
 ⟨(some 66), .mv (.t 9), none⟩,
 ⟨(some 67), .mv (.t 8), none⟩,
 ⟨(some 68), .bin .neq (.t 66) (.t 67), none⟩])
 (.cond (.t 68)
 (.seq
 (.reg false [
 ⟨(some 2), .mv (.k (.one (.v (.bool) (false)))), none⟩])
 .ret)
 .skip))
 (.seq
 (.reg false [
 ⟨(some 2), .mv (.k (.one (.v (.bool) (true)))), none⟩])
 .ret)))))))))))))))))))))))))
def ms_laws_FnExactChainTensor : List MRes := [.tmp 2]
theorem n_laws_FnExactChainTensor (NN : Nat) (x : DLL (Sig.tys ag_laws_FnExactChainTensor)) : runS NN [fn_laws_szChain, fn_laws_toChain, fn_spec_ChainTensor, fn_impl_ChainTensor, fn_laws_eqTensor, fn_laws_eqChain, fn_laws_markChain, fn_laws_markTensor, fn_laws_heldTensor] sc_laws_FnExactChainTensor ms_laws_FnExactChainTensor ag_laws_FnExactChainTensor rs_laws_FnExactChainTensor x = G_laws_FnExactChainTensor NN x := by kernel_rfl
theorem k_laws_FnExactChainTensor : chkS Go.Proofs.Try.prog 7 sc_laws_FnExactChainTensor.er ms_laws_FnExactChainTensor 1 = true := by decide +kernel
theorem p_laws_FnExactChainTensor : PureSpec Go.Proofs.Try.prog 7 fn_laws_FnExactChainTensor.M ∧ chkFun Go.Proofs.Try.prog 7 = true :=
  pure_of_runS (T := [fn_laws_szChain, fn_laws_toChain, fn_spec_ChainTensor, fn_impl_ChainTensor, fn_laws_eqTensor, fn_laws_eqChain, fn_laws_markChain, fn_laws_markTensor, fn_laws_heldTensor]) (sc := sc_laws_FnExactChainTensor) (ms := ms_laws_FnExactChainTensor) (args := ag_laws_FnExactChainTensor) (res := rs_laws_FnExactChainTensor) (SOk.cons p_laws_szChain <| SOk.cons p_laws_toChain <| SOk.cons p_spec_ChainTensor <| SOk.cons p_impl_ChainTensor <| SOk.cons p_laws_eqTensor <| SOk.cons p_laws_eqChain <| SOk.consM p_laws_markChain <| SOk.consM p_laws_markTensor <| SOk.cons p_laws_heldTensor <| SOk.nil) follows_ok k_laws_FnExactChainTensor F_laws_FnExactChainTensor fun x y h => (n_laws_FnExactChainTensor FUEL x).trans (f_laws_FnExactChainTensor x y h)

end Go.Am
