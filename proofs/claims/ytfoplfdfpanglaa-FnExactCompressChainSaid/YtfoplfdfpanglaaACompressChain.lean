/- A_CompressChain: the code of the functions of FnExactCompressChain. No condition. -/
import Derived.Test.YtfoplfdfpanglaaLCompressChain
import Derived.Test.YtfoplfdfpanglaaBr2
import Derived.KernelRfl
import Derived.Test.YtfoplfdfpanglaaRows
set_option linter.unusedVariables false
set_option maxRecDepth 100000
namespace Go.Am
theorem follows_ok : Go.Proofs.Try.prog.follows .mixedOrders = true := by decide +kernel
def oX (n : Nat) (x : SOp) : SOper := ⟨some n, x, none⟩
def uX (x : SOp) : SOper := ⟨none, x, none⟩
def kX (n : Int) : SMO := .k (.one (.v (.int .i64) n))
def sX : ShV := .one (.c (.v (.int .i64)))
def iX : List Ty := [.int .i64]
def lX : Ty := .list iX
def gX : List Ty := [.int .i64, .int .i64, .int .i64, lX]
def zX : SC := .v (.int .i64) (0 : Int)
def vX : ShC := .c (.v (.int .i64))
def fX (n k : Nat) : ShC := .c (.full n k)
def rX (n : Nat) : ShC := .c (.ptr0 n 0)
def fn_laws_szIntS : SFn := ⟨90, ag_laws_szIntS, mu_laws_szIntS, rs_laws_szIntS, F_laws_szIntS⟩
def sc_laws_szIntS : SCode :=
 (.seq
 (.reg false [
 oX 4 (.mv (kX 0))])
 (.seq
 (.reg false [
 oX 5 (.mv (.t 1)),
 oX 6 (.mv (.t 0)),
 oX 7 (.len (.t 6)),
 oX 8 (.bin .sub (.t 5) (.t 7)),
 oX 1 (.mv (.t 8))])
 (.seq
 (.seq
 (.reg false [
 oX 9 (.mv (.t 1)),
 oX 10 (.bin .lss (.t 9) (kX 0))])
 (.cond (.t 10)
 (.seq
 (.reg false [
 oX 4 (.mv (kX (-1)))])
 .ret)
 .skip))
 (.seq
 (.reg false [
 oX 11 (.mv (.t 1)),
 oX 4 (.mv (.t 11))])
 .ret))))
def ms_laws_szIntS : List MRes := [.tmp 4]
theorem n_laws_szIntS (NN : Nat) (x : DLL (Sig.tys ag_laws_szIntS)) : runS NN [] sc_laws_szIntS ms_laws_szIntS ag_laws_szIntS rs_laws_szIntS x = G_laws_szIntS NN x := by kernel_rfl
theorem k_laws_szIntS : chkS Go.Proofs.Try.prog 90 sc_laws_szIntS.er ms_laws_szIntS 2 = true := by decide +kernel
theorem p_laws_szIntS : PureSpec Go.Proofs.Try.prog 90 fn_laws_szIntS.M ∧ chkFun Go.Proofs.Try.prog 90 = true :=
  pure_of_runS (T := []) (sc := sc_laws_szIntS) (ms := ms_laws_szIntS) (args := ag_laws_szIntS) (res := rs_laws_szIntS) (SOk.nil) follows_ok k_laws_szIntS F_laws_szIntS fun x y h => (n_laws_szIntS FUEL x).trans (f_laws_szIntS x y h)

def fn_laws_szSite : SFn := ⟨125, ag_laws_szSite, mu_laws_szSite, rs_laws_szSite, F_laws_szSite⟩
def sc_laws_szSite : SCode :=
 (.seq
 (.reg false [
 oX 2 (.box 4 (.t 0)),
 oX 4 (.mv (kX 0))])
 (.seq
 (.reg false [
 oX 5 (.fieldA 3 (.t 2)),
 oX 6 (.load false 1 (.t 5)),
 oX 7 (.mv (.t 1)),
 oX 8 (.call .froz 90 [(.t 6), (.t 7)]),
 oX 1 (.mv (.t 8))])
 (.seq
 (.seq
 (.reg false [
 oX 9 (.mv (.t 1)),
 oX 10 (.bin .lss (.t 9) (kX 0))])
 (.cond (.t 10)
 (.seq
 (.reg false [
 oX 4 (.mv (kX (-1)))])
 .ret)
 .skip))
 (.seq
 (.reg false [
 oX 11 (.mv (.t 1)),
 oX 4 (.mv (.t 11))])
 .ret))))
def ms_laws_szSite : List MRes := [.tmp 4]
theorem n_laws_szSite (NN : Nat) (x : DLL (Sig.tys ag_laws_szSite)) : runS NN [fn_laws_szIntS] sc_laws_szSite ms_laws_szSite ag_laws_szSite rs_laws_szSite x = G_laws_szSite NN x := by kernel_rfl
theorem k_laws_szSite : chkS Go.Proofs.Try.prog 125 sc_laws_szSite.er ms_laws_szSite 2 = true := by decide +kernel
theorem p_laws_szSite : PureSpec Go.Proofs.Try.prog 125 fn_laws_szSite.M ∧ chkFun Go.Proofs.Try.prog 125 = true :=
  pure_of_runS (T := [fn_laws_szIntS]) (sc := sc_laws_szSite) (ms := ms_laws_szSite) (args := ag_laws_szSite) (res := rs_laws_szSite) (SOk.cons p_laws_szIntS <| SOk.nil) follows_ok k_laws_szSite F_laws_szSite fun x y h => (n_laws_szSite FUEL x).trans (f_laws_szSite x y h)

def fn_laws_szSiteS : SFn := ⟨62, ag_laws_szSiteS, mu_laws_szSiteS, rs_laws_szSiteS, F_laws_szSiteS⟩
def sc_laws_szSiteS : SCode :=
 (.seq
 (.reg false [
 oX 4 (.mv (kX 0))])
 (.seq
 (.reg false [
 oX 6 (.mv (.t 1)),
 oX 7 (.mv (.t 0)),
 oX 8 (.len (.t 7)),
 oX 9 (.bin .sub (.t 6) (.t 8)),
 oX 1 (.mv (.t 9))])
 (.seq
 (.seq
 (.reg false [
 oX 10 (.mv (.t 1)),
 oX 11 (.bin .lss (.t 10) (kX 0))])
 (.cond (.t 11)
 (.seq
 (.reg false [
 oX 4 (.mv (kX (-1)))])
 .ret)
 .skip))
 (.seq
 (.seq
 (.reg false [
 oX 5 (.mv (kX 0))])
 (.join ⟨[(1, sX)], []⟩ [] []
 (.block 0
 (.loop 0 ⟨[(0, .one (.c (.v (.list gX)))), (1, sX), (5, sX)], []⟩ [] []
 (.seq
 (.seq
 (.reg false [
 oX 12 (.mv (.t 5)),
 oX 13 (.mv (.t 0)),
 oX 14 (.len (.t 13)),
 oX 15 (.bin .lss (.t 12) (.t 14))])
 (.cond (.t 15)
 .skip
 (.exit 0)))
 (.seq
 (.block 1
 (.seq
 (.reg false [
 oX 18 (.mv (.t 0)),
 oX 19 (.mv (.t 5)),
 oX 20 (.idxA 4 (.t 18) (.t 19)),
 oX 21 (.load true 4 (.t 20)),
 oX 22 (.mv (.t 1)),
 oX 23 (.call .froz 125 [(.t 21), (.t 22)]),
 oX 1 (.mv (.t 23))])
 (.seq
 (.reg false [
 oX 24 (.mv (.t 1)),
 oX 25 (.bin .lss (.t 24) (kX 0))])
 (.cond (.t 25)
 (.seq
 (.reg false [
 oX 4 (.mv (kX (-1)))])
 .ret)
 .skip))))
 (.reg false [
 oX 16 (.mv (.t 5)),
 oX 17 (.bin .add (.t 16) (kX 1)),
 oX 5 (.mv (.t 17))])))))))
 (.seq
 (.reg false [
 oX 26 (.mv (.t 1)),
 oX 4 (.mv (.t 26))])
 .ret)))))
def ms_laws_szSiteS : List MRes := [.tmp 4]
theorem n_laws_szSiteS (NN : Nat) (x : DLL (Sig.tys ag_laws_szSiteS)) : runS NN [fn_laws_szSite] sc_laws_szSiteS ms_laws_szSiteS ag_laws_szSiteS rs_laws_szSiteS x = G_laws_szSiteS NN x := by kernel_rfl
theorem k_laws_szSiteS : chkS Go.Proofs.Try.prog 62 sc_laws_szSiteS.er ms_laws_szSiteS 2 = true := by decide +kernel
theorem p_laws_szSiteS : PureSpec Go.Proofs.Try.prog 62 fn_laws_szSiteS.M ∧ chkFun Go.Proofs.Try.prog 62 = true :=
  pure_of_runS (T := [fn_laws_szSite]) (sc := sc_laws_szSiteS) (ms := ms_laws_szSiteS) (args := ag_laws_szSiteS) (res := rs_laws_szSiteS) (SOk.cons p_laws_szSite <| SOk.nil) follows_ok k_laws_szSiteS F_laws_szSiteS fun x y h => (n_laws_szSiteS FUEL x).trans (f_laws_szSiteS x y h)

def fn_laws_szChain : SFn := ⟨15, ag_laws_szChain, mu_laws_szChain, rs_laws_szChain, F_laws_szChain⟩
def sc_laws_szChain : SCode :=
 (.seq
 (.reg false [
 oX 2 (.box 2 (.t 0)),
 oX 4 (.mv (kX 0))])
 (.seq
 (.reg false [
 oX 5 (.fieldA 1 (.t 2)),
 oX 6 (.load false 1 (.t 5)),
 oX 7 (.mv (.t 1)),
 oX 8 (.call .froz 62 [(.t 6), (.t 7)]),
 oX 1 (.mv (.t 8))])
 (.seq
 (.seq
 (.reg false [
 oX 9 (.mv (.t 1)),
 oX 10 (.bin .lss (.t 9) (kX 0))])
 (.cond (.t 10)
 (.seq
 (.reg false [
 oX 4 (.mv (kX (-1)))])
 .ret)
 .skip))
 (.seq
 (.reg false [
 oX 11 (.mv (.t 1)),
 oX 4 (.mv (.t 11))])
 .ret))))
def ms_laws_szChain : List MRes := [.tmp 4]
theorem n_laws_szChain (NN : Nat) (x : DLL (Sig.tys ag_laws_szChain)) : runS NN [fn_laws_szSiteS] sc_laws_szChain ms_laws_szChain ag_laws_szChain rs_laws_szChain x = G_laws_szChain NN x := by kernel_rfl
theorem k_laws_szChain : chkS Go.Proofs.Try.prog 15 sc_laws_szChain.er ms_laws_szChain 2 = true := by decide +kernel
theorem p_laws_szChain : PureSpec Go.Proofs.Try.prog 15 fn_laws_szChain.M ∧ chkFun Go.Proofs.Try.prog 15 = true :=
  pure_of_runS (T := [fn_laws_szSiteS]) (sc := sc_laws_szChain) (ms := ms_laws_szChain) (args := ag_laws_szChain) (res := rs_laws_szChain) (SOk.cons p_laws_szSiteS <| SOk.nil) follows_ok k_laws_szChain F_laws_szChain fun x y h => (n_laws_szChain FUEL x).trans (f_laws_szChain x y h)

def fn_laws_toIntS : SFn := ⟨27, ag_laws_toIntS, mu_laws_toIntS, rs_laws_toIntS, F_laws_toIntS⟩
def sc_laws_toIntS : SCode :=
 (.seq
 (.reg false [
 oX 2 (.mv (.k (.one (.nil iX))))])
 (.seq
 (.reg false [
 oX 5 (.mv (.t 0)),
 oX 6 (.len (.t 5)),
 oX 7 (.mkslice .froz iX 8 (0 : Int) (.t 6) (.t 6)),
 oX 3 (.mv (.t 7))])
 (.seq
 (.seq
 (.reg false [
 oX 4 (.mv (kX 0))])
 (.join ⟨[(3, .one (fX 500001 1))], [(500001, .row true .froz iX)]⟩ [500000, 500001] [(false, 3, 0, 500001, .froz, [])]
 (.block 0
 (.loop 0 ⟨[(0, .one (.c (.v (lX)))), (3, .one (fX 500000 1)), (4, sX)], [(500000, .row true .froz iX)]⟩ [7, 500000] [(false, 3, 0, 500000, .froz, [])]
 (.seq
 (.seq
 (.reg false [
 oX 8 (.mv (.t 4)),
 oX 9 (.mv (.t 0)),
 oX 10 (.len (.t 9)),
 oX 11 (.bin .lss (.t 8) (.t 10))])
 (.cond (.t 11)
 .skip
 (.exit 0)))
 (.seq
 (.block 1
 (.reg false [
 oX 14 (.mv (.t 3)),
 oX 15 (.mv (.t 4)),
 oX 16 (.mv (.t 0)),
 oX 17 (.mv (.t 4)),
 oX 18 (.idxA 1 (.t 16) (.t 17)),
 oX 19 (.load false 1 (.t 18)),
 oX 20 (.idxA 1 (.t 14) (.t 15)),
 uX (.store 1 (.t 20) (.t 19))]))
 (.reg false [
 oX 12 (.mv (.t 4)),
 oX 13 (.bin .add (.t 12) (kX 1)),
 oX 4 (.mv (.t 13))])))))))
 (.seq
 (.reg false [
 oX 21 (.mv (.t 3)),
 oX 2 (.mv (.t 21))])
 .ret))))
def ms_laws_toIntS : List MRes := [.tmp 2]
theorem n_laws_toIntS (NN : Nat) (x : DLL (Sig.tys ag_laws_toIntS)) : runS NN [] sc_laws_toIntS ms_laws_toIntS ag_laws_toIntS rs_laws_toIntS x = G_laws_toIntS NN x := by kernel_rfl
theorem k_laws_toIntS : chkS Go.Proofs.Try.prog 27 sc_laws_toIntS.er ms_laws_toIntS 1 = true := by decide +kernel
theorem p_laws_toIntS : PureSpec Go.Proofs.Try.prog 27 fn_laws_toIntS.M ∧ chkFun Go.Proofs.Try.prog 27 = true :=
  pure_of_runS (T := []) (sc := sc_laws_toIntS) (ms := ms_laws_toIntS) (args := ag_laws_toIntS) (res := rs_laws_toIntS) (SOk.nil) follows_ok k_laws_toIntS F_laws_toIntS fun x y h => (n_laws_toIntS FUEL x).trans (f_laws_toIntS x y h)

def fn_laws_toSite : SFn := ⟨126, ag_laws_toSite, mu_laws_toSite, rs_laws_toSite, F_laws_toSite⟩
def sc_laws_toSite : SCode :=
 (.seq
 (.reg false [
 oX 1 (.box 4 (.t 0)),
 oX 2 (.alloc [zX, zX, zX, .nil iX])])
 (.seq
 (.reg false [
 oX 3 (.alloc [zX, zX, zX, .nil iX])])
 (.seq
 (.reg false [
 oX 4 (.fieldA 0 (.t 1)),
 oX 5 (.load false 1 (.t 4)),
 oX 6 (.fieldA 0 (.t 3)),
 uX (.store 1 (.t 6) (.t 5))])
 (.seq
 (.reg false [
 oX 7 (.fieldA 1 (.t 1)),
 oX 8 (.load false 1 (.t 7)),
 oX 9 (.fieldA 1 (.t 3)),
 uX (.store 1 (.t 9) (.t 8))])
 (.seq
 (.reg false [
 oX 10 (.fieldA 2 (.t 1)),
 oX 11 (.load false 1 (.t 10)),
 oX 12 (.fieldA 2 (.t 3)),
 uX (.store 1 (.t 12) (.t 11))])
 (.seq
 (.reg false [
 oX 13 (.fieldA 3 (.t 1)),
 oX 14 (.load false 1 (.t 13)),
 oX 15 (.call .froz 27 [(.t 14)]),
 oX 16 (.fieldA 3 (.t 3)),
 uX (.store 1 (.t 16) (.t 15))])
 (.seq
 (.reg false [
 oX 17 (.load true 4 (.t 3)),
 uX (.store 4 (.t 2) (.t 17))])
 .ret)))))))
def ms_laws_toSite : List MRes := [.cell 2 4 true]
theorem n_laws_toSite (NN : Nat) (x : DLL (Sig.tys ag_laws_toSite)) : runS NN [fn_laws_toIntS] sc_laws_toSite ms_laws_toSite ag_laws_toSite rs_laws_toSite x = G_laws_toSite NN x := by kernel_rfl
theorem k_laws_toSite : chkS Go.Proofs.Try.prog 126 sc_laws_toSite.er ms_laws_toSite 1 = true := by decide +kernel
theorem p_laws_toSite : PureSpec Go.Proofs.Try.prog 126 fn_laws_toSite.M ∧ chkFun Go.Proofs.Try.prog 126 = true :=
  pure_of_runS (T := [fn_laws_toIntS]) (sc := sc_laws_toSite) (ms := ms_laws_toSite) (args := ag_laws_toSite) (res := rs_laws_toSite) (SOk.cons p_laws_toIntS <| SOk.nil) follows_ok k_laws_toSite F_laws_toSite fun x y h => (n_laws_toSite FUEL x).trans (f_laws_toSite x y h)

def fn_laws_toSiteS : SFn := ⟨67, ag_laws_toSiteS, mu_laws_toSiteS, rs_laws_toSiteS, F_laws_toSiteS⟩
def sc_laws_toSiteS : SCode :=
 (.seq
 (.reg false [
 oX 2 (.mv (.k (.one (.nil gX))))])
 (.seq
 (.reg false [
 oX 5 (.mv (.t 0)),
 oX 6 (.len (.t 5)),
 oX 7 (.mkslice .froz gX 48 ((0 : Int), ((0 : Int), ((0 : Int), []))) (.t 6) (.t 6)),
 oX 3 (.mv (.t 7))])
 (.seq
 (.seq
 (.reg false [
 oX 4 (.mv (kX 0))])
 (.join ⟨[(3, .one (fX 500001 4))], [(500001, .row true .froz gX)]⟩ [500000, 500001] [(false, 3, 0, 500001, .froz, [])]
 (.block 0
 (.loop 0 ⟨[(0, .one (.c (.v (.list gX)))), (3, .one (fX 500000 4)), (4, sX)], [(500000, .row true .froz gX)]⟩ [7, 500000] [(false, 3, 0, 500000, .froz, [])]
 (.seq
 (.seq
 (.reg false [
 oX 8 (.mv (.t 4)),
 oX 9 (.mv (.t 0)),
 oX 10 (.len (.t 9)),
 oX 11 (.bin .lss (.t 8) (.t 10))])
 (.cond (.t 11)
 .skip
 (.exit 0)))
 (.seq
 (.block 1
 (.reg false [
 oX 14 (.mv (.t 3)),
 oX 15 (.mv (.t 4)),
 oX 16 (.mv (.t 0)),
 oX 17 (.mv (.t 4)),
 oX 18 (.idxA 4 (.t 16) (.t 17)),
 oX 19 (.load true 4 (.t 18)),
 oX 20 (.call .froz 126 [(.t 19)]),
 oX 21 (.idxA 4 (.t 14) (.t 15)),
 uX (.store 4 (.t 21) (.t 20))]))
 (.reg false [
 oX 12 (.mv (.t 4)),
 oX 13 (.bin .add (.t 12) (kX 1)),
 oX 4 (.mv (.t 13))])))))))
 (.seq
 (.reg false [
 oX 22 (.mv (.t 3)),
 oX 2 (.mv (.t 22))])
 .ret))))
def ms_laws_toSiteS : List MRes := [.tmp 2]
theorem n_laws_toSiteS (NN : Nat) (x : DLL (Sig.tys ag_laws_toSiteS)) : runS NN [fn_laws_toSite] sc_laws_toSiteS ms_laws_toSiteS ag_laws_toSiteS rs_laws_toSiteS x = G_laws_toSiteS NN x := by kernel_rfl
theorem k_laws_toSiteS : chkS Go.Proofs.Try.prog 67 sc_laws_toSiteS.er ms_laws_toSiteS 1 = true := by decide +kernel
theorem p_laws_toSiteS : PureSpec Go.Proofs.Try.prog 67 fn_laws_toSiteS.M ∧ chkFun Go.Proofs.Try.prog 67 = true :=
  pure_of_runS (T := [fn_laws_toSite]) (sc := sc_laws_toSiteS) (ms := ms_laws_toSiteS) (args := ag_laws_toSiteS) (res := rs_laws_toSiteS) (SOk.cons p_laws_toSite <| SOk.nil) follows_ok k_laws_toSiteS F_laws_toSiteS fun x y h => (n_laws_toSiteS FUEL x).trans (f_laws_toSiteS x y h)

def fn_laws_toChain : SFn := ⟨17, ag_laws_toChain, mu_laws_toChain, rs_laws_toChain, F_laws_toChain⟩
def sc_laws_toChain : SCode :=
 (.seq
 (.reg false [
 oX 1 (.box 2 (.t 0)),
 oX 2 (.alloc [zX, .nil gX])])
 (.seq
 (.reg false [
 oX 3 (.alloc [zX, .nil gX])])
 (.seq
 (.reg false [
 oX 4 (.fieldA 0 (.t 1)),
 oX 5 (.load false 1 (.t 4)),
 oX 6 (.fieldA 0 (.t 3)),
 uX (.store 1 (.t 6) (.t 5))])
 (.seq
 (.reg false [
 oX 7 (.fieldA 1 (.t 1)),
 oX 8 (.load false 1 (.t 7)),
 oX 9 (.call .froz 67 [(.t 8)]),
 oX 10 (.fieldA 1 (.t 3)),
 uX (.store 1 (.t 10) (.t 9))])
 (.seq
 (.reg false [
 oX 11 (.load true 2 (.t 3)),
 uX (.store 2 (.t 2) (.t 11))])
 .ret)))))
def ms_laws_toChain : List MRes := [.cell 2 2 true]
theorem n_laws_toChain (NN : Nat) (x : DLL (Sig.tys ag_laws_toChain)) : runS NN [fn_laws_toSiteS] sc_laws_toChain ms_laws_toChain ag_laws_toChain rs_laws_toChain x = G_laws_toChain NN x := by kernel_rfl
theorem k_laws_toChain : chkS Go.Proofs.Try.prog 17 sc_laws_toChain.er ms_laws_toChain 1 = true := by decide +kernel
theorem p_laws_toChain : PureSpec Go.Proofs.Try.prog 17 fn_laws_toChain.M ∧ chkFun Go.Proofs.Try.prog 17 = true :=
  pure_of_runS (T := [fn_laws_toSiteS]) (sc := sc_laws_toChain) (ms := ms_laws_toChain) (args := ag_laws_toChain) (res := rs_laws_toChain) (SOk.cons p_laws_toSiteS <| SOk.nil) follows_ok k_laws_toChain F_laws_toChain fun x y h => (n_laws_toChain FUEL x).trans (f_laws_toChain x y h)

def fn_spec_l01In : SFn := ⟨64, ag_spec_l01In, mu_spec_l01In, rs_spec_l01In, F_spec_l01In⟩
def sc_spec_l01In : SCode :=
 (.seq
 (.reg false [
 oX 6 (.mv (.k (.one (.v (.bool) (false)))))])
 (.seq
 (.reg false [
 oX 7 (.mv (.t 0)),
 oX 8 (.mv (.t 1)),
 oX 9 (.bin .geq (.t 7) (.t 8)),
 oX 10 (.mv (.t 9)),
 ⟨(some 11), .mv (.t 0), (some (10, true))⟩,
 ⟨(some 12), .mv (.t 2), (some (10, true))⟩,
 ⟨(some 13), .bin .leq (.t 11) (.t 12), (some (10, true))⟩,
 oX 14 (.pick (.t 10) (.t 13) (.k (.one (.v (.bool) (false))))),
 oX 6 (.mv (.t 14))])
 .ret))
def ms_spec_l01In : List MRes := [.tmp 6]
theorem n_spec_l01In (NN : Nat) (x : DLL (Sig.tys ag_spec_l01In)) : runS NN [] sc_spec_l01In ms_spec_l01In ag_spec_l01In rs_spec_l01In x = G_spec_l01In NN x := by kernel_rfl
theorem k_spec_l01In : chkS Go.Proofs.Try.prog 64 sc_spec_l01In.er ms_spec_l01In 3 = true := by decide +kernel
theorem p_spec_l01In : PureSpec Go.Proofs.Try.prog 64 fn_spec_l01In.M ∧ chkFun Go.Proofs.Try.prog 64 = true :=
  pure_of_runS (T := []) (sc := sc_spec_l01In) (ms := ms_spec_l01In) (args := ag_spec_l01In) (res := rs_spec_l01In) (SOk.nil) follows_ok k_spec_l01In F_spec_l01In fun x y h => (n_spec_l01In FUEL x).trans (f_spec_l01In x y h)

def fn_spec_IsPrime : SFn := ⟨63, ag_spec_IsPrime, mu_spec_IsPrime, rs_spec_IsPrime, F_spec_IsPrime⟩
def sc_spec_IsPrime : SCode :=
 (.seq
 (.reg false [
 oX 2 (.mv (.k (.one (.v (.bool) (false)))))])
 (.seq
 (.seq
 (.reg false [
 oX 3 (.mv (kX 2))])
 (.join ⟨[(0, sX)], []⟩ [] []
 (.block 0
 (.loop 0 ⟨[(0, sX), (3, sX)], []⟩ [] []
 (.seq
 (.seq
 (.reg false [
 oX 4 (.mv (.t 3)),
 oX 5 (.mv (.t 3)),
 oX 6 (.bin .mul (.t 4) (.t 5)),
 oX 7 (.mv (.t 0)),
 oX 8 (.bin .leq (.t 6) (.t 7)),
 oX 9 (.mv (.t 8)),
 ⟨(some 10), .mv (.t 0), (some (9, true))⟩,
 ⟨(some 11), .bin .leq (.t 10) (kX 1000003), (some (9, true))⟩,
 oX 12 (.pick (.t 9) (.t 11) (.k (.one (.v (.bool) (false)))))])
 (.cond (.t 12)
 .skip
 (.exit 0)))
 (.seq
 (.block 1
 (.seq
 (.reg false [
 oX 15 (.mv (.t 0)),
 oX 16 (.mv (.t 3)),
 oX 17 (.bin .rem (.t 15) (.t 16)),
 oX 18 (.bin .eql (.t 17) (kX 0))])
 (.cond (.t 18)
 (.seq
 (.reg false [
 oX 2 (.mv (.k (.one (.v (.bool) (false)))))])
 .ret)
 .skip)))
 (.reg false [
 oX 13 (.mv (.t 3)),
 oX 14 (.bin .add (.t 13) (kX 1)),
 oX 3 (.mv (.t 14))])))))))
 (.seq
 (.reg false [
 oX 19 (.mv (.t 0)),
 oX 20 (.call .froz 64 [(.t 19), (kX 2), (kX 1000003)]),
 oX 2 (.mv (.t 20))])
 .ret)))
def ms_spec_IsPrime : List MRes := [.tmp 2]
theorem n_spec_IsPrime (NN : Nat) (x : DLL (Sig.tys ag_spec_IsPrime)) : runS NN [fn_spec_l01In] sc_spec_IsPrime ms_spec_IsPrime ag_spec_IsPrime rs_spec_IsPrime x = G_spec_IsPrime NN x := by kernel_rfl
theorem k_spec_IsPrime : chkS Go.Proofs.Try.prog 63 sc_spec_IsPrime.er ms_spec_IsPrime 1 = true := by decide +kernel
theorem p_spec_IsPrime : PureSpec Go.Proofs.Try.prog 63 fn_spec_IsPrime.M ∧ chkFun Go.Proofs.Try.prog 63 = true :=
  pure_of_runS (T := [fn_spec_l01In]) (sc := sc_spec_IsPrime) (ms := ms_spec_IsPrime) (args := ag_spec_IsPrime) (res := rs_spec_IsPrime) (SOk.cons p_spec_l01In <| SOk.nil) follows_ok k_spec_IsPrime F_spec_IsPrime fun x y h => (n_spec_IsPrime FUEL x).trans (f_spec_IsPrime x y h)

def fn_spec_l32Dims : SFn := ⟨66, ag_spec_l32Dims, mu_spec_l32Dims, rs_spec_l32Dims, F_spec_l32Dims⟩
def sc_spec_l32Dims : SCode :=
 (.seq
 (.reg false [
 oX 1 (.box 2 (.t 0)),
 oX 2 (.mv (.k (.one (.nil iX))))])
 (.seq
 (.reg false [
 oX 6 (.bslice iX []),
 oX 3 (.mv (.t 6))])
 (.seq
 (.seq
 (.reg false [
 oX 7 (.fieldA 1 (.t 1)),
 oX 8 (.load false 1 (.t 7)),
 oX 9 (.len (.t 8)),
 oX 10 (.mv (kX 0))])
 (.join ⟨[(3, .one (fX 500001 1))], [(500001, .row true .froz iX)]⟩ [500000, 500001] [(false, 3, 0, 500001, .froz, [])]
 (.block 0
 (.loop 0 ⟨[(3, .one (fX 500000 1)), (8, .one (.c (.v (.list gX)))), (9, sX), (10, sX)], [(500000, .row true .froz iX)]⟩ [1, 6, 5, 17, 18, 500000] [(false, 3, 0, 500000, .froz, [])]
 (.seq
 (.reg false [
 oX 11 (.bin .lss (.t 10) (.t 9))])
 (.seq
 (.cond (.t 11)
 .skip
 (.exit 0))
 (.seq
 (.block 1
 (.seq
 (.reg false [
 oX 12 (.idxA 4 (.t 8) (.t 10)),
 oX 13 (.load true 4 (.t 12)),
 oX 5 (.alloc [zX, zX, zX, .nil iX]),
 uX (.store 4 (.t 5) (.t 13))])
 (.reg false [
 oX 14 (.mv (.t 3)),
 oX 15 (.fieldA 1 (.t 5)),
 oX 16 (.load false 1 (.t 15)),
 oX 17 (.bslice iX [(.t 16)]),
 oX 18 (.append true iX 8 (.t 14) (.t 17)),
 oX 3 (.mv (.t 18))])))
 (.reg false [
 oX 19 (.bin .add (.t 10) (kX 1)),
 oX 10 (.mv (.t 19))]))))))))
 (.seq
 (.reg false [
 oX 20 (.mv (.t 3)),
 oX 2 (.mv (.t 20))])
 .ret))))
def ms_spec_l32Dims : List MRes := [.tmp 2]
theorem n_spec_l32Dims (NN : Nat) (x : DLL (Sig.tys ag_spec_l32Dims)) : runS NN [] sc_spec_l32Dims ms_spec_l32Dims ag_spec_l32Dims rs_spec_l32Dims x = G_spec_l32Dims NN x := by kernel_rfl
theorem k_spec_l32Dims : chkS Go.Proofs.Try.prog 66 sc_spec_l32Dims.er ms_spec_l32Dims 1 = true := by decide +kernel
theorem p_spec_l32Dims : PureSpec Go.Proofs.Try.prog 66 fn_spec_l32Dims.M ∧ chkFun Go.Proofs.Try.prog 66 = true :=
  pure_of_runS (T := []) (sc := sc_spec_l32Dims) (ms := ms_spec_l32Dims) (args := ag_spec_l32Dims) (res := rs_spec_l32Dims) (SOk.nil) follows_ok k_spec_l32Dims F_spec_l32Dims fun x y h => (n_spec_l32Dims FUEL x).trans (f_spec_l32Dims x y h)

def fn_spec_l05Product : SFn := ⟨65, ag_spec_l05Product, mu_spec_l05Product, rs_spec_l05Product, F_spec_l05Product⟩
def sc_spec_l05Product : SCode :=
 (.seq
 (.reg false [
 oX 4 (.mv (kX 0))])
 (.seq
 (.reg false [
 oX 5 (.mv (kX 1))])
 (.seq
 (.seq
 (.reg false [
 oX 8 (.mv (.t 0)),
 oX 9 (.len (.t 8)),
 oX 10 (.mv (kX 0))])
 (.join ⟨[(5, sX)], []⟩ [] []
 (.block 0
 (.loop 0 ⟨[(1, sX), (5, sX), (8, .one (.c (.v (lX)))), (9, sX), (10, sX)], []⟩ [] []
 (.seq
 (.reg false [
 oX 11 (.bin .lss (.t 10) (.t 9))])
 (.seq
 (.cond (.t 11)
 .skip
 (.exit 0))
 (.seq
 (.block 1
 (.seq
 (.reg false [
 oX 12 (.idxA 1 (.t 8) (.t 10)),
 oX 13 (.load false 1 (.t 12)),
 oX 7 (.mv (.t 13))])
 (.reg false [
 oX 14 (.mv (.t 5)),
 oX 15 (.mv (.t 7)),
 oX 16 (.bin .mul (.t 14) (.t 15)),
 oX 17 (.mv (.t 1)),
 oX 18 (.bin .add (.t 17) (kX 1)),
 oX 19 (.mm false (.t 16) (.t 18)),
 oX 5 (.mv (.t 19))])))
 (.reg false [
 oX 20 (.bin .add (.t 10) (kX 1)),
 oX 10 (.mv (.t 20))]))))))))
 (.seq
 (.reg false [
 oX 21 (.mv (.t 5)),
 oX 4 (.mv (.t 21))])
 .ret))))
def ms_spec_l05Product : List MRes := [.tmp 4]
theorem n_spec_l05Product (NN : Nat) (x : DLL (Sig.tys ag_spec_l05Product)) : runS NN [] sc_spec_l05Product ms_spec_l05Product ag_spec_l05Product rs_spec_l05Product x = G_spec_l05Product NN x := by kernel_rfl
theorem k_spec_l05Product : chkS Go.Proofs.Try.prog 65 sc_spec_l05Product.er ms_spec_l05Product 2 = true := by decide +kernel
theorem p_spec_l05Product : PureSpec Go.Proofs.Try.prog 65 fn_spec_l05Product.M ∧ chkFun Go.Proofs.Try.prog 65 = true :=
  pure_of_runS (T := []) (sc := sc_spec_l05Product) (ms := ms_spec_l05Product) (args := ag_spec_l05Product) (res := rs_spec_l05Product) (SOk.nil) follows_ok k_spec_l05Product F_spec_l05Product fun x y h => (n_spec_l05Product FUEL x).trans (f_spec_l05Product x y h)

def fn_spec_ChainOk : SFn := ⟨16, ag_spec_ChainOk, mu_spec_ChainOk, rs_spec_ChainOk, F_spec_ChainOk⟩
def sc_spec_ChainOk : SCode :=
 (.seq
 (.reg false [
 oX 1 (.box 2 (.t 0)),
 oX 2 (.mv (.k (.one (.v (.bool) (false)))))])
 (.seq
 (.seq
 (.reg false [
 oX 8 (.fieldA 0 (.t 1)),
 oX 9 (.load false 1 (.t 8)),
 oX 10 (.call .froz 63 [(.t 9)]),
 oX 11 (.un .not (.t 10)),
 oX 12 (.mv (.t 11)),
 ⟨(some 13), .fieldA 1 (.t 1), (some (12, false))⟩,
 ⟨(some 14), .load false 1 (.t 13), (some (12, false))⟩,
 ⟨(some 15), .len (.t 14), (some (12, false))⟩,
 ⟨(some 16), .call .froz 64 [(.t 15), (kX 1), (kX 8)], (some (12, false))⟩,
 ⟨(some 17), .un .not (.t 16), (some (12, false))⟩,
 oX 18 (.pick (.t 12) (.k (.one (.v (.bool) (true)))) (.t 17))])
 (.cond (.t 18)
 (.seq
 (.reg false [
 oX 2 (.mv (.k (.one (.v (.bool) (false)))))])
 .ret)
 .skip))
 (.seq
 (.reg false [
 oX 3 (.mv (kX 1))])
 (.seq
 (.seq
 (.reg false [
 oX 19 (.fieldA 1 (.t 1)),
 oX 20 (.load false 1 (.t 19)),
 oX 21 (.len (.t 20)),
 oX 22 (.mv (kX 0))])
 (.join ⟨[(3, sX), (1, .one (rX 1))], [(1, .box [vX, .c (.v (.list gX))])]⟩ [1] []
 (.block 0
 (.loop 0 ⟨[(1, .one (rX 1)), (3, sX), (20, .one (.c (.v (.list gX)))), (21, sX), (22, sX)], [(1, .box [vX, .c (.v (.list gX))])]⟩ [1] []
 (.seq
 (.reg false [
 oX 23 (.bin .lss (.t 22) (.t 21))])
 (.seq
 (.cond (.t 23)
 .skip
 (.exit 0))
 (.seq
 (.join ⟨[(22, sX), (1, .one (rX 1)), (3, sX), (20, .one (.c (.v (.list gX)))), (21, sX)], [(1, .box [vX, .c (.v (.list gX))])]⟩ [1, 5] []
 (.block 1
 (.seq
 (.reg false [
 oX 24 (.idxA 4 (.t 20) (.t 22)),
 oX 25 (.load true 4 (.t 24)),
 oX 5 (.alloc [zX, zX, zX, .nil iX]),
 uX (.store 4 (.t 5) (.t 25))])
 (.seq
 (.seq
 (.reg false [
 oX 26 (.fieldA 0 (.t 5)),
 oX 27 (.load false 1 (.t 26)),
 oX 28 (.mv (.t 3)),
 oX 29 (.bin .neq (.t 27) (.t 28)),
 oX 30 (.mv (.t 29)),
 ⟨(some 31), .fieldA 1 (.t 5), (some (30, false))⟩,
 ⟨(some 32), .load false 1 (.t 31), (some (30, false))⟩,
 ⟨(some 33), .call .froz 64 [(.t 32), (kX 1), (kX 8)], (some (30, false))⟩,
 ⟨(some 34), .un .not (.t 33), (some (30, false))⟩,
 oX 35 (.pick (.t 30) (.k (.one (.v (.bool) (true)))) (.t 34)),
 oX 36 (.mv (.t 35)),
 ⟨(some 37), .fieldA 2 (.t 5), (some (36, false))⟩,
 ⟨(some 38), .load false 1 (.t 37), (some (36, false))⟩,
 ⟨(some 39), .call .froz 64 [(.t 38), (kX 0), (kX 32)], (some (36, false))⟩,
 ⟨(some 40), .un .not (.t 39), (some (36, false))⟩,
 oX 41 (.pick (.t 36) (.k (.one (.v (.bool) (true)))) (.t 40)),
 oX 42 (.mv (.t 41)),
 ⟨(some 43), .fieldA 3 (.t 5), (some (42, false))⟩,
 ⟨(some 44), .load false 1 (.t 43), (some (42, false))⟩,
 ⟨(some 45), .len (.t 44), (some (42, false))⟩,
 ⟨(some 46), .fieldA 0 (.t 5), (some (42, false))⟩,
 ⟨(some 47), .load false 1 (.t 46), (some (42, false))⟩,
 ⟨(some 48), .fieldA 1 (.t 5), (some (42, false))⟩,
 ⟨(some 49), .load false 1 (.t 48), (some (42, false))⟩,
 ⟨(some 50), .bin .mul (.t 47) (.t 49), (some (42, false))⟩,
 ⟨(some 51), .fieldA 2 (.t 5), (some (42, false))⟩,
 ⟨(some 52), .load false 1 (.t 51), (some (42, false))⟩,
 ⟨(some 53), .bin .mul (.t 50) (.t 52), (some (42, false))⟩,
 ⟨(some 54), .bin .neq (.t 45) (.t 53), (some (42, false))⟩,
 oX 55 (.pick (.t 42) (.k (.one (.v (.bool) (true)))) (.t 54))])
 (.cond (.t 55)
 (.seq
 (.reg false [
 oX 2 (.mv (.k (.one (.v (.bool) (false)))))])
 .ret)
 .skip))
 (.seq
 (.seq
 (.reg false [
 oX 56 (.fieldA 3 (.t 5)),
 oX 57 (.load false 1 (.t 56)),
 oX 58 (.len (.t 57)),
 oX 59 (.mv (kX 0))])
 (.join ⟨[(5, .one (rX 5)), (22, sX), (1, .one (rX 1)), (20, .one (.c (.v (.list gX)))), (21, sX)], [(1, .box [vX, .c (.v (.list gX))]), (5, .box [vX, vX, vX, .c (.v (lX))])]⟩ [1, 5] []
 (.block 2
 (.loop 0 ⟨[(1, .one (rX 1)), (5, .one (rX 5)), (20, .one (.c (.v (.list gX)))), (21, sX), (22, sX), (57, .one (.c (.v (lX)))), (58, sX), (59, sX)], [(1, .box [vX, .c (.v (.list gX))]), (5, .box [vX, vX, vX, .c (.v (lX))])]⟩ [1, 5] []
 (.seq
 (.reg false [
 oX 60 (.bin .lss (.t 59) (.t 58))])
 (.seq
 (.cond (.t 60)
 .skip
 (.exit 2))
 (.seq
 (.block 3
 (.seq
 (.reg false [
 oX 61 (.idxA 1 (.t 57) (.t 59)),
 oX 62 (.load false 1 (.t 61)),
 oX 7 (.mv (.t 62))])
 (.seq
 (.reg false [
 oX 63 (.mv (.t 7)),
 oX 64 (.fieldA 0 (.t 1)),
 oX 65 (.load false 1 (.t 64)),
 oX 66 (.bin .sub (.t 65) (kX 1)),
 oX 67 (.call .froz 64 [(.t 63), (kX 0), (.t 66)]),
 oX 68 (.un .not (.t 67))])
 (.cond (.t 68)
 (.seq
 (.reg false [
 oX 2 (.mv (.k (.one (.v (.bool) (false)))))])
 .ret)
 .skip))))
 (.reg false [
 oX 69 (.bin .add (.t 59) (kX 1)),
 oX 59 (.mv (.t 69))]))))))))
 (.reg false [
 oX 70 (.fieldA 2 (.t 5)),
 oX 71 (.load false 1 (.t 70)),
 oX 3 (.mv (.t 71))]))))))
 (.reg false [
 oX 72 (.bin .add (.t 22) (kX 1)),
 oX 22 (.mv (.t 72))]))))))))
 (.seq
 (.reg false [
 oX 73 (.mv (.t 3)),
 oX 74 (.bin .eql (.t 73) (kX 1)),
 oX 75 (.mv (.t 74)),
 ⟨(some 76), .load true 2 (.t 1), (some (75, true))⟩,
 ⟨(some 77), .call .froz 66 [(.t 76)], (some (75, true))⟩,
 ⟨(some 78), .call .froz 65 [(.t 77), (kX 4096)], (some (75, true))⟩,
 ⟨(some 79), .bin .leq (.t 78) (kX 4096), (some (75, true))⟩,
 oX 80 (.pick (.t 75) (.t 79) (.k (.one (.v (.bool) (false))))),
 oX 2 (.mv (.t 80))])
 .ret)))))
def ms_spec_ChainOk : List MRes := [.tmp 2]
theorem n_spec_ChainOk (NN : Nat) (x : DLL (Sig.tys ag_spec_ChainOk)) : runS NN [fn_spec_IsPrime, fn_spec_l01In, fn_spec_l32Dims, fn_spec_l05Product] sc_spec_ChainOk ms_spec_ChainOk ag_spec_ChainOk rs_spec_ChainOk x = G_spec_ChainOk NN x := by kernel_rfl
theorem k_spec_ChainOk : chkS Go.Proofs.Try.prog 16 sc_spec_ChainOk.er ms_spec_ChainOk 1 = true := by decide +kernel
theorem p_spec_ChainOk : PureSpec Go.Proofs.Try.prog 16 fn_spec_ChainOk.M ∧ chkFun Go.Proofs.Try.prog 16 = true :=
  pure_of_runS (T := [fn_spec_IsPrime, fn_spec_l01In, fn_spec_l32Dims, fn_spec_l05Product]) (sc := sc_spec_ChainOk) (ms := ms_spec_ChainOk) (args := ag_spec_ChainOk) (res := rs_spec_ChainOk) (SOk.cons p_spec_IsPrime <| SOk.cons p_spec_l01In <| SOk.cons p_spec_l32Dims <| SOk.cons p_spec_l05Product <| SOk.nil) follows_ok k_spec_ChainOk F_spec_ChainOk fun x y h => (n_spec_ChainOk FUEL x).trans (f_spec_ChainOk x y h)

def fn_spec_l05Ints : SFn := ⟨122, ag_spec_l05Ints, mu_spec_l05Ints, rs_spec_l05Ints, F_spec_l05Ints⟩
def sc_spec_l05Ints : SCode :=
 (.seq
 (.reg false [
 oX 2 (.mv (.k (.one (.nil iX))))])
 (.seq
 (.reg false [
 oX 3 (.bslice iX []),
 oX 4 (.mv (.t 0)),
 oX 5 (.append true iX 8 (.t 3) (.t 4)),
 oX 2 (.mv (.t 5))])
 .ret))
def ms_spec_l05Ints : List MRes := [.tmp 2]
theorem n_spec_l05Ints (NN : Nat) (x : DLL (Sig.tys ag_spec_l05Ints)) : runS NN [] sc_spec_l05Ints ms_spec_l05Ints ag_spec_l05Ints rs_spec_l05Ints x = G_spec_l05Ints NN x := by kernel_rfl
theorem k_spec_l05Ints : chkS Go.Proofs.Try.prog 122 sc_spec_l05Ints.er ms_spec_l05Ints 1 = true := by decide +kernel
theorem p_spec_l05Ints : PureSpec Go.Proofs.Try.prog 122 fn_spec_l05Ints.M ∧ chkFun Go.Proofs.Try.prog 122 = true :=
  pure_of_runS (T := []) (sc := sc_spec_l05Ints) (ms := ms_spec_l05Ints) (args := ag_spec_l05Ints) (res := rs_spec_l05Ints) (SOk.nil) follows_ok k_spec_l05Ints F_spec_l05Ints fun x y h => (n_spec_l05Ints FUEL x).trans (f_spec_l05Ints x y h)

def fn_spec_l32Copy : SFn := ⟨92, ag_spec_l32Copy, mu_spec_l32Copy, rs_spec_l32Copy, F_spec_l32Copy⟩
def sc_spec_l32Copy : SCode :=
 (.seq
 (.reg false [
 oX 1 (.box 2 (.t 0)),
 oX 2 (.alloc [zX, .nil gX])])
 (.seq
 (.reg false [
 oX 6 (.fieldA 0 (.t 1)),
 oX 7 (.load false 1 (.t 6)),
 oX 8 (.build [zX, .nil gX] [(0, 1, (.t 7))]),
 oX 3 (.alloc [zX, .nil gX]),
 uX (.store 2 (.t 3) (.t 8))])
 (.seq
 (.seq
 (.reg false [
 oX 9 (.fieldA 1 (.t 1)),
 oX 10 (.load false 1 (.t 9)),
 oX 11 (.len (.t 10)),
 oX 12 (.mv (kX 0))])
 (.join ⟨[(3, .one (rX 3)), (2, .one (rX 2))], [(2, .box [vX, fX 500002 4]), (3, .box [vX, fX 500003 4]), (500002, .row true .froz gX), (500003, .row true .froz gX)]⟩ [2, 3, 500000, 500001, 500002, 500003] [(true, 2, 1, 500002, .froz, []), (true, 3, 1, 500003, .froz, [])]
 (.block 0
 (.loop 0 ⟨[(2, .one (rX 2)), (3, .one (rX 3)), (10, .one (.c (.v (.list gX)))), (11, sX), (12, sX)], [(2, .box [vX, fX 500000 4]), (3, .box [vX, fX 500001 4]), (500000, .row true .froz gX), (500001, .row true .froz gX)]⟩ [1, 2, 3, 5, 29, 500000, 500001] [(true, 2, 1, 500000, .froz, []), (true, 3, 1, 500001, .froz, [])]
 (.seq
 (.reg false [
 oX 13 (.bin .lss (.t 12) (.t 11))])
 (.seq
 (.cond (.t 13)
 .skip
 (.exit 0))
 (.seq
 (.block 1
 (.seq
 (.reg false [
 oX 14 (.idxA 4 (.t 10) (.t 12)),
 oX 15 (.load true 4 (.t 14)),
 oX 5 (.alloc [zX, zX, zX, .nil iX]),
 uX (.store 4 (.t 5) (.t 15))])
 (.regD [(0, 12), (1, 12)] [
 oX 16 (.fieldA 1 (.t 3)),
 oX 17 (.load false 1 (.t 16)),
 oX 18 (.fieldA 0 (.t 5)),
 oX 19 (.load false 1 (.t 18)),
 oX 20 (.fieldA 1 (.t 5)),
 oX 21 (.load false 1 (.t 20)),
 oX 22 (.fieldA 2 (.t 5)),
 oX 23 (.load false 1 (.t 22)),
 oX 24 (.fieldA 3 (.t 5)),
 oX 25 (.load false 1 (.t 24)),
 oX 26 (.call .froz 122 [(.t 25)]),
 oX 27 (.build [zX, zX, zX, .nil iX] [(0, 1, (.t 19)), (1, 1, (.t 21)), (2, 1, (.t 23)), (3, 1, (.t 26))]),
 oX 28 (.bslice gX [(.t 27)]),
 oX 29 (.append false gX 48 (.t 17) (.t 28)),
 oX 30 (.fieldA 1 (.t 3)),
 uX (.store 1 (.t 30) (.t 29))])))
 (.reg false [
 oX 31 (.bin .add (.t 12) (kX 1)),
 oX 12 (.mv (.t 31))]))))))))
 (.seq
 (.reg false [
 oX 32 (.load true 2 (.t 3)),
 uX (.store 2 (.t 2) (.t 32))])
 .ret))))
def ms_spec_l32Copy : List MRes := [.cell 2 2 true]
theorem n_spec_l32Copy (NN : Nat) (x : DLL (Sig.tys ag_spec_l32Copy)) : runS NN [fn_spec_l05Ints] sc_spec_l32Copy ms_spec_l32Copy ag_spec_l32Copy rs_spec_l32Copy x = G_spec_l32Copy NN x := by kernel_rfl
theorem k_spec_l32Copy : chkS Go.Proofs.Try.prog 92 sc_spec_l32Copy.er ms_spec_l32Copy 1 = true := by decide +kernel
theorem p_spec_l32Copy : PureSpec Go.Proofs.Try.prog 92 fn_spec_l32Copy.M ∧ chkFun Go.Proofs.Try.prog 92 = true :=
  pure_of_runS (T := [fn_spec_l05Ints]) (sc := sc_spec_l32Copy) (ms := ms_spec_l32Copy) (args := ag_spec_l32Copy) (res := rs_spec_l32Copy) (SOk.cons p_spec_l05Ints <| SOk.nil) follows_ok k_spec_l32Copy F_spec_l32Copy fun x y h => (n_spec_l32Copy FUEL x).trans (f_spec_l32Copy x y h)

def fn_spec_l31Pivot : SFn := ⟨154, ag_spec_l31Pivot, mu_spec_l31Pivot, rs_spec_l31Pivot, F_spec_l31Pivot⟩
def sc_spec_l31Pivot : SCode :=
 (.seq
 (.reg false [
 oX 3 (.box 3 (.t 0)),
 oX 6 (.mv (kX 0))])
 (.seq
 (.seq
 (.reg false [
 oX 8 (.mv (.t 1)),
 oX 7 (.mv (.t 8))])
 (.join ⟨[], []⟩ [3] []
 (.block 0
 (.loop 0 ⟨[(2, sX), (3, .one (rX 3)), (7, sX)], [(3, .box [vX, vX, .c (.v (lX))])]⟩ [3] []
 (.seq
 (.seq
 (.reg false [
 oX 9 (.mv (.t 7)),
 oX 10 (.fieldA 0 (.t 3)),
 oX 11 (.load false 1 (.t 10)),
 oX 12 (.bin .lss (.t 9) (.t 11))])
 (.cond (.t 12)
 .skip
 (.exit 0)))
 (.seq
 (.block 1
 (.seq
 (.reg false [
 oX 15 (.fieldA 2 (.t 3)),
 oX 16 (.load false 1 (.t 15)),
 oX 17 (.mv (.t 7)),
 oX 18 (.fieldA 1 (.t 3)),
 oX 19 (.load false 1 (.t 18)),
 oX 20 (.bin .mul (.t 17) (.t 19)),
 oX 21 (.mv (.t 2)),
 oX 22 (.bin .add (.t 20) (.t 21)),
 oX 23 (.idxA 1 (.t 16) (.t 22)),
 oX 24 (.load false 1 (.t 23)),
 oX 25 (.bin .neq (.t 24) (kX 0))])
 (.cond (.t 25)
 (.seq
 (.reg false [
 oX 26 (.mv (.t 7)),
 oX 6 (.mv (.t 26))])
 .ret)
 .skip)))
 (.reg false [
 oX 13 (.mv (.t 7)),
 oX 14 (.bin .add (.t 13) (kX 1)),
 oX 7 (.mv (.t 14))])))))))
 (.seq
 (.reg false [
 oX 6 (.mv (kX (-1)))])
 .ret)))
def ms_spec_l31Pivot : List MRes := [.tmp 6]
theorem n_spec_l31Pivot (NN : Nat) (x : DLL (Sig.tys ag_spec_l31Pivot)) : runS NN [] sc_spec_l31Pivot ms_spec_l31Pivot ag_spec_l31Pivot rs_spec_l31Pivot x = G_spec_l31Pivot NN x := by kernel_rfl
theorem k_spec_l31Pivot : chkS Go.Proofs.Try.prog 154 sc_spec_l31Pivot.er ms_spec_l31Pivot 3 = true := by decide +kernel
theorem p_spec_l31Pivot : PureSpec Go.Proofs.Try.prog 154 fn_spec_l31Pivot.M ∧ chkFun Go.Proofs.Try.prog 154 = true :=
  pure_of_runS (T := []) (sc := sc_spec_l31Pivot) (ms := ms_spec_l31Pivot) (args := ag_spec_l31Pivot) (res := rs_spec_l31Pivot) (SOk.nil) follows_ok k_spec_l31Pivot F_spec_l31Pivot fun x y h => (n_spec_l31Pivot FUEL x).trans (f_spec_l31Pivot x y h)

def fn_spec_l31Swap : SFn := ⟨155, ag_spec_l31Swap, mu_spec_l31Swap, rs_spec_l31Swap, F_spec_l31Swap⟩
def sc_spec_l31Swap : SCode :=
 (.seq
 (.reg false [
 oX 3 (.box 3 (.t 0))])
 (.seq
 (.reg false [
 oX 6 (.mv (kX 0))])
 (.block 0
 (.loop 0 ⟨[(1, sX), (2, sX), (3, .one (rX 3)), (6, sX)], [(1000000, .row false .froz iX), (3, .box [vX, vX, fX 1000000 1])]⟩ [1000000, 3, 500000] [(true, 3, 2, 500000, .froz, [])]
 (.seq
 (.seq
 (.reg false [
 oX 8 (.mv (.t 6)),
 oX 9 (.fieldA 1 (.t 3)),
 oX 10 (.load false 1 (.t 9)),
 oX 11 (.bin .lss (.t 8) (.t 10))])
 (.cond (.t 11)
 .skip
 (.exit 0)))
 (.seq
 (.block 1
 (.seq
 (.reg false [
 oX 14 (.fieldA 2 (.t 3)),
 oX 15 (.load false 1 (.t 14)),
 oX 16 (.mv (.t 1)),
 oX 17 (.fieldA 1 (.t 3)),
 oX 18 (.load false 1 (.t 17)),
 oX 19 (.bin .mul (.t 16) (.t 18)),
 oX 20 (.mv (.t 6)),
 oX 21 (.bin .add (.t 19) (.t 20)),
 oX 22 (.idxA 1 (.t 15) (.t 21)),
 oX 23 (.load false 1 (.t 22)),
 oX 7 (.mv (.t 23))])
 (.seq
 (.reg true [
 oX 24 (.fieldA 2 (.t 3)),
 oX 25 (.load false 1 (.t 24)),
 oX 26 (.mv (.t 1)),
 oX 27 (.fieldA 1 (.t 3)),
 oX 28 (.load false 1 (.t 27)),
 oX 29 (.bin .mul (.t 26) (.t 28)),
 oX 30 (.mv (.t 6)),
 oX 31 (.bin .add (.t 29) (.t 30)),
 oX 32 (.fieldA 2 (.t 3)),
 oX 33 (.load false 1 (.t 32)),
 oX 34 (.mv (.t 2)),
 oX 35 (.fieldA 1 (.t 3)),
 oX 36 (.load false 1 (.t 35)),
 oX 37 (.bin .mul (.t 34) (.t 36)),
 oX 38 (.mv (.t 6)),
 oX 39 (.bin .add (.t 37) (.t 38)),
 oX 40 (.idxA 1 (.t 33) (.t 39)),
 oX 41 (.load false 1 (.t 40)),
 oX 42 (.idxA 1 (.t 25) (.t 31)),
 uX (.store 1 (.t 42) (.t 41))])
 (.reg false [
 oX 43 (.fieldA 2 (.t 3)),
 oX 44 (.load false 1 (.t 43)),
 oX 45 (.mv (.t 2)),
 oX 46 (.fieldA 1 (.t 3)),
 oX 47 (.load false 1 (.t 46)),
 oX 48 (.bin .mul (.t 45) (.t 47)),
 oX 49 (.mv (.t 6)),
 oX 50 (.bin .add (.t 48) (.t 49)),
 oX 51 (.mv (.t 7)),
 oX 52 (.idxA 1 (.t 44) (.t 50)),
 uX (.store 1 (.t 52) (.t 51))]))))
 (.reg false [
 oX 12 (.mv (.t 6)),
 oX 13 (.bin .add (.t 12) (kX 1)),
 oX 6 (.mv (.t 13))])))))))
def ms_spec_l31Swap : List MRes := []
theorem n_spec_l31Swap (NN : Nat) (x : DLL (Sig.tys ag_spec_l31Swap)) : runMS NN [] sc_spec_l31Swap ms_spec_l31Swap ag_spec_l31Swap mu_spec_l31Swap rs_spec_l31Swap x = G_spec_l31Swap NN x := by kernel_rfl
theorem k_spec_l31Swap : chkS Go.Proofs.Try.prog 155 sc_spec_l31Swap.er ms_spec_l31Swap 3 = true := by decide +kernel
theorem p_spec_l31Swap : MutSpec Go.Proofs.Try.prog 155 mu_spec_l31Swap fn_spec_l31Swap.MM ∧ chkFun Go.Proofs.Try.prog 155 = true :=
  mut_of_runMS (T := []) (sc := sc_spec_l31Swap) (ms := ms_spec_l31Swap) (args := ag_spec_l31Swap) (mu := mu_spec_l31Swap) (res := rs_spec_l31Swap) (SOk.nil) follows_ok k_spec_l31Swap F_spec_l31Swap fun x y h => (n_spec_l31Swap FUEL x).trans (f_spec_l31Swap x y h)

def fn_spec_l31Inverse : SFn := ⟨156, ag_spec_l31Inverse, mu_spec_l31Inverse, rs_spec_l31Inverse, F_spec_l31Inverse⟩
def sc_spec_l31Inverse : SCode :=
 (.seq
 (.reg false [
 oX 4 (.mv (kX 0))])
 (.seq
 (.reg false [
 oX 5 (.mv (kX 1))])
 (.seq
 (.seq
 (.reg false [
 oX 7 (.mv (.t 0)),
 oX 8 (.bin .sub (.t 7) (kX 2)),
 oX 6 (.mv (.t 8))])
 (.join ⟨[(5, sX)], []⟩ [] []
 (.block 0
 (.loop 0 ⟨[(0, sX), (1, sX), (5, sX), (6, sX)], []⟩ [] []
 (.seq
 (.seq
 (.reg false [
 oX 9 (.mv (.t 6)),
 oX 10 (.bin .gtr (.t 9) (kX 0))])
 (.cond (.t 10)
 .skip
 (.exit 0)))
 (.seq
 (.block 1
 (.seq
 (.seq
 (.reg false [
 oX 13 (.mv (.t 6)),
 oX 14 (.bin .rem (.t 13) (kX 2)),
 oX 15 (.bin .eql (.t 14) (kX 1))])
 (.join ⟨[(1, sX), (6, sX), (0, sX), (5, sX)], []⟩ [] []
 (.cond (.t 15)
 (.reg false [
 oX 16 (.mv (.t 5)),
 oX 17 (.mv (.t 1)),
 oX 18 (.bin .mul (.t 16) (.t 17)),
 oX 19 (.mv (.t 0)),
 oX 20 (.bin .rem (.t 18) (.t 19)),
 oX 5 (.mv (.t 20))])
 .skip)))
 (.reg false [
 oX 21 (.mv (.t 1)),
 oX 22 (.mv (.t 1)),
 oX 23 (.bin .mul (.t 21) (.t 22)),
 oX 24 (.mv (.t 0)),
 oX 25 (.bin .rem (.t 23) (.t 24)),
 oX 1 (.mv (.t 25))])))
 (.reg false [
 oX 11 (.mv (.t 6)),
 oX 12 (.bin .quo (.t 11) (kX 2)),
 oX 6 (.mv (.t 12))])))))))
 (.seq
 (.reg false [
 oX 26 (.mv (.t 5)),
 oX 4 (.mv (.t 26))])
 .ret))))
def ms_spec_l31Inverse : List MRes := [.tmp 4]
theorem n_spec_l31Inverse (NN : Nat) (x : DLL (Sig.tys ag_spec_l31Inverse)) : runS NN [] sc_spec_l31Inverse ms_spec_l31Inverse ag_spec_l31Inverse rs_spec_l31Inverse x = G_spec_l31Inverse NN x := by kernel_rfl
theorem k_spec_l31Inverse : chkS Go.Proofs.Try.prog 156 sc_spec_l31Inverse.er ms_spec_l31Inverse 2 = true := by decide +kernel
theorem p_spec_l31Inverse : PureSpec Go.Proofs.Try.prog 156 fn_spec_l31Inverse.M ∧ chkFun Go.Proofs.Try.prog 156 = true :=
  pure_of_runS (T := []) (sc := sc_spec_l31Inverse) (ms := ms_spec_l31Inverse) (args := ag_spec_l31Inverse) (res := rs_spec_l31Inverse) (SOk.nil) follows_ok k_spec_l31Inverse F_spec_l31Inverse fun x y h => (n_spec_l31Inverse FUEL x).trans (f_spec_l31Inverse x y h)

def fn_spec_l31Clear : SFn := ⟨157, ag_spec_l31Clear, mu_spec_l31Clear, rs_spec_l31Clear, F_spec_l31Clear⟩
def sc_spec_l31Clear : SCode :=
 (.seq
 (.reg false [
 oX 6 (.box 3 (.t 1))])
 (.seq
 (.reg false [
 oX 10 (.mv (kX 0))])
 (.block 0
 (.loop 0 ⟨[(0, sX), (2, sX), (3, sX), (4, sX), (6, .one (rX 6)), (10, sX)], [(1000000, .row false .froz iX), (6, .box [vX, vX, fX 1000000 1])]⟩ [1000000, 6, 500000] [(true, 6, 2, 500000, .froz, [])]
 (.seq
 (.seq
 (.reg false [
 oX 11 (.mv (.t 10)),
 oX 12 (.fieldA 1 (.t 6)),
 oX 13 (.load false 1 (.t 12)),
 oX 14 (.bin .lss (.t 11) (.t 13))])
 (.cond (.t 14)
 .skip
 (.exit 0)))
 (.seq
 (.block 1
 (.reg true [
 oX 17 (.fieldA 2 (.t 6)),
 oX 18 (.load false 1 (.t 17)),
 oX 19 (.mv (.t 2)),
 oX 20 (.fieldA 1 (.t 6)),
 oX 21 (.load false 1 (.t 20)),
 oX 22 (.bin .mul (.t 19) (.t 21)),
 oX 23 (.mv (.t 10)),
 oX 24 (.bin .add (.t 22) (.t 23)),
 oX 25 (.fieldA 2 (.t 6)),
 oX 26 (.load false 1 (.t 25)),
 oX 27 (.mv (.t 2)),
 oX 28 (.fieldA 1 (.t 6)),
 oX 29 (.load false 1 (.t 28)),
 oX 30 (.bin .mul (.t 27) (.t 29)),
 oX 31 (.mv (.t 10)),
 oX 32 (.bin .add (.t 30) (.t 31)),
 oX 33 (.idxA 1 (.t 26) (.t 32)),
 oX 34 (.load false 1 (.t 33)),
 oX 35 (.mv (.t 0)),
 oX 36 (.mv (.t 4)),
 oX 37 (.bin .sub (.t 35) (.t 36)),
 oX 38 (.fieldA 2 (.t 6)),
 oX 39 (.load false 1 (.t 38)),
 oX 40 (.mv (.t 3)),
 oX 41 (.fieldA 1 (.t 6)),
 oX 42 (.load false 1 (.t 41)),
 oX 43 (.bin .mul (.t 40) (.t 42)),
 oX 44 (.mv (.t 10)),
 oX 45 (.bin .add (.t 43) (.t 44)),
 oX 46 (.idxA 1 (.t 39) (.t 45)),
 oX 47 (.load false 1 (.t 46)),
 oX 48 (.bin .mul (.t 37) (.t 47)),
 oX 49 (.bin .add (.t 34) (.t 48)),
 oX 50 (.mv (.t 0)),
 oX 51 (.bin .rem (.t 49) (.t 50)),
 oX 52 (.idxA 1 (.t 18) (.t 24)),
 uX (.store 1 (.t 52) (.t 51))]))
 (.reg false [
 oX 15 (.mv (.t 10)),
 oX 16 (.bin .add (.t 15) (kX 1)),
 oX 10 (.mv (.t 16))])))))))
def ms_spec_l31Clear : List MRes := []
theorem n_spec_l31Clear (NN : Nat) (x : DLL (Sig.tys ag_spec_l31Clear)) : runMS NN [] sc_spec_l31Clear ms_spec_l31Clear ag_spec_l31Clear mu_spec_l31Clear rs_spec_l31Clear x = G_spec_l31Clear NN x := by kernel_rfl
theorem k_spec_l31Clear : chkS Go.Proofs.Try.prog 157 sc_spec_l31Clear.er ms_spec_l31Clear 5 = true := by decide +kernel
theorem p_spec_l31Clear : MutSpec Go.Proofs.Try.prog 157 mu_spec_l31Clear fn_spec_l31Clear.MM ∧ chkFun Go.Proofs.Try.prog 157 = true :=
  mut_of_runMS (T := []) (sc := sc_spec_l31Clear) (ms := ms_spec_l31Clear) (args := ag_spec_l31Clear) (mu := mu_spec_l31Clear) (res := rs_spec_l31Clear) (SOk.nil) follows_ok k_spec_l31Clear F_spec_l31Clear fun x y h => (n_spec_l31Clear FUEL x).trans (f_spec_l31Clear x y h)

def fn_spec_l31Reduce : SFn := ⟨133, ag_spec_l31Reduce, mu_spec_l31Reduce, rs_spec_l31Reduce, F_spec_l31Reduce⟩
def sc_spec_l31Reduce : SCode :=
 (.seq
 (.reg false [
 oX 3 (.box 3 (.t 1)),
 oX 4 (.alloc [zX, zX, .nil iX]),
 oX 5 (.mv (.k (.one (.nil iX)))),
 oX 6 (.mv (kX 0))])
 (.seq
 (.reg true [
 oX 17 (.fieldA 0 (.t 3)),
 oX 18 (.load false 1 (.t 17)),
 oX 19 (.fieldA 1 (.t 3)),
 oX 20 (.load false 1 (.t 19)),
 oX 21 (.fieldA 2 (.t 3)),
 oX 22 (.load false 1 (.t 21)),
 oX 23 (.call .froz 122 [(.t 22)]),
 oX 24 (.build [zX, zX, .nil iX] [(0, 1, (.t 18)), (1, 1, (.t 20)), (2, 1, (.t 23))]),
 oX 7 (.alloc [zX, zX, .nil iX]),
 uX (.store 3 (.t 7) (.t 24))])
 (.seq
 (.reg false [
 oX 25 (.bslice iX []),
 oX 8 (.mv (.t 25))])
 (.seq
 (.reg false [
 oX 9 (.mv (kX 1))])
 (.seq
 (.seq
 (.reg false [
 oX 10 (.mv (kX 0))])
 (.join ⟨[(7, .one (rX 7)), (8, .one (fX 500023 1)), (9, sX), (4, .one (rX 4))], [(4, .box [vX, vX, fX 500021 1]), (7, .box [vX, vX, fX 500022 1]), (500021, .row true .froz iX), (500022, .row true .froz iX), (500023, .row true .froz iX)]⟩ [3, 4, 7, 500000, 500001, 500002, 500021, 500022, 500023] [(true, 4, 2, 500021, .froz, []), (true, 7, 2, 500022, .froz, []), (false, 8, 0, 500023, .froz, [])]
 (.block 0
 (.loop 0 ⟨[(0, sX), (3, .one (rX 3)), (4, .one (rX 4)), (7, .one (rX 7)), (8, .one (fX 500002 1)), (9, sX), (10, sX)], [(3, .box [vX, vX, .c (.v (lX))]), (4, .box [vX, vX, fX 500000 1]), (7, .box [vX, vX, fX 500001 1]), (500000, .row true .froz iX), (500001, .row true .froz iX), (500002, .row true .froz iX)]⟩ [3, 4, 24000, 7, 25, 500000, 500001, 500002, 500018, 500019, 500020] [(true, 4, 2, 500000, .froz, []), (true, 7, 2, 500001, .froz, []), (false, 8, 0, 500002, .froz, [])]
 (.seq
 (.seq
 (.reg false [
 oX 26 (.mv (.t 10)),
 oX 27 (.fieldA 1 (.t 3)),
 oX 28 (.load false 1 (.t 27)),
 oX 29 (.bin .lss (.t 26) (.t 28)),
 oX 30 (.mv (.t 29)),
 ⟨(some 31), .mv (.t 8), (some (30, true))⟩,
 ⟨(some 32), .len (.t 31), (some (30, true))⟩,
 ⟨(some 33), .fieldA 0 (.t 3), (some (30, true))⟩,
 ⟨(some 34), .load false 1 (.t 33), (some (30, true))⟩,
 ⟨(some 35), .bin .lss (.t 32) (.t 34), (some (30, true))⟩,
 oX 36 (.pick (.t 30) (.t 35) (.k (.one (.v (.bool) (false)))))])
 (.cond (.t 36)
 .skip
 (.exit 0)))
 (.seq
 (.join ⟨[(10, sX), (0, sX), (3, .one (rX 3)), (4, .one (rX 4)), (7, .one (rX 7)), (8, .one (fX 500020 1)), (9, sX)], [(3, .box [vX, vX, .c (.v (lX))]), (4, .box [vX, vX, fX 500018 1]), (7, .box [vX, vX, fX 500019 1]), (500018, .row true .froz iX), (500019, .row true .froz iX), (500020, .row true .froz iX)]⟩ [3, 4, 7, 132, 133, 500000, 500001, 500002, 500015, 500016, 500018, 500019, 500020] [(true, 4, 2, 500018, .froz, []), (true, 7, 2, 500019, .froz, []), (false, 8, 0, 500020, .froz, [])]
 (.block 1
 (.seq
 (.reg false [
 oX 39 (.mv (.t 8)),
 oX 40 (.len (.t 39)),
 oX 11 (.mv (.t 40))])
 (.seq
 (.reg false [
 oX 41 (.load true 3 (.t 7)),
 oX 42 (.mv (.t 11)),
 oX 43 (.mv (.t 10)),
 oX 44 (.call .froz 154 [(.t 41), (.t 42), (.t 43)]),
 oX 12 (.mv (.t 44))])
 (.seq
 (.seq
 (.reg false [
 oX 45 (.mv (.t 12)),
 oX 46 (.bin .lss (.t 45) (kX 0))])
 (.cond (.t 46)
 (.exit 1)
 .skip))
 (.seq
 (.seq
 (.reg false [
 oX 47 (.mv (.t 12)),
 oX 48 (.mv (.t 11)),
 oX 49 (.bin .neq (.t 47) (.t 48))])
 (.join ⟨[(9, sX), (11, sX), (8, .one (fX 500005 1)), (10, sX), (0, sX), (3, .one (rX 3)), (4, .one (rX 4)), (7, .one (rX 7))], [(3, .box [vX, vX, .c (.v (lX))]), (4, .box [vX, vX, fX 500003 1]), (7, .box [vX, vX, fX 500004 1]), (500003, .row true .froz iX), (500004, .row true .froz iX), (500005, .row true .froz iX)]⟩ [3, 4, 7, 500000, 500001, 500002, 500003, 500004, 500005] [(true, 4, 2, 500003, .froz, []), (true, 7, 2, 500004, .froz, []), (false, 8, 0, 500005, .froz, [])]
 (.cond (.t 49)
 (.seq
 (.reg false [
 oX 50 (.load true 3 (.t 7)),
 oX 51 (.mv (.t 11)),
 oX 52 (.mv (.t 12)),
 oX 53 (.callm .froz 155 [(.t 50), (.t 51), (.t 52)])])
 (.reg false [
 oX 54 (.mv (.t 0)),
 oX 55 (.mv (.t 9)),
 oX 56 (.bin .sub (.t 54) (.t 55)),
 oX 57 (.mv (.t 0)),
 oX 58 (.bin .rem (.t 56) (.t 57)),
 oX 9 (.mv (.t 58))]))
 .skip)))
 (.seq
 (.reg false [
 oX 59 (.fieldA 2 (.t 7)),
 oX 60 (.load false 1 (.t 59)),
 oX 61 (.mv (.t 11)),
 oX 62 (.fieldA 1 (.t 3)),
 oX 63 (.load false 1 (.t 62)),
 oX 64 (.bin .mul (.t 61) (.t 63)),
 oX 65 (.mv (.t 10)),
 oX 66 (.bin .add (.t 64) (.t 65)),
 oX 67 (.idxA 1 (.t 60) (.t 66)),
 oX 68 (.load false 1 (.t 67)),
 oX 13 (.mv (.t 68))])
 (.seq
 (.reg false [
 oX 69 (.mv (.t 9)),
 oX 70 (.mv (.t 13)),
 oX 71 (.bin .mul (.t 69) (.t 70)),
 oX 72 (.mv (.t 0)),
 oX 73 (.bin .rem (.t 71) (.t 72)),
 oX 9 (.mv (.t 73))])
 (.seq
 (.reg false [
 oX 74 (.mv (.t 0)),
 oX 75 (.mv (.t 13)),
 oX 76 (.call .froz 156 [(.t 74), (.t 75)]),
 oX 14 (.mv (.t 76))])
 (.seq
 (.seq
 (.reg false [
 oX 15 (.mv (kX 0))])
 (.join ⟨[(9, sX), (7, .one (rX 7)), (4, .one (rX 4)), (3, .one (rX 3)), (0, sX), (10, sX), (8, .one (fX 500011 1)), (11, sX)], [(3, .box [vX, vX, .c (.v (lX))]), (4, .box [vX, vX, fX 500009 1]), (7, .box [vX, vX, fX 500010 1]), (500009, .row true .froz iX), (500010, .row true .froz iX), (500011, .row true .froz iX)]⟩ [3, 4, 7, 500006, 500007, 500008, 500009, 500010, 500011] [(true, 4, 2, 500009, .froz, []), (true, 7, 2, 500010, .froz, []), (false, 8, 0, 500011, .froz, [])]
 (.block 2
 (.loop 0 ⟨[(0, sX), (3, .one (rX 3)), (4, .one (rX 4)), (7, .one (rX 7)), (8, .one (fX 500008 1)), (9, sX), (10, sX), (11, sX), (14, sX), (15, sX)], [(3, .box [vX, vX, .c (.v (lX))]), (4, .box [vX, vX, fX 500006 1]), (7, .box [vX, vX, fX 500007 1]), (500006, .row true .froz iX), (500007, .row true .froz iX), (500008, .row true .froz iX)]⟩ [3, 4, 7, 500003, 500004, 500005, 500006, 500007, 500008] [(true, 4, 2, 500006, .froz, []), (true, 7, 2, 500007, .froz, []), (false, 8, 0, 500008, .froz, [])]
 (.seq
 (.seq
 (.reg false [
 oX 77 (.mv (.t 15)),
 oX 78 (.fieldA 1 (.t 3)),
 oX 79 (.load false 1 (.t 78)),
 oX 80 (.bin .lss (.t 77) (.t 79))])
 (.cond (.t 80)
 .skip
 (.exit 2)))
 (.seq
 (.block 3
 (.reg true [
 oX 83 (.fieldA 2 (.t 7)),
 oX 84 (.load false 1 (.t 83)),
 oX 85 (.mv (.t 11)),
 oX 86 (.fieldA 1 (.t 3)),
 oX 87 (.load false 1 (.t 86)),
 oX 88 (.bin .mul (.t 85) (.t 87)),
 oX 89 (.mv (.t 15)),
 oX 90 (.bin .add (.t 88) (.t 89)),
 oX 91 (.fieldA 2 (.t 7)),
 oX 92 (.load false 1 (.t 91)),
 oX 93 (.mv (.t 11)),
 oX 94 (.fieldA 1 (.t 3)),
 oX 95 (.load false 1 (.t 94)),
 oX 96 (.bin .mul (.t 93) (.t 95)),
 oX 97 (.mv (.t 15)),
 oX 98 (.bin .add (.t 96) (.t 97)),
 oX 99 (.idxA 1 (.t 92) (.t 98)),
 oX 100 (.load false 1 (.t 99)),
 oX 101 (.mv (.t 14)),
 oX 102 (.bin .mul (.t 100) (.t 101)),
 oX 103 (.mv (.t 0)),
 oX 104 (.bin .rem (.t 102) (.t 103)),
 oX 105 (.idxA 1 (.t 84) (.t 90)),
 uX (.store 1 (.t 105) (.t 104))]))
 (.reg false [
 oX 81 (.mv (.t 15)),
 oX 82 (.bin .add (.t 81) (kX 1)),
 oX 15 (.mv (.t 82))])))))))
 (.seq
 (.seq
 (.reg false [
 oX 16 (.mv (kX 0))])
 (.join ⟨[(8, .one (fX 500017 1)), (10, sX), (0, sX), (3, .one (rX 3)), (4, .one (rX 4)), (7, .one (rX 7)), (9, sX)], [(3, .box [vX, vX, .c (.v (lX))]), (4, .box [vX, vX, fX 500015 1]), (7, .box [vX, vX, fX 500016 1]), (500015, .row true .froz iX), (500016, .row true .froz iX), (500017, .row true .froz iX)]⟩ [3, 4, 7, 500012, 500013, 500014, 500015, 500016, 500017] [(true, 4, 2, 500015, .froz, []), (true, 7, 2, 500016, .froz, []), (false, 8, 0, 500017, .froz, [])]
 (.block 4
 (.loop 0 ⟨[(0, sX), (3, .one (rX 3)), (4, .one (rX 4)), (7, .one (rX 7)), (8, .one (fX 500014 1)), (9, sX), (10, sX), (11, sX), (16, sX)], [(3, .box [vX, vX, .c (.v (lX))]), (4, .box [vX, vX, fX 500012 1]), (7, .box [vX, vX, fX 500013 1]), (500012, .row true .froz iX), (500013, .row true .froz iX), (500014, .row true .froz iX)]⟩ [3, 4, 7, 500009, 500010, 500011, 500012, 500013, 500014] [(true, 4, 2, 500012, .froz, []), (true, 7, 2, 500013, .froz, []), (false, 8, 0, 500014, .froz, [])]
 (.seq
 (.seq
 (.reg false [
 oX 106 (.mv (.t 16)),
 oX 107 (.fieldA 0 (.t 3)),
 oX 108 (.load false 1 (.t 107)),
 oX 109 (.bin .lss (.t 106) (.t 108))])
 (.cond (.t 109)
 .skip
 (.exit 4)))
 (.seq
 (.block 5
 (.seq
 (.reg false [
 oX 112 (.mv (.t 16)),
 oX 113 (.mv (.t 11)),
 oX 114 (.bin .neq (.t 112) (.t 113))])
 (.cond (.t 114)
 (.reg true [
 oX 115 (.mv (.t 0)),
 oX 116 (.load true 3 (.t 7)),
 oX 117 (.mv (.t 16)),
 oX 118 (.mv (.t 11)),
 oX 119 (.fieldA 2 (.t 7)),
 oX 120 (.load false 1 (.t 119)),
 oX 121 (.mv (.t 16)),
 oX 122 (.fieldA 1 (.t 3)),
 oX 123 (.load false 1 (.t 122)),
 oX 124 (.bin .mul (.t 121) (.t 123)),
 oX 125 (.mv (.t 10)),
 oX 126 (.bin .add (.t 124) (.t 125)),
 oX 127 (.idxA 1 (.t 120) (.t 126)),
 oX 128 (.load false 1 (.t 127)),
 oX 129 (.callm .froz 157 [(.t 115), (.t 116), (.t 117), (.t 118), (.t 128)])])
 .skip)))
 (.reg false [
 oX 110 (.mv (.t 16)),
 oX 111 (.bin .add (.t 110) (kX 1)),
 oX 16 (.mv (.t 111))])))))))
 (.reg false [
 oX 130 (.mv (.t 8)),
 oX 131 (.mv (.t 10)),
 oX 132 (.bslice iX [(.t 131)]),
 oX 133 (.append true iX 8 (.t 130) (.t 132)),
 oX 8 (.mv (.t 133))]))))))))))))
 (.reg false [
 oX 37 (.mv (.t 10)),
 oX 38 (.bin .add (.t 37) (kX 1)),
 oX 10 (.mv (.t 38))])))))))
 (.seq
 (.reg false [
 oX 134 (.load true 3 (.t 7)),
 oX 135 (.mv (.t 8)),
 oX 136 (.mv (.t 9)),
 uX (.store 3 (.t 4) (.t 134)),
 oX 5 (.mv (.t 135)),
 oX 6 (.mv (.t 136))])
 .ret))))))
def ms_spec_l31Reduce : List MRes := [.cell 4 3 true, .tmp 5, .tmp 6]
theorem n_spec_l31Reduce (NN : Nat) (x : DLL (Sig.tys ag_spec_l31Reduce)) : runS NN [fn_spec_l05Ints, fn_spec_l31Pivot, fn_spec_l31Swap, fn_spec_l31Inverse, fn_spec_l31Clear] sc_spec_l31Reduce ms_spec_l31Reduce ag_spec_l31Reduce rs_spec_l31Reduce x = G_spec_l31Reduce NN x := by kernel_rfl
theorem k_spec_l31Reduce : chkS Go.Proofs.Try.prog 133 sc_spec_l31Reduce.er ms_spec_l31Reduce 2 = true := by decide +kernel
theorem p_spec_l31Reduce : PureSpec Go.Proofs.Try.prog 133 fn_spec_l31Reduce.M ∧ chkFun Go.Proofs.Try.prog 133 = true :=
  pure_of_runS (T := [fn_spec_l05Ints, fn_spec_l31Pivot, fn_spec_l31Swap, fn_spec_l31Inverse, fn_spec_l31Clear]) (sc := sc_spec_l31Reduce) (ms := ms_spec_l31Reduce) (args := ag_spec_l31Reduce) (res := rs_spec_l31Reduce) (SOk.cons p_spec_l05Ints <| SOk.cons p_spec_l31Pivot <| SOk.consM p_spec_l31Swap <| SOk.cons p_spec_l31Inverse <| SOk.consM p_spec_l31Clear <| SOk.nil) follows_ok k_spec_l31Reduce F_spec_l31Reduce fun x y h => (n_spec_l31Reduce FUEL x).trans (f_spec_l31Reduce x y h)

def fn_spec_l31New : SFn := ⟨77, ag_spec_l31New, mu_spec_l31New, rs_spec_l31New, F_spec_l31New⟩
def sc_spec_l31New : SCode :=
 (.seq
 (.reg false [
 oX 4 (.alloc [zX, zX, .nil iX])])
 (.seq
 (.reg false [
 oX 5 (.mv (.t 0)),
 oX 6 (.mv (.t 1)),
 oX 7 (.mv (.t 0)),
 oX 8 (.mv (.t 1)),
 oX 9 (.bin .mul (.t 7) (.t 8)),
 oX 10 (.mkslice .froz iX 8 (0 : Int) (.t 9) (.t 9)),
 oX 11 (.build [zX, zX, .nil iX] [(0, 1, (.t 5)), (1, 1, (.t 6)), (2, 1, (.t 10))]),
 uX (.store 3 (.t 4) (.t 11))])
 .ret))
def ms_spec_l31New : List MRes := [.cell 4 3 true]
theorem n_spec_l31New (NN : Nat) (x : DLL (Sig.tys ag_spec_l31New)) : runS NN [] sc_spec_l31New ms_spec_l31New ag_spec_l31New rs_spec_l31New x = G_spec_l31New NN x := by kernel_rfl
theorem k_spec_l31New : chkS Go.Proofs.Try.prog 77 sc_spec_l31New.er ms_spec_l31New 2 = true := by decide +kernel
theorem p_spec_l31New : PureSpec Go.Proofs.Try.prog 77 fn_spec_l31New.M ∧ chkFun Go.Proofs.Try.prog 77 = true :=
  pure_of_runS (T := []) (sc := sc_spec_l31New) (ms := ms_spec_l31New) (args := ag_spec_l31New) (res := rs_spec_l31New) (SOk.nil) follows_ok k_spec_l31New F_spec_l31New fun x y h => (n_spec_l31New FUEL x).trans (f_spec_l31New x y h)

def fn_spec_l31Factor : SFn := ⟨97, ag_spec_l31Factor, mu_spec_l31Factor, rs_spec_l31Factor, F_spec_l31Factor⟩
def sc_spec_l31Factor : SCode :=
 (.seq
 (.reg false [
 oX 3 (.box 3 (.t 1)),
 oX 4 (.alloc [zX, zX, .nil iX]),
 oX 5 (.alloc [zX, zX, .nil iX])])
 (.seq
 (.reg false [
 oX 14 (.mv (.t 0)),
 oX 15 (.load true 3 (.t 3)),
 oX 16 (.call .froz 133 [(.t 14), (.t 15)]),
 oX 13 (.mv (.t 16)),
 oX 17 (.ext 0 (.t 13)),
 oX 18 (.ext 1 (.t 13)),
 oX 19 (.ext 2 (.t 13)),
 oX 6 (.alloc [zX, zX, .nil iX]),
 uX (.store 3 (.t 6) (.t 17)),
 oX 7 (.mv (.t 18)),
 oX 8 (.mv (.t 19))])
 (.seq
 (.reg false [
 oX 20 (.fieldA 0 (.t 3)),
 oX 21 (.load false 1 (.t 20)),
 oX 22 (.mv (.t 7)),
 oX 23 (.len (.t 22)),
 oX 24 (.call .froz 77 [(.t 21), (.t 23)]),
 oX 9 (.alloc [zX, zX, .nil iX]),
 uX (.store 3 (.t 9) (.t 24))])
 (.seq
 (.seq
 (.reg false [
 oX 10 (.mv (kX 0))])
 (.join ⟨[(9, .one (rX 9)), (6, .one (rX 6)), (7, .one (fX 500019 1)), (3, .one (rX 3)), (4, .one (rX 4)), (5, .one (rX 5))], [(3, .box [vX, vX, .c (.v (lX))]), (4, .box [vX, vX, fX 500015 1]), (5, .box [vX, vX, fX 500016 1]), (6, .box [vX, vX, fX 500017 1]), (9, .box [vX, vX, fX 500018 1]), (500015, .row true .froz iX), (500016, .row true .froz iX), (500017, .row true .froz iX), (500018, .row true .froz iX), (500019, .row true .froz iX)]⟩ [3, 4, 5, 6, 9, 500000, 500001, 500002, 500003, 500004, 500015, 500016, 500017, 500018, 500019] [(true, 4, 2, 500015, .froz, []), (true, 5, 2, 500016, .froz, []), (true, 6, 2, 500017, .froz, []), (true, 9, 2, 500018, .froz, []), (false, 7, 0, 500019, .froz, [])]
 (.block 0
 (.loop 0 ⟨[(3, .one (rX 3)), (4, .one (rX 4)), (5, .one (rX 5)), (6, .one (rX 6)), (7, .one (fX 500004 1)), (9, .one (rX 9)), (10, sX)], [(3, .box [vX, vX, .c (.v (lX))]), (4, .box [vX, vX, fX 500000 1]), (5, .box [vX, vX, fX 500001 1]), (6, .box [vX, vX, fX 500002 1]), (9, .box [vX, vX, fX 500003 1]), (500000, .row true .froz iX), (500001, .row true .froz iX), (500002, .row true .froz iX), (500003, .row true .froz iX), (500004, .row true .froz iX)]⟩ [3, 4, 5, 17000, 17001, 6, 25000, 9, 500000, 500001, 500002, 500003, 500004, 500010, 500011, 500012, 500013, 500014] [(true, 4, 2, 500000, .froz, []), (true, 5, 2, 500001, .froz, []), (true, 6, 2, 500002, .froz, []), (true, 9, 2, 500003, .froz, []), (false, 7, 0, 500004, .froz, [])]
 (.seq
 (.seq
 (.reg false [
 oX 25 (.mv (.t 10)),
 oX 26 (.fieldA 0 (.t 3)),
 oX 27 (.load false 1 (.t 26)),
 oX 28 (.bin .lss (.t 25) (.t 27))])
 (.cond (.t 28)
 .skip
 (.exit 0)))
 (.seq
 (.join ⟨[(10, sX), (3, .one (rX 3)), (4, .one (rX 4)), (5, .one (rX 5)), (6, .one (rX 6)), (7, .one (fX 500014 1)), (9, .one (rX 9))], [(3, .box [vX, vX, .c (.v (lX))]), (4, .box [vX, vX, fX 500010 1]), (5, .box [vX, vX, fX 500011 1]), (6, .box [vX, vX, fX 500012 1]), (9, .box [vX, vX, fX 500013 1]), (500010, .row true .froz iX), (500011, .row true .froz iX), (500012, .row true .froz iX), (500013, .row true .froz iX), (500014, .row true .froz iX)]⟩ [3, 4, 5, 6, 9, 500005, 500006, 500007, 500008, 500009, 500010, 500011, 500012, 500013, 500014] [(true, 4, 2, 500010, .froz, []), (true, 5, 2, 500011, .froz, []), (true, 6, 2, 500012, .froz, []), (true, 9, 2, 500013, .froz, []), (false, 7, 0, 500014, .froz, [])]
 (.block 1
 (.seq
 (.reg false [
 oX 31 (.mv (.t 7)),
 oX 32 (.len (.t 31)),
 oX 33 (.mv (kX 0))])
 (.block 2
 (.loop 0 ⟨[(3, .one (rX 3)), (4, .one (rX 4)), (5, .one (rX 5)), (6, .one (rX 6)), (7, .one (fX 500009 1)), (9, .one (rX 9)), (10, sX), (31, .one (fX 500009 1)), (32, sX), (33, sX)], [(3, .box [vX, vX, .c (.v (lX))]), (4, .box [vX, vX, fX 500005 1]), (5, .box [vX, vX, fX 500006 1]), (6, .box [vX, vX, fX 500007 1]), (9, .box [vX, vX, fX 500008 1]), (500005, .row true .froz iX), (500006, .row true .froz iX), (500007, .row true .froz iX), (500008, .row true .froz iX), (500009, .row true .froz iX)]⟩ [3, 4, 5, 6, 9, 500000, 500001, 500002, 500003, 500004, 500005, 500006, 500007, 500008, 500009] [(true, 4, 2, 500005, .froz, []), (true, 5, 2, 500006, .froz, []), (true, 6, 2, 500007, .froz, []), (true, 9, 2, 500008, .froz, []), (false, 7, 0, 500009, .froz, [])]
 (.seq
 (.reg false [
 oX 34 (.bin .lss (.t 33) (.t 32))])
 (.seq
 (.cond (.t 34)
 .skip
 (.exit 2))
 (.seq
 (.block 3
 (.seq
 (.reg false [
 oX 35 (.mv (.t 33)),
 oX 36 (.idxA 1 (.t 31) (.t 33)),
 oX 37 (.load false 1 (.t 36)),
 oX 11 (.mv (.t 35)),
 oX 12 (.mv (.t 37))])
 (.reg true [
 oX 38 (.fieldA 2 (.t 9)),
 oX 39 (.load false 1 (.t 38)),
 oX 40 (.mv (.t 10)),
 oX 41 (.mv (.t 7)),
 oX 42 (.len (.t 41)),
 oX 43 (.bin .mul (.t 40) (.t 42)),
 oX 44 (.mv (.t 11)),
 oX 45 (.bin .add (.t 43) (.t 44)),
 oX 46 (.fieldA 2 (.t 3)),
 oX 47 (.load false 1 (.t 46)),
 oX 48 (.mv (.t 10)),
 oX 49 (.fieldA 1 (.t 3)),
 oX 50 (.load false 1 (.t 49)),
 oX 51 (.bin .mul (.t 48) (.t 50)),
 oX 52 (.mv (.t 12)),
 oX 53 (.bin .add (.t 51) (.t 52)),
 oX 54 (.idxA 1 (.t 47) (.t 53)),
 oX 55 (.load false 1 (.t 54)),
 oX 56 (.idxA 1 (.t 39) (.t 45)),
 uX (.store 1 (.t 56) (.t 55))])))
 (.reg false [
 oX 57 (.bin .add (.t 33) (kX 1)),
 oX 33 (.mv (.t 57))])))))))))
 (.reg false [
 oX 29 (.mv (.t 10)),
 oX 30 (.bin .add (.t 29) (kX 1)),
 oX 10 (.mv (.t 30))])))))))
 (.seq
 (.regD [(2, 15), (3, 15), (4, 15)] [
 oX 58 (.load true 3 (.t 9)),
 oX 59 (.mv (.t 7)),
 oX 60 (.len (.t 59)),
 oX 61 (.fieldA 1 (.t 3)),
 oX 62 (.load false 1 (.t 61)),
 oX 63 (.fieldA 2 (.t 6)),
 oX 64 (.load false 1 (.t 63)),
 oX 65 (.mv (.t 7)),
 oX 66 (.len (.t 65)),
 oX 67 (.fieldA 1 (.t 3)),
 oX 68 (.load false 1 (.t 67)),
 oX 69 (.bin .mul (.t 66) (.t 68)),
 oX 70 (.slice 1 (.t 64) none (some (.t 69))),
 oX 71 (.call .froz 122 [(.t 70)]),
 oX 72 (.build [zX, zX, .nil iX] [(0, 1, (.t 60)), (1, 1, (.t 62)), (2, 1, (.t 71))]),
 uX (.store 3 (.t 4) (.t 58)),
 uX (.store 3 (.t 5) (.t 72))])
 .ret)))))
def ms_spec_l31Factor : List MRes := [.cell 4 3 true, .cell 5 3 true]
theorem n_spec_l31Factor (NN : Nat) (x : DLL (Sig.tys ag_spec_l31Factor)) : runS NN [fn_spec_l31Reduce, fn_spec_l31New, fn_spec_l05Ints] sc_spec_l31Factor ms_spec_l31Factor ag_spec_l31Factor rs_spec_l31Factor x = G_spec_l31Factor NN x := by kernel_rfl
theorem k_spec_l31Factor : chkS Go.Proofs.Try.prog 97 sc_spec_l31Factor.er ms_spec_l31Factor 2 = true := by decide +kernel
theorem p_spec_l31Factor : PureSpec Go.Proofs.Try.prog 97 fn_spec_l31Factor.M ∧ chkFun Go.Proofs.Try.prog 97 = true :=
  pure_of_runS (T := [fn_spec_l31Reduce, fn_spec_l31New, fn_spec_l05Ints]) (sc := sc_spec_l31Factor) (ms := ms_spec_l31Factor) (args := ag_spec_l31Factor) (res := rs_spec_l31Factor) (SOk.cons p_spec_l31Reduce <| SOk.cons p_spec_l31New <| SOk.cons p_spec_l05Ints <| SOk.nil) follows_ok k_spec_l31Factor F_spec_l31Factor fun x y h => (n_spec_l31Factor FUEL x).trans (f_spec_l31Factor x y h)

def fn_spec_l31Mul : SFn := ⟨78, ag_spec_l31Mul, mu_spec_l31Mul, rs_spec_l31Mul, F_spec_l31Mul⟩
def sc_spec_l31Mul : SCode :=
 (.seq
 (.reg false [
 oX 4 (.box 3 (.t 1)),
 oX 5 (.box 3 (.t 2)),
 oX 6 (.alloc [zX, zX, .nil iX])])
 (.seq
 (.reg false [
 oX 12 (.fieldA 0 (.t 4)),
 oX 13 (.load false 1 (.t 12)),
 oX 14 (.fieldA 1 (.t 5)),
 oX 15 (.load false 1 (.t 14)),
 oX 16 (.call .froz 77 [(.t 13), (.t 15)]),
 oX 7 (.alloc [zX, zX, .nil iX]),
 uX (.store 3 (.t 7) (.t 16))])
 (.seq
 (.seq
 (.reg false [
 oX 8 (.mv (kX 0))])
 (.join ⟨[(7, .one (rX 7)), (6, .one (rX 6))], [(6, .box [vX, vX, fX 500012 1]), (7, .box [vX, vX, fX 500013 1]), (500012, .row true .froz iX), (500013, .row true .froz iX)]⟩ [4, 5, 6, 7, 500000, 500001, 500012, 500013] [(true, 6, 2, 500012, .froz, []), (true, 7, 2, 500013, .froz, [])]
 (.block 0
 (.loop 0 ⟨[(0, sX), (4, .one (rX 4)), (5, .one (rX 5)), (6, .one (rX 6)), (7, .one (rX 7)), (8, sX)], [(4, .box [vX, vX, .c (.v (lX))]), (5, .box [vX, vX, .c (.v (lX))]), (6, .box [vX, vX, fX 500000 1]), (7, .box [vX, vX, fX 500001 1]), (500000, .row true .froz iX), (500001, .row true .froz iX)]⟩ [4, 5, 6, 17000, 7, 500000, 500001, 500010, 500011] [(true, 6, 2, 500000, .froz, []), (true, 7, 2, 500001, .froz, [])]
 (.seq
 (.seq
 (.reg false [
 oX 17 (.mv (.t 8)),
 oX 18 (.fieldA 0 (.t 4)),
 oX 19 (.load false 1 (.t 18)),
 oX 20 (.bin .lss (.t 17) (.t 19))])
 (.cond (.t 20)
 .skip
 (.exit 0)))
 (.seq
 (.join ⟨[(8, sX), (0, sX), (4, .one (rX 4)), (5, .one (rX 5)), (6, .one (rX 6)), (7, .one (rX 7))], [(4, .box [vX, vX, .c (.v (lX))]), (5, .box [vX, vX, .c (.v (lX))]), (6, .box [vX, vX, fX 500010 1]), (7, .box [vX, vX, fX 500011 1]), (500010, .row true .froz iX), (500011, .row true .froz iX)]⟩ [4, 5, 6, 7, 500002, 500003, 500010, 500011] [(true, 6, 2, 500010, .froz, []), (true, 7, 2, 500011, .froz, [])]
 (.block 1
 (.seq
 (.reg false [
 oX 9 (.mv (kX 0))])
 (.block 2
 (.loop 0 ⟨[(0, sX), (4, .one (rX 4)), (5, .one (rX 5)), (6, .one (rX 6)), (7, .one (rX 7)), (8, sX), (9, sX)], [(4, .box [vX, vX, .c (.v (lX))]), (5, .box [vX, vX, .c (.v (lX))]), (6, .box [vX, vX, fX 500002 1]), (7, .box [vX, vX, fX 500003 1]), (500002, .row true .froz iX), (500003, .row true .froz iX)]⟩ [4, 5, 6, 7, 500000, 500001, 500002, 500003, 500008, 500009] [(true, 6, 2, 500002, .froz, []), (true, 7, 2, 500003, .froz, [])]
 (.seq
 (.seq
 (.reg false [
 oX 23 (.mv (.t 9)),
 oX 24 (.fieldA 1 (.t 5)),
 oX 25 (.load false 1 (.t 24)),
 oX 26 (.bin .lss (.t 23) (.t 25))])
 (.cond (.t 26)
 .skip
 (.exit 2)))
 (.seq
 (.join ⟨[(9, sX), (0, sX), (4, .one (rX 4)), (5, .one (rX 5)), (6, .one (rX 6)), (7, .one (rX 7)), (8, sX)], [(4, .box [vX, vX, .c (.v (lX))]), (5, .box [vX, vX, .c (.v (lX))]), (6, .box [vX, vX, fX 500008 1]), (7, .box [vX, vX, fX 500009 1]), (500008, .row true .froz iX), (500009, .row true .froz iX)]⟩ [4, 5, 6, 7, 500006, 500007, 500008, 500009] [(true, 6, 2, 500008, .froz, []), (true, 7, 2, 500009, .froz, [])]
 (.block 3
 (.seq
 (.reg false [
 oX 10 (.mv (kX 0))])
 (.seq
 (.seq
 (.reg false [
 oX 11 (.mv (kX 0))])
 (.join ⟨[(10, sX), (9, sX), (0, sX), (4, .one (rX 4)), (5, .one (rX 5)), (6, .one (rX 6)), (7, .one (rX 7)), (8, sX)], [(4, .box [vX, vX, .c (.v (lX))]), (5, .box [vX, vX, .c (.v (lX))]), (6, .box [vX, vX, fX 500006 1]), (7, .box [vX, vX, fX 500007 1]), (500006, .row true .froz iX), (500007, .row true .froz iX)]⟩ [4, 5, 6, 7, 500004, 500005, 500006, 500007] [(true, 6, 2, 500006, .froz, []), (true, 7, 2, 500007, .froz, [])]
 (.block 4
 (.loop 0 ⟨[(0, sX), (4, .one (rX 4)), (5, .one (rX 5)), (6, .one (rX 6)), (7, .one (rX 7)), (8, sX), (9, sX), (10, sX), (11, sX)], [(4, .box [vX, vX, .c (.v (lX))]), (5, .box [vX, vX, .c (.v (lX))]), (6, .box [vX, vX, fX 500004 1]), (7, .box [vX, vX, fX 500005 1]), (500004, .row true .froz iX), (500005, .row true .froz iX)]⟩ [4, 5, 6, 7, 500002, 500003, 500004, 500005] [(true, 6, 2, 500004, .froz, []), (true, 7, 2, 500005, .froz, [])]
 (.seq
 (.seq
 (.reg false [
 oX 29 (.mv (.t 11)),
 oX 30 (.fieldA 1 (.t 4)),
 oX 31 (.load false 1 (.t 30)),
 oX 32 (.bin .lss (.t 29) (.t 31))])
 (.cond (.t 32)
 .skip
 (.exit 4)))
 (.seq
 (.block 5
 (.reg true [
 oX 35 (.mv (.t 10)),
 oX 36 (.fieldA 2 (.t 4)),
 oX 37 (.load false 1 (.t 36)),
 oX 38 (.mv (.t 8)),
 oX 39 (.fieldA 1 (.t 4)),
 oX 40 (.load false 1 (.t 39)),
 oX 41 (.bin .mul (.t 38) (.t 40)),
 oX 42 (.mv (.t 11)),
 oX 43 (.bin .add (.t 41) (.t 42)),
 oX 44 (.idxA 1 (.t 37) (.t 43)),
 oX 45 (.load false 1 (.t 44)),
 oX 46 (.fieldA 2 (.t 5)),
 oX 47 (.load false 1 (.t 46)),
 oX 48 (.mv (.t 11)),
 oX 49 (.fieldA 1 (.t 5)),
 oX 50 (.load false 1 (.t 49)),
 oX 51 (.bin .mul (.t 48) (.t 50)),
 oX 52 (.mv (.t 9)),
 oX 53 (.bin .add (.t 51) (.t 52)),
 oX 54 (.idxA 1 (.t 47) (.t 53)),
 oX 55 (.load false 1 (.t 54)),
 oX 56 (.bin .mul (.t 45) (.t 55)),
 oX 57 (.bin .add (.t 35) (.t 56)),
 oX 58 (.mv (.t 0)),
 oX 59 (.bin .rem (.t 57) (.t 58)),
 oX 10 (.mv (.t 59))]))
 (.reg false [
 oX 33 (.mv (.t 11)),
 oX 34 (.bin .add (.t 33) (kX 1)),
 oX 11 (.mv (.t 34))])))))))
 (.reg false [
 oX 60 (.fieldA 2 (.t 7)),
 oX 61 (.load false 1 (.t 60)),
 oX 62 (.mv (.t 8)),
 oX 63 (.fieldA 1 (.t 5)),
 oX 64 (.load false 1 (.t 63)),
 oX 65 (.bin .mul (.t 62) (.t 64)),
 oX 66 (.mv (.t 9)),
 oX 67 (.bin .add (.t 65) (.t 66)),
 oX 68 (.mv (.t 10)),
 oX 69 (.idxA 1 (.t 61) (.t 67)),
 uX (.store 1 (.t 69) (.t 68))])))))
 (.reg false [
 oX 27 (.mv (.t 9)),
 oX 28 (.bin .add (.t 27) (kX 1)),
 oX 9 (.mv (.t 28))]))))))))
 (.reg false [
 oX 21 (.mv (.t 8)),
 oX 22 (.bin .add (.t 21) (kX 1)),
 oX 8 (.mv (.t 22))])))))))
 (.seq
 (.reg false [
 oX 70 (.load true 3 (.t 7)),
 uX (.store 3 (.t 6) (.t 70))])
 .ret))))
def ms_spec_l31Mul : List MRes := [.cell 6 3 true]
theorem n_spec_l31Mul (NN : Nat) (x : DLL (Sig.tys ag_spec_l31Mul)) : runS NN [fn_spec_l31New] sc_spec_l31Mul ms_spec_l31Mul ag_spec_l31Mul rs_spec_l31Mul x = G_spec_l31Mul NN x := by kernel_rfl
theorem k_spec_l31Mul : chkS Go.Proofs.Try.prog 78 sc_spec_l31Mul.er ms_spec_l31Mul 3 = true := by decide +kernel
theorem p_spec_l31Mul : PureSpec Go.Proofs.Try.prog 78 fn_spec_l31Mul.M ∧ chkFun Go.Proofs.Try.prog 78 = true :=
  pure_of_runS (T := [fn_spec_l31New]) (sc := sc_spec_l31Mul) (ms := ms_spec_l31Mul) (args := ag_spec_l31Mul) (res := rs_spec_l31Mul) (SOk.cons p_spec_l31New <| SOk.nil) follows_ok k_spec_l31Mul F_spec_l31Mul fun x y h => (n_spec_l31Mul FUEL x).trans (f_spec_l31Mul x y h)

def fn_spec_CompressChain : SFn := ⟨47, ag_spec_CompressChain, mu_spec_CompressChain, rs_spec_CompressChain, F_spec_CompressChain⟩
def sc_spec_CompressChain : SCode :=
 (.seq
 (.reg false [
 oX 1 (.box 2 (.t 0)),
 oX 2 (.alloc [zX, .nil gX])])
 (.seq
 (.seq
 (.reg false [
 oX 17 (.load true 2 (.t 1)),
 oX 18 (.call .froz 16 [(.t 17)]),
 oX 19 (.un .not (.t 18))])
 (.cond (.t 19)
 (.seq
 (.reg false [
 oX 20 (.build [zX, .nil gX] []),
 uX (.store 2 (.t 2) (.t 20))])
 .ret)
 .skip))
 (.seq
 (.reg false [
 oX 21 (.load true 2 (.t 1)),
 oX 22 (.call .froz 92 [(.t 21)]),
 oX 3 (.alloc [zX, .nil gX]),
 uX (.store 2 (.t 3) (.t 22))])
 (.seq
 (.reg false [
 oX 23 (.fieldA 1 (.t 3)),
 oX 24 (.load false 1 (.t 23)),
 oX 25 (.len (.t 24)),
 oX 26 (.bin .sub (.t 25) (kX 1)),
 oX 4 (.mv (.t 26))])
 (.seq
 (.seq
 (.reg false [
 oX 5 (.mv (kX 0))])
 (.join ⟨[(4, sX), (2, .one (rX 2)), (3, .one (rX 3)), (1, .one (rX 1))], [(1, .box [vX, .c (.v (.list gX))]), (2, .box [vX, fX 500002 4]), (3, .box [vX, fX 500003 4]), (500002, .row true .froz gX), (500003, .row true .froz gX)]⟩ [1, 2, 3, 500000, 500001, 500002, 500003] [(true, 2, 1, 500002, .froz, []), (true, 3, 1, 500003, .froz, [])]
 (.block 0
 (.loop 0 ⟨[(1, .one (rX 1)), (2, .one (rX 2)), (3, .one (rX 3)), (4, sX), (5, sX)], [(1, .box [vX, .c (.v (.list gX))]), (2, .box [vX, fX 500000 4]), (3, .box [vX, fX 500001 4]), (500000, .row true .froz gX), (500001, .row true .froz gX)]⟩ [1, 2, 23000, 3, 6, 58001, 7, 8, 9, 10, 500000, 500001] [(true, 2, 1, 500000, .froz, []), (true, 3, 1, 500001, .froz, [])]
 (.seq
 (.seq
 (.reg false [
 oX 27 (.mv (.t 5)),
 oX 28 (.mv (.t 4)),
 oX 29 (.bin .lss (.t 27) (.t 28))])
 (.cond (.t 29)
 .skip
 (.exit 0)))
 (.seq
 (.block 1
 (.seq
 (.reg false [
 oX 32 (.fieldA 1 (.t 3)),
 oX 33 (.load false 1 (.t 32)),
 oX 34 (.mv (.t 5)),
 oX 35 (.idxA 4 (.t 33) (.t 34)),
 oX 36 (.load true 4 (.t 35)),
 oX 6 (.alloc [zX, zX, zX, .nil iX]),
 uX (.store 4 (.t 6) (.t 36))])
 (.seq
 (.seq
 (.reg false [
 oX 37 (.fieldA 0 (.t 6)),
 oX 38 (.load false 1 (.t 37)),
 oX 39 (.fieldA 1 (.t 6)),
 oX 40 (.load false 1 (.t 39)),
 oX 41 (.bin .mul (.t 38) (.t 40)),
 oX 42 (.bin .gtr (.t 41) (kX 64))])
 (.cond (.t 42)
 (.seq
 (.reg false [
 oX 43 (.build [zX, .nil gX] []),
 uX (.store 2 (.t 2) (.t 43))])
 .ret)
 .skip))
 (.seq
 (.reg false [
 oX 45 (.fieldA 0 (.t 1)),
 oX 46 (.load false 1 (.t 45)),
 oX 47 (.fieldA 0 (.t 6)),
 oX 48 (.load false 1 (.t 47)),
 oX 49 (.fieldA 1 (.t 6)),
 oX 50 (.load false 1 (.t 49)),
 oX 51 (.bin .mul (.t 48) (.t 50)),
 oX 52 (.fieldA 2 (.t 6)),
 oX 53 (.load false 1 (.t 52)),
 oX 54 (.fieldA 3 (.t 6)),
 oX 55 (.load false 1 (.t 54)),
 oX 56 (.build [zX, zX, .nil iX] [(0, 1, (.t 51)), (1, 1, (.t 53)), (2, 1, (.t 55))]),
 oX 57 (.call .froz 97 [(.t 46), (.t 56)]),
 oX 44 (.mv (.t 57)),
 oX 58 (.ext 0 (.t 44)),
 oX 59 (.ext 1 (.t 44)),
 oX 7 (.alloc [zX, zX, .nil iX]),
 oX 8 (.alloc [zX, zX, .nil iX]),
 uX (.store 3 (.t 7) (.t 58)),
 uX (.store 3 (.t 8) (.t 59))])
 (.seq
 (.reg false [
 oX 60 (.fieldA 1 (.t 3)),
 oX 61 (.load false 1 (.t 60)),
 oX 62 (.mv (.t 5)),
 oX 63 (.fieldA 0 (.t 6)),
 oX 64 (.load false 1 (.t 63)),
 oX 65 (.fieldA 1 (.t 6)),
 oX 66 (.load false 1 (.t 65)),
 oX 67 (.fieldA 1 (.t 7)),
 oX 68 (.load false 1 (.t 67)),
 oX 69 (.fieldA 2 (.t 7)),
 oX 70 (.load false 1 (.t 69)),
 oX 71 (.build [zX, zX, zX, .nil iX] [(0, 1, (.t 64)), (1, 1, (.t 66)), (2, 1, (.t 68)), (3, 1, (.t 70))]),
 oX 72 (.idxA 4 (.t 61) (.t 62)),
 uX (.store 4 (.t 72) (.t 71))])
 (.seq
 (.reg false [
 oX 73 (.fieldA 1 (.t 3)),
 oX 74 (.load false 1 (.t 73)),
 oX 75 (.mv (.t 5)),
 oX 76 (.bin .add (.t 75) (kX 1)),
 oX 77 (.idxA 4 (.t 74) (.t 76)),
 oX 78 (.load true 4 (.t 77)),
 oX 9 (.alloc [zX, zX, zX, .nil iX]),
 uX (.store 4 (.t 9) (.t 78))])
 (.seq
 (.reg false [
 oX 79 (.fieldA 0 (.t 1)),
 oX 80 (.load false 1 (.t 79)),
 oX 81 (.load true 3 (.t 8)),
 oX 82 (.fieldA 0 (.t 9)),
 oX 83 (.load false 1 (.t 82)),
 oX 84 (.fieldA 1 (.t 9)),
 oX 85 (.load false 1 (.t 84)),
 oX 86 (.fieldA 2 (.t 9)),
 oX 87 (.load false 1 (.t 86)),
 oX 88 (.bin .mul (.t 85) (.t 87)),
 oX 89 (.fieldA 3 (.t 9)),
 oX 90 (.load false 1 (.t 89)),
 oX 91 (.build [zX, zX, .nil iX] [(0, 1, (.t 83)), (1, 1, (.t 88)), (2, 1, (.t 90))]),
 oX 92 (.call .froz 78 [(.t 80), (.t 81), (.t 91)]),
 oX 10 (.alloc [zX, zX, .nil iX]),
 uX (.store 3 (.t 10) (.t 92))])
 (.reg false [
 oX 93 (.fieldA 1 (.t 3)),
 oX 94 (.load false 1 (.t 93)),
 oX 95 (.mv (.t 5)),
 oX 96 (.bin .add (.t 95) (kX 1)),
 oX 97 (.fieldA 1 (.t 7)),
 oX 98 (.load false 1 (.t 97)),
 oX 99 (.fieldA 1 (.t 9)),
 oX 100 (.load false 1 (.t 99)),
 oX 101 (.fieldA 2 (.t 9)),
 oX 102 (.load false 1 (.t 101)),
 oX 103 (.fieldA 2 (.t 10)),
 oX 104 (.load false 1 (.t 103)),
 oX 105 (.build [zX, zX, zX, .nil iX] [(0, 1, (.t 98)), (1, 1, (.t 100)), (2, 1, (.t 102)), (3, 1, (.t 104))]),
 oX 106 (.idxA 4 (.t 94) (.t 96)),
 uX (.store 4 (.t 106) (.t 105))]))))))))
 (.reg false [
 oX 30 (.mv (.t 5)),
 oX 31 (.bin .add (.t 30) (kX 1)),
 oX 5 (.mv (.t 31))])))))))
 (.seq
 (.seq
 (.reg false [
 oX 107 (.mv (.t 4)),
 oX 11 (.mv (.t 107))])
 (.join ⟨[(3, .one (rX 3)), (2, .one (rX 2))], [(2, .box [vX, fX 500006 4]), (3, .box [vX, fX 500007 4]), (500006, .row true .froz gX), (500007, .row true .froz gX)]⟩ [1, 2, 3, 500004, 500005, 500006, 500007] [(true, 2, 1, 500006, .froz, []), (true, 3, 1, 500007, .froz, [])]
 (.block 2
 (.loop 0 ⟨[(1, .one (rX 1)), (2, .one (rX 2)), (3, .one (rX 3)), (11, sX)], [(1, .box [vX, .c (.v (.list gX))]), (2, .box [vX, fX 500004 4]), (3, .box [vX, fX 500005 4]), (500004, .row true .froz gX), (500005, .row true .froz gX)]⟩ [1, 2, 3, 12, 138000, 13, 14, 15, 16, 500002, 500003, 500004, 500005] [(true, 2, 1, 500004, .froz, []), (true, 3, 1, 500005, .froz, [])]
 (.seq
 (.seq
 (.reg false [
 oX 108 (.mv (.t 11)),
 oX 109 (.bin .gtr (.t 108) (kX 0))])
 (.cond (.t 109)
 .skip
 (.exit 2)))
 (.seq
 (.block 3
 (.seq
 (.reg false [
 oX 112 (.fieldA 1 (.t 3)),
 oX 113 (.load false 1 (.t 112)),
 oX 114 (.mv (.t 11)),
 oX 115 (.idxA 4 (.t 113) (.t 114)),
 oX 116 (.load true 4 (.t 115)),
 oX 12 (.alloc [zX, zX, zX, .nil iX]),
 uX (.store 4 (.t 12) (.t 116))])
 (.seq
 (.seq
 (.reg false [
 oX 117 (.fieldA 1 (.t 12)),
 oX 118 (.load false 1 (.t 117)),
 oX 119 (.fieldA 2 (.t 12)),
 oX 120 (.load false 1 (.t 119)),
 oX 121 (.bin .mul (.t 118) (.t 120)),
 oX 122 (.bin .gtr (.t 121) (kX 64))])
 (.cond (.t 122)
 (.seq
 (.reg false [
 oX 123 (.build [zX, .nil gX] []),
 uX (.store 2 (.t 2) (.t 123))])
 .ret)
 .skip))
 (.seq
 (.reg false [
 oX 125 (.fieldA 0 (.t 1)),
 oX 126 (.load false 1 (.t 125)),
 oX 127 (.fieldA 0 (.t 12)),
 oX 128 (.load false 1 (.t 127)),
 oX 129 (.fieldA 1 (.t 12)),
 oX 130 (.load false 1 (.t 129)),
 oX 131 (.fieldA 2 (.t 12)),
 oX 132 (.load false 1 (.t 131)),
 oX 133 (.bin .mul (.t 130) (.t 132)),
 oX 134 (.fieldA 3 (.t 12)),
 oX 135 (.load false 1 (.t 134)),
 oX 136 (.build [zX, zX, .nil iX] [(0, 1, (.t 128)), (1, 1, (.t 133)), (2, 1, (.t 135))]),
 oX 137 (.call .froz 97 [(.t 126), (.t 136)]),
 oX 124 (.mv (.t 137)),
 oX 138 (.ext 0 (.t 124)),
 oX 139 (.ext 1 (.t 124)),
 oX 13 (.alloc [zX, zX, .nil iX]),
 oX 14 (.alloc [zX, zX, .nil iX]),
 uX (.store 3 (.t 13) (.t 138)),
 uX (.store 3 (.t 14) (.t 139))])
 (.seq
 (.reg false [
 oX 140 (.fieldA 1 (.t 3)),
 oX 141 (.load false 1 (.t 140)),
 oX 142 (.mv (.t 11)),
 oX 143 (.fieldA 0 (.t 14)),
 oX 144 (.load false 1 (.t 143)),
 oX 145 (.fieldA 1 (.t 12)),
 oX 146 (.load false 1 (.t 145)),
 oX 147 (.fieldA 2 (.t 12)),
 oX 148 (.load false 1 (.t 147)),
 oX 149 (.fieldA 2 (.t 14)),
 oX 150 (.load false 1 (.t 149)),
 oX 151 (.build [zX, zX, zX, .nil iX] [(0, 1, (.t 144)), (1, 1, (.t 146)), (2, 1, (.t 148)), (3, 1, (.t 150))]),
 oX 152 (.idxA 4 (.t 141) (.t 142)),
 uX (.store 4 (.t 152) (.t 151))])
 (.seq
 (.reg false [
 oX 153 (.fieldA 1 (.t 3)),
 oX 154 (.load false 1 (.t 153)),
 oX 155 (.mv (.t 11)),
 oX 156 (.bin .sub (.t 155) (kX 1)),
 oX 157 (.idxA 4 (.t 154) (.t 156)),
 oX 158 (.load true 4 (.t 157)),
 oX 15 (.alloc [zX, zX, zX, .nil iX]),
 uX (.store 4 (.t 15) (.t 158))])
 (.seq
 (.reg false [
 oX 159 (.fieldA 0 (.t 1)),
 oX 160 (.load false 1 (.t 159)),
 oX 161 (.fieldA 0 (.t 15)),
 oX 162 (.load false 1 (.t 161)),
 oX 163 (.fieldA 1 (.t 15)),
 oX 164 (.load false 1 (.t 163)),
 oX 165 (.bin .mul (.t 162) (.t 164)),
 oX 166 (.fieldA 2 (.t 15)),
 oX 167 (.load false 1 (.t 166)),
 oX 168 (.fieldA 3 (.t 15)),
 oX 169 (.load false 1 (.t 168)),
 oX 170 (.build [zX, zX, .nil iX] [(0, 1, (.t 165)), (1, 1, (.t 167)), (2, 1, (.t 169))]),
 oX 171 (.load true 3 (.t 13)),
 oX 172 (.call .froz 78 [(.t 160), (.t 170), (.t 171)]),
 oX 16 (.alloc [zX, zX, .nil iX]),
 uX (.store 3 (.t 16) (.t 172))])
 (.reg false [
 oX 173 (.fieldA 1 (.t 3)),
 oX 174 (.load false 1 (.t 173)),
 oX 175 (.mv (.t 11)),
 oX 176 (.bin .sub (.t 175) (kX 1)),
 oX 177 (.fieldA 0 (.t 15)),
 oX 178 (.load false 1 (.t 177)),
 oX 179 (.fieldA 1 (.t 15)),
 oX 180 (.load false 1 (.t 179)),
 oX 181 (.fieldA 0 (.t 14)),
 oX 182 (.load false 1 (.t 181)),
 oX 183 (.fieldA 2 (.t 16)),
 oX 184 (.load false 1 (.t 183)),
 oX 185 (.build [zX, zX, zX, .nil iX] [(0, 1, (.t 178)), (1, 1, (.t 180)), (2, 1, (.t 182)), (3, 1, (.t 184))]),
 oX 186 (.idxA 4 (.t 174) (.t 176)),
 uX (.store 4 (.t 186) (.t 185))]))))))))
 (.reg false [
 oX 110 (.mv (.t 11)),
 oX 111 (.bin .sub (.t 110) (kX 1)),
 oX 11 (.mv (.t 111))])))))))
 (.seq
 (.reg false [
 oX 187 (.load true 2 (.t 3)),
 uX (.store 2 (.t 2) (.t 187))])
 .ret)))))))
def ms_spec_CompressChain : List MRes := [.cell 2 2 true]
theorem n_spec_CompressChain (NN : Nat) (x : DLL (Sig.tys ag_spec_CompressChain)) : runS NN [fn_spec_ChainOk, fn_spec_l32Copy, fn_spec_l31Factor, fn_spec_l31Mul] sc_spec_CompressChain ms_spec_CompressChain ag_spec_CompressChain rs_spec_CompressChain x = G_spec_CompressChain NN x := by kernel_rfl
theorem k_spec_CompressChain : chkS Go.Proofs.Try.prog 47 sc_spec_CompressChain.er ms_spec_CompressChain 1 = true := by decide +kernel
theorem p_spec_CompressChain : PureSpec Go.Proofs.Try.prog 47 fn_spec_CompressChain.M ∧ chkFun Go.Proofs.Try.prog 47 = true :=
  pure_of_runS (T := [fn_spec_ChainOk, fn_spec_l32Copy, fn_spec_l31Factor, fn_spec_l31Mul]) (sc := sc_spec_CompressChain) (ms := ms_spec_CompressChain) (args := ag_spec_CompressChain) (res := rs_spec_CompressChain) (SOk.cons p_spec_ChainOk <| SOk.cons p_spec_l32Copy <| SOk.cons p_spec_l31Factor <| SOk.cons p_spec_l31Mul <| SOk.nil) follows_ok k_spec_CompressChain F_spec_CompressChain fun x y h => (n_spec_CompressChain FUEL x).trans (f_spec_CompressChain x y h)

def fn_impl_IsPrime : SFn := ⟨68, ag_impl_IsPrime, mu_impl_IsPrime, rs_impl_IsPrime, F_impl_IsPrime⟩
def sc_impl_IsPrime : SCode :=
 (.seq
 (.reg false [
 oX 2 (.mv (.k (.one (.v (.bool) (false)))))])
 (.seq
 (.seq
 (.reg false [
 oX 4 (.mv (.t 0)),
 oX 5 (.bin .lss (.t 4) (kX 2)),
 oX 6 (.mv (.t 5)),
 ⟨(some 7), .mv (.t 0), (some (6, false))⟩,
 ⟨(some 8), .bin .gtr (.t 7) (kX 1000003), (some (6, false))⟩,
 oX 9 (.pick (.t 6) (.k (.one (.v (.bool) (true)))) (.t 8))])
 (.cond (.t 9)
 (.seq
 (.reg false [
 oX 2 (.mv (.k (.one (.v (.bool) (false)))))])
 .ret)
 .skip))
 (.seq
 (.seq
 (.reg false [
 oX 3 (.mv (kX 2))])
 (.join ⟨[], []⟩ [] []
 (.block 0
 (.loop 0 ⟨[(0, sX), (3, sX)], []⟩ [] []
 (.seq
 (.seq
 (.reg false [
 oX 10 (.mv (.t 3)),
 oX 11 (.mv (.t 3)),
 oX 12 (.bin .mul (.t 10) (.t 11)),
 oX 13 (.mv (.t 0)),
 oX 14 (.bin .leq (.t 12) (.t 13))])
 (.cond (.t 14)
 .skip
 (.exit 0)))
 (.seq
 (.block 1
 (.seq
 (.reg false [
 oX 17 (.mv (.t 0)),
 oX 18 (.mv (.t 3)),
 oX 19 (.bin .rem (.t 17) (.t 18)),
 oX 20 (.bin .eql (.t 19) (kX 0))])
 (.cond (.t 20)
 (.seq
 (.reg false [
 oX 2 (.mv (.k (.one (.v (.bool) (false)))))])
 .ret)
 .skip)))
 (.reg false [
 oX 15 (.mv (.t 3)),
 oX 16 (.bin .add (.t 15) (kX 1)),
 oX 3 (.mv (.t 16))])))))))
 (.seq
 (.reg false [
 oX 2 (.mv (.k (.one (.v (.bool) (true)))))])
 .ret))))
def ms_impl_IsPrime : List MRes := [.tmp 2]
theorem n_impl_IsPrime (NN : Nat) (x : DLL (Sig.tys ag_impl_IsPrime)) : runS NN [] sc_impl_IsPrime ms_impl_IsPrime ag_impl_IsPrime rs_impl_IsPrime x = G_impl_IsPrime NN x := by kernel_rfl
theorem k_impl_IsPrime : chkS Go.Proofs.Try.prog 68 sc_impl_IsPrime.er ms_impl_IsPrime 1 = true := by decide +kernel
theorem p_impl_IsPrime : PureSpec Go.Proofs.Try.prog 68 fn_impl_IsPrime.M ∧ chkFun Go.Proofs.Try.prog 68 = true :=
  pure_of_runS (T := []) (sc := sc_impl_IsPrime) (ms := ms_impl_IsPrime) (args := ag_impl_IsPrime) (res := rs_impl_IsPrime) (SOk.nil) follows_ok k_impl_IsPrime F_impl_IsPrime fun x y h => (n_impl_IsPrime FUEL x).trans (f_impl_IsPrime x y h)

def fn_impl_inMod : SFn := ⟨127, ag_impl_inMod, mu_impl_inMod, rs_impl_inMod, F_impl_inMod⟩
def sc_impl_inMod : SCode :=
 (.seq
 (.reg false [
 oX 4 (.mv (.k (.one (.v (.bool) (false)))))])
 (.seq
 (.seq
 (.reg false [
 oX 7 (.mv (.t 1)),
 oX 8 (.len (.t 7)),
 oX 9 (.mv (kX 0))])
 (.join ⟨[], []⟩ [] []
 (.block 0
 (.loop 0 ⟨[(0, sX), (7, .one (.c (.v (lX)))), (8, sX), (9, sX)], []⟩ [] []
 (.seq
 (.reg false [
 oX 10 (.bin .lss (.t 9) (.t 8))])
 (.seq
 (.cond (.t 10)
 .skip
 (.exit 0))
 (.seq
 (.block 1
 (.seq
 (.reg false [
 oX 11 (.idxA 1 (.t 7) (.t 9)),
 oX 12 (.load false 1 (.t 11)),
 oX 6 (.mv (.t 12))])
 (.seq
 (.reg false [
 oX 13 (.mv (.t 6)),
 oX 14 (.bin .lss (.t 13) (kX 0)),
 oX 15 (.mv (.t 14)),
 ⟨(some 16), .mv (.t 6), (some (15, false))⟩,
 ⟨(some 17), .mv (.t 0), (some (15, false))⟩,
 ⟨(some 18), .bin .geq (.t 16) (.t 17), (some (15, false))⟩,
 oX 19 (.pick (.t 15) (.k (.one (.v (.bool) (true)))) (.t 18))])
 (.cond (.t 19)
 (.seq
 (.reg false [
 oX 4 (.mv (.k (.one (.v (.bool) (false)))))])
 .ret)
 .skip))))
 (.reg false [
 oX 20 (.bin .add (.t 9) (kX 1)),
 oX 9 (.mv (.t 20))]))))))))
 (.seq
 (.reg false [
 oX 4 (.mv (.k (.one (.v (.bool) (true)))))])
 .ret)))
def ms_impl_inMod : List MRes := [.tmp 4]
theorem n_impl_inMod (NN : Nat) (x : DLL (Sig.tys ag_impl_inMod)) : runS NN [] sc_impl_inMod ms_impl_inMod ag_impl_inMod rs_impl_inMod x = G_impl_inMod NN x := by kernel_rfl
theorem k_impl_inMod : chkS Go.Proofs.Try.prog 127 sc_impl_inMod.er ms_impl_inMod 2 = true := by decide +kernel
theorem p_impl_inMod : PureSpec Go.Proofs.Try.prog 127 fn_impl_inMod.M ∧ chkFun Go.Proofs.Try.prog 127 = true :=
  pure_of_runS (T := []) (sc := sc_impl_inMod) (ms := ms_impl_inMod) (args := ag_impl_inMod) (res := rs_impl_inMod) (SOk.nil) follows_ok k_impl_inMod F_impl_inMod fun x y h => (n_impl_inMod FUEL x).trans (f_impl_inMod x y h)

def fn_impl_siteOk : SFn := ⟨69, ag_impl_siteOk, mu_impl_siteOk, rs_impl_siteOk, F_impl_siteOk⟩
def sc_impl_siteOk : SCode :=
 (.seq
 (.reg false [
 oX 3 (.box 4 (.t 1)),
 oX 4 (.mv (.k (.one (.v (.bool) (false)))))])
 (.seq
 (.seq
 (.reg false [
 oX 5 (.fieldA 0 (.t 3)),
 oX 6 (.load false 1 (.t 5)),
 oX 7 (.bin .lss (.t 6) (kX 0)),
 oX 8 (.mv (.t 7)),
 ⟨(some 9), .fieldA 0 (.t 3), (some (8, false))⟩,
 ⟨(some 10), .load false 1 (.t 9), (some (8, false))⟩,
 ⟨(some 11), .bin .gtr (.t 10) (kX 32), (some (8, false))⟩,
 oX 12 (.pick (.t 8) (.k (.one (.v (.bool) (true)))) (.t 11)),
 oX 13 (.mv (.t 12)),
 ⟨(some 14), .fieldA 2 (.t 3), (some (13, false))⟩,
 ⟨(some 15), .load false 1 (.t 14), (some (13, false))⟩,
 ⟨(some 16), .bin .lss (.t 15) (kX 0), (some (13, false))⟩,
 oX 17 (.pick (.t 13) (.k (.one (.v (.bool) (true)))) (.t 16)),
 oX 18 (.mv (.t 17)),
 ⟨(some 19), .fieldA 2 (.t 3), (some (18, false))⟩,
 ⟨(some 20), .load false 1 (.t 19), (some (18, false))⟩,
 ⟨(some 21), .bin .gtr (.t 20) (kX 32), (some (18, false))⟩,
 oX 22 (.pick (.t 18) (.k (.one (.v (.bool) (true)))) (.t 21)),
 oX 23 (.mv (.t 22)),
 ⟨(some 24), .fieldA 1 (.t 3), (some (23, false))⟩,
 ⟨(some 25), .load false 1 (.t 24), (some (23, false))⟩,
 ⟨(some 26), .bin .lss (.t 25) (kX 1), (some (23, false))⟩,
 oX 27 (.pick (.t 23) (.k (.one (.v (.bool) (true)))) (.t 26)),
 oX 28 (.mv (.t 27)),
 ⟨(some 29), .fieldA 1 (.t 3), (some (28, false))⟩,
 ⟨(some 30), .load false 1 (.t 29), (some (28, false))⟩,
 ⟨(some 31), .bin .gtr (.t 30) (kX 8), (some (28, false))⟩,
 oX 32 (.pick (.t 28) (.k (.one (.v (.bool) (true)))) (.t 31))])
 (.cond (.t 32)
 (.seq
 (.reg false [
 oX 4 (.mv (.k (.one (.v (.bool) (false)))))])
 .ret)
 .skip))
 (.seq
 (.reg false [
 oX 33 (.fieldA 3 (.t 3)),
 oX 34 (.load false 1 (.t 33)),
 oX 35 (.len (.t 34)),
 oX 36 (.fieldA 0 (.t 3)),
 oX 37 (.load false 1 (.t 36)),
 oX 38 (.fieldA 1 (.t 3)),
 oX 39 (.load false 1 (.t 38)),
 oX 40 (.bin .mul (.t 37) (.t 39)),
 oX 41 (.fieldA 2 (.t 3)),
 oX 42 (.load false 1 (.t 41)),
 oX 43 (.bin .mul (.t 40) (.t 42)),
 oX 44 (.bin .eql (.t 35) (.t 43)),
 oX 45 (.mv (.t 44)),
 ⟨(some 46), .mv (.t 0), (some (45, true))⟩,
 ⟨(some 47), .fieldA 3 (.t 3), (some (45, true))⟩,
 ⟨(some 48), .load false 1 (.t 47), (some (45, true))⟩,
 ⟨(some 49), .call .froz 127 [(.t 46), (.t 48)], (some (45, true))⟩,
 oX 50 (.pick (.t 45) (.t 49) (.k (.one (.v (.bool) (false))))),
 oX 4 (.mv (.t 50))])
 .ret)))
def ms_impl_siteOk : List MRes := [.tmp 4]
theorem n_impl_siteOk (NN : Nat) (x : DLL (Sig.tys ag_impl_siteOk)) : runS NN [fn_impl_inMod] sc_impl_siteOk ms_impl_siteOk ag_impl_siteOk rs_impl_siteOk x = G_impl_siteOk NN x := by kernel_rfl
theorem k_impl_siteOk : chkS Go.Proofs.Try.prog 69 sc_impl_siteOk.er ms_impl_siteOk 2 = true := by decide +kernel
theorem p_impl_siteOk : PureSpec Go.Proofs.Try.prog 69 fn_impl_siteOk.M ∧ chkFun Go.Proofs.Try.prog 69 = true :=
  pure_of_runS (T := [fn_impl_inMod]) (sc := sc_impl_siteOk) (ms := ms_impl_siteOk) (args := ag_impl_siteOk) (res := rs_impl_siteOk) (SOk.cons p_impl_inMod <| SOk.nil) follows_ok k_impl_siteOk F_impl_siteOk fun x y h => (n_impl_siteOk FUEL x).trans (f_impl_siteOk x y h)

def fn_impl_ChainOk : SFn := ⟨18, ag_impl_ChainOk, mu_impl_ChainOk, rs_impl_ChainOk, F_impl_ChainOk⟩
def sc_impl_ChainOk : SCode :=
 (.seq
 (.reg false [
 oX 1 (.box 2 (.t 0)),
 oX 2 (.mv (.k (.one (.v (.bool) (false)))))])
 (.seq
 (.seq
 (.reg false [
 oX 7 (.fieldA 0 (.t 1)),
 oX 8 (.load false 1 (.t 7)),
 oX 9 (.call .froz 68 [(.t 8)]),
 oX 10 (.un .not (.t 9)),
 oX 11 (.mv (.t 10)),
 ⟨(some 12), .fieldA 1 (.t 1), (some (11, false))⟩,
 ⟨(some 13), .load false 1 (.t 12), (some (11, false))⟩,
 ⟨(some 14), .len (.t 13), (some (11, false))⟩,
 ⟨(some 15), .bin .lss (.t 14) (kX 1), (some (11, false))⟩,
 oX 16 (.pick (.t 11) (.k (.one (.v (.bool) (true)))) (.t 15)),
 oX 17 (.mv (.t 16)),
 ⟨(some 18), .fieldA 1 (.t 1), (some (17, false))⟩,
 ⟨(some 19), .load false 1 (.t 18), (some (17, false))⟩,
 ⟨(some 20), .len (.t 19), (some (17, false))⟩,
 ⟨(some 21), .bin .gtr (.t 20) (kX 8), (some (17, false))⟩,
 oX 22 (.pick (.t 17) (.k (.one (.v (.bool) (true)))) (.t 21))])
 (.cond (.t 22)
 (.seq
 (.reg false [
 oX 2 (.mv (.k (.one (.v (.bool) (false)))))])
 .ret)
 .skip))
 (.seq
 (.reg false [
 oX 3 (.mv (kX 1)),
 oX 4 (.mv (kX 1))])
 (.seq
 (.seq
 (.reg false [
 oX 23 (.fieldA 1 (.t 1)),
 oX 24 (.load false 1 (.t 23)),
 oX 25 (.len (.t 24)),
 oX 26 (.mv (kX 0))])
 (.join ⟨[(3, sX), (4, sX)], []⟩ [1] []
 (.block 0
 (.loop 0 ⟨[(1, .one (rX 1)), (3, sX), (4, sX), (24, .one (.c (.v (.list gX)))), (25, sX), (26, sX)], [(1, .box [vX, .c (.v (.list gX))])]⟩ [1, 6] []
 (.seq
 (.reg false [
 oX 27 (.bin .lss (.t 26) (.t 25))])
 (.seq
 (.cond (.t 27)
 .skip
 (.exit 0))
 (.seq
 (.block 1
 (.seq
 (.reg false [
 oX 28 (.idxA 4 (.t 24) (.t 26)),
 oX 29 (.load true 4 (.t 28)),
 oX 6 (.alloc [zX, zX, zX, .nil iX]),
 uX (.store 4 (.t 6) (.t 29))])
 (.seq
 (.seq
 (.reg false [
 oX 30 (.fieldA 0 (.t 1)),
 oX 31 (.load false 1 (.t 30)),
 oX 32 (.load true 4 (.t 6)),
 oX 33 (.call .froz 69 [(.t 31), (.t 32)]),
 oX 34 (.un .not (.t 33)),
 oX 35 (.mv (.t 34)),
 ⟨(some 36), .fieldA 0 (.t 6), (some (35, false))⟩,
 ⟨(some 37), .load false 1 (.t 36), (some (35, false))⟩,
 ⟨(some 38), .mv (.t 3), (some (35, false))⟩,
 ⟨(some 39), .bin .neq (.t 37) (.t 38), (some (35, false))⟩,
 oX 40 (.pick (.t 35) (.k (.one (.v (.bool) (true)))) (.t 39))])
 (.cond (.t 40)
 (.seq
 (.reg false [
 oX 2 (.mv (.k (.one (.v (.bool) (false)))))])
 .ret)
 .skip))
 (.seq
 (.reg false [
 oX 41 (.fieldA 2 (.t 6)),
 oX 42 (.load false 1 (.t 41)),
 oX 3 (.mv (.t 42))])
 (.reg false [
 oX 43 (.mv (.t 4)),
 oX 44 (.fieldA 1 (.t 6)),
 oX 45 (.load false 1 (.t 44)),
 oX 46 (.bin .mul (.t 43) (.t 45)),
 oX 4 (.mv (.t 46))])))))
 (.reg false [
 oX 47 (.bin .add (.t 26) (kX 1)),
 oX 26 (.mv (.t 47))]))))))))
 (.seq
 (.reg false [
 oX 48 (.mv (.t 3)),
 oX 49 (.bin .eql (.t 48) (kX 1)),
 oX 50 (.mv (.t 49)),
 ⟨(some 51), .mv (.t 4), (some (50, true))⟩,
 ⟨(some 52), .bin .leq (.t 51) (kX 4096), (some (50, true))⟩,
 oX 53 (.pick (.t 50) (.t 52) (.k (.one (.v (.bool) (false))))),
 oX 2 (.mv (.t 53))])
 .ret)))))
def ms_impl_ChainOk : List MRes := [.tmp 2]
theorem n_impl_ChainOk (NN : Nat) (x : DLL (Sig.tys ag_impl_ChainOk)) : runS NN [fn_impl_IsPrime, fn_impl_siteOk] sc_impl_ChainOk ms_impl_ChainOk ag_impl_ChainOk rs_impl_ChainOk x = G_impl_ChainOk NN x := by kernel_rfl
theorem k_impl_ChainOk : chkS Go.Proofs.Try.prog 18 sc_impl_ChainOk.er ms_impl_ChainOk 1 = true := by decide +kernel
theorem p_impl_ChainOk : PureSpec Go.Proofs.Try.prog 18 fn_impl_ChainOk.M ∧ chkFun Go.Proofs.Try.prog 18 = true :=
  pure_of_runS (T := [fn_impl_IsPrime, fn_impl_siteOk]) (sc := sc_impl_ChainOk) (ms := ms_impl_ChainOk) (args := ag_impl_ChainOk) (res := rs_impl_ChainOk) (SOk.cons p_impl_IsPrime <| SOk.cons p_impl_siteOk <| SOk.nil) follows_ok k_impl_ChainOk F_impl_ChainOk fun x y h => (n_impl_ChainOk FUEL x).trans (f_impl_ChainOk x y h)

def fn_impl_copyInts : SFn := ⟨124, ag_impl_copyInts, mu_impl_copyInts, rs_impl_copyInts, F_impl_copyInts⟩
def sc_impl_copyInts : SCode :=
 (.seq
 (.reg false [
 oX 2 (.mv (.k (.one (.nil iX))))])
 (.seq
 (.reg false [
 oX 3 (.mv (.t 0)),
 oX 4 (.append true iX 8 (.k (.one (.nil iX))) (.t 3)),
 oX 2 (.mv (.t 4))])
 .ret))
def ms_impl_copyInts : List MRes := [.tmp 2]
theorem n_impl_copyInts (NN : Nat) (x : DLL (Sig.tys ag_impl_copyInts)) : runS NN [] sc_impl_copyInts ms_impl_copyInts ag_impl_copyInts rs_impl_copyInts x = G_impl_copyInts NN x := by kernel_rfl
theorem k_impl_copyInts : chkS Go.Proofs.Try.prog 124 sc_impl_copyInts.er ms_impl_copyInts 1 = true := by decide +kernel
theorem p_impl_copyInts : PureSpec Go.Proofs.Try.prog 124 fn_impl_copyInts.M ∧ chkFun Go.Proofs.Try.prog 124 = true :=
  pure_of_runS (T := []) (sc := sc_impl_copyInts) (ms := ms_impl_copyInts) (args := ag_impl_copyInts) (res := rs_impl_copyInts) (SOk.nil) follows_ok k_impl_copyInts F_impl_copyInts fun x y h => (n_impl_copyInts FUEL x).trans (f_impl_copyInts x y h)

def fn_impl_copyChain : SFn := ⟨94, ag_impl_copyChain, mu_impl_copyChain, rs_impl_copyChain, F_impl_copyChain⟩
def sc_impl_copyChain : SCode :=
 (.seq
 (.reg false [
 oX 1 (.box 2 (.t 0)),
 oX 2 (.alloc [zX, .nil gX])])
 (.seq
 (.reg false [
 oX 6 (.fieldA 0 (.t 1)),
 oX 7 (.load false 1 (.t 6)),
 oX 8 (.build [zX, .nil gX] [(0, 1, (.t 7))]),
 oX 3 (.alloc [zX, .nil gX]),
 uX (.store 2 (.t 3) (.t 8))])
 (.seq
 (.seq
 (.reg false [
 oX 9 (.fieldA 1 (.t 1)),
 oX 10 (.load false 1 (.t 9)),
 oX 11 (.len (.t 10)),
 oX 12 (.mv (kX 0))])
 (.join ⟨[(3, .one (rX 3)), (2, .one (rX 2))], [(2, .box [vX, fX 500002 4]), (3, .box [vX, fX 500003 4]), (500002, .row true .froz gX), (500003, .row true .froz gX)]⟩ [2, 3, 500000, 500001, 500002, 500003] [(true, 2, 1, 500002, .froz, []), (true, 3, 1, 500003, .froz, [])]
 (.block 0
 (.loop 0 ⟨[(2, .one (rX 2)), (3, .one (rX 3)), (10, .one (.c (.v (.list gX)))), (11, sX), (12, sX)], [(2, .box [vX, fX 500000 4]), (3, .box [vX, fX 500001 4]), (500000, .row true .froz gX), (500001, .row true .froz gX)]⟩ [1, 2, 3, 5, 29, 500000, 500001] [(true, 2, 1, 500000, .froz, []), (true, 3, 1, 500001, .froz, [])]
 (.seq
 (.reg false [
 oX 13 (.bin .lss (.t 12) (.t 11))])
 (.seq
 (.cond (.t 13)
 .skip
 (.exit 0))
 (.seq
 (.block 1
 (.seq
 (.reg false [
 oX 14 (.idxA 4 (.t 10) (.t 12)),
 oX 15 (.load true 4 (.t 14)),
 oX 5 (.alloc [zX, zX, zX, .nil iX]),
 uX (.store 4 (.t 5) (.t 15))])
 (.regD [(0, 12), (1, 12)] [
 oX 16 (.fieldA 1 (.t 3)),
 oX 17 (.load false 1 (.t 16)),
 oX 18 (.fieldA 0 (.t 5)),
 oX 19 (.load false 1 (.t 18)),
 oX 20 (.fieldA 1 (.t 5)),
 oX 21 (.load false 1 (.t 20)),
 oX 22 (.fieldA 2 (.t 5)),
 oX 23 (.load false 1 (.t 22)),
 oX 24 (.fieldA 3 (.t 5)),
 oX 25 (.load false 1 (.t 24)),
 oX 26 (.call .froz 124 [(.t 25)]),
 oX 27 (.build [zX, zX, zX, .nil iX] [(0, 1, (.t 19)), (1, 1, (.t 21)), (2, 1, (.t 23)), (3, 1, (.t 26))]),
 oX 28 (.bslice gX [(.t 27)]),
 oX 29 (.append false gX 48 (.t 17) (.t 28)),
 oX 30 (.fieldA 1 (.t 3)),
 uX (.store 1 (.t 30) (.t 29))])))
 (.reg false [
 oX 31 (.bin .add (.t 12) (kX 1)),
 oX 12 (.mv (.t 31))]))))))))
 (.seq
 (.reg false [
 oX 32 (.load true 2 (.t 3)),
 uX (.store 2 (.t 2) (.t 32))])
 .ret))))
def ms_impl_copyChain : List MRes := [.cell 2 2 true]
theorem n_impl_copyChain (NN : Nat) (x : DLL (Sig.tys ag_impl_copyChain)) : runS NN [fn_impl_copyInts] sc_impl_copyChain ms_impl_copyChain ag_impl_copyChain rs_impl_copyChain x = G_impl_copyChain NN x := by kernel_rfl
theorem k_impl_copyChain : chkS Go.Proofs.Try.prog 94 sc_impl_copyChain.er ms_impl_copyChain 1 = true := by decide +kernel
theorem p_impl_copyChain : PureSpec Go.Proofs.Try.prog 94 fn_impl_copyChain.M ∧ chkFun Go.Proofs.Try.prog 94 = true :=
  pure_of_runS (T := [fn_impl_copyInts]) (sc := sc_impl_copyChain) (ms := ms_impl_copyChain) (args := ag_impl_copyChain) (res := rs_impl_copyChain) (SOk.cons p_impl_copyInts <| SOk.nil) follows_ok k_impl_copyChain F_impl_copyChain fun x y h => (n_impl_copyChain FUEL x).trans (f_impl_copyChain x y h)

def fn_impl_MatrixOk : SFn := ⟨93, ag_impl_MatrixOk, mu_impl_MatrixOk, rs_impl_MatrixOk, F_impl_MatrixOk⟩
def sc_impl_MatrixOk : SCode :=
 (.seq
 (.reg false [
 oX 3 (.box 3 (.t 1)),
 oX 4 (.mv (.k (.one (.v (.bool) (false)))))])
 (.seq
 (.seq
 (.reg false [
 oX 5 (.mv (.t 0)),
 oX 6 (.call .froz 68 [(.t 5)]),
 oX 7 (.un .not (.t 6)),
 oX 8 (.mv (.t 7)),
 ⟨(some 9), .fieldA 0 (.t 3), (some (8, false))⟩,
 ⟨(some 10), .load false 1 (.t 9), (some (8, false))⟩,
 ⟨(some 11), .bin .lss (.t 10) (kX 0), (some (8, false))⟩,
 oX 12 (.pick (.t 8) (.k (.one (.v (.bool) (true)))) (.t 11)),
 oX 13 (.mv (.t 12)),
 ⟨(some 14), .fieldA 1 (.t 3), (some (13, false))⟩,
 ⟨(some 15), .load false 1 (.t 14), (some (13, false))⟩,
 ⟨(some 16), .bin .lss (.t 15) (kX 0), (some (13, false))⟩,
 oX 17 (.pick (.t 13) (.k (.one (.v (.bool) (true)))) (.t 16)),
 oX 18 (.mv (.t 17)),
 ⟨(some 19), .fieldA 0 (.t 3), (some (18, false))⟩,
 ⟨(some 20), .load false 1 (.t 19), (some (18, false))⟩,
 ⟨(some 21), .bin .gtr (.t 20) (kX 64), (some (18, false))⟩,
 oX 22 (.pick (.t 18) (.k (.one (.v (.bool) (true)))) (.t 21)),
 oX 23 (.mv (.t 22)),
 ⟨(some 24), .fieldA 1 (.t 3), (some (23, false))⟩,
 ⟨(some 25), .load false 1 (.t 24), (some (23, false))⟩,
 ⟨(some 26), .bin .gtr (.t 25) (kX 64), (some (23, false))⟩,
 oX 27 (.pick (.t 23) (.k (.one (.v (.bool) (true)))) (.t 26))])
 (.cond (.t 27)
 (.seq
 (.reg false [
 oX 4 (.mv (.k (.one (.v (.bool) (false)))))])
 .ret)
 .skip))
 (.seq
 (.reg false [
 oX 28 (.fieldA 2 (.t 3)),
 oX 29 (.load false 1 (.t 28)),
 oX 30 (.len (.t 29)),
 oX 31 (.fieldA 0 (.t 3)),
 oX 32 (.load false 1 (.t 31)),
 oX 33 (.fieldA 1 (.t 3)),
 oX 34 (.load false 1 (.t 33)),
 oX 35 (.bin .mul (.t 32) (.t 34)),
 oX 36 (.bin .eql (.t 30) (.t 35)),
 oX 37 (.mv (.t 36)),
 ⟨(some 38), .mv (.t 0), (some (37, true))⟩,
 ⟨(some 39), .fieldA 2 (.t 3), (some (37, true))⟩,
 ⟨(some 40), .load false 1 (.t 39), (some (37, true))⟩,
 ⟨(some 41), .call .froz 127 [(.t 38), (.t 40)], (some (37, true))⟩,
 oX 42 (.pick (.t 37) (.t 41) (.k (.one (.v (.bool) (false))))),
 oX 4 (.mv (.t 42))])
 .ret)))
def ms_impl_MatrixOk : List MRes := [.tmp 4]
theorem n_impl_MatrixOk (NN : Nat) (x : DLL (Sig.tys ag_impl_MatrixOk)) : runS NN [fn_impl_IsPrime, fn_impl_inMod] sc_impl_MatrixOk ms_impl_MatrixOk ag_impl_MatrixOk rs_impl_MatrixOk x = G_impl_MatrixOk NN x := by kernel_rfl
theorem k_impl_MatrixOk : chkS Go.Proofs.Try.prog 93 sc_impl_MatrixOk.er ms_impl_MatrixOk 2 = true := by decide +kernel
theorem p_impl_MatrixOk : PureSpec Go.Proofs.Try.prog 93 fn_impl_MatrixOk.M ∧ chkFun Go.Proofs.Try.prog 93 = true :=
  pure_of_runS (T := [fn_impl_IsPrime, fn_impl_inMod]) (sc := sc_impl_MatrixOk) (ms := ms_impl_MatrixOk) (args := ag_impl_MatrixOk) (res := rs_impl_MatrixOk) (SOk.cons p_impl_IsPrime <| SOk.cons p_impl_inMod <| SOk.nil) follows_ok k_impl_MatrixOk F_impl_MatrixOk fun x y h => (n_impl_MatrixOk FUEL x).trans (f_impl_MatrixOk x y h)

def fn_impl_copyMatrix : SFn := ⟨158, ag_impl_copyMatrix, mu_impl_copyMatrix, rs_impl_copyMatrix, F_impl_copyMatrix⟩
def sc_impl_copyMatrix : SCode :=
 (.seq
 (.reg false [
 oX 1 (.box 3 (.t 0)),
 oX 2 (.alloc [zX, zX, .nil iX])])
 (.seq
 (.reg true [
 oX 3 (.fieldA 0 (.t 1)),
 oX 4 (.load false 1 (.t 3)),
 oX 5 (.fieldA 1 (.t 1)),
 oX 6 (.load false 1 (.t 5)),
 oX 7 (.fieldA 2 (.t 1)),
 oX 8 (.load false 1 (.t 7)),
 oX 9 (.call .froz 124 [(.t 8)]),
 oX 10 (.build [zX, zX, .nil iX] [(0, 1, (.t 4)), (1, 1, (.t 6)), (2, 1, (.t 9))]),
 uX (.store 3 (.t 2) (.t 10))])
 .ret))
def ms_impl_copyMatrix : List MRes := [.cell 2 3 true]
theorem n_impl_copyMatrix (NN : Nat) (x : DLL (Sig.tys ag_impl_copyMatrix)) : runS NN [fn_impl_copyInts] sc_impl_copyMatrix ms_impl_copyMatrix ag_impl_copyMatrix rs_impl_copyMatrix x = G_impl_copyMatrix NN x := by kernel_rfl
theorem k_impl_copyMatrix : chkS Go.Proofs.Try.prog 158 sc_impl_copyMatrix.er ms_impl_copyMatrix 1 = true := by decide +kernel
theorem p_impl_copyMatrix : PureSpec Go.Proofs.Try.prog 158 fn_impl_copyMatrix.M ∧ chkFun Go.Proofs.Try.prog 158 = true :=
  pure_of_runS (T := [fn_impl_copyInts]) (sc := sc_impl_copyMatrix) (ms := ms_impl_copyMatrix) (args := ag_impl_copyMatrix) (res := rs_impl_copyMatrix) (SOk.cons p_impl_copyInts <| SOk.nil) follows_ok k_impl_copyMatrix F_impl_copyMatrix fun x y h => (n_impl_copyMatrix FUEL x).trans (f_impl_copyMatrix x y h)

def fn_impl_Matrix_at : SFn := ⟨95, ag_impl_Matrix_at, mu_impl_Matrix_at, rs_impl_Matrix_at, F_impl_Matrix_at⟩
def sc_impl_Matrix_at : SCode :=
 (.seq
 (.reg false [
 oX 3 (.box 3 (.t 0)),
 oX 6 (.mv (kX 0))])
 (.seq
 (.reg false [
 oX 7 (.fieldA 2 (.t 3)),
 oX 8 (.load false 1 (.t 7)),
 oX 9 (.mv (.t 1)),
 oX 10 (.fieldA 1 (.t 3)),
 oX 11 (.load false 1 (.t 10)),
 oX 12 (.bin .mul (.t 9) (.t 11)),
 oX 13 (.mv (.t 2)),
 oX 14 (.bin .add (.t 12) (.t 13)),
 oX 15 (.idxA 1 (.t 8) (.t 14)),
 oX 16 (.load false 1 (.t 15)),
 oX 6 (.mv (.t 16))])
 .ret))
def ms_impl_Matrix_at : List MRes := [.tmp 6]
theorem n_impl_Matrix_at (NN : Nat) (x : DLL (Sig.tys ag_impl_Matrix_at)) : runS NN [] sc_impl_Matrix_at ms_impl_Matrix_at ag_impl_Matrix_at rs_impl_Matrix_at x = G_impl_Matrix_at NN x := by kernel_rfl
theorem k_impl_Matrix_at : chkS Go.Proofs.Try.prog 95 sc_impl_Matrix_at.er ms_impl_Matrix_at 3 = true := by decide +kernel
theorem p_impl_Matrix_at : PureSpec Go.Proofs.Try.prog 95 fn_impl_Matrix_at.M ∧ chkFun Go.Proofs.Try.prog 95 = true :=
  pure_of_runS (T := []) (sc := sc_impl_Matrix_at) (ms := ms_impl_Matrix_at) (args := ag_impl_Matrix_at) (res := rs_impl_Matrix_at) (SOk.nil) follows_ok k_impl_Matrix_at F_impl_Matrix_at fun x y h => (n_impl_Matrix_at FUEL x).trans (f_impl_Matrix_at x y h)

def fn_impl_Matrix_set : SFn := ⟨101, ag_impl_Matrix_set, mu_impl_Matrix_set, rs_impl_Matrix_set, F_impl_Matrix_set⟩
def sc_impl_Matrix_set : SCode :=
 (.seq
 (.reg false [
 oX 4 (.box 3 (.t 0))])
 (.reg false [
 oX 8 (.fieldA 2 (.t 4)),
 oX 9 (.load false 1 (.t 8)),
 oX 10 (.mv (.t 1)),
 oX 11 (.fieldA 1 (.t 4)),
 oX 12 (.load false 1 (.t 11)),
 oX 13 (.bin .mul (.t 10) (.t 12)),
 oX 14 (.mv (.t 2)),
 oX 15 (.bin .add (.t 13) (.t 14)),
 oX 16 (.mv (.t 3)),
 oX 17 (.idxA 1 (.t 9) (.t 15)),
 uX (.store 1 (.t 17) (.t 16))]))
def ms_impl_Matrix_set : List MRes := []
theorem n_impl_Matrix_set (NN : Nat) (x : DLL (Sig.tys ag_impl_Matrix_set)) : runMS NN [] sc_impl_Matrix_set ms_impl_Matrix_set ag_impl_Matrix_set mu_impl_Matrix_set rs_impl_Matrix_set x = G_impl_Matrix_set NN x := by kernel_rfl
theorem k_impl_Matrix_set : chkS Go.Proofs.Try.prog 101 sc_impl_Matrix_set.er ms_impl_Matrix_set 4 = true := by decide +kernel
theorem p_impl_Matrix_set : MutSpec Go.Proofs.Try.prog 101 mu_impl_Matrix_set fn_impl_Matrix_set.MM ∧ chkFun Go.Proofs.Try.prog 101 = true :=
  mut_of_runMS (T := []) (sc := sc_impl_Matrix_set) (ms := ms_impl_Matrix_set) (args := ag_impl_Matrix_set) (mu := mu_impl_Matrix_set) (res := rs_impl_Matrix_set) (SOk.nil) follows_ok k_impl_Matrix_set F_impl_Matrix_set fun x y h => (n_impl_Matrix_set FUEL x).trans (f_impl_Matrix_set x y h)

def fn_impl_Matrix_swapRows : SFn := ⟨159, ag_impl_Matrix_swapRows, mu_impl_Matrix_swapRows, rs_impl_Matrix_swapRows, F_impl_Matrix_swapRows⟩
def sc_impl_Matrix_swapRows : SCode :=
 (.seq
 (.reg false [
 oX 3 (.box 3 (.t 0))])
 (.seq
 (.reg false [
 oX 6 (.mv (kX 0))])
 (.block 0
 (.loop 0 ⟨[(1, sX), (2, sX), (3, .one (rX 3)), (6, sX)], [(1000000, .row false .froz iX), (3, .box [vX, vX, fX 1000000 1])]⟩ [1000000, 3, 500000] [(true, 3, 2, 500000, .froz, [])]
 (.seq
 (.seq
 (.reg false [
 oX 9 (.mv (.t 6)),
 oX 10 (.fieldA 1 (.t 3)),
 oX 11 (.load false 1 (.t 10)),
 oX 12 (.bin .lss (.t 9) (.t 11))])
 (.cond (.t 12)
 .skip
 (.exit 0)))
 (.seq
 (.block 1
 (.seq
 (.reg true [
 oX 15 (.load true 3 (.t 3)),
 oX 16 (.mv (.t 1)),
 oX 17 (.mv (.t 6)),
 oX 18 (.call .froz 95 [(.t 15), (.t 16), (.t 17)]),
 oX 19 (.load true 3 (.t 3)),
 oX 20 (.mv (.t 2)),
 oX 21 (.mv (.t 6)),
 oX 22 (.call .froz 95 [(.t 19), (.t 20), (.t 21)]),
 oX 7 (.mv (.t 18)),
 oX 8 (.mv (.t 22))])
 (.seq
 (.reg false [
 oX 23 (.load true 3 (.t 3)),
 oX 24 (.mv (.t 1)),
 oX 25 (.mv (.t 6)),
 oX 26 (.mv (.t 8)),
 oX 27 (.callm .froz 101 [(.t 23), (.t 24), (.t 25), (.t 26)])])
 (.reg false [
 oX 28 (.load true 3 (.t 3)),
 oX 29 (.mv (.t 2)),
 oX 30 (.mv (.t 6)),
 oX 31 (.mv (.t 7)),
 oX 32 (.callm .froz 101 [(.t 28), (.t 29), (.t 30), (.t 31)])]))))
 (.reg false [
 oX 13 (.mv (.t 6)),
 oX 14 (.bin .add (.t 13) (kX 1)),
 oX 6 (.mv (.t 14))])))))))
def ms_impl_Matrix_swapRows : List MRes := []
theorem n_impl_Matrix_swapRows (NN : Nat) (x : DLL (Sig.tys ag_impl_Matrix_swapRows)) : runMS NN [fn_impl_Matrix_at, fn_impl_Matrix_set] sc_impl_Matrix_swapRows ms_impl_Matrix_swapRows ag_impl_Matrix_swapRows mu_impl_Matrix_swapRows rs_impl_Matrix_swapRows x = G_impl_Matrix_swapRows NN x := by kernel_rfl
theorem k_impl_Matrix_swapRows : chkS Go.Proofs.Try.prog 159 sc_impl_Matrix_swapRows.er ms_impl_Matrix_swapRows 3 = true := by decide +kernel
theorem p_impl_Matrix_swapRows : MutSpec Go.Proofs.Try.prog 159 mu_impl_Matrix_swapRows fn_impl_Matrix_swapRows.MM ∧ chkFun Go.Proofs.Try.prog 159 = true :=
  mut_of_runMS (T := [fn_impl_Matrix_at, fn_impl_Matrix_set]) (sc := sc_impl_Matrix_swapRows) (ms := ms_impl_Matrix_swapRows) (args := ag_impl_Matrix_swapRows) (mu := mu_impl_Matrix_swapRows) (res := rs_impl_Matrix_swapRows) (SOk.cons p_impl_Matrix_at <| SOk.consM p_impl_Matrix_set <| SOk.nil) follows_ok k_impl_Matrix_swapRows F_impl_Matrix_swapRows fun x y h => (n_impl_Matrix_swapRows FUEL x).trans (f_impl_Matrix_swapRows x y h)

def fn_impl_rawInverse : SFn := ⟨160, ag_impl_rawInverse, mu_impl_rawInverse, rs_impl_rawInverse, F_impl_rawInverse⟩
def sc_impl_rawInverse : SCode :=
 (.seq
 (.reg false [
 oX 4 (.mv (kX 0))])
 (.seq
 (.reg false [
 oX 5 (.mv (kX 1))])
 (.seq
 (.seq
 (.reg false [
 oX 7 (.mv (.t 0)),
 oX 8 (.bin .sub (.t 7) (kX 2)),
 oX 6 (.mv (.t 8))])
 (.join ⟨[(5, sX)], []⟩ [] []
 (.block 0
 (.loop 0 ⟨[(0, sX), (1, sX), (5, sX), (6, sX)], []⟩ [] []
 (.seq
 (.seq
 (.reg false [
 oX 9 (.mv (.t 6)),
 oX 10 (.bin .gtr (.t 9) (kX 0))])
 (.cond (.t 10)
 .skip
 (.exit 0)))
 (.seq
 (.block 1
 (.seq
 (.seq
 (.reg false [
 oX 13 (.mv (.t 6)),
 oX 14 (.bin .and (.t 13) (kX 1)),
 oX 15 (.bin .eql (.t 14) (kX 1))])
 (.join ⟨[(1, sX), (6, sX), (0, sX), (5, sX)], []⟩ [] []
 (.cond (.t 15)
 (.reg false [
 oX 16 (.mv (.t 5)),
 oX 17 (.mv (.t 1)),
 oX 18 (.bin .mul (.t 16) (.t 17)),
 oX 19 (.mv (.t 0)),
 oX 20 (.bin .rem (.t 18) (.t 19)),
 oX 5 (.mv (.t 20))])
 .skip)))
 (.reg false [
 oX 21 (.mv (.t 1)),
 oX 22 (.mv (.t 1)),
 oX 23 (.bin .mul (.t 21) (.t 22)),
 oX 24 (.mv (.t 0)),
 oX 25 (.bin .rem (.t 23) (.t 24)),
 oX 1 (.mv (.t 25))])))
 (.reg false [
 oX 11 (.mv (.t 6)),
 oX 12 (.bin .shr (.t 11) (.k (.one (.v (.int .u64) ((1 : Int)))))),
 oX 6 (.mv (.t 12))])))))))
 (.seq
 (.reg false [
 oX 26 (.mv (.t 5)),
 oX 4 (.mv (.t 26))])
 .ret))))
def ms_impl_rawInverse : List MRes := [.tmp 4]
theorem n_impl_rawInverse (NN : Nat) (x : DLL (Sig.tys ag_impl_rawInverse)) : runS NN [] sc_impl_rawInverse ms_impl_rawInverse ag_impl_rawInverse rs_impl_rawInverse x = G_impl_rawInverse NN x := by kernel_rfl
theorem k_impl_rawInverse : chkS Go.Proofs.Try.prog 160 sc_impl_rawInverse.er ms_impl_rawInverse 2 = true := by decide +kernel
theorem p_impl_rawInverse : PureSpec Go.Proofs.Try.prog 160 fn_impl_rawInverse.M ∧ chkFun Go.Proofs.Try.prog 160 = true :=
  pure_of_runS (T := []) (sc := sc_impl_rawInverse) (ms := ms_impl_rawInverse) (args := ag_impl_rawInverse) (res := rs_impl_rawInverse) (SOk.nil) follows_ok k_impl_rawInverse F_impl_rawInverse fun x y h => (n_impl_rawInverse FUEL x).trans (f_impl_rawInverse x y h)

def fn_impl_Matrix_addRow : SFn := ⟨161, ag_impl_Matrix_addRow, mu_impl_Matrix_addRow, rs_impl_Matrix_addRow, F_impl_Matrix_addRow⟩
def sc_impl_Matrix_addRow : SCode :=
 (.seq
 (.reg false [
 oX 5 (.box 3 (.t 0))])
 (.seq
 (.reg false [
 oX 10 (.mv (kX 0))])
 (.block 0
 (.loop 0 ⟨[(1, sX), (2, sX), (3, sX), (4, sX), (5, .one (rX 5)), (10, sX)], [(1000000, .row false .froz iX), (5, .box [vX, vX, fX 1000000 1])]⟩ [1000000, 5, 500000] [(true, 5, 2, 500000, .froz, [])]
 (.seq
 (.seq
 (.reg false [
 oX 11 (.mv (.t 10)),
 oX 12 (.fieldA 1 (.t 5)),
 oX 13 (.load false 1 (.t 12)),
 oX 14 (.bin .lss (.t 11) (.t 13))])
 (.cond (.t 14)
 .skip
 (.exit 0)))
 (.seq
 (.block 1
 (.reg true [
 oX 17 (.load true 3 (.t 5)),
 oX 18 (.mv (.t 2)),
 oX 19 (.mv (.t 10)),
 oX 20 (.load true 3 (.t 5)),
 oX 21 (.mv (.t 2)),
 oX 22 (.mv (.t 10)),
 oX 23 (.call .froz 95 [(.t 20), (.t 21), (.t 22)]),
 oX 24 (.mv (.t 4)),
 oX 25 (.load true 3 (.t 5)),
 oX 26 (.mv (.t 3)),
 oX 27 (.mv (.t 10)),
 oX 28 (.call .froz 95 [(.t 25), (.t 26), (.t 27)]),
 oX 29 (.bin .mul (.t 24) (.t 28)),
 oX 30 (.bin .add (.t 23) (.t 29)),
 oX 31 (.mv (.t 1)),
 oX 32 (.bin .rem (.t 30) (.t 31)),
 oX 33 (.callm .froz 101 [(.t 17), (.t 18), (.t 19), (.t 32)])]))
 (.reg false [
 oX 15 (.mv (.t 10)),
 oX 16 (.bin .add (.t 15) (kX 1)),
 oX 10 (.mv (.t 16))])))))))
def ms_impl_Matrix_addRow : List MRes := []
theorem n_impl_Matrix_addRow (NN : Nat) (x : DLL (Sig.tys ag_impl_Matrix_addRow)) : runMS NN [fn_impl_Matrix_at, fn_impl_Matrix_set] sc_impl_Matrix_addRow ms_impl_Matrix_addRow ag_impl_Matrix_addRow mu_impl_Matrix_addRow rs_impl_Matrix_addRow x = G_impl_Matrix_addRow NN x := by kernel_rfl
theorem k_impl_Matrix_addRow : chkS Go.Proofs.Try.prog 161 sc_impl_Matrix_addRow.er ms_impl_Matrix_addRow 5 = true := by decide +kernel
theorem p_impl_Matrix_addRow : MutSpec Go.Proofs.Try.prog 161 mu_impl_Matrix_addRow fn_impl_Matrix_addRow.MM ∧ chkFun Go.Proofs.Try.prog 161 = true :=
  mut_of_runMS (T := [fn_impl_Matrix_at, fn_impl_Matrix_set]) (sc := sc_impl_Matrix_addRow) (ms := ms_impl_Matrix_addRow) (args := ag_impl_Matrix_addRow) (mu := mu_impl_Matrix_addRow) (res := rs_impl_Matrix_addRow) (SOk.cons p_impl_Matrix_at <| SOk.consM p_impl_Matrix_set <| SOk.nil) follows_ok k_impl_Matrix_addRow F_impl_Matrix_addRow fun x y h => (n_impl_Matrix_addRow FUEL x).trans (f_impl_Matrix_addRow x y h)

def fn_impl_rawReduce : SFn := ⟨134, ag_impl_rawReduce, mu_impl_rawReduce, rs_impl_rawReduce, F_impl_rawReduce⟩
def sc_impl_rawReduce : SCode :=
 (.seq
 (.reg false [
 oX 3 (.box 3 (.t 1)),
 oX 4 (.alloc [zX, zX, .nil iX]),
 oX 5 (.mv (.k (.one (.nil iX))))])
 (.seq
 (.reg false [
 oX 14 (.load true 3 (.t 3)),
 oX 15 (.call .froz 158 [(.t 14)]),
 oX 6 (.alloc [zX, zX, .nil iX]),
 uX (.store 3 (.t 6) (.t 15))])
 (.seq
 (.reg false [
 oX 7 (.mv (.k (.one (.nil iX))))])
 (.seq
 (.seq
 (.reg false [
 oX 8 (.mv (kX 0))])
 (.join ⟨[(6, .one (rX 6)), (7, .one (fX 500026 1)), (4, .one (rX 4))], [(4, .box [vX, vX, fX 500024 1]), (6, .box [vX, vX, fX 500025 1]), (500024, .row true .froz iX), (500025, .row true .froz iX), (500026, .row true .froz iX)]⟩ [4, 6, 500000, 500001, 500002, 500024, 500025, 500026] [(true, 4, 2, 500024, .froz, []), (true, 6, 2, 500025, .froz, []), (false, 7, 0, 500026, .froz, [])]
 (.block 0
 (.loop 0 ⟨[(0, sX), (4, .one (rX 4)), (6, .one (rX 6)), (7, .one (fX 500002 1)), (8, sX)], [(4, .box [vX, vX, fX 500000 1]), (6, .box [vX, vX, fX 500001 1]), (500000, .row true .froz iX), (500001, .row true .froz iX), (500002, .row true .froz iX)]⟩ [3, 4, 16000, 6, 500000, 500001, 500002, 500021, 500022, 500023] [(true, 4, 2, 500000, .froz, []), (true, 6, 2, 500001, .froz, []), (false, 7, 0, 500002, .froz, [])]
 (.seq
 (.seq
 (.reg false [
 oX 16 (.mv (.t 8)),
 oX 17 (.fieldA 1 (.t 6)),
 oX 18 (.load false 1 (.t 17)),
 oX 19 (.bin .lss (.t 16) (.t 18))])
 (.cond (.t 19)
 .skip
 (.exit 0)))
 (.seq
 (.join ⟨[(8, sX), (0, sX), (4, .one (rX 4)), (6, .one (rX 6)), (7, .one (fX 500023 1))], [(4, .box [vX, vX, fX 500021 1]), (6, .box [vX, vX, fX 500022 1]), (500021, .row true .froz iX), (500022, .row true .froz iX), (500023, .row true .froz iX)]⟩ [4, 6, 99, 100, 500006, 500007, 500008, 500018, 500019, 500021, 500022, 500023] [(true, 4, 2, 500021, .froz, []), (true, 6, 2, 500022, .froz, []), (false, 7, 0, 500023, .froz, [])]
 (.block 1
 (.seq
 (.reg false [
 oX 22 (.mv (.t 7)),
 oX 23 (.len (.t 22)),
 oX 9 (.mv (.t 23))])
 (.seq
 (.reg false [
 oX 24 (.mv (.t 9)),
 oX 10 (.mv (.t 24))])
 (.seq
 (.join ⟨[(10, sX), (9, sX), (7, .one (fX 500008 1)), (8, sX), (0, sX), (4, .one (rX 4)), (6, .one (rX 6))], [(4, .box [vX, vX, fX 500006 1]), (6, .box [vX, vX, fX 500007 1]), (500006, .row true .froz iX), (500007, .row true .froz iX), (500008, .row true .froz iX)]⟩ [4, 6, 500003, 500004, 500005, 500006, 500007, 500008] [(true, 4, 2, 500006, .froz, []), (true, 6, 2, 500007, .froz, []), (false, 7, 0, 500008, .froz, [])]
 (.block 2
 (.loop 0 ⟨[(0, sX), (4, .one (rX 4)), (6, .one (rX 6)), (7, .one (fX 500005 1)), (8, sX), (9, sX), (10, sX)], [(4, .box [vX, vX, fX 500003 1]), (6, .box [vX, vX, fX 500004 1]), (500003, .row true .froz iX), (500004, .row true .froz iX), (500005, .row true .froz iX)]⟩ [4, 6, 500000, 500001, 500002, 500003, 500004, 500005] [(true, 4, 2, 500003, .froz, []), (true, 6, 2, 500004, .froz, []), (false, 7, 0, 500005, .froz, [])]
 (.seq
 (.seq
 (.reg false [
 oX 25 (.mv (.t 10)),
 oX 26 (.fieldA 0 (.t 6)),
 oX 27 (.load false 1 (.t 26)),
 oX 28 (.bin .lss (.t 25) (.t 27)),
 oX 29 (.mv (.t 28)),
 ⟨(some 30), .load true 3 (.t 6), (some (29, true))⟩,
 ⟨(some 31), .mv (.t 10), (some (29, true))⟩,
 ⟨(some 32), .mv (.t 8), (some (29, true))⟩,
 ⟨(some 33), .call .froz 95 [(.t 30), (.t 31), (.t 32)], (some (29, true))⟩,
 ⟨(some 34), .bin .eql (.t 33) (kX 0), (some (29, true))⟩,
 oX 35 (.pick (.t 29) (.t 34) (.k (.one (.v (.bool) (false)))))])
 (.cond (.t 35)
 .skip
 (.exit 2)))
 (.block 3
 (.reg false [
 oX 36 (.mv (.t 10)),
 oX 37 (.bin .add (.t 36) (kX 1)),
 oX 10 (.mv (.t 37))]))))))
 (.seq
 (.seq
 (.reg false [
 oX 38 (.mv (.t 10)),
 oX 39 (.fieldA 0 (.t 6)),
 oX 40 (.load false 1 (.t 39)),
 oX 41 (.bin .eql (.t 38) (.t 40))])
 (.cond (.t 41)
 (.exit 1)
 .skip))
 (.seq
 (.reg false [
 oX 42 (.load true 3 (.t 6)),
 oX 43 (.mv (.t 9)),
 oX 44 (.mv (.t 10)),
 oX 45 (.callm .froz 159 [(.t 42), (.t 43), (.t 44)])])
 (.seq
 (.reg false [
 oX 46 (.mv (.t 0)),
 oX 47 (.load true 3 (.t 6)),
 oX 48 (.mv (.t 9)),
 oX 49 (.mv (.t 8)),
 oX 50 (.call .froz 95 [(.t 47), (.t 48), (.t 49)]),
 oX 51 (.call .froz 160 [(.t 46), (.t 50)]),
 oX 11 (.mv (.t 51))])
 (.seq
 (.seq
 (.reg false [
 oX 12 (.mv (kX 0))])
 (.join ⟨[(6, .one (rX 6)), (4, .one (rX 4)), (0, sX), (8, sX), (7, .one (fX 500014 1)), (9, sX)], [(4, .box [vX, vX, fX 500012 1]), (6, .box [vX, vX, fX 500013 1]), (500012, .row true .froz iX), (500013, .row true .froz iX), (500014, .row true .froz iX)]⟩ [4, 6, 500009, 500010, 500011, 500012, 500013, 500014] [(true, 4, 2, 500012, .froz, []), (true, 6, 2, 500013, .froz, []), (false, 7, 0, 500014, .froz, [])]
 (.block 4
 (.loop 0 ⟨[(0, sX), (4, .one (rX 4)), (6, .one (rX 6)), (7, .one (fX 500011 1)), (8, sX), (9, sX), (11, sX), (12, sX)], [(4, .box [vX, vX, fX 500009 1]), (6, .box [vX, vX, fX 500010 1]), (500009, .row true .froz iX), (500010, .row true .froz iX), (500011, .row true .froz iX)]⟩ [4, 6, 500006, 500007, 500008, 500009, 500010, 500011] [(true, 4, 2, 500009, .froz, []), (true, 6, 2, 500010, .froz, []), (false, 7, 0, 500011, .froz, [])]
 (.seq
 (.seq
 (.reg false [
 oX 52 (.mv (.t 12)),
 oX 53 (.fieldA 1 (.t 6)),
 oX 54 (.load false 1 (.t 53)),
 oX 55 (.bin .lss (.t 52) (.t 54))])
 (.cond (.t 55)
 .skip
 (.exit 4)))
 (.seq
 (.block 5
 (.reg true [
 oX 58 (.load true 3 (.t 6)),
 oX 59 (.mv (.t 9)),
 oX 60 (.mv (.t 12)),
 oX 61 (.load true 3 (.t 6)),
 oX 62 (.mv (.t 9)),
 oX 63 (.mv (.t 12)),
 oX 64 (.call .froz 95 [(.t 61), (.t 62), (.t 63)]),
 oX 65 (.mv (.t 11)),
 oX 66 (.bin .mul (.t 64) (.t 65)),
 oX 67 (.mv (.t 0)),
 oX 68 (.bin .rem (.t 66) (.t 67)),
 oX 69 (.callm .froz 101 [(.t 58), (.t 59), (.t 60), (.t 68)])]))
 (.reg false [
 oX 56 (.mv (.t 12)),
 oX 57 (.bin .add (.t 56) (kX 1)),
 oX 12 (.mv (.t 57))])))))))
 (.seq
 (.seq
 (.reg false [
 oX 13 (.mv (kX 0))])
 (.join ⟨[(7, .one (fX 500020 1)), (8, sX), (0, sX), (4, .one (rX 4)), (6, .one (rX 6))], [(4, .box [vX, vX, fX 500018 1]), (6, .box [vX, vX, fX 500019 1]), (500018, .row true .froz iX), (500019, .row true .froz iX), (500020, .row true .froz iX)]⟩ [4, 6, 500015, 500016, 500017, 500018, 500019, 500020] [(true, 4, 2, 500018, .froz, []), (true, 6, 2, 500019, .froz, []), (false, 7, 0, 500020, .froz, [])]
 (.block 6
 (.loop 0 ⟨[(0, sX), (4, .one (rX 4)), (6, .one (rX 6)), (7, .one (fX 500017 1)), (8, sX), (9, sX), (13, sX)], [(4, .box [vX, vX, fX 500015 1]), (6, .box [vX, vX, fX 500016 1]), (500015, .row true .froz iX), (500016, .row true .froz iX), (500017, .row true .froz iX)]⟩ [4, 6, 500012, 500013, 500014, 500015, 500016, 500017] [(true, 4, 2, 500015, .froz, []), (true, 6, 2, 500016, .froz, []), (false, 7, 0, 500017, .froz, [])]
 (.seq
 (.seq
 (.reg false [
 oX 70 (.mv (.t 13)),
 oX 71 (.fieldA 0 (.t 6)),
 oX 72 (.load false 1 (.t 71)),
 oX 73 (.bin .lss (.t 70) (.t 72))])
 (.cond (.t 73)
 .skip
 (.exit 6)))
 (.seq
 (.block 7
 (.seq
 (.reg false [
 oX 76 (.mv (.t 13)),
 oX 77 (.mv (.t 9)),
 oX 78 (.bin .neq (.t 76) (.t 77)),
 oX 79 (.mv (.t 78)),
 ⟨(some 80), .load true 3 (.t 6), (some (79, true))⟩,
 ⟨(some 81), .mv (.t 13), (some (79, true))⟩,
 ⟨(some 82), .mv (.t 8), (some (79, true))⟩,
 ⟨(some 83), .call .froz 95 [(.t 80), (.t 81), (.t 82)], (some (79, true))⟩,
 ⟨(some 84), .bin .neq (.t 83) (kX 0), (some (79, true))⟩,
 oX 85 (.pick (.t 79) (.t 84) (.k (.one (.v (.bool) (false)))))])
 (.cond (.t 85)
 (.reg true [
 oX 86 (.load true 3 (.t 6)),
 oX 87 (.mv (.t 0)),
 oX 88 (.mv (.t 13)),
 oX 89 (.mv (.t 9)),
 oX 90 (.mv (.t 0)),
 oX 91 (.load true 3 (.t 6)),
 oX 92 (.mv (.t 13)),
 oX 93 (.mv (.t 8)),
 oX 94 (.call .froz 95 [(.t 91), (.t 92), (.t 93)]),
 oX 95 (.bin .sub (.t 90) (.t 94)),
 oX 96 (.callm .froz 161 [(.t 86), (.t 87), (.t 88), (.t 89), (.t 95)])])
 .skip)))
 (.reg false [
 oX 74 (.mv (.t 13)),
 oX 75 (.bin .add (.t 74) (kX 1)),
 oX 13 (.mv (.t 75))])))))))
 (.reg false [
 oX 97 (.mv (.t 7)),
 oX 98 (.mv (.t 8)),
 oX 99 (.bslice iX [(.t 98)]),
 oX 100 (.append true iX 8 (.t 97) (.t 99)),
 oX 7 (.mv (.t 100))])))))))))))
 (.reg false [
 oX 20 (.mv (.t 8)),
 oX 21 (.bin .add (.t 20) (kX 1)),
 oX 8 (.mv (.t 21))])))))))
 (.seq
 (.reg false [
 oX 101 (.load true 3 (.t 6)),
 oX 102 (.mv (.t 7)),
 uX (.store 3 (.t 4) (.t 101)),
 oX 5 (.mv (.t 102))])
 .ret)))))
def ms_impl_rawReduce : List MRes := [.cell 4 3 true, .tmp 5]
theorem n_impl_rawReduce (NN : Nat) (x : DLL (Sig.tys ag_impl_rawReduce)) : runS NN [fn_impl_copyMatrix, fn_impl_Matrix_at, fn_impl_Matrix_swapRows, fn_impl_rawInverse, fn_impl_Matrix_set, fn_impl_Matrix_addRow] sc_impl_rawReduce ms_impl_rawReduce ag_impl_rawReduce rs_impl_rawReduce x = G_impl_rawReduce NN x := by kernel_rfl
theorem k_impl_rawReduce : chkS Go.Proofs.Try.prog 134 sc_impl_rawReduce.er ms_impl_rawReduce 2 = true := by decide +kernel
theorem p_impl_rawReduce : PureSpec Go.Proofs.Try.prog 134 fn_impl_rawReduce.M ∧ chkFun Go.Proofs.Try.prog 134 = true :=
  pure_of_runS (T := [fn_impl_copyMatrix, fn_impl_Matrix_at, fn_impl_Matrix_swapRows, fn_impl_rawInverse, fn_impl_Matrix_set, fn_impl_Matrix_addRow]) (sc := sc_impl_rawReduce) (ms := ms_impl_rawReduce) (args := ag_impl_rawReduce) (res := rs_impl_rawReduce) (SOk.cons p_impl_copyMatrix <| SOk.cons p_impl_Matrix_at <| SOk.consM p_impl_Matrix_swapRows <| SOk.cons p_impl_rawInverse <| SOk.consM p_impl_Matrix_set <| SOk.consM p_impl_Matrix_addRow <| SOk.nil) follows_ok k_impl_rawReduce F_impl_rawReduce fun x y h => (n_impl_rawReduce FUEL x).trans (f_impl_rawReduce x y h)

def fn_impl_emptyMatrix : SFn := ⟨82, ag_impl_emptyMatrix, mu_impl_emptyMatrix, rs_impl_emptyMatrix, F_impl_emptyMatrix⟩
def sc_impl_emptyMatrix : SCode :=
 (.seq
 (.reg false [
 oX 4 (.alloc [zX, zX, .nil iX])])
 (.seq
 (.reg false [
 oX 5 (.mv (.t 0)),
 oX 6 (.mv (.t 1)),
 oX 7 (.mv (.t 0)),
 oX 8 (.mv (.t 1)),
 oX 9 (.bin .mul (.t 7) (.t 8)),
 oX 10 (.mkslice .froz iX 8 (0 : Int) (.t 9) (.t 9)),
 oX 11 (.build [zX, zX, .nil iX] [(0, 1, (.t 5)), (1, 1, (.t 6)), (2, 1, (.t 10))]),
 uX (.store 3 (.t 4) (.t 11))])
 .ret))
def ms_impl_emptyMatrix : List MRes := [.cell 4 3 true]
theorem n_impl_emptyMatrix (NN : Nat) (x : DLL (Sig.tys ag_impl_emptyMatrix)) : runS NN [] sc_impl_emptyMatrix ms_impl_emptyMatrix ag_impl_emptyMatrix rs_impl_emptyMatrix x = G_impl_emptyMatrix NN x := by kernel_rfl
theorem k_impl_emptyMatrix : chkS Go.Proofs.Try.prog 82 sc_impl_emptyMatrix.er ms_impl_emptyMatrix 2 = true := by decide +kernel
theorem p_impl_emptyMatrix : PureSpec Go.Proofs.Try.prog 82 fn_impl_emptyMatrix.M ∧ chkFun Go.Proofs.Try.prog 82 = true :=
  pure_of_runS (T := []) (sc := sc_impl_emptyMatrix) (ms := ms_impl_emptyMatrix) (args := ag_impl_emptyMatrix) (res := rs_impl_emptyMatrix) (SOk.nil) follows_ok k_impl_emptyMatrix F_impl_emptyMatrix fun x y h => (n_impl_emptyMatrix FUEL x).trans (f_impl_emptyMatrix x y h)

def fn_impl_FactorMatrix : SFn := ⟨98, ag_impl_FactorMatrix, mu_impl_FactorMatrix, rs_impl_FactorMatrix, F_impl_FactorMatrix⟩
def sc_impl_FactorMatrix : SCode :=
 (.seq
 (.reg false [
 oX 3 (.box 3 (.t 1)),
 oX 4 (.alloc [zX, zX, .nil iX]),
 oX 5 (.alloc [zX, zX, .nil iX]),
 oX 6 (.mv (.k (.one (.v (.bool) (false)))))])
 (.seq
 (.seq
 (.reg false [
 oX 15 (.mv (.t 0)),
 oX 16 (.load true 3 (.t 3)),
 oX 17 (.call .froz 93 [(.t 15), (.t 16)]),
 oX 18 (.un .not (.t 17))])
 (.cond (.t 18)
 (.seq
 (.reg false [
 oX 19 (.build [zX, zX, .nil iX] []),
 oX 20 (.build [zX, zX, .nil iX] []),
 uX (.store 3 (.t 4) (.t 19)),
 uX (.store 3 (.t 5) (.t 20)),
 oX 6 (.mv (.k (.one (.v (.bool) (false)))))])
 .ret)
 .skip))
 (.seq
 (.reg false [
 oX 22 (.mv (.t 0)),
 oX 23 (.load true 3 (.t 3)),
 oX 24 (.call .froz 134 [(.t 22), (.t 23)]),
 oX 21 (.mv (.t 24)),
 oX 25 (.ext 0 (.t 21)),
 oX 26 (.ext 1 (.t 21)),
 oX 7 (.alloc [zX, zX, .nil iX]),
 uX (.store 3 (.t 7) (.t 25)),
 oX 8 (.mv (.t 26))])
 (.seq
 (.reg false [
 oX 27 (.mv (.t 8)),
 oX 28 (.len (.t 27)),
 oX 9 (.mv (.t 28))])
 (.seq
 (.reg false [
 oX 29 (.fieldA 0 (.t 3)),
 oX 30 (.load false 1 (.t 29)),
 oX 31 (.mv (.t 9)),
 oX 32 (.call .froz 82 [(.t 30), (.t 31)]),
 oX 10 (.alloc [zX, zX, .nil iX]),
 uX (.store 3 (.t 10) (.t 32))])
 (.seq
 (.seq
 (.reg false [
 oX 11 (.mv (kX 0))])
 (.join ⟨[(7, .one (rX 7)), (9, sX), (3, .one (rX 3)), (10, .one (rX 10)), (4, .one (rX 4)), (5, .one (rX 5))], [(3, .box [vX, vX, .c (.v (lX))]), (4, .box [vX, vX, fX 500015 1]), (5, .box [vX, vX, fX 500016 1]), (7, .box [vX, vX, fX 500017 1]), (10, .box [vX, vX, fX 500018 1]), (500015, .row true .froz iX), (500016, .row true .froz iX), (500017, .row true .froz iX), (500018, .row true .froz iX)]⟩ [3, 4, 5, 7, 10, 500000, 500001, 500002, 500003, 500004, 500015, 500016, 500017, 500018] [(true, 4, 2, 500015, .froz, []), (true, 5, 2, 500016, .froz, []), (true, 7, 2, 500017, .froz, []), (true, 10, 2, 500018, .froz, [])]
 (.block 0
 (.loop 0 ⟨[(3, .one (rX 3)), (4, .one (rX 4)), (5, .one (rX 5)), (7, .one (rX 7)), (8, .one (fX 500004 1)), (9, sX), (10, .one (rX 10)), (11, sX)], [(3, .box [vX, vX, .c (.v (lX))]), (4, .box [vX, vX, fX 500000 1]), (5, .box [vX, vX, fX 500001 1]), (7, .box [vX, vX, fX 500002 1]), (10, .box [vX, vX, fX 500003 1]), (500000, .row true .froz iX), (500001, .row true .froz iX), (500002, .row true .froz iX), (500003, .row true .froz iX), (500004, .row true .froz iX)]⟩ [3, 4, 5, 25000, 25001, 7, 33000, 10, 500000, 500001, 500002, 500003, 500004, 500010, 500011, 500012, 500013, 500014] [(true, 4, 2, 500000, .froz, []), (true, 5, 2, 500001, .froz, []), (true, 7, 2, 500002, .froz, []), (true, 10, 2, 500003, .froz, []), (false, 8, 0, 500004, .froz, [])]
 (.seq
 (.seq
 (.reg false [
 oX 33 (.mv (.t 11)),
 oX 34 (.fieldA 0 (.t 3)),
 oX 35 (.load false 1 (.t 34)),
 oX 36 (.bin .lss (.t 33) (.t 35))])
 (.cond (.t 36)
 .skip
 (.exit 0)))
 (.seq
 (.join ⟨[(11, sX), (3, .one (rX 3)), (4, .one (rX 4)), (5, .one (rX 5)), (7, .one (rX 7)), (8, .one (fX 500014 1)), (9, sX), (10, .one (rX 10))], [(3, .box [vX, vX, .c (.v (lX))]), (4, .box [vX, vX, fX 500010 1]), (5, .box [vX, vX, fX 500011 1]), (7, .box [vX, vX, fX 500012 1]), (10, .box [vX, vX, fX 500013 1]), (500010, .row true .froz iX), (500011, .row true .froz iX), (500012, .row true .froz iX), (500013, .row true .froz iX), (500014, .row true .froz iX)]⟩ [3, 4, 5, 7, 10, 500005, 500006, 500007, 500008, 500009, 500010, 500011, 500012, 500013, 500014] [(true, 4, 2, 500010, .froz, []), (true, 5, 2, 500011, .froz, []), (true, 7, 2, 500012, .froz, []), (true, 10, 2, 500013, .froz, []), (false, 8, 0, 500014, .froz, [])]
 (.block 1
 (.seq
 (.reg false [
 oX 39 (.mv (.t 8)),
 oX 40 (.len (.t 39)),
 oX 41 (.mv (kX 0))])
 (.block 2
 (.loop 0 ⟨[(3, .one (rX 3)), (4, .one (rX 4)), (5, .one (rX 5)), (7, .one (rX 7)), (8, .one (fX 500009 1)), (9, sX), (10, .one (rX 10)), (11, sX), (39, .one (fX 500009 1)), (40, sX), (41, sX)], [(3, .box [vX, vX, .c (.v (lX))]), (4, .box [vX, vX, fX 500005 1]), (5, .box [vX, vX, fX 500006 1]), (7, .box [vX, vX, fX 500007 1]), (10, .box [vX, vX, fX 500008 1]), (500005, .row true .froz iX), (500006, .row true .froz iX), (500007, .row true .froz iX), (500008, .row true .froz iX), (500009, .row true .froz iX)]⟩ [3, 4, 5, 7, 10, 500000, 500001, 500002, 500003, 500004, 500005, 500006, 500007, 500008, 500009] [(true, 4, 2, 500005, .froz, []), (true, 5, 2, 500006, .froz, []), (true, 7, 2, 500007, .froz, []), (true, 10, 2, 500008, .froz, []), (false, 8, 0, 500009, .froz, [])]
 (.seq
 (.reg false [
 oX 42 (.bin .lss (.t 41) (.t 40))])
 (.seq
 (.cond (.t 42)
 .skip
 (.exit 2))
 (.seq
 (.block 3
 (.seq
 (.reg false [
 oX 43 (.mv (.t 41)),
 oX 44 (.idxA 1 (.t 39) (.t 41)),
 oX 45 (.load false 1 (.t 44)),
 oX 12 (.mv (.t 43)),
 oX 13 (.mv (.t 45))])
 (.reg true [
 oX 46 (.load true 3 (.t 10)),
 oX 47 (.mv (.t 11)),
 oX 48 (.mv (.t 12)),
 oX 49 (.load true 3 (.t 3)),
 oX 50 (.mv (.t 11)),
 oX 51 (.mv (.t 13)),
 oX 52 (.call .froz 95 [(.t 49), (.t 50), (.t 51)]),
 oX 53 (.callm .froz 101 [(.t 46), (.t 47), (.t 48), (.t 52)])])))
 (.reg false [
 oX 54 (.bin .add (.t 41) (kX 1)),
 oX 41 (.mv (.t 54))])))))))))
 (.reg false [
 oX 37 (.mv (.t 11)),
 oX 38 (.bin .add (.t 37) (kX 1)),
 oX 11 (.mv (.t 38))])))))))
 (.seq
 (.reg true [
 oX 55 (.mv (.t 9)),
 oX 56 (.fieldA 1 (.t 3)),
 oX 57 (.load false 1 (.t 56)),
 oX 58 (.fieldA 2 (.t 7)),
 oX 59 (.load false 1 (.t 58)),
 oX 60 (.mv (.t 9)),
 oX 61 (.fieldA 1 (.t 3)),
 oX 62 (.load false 1 (.t 61)),
 oX 63 (.bin .mul (.t 60) (.t 62)),
 oX 64 (.slice 1 (.t 59) none (some (.t 63))),
 oX 65 (.call .froz 124 [(.t 64)]),
 oX 66 (.build [zX, zX, .nil iX] [(0, 1, (.t 55)), (1, 1, (.t 57)), (2, 1, (.t 65))]),
 oX 14 (.alloc [zX, zX, .nil iX]),
 uX (.store 3 (.t 14) (.t 66))])
 (.seq
 (.regD [(1, 2)] [
 oX 67 (.load true 3 (.t 10)),
 oX 68 (.load true 3 (.t 14)),
 uX (.store 3 (.t 4) (.t 67)),
 uX (.store 3 (.t 5) (.t 68)),
 oX 6 (.mv (.k (.one (.v (.bool) (true)))))])
 .ret))))))))
def ms_impl_FactorMatrix : List MRes := [.cell 4 3 true, .cell 5 3 true, .tmp 6]
theorem n_impl_FactorMatrix (NN : Nat) (x : DLL (Sig.tys ag_impl_FactorMatrix)) : runS NN [fn_impl_MatrixOk, fn_impl_rawReduce, fn_impl_emptyMatrix, fn_impl_Matrix_at, fn_impl_Matrix_set, fn_impl_copyInts] sc_impl_FactorMatrix ms_impl_FactorMatrix ag_impl_FactorMatrix rs_impl_FactorMatrix x = G_impl_FactorMatrix NN x := by kernel_rfl
theorem k_impl_FactorMatrix : chkS Go.Proofs.Try.prog 98 sc_impl_FactorMatrix.er ms_impl_FactorMatrix 2 = true := by decide +kernel
theorem p_impl_FactorMatrix : PureSpec Go.Proofs.Try.prog 98 fn_impl_FactorMatrix.M ∧ chkFun Go.Proofs.Try.prog 98 = true :=
  pure_of_runS (T := [fn_impl_MatrixOk, fn_impl_rawReduce, fn_impl_emptyMatrix, fn_impl_Matrix_at, fn_impl_Matrix_set, fn_impl_copyInts]) (sc := sc_impl_FactorMatrix) (ms := ms_impl_FactorMatrix) (args := ag_impl_FactorMatrix) (res := rs_impl_FactorMatrix) (SOk.cons p_impl_MatrixOk <| SOk.cons p_impl_rawReduce <| SOk.cons p_impl_emptyMatrix <| SOk.cons p_impl_Matrix_at <| SOk.consM p_impl_Matrix_set <| SOk.cons p_impl_copyInts <| SOk.nil) follows_ok k_impl_FactorMatrix F_impl_FactorMatrix fun x y h => (n_impl_FactorMatrix FUEL x).trans (f_impl_FactorMatrix x y h)

def fn_impl_rawMulMatrix : SFn := ⟨83, ag_impl_rawMulMatrix, mu_impl_rawMulMatrix, rs_impl_rawMulMatrix, F_impl_rawMulMatrix⟩
def sc_impl_rawMulMatrix : SCode :=
 (.seq
 (.reg false [
 oX 4 (.box 3 (.t 1)),
 oX 5 (.box 3 (.t 2)),
 oX 6 (.alloc [zX, zX, .nil iX])])
 (.seq
 (.reg false [
 oX 12 (.fieldA 0 (.t 4)),
 oX 13 (.load false 1 (.t 12)),
 oX 14 (.fieldA 1 (.t 5)),
 oX 15 (.load false 1 (.t 14)),
 oX 16 (.call .froz 82 [(.t 13), (.t 15)]),
 oX 7 (.alloc [zX, zX, .nil iX]),
 uX (.store 3 (.t 7) (.t 16))])
 (.seq
 (.seq
 (.reg false [
 oX 8 (.mv (kX 0))])
 (.join ⟨[(7, .one (rX 7)), (6, .one (rX 6))], [(6, .box [vX, vX, fX 500012 1]), (7, .box [vX, vX, fX 500013 1]), (500012, .row true .froz iX), (500013, .row true .froz iX)]⟩ [4, 5, 6, 7, 500000, 500001, 500012, 500013] [(true, 6, 2, 500012, .froz, []), (true, 7, 2, 500013, .froz, [])]
 (.block 0
 (.loop 0 ⟨[(0, sX), (4, .one (rX 4)), (5, .one (rX 5)), (6, .one (rX 6)), (7, .one (rX 7)), (8, sX)], [(4, .box [vX, vX, .c (.v (lX))]), (5, .box [vX, vX, .c (.v (lX))]), (6, .box [vX, vX, fX 500000 1]), (7, .box [vX, vX, fX 500001 1]), (500000, .row true .froz iX), (500001, .row true .froz iX)]⟩ [4, 5, 6, 17000, 7, 500000, 500001, 500010, 500011] [(true, 6, 2, 500000, .froz, []), (true, 7, 2, 500001, .froz, [])]
 (.seq
 (.seq
 (.reg false [
 oX 17 (.mv (.t 8)),
 oX 18 (.fieldA 0 (.t 4)),
 oX 19 (.load false 1 (.t 18)),
 oX 20 (.bin .lss (.t 17) (.t 19))])
 (.cond (.t 20)
 .skip
 (.exit 0)))
 (.seq
 (.join ⟨[(8, sX), (0, sX), (4, .one (rX 4)), (5, .one (rX 5)), (6, .one (rX 6)), (7, .one (rX 7))], [(4, .box [vX, vX, .c (.v (lX))]), (5, .box [vX, vX, .c (.v (lX))]), (6, .box [vX, vX, fX 500010 1]), (7, .box [vX, vX, fX 500011 1]), (500010, .row true .froz iX), (500011, .row true .froz iX)]⟩ [4, 5, 6, 7, 500002, 500003, 500010, 500011] [(true, 6, 2, 500010, .froz, []), (true, 7, 2, 500011, .froz, [])]
 (.block 1
 (.seq
 (.reg false [
 oX 9 (.mv (kX 0))])
 (.block 2
 (.loop 0 ⟨[(0, sX), (4, .one (rX 4)), (5, .one (rX 5)), (6, .one (rX 6)), (7, .one (rX 7)), (8, sX), (9, sX)], [(4, .box [vX, vX, .c (.v (lX))]), (5, .box [vX, vX, .c (.v (lX))]), (6, .box [vX, vX, fX 500002 1]), (7, .box [vX, vX, fX 500003 1]), (500002, .row true .froz iX), (500003, .row true .froz iX)]⟩ [4, 5, 6, 7, 500000, 500001, 500002, 500003, 500008, 500009] [(true, 6, 2, 500002, .froz, []), (true, 7, 2, 500003, .froz, [])]
 (.seq
 (.seq
 (.reg false [
 oX 23 (.mv (.t 9)),
 oX 24 (.fieldA 1 (.t 5)),
 oX 25 (.load false 1 (.t 24)),
 oX 26 (.bin .lss (.t 23) (.t 25))])
 (.cond (.t 26)
 .skip
 (.exit 2)))
 (.seq
 (.join ⟨[(9, sX), (0, sX), (4, .one (rX 4)), (5, .one (rX 5)), (6, .one (rX 6)), (7, .one (rX 7)), (8, sX)], [(4, .box [vX, vX, .c (.v (lX))]), (5, .box [vX, vX, .c (.v (lX))]), (6, .box [vX, vX, fX 500008 1]), (7, .box [vX, vX, fX 500009 1]), (500008, .row true .froz iX), (500009, .row true .froz iX)]⟩ [4, 5, 6, 7, 500006, 500007, 500008, 500009] [(true, 6, 2, 500008, .froz, []), (true, 7, 2, 500009, .froz, [])]
 (.block 3
 (.seq
 (.reg false [
 oX 10 (.mv (kX 0))])
 (.seq
 (.seq
 (.reg false [
 oX 11 (.mv (kX 0))])
 (.join ⟨[(10, sX), (9, sX), (0, sX), (4, .one (rX 4)), (5, .one (rX 5)), (6, .one (rX 6)), (7, .one (rX 7)), (8, sX)], [(4, .box [vX, vX, .c (.v (lX))]), (5, .box [vX, vX, .c (.v (lX))]), (6, .box [vX, vX, fX 500006 1]), (7, .box [vX, vX, fX 500007 1]), (500006, .row true .froz iX), (500007, .row true .froz iX)]⟩ [4, 5, 6, 7, 500004, 500005, 500006, 500007] [(true, 6, 2, 500006, .froz, []), (true, 7, 2, 500007, .froz, [])]
 (.block 4
 (.loop 0 ⟨[(0, sX), (4, .one (rX 4)), (5, .one (rX 5)), (6, .one (rX 6)), (7, .one (rX 7)), (8, sX), (9, sX), (10, sX), (11, sX)], [(4, .box [vX, vX, .c (.v (lX))]), (5, .box [vX, vX, .c (.v (lX))]), (6, .box [vX, vX, fX 500004 1]), (7, .box [vX, vX, fX 500005 1]), (500004, .row true .froz iX), (500005, .row true .froz iX)]⟩ [4, 5, 6, 7, 500002, 500003, 500004, 500005] [(true, 6, 2, 500004, .froz, []), (true, 7, 2, 500005, .froz, [])]
 (.seq
 (.seq
 (.reg false [
 oX 29 (.mv (.t 11)),
 oX 30 (.fieldA 1 (.t 4)),
 oX 31 (.load false 1 (.t 30)),
 oX 32 (.bin .lss (.t 29) (.t 31))])
 (.cond (.t 32)
 .skip
 (.exit 4)))
 (.seq
 (.block 5
 (.reg true [
 oX 35 (.mv (.t 10)),
 oX 36 (.load true 3 (.t 4)),
 oX 37 (.mv (.t 8)),
 oX 38 (.mv (.t 11)),
 oX 39 (.call .froz 95 [(.t 36), (.t 37), (.t 38)]),
 oX 40 (.load true 3 (.t 5)),
 oX 41 (.mv (.t 11)),
 oX 42 (.mv (.t 9)),
 oX 43 (.call .froz 95 [(.t 40), (.t 41), (.t 42)]),
 oX 44 (.bin .mul (.t 39) (.t 43)),
 oX 45 (.bin .add (.t 35) (.t 44)),
 oX 46 (.mv (.t 0)),
 oX 47 (.bin .rem (.t 45) (.t 46)),
 oX 10 (.mv (.t 47))]))
 (.reg false [
 oX 33 (.mv (.t 11)),
 oX 34 (.bin .add (.t 33) (kX 1)),
 oX 11 (.mv (.t 34))])))))))
 (.reg false [
 oX 48 (.load true 3 (.t 7)),
 oX 49 (.mv (.t 8)),
 oX 50 (.mv (.t 9)),
 oX 51 (.mv (.t 10)),
 oX 52 (.callm .froz 101 [(.t 48), (.t 49), (.t 50), (.t 51)])])))))
 (.reg false [
 oX 27 (.mv (.t 9)),
 oX 28 (.bin .add (.t 27) (kX 1)),
 oX 9 (.mv (.t 28))]))))))))
 (.reg false [
 oX 21 (.mv (.t 8)),
 oX 22 (.bin .add (.t 21) (kX 1)),
 oX 8 (.mv (.t 22))])))))))
 (.seq
 (.reg false [
 oX 53 (.load true 3 (.t 7)),
 uX (.store 3 (.t 6) (.t 53))])
 .ret))))
def ms_impl_rawMulMatrix : List MRes := [.cell 6 3 true]
theorem n_impl_rawMulMatrix (NN : Nat) (x : DLL (Sig.tys ag_impl_rawMulMatrix)) : runS NN [fn_impl_emptyMatrix, fn_impl_Matrix_at, fn_impl_Matrix_set] sc_impl_rawMulMatrix ms_impl_rawMulMatrix ag_impl_rawMulMatrix rs_impl_rawMulMatrix x = G_impl_rawMulMatrix NN x := by kernel_rfl
theorem k_impl_rawMulMatrix : chkS Go.Proofs.Try.prog 83 sc_impl_rawMulMatrix.er ms_impl_rawMulMatrix 3 = true := by decide +kernel
theorem p_impl_rawMulMatrix : PureSpec Go.Proofs.Try.prog 83 fn_impl_rawMulMatrix.M ∧ chkFun Go.Proofs.Try.prog 83 = true :=
  pure_of_runS (T := [fn_impl_emptyMatrix, fn_impl_Matrix_at, fn_impl_Matrix_set]) (sc := sc_impl_rawMulMatrix) (ms := ms_impl_rawMulMatrix) (args := ag_impl_rawMulMatrix) (res := rs_impl_rawMulMatrix) (SOk.cons p_impl_emptyMatrix <| SOk.cons p_impl_Matrix_at <| SOk.consM p_impl_Matrix_set <| SOk.nil) follows_ok k_impl_rawMulMatrix F_impl_rawMulMatrix fun x y h => (n_impl_rawMulMatrix FUEL x).trans (f_impl_rawMulMatrix x y h)

def fn_impl_multiplyLeft : SFn := ⟨99, ag_impl_multiplyLeft, mu_impl_multiplyLeft, rs_impl_multiplyLeft, F_impl_multiplyLeft⟩
def sc_impl_multiplyLeft : SCode :=
 (.seq
 (.reg false [
 oX 4 (.box 3 (.t 1)),
 oX 5 (.box 4 (.t 2)),
 oX 6 (.alloc [zX, zX, zX, .nil iX])])
 (.seq
 (.reg false [
 oX 8 (.mv (.t 0)),
 oX 9 (.load true 3 (.t 4)),
 oX 10 (.fieldA 0 (.t 5)),
 oX 11 (.load false 1 (.t 10)),
 oX 12 (.fieldA 1 (.t 5)),
 oX 13 (.load false 1 (.t 12)),
 oX 14 (.fieldA 2 (.t 5)),
 oX 15 (.load false 1 (.t 14)),
 oX 16 (.bin .mul (.t 13) (.t 15)),
 oX 17 (.fieldA 3 (.t 5)),
 oX 18 (.load false 1 (.t 17)),
 oX 19 (.build [zX, zX, .nil iX] [(0, 1, (.t 11)), (1, 1, (.t 16)), (2, 1, (.t 18))]),
 oX 20 (.call .froz 83 [(.t 8), (.t 9), (.t 19)]),
 oX 7 (.alloc [zX, zX, .nil iX]),
 uX (.store 3 (.t 7) (.t 20))])
 (.seq
 (.reg false [
 oX 21 (.fieldA 0 (.t 4)),
 oX 22 (.load false 1 (.t 21)),
 oX 23 (.fieldA 1 (.t 5)),
 oX 24 (.load false 1 (.t 23)),
 oX 25 (.fieldA 2 (.t 5)),
 oX 26 (.load false 1 (.t 25)),
 oX 27 (.fieldA 2 (.t 7)),
 oX 28 (.load false 1 (.t 27)),
 oX 29 (.build [zX, zX, zX, .nil iX] [(0, 1, (.t 22)), (1, 1, (.t 24)), (2, 1, (.t 26)), (3, 1, (.t 28))]),
 uX (.store 4 (.t 6) (.t 29))])
 .ret)))
def ms_impl_multiplyLeft : List MRes := [.cell 6 4 true]
theorem n_impl_multiplyLeft (NN : Nat) (x : DLL (Sig.tys ag_impl_multiplyLeft)) : runS NN [fn_impl_rawMulMatrix] sc_impl_multiplyLeft ms_impl_multiplyLeft ag_impl_multiplyLeft rs_impl_multiplyLeft x = G_impl_multiplyLeft NN x := by kernel_rfl
theorem k_impl_multiplyLeft : chkS Go.Proofs.Try.prog 99 sc_impl_multiplyLeft.er ms_impl_multiplyLeft 3 = true := by decide +kernel
theorem p_impl_multiplyLeft : PureSpec Go.Proofs.Try.prog 99 fn_impl_multiplyLeft.M ∧ chkFun Go.Proofs.Try.prog 99 = true :=
  pure_of_runS (T := [fn_impl_rawMulMatrix]) (sc := sc_impl_multiplyLeft) (ms := ms_impl_multiplyLeft) (args := ag_impl_multiplyLeft) (res := rs_impl_multiplyLeft) (SOk.cons p_impl_rawMulMatrix <| SOk.nil) follows_ok k_impl_multiplyLeft F_impl_multiplyLeft fun x y h => (n_impl_multiplyLeft FUEL x).trans (f_impl_multiplyLeft x y h)

def fn_impl_multiplyRight : SFn := ⟨100, ag_impl_multiplyRight, mu_impl_multiplyRight, rs_impl_multiplyRight, F_impl_multiplyRight⟩
def sc_impl_multiplyRight : SCode :=
 (.seq
 (.reg false [
 oX 4 (.box 4 (.t 1)),
 oX 5 (.box 3 (.t 2)),
 oX 6 (.alloc [zX, zX, zX, .nil iX])])
 (.seq
 (.reg false [
 oX 8 (.mv (.t 0)),
 oX 9 (.fieldA 0 (.t 4)),
 oX 10 (.load false 1 (.t 9)),
 oX 11 (.fieldA 1 (.t 4)),
 oX 12 (.load false 1 (.t 11)),
 oX 13 (.bin .mul (.t 10) (.t 12)),
 oX 14 (.fieldA 2 (.t 4)),
 oX 15 (.load false 1 (.t 14)),
 oX 16 (.fieldA 3 (.t 4)),
 oX 17 (.load false 1 (.t 16)),
 oX 18 (.build [zX, zX, .nil iX] [(0, 1, (.t 13)), (1, 1, (.t 15)), (2, 1, (.t 17))]),
 oX 19 (.load true 3 (.t 5)),
 oX 20 (.call .froz 83 [(.t 8), (.t 18), (.t 19)]),
 oX 7 (.alloc [zX, zX, .nil iX]),
 uX (.store 3 (.t 7) (.t 20))])
 (.seq
 (.reg false [
 oX 21 (.fieldA 0 (.t 4)),
 oX 22 (.load false 1 (.t 21)),
 oX 23 (.fieldA 1 (.t 4)),
 oX 24 (.load false 1 (.t 23)),
 oX 25 (.fieldA 1 (.t 5)),
 oX 26 (.load false 1 (.t 25)),
 oX 27 (.fieldA 2 (.t 7)),
 oX 28 (.load false 1 (.t 27)),
 oX 29 (.build [zX, zX, zX, .nil iX] [(0, 1, (.t 22)), (1, 1, (.t 24)), (2, 1, (.t 26)), (3, 1, (.t 28))]),
 uX (.store 4 (.t 6) (.t 29))])
 .ret)))
def ms_impl_multiplyRight : List MRes := [.cell 6 4 true]
theorem n_impl_multiplyRight (NN : Nat) (x : DLL (Sig.tys ag_impl_multiplyRight)) : runS NN [fn_impl_rawMulMatrix] sc_impl_multiplyRight ms_impl_multiplyRight ag_impl_multiplyRight rs_impl_multiplyRight x = G_impl_multiplyRight NN x := by kernel_rfl
theorem k_impl_multiplyRight : chkS Go.Proofs.Try.prog 100 sc_impl_multiplyRight.er ms_impl_multiplyRight 3 = true := by decide +kernel
theorem p_impl_multiplyRight : PureSpec Go.Proofs.Try.prog 100 fn_impl_multiplyRight.M ∧ chkFun Go.Proofs.Try.prog 100 = true :=
  pure_of_runS (T := [fn_impl_rawMulMatrix]) (sc := sc_impl_multiplyRight) (ms := ms_impl_multiplyRight) (args := ag_impl_multiplyRight) (res := rs_impl_multiplyRight) (SOk.cons p_impl_rawMulMatrix <| SOk.nil) follows_ok k_impl_multiplyRight F_impl_multiplyRight fun x y h => (n_impl_multiplyRight FUEL x).trans (f_impl_multiplyRight x y h)

def fn_impl_CompressChain : SFn := ⟨48, ag_impl_CompressChain, mu_impl_CompressChain, rs_impl_CompressChain, F_impl_CompressChain⟩
def sc_impl_CompressChain : SCode :=
 (.seq
 (.reg false [
 oX 1 (.box 2 (.t 0)),
 oX 2 (.alloc [zX, .nil gX])])
 (.seq
 (.seq
 (.reg false [
 oX 15 (.load true 2 (.t 1)),
 oX 16 (.call .froz 18 [(.t 15)]),
 oX 17 (.un .not (.t 16))])
 (.cond (.t 17)
 (.seq
 (.reg false [
 oX 18 (.build [zX, .nil gX] []),
 uX (.store 2 (.t 2) (.t 18))])
 .ret)
 .skip))
 (.seq
 (.reg false [
 oX 19 (.load true 2 (.t 1)),
 oX 20 (.call .froz 94 [(.t 19)]),
 oX 3 (.alloc [zX, .nil gX]),
 uX (.store 2 (.t 3) (.t 20))])
 (.seq
 (.reg false [
 oX 21 (.fieldA 1 (.t 3)),
 oX 22 (.load false 1 (.t 21)),
 oX 23 (.len (.t 22)),
 oX 24 (.bin .sub (.t 23) (kX 1)),
 oX 4 (.mv (.t 24))])
 (.seq
 (.seq
 (.reg false [
 oX 5 (.mv (kX 0))])
 (.join ⟨[(4, sX), (2, .one (rX 2)), (3, .one (rX 3)), (1, .one (rX 1))], [(1, .box [vX, .c (.v (.list gX))]), (2, .box [vX, fX 500002 4]), (3, .box [vX, fX 500003 4]), (500002, .row true .froz gX), (500003, .row true .froz gX)]⟩ [1, 2, 3, 500000, 500001, 500002, 500003] [(true, 2, 1, 500002, .froz, []), (true, 3, 1, 500003, .froz, [])]
 (.block 0
 (.loop 0 ⟨[(1, .one (rX 1)), (2, .one (rX 2)), (3, .one (rX 3)), (4, sX), (5, sX)], [(1, .box [vX, .c (.v (.list gX))]), (2, .box [vX, fX 500000 4]), (3, .box [vX, fX 500001 4]), (500000, .row true .froz gX), (500001, .row true .froz gX)]⟩ [1, 2, 21000, 3, 6, 49001, 7, 8, 500000, 500001] [(true, 2, 1, 500000, .froz, []), (true, 3, 1, 500001, .froz, [])]
 (.seq
 (.seq
 (.reg false [
 oX 25 (.mv (.t 5)),
 oX 26 (.mv (.t 4)),
 oX 27 (.bin .lss (.t 25) (.t 26))])
 (.cond (.t 27)
 .skip
 (.exit 0)))
 (.seq
 (.block 1
 (.seq
 (.reg false [
 oX 30 (.fieldA 1 (.t 3)),
 oX 31 (.load false 1 (.t 30)),
 oX 32 (.mv (.t 5)),
 oX 33 (.idxA 4 (.t 31) (.t 32)),
 oX 34 (.load true 4 (.t 33)),
 oX 6 (.alloc [zX, zX, zX, .nil iX]),
 uX (.store 4 (.t 6) (.t 34))])
 (.seq
 (.reg false [
 oX 36 (.fieldA 0 (.t 1)),
 oX 37 (.load false 1 (.t 36)),
 oX 38 (.fieldA 0 (.t 6)),
 oX 39 (.load false 1 (.t 38)),
 oX 40 (.fieldA 1 (.t 6)),
 oX 41 (.load false 1 (.t 40)),
 oX 42 (.bin .mul (.t 39) (.t 41)),
 oX 43 (.fieldA 2 (.t 6)),
 oX 44 (.load false 1 (.t 43)),
 oX 45 (.fieldA 3 (.t 6)),
 oX 46 (.load false 1 (.t 45)),
 oX 47 (.build [zX, zX, .nil iX] [(0, 1, (.t 42)), (1, 1, (.t 44)), (2, 1, (.t 46))]),
 oX 48 (.call .froz 98 [(.t 37), (.t 47)]),
 oX 35 (.mv (.t 48)),
 oX 49 (.ext 0 (.t 35)),
 oX 50 (.ext 1 (.t 35)),
 oX 51 (.ext 2 (.t 35)),
 oX 7 (.alloc [zX, zX, .nil iX]),
 oX 8 (.alloc [zX, zX, .nil iX]),
 uX (.store 3 (.t 7) (.t 49)),
 uX (.store 3 (.t 8) (.t 50)),
 oX 9 (.mv (.t 51))])
 (.seq
 (.seq
 (.reg false [
 oX 52 (.mv (.t 9)),
 oX 53 (.un .not (.t 52))])
 (.cond (.t 53)
 (.seq
 (.reg false [
 oX 54 (.build [zX, .nil gX] []),
 uX (.store 2 (.t 2) (.t 54))])
 .ret)
 .skip))
 (.seq
 (.reg false [
 oX 55 (.fieldA 1 (.t 3)),
 oX 56 (.load false 1 (.t 55)),
 oX 57 (.mv (.t 5)),
 oX 58 (.fieldA 0 (.t 6)),
 oX 59 (.load false 1 (.t 58)),
 oX 60 (.fieldA 1 (.t 6)),
 oX 61 (.load false 1 (.t 60)),
 oX 62 (.fieldA 1 (.t 7)),
 oX 63 (.load false 1 (.t 62)),
 oX 64 (.fieldA 2 (.t 7)),
 oX 65 (.load false 1 (.t 64)),
 oX 66 (.build [zX, zX, zX, .nil iX] [(0, 1, (.t 59)), (1, 1, (.t 61)), (2, 1, (.t 63)), (3, 1, (.t 65))]),
 oX 67 (.idxA 4 (.t 56) (.t 57)),
 uX (.store 4 (.t 67) (.t 66))])
 (.reg true [
 oX 68 (.fieldA 1 (.t 3)),
 oX 69 (.load false 1 (.t 68)),
 oX 70 (.mv (.t 5)),
 oX 71 (.bin .add (.t 70) (kX 1)),
 oX 72 (.fieldA 0 (.t 1)),
 oX 73 (.load false 1 (.t 72)),
 oX 74 (.load true 3 (.t 8)),
 oX 75 (.fieldA 1 (.t 3)),
 oX 76 (.load false 1 (.t 75)),
 oX 77 (.mv (.t 5)),
 oX 78 (.bin .add (.t 77) (kX 1)),
 oX 79 (.idxA 4 (.t 76) (.t 78)),
 oX 80 (.load true 4 (.t 79)),
 oX 81 (.call .froz 99 [(.t 73), (.t 74), (.t 80)]),
 oX 82 (.idxA 4 (.t 69) (.t 71)),
 uX (.store 4 (.t 82) (.t 81))]))))))
 (.reg false [
 oX 28 (.mv (.t 5)),
 oX 29 (.bin .add (.t 28) (kX 1)),
 oX 5 (.mv (.t 29))])))))))
 (.seq
 (.seq
 (.reg false [
 oX 83 (.mv (.t 4)),
 oX 10 (.mv (.t 83))])
 (.join ⟨[(3, .one (rX 3)), (2, .one (rX 2))], [(2, .box [vX, fX 500006 4]), (3, .box [vX, fX 500007 4]), (500006, .row true .froz gX), (500007, .row true .froz gX)]⟩ [1, 2, 3, 500004, 500005, 500006, 500007] [(true, 2, 1, 500006, .froz, []), (true, 3, 1, 500007, .froz, [])]
 (.block 2
 (.loop 0 ⟨[(1, .one (rX 1)), (2, .one (rX 2)), (3, .one (rX 3)), (10, sX)], [(1, .box [vX, .c (.v (.list gX))]), (2, .box [vX, fX 500004 4]), (3, .box [vX, fX 500005 4]), (500004, .row true .froz gX), (500005, .row true .froz gX)]⟩ [1, 2, 3, 11, 107000, 12, 13, 500002, 500003, 500004, 500005] [(true, 2, 1, 500004, .froz, []), (true, 3, 1, 500005, .froz, [])]
 (.seq
 (.seq
 (.reg false [
 oX 84 (.mv (.t 10)),
 oX 85 (.bin .gtr (.t 84) (kX 0))])
 (.cond (.t 85)
 .skip
 (.exit 2)))
 (.seq
 (.block 3
 (.seq
 (.reg false [
 oX 88 (.fieldA 1 (.t 3)),
 oX 89 (.load false 1 (.t 88)),
 oX 90 (.mv (.t 10)),
 oX 91 (.idxA 4 (.t 89) (.t 90)),
 oX 92 (.load true 4 (.t 91)),
 oX 11 (.alloc [zX, zX, zX, .nil iX]),
 uX (.store 4 (.t 11) (.t 92))])
 (.seq
 (.reg false [
 oX 94 (.fieldA 0 (.t 1)),
 oX 95 (.load false 1 (.t 94)),
 oX 96 (.fieldA 0 (.t 11)),
 oX 97 (.load false 1 (.t 96)),
 oX 98 (.fieldA 1 (.t 11)),
 oX 99 (.load false 1 (.t 98)),
 oX 100 (.fieldA 2 (.t 11)),
 oX 101 (.load false 1 (.t 100)),
 oX 102 (.bin .mul (.t 99) (.t 101)),
 oX 103 (.fieldA 3 (.t 11)),
 oX 104 (.load false 1 (.t 103)),
 oX 105 (.build [zX, zX, .nil iX] [(0, 1, (.t 97)), (1, 1, (.t 102)), (2, 1, (.t 104))]),
 oX 106 (.call .froz 98 [(.t 95), (.t 105)]),
 oX 93 (.mv (.t 106)),
 oX 107 (.ext 0 (.t 93)),
 oX 108 (.ext 1 (.t 93)),
 oX 109 (.ext 2 (.t 93)),
 oX 12 (.alloc [zX, zX, .nil iX]),
 oX 13 (.alloc [zX, zX, .nil iX]),
 uX (.store 3 (.t 12) (.t 107)),
 uX (.store 3 (.t 13) (.t 108)),
 oX 14 (.mv (.t 109))])
 (.seq
 (.seq
 (.reg false [
 oX 110 (.mv (.t 14)),
 oX 111 (.un .not (.t 110))])
 (.cond (.t 111)
 (.seq
 (.reg false [
 oX 112 (.build [zX, .nil gX] []),
 uX (.store 2 (.t 2) (.t 112))])
 .ret)
 .skip))
 (.seq
 (.reg false [
 oX 113 (.fieldA 1 (.t 3)),
 oX 114 (.load false 1 (.t 113)),
 oX 115 (.mv (.t 10)),
 oX 116 (.fieldA 0 (.t 13)),
 oX 117 (.load false 1 (.t 116)),
 oX 118 (.fieldA 1 (.t 11)),
 oX 119 (.load false 1 (.t 118)),
 oX 120 (.fieldA 2 (.t 11)),
 oX 121 (.load false 1 (.t 120)),
 oX 122 (.fieldA 2 (.t 13)),
 oX 123 (.load false 1 (.t 122)),
 oX 124 (.build [zX, zX, zX, .nil iX] [(0, 1, (.t 117)), (1, 1, (.t 119)), (2, 1, (.t 121)), (3, 1, (.t 123))]),
 oX 125 (.idxA 4 (.t 114) (.t 115)),
 uX (.store 4 (.t 125) (.t 124))])
 (.reg true [
 oX 126 (.fieldA 1 (.t 3)),
 oX 127 (.load false 1 (.t 126)),
 oX 128 (.mv (.t 10)),
 oX 129 (.bin .sub (.t 128) (kX 1)),
 oX 130 (.fieldA 0 (.t 1)),
 oX 131 (.load false 1 (.t 130)),
 oX 132 (.fieldA 1 (.t 3)),
 oX 133 (.load false 1 (.t 132)),
 oX 134 (.mv (.t 10)),
 oX 135 (.bin .sub (.t 134) (kX 1)),
 oX 136 (.idxA 4 (.t 133) (.t 135)),
 oX 137 (.load true 4 (.t 136)),
 oX 138 (.load true 3 (.t 12)),
 oX 139 (.call .froz 100 [(.t 131), (.t 137), (.t 138)]),
 oX 140 (.idxA 4 (.t 127) (.t 129)),
 uX (.store 4 (.t 140) (.t 139))]))))))
 (.reg false [
 oX 86 (.mv (.t 10)),
 oX 87 (.bin .sub (.t 86) (kX 1)),
 oX 10 (.mv (.t 87))])))))))
 (.seq
 (.reg false [
 oX 141 (.load true 2 (.t 3)),
 uX (.store 2 (.t 2) (.t 141))])
 .ret)))))))
def ms_impl_CompressChain : List MRes := [.cell 2 2 true]
theorem n_impl_CompressChain (NN : Nat) (x : DLL (Sig.tys ag_impl_CompressChain)) : runS NN [fn_impl_ChainOk, fn_impl_copyChain, fn_impl_FactorMatrix, fn_impl_multiplyLeft, fn_impl_multiplyRight] sc_impl_CompressChain ms_impl_CompressChain ag_impl_CompressChain rs_impl_CompressChain x = G_impl_CompressChain NN x := by kernel_rfl
theorem k_impl_CompressChain : chkS Go.Proofs.Try.prog 48 sc_impl_CompressChain.er ms_impl_CompressChain 1 = true := by decide +kernel
theorem p_impl_CompressChain : PureSpec Go.Proofs.Try.prog 48 fn_impl_CompressChain.M ∧ chkFun Go.Proofs.Try.prog 48 = true :=
  pure_of_runS (T := [fn_impl_ChainOk, fn_impl_copyChain, fn_impl_FactorMatrix, fn_impl_multiplyLeft, fn_impl_multiplyRight]) (sc := sc_impl_CompressChain) (ms := ms_impl_CompressChain) (args := ag_impl_CompressChain) (res := rs_impl_CompressChain) (SOk.cons p_impl_ChainOk <| SOk.cons p_impl_copyChain <| SOk.cons p_impl_FactorMatrix <| SOk.cons p_impl_multiplyLeft <| SOk.cons p_impl_multiplyRight <| SOk.nil) follows_ok k_impl_CompressChain F_impl_CompressChain fun x y h => (n_impl_CompressChain FUEL x).trans (f_impl_CompressChain x y h)

def fn_laws_eqIntS : SFn := ⟨22, ag_laws_eqIntS, mu_laws_eqIntS, rs_laws_eqIntS, F_laws_eqIntS⟩
def sc_laws_eqIntS : SCode :=
 (.seq
 (.reg false [
 oX 4 (.mv (.k (.one (.v (.bool) (false)))))])
 (.seq
 (.seq
 (.reg false [
 oX 6 (.mv (.t 0)),
 oX 7 (.len (.t 6)),
 oX 8 (.mv (.t 1)),
 oX 9 (.len (.t 8)),
 oX 10 (.bin .neq (.t 7) (.t 9))])
 (.cond (.t 10)
 (.seq
 (.reg false [
 oX 4 (.mv (.k (.one (.v (.bool) (false)))))])
 .ret)
 .skip))
 (.seq
 (.seq
 (.reg false [
 oX 5 (.mv (kX 0))])
 (.join ⟨[], []⟩ [] []
 (.block 0
 (.loop 0 ⟨[(0, .one (.c (.v (lX)))), (1, .one (.c (.v (lX)))), (5, sX)], []⟩ [] []
 (.seq
 (.seq
 (.reg false [
 oX 11 (.mv (.t 5)),
 oX 12 (.mv (.t 0)),
 oX 13 (.len (.t 12)),
 oX 14 (.bin .lss (.t 11) (.t 13))])
 (.cond (.t 14)
 .skip
 (.exit 0)))
 (.seq
 (.block 1
 (.seq
 (.reg true [
 oX 17 (.mv (.t 0)),
 oX 18 (.mv (.t 5)),
 oX 19 (.idxA 1 (.t 17) (.t 18)),
 oX 20 (.load false 1 (.t 19)),
 oX 21 (.mv (.t 1)),
 oX 22 (.mv (.t 5)),
 oX 23 (.idxA 1 (.t 21) (.t 22)),
 oX 24 (.load false 1 (.t 23)),
 oX 25 (.bin .neq (.t 20) (.t 24))])
 (.cond (.t 25)
 (.seq
 (.reg false [
 oX 4 (.mv (.k (.one (.v (.bool) (false)))))])
 .ret)
 .skip)))
 (.reg false [
 oX 15 (.mv (.t 5)),
 oX 16 (.bin .add (.t 15) (kX 1)),
 oX 5 (.mv (.t 16))])))))))
 (.seq
 (.reg false [
 oX 4 (.mv (.k (.one (.v (.bool) (true)))))])
 .ret))))
def ms_laws_eqIntS : List MRes := [.tmp 4]
theorem n_laws_eqIntS (NN : Nat) (x : DLL (Sig.tys ag_laws_eqIntS)) : runS NN [] sc_laws_eqIntS ms_laws_eqIntS ag_laws_eqIntS rs_laws_eqIntS x = G_laws_eqIntS NN x := by kernel_rfl
theorem k_laws_eqIntS : chkS Go.Proofs.Try.prog 22 sc_laws_eqIntS.er ms_laws_eqIntS 2 = true := by decide +kernel
theorem p_laws_eqIntS : PureSpec Go.Proofs.Try.prog 22 fn_laws_eqIntS.M ∧ chkFun Go.Proofs.Try.prog 22 = true :=
  pure_of_runS (T := []) (sc := sc_laws_eqIntS) (ms := ms_laws_eqIntS) (args := ag_laws_eqIntS) (res := rs_laws_eqIntS) (SOk.nil) follows_ok k_laws_eqIntS F_laws_eqIntS fun x y h => (n_laws_eqIntS FUEL x).trans (f_laws_eqIntS x y h)

def fn_laws_eqSite : SFn := ⟨128, ag_laws_eqSite, mu_laws_eqSite, rs_laws_eqSite, F_laws_eqSite⟩
def sc_laws_eqSite : SCode :=
 (.seq
 (.reg false [
 oX 2 (.box 4 (.t 0)),
 oX 3 (.box 4 (.t 1)),
 oX 4 (.mv (.k (.one (.v (.bool) (false)))))])
 (.seq
 (.seq
 (.reg false [
 oX 5 (.fieldA 0 (.t 2)),
 oX 6 (.load false 1 (.t 5)),
 oX 7 (.fieldA 0 (.t 3)),
 oX 8 (.load false 1 (.t 7)),
 oX 9 (.bin .neq (.t 6) (.t 8))])
 (.cond (.t 9)
 (.seq
 (.reg false [
 oX 4 (.mv (.k (.one (.v (.bool) (false)))))])
 .ret)
 .skip))
 (.seq
 (.seq
 (.reg false [
 oX 10 (.fieldA 1 (.t 2)),
 oX 11 (.load false 1 (.t 10)),
 oX 12 (.fieldA 1 (.t 3)),
 oX 13 (.load false 1 (.t 12)),
 oX 14 (.bin .neq (.t 11) (.t 13))])
 (.cond (.t 14)
 (.seq
 (.reg false [
 oX 4 (.mv (.k (.one (.v (.bool) (false)))))])
 .ret)
 .skip))
 (.seq
 (.seq
 (.reg false [
 oX 15 (.fieldA 2 (.t 2)),
 oX 16 (.load false 1 (.t 15)),
 oX 17 (.fieldA 2 (.t 3)),
 oX 18 (.load false 1 (.t 17)),
 oX 19 (.bin .neq (.t 16) (.t 18))])
 (.cond (.t 19)
 (.seq
 (.reg false [
 oX 4 (.mv (.k (.one (.v (.bool) (false)))))])
 .ret)
 .skip))
 (.seq
 (.seq
 (.reg false [
 oX 20 (.fieldA 3 (.t 2)),
 oX 21 (.load false 1 (.t 20)),
 oX 22 (.fieldA 3 (.t 3)),
 oX 23 (.load false 1 (.t 22)),
 oX 24 (.call .froz 22 [(.t 21), (.t 23)]),
 oX 25 (.un .not (.t 24))])
 (.cond (.t 25)
 (.seq
 (.reg false [
 oX 4 (.mv (.k (.one (.v (.bool) (false)))))])
 .ret)
 .skip))
 (.seq
 (.reg false [
 oX 4 (.mv (.k (.one (.v (.bool) (true)))))])
 .ret))))))
def ms_laws_eqSite : List MRes := [.tmp 4]
theorem n_laws_eqSite (NN : Nat) (x : DLL (Sig.tys ag_laws_eqSite)) : runS NN [fn_laws_eqIntS] sc_laws_eqSite ms_laws_eqSite ag_laws_eqSite rs_laws_eqSite x = G_laws_eqSite NN x := by kernel_rfl
theorem k_laws_eqSite : chkS Go.Proofs.Try.prog 128 sc_laws_eqSite.er ms_laws_eqSite 2 = true := by decide +kernel
theorem p_laws_eqSite : PureSpec Go.Proofs.Try.prog 128 fn_laws_eqSite.M ∧ chkFun Go.Proofs.Try.prog 128 = true :=
  pure_of_runS (T := [fn_laws_eqIntS]) (sc := sc_laws_eqSite) (ms := ms_laws_eqSite) (args := ag_laws_eqSite) (res := rs_laws_eqSite) (SOk.cons p_laws_eqIntS <| SOk.nil) follows_ok k_laws_eqSite F_laws_eqSite fun x y h => (n_laws_eqSite FUEL x).trans (f_laws_eqSite x y h)

def fn_laws_eqSiteS : SFn := ⟨70, ag_laws_eqSiteS, mu_laws_eqSiteS, rs_laws_eqSiteS, F_laws_eqSiteS⟩
def sc_laws_eqSiteS : SCode :=
 (.seq
 (.reg false [
 oX 4 (.mv (.k (.one (.v (.bool) (false)))))])
 (.seq
 (.seq
 (.reg false [
 oX 6 (.mv (.t 0)),
 oX 7 (.len (.t 6)),
 oX 8 (.mv (.t 1)),
 oX 9 (.len (.t 8)),
 oX 10 (.bin .neq (.t 7) (.t 9))])
 (.cond (.t 10)
 (.seq
 (.reg false [
 oX 4 (.mv (.k (.one (.v (.bool) (false)))))])
 .ret)
 .skip))
 (.seq
 (.seq
 (.reg false [
 oX 5 (.mv (kX 0))])
 (.join ⟨[], []⟩ [] []
 (.block 0
 (.loop 0 ⟨[(0, .one (.c (.v (.list gX)))), (1, .one (.c (.v (.list gX)))), (5, sX)], []⟩ [] []
 (.seq
 (.seq
 (.reg false [
 oX 11 (.mv (.t 5)),
 oX 12 (.mv (.t 0)),
 oX 13 (.len (.t 12)),
 oX 14 (.bin .lss (.t 11) (.t 13))])
 (.cond (.t 14)
 .skip
 (.exit 0)))
 (.seq
 (.block 1
 (.seq
 (.reg true [
 oX 17 (.mv (.t 0)),
 oX 18 (.mv (.t 5)),
 oX 19 (.idxA 4 (.t 17) (.t 18)),
 oX 20 (.load true 4 (.t 19)),
 oX 21 (.mv (.t 1)),
 oX 22 (.mv (.t 5)),
 oX 23 (.idxA 4 (.t 21) (.t 22)),
 oX 24 (.load true 4 (.t 23)),
 oX 25 (.call .froz 128 [(.t 20), (.t 24)]),
 oX 26 (.un .not (.t 25))])
 (.cond (.t 26)
 (.seq
 (.reg false [
 oX 4 (.mv (.k (.one (.v (.bool) (false)))))])
 .ret)
 .skip)))
 (.reg false [
 oX 15 (.mv (.t 5)),
 oX 16 (.bin .add (.t 15) (kX 1)),
 oX 5 (.mv (.t 16))])))))))
 (.seq
 (.reg false [
 oX 4 (.mv (.k (.one (.v (.bool) (true)))))])
 .ret))))
def ms_laws_eqSiteS : List MRes := [.tmp 4]
theorem n_laws_eqSiteS (NN : Nat) (x : DLL (Sig.tys ag_laws_eqSiteS)) : runS NN [fn_laws_eqSite] sc_laws_eqSiteS ms_laws_eqSiteS ag_laws_eqSiteS rs_laws_eqSiteS x = G_laws_eqSiteS NN x := by kernel_rfl
theorem k_laws_eqSiteS : chkS Go.Proofs.Try.prog 70 sc_laws_eqSiteS.er ms_laws_eqSiteS 2 = true := by decide +kernel
theorem p_laws_eqSiteS : PureSpec Go.Proofs.Try.prog 70 fn_laws_eqSiteS.M ∧ chkFun Go.Proofs.Try.prog 70 = true :=
  pure_of_runS (T := [fn_laws_eqSite]) (sc := sc_laws_eqSiteS) (ms := ms_laws_eqSiteS) (args := ag_laws_eqSiteS) (res := rs_laws_eqSiteS) (SOk.cons p_laws_eqSite <| SOk.nil) follows_ok k_laws_eqSiteS F_laws_eqSiteS fun x y h => (n_laws_eqSiteS FUEL x).trans (f_laws_eqSiteS x y h)

def fn_laws_eqChain : SFn := ⟨19, ag_laws_eqChain, mu_laws_eqChain, rs_laws_eqChain, F_laws_eqChain⟩
def sc_laws_eqChain : SCode :=
 (.seq
 (.reg false [
 oX 2 (.box 2 (.t 0)),
 oX 3 (.box 2 (.t 1)),
 oX 4 (.mv (.k (.one (.v (.bool) (false)))))])
 (.seq
 (.seq
 (.reg false [
 oX 5 (.fieldA 0 (.t 2)),
 oX 6 (.load false 1 (.t 5)),
 oX 7 (.fieldA 0 (.t 3)),
 oX 8 (.load false 1 (.t 7)),
 oX 9 (.bin .neq (.t 6) (.t 8))])
 (.cond (.t 9)
 (.seq
 (.reg false [
 oX 4 (.mv (.k (.one (.v (.bool) (false)))))])
 .ret)
 .skip))
 (.seq
 (.seq
 (.reg false [
 oX 10 (.fieldA 1 (.t 2)),
 oX 11 (.load false 1 (.t 10)),
 oX 12 (.fieldA 1 (.t 3)),
 oX 13 (.load false 1 (.t 12)),
 oX 14 (.call .froz 70 [(.t 11), (.t 13)]),
 oX 15 (.un .not (.t 14))])
 (.cond (.t 15)
 (.seq
 (.reg false [
 oX 4 (.mv (.k (.one (.v (.bool) (false)))))])
 .ret)
 .skip))
 (.seq
 (.reg false [
 oX 4 (.mv (.k (.one (.v (.bool) (true)))))])
 .ret))))
def ms_laws_eqChain : List MRes := [.tmp 4]
theorem n_laws_eqChain (NN : Nat) (x : DLL (Sig.tys ag_laws_eqChain)) : runS NN [fn_laws_eqSiteS] sc_laws_eqChain ms_laws_eqChain ag_laws_eqChain rs_laws_eqChain x = G_laws_eqChain NN x := by kernel_rfl
theorem k_laws_eqChain : chkS Go.Proofs.Try.prog 19 sc_laws_eqChain.er ms_laws_eqChain 2 = true := by decide +kernel
theorem p_laws_eqChain : PureSpec Go.Proofs.Try.prog 19 fn_laws_eqChain.M ∧ chkFun Go.Proofs.Try.prog 19 = true :=
  pure_of_runS (T := [fn_laws_eqSiteS]) (sc := sc_laws_eqChain) (ms := ms_laws_eqChain) (args := ag_laws_eqChain) (res := rs_laws_eqChain) (SOk.cons p_laws_eqSiteS <| SOk.nil) follows_ok k_laws_eqChain F_laws_eqChain fun x y h => (n_laws_eqChain FUEL x).trans (f_laws_eqChain x y h)

def fn_laws_markIntS : SFn := ⟨24, ag_laws_markIntS, mu_laws_markIntS, rs_laws_markIntS, F_laws_markIntS⟩
def sc_laws_markIntS : SCode :=
 (.seq
 (.reg false [
 oX 4 (.mv (kX 0))])
 (.seq
 (.seq
 (.reg false [
 oX 5 (.mv (kX 0))])
 (.join ⟨[(1, sX)], [(1000000, .row false .froz iX)]⟩ [1000000] []
 (.block 0
 (.loop 0 ⟨[(0, .one (fX 1000000 1)), (1, sX), (5, sX)], [(1000000, .row false .froz iX)]⟩ [1000000, 500000] [(false, 0, 0, 500000, .froz, [])]
 (.seq
 (.seq
 (.reg false [
 oX 6 (.mv (.t 5)),
 oX 7 (.mv (.t 0)),
 oX 8 (.len (.t 7)),
 oX 9 (.bin .lss (.t 6) (.t 8))])
 (.cond (.t 9)
 .skip
 (.exit 0)))
 (.seq
 (.block 1
 (.seq
 (.reg false [
 oX 12 (.mv (.t 0)),
 oX 13 (.mv (.t 5)),
 oX 14 (.mv (.t 1)),
 oX 15 (.idxA 1 (.t 12) (.t 13)),
 uX (.store 1 (.t 15) (.t 14))])
 (.reg false [
 oX 16 (.mv (.t 1)),
 oX 17 (.bin .add (.t 16) (kX 1)),
 oX 1 (.mv (.t 17))])))
 (.reg false [
 oX 10 (.mv (.t 5)),
 oX 11 (.bin .add (.t 10) (kX 1)),
 oX 5 (.mv (.t 11))])))))))
 (.seq
 (.reg false [
 oX 18 (.mv (.t 1)),
 oX 4 (.mv (.t 18))])
 .ret)))
def ms_laws_markIntS : List MRes := [.tmp 4]
theorem n_laws_markIntS (NN : Nat) (x : DLL (Sig.tys ag_laws_markIntS)) : runMS NN [] sc_laws_markIntS ms_laws_markIntS ag_laws_markIntS mu_laws_markIntS rs_laws_markIntS x = G_laws_markIntS NN x := by kernel_rfl
theorem k_laws_markIntS : chkS Go.Proofs.Try.prog 24 sc_laws_markIntS.er ms_laws_markIntS 2 = true := by decide +kernel
theorem p_laws_markIntS : MutSpec Go.Proofs.Try.prog 24 mu_laws_markIntS fn_laws_markIntS.MM ∧ chkFun Go.Proofs.Try.prog 24 = true :=
  mut_of_runMS (T := []) (sc := sc_laws_markIntS) (ms := ms_laws_markIntS) (args := ag_laws_markIntS) (mu := mu_laws_markIntS) (res := rs_laws_markIntS) (SOk.nil) follows_ok k_laws_markIntS F_laws_markIntS fun x y h => (n_laws_markIntS FUEL x).trans (f_laws_markIntS x y h)

def fn_laws_markSiteS : SFn := ⟨71, ag_laws_markSiteS, mu_laws_markSiteS, rs_laws_markSiteS, F_laws_markSiteS⟩
def sc_laws_markSiteS : SCode :=
 (.seq
 (.reg false [
 oX 4 (.mv (kX 0))])
 (.seq
 (.seq
 (.reg false [
 oX 5 (.mv (kX 0))])
 (.join ⟨[(1, sX)], [(1000000, .row false .live gX)]⟩ [1000000] []
 (.block 0
 (.loop 0 ⟨[(0, .one (fX 1000000 4)), (1, sX), (5, sX)], [(1000000, .row false .live gX)]⟩ [1000000, 500000] [(false, 0, 0, 500000, .froz, [])]
 (.seq
 (.seq
 (.reg false [
 oX 6 (.mv (.t 5)),
 oX 7 (.mv (.t 0)),
 oX 8 (.len (.t 7)),
 oX 9 (.bin .lss (.t 6) (.t 8))])
 (.cond (.t 9)
 .skip
 (.exit 0)))
 (.seq
 (.block 1
 (.seq
 (.reg false [
 oX 12 (.mv (.t 0)),
 oX 13 (.mv (.t 5)),
 oX 14 (.mv (.t 1)),
 oX 15 (.idxA 4 (.t 12) (.t 13)),
 oX 16 (.fieldA 0 (.t 15)),
 uX (.store 1 (.t 16) (.t 14))])
 (.seq
 (.reg false [
 oX 17 (.mv (.t 1)),
 oX 18 (.bin .add (.t 17) (kX 1)),
 oX 1 (.mv (.t 18))])
 (.seq
 (.reg false [
 oX 19 (.mv (.t 0)),
 oX 20 (.mv (.t 5)),
 oX 21 (.mv (.t 1)),
 oX 22 (.idxA 4 (.t 19) (.t 20)),
 oX 23 (.fieldA 1 (.t 22)),
 uX (.store 1 (.t 23) (.t 21))])
 (.seq
 (.reg false [
 oX 24 (.mv (.t 1)),
 oX 25 (.bin .add (.t 24) (kX 1)),
 oX 1 (.mv (.t 25))])
 (.seq
 (.reg false [
 oX 26 (.mv (.t 0)),
 oX 27 (.mv (.t 5)),
 oX 28 (.mv (.t 1)),
 oX 29 (.idxA 4 (.t 26) (.t 27)),
 oX 30 (.fieldA 2 (.t 29)),
 uX (.store 1 (.t 30) (.t 28))])
 (.seq
 (.reg false [
 oX 31 (.mv (.t 1)),
 oX 32 (.bin .add (.t 31) (kX 1)),
 oX 1 (.mv (.t 32))])
 (.reg false [
 oX 33 (.mv (.t 0)),
 oX 34 (.mv (.t 5)),
 oX 35 (.idxA 4 (.t 33) (.t 34)),
 oX 36 (.fieldA 3 (.t 35)),
 oX 37 (.load false 1 (.t 36)),
 oX 38 (.mv (.t 1)),
 oX 39 (.callm .froz 24 [(.t 37), (.t 38)]),
 oX 1 (.mv (.t 39))]))))))))
 (.reg false [
 oX 10 (.mv (.t 5)),
 oX 11 (.bin .add (.t 10) (kX 1)),
 oX 5 (.mv (.t 11))])))))))
 (.seq
 (.reg false [
 oX 40 (.mv (.t 1)),
 oX 4 (.mv (.t 40))])
 .ret)))
def ms_laws_markSiteS : List MRes := [.tmp 4]
theorem n_laws_markSiteS (NN : Nat) (x : DLL (Sig.tys ag_laws_markSiteS)) : runMS NN [fn_laws_markIntS] sc_laws_markSiteS ms_laws_markSiteS ag_laws_markSiteS mu_laws_markSiteS rs_laws_markSiteS x = G_laws_markSiteS NN x := by kernel_rfl
theorem k_laws_markSiteS : chkS Go.Proofs.Try.prog 71 sc_laws_markSiteS.er ms_laws_markSiteS 2 = true := by decide +kernel
theorem p_laws_markSiteS : MutSpec Go.Proofs.Try.prog 71 mu_laws_markSiteS fn_laws_markSiteS.MM ∧ chkFun Go.Proofs.Try.prog 71 = true :=
  mut_of_runMS (T := [fn_laws_markIntS]) (sc := sc_laws_markSiteS) (ms := ms_laws_markSiteS) (args := ag_laws_markSiteS) (mu := mu_laws_markSiteS) (res := rs_laws_markSiteS) (SOk.consM p_laws_markIntS <| SOk.nil) follows_ok k_laws_markSiteS F_laws_markSiteS fun x y h => (n_laws_markSiteS FUEL x).trans (f_laws_markSiteS x y h)

def fn_laws_markChain : SFn := ⟨23, ag_laws_markChain, mu_laws_markChain, rs_laws_markChain, F_laws_markChain⟩
def sc_laws_markChain : SCode :=
 (.seq
 (.reg false [
 oX 2 (.box 2 (.t 0)),
 oX 4 (.mv (kX 0))])
 (.seq
 (.reg false [
 oX 5 (.fieldA 1 (.t 2)),
 oX 6 (.load false 1 (.t 5)),
 oX 7 (.mv (.t 1)),
 oX 8 (.callm .live 71 [(.t 6), (.t 7)]),
 oX 1 (.mv (.t 8))])
 (.seq
 (.reg false [
 oX 9 (.mv (.t 1)),
 oX 4 (.mv (.t 9))])
 .ret)))
def ms_laws_markChain : List MRes := [.tmp 4]
theorem n_laws_markChain (NN : Nat) (x : DLL (Sig.tys ag_laws_markChain)) : runMS NN [fn_laws_markSiteS] sc_laws_markChain ms_laws_markChain ag_laws_markChain mu_laws_markChain rs_laws_markChain x = G_laws_markChain NN x := by kernel_rfl
theorem k_laws_markChain : chkS Go.Proofs.Try.prog 23 sc_laws_markChain.er ms_laws_markChain 2 = true := by decide +kernel
theorem p_laws_markChain : MutSpec Go.Proofs.Try.prog 23 mu_laws_markChain fn_laws_markChain.MM ∧ chkFun Go.Proofs.Try.prog 23 = true :=
  mut_of_runMS (T := [fn_laws_markSiteS]) (sc := sc_laws_markChain) (ms := ms_laws_markChain) (args := ag_laws_markChain) (mu := mu_laws_markChain) (res := rs_laws_markChain) (SOk.consM p_laws_markSiteS <| SOk.nil) follows_ok k_laws_markChain F_laws_markChain fun x y h => (n_laws_markChain FUEL x).trans (f_laws_markChain x y h)

def fn_laws_heldIntS : SFn := ⟨25, ag_laws_heldIntS, mu_laws_heldIntS, rs_laws_heldIntS, F_laws_heldIntS⟩
def sc_laws_heldIntS : SCode :=
 (.seq
 (.reg false [
 oX 4 (.mv (kX 0))])
 (.seq
 (.seq
 (.reg false [
 oX 5 (.mv (kX 0))])
 (.join ⟨[(1, sX)], []⟩ [] []
 (.block 0
 (.loop 0 ⟨[(0, .one (.c (.v (lX)))), (1, sX), (5, sX)], []⟩ [] []
 (.seq
 (.seq
 (.reg false [
 oX 6 (.mv (.t 5)),
 oX 7 (.mv (.t 0)),
 oX 8 (.len (.t 7)),
 oX 9 (.bin .lss (.t 6) (.t 8))])
 (.cond (.t 9)
 .skip
 (.exit 0)))
 (.seq
 (.block 1
 (.seq
 (.seq
 (.reg false [
 oX 12 (.mv (.t 0)),
 oX 13 (.mv (.t 5)),
 oX 14 (.idxA 1 (.t 12) (.t 13)),
 oX 15 (.load false 1 (.t 14)),
 oX 16 (.mv (.t 1)),
 oX 17 (.bin .neq (.t 15) (.t 16))])
 (.cond (.t 17)
 (.seq
 (.reg false [
 oX 4 (.mv (kX (-1)))])
 .ret)
 .skip))
 (.reg false [
 oX 18 (.mv (.t 1)),
 oX 19 (.bin .add (.t 18) (kX 1)),
 oX 1 (.mv (.t 19))])))
 (.reg false [
 oX 10 (.mv (.t 5)),
 oX 11 (.bin .add (.t 10) (kX 1)),
 oX 5 (.mv (.t 11))])))))))
 (.seq
 (.reg false [
 oX 20 (.mv (.t 1)),
 oX 4 (.mv (.t 20))])
 .ret)))
def ms_laws_heldIntS : List MRes := [.tmp 4]
theorem n_laws_heldIntS (NN : Nat) (x : DLL (Sig.tys ag_laws_heldIntS)) : runS NN [] sc_laws_heldIntS ms_laws_heldIntS ag_laws_heldIntS rs_laws_heldIntS x = G_laws_heldIntS NN x := by kernel_rfl
theorem k_laws_heldIntS : chkS Go.Proofs.Try.prog 25 sc_laws_heldIntS.er ms_laws_heldIntS 2 = true := by decide +kernel
theorem p_laws_heldIntS : PureSpec Go.Proofs.Try.prog 25 fn_laws_heldIntS.M ∧ chkFun Go.Proofs.Try.prog 25 = true :=
  pure_of_runS (T := []) (sc := sc_laws_heldIntS) (ms := ms_laws_heldIntS) (args := ag_laws_heldIntS) (res := rs_laws_heldIntS) (SOk.nil) follows_ok k_laws_heldIntS F_laws_heldIntS fun x y h => (n_laws_heldIntS FUEL x).trans (f_laws_heldIntS x y h)

def fn_laws_heldSiteS : SFn := ⟨89, ag_laws_heldSiteS, mu_laws_heldSiteS, rs_laws_heldSiteS, F_laws_heldSiteS⟩
def sc_laws_heldSiteS : SCode :=
 (.seq
 (.reg false [
 oX 4 (.mv (kX 0))])
 (.seq
 (.seq
 (.reg false [
 oX 5 (.mv (kX 0))])
 (.join ⟨[(1, sX)], []⟩ [] []
 (.block 0
 (.loop 0 ⟨[(0, .one (.c (.v (.list gX)))), (1, sX), (5, sX)], []⟩ [] []
 (.seq
 (.seq
 (.reg false [
 oX 6 (.mv (.t 5)),
 oX 7 (.mv (.t 0)),
 oX 8 (.len (.t 7)),
 oX 9 (.bin .lss (.t 6) (.t 8))])
 (.cond (.t 9)
 .skip
 (.exit 0)))
 (.seq
 (.block 1
 (.seq
 (.seq
 (.reg false [
 oX 12 (.mv (.t 0)),
 oX 13 (.mv (.t 5)),
 oX 14 (.idxA 4 (.t 12) (.t 13)),
 oX 15 (.fieldA 0 (.t 14)),
 oX 16 (.load false 1 (.t 15)),
 oX 17 (.mv (.t 1)),
 oX 18 (.bin .neq (.t 16) (.t 17))])
 (.cond (.t 18)
 (.seq
 (.reg false [
 oX 4 (.mv (kX (-1)))])
 .ret)
 .skip))
 (.seq
 (.reg false [
 oX 19 (.mv (.t 1)),
 oX 20 (.bin .add (.t 19) (kX 1)),
 oX 1 (.mv (.t 20))])
 (.seq
 (.seq
 (.reg false [
 oX 21 (.mv (.t 0)),
 oX 22 (.mv (.t 5)),
 oX 23 (.idxA 4 (.t 21) (.t 22)),
 oX 24 (.fieldA 1 (.t 23)),
 oX 25 (.load false 1 (.t 24)),
 oX 26 (.mv (.t 1)),
 oX 27 (.bin .neq (.t 25) (.t 26))])
 (.cond (.t 27)
 (.seq
 (.reg false [
 oX 4 (.mv (kX (-1)))])
 .ret)
 .skip))
 (.seq
 (.reg false [
 oX 28 (.mv (.t 1)),
 oX 29 (.bin .add (.t 28) (kX 1)),
 oX 1 (.mv (.t 29))])
 (.seq
 (.seq
 (.reg false [
 oX 30 (.mv (.t 0)),
 oX 31 (.mv (.t 5)),
 oX 32 (.idxA 4 (.t 30) (.t 31)),
 oX 33 (.fieldA 2 (.t 32)),
 oX 34 (.load false 1 (.t 33)),
 oX 35 (.mv (.t 1)),
 oX 36 (.bin .neq (.t 34) (.t 35))])
 (.cond (.t 36)
 (.seq
 (.reg false [
 oX 4 (.mv (kX (-1)))])
 .ret)
 .skip))
 (.seq
 (.reg false [
 oX 37 (.mv (.t 1)),
 oX 38 (.bin .add (.t 37) (kX 1)),
 oX 1 (.mv (.t 38))])
 (.seq
 (.reg false [
 oX 39 (.mv (.t 0)),
 oX 40 (.mv (.t 5)),
 oX 41 (.idxA 4 (.t 39) (.t 40)),
 oX 42 (.fieldA 3 (.t 41)),
 oX 43 (.load false 1 (.t 42)),
 oX 44 (.mv (.t 1)),
 oX 45 (.call .froz 25 [(.t 43), (.t 44)]),
 oX 1 (.mv (.t 45))])
 (.seq
 (.reg false [
 oX 46 (.mv (.t 1)),
 oX 47 (.bin .lss (.t 46) (kX 0))])
 (.cond (.t 47)
 (.seq
 (.reg false [
 oX 4 (.mv (kX (-1)))])
 .ret)
 .skip))))))))))
 (.reg false [
 oX 10 (.mv (.t 5)),
 oX 11 (.bin .add (.t 10) (kX 1)),
 oX 5 (.mv (.t 11))])))))))
 (.seq
 (.reg false [
 oX 48 (.mv (.t 1)),
 oX 4 (.mv (.t 48))])
 .ret)))
def ms_laws_heldSiteS : List MRes := [.tmp 4]
theorem n_laws_heldSiteS (NN : Nat) (x : DLL (Sig.tys ag_laws_heldSiteS)) : runS NN [fn_laws_heldIntS] sc_laws_heldSiteS ms_laws_heldSiteS ag_laws_heldSiteS rs_laws_heldSiteS x = G_laws_heldSiteS NN x := by kernel_rfl
theorem k_laws_heldSiteS : chkS Go.Proofs.Try.prog 89 sc_laws_heldSiteS.er ms_laws_heldSiteS 2 = true := by decide +kernel
theorem p_laws_heldSiteS : PureSpec Go.Proofs.Try.prog 89 fn_laws_heldSiteS.M ∧ chkFun Go.Proofs.Try.prog 89 = true :=
  pure_of_runS (T := [fn_laws_heldIntS]) (sc := sc_laws_heldSiteS) (ms := ms_laws_heldSiteS) (args := ag_laws_heldSiteS) (res := rs_laws_heldSiteS) (SOk.cons p_laws_heldIntS <| SOk.nil) follows_ok k_laws_heldSiteS F_laws_heldSiteS fun x y h => (n_laws_heldSiteS FUEL x).trans (f_laws_heldSiteS x y h)

def fn_laws_heldChain : SFn := ⟨38, ag_laws_heldChain, mu_laws_heldChain, rs_laws_heldChain, F_laws_heldChain⟩
def sc_laws_heldChain : SCode :=
 (.seq
 (.reg false [
 oX 2 (.box 2 (.t 0)),
 oX 4 (.mv (kX 0))])
 (.seq
 (.reg false [
 oX 5 (.fieldA 1 (.t 2)),
 oX 6 (.load false 1 (.t 5)),
 oX 7 (.mv (.t 1)),
 oX 8 (.call .froz 89 [(.t 6), (.t 7)]),
 oX 1 (.mv (.t 8))])
 (.seq
 (.seq
 (.reg false [
 oX 9 (.mv (.t 1)),
 oX 10 (.bin .lss (.t 9) (kX 0))])
 (.cond (.t 10)
 (.seq
 (.reg false [
 oX 4 (.mv (kX (-1)))])
 .ret)
 .skip))
 (.seq
 (.reg false [
 oX 11 (.mv (.t 1)),
 oX 4 (.mv (.t 11))])
 .ret))))
def ms_laws_heldChain : List MRes := [.tmp 4]
theorem n_laws_heldChain (NN : Nat) (x : DLL (Sig.tys ag_laws_heldChain)) : runS NN [fn_laws_heldSiteS] sc_laws_heldChain ms_laws_heldChain ag_laws_heldChain rs_laws_heldChain x = G_laws_heldChain NN x := by kernel_rfl
theorem k_laws_heldChain : chkS Go.Proofs.Try.prog 38 sc_laws_heldChain.er ms_laws_heldChain 2 = true := by decide +kernel
theorem p_laws_heldChain : PureSpec Go.Proofs.Try.prog 38 fn_laws_heldChain.M ∧ chkFun Go.Proofs.Try.prog 38 = true :=
  pure_of_runS (T := [fn_laws_heldSiteS]) (sc := sc_laws_heldChain) (ms := ms_laws_heldChain) (args := ag_laws_heldChain) (res := rs_laws_heldChain) (SOk.cons p_laws_heldSiteS <| SOk.nil) follows_ok k_laws_heldChain F_laws_heldChain fun x y h => (n_laws_heldChain FUEL x).trans (f_laws_heldChain x y h)

def fn_laws_FnExactCompressChain : SFn := ⟨11, ag_laws_FnExactCompressChain, mu_laws_FnExactCompressChain, rs_laws_FnExactCompressChain, F_laws_FnExactCompressChain⟩
def sc_laws_FnExactCompressChain : SCode :=
 (.seq
 (.reg false [
 oX 1 (.box 2 (.t 0)),
 oX 2 (.mv (.k (.one (.v (.bool) (false)))))])
 (.seq
 (.reg false [
 oX 3 (.mv (kX 1048576))])
 (.seq
 (.reg false [
 oX 11 (.load true 2 (.t 1)),
 oX 12 (.mv (.t 3)),
 oX 13 (.call .live 15 [(.t 11), (.t 12)]),
 oX 3 (.mv (.t 13))])
 (.seq
 (.seq
 (.reg false [
 oX 14 (.mv (.t 3)),
 oX 15 (.bin .lss (.t 14) (kX 0))])
 (.cond (.t 15)
 (.seq
 (.reg false [
 oX 2 (.mv (.k (.one (.v (.bool) (true)))))])
 .ret)
 .skip))
 (.seq
 (.reg false [
 oX 16 (.load true 2 (.t 1)),
 oX 17 (.call .live 17 [(.t 16)]),
 oX 18 (.call .live 47 [(.t 17)]),
 oX 4 (.alloc [zX, .nil gX]),
 uX (.store 2 (.t 4) (.t 18))])
 (.seq
 (.reg false [
 oX 19 (.load true 2 (.t 1)),
 oX 20 (.call .live 17 [(.t 19)]),
 oX 5 (.alloc [zX, .nil gX]),
 uX (.store 2 (.t 5) (.t 20))])
 (.seq
 (.reg false [
 oX 21 (.load true 2 (.t 5)),
 oX 22 (.call .live 48 [(.t 21)]),
 oX 6 (.alloc [zX, .nil gX]),
 uX (.store 2 (.t 6) (.t 22))])
 (.seq
 (.seq
 (.reg false [
 oX 23 (.load true 2 (.t 6)),
 oX 24 (.load true 2 (.t 4)),
 oX 25 (.call .live 19 [(.t 23), (.t 24)]),
 oX 26 (.un .not (.t 25))])
 (.cond (.t 26)
 (.seq
 (.reg false [
 oX 2 (.mv (.k (.one (.v (.bool) (false)))))])
 .ret)
 .skip))
 (.seq
 (.seq
 (.reg true [
 oX 27 (.load true 2 (.t 5)),
 oX 28 (.load true 2 (.t 1)),
 oX 29 (.call .live 17 [(.t 28)]),
 oX 30 (.call .live 19 [(.t 27), (.t 29)]),
 oX 31 (.un .not (.t 30))])
 (.cond (.t 31)
 (.seq
 (.reg false [
 oX 2 (.mv (.k (.one (.v (.bool) (false)))))])
 .ret)
 .skip))
 (.seq
 (.reg false [
 oX 7 (.mv (kX 1))])
 (.seq
 (.reg false [
 oX 32 (.load true 2 (.t 5)),
 oX 33 (.mv (.t 7)),
 oX 34 (.callm .live 23 [(.t 32), (.t 33)]),
 oX 7 (.mv (.t 34))])
 (.seq
 (.seq
 (.reg false [
 oX 35 (.mv (.t 7)),
 oX 36 (.bin .lss (.t 35) (kX 0)),
 oX 37 (.mv (.t 36)),
 ⟨(some 38), .load true 2 (.t 6), (some (37, false))⟩,
 ⟨(some 39), .load true 2 (.t 4), (some (37, false))⟩,
 ⟨(some 40), .call .live 19 [(.t 38), (.t 39)], (some (37, false))⟩,
 ⟨(some 41), .un .not (.t 40), (some (37, false))⟩,
 oX 42 (.pick (.t 37) (.k (.one (.v (.bool) (true)))) (.t 41))])
 (.cond (.t 42)
 (.seq
 (.reg false [
 oX 2 (.mv (.k (.one (.v (.bool) (false)))))])
 .ret)
 .skip))
 (.seq
 (.reg false [
 oX 8 (.mv (kX 1))])
 (.seq
 (.reg false [
 oX 43 (.load true 2 (.t 6)),
 oX 44 (.mv (.t 8)),
 oX 45 (.callm .live 23 [(.t 43), (.t 44)]),
 oX 8 (.mv (.t 45))])
 (.seq
 (.reg false [
 oX 9 (.mv (kX 1))])
 (.seq
 (.reg false [
 oX 46 (.load true 2 (.t 6)),
 oX 47 (.mv (.t 9)),
 oX 48 (.call .live 38 [(.t 46), (.t 47)]),
 oX 9 (.mv (.t 48))])
 (.seq
 (.seq
 (.reg false [
 oX 49 (.mv (.t 9)),
 oX 50 (.bin .lss (.t 49) (kX 0))])
 (.cond (.t 50)
 (.seq
 (.reg false [
 oX 2 (.mv (.k (.one (.v (.bool) (false)))))])
 .ret)
 .skip))
 (.seq
 (.seq
 (.reg false [
 oX 51 (.mv (.t 9)),
 oX 52 (.mv (.t 8)),
 oX 53 (.bin .neq (.t 51) (.t 52))])
 (.cond (.t 53)
 (.seq
 (.reg false [
 oX 2 (.mv (.k (.one (.v (.bool) (false)))))])
 .ret)
 .skip))
 (.seq
 (.reg false [
 oX 54 (.load true 2 (.t 1)),
 oX 55 (.call .live 17 [(.t 54)]),
 oX 56 (.call .live 48 [(.t 55)]),
 oX 10 (.alloc [zX, .nil gX]),
 uX (.store 2 (.t 10) (.t 56))])
 (.seq
 (.seq
 (.reg false [
 oX 57 (.load true 2 (.t 10)),
 oX 58 (.load true 2 (.t 4)),
 oX 59 (.call .live 19 [(.t 57), (.t 58)]),
 oX 60 (.un .not (.t 59))])
 (.cond (.t 60)
 (.seq
 (.reg false [
 oX 2 (.mv (.k (.one (.v (.bool) (false)))))])
 .ret)
 .skip))
 (.seq
 (.reg false [
 oX 9 (.mv (kX 1))])
 (.seq
 (.reg false [
 oX 61 (.load true 2 (.t 6)),
 oX 62 (.mv (.t 9)),
 oX 63 (.call .live 38 [(.t 61), (.t 62)]),
 oX 9 (.mv (.t 63))])
 (.seq
 (.seq
 (.reg false [
 oX 64 (.mv (.t 9)),
 oX 65 (.bin .lss (.t 64) (kX 0))])
 (.cond (.t 65)
 (.seq
 (.reg false [
 oX 2 (.mv (.k (.one (.v (.bool) (false)))))])
 .ret)
 .skip))
 (.seq
 (.seq
 (.reg false [
 oX 66 (.mv (.t 9)),
 oX 67 (.mv (.t 8)),
 oX 68 (.bin .neq (.t 66) (.t 67))])
 (.cond (.t 68)
 (.seq
 (.reg false [
 oX 2 (.mv (.k (.one (.v (.bool) (false)))))])
 .ret)
 .skip))
 (.seq
 (.reg false [
 oX 2 (.mv (.k (.one (.v (.bool) (true)))))])
 .ret)))))))))))))))))))))))))
def ms_laws_FnExactCompressChain : List MRes := [.tmp 2]
theorem n_laws_FnExactCompressChain (NN : Nat) (x : DLL (Sig.tys ag_laws_FnExactCompressChain)) : runS NN [fn_laws_szChain, fn_laws_toChain, fn_spec_CompressChain, fn_impl_CompressChain, fn_laws_eqChain, fn_laws_markChain, fn_laws_heldChain] sc_laws_FnExactCompressChain ms_laws_FnExactCompressChain ag_laws_FnExactCompressChain rs_laws_FnExactCompressChain x = G_laws_FnExactCompressChain NN x := by kernel_rfl
theorem k_laws_FnExactCompressChain : chkS Go.Proofs.Try.prog 11 sc_laws_FnExactCompressChain.er ms_laws_FnExactCompressChain 1 = true := by decide +kernel
theorem p_laws_FnExactCompressChain : PureSpec Go.Proofs.Try.prog 11 fn_laws_FnExactCompressChain.M ∧ chkFun Go.Proofs.Try.prog 11 = true :=
  pure_of_runS (T := [fn_laws_szChain, fn_laws_toChain, fn_spec_CompressChain, fn_impl_CompressChain, fn_laws_eqChain, fn_laws_markChain, fn_laws_heldChain]) (sc := sc_laws_FnExactCompressChain) (ms := ms_laws_FnExactCompressChain) (args := ag_laws_FnExactCompressChain) (res := rs_laws_FnExactCompressChain) (SOk.cons p_laws_szChain <| SOk.cons p_laws_toChain <| SOk.cons p_spec_CompressChain <| SOk.cons p_impl_CompressChain <| SOk.cons p_laws_eqChain <| SOk.consM p_laws_markChain <| SOk.cons p_laws_heldChain <| SOk.nil) follows_ok k_laws_FnExactCompressChain F_laws_FnExactCompressChain fun x y h => (n_laws_FnExactCompressChain FUEL x).trans (f_laws_FnExactCompressChain x y h)

end Go.Am
