/- A_ApplyBond: the code of the functions of FnExactApplyBond. No condition. -/
import Derived.Test.YtfoplfdfpanglaaLApplyBond
import Derived.Test.YtfoplfdfpanglaaBr2
import Derived.KernelRfl
import Derived.Test.YtfoplfdfpanglaaRows
set_option linter.unusedVariables false
set_option maxRecDepth 100000
namespace Go.Am
theorem follows_ok : Go.Proofs.Try.prog.follows .mixedOrders = true := by decide +kernel
noncomputable abbrev pX := Go.Proofs.Try.prog
def oX (n : Nat) (x : SOp) : SOper := ⟨some n, x, none⟩
def uX (x : SOp) : SOper := ⟨none, x, none⟩
def kX (n : Int) : SMO := .k (.one (.v (.int .i64) n))
def sX : ShV := .one (.c (.v (.int .i64)))
def iX : List Ty := [.int .i64]
def lX : Ty := .list iX
def gX : List Ty := [.int .i64, .int .i64, .int .i64, lX]
def zX : SC := .v (.int .i64) (0 : Int)
def vX : ShC := .c (.v (.int .i64))
def fX (n k : Nat) : ShC := .c (.full n k)
def rX (n : Nat) : ShC := .c (.ptr0 n 0)
instance tX (n : Nat) : OfNat SMO n := ⟨.t n⟩
def fn_laws_szIntS : SFn := ⟨90, ag_laws_szIntS, mu_laws_szIntS, rs_laws_szIntS, F_laws_szIntS⟩
def sc_laws_szIntS : SCode :=
 (.seq
 (.reg false [
 oX 4 (.mv (kX 0))])
 (.seq
 (.reg false [
 oX 5 (.mv 1),
 oX 6 (.mv 0),
 oX 7 (.len 6),
 oX 8 (.bin .sub 5 7),
 oX 1 (.mv 8)])
 (.seq
 (.seq
 (.reg false [
 oX 9 (.mv 1),
 oX 10 (.bin .lss 9 (kX 0))])
 (.cond 10
 (.seq
 (.reg false [
 oX 4 (.mv (kX (-1)))])
 .ret)
 .skip))
 (.seq
 (.reg false [
 oX 11 (.mv 1),
 oX 4 (.mv 11)])
 .ret))))
def ms_laws_szIntS : List MRes := [.tmp 4]
theorem n_laws_szIntS (NN : Nat) (x : DLL (Sig.tys ag_laws_szIntS)) : runS NN [] sc_laws_szIntS ms_laws_szIntS ag_laws_szIntS rs_laws_szIntS x = G_laws_szIntS NN x := by kernel_rfl
theorem k_laws_szIntS : chkS pX 90 sc_laws_szIntS.er ms_laws_szIntS 2 = true := by decide +kernel
theorem p_laws_szIntS : PureSpec pX 90 fn_laws_szIntS.M ∧ chkFun pX 90 = true :=
  pure_of_runS (T := []) (sc := sc_laws_szIntS) (ms := ms_laws_szIntS) (args := ag_laws_szIntS) (res := rs_laws_szIntS) (SOk.nil) follows_ok k_laws_szIntS F_laws_szIntS fun x y h => (n_laws_szIntS FUEL x).trans (f_laws_szIntS x y h)

def fn_laws_szSite : SFn := ⟨125, ag_laws_szSite, mu_laws_szSite, rs_laws_szSite, F_laws_szSite⟩
def sc_laws_szSite : SCode :=
 (.seq
 (.reg false [
 oX 2 (.box 4 0),
 oX 4 (.mv (kX 0))])
 (.seq
 (.reg false [
 oX 5 (.fieldA 3 2),
 oX 6 (.load false 1 5),
 oX 7 (.mv 1),
 oX 8 (.call .froz 90 [6, 7]),
 oX 1 (.mv 8)])
 (.seq
 (.seq
 (.reg false [
 oX 9 (.mv 1),
 oX 10 (.bin .lss 9 (kX 0))])
 (.cond 10
 (.seq
 (.reg false [
 oX 4 (.mv (kX (-1)))])
 .ret)
 .skip))
 (.seq
 (.reg false [
 oX 11 (.mv 1),
 oX 4 (.mv 11)])
 .ret))))
def ms_laws_szSite : List MRes := [.tmp 4]
theorem n_laws_szSite (NN : Nat) (x : DLL (Sig.tys ag_laws_szSite)) : runS NN [fn_laws_szIntS] sc_laws_szSite ms_laws_szSite ag_laws_szSite rs_laws_szSite x = G_laws_szSite NN x := by kernel_rfl
theorem k_laws_szSite : chkS pX 125 sc_laws_szSite.er ms_laws_szSite 2 = true := by decide +kernel
theorem p_laws_szSite : PureSpec pX 125 fn_laws_szSite.M ∧ chkFun pX 125 = true :=
  pure_of_runS (T := [fn_laws_szIntS]) (sc := sc_laws_szSite) (ms := ms_laws_szSite) (args := ag_laws_szSite) (res := rs_laws_szSite) (SOk.cons p_laws_szIntS <| SOk.nil) follows_ok k_laws_szSite F_laws_szSite fun x y h => (n_laws_szSite FUEL x).trans (f_laws_szSite x y h)

def fn_laws_szSiteS : SFn := ⟨62, ag_laws_szSiteS, mu_laws_szSiteS, rs_laws_szSiteS, F_laws_szSiteS⟩
def sc_laws_szSiteS : SCode :=
 (.seq
 (.reg false [
 oX 4 (.mv (kX 0))])
 (.seq
 (.reg false [
 oX 6 (.mv 1),
 oX 7 (.mv 0),
 oX 8 (.len 7),
 oX 9 (.bin .sub 6 8),
 oX 1 (.mv 9)])
 (.seq
 (.seq
 (.reg false [
 oX 10 (.mv 1),
 oX 11 (.bin .lss 10 (kX 0))])
 (.cond 11
 (.seq
 (.reg false [
 oX 4 (.mv (kX (-1)))])
 .ret)
 .skip))
 (.seq
 (.seq
 (.reg false [
 oX 5 (.mv (kX 0))])
 (.join ⟨[(1, sX)], []⟩ [] []
 (.block 0
 (.loop 0 ⟨[(0, .one (.c (.v (.list gX)))), (1, sX), (5, sX)], []⟩ [] []
 (.seq
 (.seq
 (.reg false [
 oX 12 (.mv 5),
 oX 13 (.mv 0),
 oX 14 (.len 13),
 oX 15 (.bin .lss 12 14)])
 (.cond 15
 .skip
 (.exit 0)))
 (.seq
 (.block 1
 (.seq
 (.reg false [
 oX 18 (.mv 0),
 oX 19 (.mv 5),
 oX 20 (.idxA 4 18 19),
 oX 21 (.load true 4 20),
 oX 22 (.mv 1),
 oX 23 (.call .froz 125 [21, 22]),
 oX 1 (.mv 23)])
 (.seq
 (.reg false [
 oX 24 (.mv 1),
 oX 25 (.bin .lss 24 (kX 0))])
 (.cond 25
 (.seq
 (.reg false [
 oX 4 (.mv (kX (-1)))])
 .ret)
 .skip))))
 (.reg false [
 oX 16 (.mv 5),
 oX 17 (.bin .add 16 (kX 1)),
 oX 5 (.mv 17)])))))))
 (.seq
 (.reg false [
 oX 26 (.mv 1),
 oX 4 (.mv 26)])
 .ret)))))
def ms_laws_szSiteS : List MRes := [.tmp 4]
theorem n_laws_szSiteS (NN : Nat) (x : DLL (Sig.tys ag_laws_szSiteS)) : runS NN [fn_laws_szSite] sc_laws_szSiteS ms_laws_szSiteS ag_laws_szSiteS rs_laws_szSiteS x = G_laws_szSiteS NN x := by kernel_rfl
theorem k_laws_szSiteS : chkS pX 62 sc_laws_szSiteS.er ms_laws_szSiteS 2 = true := by decide +kernel
theorem p_laws_szSiteS : PureSpec pX 62 fn_laws_szSiteS.M ∧ chkFun pX 62 = true :=
  pure_of_runS (T := [fn_laws_szSite]) (sc := sc_laws_szSiteS) (ms := ms_laws_szSiteS) (args := ag_laws_szSiteS) (res := rs_laws_szSiteS) (SOk.cons p_laws_szSite <| SOk.nil) follows_ok k_laws_szSiteS F_laws_szSiteS fun x y h => (n_laws_szSiteS FUEL x).trans (f_laws_szSiteS x y h)

def fn_laws_szChain : SFn := ⟨15, ag_laws_szChain, mu_laws_szChain, rs_laws_szChain, F_laws_szChain⟩
def sc_laws_szChain : SCode :=
 (.seq
 (.reg false [
 oX 2 (.box 2 0),
 oX 4 (.mv (kX 0))])
 (.seq
 (.reg false [
 oX 5 (.fieldA 1 2),
 oX 6 (.load false 1 5),
 oX 7 (.mv 1),
 oX 8 (.call .froz 62 [6, 7]),
 oX 1 (.mv 8)])
 (.seq
 (.seq
 (.reg false [
 oX 9 (.mv 1),
 oX 10 (.bin .lss 9 (kX 0))])
 (.cond 10
 (.seq
 (.reg false [
 oX 4 (.mv (kX (-1)))])
 .ret)
 .skip))
 (.seq
 (.reg false [
 oX 11 (.mv 1),
 oX 4 (.mv 11)])
 .ret))))
def ms_laws_szChain : List MRes := [.tmp 4]
theorem n_laws_szChain (NN : Nat) (x : DLL (Sig.tys ag_laws_szChain)) : runS NN [fn_laws_szSiteS] sc_laws_szChain ms_laws_szChain ag_laws_szChain rs_laws_szChain x = G_laws_szChain NN x := by kernel_rfl
theorem k_laws_szChain : chkS pX 15 sc_laws_szChain.er ms_laws_szChain 2 = true := by decide +kernel
theorem p_laws_szChain : PureSpec pX 15 fn_laws_szChain.M ∧ chkFun pX 15 = true :=
  pure_of_runS (T := [fn_laws_szSiteS]) (sc := sc_laws_szChain) (ms := ms_laws_szChain) (args := ag_laws_szChain) (res := rs_laws_szChain) (SOk.cons p_laws_szSiteS <| SOk.nil) follows_ok k_laws_szChain F_laws_szChain fun x y h => (n_laws_szChain FUEL x).trans (f_laws_szChain x y h)

def fn_laws_szMatrix : SFn := ⟨39, ag_laws_szMatrix, mu_laws_szMatrix, rs_laws_szMatrix, F_laws_szMatrix⟩
def sc_laws_szMatrix : SCode :=
 (.seq
 (.reg false [
 oX 2 (.box 3 0),
 oX 4 (.mv (kX 0))])
 (.seq
 (.reg false [
 oX 5 (.fieldA 2 2),
 oX 6 (.load false 1 5),
 oX 7 (.mv 1),
 oX 8 (.call .froz 90 [6, 7]),
 oX 1 (.mv 8)])
 (.seq
 (.seq
 (.reg false [
 oX 9 (.mv 1),
 oX 10 (.bin .lss 9 (kX 0))])
 (.cond 10
 (.seq
 (.reg false [
 oX 4 (.mv (kX (-1)))])
 .ret)
 .skip))
 (.seq
 (.reg false [
 oX 11 (.mv 1),
 oX 4 (.mv 11)])
 .ret))))
def ms_laws_szMatrix : List MRes := [.tmp 4]
theorem n_laws_szMatrix (NN : Nat) (x : DLL (Sig.tys ag_laws_szMatrix)) : runS NN [fn_laws_szIntS] sc_laws_szMatrix ms_laws_szMatrix ag_laws_szMatrix rs_laws_szMatrix x = G_laws_szMatrix NN x := by kernel_rfl
theorem k_laws_szMatrix : chkS pX 39 sc_laws_szMatrix.er ms_laws_szMatrix 2 = true := by decide +kernel
theorem p_laws_szMatrix : PureSpec pX 39 fn_laws_szMatrix.M ∧ chkFun pX 39 = true :=
  pure_of_runS (T := [fn_laws_szIntS]) (sc := sc_laws_szMatrix) (ms := ms_laws_szMatrix) (args := ag_laws_szMatrix) (res := rs_laws_szMatrix) (SOk.cons p_laws_szIntS <| SOk.nil) follows_ok k_laws_szMatrix F_laws_szMatrix fun x y h => (n_laws_szMatrix FUEL x).trans (f_laws_szMatrix x y h)

def fn_laws_toIntS : SFn := ⟨27, ag_laws_toIntS, mu_laws_toIntS, rs_laws_toIntS, F_laws_toIntS⟩
def sc_laws_toIntS : SCode :=
 (.seq
 (.reg false [
 oX 2 (.mv (.k (.one (.nil iX))))])
 (.seq
 (.reg false [
 oX 5 (.mv 0),
 oX 6 (.len 5),
 oX 7 (.mkslice .froz iX 8 (0 : Int) 6 6),
 oX 3 (.mv 7)])
 (.seq
 (.seq
 (.reg false [
 oX 4 (.mv (kX 0))])
 (.join ⟨[(3, .one (fX 500001 1))], [(500001, .row true .froz iX)]⟩ [500000, 500001] [(false, 3, 0, 500001, .froz, [])]
 (.block 0
 (.loop 0 ⟨[(0, .one (.c (.v (lX)))), (3, .one (fX 500000 1)), (4, sX)], [(500000, .row true .froz iX)]⟩ [7, 500000] [(false, 3, 0, 500000, .froz, [])]
 (.seq
 (.seq
 (.reg false [
 oX 8 (.mv 4),
 oX 9 (.mv 0),
 oX 10 (.len 9),
 oX 11 (.bin .lss 8 10)])
 (.cond 11
 .skip
 (.exit 0)))
 (.seq
 (.block 1
 (.reg false [
 oX 14 (.mv 3),
 oX 15 (.mv 4),
 oX 16 (.mv 0),
 oX 17 (.mv 4),
 oX 18 (.idxA 1 16 17),
 oX 19 (.load false 1 18),
 oX 20 (.idxA 1 14 15),
 uX (.store 1 20 19)]))
 (.reg false [
 oX 12 (.mv 4),
 oX 13 (.bin .add 12 (kX 1)),
 oX 4 (.mv 13)])))))))
 (.seq
 (.reg false [
 oX 21 (.mv 3),
 oX 2 (.mv 21)])
 .ret))))
def ms_laws_toIntS : List MRes := [.tmp 2]
theorem n_laws_toIntS (NN : Nat) (x : DLL (Sig.tys ag_laws_toIntS)) : runS NN [] sc_laws_toIntS ms_laws_toIntS ag_laws_toIntS rs_laws_toIntS x = G_laws_toIntS NN x := by kernel_rfl
theorem k_laws_toIntS : chkS pX 27 sc_laws_toIntS.er ms_laws_toIntS 1 = true := by decide +kernel
theorem p_laws_toIntS : PureSpec pX 27 fn_laws_toIntS.M ∧ chkFun pX 27 = true :=
  pure_of_runS (T := []) (sc := sc_laws_toIntS) (ms := ms_laws_toIntS) (args := ag_laws_toIntS) (res := rs_laws_toIntS) (SOk.nil) follows_ok k_laws_toIntS F_laws_toIntS fun x y h => (n_laws_toIntS FUEL x).trans (f_laws_toIntS x y h)

def fn_laws_toSite : SFn := ⟨126, ag_laws_toSite, mu_laws_toSite, rs_laws_toSite, F_laws_toSite⟩
def sc_laws_toSite : SCode :=
 (.seq
 (.reg false [
 oX 1 (.box 4 0),
 oX 2 (.alloc [zX, zX, zX, .nil iX])])
 (.seq
 (.reg false [
 oX 3 (.alloc [zX, zX, zX, .nil iX])])
 (.seq
 (.reg false [
 oX 4 (.fieldA 0 1),
 oX 5 (.load false 1 4),
 oX 6 (.fieldA 0 3),
 uX (.store 1 6 5)])
 (.seq
 (.reg false [
 oX 7 (.fieldA 1 1),
 oX 8 (.load false 1 7),
 oX 9 (.fieldA 1 3),
 uX (.store 1 9 8)])
 (.seq
 (.reg false [
 oX 10 (.fieldA 2 1),
 oX 11 (.load false 1 10),
 oX 12 (.fieldA 2 3),
 uX (.store 1 12 11)])
 (.seq
 (.reg false [
 oX 13 (.fieldA 3 1),
 oX 14 (.load false 1 13),
 oX 15 (.call .froz 27 [14]),
 oX 16 (.fieldA 3 3),
 uX (.store 1 16 15)])
 (.seq
 (.reg false [
 oX 17 (.load true 4 3),
 uX (.store 4 2 17)])
 .ret)))))))
def ms_laws_toSite : List MRes := [.cell 2 4 true]
theorem n_laws_toSite (NN : Nat) (x : DLL (Sig.tys ag_laws_toSite)) : runS NN [fn_laws_toIntS] sc_laws_toSite ms_laws_toSite ag_laws_toSite rs_laws_toSite x = G_laws_toSite NN x := by kernel_rfl
theorem k_laws_toSite : chkS pX 126 sc_laws_toSite.er ms_laws_toSite 1 = true := by decide +kernel
theorem p_laws_toSite : PureSpec pX 126 fn_laws_toSite.M ∧ chkFun pX 126 = true :=
  pure_of_runS (T := [fn_laws_toIntS]) (sc := sc_laws_toSite) (ms := ms_laws_toSite) (args := ag_laws_toSite) (res := rs_laws_toSite) (SOk.cons p_laws_toIntS <| SOk.nil) follows_ok k_laws_toSite F_laws_toSite fun x y h => (n_laws_toSite FUEL x).trans (f_laws_toSite x y h)

def fn_laws_toSiteS : SFn := ⟨67, ag_laws_toSiteS, mu_laws_toSiteS, rs_laws_toSiteS, F_laws_toSiteS⟩
def sc_laws_toSiteS : SCode :=
 (.seq
 (.reg false [
 oX 2 (.mv (.k (.one (.nil gX))))])
 (.seq
 (.reg false [
 oX 5 (.mv 0),
 oX 6 (.len 5),
 oX 7 (.mkslice .froz gX 48 ((0 : Int), ((0 : Int), ((0 : Int), []))) 6 6),
 oX 3 (.mv 7)])
 (.seq
 (.seq
 (.reg false [
 oX 4 (.mv (kX 0))])
 (.join ⟨[(3, .one (fX 500001 4))], [(500001, .row true .froz gX)]⟩ [500000, 500001] [(false, 3, 0, 500001, .froz, [])]
 (.block 0
 (.loop 0 ⟨[(0, .one (.c (.v (.list gX)))), (3, .one (fX 500000 4)), (4, sX)], [(500000, .row true .froz gX)]⟩ [7, 500000] [(false, 3, 0, 500000, .froz, [])]
 (.seq
 (.seq
 (.reg false [
 oX 8 (.mv 4),
 oX 9 (.mv 0),
 oX 10 (.len 9),
 oX 11 (.bin .lss 8 10)])
 (.cond 11
 .skip
 (.exit 0)))
 (.seq
 (.block 1
 (.reg false [
 oX 14 (.mv 3),
 oX 15 (.mv 4),
 oX 16 (.mv 0),
 oX 17 (.mv 4),
 oX 18 (.idxA 4 16 17),
 oX 19 (.load true 4 18),
 oX 20 (.call .froz 126 [19]),
 oX 21 (.idxA 4 14 15),
 uX (.store 4 21 20)]))
 (.reg false [
 oX 12 (.mv 4),
 oX 13 (.bin .add 12 (kX 1)),
 oX 4 (.mv 13)])))))))
 (.seq
 (.reg false [
 oX 22 (.mv 3),
 oX 2 (.mv 22)])
 .ret))))
def ms_laws_toSiteS : List MRes := [.tmp 2]
theorem n_laws_toSiteS (NN : Nat) (x : DLL (Sig.tys ag_laws_toSiteS)) : runS NN [fn_laws_toSite] sc_laws_toSiteS ms_laws_toSiteS ag_laws_toSiteS rs_laws_toSiteS x = G_laws_toSiteS NN x := by kernel_rfl
theorem k_laws_toSiteS : chkS pX 67 sc_laws_toSiteS.er ms_laws_toSiteS 1 = true := by decide +kernel
theorem p_laws_toSiteS : PureSpec pX 67 fn_laws_toSiteS.M ∧ chkFun pX 67 = true :=
  pure_of_runS (T := [fn_laws_toSite]) (sc := sc_laws_toSiteS) (ms := ms_laws_toSiteS) (args := ag_laws_toSiteS) (res := rs_laws_toSiteS) (SOk.cons p_laws_toSite <| SOk.nil) follows_ok k_laws_toSiteS F_laws_toSiteS fun x y h => (n_laws_toSiteS FUEL x).trans (f_laws_toSiteS x y h)

def fn_laws_toChain : SFn := ⟨17, ag_laws_toChain, mu_laws_toChain, rs_laws_toChain, F_laws_toChain⟩
def sc_laws_toChain : SCode :=
 (.seq
 (.reg false [
 oX 1 (.box 2 0),
 oX 2 (.alloc [zX, .nil gX])])
 (.seq
 (.reg false [
 oX 3 (.alloc [zX, .nil gX])])
 (.seq
 (.reg false [
 oX 4 (.fieldA 0 1),
 oX 5 (.load false 1 4),
 oX 6 (.fieldA 0 3),
 uX (.store 1 6 5)])
 (.seq
 (.reg false [
 oX 7 (.fieldA 1 1),
 oX 8 (.load false 1 7),
 oX 9 (.call .froz 67 [8]),
 oX 10 (.fieldA 1 3),
 uX (.store 1 10 9)])
 (.seq
 (.reg false [
 oX 11 (.load true 2 3),
 uX (.store 2 2 11)])
 .ret)))))
def ms_laws_toChain : List MRes := [.cell 2 2 true]
theorem n_laws_toChain (NN : Nat) (x : DLL (Sig.tys ag_laws_toChain)) : runS NN [fn_laws_toSiteS] sc_laws_toChain ms_laws_toChain ag_laws_toChain rs_laws_toChain x = G_laws_toChain NN x := by kernel_rfl
theorem k_laws_toChain : chkS pX 17 sc_laws_toChain.er ms_laws_toChain 1 = true := by decide +kernel
theorem p_laws_toChain : PureSpec pX 17 fn_laws_toChain.M ∧ chkFun pX 17 = true :=
  pure_of_runS (T := [fn_laws_toSiteS]) (sc := sc_laws_toChain) (ms := ms_laws_toChain) (args := ag_laws_toChain) (res := rs_laws_toChain) (SOk.cons p_laws_toSiteS <| SOk.nil) follows_ok k_laws_toChain F_laws_toChain fun x y h => (n_laws_toChain FUEL x).trans (f_laws_toChain x y h)

def fn_laws_toMatrix : SFn := ⟨41, ag_laws_toMatrix, mu_laws_toMatrix, rs_laws_toMatrix, F_laws_toMatrix⟩
def sc_laws_toMatrix : SCode :=
 (.seq
 (.reg false [
 oX 1 (.box 3 0),
 oX 2 (.alloc [zX, zX, .nil iX])])
 (.seq
 (.reg false [
 oX 3 (.alloc [zX, zX, .nil iX])])
 (.seq
 (.reg false [
 oX 4 (.fieldA 0 1),
 oX 5 (.load false 1 4),
 oX 6 (.fieldA 0 3),
 uX (.store 1 6 5)])
 (.seq
 (.reg false [
 oX 7 (.fieldA 1 1),
 oX 8 (.load false 1 7),
 oX 9 (.fieldA 1 3),
 uX (.store 1 9 8)])
 (.seq
 (.reg false [
 oX 10 (.fieldA 2 1),
 oX 11 (.load false 1 10),
 oX 12 (.call .froz 27 [11]),
 oX 13 (.fieldA 2 3),
 uX (.store 1 13 12)])
 (.seq
 (.reg false [
 oX 14 (.load true 3 3),
 uX (.store 3 2 14)])
 .ret))))))
def ms_laws_toMatrix : List MRes := [.cell 2 3 true]
theorem n_laws_toMatrix (NN : Nat) (x : DLL (Sig.tys ag_laws_toMatrix)) : runS NN [fn_laws_toIntS] sc_laws_toMatrix ms_laws_toMatrix ag_laws_toMatrix rs_laws_toMatrix x = G_laws_toMatrix NN x := by kernel_rfl
theorem k_laws_toMatrix : chkS pX 41 sc_laws_toMatrix.er ms_laws_toMatrix 1 = true := by decide +kernel
theorem p_laws_toMatrix : PureSpec pX 41 fn_laws_toMatrix.M ∧ chkFun pX 41 = true :=
  pure_of_runS (T := [fn_laws_toIntS]) (sc := sc_laws_toMatrix) (ms := ms_laws_toMatrix) (args := ag_laws_toMatrix) (res := rs_laws_toMatrix) (SOk.cons p_laws_toIntS <| SOk.nil) follows_ok k_laws_toMatrix F_laws_toMatrix fun x y h => (n_laws_toMatrix FUEL x).trans (f_laws_toMatrix x y h)

def fn_spec_l01In : SFn := ⟨64, ag_spec_l01In, mu_spec_l01In, rs_spec_l01In, F_spec_l01In⟩
def sc_spec_l01In : SCode :=
 (.seq
 (.reg false [
 oX 6 (.mv (.k (.one (.v (.bool) (false)))))])
 (.seq
 (.reg false [
 oX 7 (.mv 0),
 oX 8 (.mv 1),
 oX 9 (.bin .geq 7 8),
 oX 10 (.mv 9),
 ⟨(some 11), .mv 0, (some (10, true))⟩,
 ⟨(some 12), .mv 2, (some (10, true))⟩,
 ⟨(some 13), .bin .leq 11 12, (some (10, true))⟩,
 oX 14 (.pick 10 13 (.k (.one (.v (.bool) (false))))),
 oX 6 (.mv 14)])
 .ret))
def ms_spec_l01In : List MRes := [.tmp 6]
theorem n_spec_l01In (NN : Nat) (x : DLL (Sig.tys ag_spec_l01In)) : runS NN [] sc_spec_l01In ms_spec_l01In ag_spec_l01In rs_spec_l01In x = G_spec_l01In NN x := by kernel_rfl
theorem k_spec_l01In : chkS pX 64 sc_spec_l01In.er ms_spec_l01In 3 = true := by decide +kernel
theorem p_spec_l01In : PureSpec pX 64 fn_spec_l01In.M ∧ chkFun pX 64 = true :=
  pure_of_runS (T := []) (sc := sc_spec_l01In) (ms := ms_spec_l01In) (args := ag_spec_l01In) (res := rs_spec_l01In) (SOk.nil) follows_ok k_spec_l01In F_spec_l01In fun x y h => (n_spec_l01In FUEL x).trans (f_spec_l01In x y h)

def fn_spec_IsPrime : SFn := ⟨63, ag_spec_IsPrime, mu_spec_IsPrime, rs_spec_IsPrime, F_spec_IsPrime⟩
def sc_spec_IsPrime : SCode :=
 (.seq
 (.reg false [
 oX 2 (.mv (.k (.one (.v (.bool) (false)))))])
 (.seq
 (.seq
 (.reg false [
 oX 3 (.mv (kX 2))])
 (.join ⟨[(0, sX)], []⟩ [] []
 (.block 0
 (.loop 0 ⟨[(0, sX), (3, sX)], []⟩ [] []
 (.seq
 (.seq
 (.reg false [
 oX 4 (.mv 3),
 oX 5 (.mv 3),
 oX 6 (.bin .mul 4 5),
 oX 7 (.mv 0),
 oX 8 (.bin .leq 6 7),
 oX 9 (.mv 8),
 ⟨(some 10), .mv 0, (some (9, true))⟩,
 ⟨(some 11), .bin .leq 10 (kX 1000003), (some (9, true))⟩,
 oX 12 (.pick 9 11 (.k (.one (.v (.bool) (false)))))])
 (.cond 12
 .skip
 (.exit 0)))
 (.seq
 (.block 1
 (.seq
 (.reg false [
 oX 15 (.mv 0),
 oX 16 (.mv 3),
 oX 17 (.bin .rem 15 16),
 oX 18 (.bin .eql 17 (kX 0))])
 (.cond 18
 (.seq
 (.reg false [
 oX 2 (.mv (.k (.one (.v (.bool) (false)))))])
 .ret)
 .skip)))
 (.reg false [
 oX 13 (.mv 3),
 oX 14 (.bin .add 13 (kX 1)),
 oX 3 (.mv 14)])))))))
 (.seq
 (.reg false [
 oX 19 (.mv 0),
 oX 20 (.call .froz 64 [19, (kX 2), (kX 1000003)]),
 oX 2 (.mv 20)])
 .ret)))
def ms_spec_IsPrime : List MRes := [.tmp 2]
theorem n_spec_IsPrime (NN : Nat) (x : DLL (Sig.tys ag_spec_IsPrime)) : runS NN [fn_spec_l01In] sc_spec_IsPrime ms_spec_IsPrime ag_spec_IsPrime rs_spec_IsPrime x = G_spec_IsPrime NN x := by kernel_rfl
theorem k_spec_IsPrime : chkS pX 63 sc_spec_IsPrime.er ms_spec_IsPrime 1 = true := by decide +kernel
theorem p_spec_IsPrime : PureSpec pX 63 fn_spec_IsPrime.M ∧ chkFun pX 63 = true :=
  pure_of_runS (T := [fn_spec_l01In]) (sc := sc_spec_IsPrime) (ms := ms_spec_IsPrime) (args := ag_spec_IsPrime) (res := rs_spec_IsPrime) (SOk.cons p_spec_l01In <| SOk.nil) follows_ok k_spec_IsPrime F_spec_IsPrime fun x y h => (n_spec_IsPrime FUEL x).trans (f_spec_IsPrime x y h)

def fn_spec_l32Dims : SFn := ⟨66, ag_spec_l32Dims, mu_spec_l32Dims, rs_spec_l32Dims, F_spec_l32Dims⟩
def sc_spec_l32Dims : SCode :=
 (.seq
 (.reg false [
 oX 1 (.box 2 0),
 oX 2 (.mv (.k (.one (.nil iX))))])
 (.seq
 (.reg false [
 oX 6 (.bslice iX []),
 oX 3 (.mv 6)])
 (.seq
 (.seq
 (.reg false [
 oX 7 (.fieldA 1 1),
 oX 8 (.load false 1 7),
 oX 9 (.len 8),
 oX 10 (.mv (kX 0))])
 (.join ⟨[(3, .one (fX 500001 1))], [(500001, .row true .froz iX)]⟩ [500000, 500001] [(false, 3, 0, 500001, .froz, [])]
 (.block 0
 (.loop 0 ⟨[(3, .one (fX 500000 1)), (8, .one (.c (.v (.list gX)))), (9, sX), (10, sX)], [(500000, .row true .froz iX)]⟩ [1, 6, 5, 17, 18, 500000] [(false, 3, 0, 500000, .froz, [])]
 (.seq
 (.reg false [
 oX 11 (.bin .lss 10 9)])
 (.seq
 (.cond 11
 .skip
 (.exit 0))
 (.seq
 (.block 1
 (.seq
 (.reg false [
 oX 12 (.idxA 4 8 10),
 oX 13 (.load true 4 12),
 oX 5 (.alloc [zX, zX, zX, .nil iX]),
 uX (.store 4 5 13)])
 (.reg false [
 oX 14 (.mv 3),
 oX 15 (.fieldA 1 5),
 oX 16 (.load false 1 15),
 oX 17 (.bslice iX [16]),
 oX 18 (.append true iX 8 14 17),
 oX 3 (.mv 18)])))
 (.reg false [
 oX 19 (.bin .add 10 (kX 1)),
 oX 10 (.mv 19)]))))))))
 (.seq
 (.reg false [
 oX 20 (.mv 3),
 oX 2 (.mv 20)])
 .ret))))
def ms_spec_l32Dims : List MRes := [.tmp 2]
theorem n_spec_l32Dims (NN : Nat) (x : DLL (Sig.tys ag_spec_l32Dims)) : runS NN [] sc_spec_l32Dims ms_spec_l32Dims ag_spec_l32Dims rs_spec_l32Dims x = G_spec_l32Dims NN x := by kernel_rfl
theorem k_spec_l32Dims : chkS pX 66 sc_spec_l32Dims.er ms_spec_l32Dims 1 = true := by decide +kernel
theorem p_spec_l32Dims : PureSpec pX 66 fn_spec_l32Dims.M ∧ chkFun pX 66 = true :=
  pure_of_runS (T := []) (sc := sc_spec_l32Dims) (ms := ms_spec_l32Dims) (args := ag_spec_l32Dims) (res := rs_spec_l32Dims) (SOk.nil) follows_ok k_spec_l32Dims F_spec_l32Dims fun x y h => (n_spec_l32Dims FUEL x).trans (f_spec_l32Dims x y h)

def fn_spec_l05Product : SFn := ⟨65, ag_spec_l05Product, mu_spec_l05Product, rs_spec_l05Product, F_spec_l05Product⟩
def sc_spec_l05Product : SCode :=
 (.seq
 (.reg false [
 oX 4 (.mv (kX 0))])
 (.seq
 (.reg false [
 oX 5 (.mv (kX 1))])
 (.seq
 (.seq
 (.reg false [
 oX 8 (.mv 0),
 oX 9 (.len 8),
 oX 10 (.mv (kX 0))])
 (.join ⟨[(5, sX)], []⟩ [] []
 (.block 0
 (.loop 0 ⟨[(1, sX), (5, sX), (8, .one (.c (.v (lX)))), (9, sX), (10, sX)], []⟩ [] []
 (.seq
 (.reg false [
 oX 11 (.bin .lss 10 9)])
 (.seq
 (.cond 11
 .skip
 (.exit 0))
 (.seq
 (.block 1
 (.seq
 (.reg false [
 oX 12 (.idxA 1 8 10),
 oX 13 (.load false 1 12),
 oX 7 (.mv 13)])
 (.reg false [
 oX 14 (.mv 5),
 oX 15 (.mv 7),
 oX 16 (.bin .mul 14 15),
 oX 17 (.mv 1),
 oX 18 (.bin .add 17 (kX 1)),
 oX 19 (.mm false 16 18),
 oX 5 (.mv 19)])))
 (.reg false [
 oX 20 (.bin .add 10 (kX 1)),
 oX 10 (.mv 20)]))))))))
 (.seq
 (.reg false [
 oX 21 (.mv 5),
 oX 4 (.mv 21)])
 .ret))))
def ms_spec_l05Product : List MRes := [.tmp 4]
theorem n_spec_l05Product (NN : Nat) (x : DLL (Sig.tys ag_spec_l05Product)) : runS NN [] sc_spec_l05Product ms_spec_l05Product ag_spec_l05Product rs_spec_l05Product x = G_spec_l05Product NN x := by kernel_rfl
theorem k_spec_l05Product : chkS pX 65 sc_spec_l05Product.er ms_spec_l05Product 2 = true := by decide +kernel
theorem p_spec_l05Product : PureSpec pX 65 fn_spec_l05Product.M ∧ chkFun pX 65 = true :=
  pure_of_runS (T := []) (sc := sc_spec_l05Product) (ms := ms_spec_l05Product) (args := ag_spec_l05Product) (res := rs_spec_l05Product) (SOk.nil) follows_ok k_spec_l05Product F_spec_l05Product fun x y h => (n_spec_l05Product FUEL x).trans (f_spec_l05Product x y h)

def fn_spec_ChainOk : SFn := ⟨16, ag_spec_ChainOk, mu_spec_ChainOk, rs_spec_ChainOk, F_spec_ChainOk⟩
def sc_spec_ChainOk : SCode :=
 (.seq
 (.reg false [
 oX 1 (.box 2 0),
 oX 2 (.mv (.k (.one (.v (.bool) (false)))))])
 (.seq
 (.seq
 (.reg false [
 oX 8 (.fieldA 0 1),
 oX 9 (.load false 1 8),
 oX 10 (.call .froz 63 [9]),
 oX 11 (.un .not 10),
 oX 12 (.mv 11),
 ⟨(some 13), .fieldA 1 1, (some (12, false))⟩,
 ⟨(some 14), .load false 1 13, (some (12, false))⟩,
 ⟨(some 15), .len 14, (some (12, false))⟩,
 ⟨(some 16), .call .froz 64 [15, (kX 1), (kX 8)], (some (12, false))⟩,
 ⟨(some 17), .un .not 16, (some (12, false))⟩,
 oX 18 (.pick 12 (.k (.one (.v (.bool) (true)))) 17)])
 (.cond 18
 (.seq
 (.reg false [
 oX 2 (.mv (.k (.one (.v (.bool) (false)))))])
 .ret)
 .skip))
 (.seq
 (.reg false [
 oX 3 (.mv (kX 1))])
 (.seq
 (.seq
 (.reg false [
 oX 19 (.fieldA 1 1),
 oX 20 (.load false 1 19),
 oX 21 (.len 20),
 oX 22 (.mv (kX 0))])
 (.join ⟨[(3, sX), (1, .one (rX 1))], [(1, .box [vX, .c (.v (.list gX))])]⟩ [1] []
 (.block 0
 (.loop 0 ⟨[(1, .one (rX 1)), (3, sX), (20, .one (.c (.v (.list gX)))), (21, sX), (22, sX)], [(1, .box [vX, .c (.v (.list gX))])]⟩ [1] []
 (.seq
 (.reg false [
 oX 23 (.bin .lss 22 21)])
 (.seq
 (.cond 23
 .skip
 (.exit 0))
 (.seq
 (.join ⟨[(22, sX), (1, .one (rX 1)), (3, sX), (20, .one (.c (.v (.list gX)))), (21, sX)], [(1, .box [vX, .c (.v (.list gX))])]⟩ [1, 5] []
 (.block 1
 (.seq
 (.reg false [
 oX 24 (.idxA 4 20 22),
 oX 25 (.load true 4 24),
 oX 5 (.alloc [zX, zX, zX, .nil iX]),
 uX (.store 4 5 25)])
 (.seq
 (.seq
 (.reg false [
 oX 26 (.fieldA 0 5),
 oX 27 (.load false 1 26),
 oX 28 (.mv 3),
 oX 29 (.bin .neq 27 28),
 oX 30 (.mv 29),
 ⟨(some 31), .fieldA 1 5, (some (30, false))⟩,
 ⟨(some 32), .load false 1 31, (some (30, false))⟩,
 ⟨(some 33), .call .froz 64 [32, (kX 1), (kX 8)], (some (30, false))⟩,
 ⟨(some 34), .un .not 33, (some (30, false))⟩,
 oX 35 (.pick 30 (.k (.one (.v (.bool) (true)))) 34),
 oX 36 (.mv 35),
 ⟨(some 37), .fieldA 2 5, (some (36, false))⟩,
 ⟨(some 38), .load false 1 37, (some (36, false))⟩,
 ⟨(some 39), .call .froz 64 [38, (kX 0), (kX 32)], (some (36, false))⟩,
 ⟨(some 40), .un .not 39, (some (36, false))⟩,
 oX 41 (.pick 36 (.k (.one (.v (.bool) (true)))) 40),
 oX 42 (.mv 41),
 ⟨(some 43), .fieldA 3 5, (some (42, false))⟩,
 ⟨(some 44), .load false 1 43, (some (42, false))⟩,
 ⟨(some 45), .len 44, (some (42, false))⟩,
 ⟨(some 46), .fieldA 0 5, (some (42, false))⟩,
 ⟨(some 47), .load false 1 46, (some (42, false))⟩,
 ⟨(some 48), .fieldA 1 5, (some (42, false))⟩,
 ⟨(some 49), .load false 1 48, (some (42, false))⟩,
 ⟨(some 50), .bin .mul 47 49, (some (42, false))⟩,
 ⟨(some 51), .fieldA 2 5, (some (42, false))⟩,
 ⟨(some 52), .load false 1 51, (some (42, false))⟩,
 ⟨(some 53), .bin .mul 50 52, (some (42, false))⟩,
 ⟨(some 54), .bin .neq 45 53, (some (42, false))⟩,
 oX 55 (.pick 42 (.k (.one (.v (.bool) (true)))) 54)])
 (.cond 55
 (.seq
 (.reg false [
 oX 2 (.mv (.k (.one (.v (.bool) (false)))))])
 .ret)
 .skip))
 (.seq
 (.seq
 (.reg false [
 oX 56 (.fieldA 3 5),
 oX 57 (.load false 1 56),
 oX 58 (.len 57),
 oX 59 (.mv (kX 0))])
 (.join ⟨[(5, .one (rX 5)), (22, sX), (1, .one (rX 1)), (20, .one (.c (.v (.list gX)))), (21, sX)], [(1, .box [vX, .c (.v (.list gX))]), (5, .box [vX, vX, vX, .c (.v (lX))])]⟩ [1, 5] []
 (.block 2
 (.loop 0 ⟨[(1, .one (rX 1)), (5, .one (rX 5)), (20, .one (.c (.v (.list gX)))), (21, sX), (22, sX), (57, .one (.c (.v (lX)))), (58, sX), (59, sX)], [(1, .box [vX, .c (.v (.list gX))]), (5, .box [vX, vX, vX, .c (.v (lX))])]⟩ [1, 5] []
 (.seq
 (.reg false [
 oX 60 (.bin .lss 59 58)])
 (.seq
 (.cond 60
 .skip
 (.exit 2))
 (.seq
 (.block 3
 (.seq
 (.reg false [
 oX 61 (.idxA 1 57 59),
 oX 62 (.load false 1 61),
 oX 7 (.mv 62)])
 (.seq
 (.reg false [
 oX 63 (.mv 7),
 oX 64 (.fieldA 0 1),
 oX 65 (.load false 1 64),
 oX 66 (.bin .sub 65 (kX 1)),
 oX 67 (.call .froz 64 [63, (kX 0), 66]),
 oX 68 (.un .not 67)])
 (.cond 68
 (.seq
 (.reg false [
 oX 2 (.mv (.k (.one (.v (.bool) (false)))))])
 .ret)
 .skip))))
 (.reg false [
 oX 69 (.bin .add 59 (kX 1)),
 oX 59 (.mv 69)]))))))))
 (.reg false [
 oX 70 (.fieldA 2 5),
 oX 71 (.load false 1 70),
 oX 3 (.mv 71)]))))))
 (.reg false [
 oX 72 (.bin .add 22 (kX 1)),
 oX 22 (.mv 72)]))))))))
 (.seq
 (.reg false [
 oX 73 (.mv 3),
 oX 74 (.bin .eql 73 (kX 1)),
 oX 75 (.mv 74),
 ⟨(some 76), .load true 2 1, (some (75, true))⟩,
 ⟨(some 77), .call .froz 66 [76], (some (75, true))⟩,
 ⟨(some 78), .call .froz 65 [77, (kX 4096)], (some (75, true))⟩,
 ⟨(some 79), .bin .leq 78 (kX 4096), (some (75, true))⟩,
 oX 80 (.pick 75 79 (.k (.one (.v (.bool) (false))))),
 oX 2 (.mv 80)])
 .ret)))))
def ms_spec_ChainOk : List MRes := [.tmp 2]
theorem n_spec_ChainOk (NN : Nat) (x : DLL (Sig.tys ag_spec_ChainOk)) : runS NN [fn_spec_IsPrime, fn_spec_l01In, fn_spec_l32Dims, fn_spec_l05Product] sc_spec_ChainOk ms_spec_ChainOk ag_spec_ChainOk rs_spec_ChainOk x = G_spec_ChainOk NN x := by kernel_rfl
theorem k_spec_ChainOk : chkS pX 16 sc_spec_ChainOk.er ms_spec_ChainOk 1 = true := by decide +kernel
theorem p_spec_ChainOk : PureSpec pX 16 fn_spec_ChainOk.M ∧ chkFun pX 16 = true :=
  pure_of_runS (T := [fn_spec_IsPrime, fn_spec_l01In, fn_spec_l32Dims, fn_spec_l05Product]) (sc := sc_spec_ChainOk) (ms := ms_spec_ChainOk) (args := ag_spec_ChainOk) (res := rs_spec_ChainOk) (SOk.cons p_spec_IsPrime <| SOk.cons p_spec_l01In <| SOk.cons p_spec_l32Dims <| SOk.cons p_spec_l05Product <| SOk.nil) follows_ok k_spec_ChainOk F_spec_ChainOk fun x y h => (n_spec_ChainOk FUEL x).trans (f_spec_ChainOk x y h)

def fn_spec_MatrixOk : SFn := ⟨91, ag_spec_MatrixOk, mu_spec_MatrixOk, rs_spec_MatrixOk, F_spec_MatrixOk⟩
def sc_spec_MatrixOk : SCode :=
 (.seq
 (.reg false [
 oX 3 (.box 3 1),
 oX 4 (.mv (.k (.one (.v (.bool) (false)))))])
 (.seq
 (.seq
 (.reg false [
 oX 7 (.mv 0),
 oX 8 (.call .froz 63 [7]),
 oX 9 (.un .not 8),
 oX 10 (.mv 9),
 ⟨(some 11), .fieldA 0 3, (some (10, false))⟩,
 ⟨(some 12), .load false 1 11, (some (10, false))⟩,
 ⟨(some 13), .call .froz 64 [12, (kX 0), (kX 64)], (some (10, false))⟩,
 ⟨(some 14), .un .not 13, (some (10, false))⟩,
 oX 15 (.pick 10 (.k (.one (.v (.bool) (true)))) 14),
 oX 16 (.mv 15),
 ⟨(some 17), .fieldA 1 3, (some (16, false))⟩,
 ⟨(some 18), .load false 1 17, (some (16, false))⟩,
 ⟨(some 19), .call .froz 64 [18, (kX 0), (kX 64)], (some (16, false))⟩,
 ⟨(some 20), .un .not 19, (some (16, false))⟩,
 oX 21 (.pick 16 (.k (.one (.v (.bool) (true)))) 20),
 oX 22 (.mv 21),
 ⟨(some 23), .fieldA 2 3, (some (22, false))⟩,
 ⟨(some 24), .load false 1 23, (some (22, false))⟩,
 ⟨(some 25), .len 24, (some (22, false))⟩,
 ⟨(some 26), .fieldA 0 3, (some (22, false))⟩,
 ⟨(some 27), .load false 1 26, (some (22, false))⟩,
 ⟨(some 28), .fieldA 1 3, (some (22, false))⟩,
 ⟨(some 29), .load false 1 28, (some (22, false))⟩,
 ⟨(some 30), .bin .mul 27 29, (some (22, false))⟩,
 ⟨(some 31), .bin .neq 25 30, (some (22, false))⟩,
 oX 32 (.pick 22 (.k (.one (.v (.bool) (true)))) 31)])
 (.cond 32
 (.seq
 (.reg false [
 oX 4 (.mv (.k (.one (.v (.bool) (false)))))])
 .ret)
 .skip))
 (.seq
 (.seq
 (.reg false [
 oX 33 (.fieldA 2 3),
 oX 34 (.load false 1 33),
 oX 35 (.len 34),
 oX 36 (.mv (kX 0))])
 (.join ⟨[], []⟩ [] []
 (.block 0
 (.loop 0 ⟨[(0, sX), (34, .one (.c (.v (lX)))), (35, sX), (36, sX)], []⟩ [3] []
 (.seq
 (.reg false [
 oX 37 (.bin .lss 36 35)])
 (.seq
 (.cond 37
 .skip
 (.exit 0))
 (.seq
 (.block 1
 (.seq
 (.reg false [
 oX 38 (.idxA 1 34 36),
 oX 39 (.load false 1 38),
 oX 6 (.mv 39)])
 (.seq
 (.reg false [
 oX 40 (.mv 6),
 oX 41 (.mv 0),
 oX 42 (.bin .sub 41 (kX 1)),
 oX 43 (.call .froz 64 [40, (kX 0), 42]),
 oX 44 (.un .not 43)])
 (.cond 44
 (.seq
 (.reg false [
 oX 4 (.mv (.k (.one (.v (.bool) (false)))))])
 .ret)
 .skip))))
 (.reg false [
 oX 45 (.bin .add 36 (kX 1)),
 oX 36 (.mv 45)]))))))))
 (.seq
 (.reg false [
 oX 4 (.mv (.k (.one (.v (.bool) (true)))))])
 .ret))))
def ms_spec_MatrixOk : List MRes := [.tmp 4]
theorem n_spec_MatrixOk (NN : Nat) (x : DLL (Sig.tys ag_spec_MatrixOk)) : runS NN [fn_spec_IsPrime, fn_spec_l01In] sc_spec_MatrixOk ms_spec_MatrixOk ag_spec_MatrixOk rs_spec_MatrixOk x = G_spec_MatrixOk NN x := by kernel_rfl
theorem k_spec_MatrixOk : chkS pX 91 sc_spec_MatrixOk.er ms_spec_MatrixOk 2 = true := by decide +kernel
theorem p_spec_MatrixOk : PureSpec pX 91 fn_spec_MatrixOk.M ∧ chkFun pX 91 = true :=
  pure_of_runS (T := [fn_spec_IsPrime, fn_spec_l01In]) (sc := sc_spec_MatrixOk) (ms := ms_spec_MatrixOk) (args := ag_spec_MatrixOk) (res := rs_spec_MatrixOk) (SOk.cons p_spec_IsPrime <| SOk.cons p_spec_l01In <| SOk.nil) follows_ok k_spec_MatrixOk F_spec_MatrixOk fun x y h => (n_spec_MatrixOk FUEL x).trans (f_spec_MatrixOk x y h)

def fn_spec_l31New : SFn := ⟨77, ag_spec_l31New, mu_spec_l31New, rs_spec_l31New, F_spec_l31New⟩
def sc_spec_l31New : SCode :=
 (.seq
 (.reg false [
 oX 4 (.alloc [zX, zX, .nil iX])])
 (.seq
 (.reg false [
 oX 5 (.mv 0),
 oX 6 (.mv 1),
 oX 7 (.mv 0),
 oX 8 (.mv 1),
 oX 9 (.bin .mul 7 8),
 oX 10 (.mkslice .froz iX 8 (0 : Int) 9 9),
 oX 11 (.build [zX, zX, .nil iX] [(0, 1, 5), (1, 1, 6), (2, 1, 10)]),
 uX (.store 3 4 11)])
 .ret))
def ms_spec_l31New : List MRes := [.cell 4 3 true]
theorem n_spec_l31New (NN : Nat) (x : DLL (Sig.tys ag_spec_l31New)) : runS NN [] sc_spec_l31New ms_spec_l31New ag_spec_l31New rs_spec_l31New x = G_spec_l31New NN x := by kernel_rfl
theorem k_spec_l31New : chkS pX 77 sc_spec_l31New.er ms_spec_l31New 2 = true := by decide +kernel
theorem p_spec_l31New : PureSpec pX 77 fn_spec_l31New.M ∧ chkFun pX 77 = true :=
  pure_of_runS (T := []) (sc := sc_spec_l31New) (ms := ms_spec_l31New) (args := ag_spec_l31New) (res := rs_spec_l31New) (SOk.nil) follows_ok k_spec_l31New F_spec_l31New fun x y h => (n_spec_l31New FUEL x).trans (f_spec_l31New x y h)

def fn_spec_l31Mul : SFn := ⟨78, ag_spec_l31Mul, mu_spec_l31Mul, rs_spec_l31Mul, F_spec_l31Mul⟩
def sc_spec_l31Mul : SCode :=
 (.seq
 (.reg false [
 oX 4 (.box 3 1),
 oX 5 (.box 3 2),
 oX 6 (.alloc [zX, zX, .nil iX])])
 (.seq
 (.reg false [
 oX 12 (.fieldA 0 4),
 oX 13 (.load false 1 12),
 oX 14 (.fieldA 1 5),
 oX 15 (.load false 1 14),
 oX 16 (.call .froz 77 [13, 15]),
 oX 7 (.alloc [zX, zX, .nil iX]),
 uX (.store 3 7 16)])
 (.seq
 (.seq
 (.reg false [
 oX 8 (.mv (kX 0))])
 (.join ⟨[(7, .one (rX 7)), (6, .one (rX 6))], [(6, .box [vX, vX, fX 500012 1]), (7, .box [vX, vX, fX 500013 1]), (500012, .row true .froz iX), (500013, .row true .froz iX)]⟩ [4, 5, 6, 7, 500000, 500001, 500012, 500013] [(true, 6, 2, 500012, .froz, []), (true, 7, 2, 500013, .froz, [])]
 (.block 0
 (.loop 0 ⟨[(0, sX), (4, .one (rX 4)), (5, .one (rX 5)), (6, .one (rX 6)), (7, .one (rX 7)), (8, sX)], [(4, .box [vX, vX, .c (.v (lX))]), (5, .box [vX, vX, .c (.v (lX))]), (6, .box [vX, vX, fX 500000 1]), (7, .box [vX, vX, fX 500001 1]), (500000, .row true .froz iX), (500001, .row true .froz iX)]⟩ [4, 5, 6, 17000, 7, 500000, 500001, 500010, 500011] [(true, 6, 2, 500000, .froz, []), (true, 7, 2, 500001, .froz, [])]
 (.seq
 (.seq
 (.reg false [
 oX 17 (.mv 8),
 oX 18 (.fieldA 0 4),
 oX 19 (.load false 1 18),
 oX 20 (.bin .lss 17 19)])
 (.cond 20
 .skip
 (.exit 0)))
 (.seq
 (.join ⟨[(8, sX), (0, sX), (4, .one (rX 4)), (5, .one (rX 5)), (6, .one (rX 6)), (7, .one (rX 7))], [(4, .box [vX, vX, .c (.v (lX))]), (5, .box [vX, vX, .c (.v (lX))]), (6, .box [vX, vX, fX 500010 1]), (7, .box [vX, vX, fX 500011 1]), (500010, .row true .froz iX), (500011, .row true .froz iX)]⟩ [4, 5, 6, 7, 500002, 500003, 500010, 500011] [(true, 6, 2, 500010, .froz, []), (true, 7, 2, 500011, .froz, [])]
 (.block 1
 (.seq
 (.reg false [
 oX 9 (.mv (kX 0))])
 (.block 2
 (.loop 0 ⟨[(0, sX), (4, .one (rX 4)), (5, .one (rX 5)), (6, .one (rX 6)), (7, .one (rX 7)), (8, sX), (9, sX)], [(4, .box [vX, vX, .c (.v (lX))]), (5, .box [vX, vX, .c (.v (lX))]), (6, .box [vX, vX, fX 500002 1]), (7, .box [vX, vX, fX 500003 1]), (500002, .row true .froz iX), (500003, .row true .froz iX)]⟩ [4, 5, 6, 7, 500000, 500001, 500002, 500003, 500008, 500009] [(true, 6, 2, 500002, .froz, []), (true, 7, 2, 500003, .froz, [])]
 (.seq
 (.seq
 (.reg false [
 oX 23 (.mv 9),
 oX 24 (.fieldA 1 5),
 oX 25 (.load false 1 24),
 oX 26 (.bin .lss 23 25)])
 (.cond 26
 .skip
 (.exit 2)))
 (.seq
 (.join ⟨[(9, sX), (0, sX), (4, .one (rX 4)), (5, .one (rX 5)), (6, .one (rX 6)), (7, .one (rX 7)), (8, sX)], [(4, .box [vX, vX, .c (.v (lX))]), (5, .box [vX, vX, .c (.v (lX))]), (6, .box [vX, vX, fX 500008 1]), (7, .box [vX, vX, fX 500009 1]), (500008, .row true .froz iX), (500009, .row true .froz iX)]⟩ [4, 5, 6, 7, 500006, 500007, 500008, 500009] [(true, 6, 2, 500008, .froz, []), (true, 7, 2, 500009, .froz, [])]
 (.block 3
 (.seq
 (.reg false [
 oX 10 (.mv (kX 0))])
 (.seq
 (.seq
 (.reg false [
 oX 11 (.mv (kX 0))])
 (.join ⟨[(10, sX), (9, sX), (0, sX), (4, .one (rX 4)), (5, .one (rX 5)), (6, .one (rX 6)), (7, .one (rX 7)), (8, sX)], [(4, .box [vX, vX, .c (.v (lX))]), (5, .box [vX, vX, .c (.v (lX))]), (6, .box [vX, vX, fX 500006 1]), (7, .box [vX, vX, fX 500007 1]), (500006, .row true .froz iX), (500007, .row true .froz iX)]⟩ [4, 5, 6, 7, 500004, 500005, 500006, 500007] [(true, 6, 2, 500006, .froz, []), (true, 7, 2, 500007, .froz, [])]
 (.block 4
 (.loop 0 ⟨[(0, sX), (4, .one (rX 4)), (5, .one (rX 5)), (6, .one (rX 6)), (7, .one (rX 7)), (8, sX), (9, sX), (10, sX), (11, sX)], [(4, .box [vX, vX, .c (.v (lX))]), (5, .box [vX, vX, .c (.v (lX))]), (6, .box [vX, vX, fX 500004 1]), (7, .box [vX, vX, fX 500005 1]), (500004, .row true .froz iX), (500005, .row true .froz iX)]⟩ [4, 5, 6, 7, 500002, 500003, 500004, 500005] [(true, 6, 2, 500004, .froz, []), (true, 7, 2, 500005, .froz, [])]
 (.seq
 (.seq
 (.reg false [
 oX 29 (.mv 11),
 oX 30 (.fieldA 1 4),
 oX 31 (.load false 1 30),
 oX 32 (.bin .lss 29 31)])
 (.cond 32
 .skip
 (.exit 4)))
 (.seq
 (.block 5
 (.reg true [
 oX 35 (.mv 10),
 oX 36 (.fieldA 2 4),
 oX 37 (.load false 1 36),
 oX 38 (.mv 8),
 oX 39 (.fieldA 1 4),
 oX 40 (.load false 1 39),
 oX 41 (.bin .mul 38 40),
 oX 42 (.mv 11),
 oX 43 (.bin .add 41 42),
 oX 44 (.idxA 1 37 43),
 oX 45 (.load false 1 44),
 oX 46 (.fieldA 2 5),
 oX 47 (.load false 1 46),
 oX 48 (.mv 11),
 oX 49 (.fieldA 1 5),
 oX 50 (.load false 1 49),
 oX 51 (.bin .mul 48 50),
 oX 52 (.mv 9),
 oX 53 (.bin .add 51 52),
 oX 54 (.idxA 1 47 53),
 oX 55 (.load false 1 54),
 oX 56 (.bin .mul 45 55),
 oX 57 (.bin .add 35 56),
 oX 58 (.mv 0),
 oX 59 (.bin .rem 57 58),
 oX 10 (.mv 59)]))
 (.reg false [
 oX 33 (.mv 11),
 oX 34 (.bin .add 33 (kX 1)),
 oX 11 (.mv 34)])))))))
 (.reg false [
 oX 60 (.fieldA 2 7),
 oX 61 (.load false 1 60),
 oX 62 (.mv 8),
 oX 63 (.fieldA 1 5),
 oX 64 (.load false 1 63),
 oX 65 (.bin .mul 62 64),
 oX 66 (.mv 9),
 oX 67 (.bin .add 65 66),
 oX 68 (.mv 10),
 oX 69 (.idxA 1 61 67),
 uX (.store 1 69 68)])))))
 (.reg false [
 oX 27 (.mv 9),
 oX 28 (.bin .add 27 (kX 1)),
 oX 9 (.mv 28)]))))))))
 (.reg false [
 oX 21 (.mv 8),
 oX 22 (.bin .add 21 (kX 1)),
 oX 8 (.mv 22)])))))))
 (.seq
 (.reg false [
 oX 70 (.load true 3 7),
 uX (.store 3 6 70)])
 .ret))))
def ms_spec_l31Mul : List MRes := [.cell 6 3 true]
theorem n_spec_l31Mul (NN : Nat) (x : DLL (Sig.tys ag_spec_l31Mul)) : runS NN [fn_spec_l31New] sc_spec_l31Mul ms_spec_l31Mul ag_spec_l31Mul rs_spec_l31Mul x = G_spec_l31Mul NN x := by kernel_rfl
theorem k_spec_l31Mul : chkS pX 78 sc_spec_l31Mul.er ms_spec_l31Mul 3 = true := by decide +kernel
theorem p_spec_l31Mul : PureSpec pX 78 fn_spec_l31Mul.M ∧ chkFun pX 78 = true :=
  pure_of_runS (T := [fn_spec_l31New]) (sc := sc_spec_l31Mul) (ms := ms_spec_l31Mul) (args := ag_spec_l31Mul) (res := rs_spec_l31Mul) (SOk.cons p_spec_l31New <| SOk.nil) follows_ok k_spec_l31Mul F_spec_l31Mul fun x y h => (n_spec_l31Mul FUEL x).trans (f_spec_l31Mul x y h)

def fn_spec_l05Ints : SFn := ⟨122, ag_spec_l05Ints, mu_spec_l05Ints, rs_spec_l05Ints, F_spec_l05Ints⟩
def sc_spec_l05Ints : SCode :=
 (.seq
 (.reg false [
 oX 2 (.mv (.k (.one (.nil iX))))])
 (.seq
 (.reg false [
 oX 3 (.bslice iX []),
 oX 4 (.mv 0),
 oX 5 (.append true iX 8 3 4),
 oX 2 (.mv 5)])
 .ret))
def ms_spec_l05Ints : List MRes := [.tmp 2]
theorem n_spec_l05Ints (NN : Nat) (x : DLL (Sig.tys ag_spec_l05Ints)) : runS NN [] sc_spec_l05Ints ms_spec_l05Ints ag_spec_l05Ints rs_spec_l05Ints x = G_spec_l05Ints NN x := by kernel_rfl
theorem k_spec_l05Ints : chkS pX 122 sc_spec_l05Ints.er ms_spec_l05Ints 1 = true := by decide +kernel
theorem p_spec_l05Ints : PureSpec pX 122 fn_spec_l05Ints.M ∧ chkFun pX 122 = true :=
  pure_of_runS (T := []) (sc := sc_spec_l05Ints) (ms := ms_spec_l05Ints) (args := ag_spec_l05Ints) (res := rs_spec_l05Ints) (SOk.nil) follows_ok k_spec_l05Ints F_spec_l05Ints fun x y h => (n_spec_l05Ints FUEL x).trans (f_spec_l05Ints x y h)

def fn_spec_l31Pivot : SFn := ⟨154, ag_spec_l31Pivot, mu_spec_l31Pivot, rs_spec_l31Pivot, F_spec_l31Pivot⟩
def sc_spec_l31Pivot : SCode :=
 (.seq
 (.reg false [
 oX 3 (.box 3 0),
 oX 6 (.mv (kX 0))])
 (.seq
 (.seq
 (.reg false [
 oX 8 (.mv 1),
 oX 7 (.mv 8)])
 (.join ⟨[], []⟩ [3] []
 (.block 0
 (.loop 0 ⟨[(2, sX), (3, .one (rX 3)), (7, sX)], [(3, .box [vX, vX, .c (.v (lX))])]⟩ [3] []
 (.seq
 (.seq
 (.reg false [
 oX 9 (.mv 7),
 oX 10 (.fieldA 0 3),
 oX 11 (.load false 1 10),
 oX 12 (.bin .lss 9 11)])
 (.cond 12
 .skip
 (.exit 0)))
 (.seq
 (.block 1
 (.seq
 (.reg false [
 oX 15 (.fieldA 2 3),
 oX 16 (.load false 1 15),
 oX 17 (.mv 7),
 oX 18 (.fieldA 1 3),
 oX 19 (.load false 1 18),
 oX 20 (.bin .mul 17 19),
 oX 21 (.mv 2),
 oX 22 (.bin .add 20 21),
 oX 23 (.idxA 1 16 22),
 oX 24 (.load false 1 23),
 oX 25 (.bin .neq 24 (kX 0))])
 (.cond 25
 (.seq
 (.reg false [
 oX 26 (.mv 7),
 oX 6 (.mv 26)])
 .ret)
 .skip)))
 (.reg false [
 oX 13 (.mv 7),
 oX 14 (.bin .add 13 (kX 1)),
 oX 7 (.mv 14)])))))))
 (.seq
 (.reg false [
 oX 6 (.mv (kX (-1)))])
 .ret)))
def ms_spec_l31Pivot : List MRes := [.tmp 6]
theorem n_spec_l31Pivot (NN : Nat) (x : DLL (Sig.tys ag_spec_l31Pivot)) : runS NN [] sc_spec_l31Pivot ms_spec_l31Pivot ag_spec_l31Pivot rs_spec_l31Pivot x = G_spec_l31Pivot NN x := by kernel_rfl
theorem k_spec_l31Pivot : chkS pX 154 sc_spec_l31Pivot.er ms_spec_l31Pivot 3 = true := by decide +kernel
theorem p_spec_l31Pivot : PureSpec pX 154 fn_spec_l31Pivot.M ∧ chkFun pX 154 = true :=
  pure_of_runS (T := []) (sc := sc_spec_l31Pivot) (ms := ms_spec_l31Pivot) (args := ag_spec_l31Pivot) (res := rs_spec_l31Pivot) (SOk.nil) follows_ok k_spec_l31Pivot F_spec_l31Pivot fun x y h => (n_spec_l31Pivot FUEL x).trans (f_spec_l31Pivot x y h)

def fn_spec_l31Swap : SFn := ⟨155, ag_spec_l31Swap, mu_spec_l31Swap, rs_spec_l31Swap, F_spec_l31Swap⟩
def sc_spec_l31Swap : SCode :=
 (.seq
 (.reg false [
 oX 3 (.box 3 0)])
 (.seq
 (.reg false [
 oX 6 (.mv (kX 0))])
 (.block 0
 (.loop 0 ⟨[(1, sX), (2, sX), (3, .one (rX 3)), (6, sX)], [(1000000, .row false .froz iX), (3, .box [vX, vX, fX 1000000 1])]⟩ [1000000, 3, 500000] [(true, 3, 2, 500000, .froz, [])]
 (.seq
 (.seq
 (.reg false [
 oX 8 (.mv 6),
 oX 9 (.fieldA 1 3),
 oX 10 (.load false 1 9),
 oX 11 (.bin .lss 8 10)])
 (.cond 11
 .skip
 (.exit 0)))
 (.seq
 (.block 1
 (.seq
 (.reg false [
 oX 14 (.fieldA 2 3),
 oX 15 (.load false 1 14),
 oX 16 (.mv 1),
 oX 17 (.fieldA 1 3),
 oX 18 (.load false 1 17),
 oX 19 (.bin .mul 16 18),
 oX 20 (.mv 6),
 oX 21 (.bin .add 19 20),
 oX 22 (.idxA 1 15 21),
 oX 23 (.load false 1 22),
 oX 7 (.mv 23)])
 (.seq
 (.reg true [
 oX 24 (.fieldA 2 3),
 oX 25 (.load false 1 24),
 oX 26 (.mv 1),
 oX 27 (.fieldA 1 3),
 oX 28 (.load false 1 27),
 oX 29 (.bin .mul 26 28),
 oX 30 (.mv 6),
 oX 31 (.bin .add 29 30),
 oX 32 (.fieldA 2 3),
 oX 33 (.load false 1 32),
 oX 34 (.mv 2),
 oX 35 (.fieldA 1 3),
 oX 36 (.load false 1 35),
 oX 37 (.bin .mul 34 36),
 oX 38 (.mv 6),
 oX 39 (.bin .add 37 38),
 oX 40 (.idxA 1 33 39),
 oX 41 (.load false 1 40),
 oX 42 (.idxA 1 25 31),
 uX (.store 1 42 41)])
 (.reg false [
 oX 43 (.fieldA 2 3),
 oX 44 (.load false 1 43),
 oX 45 (.mv 2),
 oX 46 (.fieldA 1 3),
 oX 47 (.load false 1 46),
 oX 48 (.bin .mul 45 47),
 oX 49 (.mv 6),
 oX 50 (.bin .add 48 49),
 oX 51 (.mv 7),
 oX 52 (.idxA 1 44 50),
 uX (.store 1 52 51)]))))
 (.reg false [
 oX 12 (.mv 6),
 oX 13 (.bin .add 12 (kX 1)),
 oX 6 (.mv 13)])))))))
def ms_spec_l31Swap : List MRes := []
theorem n_spec_l31Swap (NN : Nat) (x : DLL (Sig.tys ag_spec_l31Swap)) : runMS NN [] sc_spec_l31Swap ms_spec_l31Swap ag_spec_l31Swap mu_spec_l31Swap rs_spec_l31Swap x = G_spec_l31Swap NN x := by kernel_rfl
theorem k_spec_l31Swap : chkS pX 155 sc_spec_l31Swap.er ms_spec_l31Swap 3 = true := by decide +kernel
theorem p_spec_l31Swap : MutSpec pX 155 mu_spec_l31Swap fn_spec_l31Swap.MM ∧ chkFun pX 155 = true :=
  mut_of_runMS (T := []) (sc := sc_spec_l31Swap) (ms := ms_spec_l31Swap) (args := ag_spec_l31Swap) (mu := mu_spec_l31Swap) (res := rs_spec_l31Swap) (SOk.nil) follows_ok k_spec_l31Swap F_spec_l31Swap fun x y h => (n_spec_l31Swap FUEL x).trans (f_spec_l31Swap x y h)

def fn_spec_l31Inverse : SFn := ⟨156, ag_spec_l31Inverse, mu_spec_l31Inverse, rs_spec_l31Inverse, F_spec_l31Inverse⟩
def sc_spec_l31Inverse : SCode :=
 (.seq
 (.reg false [
 oX 4 (.mv (kX 0))])
 (.seq
 (.reg false [
 oX 5 (.mv (kX 1))])
 (.seq
 (.seq
 (.reg false [
 oX 7 (.mv 0),
 oX 8 (.bin .sub 7 (kX 2)),
 oX 6 (.mv 8)])
 (.join ⟨[(5, sX)], []⟩ [] []
 (.block 0
 (.loop 0 ⟨[(0, sX), (1, sX), (5, sX), (6, sX)], []⟩ [] []
 (.seq
 (.seq
 (.reg false [
 oX 9 (.mv 6),
 oX 10 (.bin .gtr 9 (kX 0))])
 (.cond 10
 .skip
 (.exit 0)))
 (.seq
 (.block 1
 (.seq
 (.seq
 (.reg false [
 oX 13 (.mv 6),
 oX 14 (.bin .rem 13 (kX 2)),
 oX 15 (.bin .eql 14 (kX 1))])
 (.join ⟨[(1, sX), (6, sX), (0, sX), (5, sX)], []⟩ [] []
 (.cond 15
 (.reg false [
 oX 16 (.mv 5),
 oX 17 (.mv 1),
 oX 18 (.bin .mul 16 17),
 oX 19 (.mv 0),
 oX 20 (.bin .rem 18 19),
 oX 5 (.mv 20)])
 .skip)))
 (.reg false [
 oX 21 (.mv 1),
 oX 22 (.mv 1),
 oX 23 (.bin .mul 21 22),
 oX 24 (.mv 0),
 oX 25 (.bin .rem 23 24),
 oX 1 (.mv 25)])))
 (.reg false [
 oX 11 (.mv 6),
 oX 12 (.bin .quo 11 (kX 2)),
 oX 6 (.mv 12)])))))))
 (.seq
 (.reg false [
 oX 26 (.mv 5),
 oX 4 (.mv 26)])
 .ret))))
def ms_spec_l31Inverse : List MRes := [.tmp 4]
theorem n_spec_l31Inverse (NN : Nat) (x : DLL (Sig.tys ag_spec_l31Inverse)) : runS NN [] sc_spec_l31Inverse ms_spec_l31Inverse ag_spec_l31Inverse rs_spec_l31Inverse x = G_spec_l31Inverse NN x := by kernel_rfl
theorem k_spec_l31Inverse : chkS pX 156 sc_spec_l31Inverse.er ms_spec_l31Inverse 2 = true := by decide +kernel
theorem p_spec_l31Inverse : PureSpec pX 156 fn_spec_l31Inverse.M ∧ chkFun pX 156 = true :=
  pure_of_runS (T := []) (sc := sc_spec_l31Inverse) (ms := ms_spec_l31Inverse) (args := ag_spec_l31Inverse) (res := rs_spec_l31Inverse) (SOk.nil) follows_ok k_spec_l31Inverse F_spec_l31Inverse fun x y h => (n_spec_l31Inverse FUEL x).trans (f_spec_l31Inverse x y h)

def fn_spec_l31Clear : SFn := ⟨157, ag_spec_l31Clear, mu_spec_l31Clear, rs_spec_l31Clear, F_spec_l31Clear⟩
def sc_spec_l31Clear : SCode :=
 (.seq
 (.reg false [
 oX 6 (.box 3 1)])
 (.seq
 (.reg false [
 oX 10 (.mv (kX 0))])
 (.block 0
 (.loop 0 ⟨[(0, sX), (2, sX), (3, sX), (4, sX), (6, .one (rX 6)), (10, sX)], [(1000000, .row false .froz iX), (6, .box [vX, vX, fX 1000000 1])]⟩ [1000000, 6, 500000] [(true, 6, 2, 500000, .froz, [])]
 (.seq
 (.seq
 (.reg false [
 oX 11 (.mv 10),
 oX 12 (.fieldA 1 6),
 oX 13 (.load false 1 12),
 oX 14 (.bin .lss 11 13)])
 (.cond 14
 .skip
 (.exit 0)))
 (.seq
 (.block 1
 (.reg true [
 oX 17 (.fieldA 2 6),
 oX 18 (.load false 1 17),
 oX 19 (.mv 2),
 oX 20 (.fieldA 1 6),
 oX 21 (.load false 1 20),
 oX 22 (.bin .mul 19 21),
 oX 23 (.mv 10),
 oX 24 (.bin .add 22 23),
 oX 25 (.fieldA 2 6),
 oX 26 (.load false 1 25),
 oX 27 (.mv 2),
 oX 28 (.fieldA 1 6),
 oX 29 (.load false 1 28),
 oX 30 (.bin .mul 27 29),
 oX 31 (.mv 10),
 oX 32 (.bin .add 30 31),
 oX 33 (.idxA 1 26 32),
 oX 34 (.load false 1 33),
 oX 35 (.mv 0),
 oX 36 (.mv 4),
 oX 37 (.bin .sub 35 36),
 oX 38 (.fieldA 2 6),
 oX 39 (.load false 1 38),
 oX 40 (.mv 3),
 oX 41 (.fieldA 1 6),
 oX 42 (.load false 1 41),
 oX 43 (.bin .mul 40 42),
 oX 44 (.mv 10),
 oX 45 (.bin .add 43 44),
 oX 46 (.idxA 1 39 45),
 oX 47 (.load false 1 46),
 oX 48 (.bin .mul 37 47),
 oX 49 (.bin .add 34 48),
 oX 50 (.mv 0),
 oX 51 (.bin .rem 49 50),
 oX 52 (.idxA 1 18 24),
 uX (.store 1 52 51)]))
 (.reg false [
 oX 15 (.mv 10),
 oX 16 (.bin .add 15 (kX 1)),
 oX 10 (.mv 16)])))))))
def ms_spec_l31Clear : List MRes := []
theorem n_spec_l31Clear (NN : Nat) (x : DLL (Sig.tys ag_spec_l31Clear)) : runMS NN [] sc_spec_l31Clear ms_spec_l31Clear ag_spec_l31Clear mu_spec_l31Clear rs_spec_l31Clear x = G_spec_l31Clear NN x := by kernel_rfl
theorem k_spec_l31Clear : chkS pX 157 sc_spec_l31Clear.er ms_spec_l31Clear 5 = true := by decide +kernel
theorem p_spec_l31Clear : MutSpec pX 157 mu_spec_l31Clear fn_spec_l31Clear.MM ∧ chkFun pX 157 = true :=
  mut_of_runMS (T := []) (sc := sc_spec_l31Clear) (ms := ms_spec_l31Clear) (args := ag_spec_l31Clear) (mu := mu_spec_l31Clear) (res := rs_spec_l31Clear) (SOk.nil) follows_ok k_spec_l31Clear F_spec_l31Clear fun x y h => (n_spec_l31Clear FUEL x).trans (f_spec_l31Clear x y h)

def fn_spec_l31Reduce : SFn := ⟨133, ag_spec_l31Reduce, mu_spec_l31Reduce, rs_spec_l31Reduce, F_spec_l31Reduce⟩
def sc_spec_l31Reduce : SCode :=
 (.seq
 (.reg false [
 oX 3 (.box 3 1),
 oX 4 (.alloc [zX, zX, .nil iX]),
 oX 5 (.mv (.k (.one (.nil iX)))),
 oX 6 (.mv (kX 0))])
 (.seq
 (.reg true [
 oX 17 (.fieldA 0 3),
 oX 18 (.load false 1 17),
 oX 19 (.fieldA 1 3),
 oX 20 (.load false 1 19),
 oX 21 (.fieldA 2 3),
 oX 22 (.load false 1 21),
 oX 23 (.call .froz 122 [22]),
 oX 24 (.build [zX, zX, .nil iX] [(0, 1, 18), (1, 1, 20), (2, 1, 23)]),
 oX 7 (.alloc [zX, zX, .nil iX]),
 uX (.store 3 7 24)])
 (.seq
 (.reg false [
 oX 25 (.bslice iX []),
 oX 8 (.mv 25)])
 (.seq
 (.reg false [
 oX 9 (.mv (kX 1))])
 (.seq
 (.seq
 (.reg false [
 oX 10 (.mv (kX 0))])
 (.join ⟨[(7, .one (rX 7)), (8, .one (fX 500023 1)), (9, sX), (4, .one (rX 4))], [(4, .box [vX, vX, fX 500021 1]), (7, .box [vX, vX, fX 500022 1]), (500021, .row true .froz iX), (500022, .row true .froz iX), (500023, .row true .froz iX)]⟩ [3, 4, 7, 500000, 500001, 500002, 500021, 500022, 500023] [(true, 4, 2, 500021, .froz, []), (true, 7, 2, 500022, .froz, []), (false, 8, 0, 500023, .froz, [])]
 (.block 0
 (.loop 0 ⟨[(0, sX), (3, .one (rX 3)), (4, .one (rX 4)), (7, .one (rX 7)), (8, .one (fX 500002 1)), (9, sX), (10, sX)], [(3, .box [vX, vX, .c (.v (lX))]), (4, .box [vX, vX, fX 500000 1]), (7, .box [vX, vX, fX 500001 1]), (500000, .row true .froz iX), (500001, .row true .froz iX), (500002, .row true .froz iX)]⟩ [3, 4, 24000, 7, 25, 500000, 500001, 500002, 500018, 500019, 500020] [(true, 4, 2, 500000, .froz, []), (true, 7, 2, 500001, .froz, []), (false, 8, 0, 500002, .froz, [])]
 (.seq
 (.seq
 (.reg false [
 oX 26 (.mv 10),
 oX 27 (.fieldA 1 3),
 oX 28 (.load false 1 27),
 oX 29 (.bin .lss 26 28),
 oX 30 (.mv 29),
 ⟨(some 31), .mv 8, (some (30, true))⟩,
 ⟨(some 32), .len 31, (some (30, true))⟩,
 ⟨(some 33), .fieldA 0 3, (some (30, true))⟩,
 ⟨(some 34), .load false 1 33, (some (30, true))⟩,
 ⟨(some 35), .bin .lss 32 34, (some (30, true))⟩,
 oX 36 (.pick 30 35 (.k (.one (.v (.bool) (false)))))])
 (.cond 36
 .skip
 (.exit 0)))
 (.seq
 (.join ⟨[(10, sX), (0, sX), (3, .one (rX 3)), (4, .one (rX 4)), (7, .one (rX 7)), (8, .one (fX 500020 1)), (9, sX)], [(3, .box [vX, vX, .c (.v (lX))]), (4, .box [vX, vX, fX 500018 1]), (7, .box [vX, vX, fX 500019 1]), (500018, .row true .froz iX), (500019, .row true .froz iX), (500020, .row true .froz iX)]⟩ [3, 4, 7, 132, 133, 500000, 500001, 500002, 500015, 500016, 500018, 500019, 500020] [(true, 4, 2, 500018, .froz, []), (true, 7, 2, 500019, .froz, []), (false, 8, 0, 500020, .froz, [])]
 (.block 1
 (.seq
 (.reg false [
 oX 39 (.mv 8),
 oX 40 (.len 39),
 oX 11 (.mv 40)])
 (.seq
 (.reg false [
 oX 41 (.load true 3 7),
 oX 42 (.mv 11),
 oX 43 (.mv 10),
 oX 44 (.call .froz 154 [41, 42, 43]),
 oX 12 (.mv 44)])
 (.seq
 (.seq
 (.reg false [
 oX 45 (.mv 12),
 oX 46 (.bin .lss 45 (kX 0))])
 (.cond 46
 (.exit 1)
 .skip))
 (.seq
 (.seq
 (.reg false [
 oX 47 (.mv 12),
 oX 48 (.mv 11),
 oX 49 (.bin .neq 47 48)])
 (.join ⟨[(9, sX), (11, sX), (8, .one (fX 500005 1)), (10, sX), (0, sX), (3, .one (rX 3)), (4, .one (rX 4)), (7, .one (rX 7))], [(3, .box [vX, vX, .c (.v (lX))]), (4, .box [vX, vX, fX 500003 1]), (7, .box [vX, vX, fX 500004 1]), (500003, .row true .froz iX), (500004, .row true .froz iX), (500005, .row true .froz iX)]⟩ [3, 4, 7, 500000, 500001, 500002, 500003, 500004, 500005] [(true, 4, 2, 500003, .froz, []), (true, 7, 2, 500004, .froz, []), (false, 8, 0, 500005, .froz, [])]
 (.cond 49
 (.seq
 (.reg false [
 oX 50 (.load true 3 7),
 oX 51 (.mv 11),
 oX 52 (.mv 12),
 oX 53 (.callm .froz 155 [50, 51, 52])])
 (.reg false [
 oX 54 (.mv 0),
 oX 55 (.mv 9),
 oX 56 (.bin .sub 54 55),
 oX 57 (.mv 0),
 oX 58 (.bin .rem 56 57),
 oX 9 (.mv 58)]))
 .skip)))
 (.seq
 (.reg false [
 oX 59 (.fieldA 2 7),
 oX 60 (.load false 1 59),
 oX 61 (.mv 11),
 oX 62 (.fieldA 1 3),
 oX 63 (.load false 1 62),
 oX 64 (.bin .mul 61 63),
 oX 65 (.mv 10),
 oX 66 (.bin .add 64 65),
 oX 67 (.idxA 1 60 66),
 oX 68 (.load false 1 67),
 oX 13 (.mv 68)])
 (.seq
 (.reg false [
 oX 69 (.mv 9),
 oX 70 (.mv 13),
 oX 71 (.bin .mul 69 70),
 oX 72 (.mv 0),
 oX 73 (.bin .rem 71 72),
 oX 9 (.mv 73)])
 (.seq
 (.reg false [
 oX 74 (.mv 0),
 oX 75 (.mv 13),
 oX 76 (.call .froz 156 [74, 75]),
 oX 14 (.mv 76)])
 (.seq
 (.seq
 (.reg false [
 oX 15 (.mv (kX 0))])
 (.join ⟨[(9, sX), (7, .one (rX 7)), (4, .one (rX 4)), (3, .one (rX 3)), (0, sX), (10, sX), (8, .one (fX 500011 1)), (11, sX)], [(3, .box [vX, vX, .c (.v (lX))]), (4, .box [vX, vX, fX 500009 1]), (7, .box [vX, vX, fX 500010 1]), (500009, .row true .froz iX), (500010, .row true .froz iX), (500011, .row true .froz iX)]⟩ [3, 4, 7, 500006, 500007, 500008, 500009, 500010, 500011] [(true, 4, 2, 500009, .froz, []), (true, 7, 2, 500010, .froz, []), (false, 8, 0, 500011, .froz, [])]
 (.block 2
 (.loop 0 ⟨[(0, sX), (3, .one (rX 3)), (4, .one (rX 4)), (7, .one (rX 7)), (8, .one (fX 500008 1)), (9, sX), (10, sX), (11, sX), (14, sX), (15, sX)], [(3, .box [vX, vX, .c (.v (lX))]), (4, .box [vX, vX, fX 500006 1]), (7, .box [vX, vX, fX 500007 1]), (500006, .row true .froz iX), (500007, .row true .froz iX), (500008, .row true .froz iX)]⟩ [3, 4, 7, 500003, 500004, 500005, 500006, 500007, 500008] [(true, 4, 2, 500006, .froz, []), (true, 7, 2, 500007, .froz, []), (false, 8, 0, 500008, .froz, [])]
 (.seq
 (.seq
 (.reg false [
 oX 77 (.mv 15),
 oX 78 (.fieldA 1 3),
 oX 79 (.load false 1 78),
 oX 80 (.bin .lss 77 79)])
 (.cond 80
 .skip
 (.exit 2)))
 (.seq
 (.block 3
 (.reg true [
 oX 83 (.fieldA 2 7),
 oX 84 (.load false 1 83),
 oX 85 (.mv 11),
 oX 86 (.fieldA 1 3),
 oX 87 (.load false 1 86),
 oX 88 (.bin .mul 85 87),
 oX 89 (.mv 15),
 oX 90 (.bin .add 88 89),
 oX 91 (.fieldA 2 7),
 oX 92 (.load false 1 91),
 oX 93 (.mv 11),
 oX 94 (.fieldA 1 3),
 oX 95 (.load false 1 94),
 oX 96 (.bin .mul 93 95),
 oX 97 (.mv 15),
 oX 98 (.bin .add 96 97),
 oX 99 (.idxA 1 92 98),
 oX 100 (.load false 1 99),
 oX 101 (.mv 14),
 oX 102 (.bin .mul 100 101),
 oX 103 (.mv 0),
 oX 104 (.bin .rem 102 103),
 oX 105 (.idxA 1 84 90),
 uX (.store 1 105 104)]))
 (.reg false [
 oX 81 (.mv 15),
 oX 82 (.bin .add 81 (kX 1)),
 oX 15 (.mv 82)])))))))
 (.seq
 (.seq
 (.reg false [
 oX 16 (.mv (kX 0))])
 (.join ⟨[(8, .one (fX 500017 1)), (10, sX), (0, sX), (3, .one (rX 3)), (4, .one (rX 4)), (7, .one (rX 7)), (9, sX)], [(3, .box [vX, vX, .c (.v (lX))]), (4, .box [vX, vX, fX 500015 1]), (7, .box [vX, vX, fX 500016 1]), (500015, .row true .froz iX), (500016, .row true .froz iX), (500017, .row true .froz iX)]⟩ [3, 4, 7, 500012, 500013, 500014, 500015, 500016, 500017] [(true, 4, 2, 500015, .froz, []), (true, 7, 2, 500016, .froz, []), (false, 8, 0, 500017, .froz, [])]
 (.block 4
 (.loop 0 ⟨[(0, sX), (3, .one (rX 3)), (4, .one (rX 4)), (7, .one (rX 7)), (8, .one (fX 500014 1)), (9, sX), (10, sX), (11, sX), (16, sX)], [(3, .box [vX, vX, .c (.v (lX))]), (4, .box [vX, vX, fX 500012 1]), (7, .box [vX, vX, fX 500013 1]), (500012, .row true .froz iX), (500013, .row true .froz iX), (500014, .row true .froz iX)]⟩ [3, 4, 7, 500009, 500010, 500011, 500012, 500013, 500014] [(true, 4, 2, 500012, .froz, []), (true, 7, 2, 500013, .froz, []), (false, 8, 0, 500014, .froz, [])]
 (.seq
 (.seq
 (.reg false [
 oX 106 (.mv 16),
 oX 107 (.fieldA 0 3),
 oX 108 (.load false 1 107),
 oX 109 (.bin .lss 106 108)])
 (.cond 109
 .skip
 (.exit 4)))
 (.seq
 (.block 5
 (.seq
 (.reg false [
 oX 112 (.mv 16),
 oX 113 (.mv 11),
 oX 114 (.bin .neq 112 113)])
 (.cond 114
 (.reg true [
 oX 115 (.mv 0),
 oX 116 (.load true 3 7),
 oX 117 (.mv 16),
 oX 118 (.mv 11),
 oX 119 (.fieldA 2 7),
 oX 120 (.load false 1 119),
 oX 121 (.mv 16),
 oX 122 (.fieldA 1 3),
 oX 123 (.load false 1 122),
 oX 124 (.bin .mul 121 123),
 oX 125 (.mv 10),
 oX 126 (.bin .add 124 125),
 oX 127 (.idxA 1 120 126),
 oX 128 (.load false 1 127),
 oX 129 (.callm .froz 157 [115, 116, 117, 118, 128])])
 .skip)))
 (.reg false [
 oX 110 (.mv 16),
 oX 111 (.bin .add 110 (kX 1)),
 oX 16 (.mv 111)])))))))
 (.reg false [
 oX 130 (.mv 8),
 oX 131 (.mv 10),
 oX 132 (.bslice iX [131]),
 oX 133 (.append true iX 8 130 132),
 oX 8 (.mv 133)]))))))))))))
 (.reg false [
 oX 37 (.mv 10),
 oX 38 (.bin .add 37 (kX 1)),
 oX 10 (.mv 38)])))))))
 (.seq
 (.reg false [
 oX 134 (.load true 3 7),
 oX 135 (.mv 8),
 oX 136 (.mv 9),
 uX (.store 3 4 134),
 oX 5 (.mv 135),
 oX 6 (.mv 136)])
 .ret))))))
def ms_spec_l31Reduce : List MRes := [.cell 4 3 true, .tmp 5, .tmp 6]
theorem n_spec_l31Reduce (NN : Nat) (x : DLL (Sig.tys ag_spec_l31Reduce)) : runS NN [fn_spec_l05Ints, fn_spec_l31Pivot, fn_spec_l31Swap, fn_spec_l31Inverse, fn_spec_l31Clear] sc_spec_l31Reduce ms_spec_l31Reduce ag_spec_l31Reduce rs_spec_l31Reduce x = G_spec_l31Reduce NN x := by kernel_rfl
theorem k_spec_l31Reduce : chkS pX 133 sc_spec_l31Reduce.er ms_spec_l31Reduce 2 = true := by decide +kernel
theorem p_spec_l31Reduce : PureSpec pX 133 fn_spec_l31Reduce.M ∧ chkFun pX 133 = true :=
  pure_of_runS (T := [fn_spec_l05Ints, fn_spec_l31Pivot, fn_spec_l31Swap, fn_spec_l31Inverse, fn_spec_l31Clear]) (sc := sc_spec_l31Reduce) (ms := ms_spec_l31Reduce) (args := ag_spec_l31Reduce) (res := rs_spec_l31Reduce) (SOk.cons p_spec_l05Ints <| SOk.cons p_spec_l31Pivot <| SOk.consM p_spec_l31Swap <| SOk.cons p_spec_l31Inverse <| SOk.consM p_spec_l31Clear <| SOk.nil) follows_ok k_spec_l31Reduce F_spec_l31Reduce fun x y h => (n_spec_l31Reduce FUEL x).trans (f_spec_l31Reduce x y h)

def fn_spec_l31Factor : SFn := ⟨97, ag_spec_l31Factor, mu_spec_l31Factor, rs_spec_l31Factor, F_spec_l31Factor⟩
def sc_spec_l31Factor : SCode :=
 (.seq
 (.reg false [
 oX 3 (.box 3 1),
 oX 4 (.alloc [zX, zX, .nil iX]),
 oX 5 (.alloc [zX, zX, .nil iX])])
 (.seq
 (.reg false [
 oX 14 (.mv 0),
 oX 15 (.load true 3 3),
 oX 16 (.call .froz 133 [14, 15]),
 oX 13 (.mv 16),
 oX 17 (.ext 0 13),
 oX 18 (.ext 1 13),
 oX 19 (.ext 2 13),
 oX 6 (.alloc [zX, zX, .nil iX]),
 uX (.store 3 6 17),
 oX 7 (.mv 18),
 oX 8 (.mv 19)])
 (.seq
 (.reg false [
 oX 20 (.fieldA 0 3),
 oX 21 (.load false 1 20),
 oX 22 (.mv 7),
 oX 23 (.len 22),
 oX 24 (.call .froz 77 [21, 23]),
 oX 9 (.alloc [zX, zX, .nil iX]),
 uX (.store 3 9 24)])
 (.seq
 (.seq
 (.reg false [
 oX 10 (.mv (kX 0))])
 (.join ⟨[(9, .one (rX 9)), (6, .one (rX 6)), (7, .one (fX 500019 1)), (3, .one (rX 3)), (4, .one (rX 4)), (5, .one (rX 5))], [(3, .box [vX, vX, .c (.v (lX))]), (4, .box [vX, vX, fX 500015 1]), (5, .box [vX, vX, fX 500016 1]), (6, .box [vX, vX, fX 500017 1]), (9, .box [vX, vX, fX 500018 1]), (500015, .row true .froz iX), (500016, .row true .froz iX), (500017, .row true .froz iX), (500018, .row true .froz iX), (500019, .row true .froz iX)]⟩ [3, 4, 5, 6, 9, 500000, 500001, 500002, 500003, 500004, 500015, 500016, 500017, 500018, 500019] [(true, 4, 2, 500015, .froz, []), (true, 5, 2, 500016, .froz, []), (true, 6, 2, 500017, .froz, []), (true, 9, 2, 500018, .froz, []), (false, 7, 0, 500019, .froz, [])]
 (.block 0
 (.loop 0 ⟨[(3, .one (rX 3)), (4, .one (rX 4)), (5, .one (rX 5)), (6, .one (rX 6)), (7, .one (fX 500004 1)), (9, .one (rX 9)), (10, sX)], [(3, .box [vX, vX, .c (.v (lX))]), (4, .box [vX, vX, fX 500000 1]), (5, .box [vX, vX, fX 500001 1]), (6, .box [vX, vX, fX 500002 1]), (9, .box [vX, vX, fX 500003 1]), (500000, .row true .froz iX), (500001, .row true .froz iX), (500002, .row true .froz iX), (500003, .row true .froz iX), (500004, .row true .froz iX)]⟩ [3, 4, 5, 17000, 17001, 6, 25000, 9, 500000, 500001, 500002, 500003, 500004, 500010, 500011, 500012, 500013, 500014] [(true, 4, 2, 500000, .froz, []), (true, 5, 2, 500001, .froz, []), (true, 6, 2, 500002, .froz, []), (true, 9, 2, 500003, .froz, []), (false, 7, 0, 500004, .froz, [])]
 (.seq
 (.seq
 (.reg false [
 oX 25 (.mv 10),
 oX 26 (.fieldA 0 3),
 oX 27 (.load false 1 26),
 oX 28 (.bin .lss 25 27)])
 (.cond 28
 .skip
 (.exit 0)))
 (.seq
 (.join ⟨[(10, sX), (3, .one (rX 3)), (4, .one (rX 4)), (5, .one (rX 5)), (6, .one (rX 6)), (7, .one (fX 500014 1)), (9, .one (rX 9))], [(3, .box [vX, vX, .c (.v (lX))]), (4, .box [vX, vX, fX 500010 1]), (5, .box [vX, vX, fX 500011 1]), (6, .box [vX, vX, fX 500012 1]), (9, .box [vX, vX, fX 500013 1]), (500010, .row true .froz iX), (500011, .row true .froz iX), (500012, .row true .froz iX), (500013, .row true .froz iX), (500014, .row true .froz iX)]⟩ [3, 4, 5, 6, 9, 500005, 500006, 500007, 500008, 500009, 500010, 500011, 500012, 500013, 500014] [(true, 4, 2, 500010, .froz, []), (true, 5, 2, 500011, .froz, []), (true, 6, 2, 500012, .froz, []), (true, 9, 2, 500013, .froz, []), (false, 7, 0, 500014, .froz, [])]
 (.block 1
 (.seq
 (.reg false [
 oX 31 (.mv 7),
 oX 32 (.len 31),
 oX 33 (.mv (kX 0))])
 (.block 2
 (.loop 0 ⟨[(3, .one (rX 3)), (4, .one (rX 4)), (5, .one (rX 5)), (6, .one (rX 6)), (7, .one (fX 500009 1)), (9, .one (rX 9)), (10, sX), (31, .one (fX 500009 1)), (32, sX), (33, sX)], [(3, .box [vX, vX, .c (.v (lX))]), (4, .box [vX, vX, fX 500005 1]), (5, .box [vX, vX, fX 500006 1]), (6, .box [vX, vX, fX 500007 1]), (9, .box [vX, vX, fX 500008 1]), (500005, .row true .froz iX), (500006, .row true .froz iX), (500007, .row true .froz iX), (500008, .row true .froz iX), (500009, .row true .froz iX)]⟩ [3, 4, 5, 6, 9, 500000, 500001, 500002, 500003, 500004, 500005, 500006, 500007, 500008, 500009] [(true, 4, 2, 500005, .froz, []), (true, 5, 2, 500006, .froz, []), (true, 6, 2, 500007, .froz, []), (true, 9, 2, 500008, .froz, []), (false, 7, 0, 500009, .froz, [])]
 (.seq
 (.reg false [
 oX 34 (.bin .lss 33 32)])
 (.seq
 (.cond 34
 .skip
 (.exit 2))
 (.seq
 (.block 3
 (.seq
 (.reg false [
 oX 35 (.mv 33),
 oX 36 (.idxA 1 31 33),
 oX 37 (.load false 1 36),
 oX 11 (.mv 35),
 oX 12 (.mv 37)])
 (.reg true [
 oX 38 (.fieldA 2 9),
 oX 39 (.load false 1 38),
 oX 40 (.mv 10),
 oX 41 (.mv 7),
 oX 42 (.len 41),
 oX 43 (.bin .mul 40 42),
 oX 44 (.mv 11),
 oX 45 (.bin .add 43 44),
 oX 46 (.fieldA 2 3),
 oX 47 (.load false 1 46),
 oX 48 (.mv 10),
 oX 49 (.fieldA 1 3),
 oX 50 (.load false 1 49),
 oX 51 (.bin .mul 48 50),
 oX 52 (.mv 12),
 oX 53 (.bin .add 51 52),
 oX 54 (.idxA 1 47 53),
 oX 55 (.load false 1 54),
 oX 56 (.idxA 1 39 45),
 uX (.store 1 56 55)])))
 (.reg false [
 oX 57 (.bin .add 33 (kX 1)),
 oX 33 (.mv 57)])))))))))
 (.reg false [
 oX 29 (.mv 10),
 oX 30 (.bin .add 29 (kX 1)),
 oX 10 (.mv 30)])))))))
 (.seq
 (.regD [(2, 15), (3, 15), (4, 15)] [
 oX 58 (.load true 3 9),
 oX 59 (.mv 7),
 oX 60 (.len 59),
 oX 61 (.fieldA 1 3),
 oX 62 (.load false 1 61),
 oX 63 (.fieldA 2 6),
 oX 64 (.load false 1 63),
 oX 65 (.mv 7),
 oX 66 (.len 65),
 oX 67 (.fieldA 1 3),
 oX 68 (.load false 1 67),
 oX 69 (.bin .mul 66 68),
 oX 70 (.slice 1 64 none (some 69)),
 oX 71 (.call .froz 122 [70]),
 oX 72 (.build [zX, zX, .nil iX] [(0, 1, 60), (1, 1, 62), (2, 1, 71)]),
 uX (.store 3 4 58),
 uX (.store 3 5 72)])
 .ret)))))
def ms_spec_l31Factor : List MRes := [.cell 4 3 true, .cell 5 3 true]
theorem n_spec_l31Factor (NN : Nat) (x : DLL (Sig.tys ag_spec_l31Factor)) : runS NN [fn_spec_l31Reduce, fn_spec_l31New, fn_spec_l05Ints] sc_spec_l31Factor ms_spec_l31Factor ag_spec_l31Factor rs_spec_l31Factor x = G_spec_l31Factor NN x := by kernel_rfl
theorem k_spec_l31Factor : chkS pX 97 sc_spec_l31Factor.er ms_spec_l31Factor 2 = true := by decide +kernel
theorem p_spec_l31Factor : PureSpec pX 97 fn_spec_l31Factor.M ∧ chkFun pX 97 = true :=
  pure_of_runS (T := [fn_spec_l31Reduce, fn_spec_l31New, fn_spec_l05Ints]) (sc := sc_spec_l31Factor) (ms := ms_spec_l31Factor) (args := ag_spec_l31Factor) (res := rs_spec_l31Factor) (SOk.cons p_spec_l31Reduce <| SOk.cons p_spec_l31New <| SOk.cons p_spec_l05Ints <| SOk.nil) follows_ok k_spec_l31Factor F_spec_l31Factor fun x y h => (n_spec_l31Factor FUEL x).trans (f_spec_l31Factor x y h)

def fn_spec_l32Copy : SFn := ⟨92, ag_spec_l32Copy, mu_spec_l32Copy, rs_spec_l32Copy, F_spec_l32Copy⟩
def sc_spec_l32Copy : SCode :=
 (.seq
 (.reg false [
 oX 1 (.box 2 0),
 oX 2 (.alloc [zX, .nil gX])])
 (.seq
 (.reg false [
 oX 6 (.fieldA 0 1),
 oX 7 (.load false 1 6),
 oX 8 (.build [zX, .nil gX] [(0, 1, 7)]),
 oX 3 (.alloc [zX, .nil gX]),
 uX (.store 2 3 8)])
 (.seq
 (.seq
 (.reg false [
 oX 9 (.fieldA 1 1),
 oX 10 (.load false 1 9),
 oX 11 (.len 10),
 oX 12 (.mv (kX 0))])
 (.join ⟨[(3, .one (rX 3)), (2, .one (rX 2))], [(2, .box [vX, fX 500002 4]), (3, .box [vX, fX 500003 4]), (500002, .row true .froz gX), (500003, .row true .froz gX)]⟩ [2, 3, 500000, 500001, 500002, 500003] [(true, 2, 1, 500002, .froz, []), (true, 3, 1, 500003, .froz, [])]
 (.block 0
 (.loop 0 ⟨[(2, .one (rX 2)), (3, .one (rX 3)), (10, .one (.c (.v (.list gX)))), (11, sX), (12, sX)], [(2, .box [vX, fX 500000 4]), (3, .box [vX, fX 500001 4]), (500000, .row true .froz gX), (500001, .row true .froz gX)]⟩ [1, 2, 3, 5, 29, 500000, 500001] [(true, 2, 1, 500000, .froz, []), (true, 3, 1, 500001, .froz, [])]
 (.seq
 (.reg false [
 oX 13 (.bin .lss 12 11)])
 (.seq
 (.cond 13
 .skip
 (.exit 0))
 (.seq
 (.block 1
 (.seq
 (.reg false [
 oX 14 (.idxA 4 10 12),
 oX 15 (.load true 4 14),
 oX 5 (.alloc [zX, zX, zX, .nil iX]),
 uX (.store 4 5 15)])
 (.regD [(0, 12), (1, 12)] [
 oX 16 (.fieldA 1 3),
 oX 17 (.load false 1 16),
 oX 18 (.fieldA 0 5),
 oX 19 (.load false 1 18),
 oX 20 (.fieldA 1 5),
 oX 21 (.load false 1 20),
 oX 22 (.fieldA 2 5),
 oX 23 (.load false 1 22),
 oX 24 (.fieldA 3 5),
 oX 25 (.load false 1 24),
 oX 26 (.call .froz 122 [25]),
 oX 27 (.build [zX, zX, zX, .nil iX] [(0, 1, 19), (1, 1, 21), (2, 1, 23), (3, 1, 26)]),
 oX 28 (.bslice gX [27]),
 oX 29 (.append false gX 48 17 28),
 oX 30 (.fieldA 1 3),
 uX (.store 1 30 29)])))
 (.reg false [
 oX 31 (.bin .add 12 (kX 1)),
 oX 12 (.mv 31)]))))))))
 (.seq
 (.reg false [
 oX 32 (.load true 2 3),
 uX (.store 2 2 32)])
 .ret))))
def ms_spec_l32Copy : List MRes := [.cell 2 2 true]
theorem n_spec_l32Copy (NN : Nat) (x : DLL (Sig.tys ag_spec_l32Copy)) : runS NN [fn_spec_l05Ints] sc_spec_l32Copy ms_spec_l32Copy ag_spec_l32Copy rs_spec_l32Copy x = G_spec_l32Copy NN x := by kernel_rfl
theorem k_spec_l32Copy : chkS pX 92 sc_spec_l32Copy.er ms_spec_l32Copy 1 = true := by decide +kernel
theorem p_spec_l32Copy : PureSpec pX 92 fn_spec_l32Copy.M ∧ chkFun pX 92 = true :=
  pure_of_runS (T := [fn_spec_l05Ints]) (sc := sc_spec_l32Copy) (ms := ms_spec_l32Copy) (args := ag_spec_l32Copy) (res := rs_spec_l32Copy) (SOk.cons p_spec_l05Ints <| SOk.nil) follows_ok k_spec_l32Copy F_spec_l32Copy fun x y h => (n_spec_l32Copy FUEL x).trans (f_spec_l32Copy x y h)

def fn_spec_ApplyBond : SFn := ⟨49, ag_spec_ApplyBond, mu_spec_ApplyBond, rs_spec_ApplyBond, F_spec_ApplyBond⟩
def sc_spec_ApplyBond : SCode :=
 (.seq
 (.reg false [
 oX 3 (.box 2 0),
 oX 5 (.box 3 2),
 oX 6 (.alloc [zX, .nil gX]),
 oX 7 (.mv (.k (.one (.v (.bool) (false)))))])
 (.seq
 (.seq
 (.reg false [
 oX 24 (.load true 2 3),
 oX 25 (.call .froz 16 [24]),
 oX 26 (.un .not 25),
 oX 27 (.mv 26),
 ⟨(some 28), .mv 1, (some (27, false))⟩,
 ⟨(some 29), .fieldA 1 3, (some (27, false))⟩,
 ⟨(some 30), .load false 1 29, (some (27, false))⟩,
 ⟨(some 31), .len 30, (some (27, false))⟩,
 ⟨(some 32), .bin .sub 31 (kX 2), (some (27, false))⟩,
 ⟨(some 33), .call .froz 64 [28, (kX 0), 32], (some (27, false))⟩,
 ⟨(some 34), .un .not 33, (some (27, false))⟩,
 oX 35 (.pick 27 (.k (.one (.v (.bool) (true)))) 34),
 oX 36 (.mv 35),
 ⟨(some 37), .fieldA 0 3, (some (36, false))⟩,
 ⟨(some 38), .load false 1 37, (some (36, false))⟩,
 ⟨(some 39), .load true 3 5, (some (36, false))⟩,
 ⟨(some 40), .call .froz 91 [38, 39], (some (36, false))⟩,
 ⟨(some 41), .un .not 40, (some (36, false))⟩,
 oX 42 (.pick 36 (.k (.one (.v (.bool) (true)))) 41)])
 (.cond 42
 (.seq
 (.reg false [
 oX 43 (.build [zX, .nil gX] []),
 uX (.store 2 6 43),
 oX 7 (.mv (.k (.one (.v (.bool) (false)))))])
 .ret)
 .skip))
 (.seq
 (.reg false [
 oX 44 (.fieldA 1 3),
 oX 45 (.load false 1 44),
 oX 46 (.mv 1),
 oX 47 (.idxA 4 45 46),
 oX 48 (.load true 4 47),
 oX 8 (.alloc [zX, zX, zX, .nil iX]),
 uX (.store 4 8 48)])
 (.seq
 (.reg false [
 oX 49 (.fieldA 1 3),
 oX 50 (.load false 1 49),
 oX 51 (.mv 1),
 oX 52 (.bin .add 51 (kX 1)),
 oX 53 (.idxA 4 50 52),
 oX 54 (.load true 4 53),
 oX 9 (.alloc [zX, zX, zX, .nil iX]),
 uX (.store 4 9 54)])
 (.seq
 (.reg false [
 oX 55 (.fieldA 1 8),
 oX 56 (.load false 1 55),
 oX 57 (.fieldA 1 9),
 oX 58 (.load false 1 57),
 oX 59 (.bin .mul 56 58),
 oX 10 (.mv 59)])
 (.seq
 (.seq
 (.reg false [
 oX 60 (.fieldA 0 5),
 oX 61 (.load false 1 60),
 oX 62 (.mv 10),
 oX 63 (.bin .neq 61 62),
 oX 64 (.mv 63),
 ⟨(some 65), .fieldA 1 5, (some (64, false))⟩,
 ⟨(some 66), .load false 1 65, (some (64, false))⟩,
 ⟨(some 67), .mv 10, (some (64, false))⟩,
 ⟨(some 68), .bin .neq 66 67, (some (64, false))⟩,
 oX 69 (.pick 64 (.k (.one (.v (.bool) (true)))) 68),
 oX 70 (.mv 69),
 ⟨(some 71), .fieldA 0 8, (some (70, false))⟩,
 ⟨(some 72), .load false 1 71, (some (70, false))⟩,
 ⟨(some 73), .fieldA 1 8, (some (70, false))⟩,
 ⟨(some 74), .load false 1 73, (some (70, false))⟩,
 ⟨(some 75), .bin .mul 72 74, (some (70, false))⟩,
 ⟨(some 76), .bin .gtr 75 (kX 64), (some (70, false))⟩,
 oX 77 (.pick 70 (.k (.one (.v (.bool) (true)))) 76),
 oX 78 (.mv 77),
 ⟨(some 79), .fieldA 1 9, (some (78, false))⟩,
 ⟨(some 80), .load false 1 79, (some (78, false))⟩,
 ⟨(some 81), .fieldA 2 9, (some (78, false))⟩,
 ⟨(some 82), .load false 1 81, (some (78, false))⟩,
 ⟨(some 83), .bin .mul 80 82, (some (78, false))⟩,
 ⟨(some 84), .bin .gtr 83 (kX 64), (some (78, false))⟩,
 oX 85 (.pick 78 (.k (.one (.v (.bool) (true)))) 84)])
 (.cond 85
 (.seq
 (.reg false [
 oX 86 (.build [zX, .nil gX] []),
 uX (.store 2 6 86),
 oX 7 (.mv (.k (.one (.v (.bool) (false)))))])
 .ret)
 .skip))
 (.seq
 (.reg false [
 oX 87 (.fieldA 0 8),
 oX 88 (.load false 1 87),
 oX 89 (.fieldA 1 8),
 oX 90 (.load false 1 89),
 oX 91 (.bin .mul 88 90),
 oX 92 (.fieldA 1 9),
 oX 93 (.load false 1 92),
 oX 94 (.fieldA 2 9),
 oX 95 (.load false 1 94),
 oX 96 (.bin .mul 93 95),
 oX 97 (.call .froz 77 [91, 96]),
 oX 11 (.alloc [zX, zX, .nil iX]),
 uX (.store 3 11 97)])
 (.seq
 (.seq
 (.reg false [
 oX 12 (.mv (kX 0))])
 (.join ⟨[(11, .one (rX 11)), (3, .one (rX 3)), (8, .one (rX 8)), (1, sX), (9, .one (rX 9)), (6, .one (rX 6))], [(3, .box [vX, .c (.v (.list gX))]), (6, .box [vX, fX 500038 4]), (8, .box [vX, vX, vX, .c (.v (lX))]), (9, .box [vX, vX, vX, .c (.v (lX))]), (11, .box [vX, vX, fX 500039 1]), (500038, .row true .froz gX), (500039, .row true .froz iX)]⟩ [3, 5, 6, 8, 9, 11, 500000, 500001, 500038, 500039] [(true, 6, 1, 500038, .froz, []), (true, 11, 2, 500039, .froz, [])]
 (.block 0
 (.loop 0 ⟨[(1, sX), (3, .one (rX 3)), (5, .one (rX 5)), (6, .one (rX 6)), (8, .one (rX 8)), (9, .one (rX 9)), (10, sX), (11, .one (rX 11)), (12, sX)], [(3, .box [vX, .c (.v (.list gX))]), (5, .box [vX, vX, .c (.v (lX))]), (6, .box [vX, fX 500000 4]), (8, .box [vX, vX, vX, .c (.v (lX))]), (9, .box [vX, vX, vX, .c (.v (lX))]), (11, .box [vX, vX, fX 500001 1]), (500000, .row true .froz gX), (500001, .row true .froz iX)]⟩ [3, 5, 6, 8, 9, 98000, 11, 500000, 500001, 500036, 500037] [(true, 6, 1, 500000, .froz, []), (true, 11, 2, 500001, .froz, [])]
 (.seq
 (.seq
 (.reg false [
 oX 98 (.mv 12),
 oX 99 (.fieldA 0 8),
 oX 100 (.load false 1 99),
 oX 101 (.bin .lss 98 100)])
 (.cond 101
 .skip
 (.exit 0)))
 (.seq
 (.join ⟨[(12, sX), (1, sX), (3, .one (rX 3)), (5, .one (rX 5)), (6, .one (rX 6)), (8, .one (rX 8)), (9, .one (rX 9)), (10, sX), (11, .one (rX 11))], [(3, .box [vX, .c (.v (.list gX))]), (5, .box [vX, vX, .c (.v (lX))]), (6, .box [vX, fX 500036 4]), (8, .box [vX, vX, vX, .c (.v (lX))]), (9, .box [vX, vX, vX, .c (.v (lX))]), (11, .box [vX, vX, fX 500037 1]), (500036, .row true .froz gX), (500037, .row true .froz iX)]⟩ [3, 5, 6, 8, 9, 11, 500002, 500003, 500036, 500037] [(true, 6, 1, 500036, .froz, []), (true, 11, 2, 500037, .froz, [])]
 (.block 1
 (.seq
 (.reg false [
 oX 13 (.mv (kX 0))])
 (.block 2
 (.loop 0 ⟨[(1, sX), (3, .one (rX 3)), (5, .one (rX 5)), (6, .one (rX 6)), (8, .one (rX 8)), (9, .one (rX 9)), (10, sX), (11, .one (rX 11)), (12, sX), (13, sX)], [(3, .box [vX, .c (.v (.list gX))]), (5, .box [vX, vX, .c (.v (lX))]), (6, .box [vX, fX 500002 4]), (8, .box [vX, vX, vX, .c (.v (lX))]), (9, .box [vX, vX, vX, .c (.v (lX))]), (11, .box [vX, vX, fX 500003 1]), (500002, .row true .froz gX), (500003, .row true .froz iX)]⟩ [3, 5, 6, 8, 9, 11, 500000, 500001, 500002, 500003, 500034, 500035] [(true, 6, 1, 500002, .froz, []), (true, 11, 2, 500003, .froz, [])]
 (.seq
 (.seq
 (.reg false [
 oX 104 (.mv 13),
 oX 105 (.fieldA 2 9),
 oX 106 (.load false 1 105),
 oX 107 (.bin .lss 104 106)])
 (.cond 107
 .skip
 (.exit 2)))
 (.seq
 (.join ⟨[(13, sX), (1, sX), (3, .one (rX 3)), (5, .one (rX 5)), (6, .one (rX 6)), (8, .one (rX 8)), (9, .one (rX 9)), (10, sX), (11, .one (rX 11)), (12, sX)], [(3, .box [vX, .c (.v (.list gX))]), (5, .box [vX, vX, .c (.v (lX))]), (6, .box [vX, fX 500034 4]), (8, .box [vX, vX, vX, .c (.v (lX))]), (9, .box [vX, vX, vX, .c (.v (lX))]), (11, .box [vX, vX, fX 500035 1]), (500034, .row true .froz gX), (500035, .row true .froz iX)]⟩ [3, 5, 6, 8, 9, 11, 14, 500025, 500026, 500027, 500034, 500035] [(true, 6, 1, 500034, .froz, []), (true, 11, 2, 500035, .froz, [])]
 (.block 3
 (.seq
 (.reg false [
 oX 110 (.mv 10),
 oX 111 (.call .froz 77 [110, (kX 1)]),
 oX 14 (.alloc [zX, zX, .nil iX]),
 uX (.store 3 14 111)])
 (.seq
 (.seq
 (.reg false [
 oX 15 (.mv (kX 0))])
 (.join ⟨[(12, sX), (11, .one (rX 11)), (10, sX), (9, .one (rX 9)), (8, .one (rX 8)), (6, .one (rX 6)), (5, .one (rX 5)), (3, .one (rX 3)), (1, sX), (13, sX), (14, .one (rX 14))], [(3, .box [vX, .c (.v (.list gX))]), (5, .box [vX, vX, .c (.v (lX))]), (6, .box [vX, fX 500022 4]), (8, .box [vX, vX, vX, .c (.v (lX))]), (9, .box [vX, vX, vX, .c (.v (lX))]), (11, .box [vX, vX, fX 500023 1]), (14, .box [vX, vX, fX 500024 1]), (500022, .row true .froz gX), (500023, .row true .froz iX), (500024, .row true .froz iX)]⟩ [3, 5, 6, 8, 9, 11, 14, 500004, 500005, 500006, 500022, 500023, 500024] [(true, 6, 1, 500022, .froz, []), (true, 11, 2, 500023, .froz, []), (true, 14, 2, 500024, .froz, [])]
 (.block 4
 (.loop 0 ⟨[(1, sX), (3, .one (rX 3)), (5, .one (rX 5)), (6, .one (rX 6)), (8, .one (rX 8)), (9, .one (rX 9)), (10, sX), (11, .one (rX 11)), (12, sX), (13, sX), (14, .one (rX 14)), (15, sX)], [(3, .box [vX, .c (.v (.list gX))]), (5, .box [vX, vX, .c (.v (lX))]), (6, .box [vX, fX 500004 4]), (8, .box [vX, vX, vX, .c (.v (lX))]), (9, .box [vX, vX, vX, .c (.v (lX))]), (11, .box [vX, vX, fX 500005 1]), (14, .box [vX, vX, fX 500006 1]), (500004, .row true .froz gX), (500005, .row true .froz iX), (500006, .row true .froz iX)]⟩ [3, 5, 6, 8, 9, 11, 112000, 14, 500002, 500003, 500004, 500005, 500006, 500019, 500020, 500021] [(true, 6, 1, 500004, .froz, []), (true, 11, 2, 500005, .froz, []), (true, 14, 2, 500006, .froz, [])]
 (.seq
 (.seq
 (.reg false [
 oX 112 (.mv 15),
 oX 113 (.fieldA 1 8),
 oX 114 (.load false 1 113),
 oX 115 (.bin .lss 112 114)])
 (.cond 115
 .skip
 (.exit 4)))
 (.seq
 (.join ⟨[(15, sX), (1, sX), (3, .one (rX 3)), (5, .one (rX 5)), (6, .one (rX 6)), (8, .one (rX 8)), (9, .one (rX 9)), (10, sX), (11, .one (rX 11)), (12, sX), (13, sX), (14, .one (rX 14))], [(3, .box [vX, .c (.v (.list gX))]), (5, .box [vX, vX, .c (.v (lX))]), (6, .box [vX, fX 500019 4]), (8, .box [vX, vX, vX, .c (.v (lX))]), (9, .box [vX, vX, vX, .c (.v (lX))]), (11, .box [vX, vX, fX 500020 1]), (14, .box [vX, vX, fX 500021 1]), (500019, .row true .froz gX), (500020, .row true .froz iX), (500021, .row true .froz iX)]⟩ [3, 5, 6, 8, 9, 11, 14, 500007, 500008, 500009, 500019, 500020, 500021] [(true, 6, 1, 500019, .froz, []), (true, 11, 2, 500020, .froz, []), (true, 14, 2, 500021, .froz, [])]
 (.block 5
 (.seq
 (.reg false [
 oX 16 (.mv (kX 0))])
 (.block 6
 (.loop 0 ⟨[(1, sX), (3, .one (rX 3)), (5, .one (rX 5)), (6, .one (rX 6)), (8, .one (rX 8)), (9, .one (rX 9)), (10, sX), (11, .one (rX 11)), (12, sX), (13, sX), (14, .one (rX 14)), (15, sX), (16, sX)], [(3, .box [vX, .c (.v (.list gX))]), (5, .box [vX, vX, .c (.v (lX))]), (6, .box [vX, fX 500007 4]), (8, .box [vX, vX, vX, .c (.v (lX))]), (9, .box [vX, vX, vX, .c (.v (lX))]), (11, .box [vX, vX, fX 500008 1]), (14, .box [vX, vX, fX 500009 1]), (500007, .row true .froz gX), (500008, .row true .froz iX), (500009, .row true .froz iX)]⟩ [3, 5, 6, 8, 9, 11, 14, 500004, 500005, 500006, 500007, 500008, 500009, 500016, 500017, 500018] [(true, 6, 1, 500007, .froz, []), (true, 11, 2, 500008, .froz, []), (true, 14, 2, 500009, .froz, [])]
 (.seq
 (.seq
 (.reg false [
 oX 118 (.mv 16),
 oX 119 (.fieldA 1 9),
 oX 120 (.load false 1 119),
 oX 121 (.bin .lss 118 120)])
 (.cond 121
 .skip
 (.exit 6)))
 (.seq
 (.join ⟨[(16, sX), (1, sX), (3, .one (rX 3)), (5, .one (rX 5)), (6, .one (rX 6)), (8, .one (rX 8)), (9, .one (rX 9)), (10, sX), (11, .one (rX 11)), (12, sX), (13, sX), (14, .one (rX 14)), (15, sX)], [(3, .box [vX, .c (.v (.list gX))]), (5, .box [vX, vX, .c (.v (lX))]), (6, .box [vX, fX 500016 4]), (8, .box [vX, vX, vX, .c (.v (lX))]), (9, .box [vX, vX, vX, .c (.v (lX))]), (11, .box [vX, vX, fX 500017 1]), (14, .box [vX, vX, fX 500018 1]), (500016, .row true .froz gX), (500017, .row true .froz iX), (500018, .row true .froz iX)]⟩ [3, 5, 6, 8, 9, 11, 14, 500013, 500014, 500015, 500016, 500017, 500018] [(true, 6, 1, 500016, .froz, []), (true, 11, 2, 500017, .froz, []), (true, 14, 2, 500018, .froz, [])]
 (.block 7
 (.seq
 (.reg false [
 oX 17 (.mv (kX 0))])
 (.seq
 (.seq
 (.reg false [
 oX 18 (.mv (kX 0))])
 (.join ⟨[(17, sX), (16, sX), (1, sX), (3, .one (rX 3)), (5, .one (rX 5)), (6, .one (rX 6)), (8, .one (rX 8)), (9, .one (rX 9)), (10, sX), (11, .one (rX 11)), (12, sX), (13, sX), (14, .one (rX 14)), (15, sX)], [(3, .box [vX, .c (.v (.list gX))]), (5, .box [vX, vX, .c (.v (lX))]), (6, .box [vX, fX 500013 4]), (8, .box [vX, vX, vX, .c (.v (lX))]), (9, .box [vX, vX, vX, .c (.v (lX))]), (11, .box [vX, vX, fX 500014 1]), (14, .box [vX, vX, fX 500015 1]), (500013, .row true .froz gX), (500014, .row true .froz iX), (500015, .row true .froz iX)]⟩ [3, 5, 6, 8, 9, 11, 14, 500010, 500011, 500012, 500013, 500014, 500015] [(true, 6, 1, 500013, .froz, []), (true, 11, 2, 500014, .froz, []), (true, 14, 2, 500015, .froz, [])]
 (.block 8
 (.loop 0 ⟨[(1, sX), (3, .one (rX 3)), (5, .one (rX 5)), (6, .one (rX 6)), (8, .one (rX 8)), (9, .one (rX 9)), (10, sX), (11, .one (rX 11)), (12, sX), (13, sX), (14, .one (rX 14)), (15, sX), (16, sX), (17, sX), (18, sX)], [(3, .box [vX, .c (.v (.list gX))]), (5, .box [vX, vX, .c (.v (lX))]), (6, .box [vX, fX 500010 4]), (8, .box [vX, vX, vX, .c (.v (lX))]), (9, .box [vX, vX, vX, .c (.v (lX))]), (11, .box [vX, vX, fX 500011 1]), (14, .box [vX, vX, fX 500012 1]), (500010, .row true .froz gX), (500011, .row true .froz iX), (500012, .row true .froz iX)]⟩ [3, 5, 6, 8, 9, 11, 14, 500007, 500008, 500009, 500010, 500011, 500012] [(true, 6, 1, 500010, .froz, []), (true, 11, 2, 500011, .froz, []), (true, 14, 2, 500012, .froz, [])]
 (.seq
 (.seq
 (.reg false [
 oX 124 (.mv 18),
 oX 125 (.fieldA 2 8),
 oX 126 (.load false 1 125),
 oX 127 (.bin .lss 124 126)])
 (.cond 127
 .skip
 (.exit 8)))
 (.seq
 (.block 9
 (.reg true [
 oX 130 (.mv 17),
 oX 131 (.fieldA 3 8),
 oX 132 (.load false 1 131),
 oX 133 (.mv 12),
 oX 134 (.fieldA 1 8),
 oX 135 (.load false 1 134),
 oX 136 (.bin .mul 133 135),
 oX 137 (.mv 15),
 oX 138 (.bin .add 136 137),
 oX 139 (.fieldA 2 8),
 oX 140 (.load false 1 139),
 oX 141 (.bin .mul 138 140),
 oX 142 (.mv 18),
 oX 143 (.bin .add 141 142),
 oX 144 (.idxA 1 132 143),
 oX 145 (.load false 1 144),
 oX 146 (.fieldA 3 9),
 oX 147 (.load false 1 146),
 oX 148 (.mv 18),
 oX 149 (.fieldA 1 9),
 oX 150 (.load false 1 149),
 oX 151 (.bin .mul 148 150),
 oX 152 (.mv 16),
 oX 153 (.bin .add 151 152),
 oX 154 (.fieldA 2 9),
 oX 155 (.load false 1 154),
 oX 156 (.bin .mul 153 155),
 oX 157 (.mv 13),
 oX 158 (.bin .add 156 157),
 oX 159 (.idxA 1 147 158),
 oX 160 (.load false 1 159),
 oX 161 (.bin .mul 145 160),
 oX 162 (.bin .add 130 161),
 oX 163 (.fieldA 0 3),
 oX 164 (.load false 1 163),
 oX 165 (.bin .rem 162 164),
 oX 17 (.mv 165)]))
 (.reg false [
 oX 128 (.mv 18),
 oX 129 (.bin .add 128 (kX 1)),
 oX 18 (.mv 129)])))))))
 (.reg false [
 oX 166 (.fieldA 2 14),
 oX 167 (.load false 1 166),
 oX 168 (.mv 15),
 oX 169 (.fieldA 1 9),
 oX 170 (.load false 1 169),
 oX 171 (.bin .mul 168 170),
 oX 172 (.mv 16),
 oX 173 (.bin .add 171 172),
 oX 174 (.mv 17),
 oX 175 (.idxA 1 167 173),
 uX (.store 1 175 174)])))))
 (.reg false [
 oX 122 (.mv 16),
 oX 123 (.bin .add 122 (kX 1)),
 oX 16 (.mv 123)]))))))))
 (.reg false [
 oX 116 (.mv 15),
 oX 117 (.bin .add 116 (kX 1)),
 oX 15 (.mv 117)])))))))
 (.seq
 (.reg false [
 oX 176 (.fieldA 0 3),
 oX 177 (.load false 1 176),
 oX 178 (.load true 3 5),
 oX 179 (.load true 3 14),
 oX 180 (.call .froz 78 [177, 178, 179]),
 uX (.store 3 14 180)])
 (.seq
 (.reg false [
 oX 19 (.mv (kX 0))])
 (.block 10
 (.loop 0 ⟨[(1, sX), (3, .one (rX 3)), (5, .one (rX 5)), (6, .one (rX 6)), (8, .one (rX 8)), (9, .one (rX 9)), (10, sX), (11, .one (rX 11)), (12, sX), (13, sX), (14, .one (rX 14)), (19, sX)], [(3, .box [vX, .c (.v (.list gX))]), (5, .box [vX, vX, .c (.v (lX))]), (6, .box [vX, fX 500025 4]), (8, .box [vX, vX, vX, .c (.v (lX))]), (9, .box [vX, vX, vX, .c (.v (lX))]), (11, .box [vX, vX, fX 500026 1]), (14, .box [vX, vX, fX 500027 1]), (500025, .row true .froz gX), (500026, .row true .froz iX), (500027, .row true .froz iX)]⟩ [3, 5, 6, 8, 9, 11, 14, 181000, 500022, 500023, 500024, 500025, 500026, 500027, 500031, 500032, 500033] [(true, 6, 1, 500025, .froz, []), (true, 11, 2, 500026, .froz, []), (true, 14, 2, 500027, .froz, [])]
 (.seq
 (.seq
 (.reg false [
 oX 181 (.mv 19),
 oX 182 (.fieldA 1 8),
 oX 183 (.load false 1 182),
 oX 184 (.bin .lss 181 183)])
 (.cond 184
 .skip
 (.exit 10)))
 (.seq
 (.join ⟨[(19, sX), (1, sX), (3, .one (rX 3)), (5, .one (rX 5)), (6, .one (rX 6)), (8, .one (rX 8)), (9, .one (rX 9)), (10, sX), (11, .one (rX 11)), (12, sX), (13, sX), (14, .one (rX 14))], [(3, .box [vX, .c (.v (.list gX))]), (5, .box [vX, vX, .c (.v (lX))]), (6, .box [vX, fX 500031 4]), (8, .box [vX, vX, vX, .c (.v (lX))]), (9, .box [vX, vX, vX, .c (.v (lX))]), (11, .box [vX, vX, fX 500032 1]), (14, .box [vX, vX, fX 500033 1]), (500031, .row true .froz gX), (500032, .row true .froz iX), (500033, .row true .froz iX)]⟩ [3, 5, 6, 8, 9, 11, 14, 500028, 500029, 500030, 500031, 500032, 500033] [(true, 6, 1, 500031, .froz, []), (true, 11, 2, 500032, .froz, []), (true, 14, 2, 500033, .froz, [])]
 (.block 11
 (.seq
 (.reg false [
 oX 20 (.mv (kX 0))])
 (.block 12
 (.loop 0 ⟨[(1, sX), (3, .one (rX 3)), (5, .one (rX 5)), (6, .one (rX 6)), (8, .one (rX 8)), (9, .one (rX 9)), (10, sX), (11, .one (rX 11)), (12, sX), (13, sX), (14, .one (rX 14)), (19, sX), (20, sX)], [(3, .box [vX, .c (.v (.list gX))]), (5, .box [vX, vX, .c (.v (lX))]), (6, .box [vX, fX 500028 4]), (8, .box [vX, vX, vX, .c (.v (lX))]), (9, .box [vX, vX, vX, .c (.v (lX))]), (11, .box [vX, vX, fX 500029 1]), (14, .box [vX, vX, fX 500030 1]), (500028, .row true .froz gX), (500029, .row true .froz iX), (500030, .row true .froz iX)]⟩ [3, 5, 6, 8, 9, 11, 14, 500025, 500026, 500027, 500028, 500029, 500030] [(true, 6, 1, 500028, .froz, []), (true, 11, 2, 500029, .froz, []), (true, 14, 2, 500030, .froz, [])]
 (.seq
 (.seq
 (.reg false [
 oX 187 (.mv 20),
 oX 188 (.fieldA 1 9),
 oX 189 (.load false 1 188),
 oX 190 (.bin .lss 187 189)])
 (.cond 190
 .skip
 (.exit 12)))
 (.seq
 (.block 13
 (.reg true [
 oX 193 (.fieldA 2 11),
 oX 194 (.load false 1 193),
 oX 195 (.mv 12),
 oX 196 (.fieldA 1 8),
 oX 197 (.load false 1 196),
 oX 198 (.bin .mul 195 197),
 oX 199 (.mv 19),
 oX 200 (.bin .add 198 199),
 oX 201 (.fieldA 1 11),
 oX 202 (.load false 1 201),
 oX 203 (.bin .mul 200 202),
 oX 204 (.mv 20),
 oX 205 (.fieldA 2 9),
 oX 206 (.load false 1 205),
 oX 207 (.bin .mul 204 206),
 oX 208 (.bin .add 203 207),
 oX 209 (.mv 13),
 oX 210 (.bin .add 208 209),
 oX 211 (.fieldA 2 14),
 oX 212 (.load false 1 211),
 oX 213 (.mv 19),
 oX 214 (.fieldA 1 9),
 oX 215 (.load false 1 214),
 oX 216 (.bin .mul 213 215),
 oX 217 (.mv 20),
 oX 218 (.bin .add 216 217),
 oX 219 (.idxA 1 212 218),
 oX 220 (.load false 1 219),
 oX 221 (.idxA 1 194 210),
 uX (.store 1 221 220)]))
 (.reg false [
 oX 191 (.mv 20),
 oX 192 (.bin .add 191 (kX 1)),
 oX 20 (.mv 192)]))))))))
 (.reg false [
 oX 185 (.mv 19),
 oX 186 (.bin .add 185 (kX 1)),
 oX 19 (.mv 186)])))))))))))
 (.reg false [
 oX 108 (.mv 13),
 oX 109 (.bin .add 108 (kX 1)),
 oX 13 (.mv 109)]))))))))
 (.reg false [
 oX 102 (.mv 12),
 oX 103 (.bin .add 102 (kX 1)),
 oX 12 (.mv 103)])))))))
 (.seq
 (.reg false [
 oX 223 (.fieldA 0 3),
 oX 224 (.load false 1 223),
 oX 225 (.load true 3 11),
 oX 226 (.call .froz 97 [224, 225]),
 oX 222 (.mv 226),
 oX 227 (.ext 0 222),
 oX 228 (.ext 1 222),
 oX 21 (.alloc [zX, zX, .nil iX]),
 oX 22 (.alloc [zX, zX, .nil iX]),
 uX (.store 3 21 227),
 uX (.store 3 22 228)])
 (.seq
 (.reg false [
 oX 229 (.load true 2 3),
 oX 230 (.call .froz 92 [229]),
 oX 23 (.alloc [zX, .nil gX]),
 uX (.store 2 23 230)])
 (.seq
 (.reg false [
 oX 231 (.fieldA 1 23),
 oX 232 (.load false 1 231),
 oX 233 (.mv 1),
 oX 234 (.fieldA 0 8),
 oX 235 (.load false 1 234),
 oX 236 (.fieldA 1 8),
 oX 237 (.load false 1 236),
 oX 238 (.fieldA 1 21),
 oX 239 (.load false 1 238),
 oX 240 (.fieldA 2 21),
 oX 241 (.load false 1 240),
 oX 242 (.build [zX, zX, zX, .nil iX] [(0, 1, 235), (1, 1, 237), (2, 1, 239), (3, 1, 241)]),
 oX 243 (.idxA 4 232 233),
 uX (.store 4 243 242)])
 (.seq
 (.reg false [
 oX 244 (.fieldA 1 23),
 oX 245 (.load false 1 244),
 oX 246 (.mv 1),
 oX 247 (.bin .add 246 (kX 1)),
 oX 248 (.fieldA 1 21),
 oX 249 (.load false 1 248),
 oX 250 (.fieldA 1 9),
 oX 251 (.load false 1 250),
 oX 252 (.fieldA 2 9),
 oX 253 (.load false 1 252),
 oX 254 (.fieldA 2 22),
 oX 255 (.load false 1 254),
 oX 256 (.build [zX, zX, zX, .nil iX] [(0, 1, 249), (1, 1, 251), (2, 1, 253), (3, 1, 255)]),
 oX 257 (.idxA 4 245 247),
 uX (.store 4 257 256)])
 (.seq
 (.seq
 (.reg false [
 oX 258 (.load true 2 23),
 oX 259 (.call .froz 16 [258]),
 oX 260 (.un .not 259)])
 (.cond 260
 (.seq
 (.reg false [
 oX 261 (.build [zX, .nil gX] []),
 uX (.store 2 6 261),
 oX 7 (.mv (.k (.one (.v (.bool) (false)))))])
 .ret)
 .skip))
 (.seq
 (.reg false [
 oX 262 (.load true 2 23),
 uX (.store 2 6 262),
 oX 7 (.mv (.k (.one (.v (.bool) (true)))))])
 .ret))))))))))))))
def ms_spec_ApplyBond : List MRes := [.cell 6 2 true, .tmp 7]
theorem n_spec_ApplyBond (NN : Nat) (x : DLL (Sig.tys ag_spec_ApplyBond)) : runS NN [fn_spec_ChainOk, fn_spec_l01In, fn_spec_MatrixOk, fn_spec_l31New, fn_spec_l31Mul, fn_spec_l31Factor, fn_spec_l32Copy] sc_spec_ApplyBond ms_spec_ApplyBond ag_spec_ApplyBond rs_spec_ApplyBond x = G_spec_ApplyBond NN x := by kernel_rfl
theorem k_spec_ApplyBond : chkS pX 49 sc_spec_ApplyBond.er ms_spec_ApplyBond 3 = true := by decide +kernel
theorem p_spec_ApplyBond : PureSpec pX 49 fn_spec_ApplyBond.M ∧ chkFun pX 49 = true :=
  pure_of_runS (T := [fn_spec_ChainOk, fn_spec_l01In, fn_spec_MatrixOk, fn_spec_l31New, fn_spec_l31Mul, fn_spec_l31Factor, fn_spec_l32Copy]) (sc := sc_spec_ApplyBond) (ms := ms_spec_ApplyBond) (args := ag_spec_ApplyBond) (res := rs_spec_ApplyBond) (SOk.cons p_spec_ChainOk <| SOk.cons p_spec_l01In <| SOk.cons p_spec_MatrixOk <| SOk.cons p_spec_l31New <| SOk.cons p_spec_l31Mul <| SOk.cons p_spec_l31Factor <| SOk.cons p_spec_l32Copy <| SOk.nil) follows_ok k_spec_ApplyBond F_spec_ApplyBond fun x y h => (n_spec_ApplyBond FUEL x).trans (f_spec_ApplyBond x y h)

def fn_impl_IsPrime : SFn := ⟨68, ag_impl_IsPrime, mu_impl_IsPrime, rs_impl_IsPrime, F_impl_IsPrime⟩
def sc_impl_IsPrime : SCode :=
 (.seq
 (.reg false [
 oX 2 (.mv (.k (.one (.v (.bool) (false)))))])
 (.seq
 (.seq
 (.reg false [
 oX 4 (.mv 0),
 oX 5 (.bin .lss 4 (kX 2)),
 oX 6 (.mv 5),
 ⟨(some 7), .mv 0, (some (6, false))⟩,
 ⟨(some 8), .bin .gtr 7 (kX 1000003), (some (6, false))⟩,
 oX 9 (.pick 6 (.k (.one (.v (.bool) (true)))) 8)])
 (.cond 9
 (.seq
 (.reg false [
 oX 2 (.mv (.k (.one (.v (.bool) (false)))))])
 .ret)
 .skip))
 (.seq
 (.seq
 (.reg false [
 oX 3 (.mv (kX 2))])
 (.join ⟨[], []⟩ [] []
 (.block 0
 (.loop 0 ⟨[(0, sX), (3, sX)], []⟩ [] []
 (.seq
 (.seq
 (.reg false [
 oX 10 (.mv 3),
 oX 11 (.mv 3),
 oX 12 (.bin .mul 10 11),
 oX 13 (.mv 0),
 oX 14 (.bin .leq 12 13)])
 (.cond 14
 .skip
 (.exit 0)))
 (.seq
 (.block 1
 (.seq
 (.reg false [
 oX 17 (.mv 0),
 oX 18 (.mv 3),
 oX 19 (.bin .rem 17 18),
 oX 20 (.bin .eql 19 (kX 0))])
 (.cond 20
 (.seq
 (.reg false [
 oX 2 (.mv (.k (.one (.v (.bool) (false)))))])
 .ret)
 .skip)))
 (.reg false [
 oX 15 (.mv 3),
 oX 16 (.bin .add 15 (kX 1)),
 oX 3 (.mv 16)])))))))
 (.seq
 (.reg false [
 oX 2 (.mv (.k (.one (.v (.bool) (true)))))])
 .ret))))
def ms_impl_IsPrime : List MRes := [.tmp 2]
theorem n_impl_IsPrime (NN : Nat) (x : DLL (Sig.tys ag_impl_IsPrime)) : runS NN [] sc_impl_IsPrime ms_impl_IsPrime ag_impl_IsPrime rs_impl_IsPrime x = G_impl_IsPrime NN x := by kernel_rfl
theorem k_impl_IsPrime : chkS pX 68 sc_impl_IsPrime.er ms_impl_IsPrime 1 = true := by decide +kernel
theorem p_impl_IsPrime : PureSpec pX 68 fn_impl_IsPrime.M ∧ chkFun pX 68 = true :=
  pure_of_runS (T := []) (sc := sc_impl_IsPrime) (ms := ms_impl_IsPrime) (args := ag_impl_IsPrime) (res := rs_impl_IsPrime) (SOk.nil) follows_ok k_impl_IsPrime F_impl_IsPrime fun x y h => (n_impl_IsPrime FUEL x).trans (f_impl_IsPrime x y h)

def fn_impl_inMod : SFn := ⟨127, ag_impl_inMod, mu_impl_inMod, rs_impl_inMod, F_impl_inMod⟩
def sc_impl_inMod : SCode :=
 (.seq
 (.reg false [
 oX 4 (.mv (.k (.one (.v (.bool) (false)))))])
 (.seq
 (.seq
 (.reg false [
 oX 7 (.mv 1),
 oX 8 (.len 7),
 oX 9 (.mv (kX 0))])
 (.join ⟨[], []⟩ [] []
 (.block 0
 (.loop 0 ⟨[(0, sX), (7, .one (.c (.v (lX)))), (8, sX), (9, sX)], []⟩ [] []
 (.seq
 (.reg false [
 oX 10 (.bin .lss 9 8)])
 (.seq
 (.cond 10
 .skip
 (.exit 0))
 (.seq
 (.block 1
 (.seq
 (.reg false [
 oX 11 (.idxA 1 7 9),
 oX 12 (.load false 1 11),
 oX 6 (.mv 12)])
 (.seq
 (.reg false [
 oX 13 (.mv 6),
 oX 14 (.bin .lss 13 (kX 0)),
 oX 15 (.mv 14),
 ⟨(some 16), .mv 6, (some (15, false))⟩,
 ⟨(some 17), .mv 0, (some (15, false))⟩,
 ⟨(some 18), .bin .geq 16 17, (some (15, false))⟩,
 oX 19 (.pick 15 (.k (.one (.v (.bool) (true)))) 18)])
 (.cond 19
 (.seq
 (.reg false [
 oX 4 (.mv (.k (.one (.v (.bool) (false)))))])
 .ret)
 .skip))))
 (.reg false [
 oX 20 (.bin .add 9 (kX 1)),
 oX 9 (.mv 20)]))))))))
 (.seq
 (.reg false [
 oX 4 (.mv (.k (.one (.v (.bool) (true)))))])
 .ret)))
def ms_impl_inMod : List MRes := [.tmp 4]
theorem n_impl_inMod (NN : Nat) (x : DLL (Sig.tys ag_impl_inMod)) : runS NN [] sc_impl_inMod ms_impl_inMod ag_impl_inMod rs_impl_inMod x = G_impl_inMod NN x := by kernel_rfl
theorem k_impl_inMod : chkS pX 127 sc_impl_inMod.er ms_impl_inMod 2 = true := by decide +kernel
theorem p_impl_inMod : PureSpec pX 127 fn_impl_inMod.M ∧ chkFun pX 127 = true :=
  pure_of_runS (T := []) (sc := sc_impl_inMod) (ms := ms_impl_inMod) (args := ag_impl_inMod) (res := rs_impl_inMod) (SOk.nil) follows_ok k_impl_inMod F_impl_inMod fun x y h => (n_impl_inMod FUEL x).trans (f_impl_inMod x y h)

def fn_impl_siteOk : SFn := ⟨69, ag_impl_siteOk, mu_impl_siteOk, rs_impl_siteOk, F_impl_siteOk⟩
def sc_impl_siteOk : SCode :=
 (.seq
 (.reg false [
 oX 3 (.box 4 1),
 oX 4 (.mv (.k (.one (.v (.bool) (false)))))])
 (.seq
 (.seq
 (.reg false [
 oX 5 (.fieldA 0 3),
 oX 6 (.load false 1 5),
 oX 7 (.bin .lss 6 (kX 0)),
 oX 8 (.mv 7),
 ⟨(some 9), .fieldA 0 3, (some (8, false))⟩,
 ⟨(some 10), .load false 1 9, (some (8, false))⟩,
 ⟨(some 11), .bin .gtr 10 (kX 32), (some (8, false))⟩,
 oX 12 (.pick 8 (.k (.one (.v (.bool) (true)))) 11),
 oX 13 (.mv 12),
 ⟨(some 14), .fieldA 2 3, (some (13, false))⟩,
 ⟨(some 15), .load false 1 14, (some (13, false))⟩,
 ⟨(some 16), .bin .lss 15 (kX 0), (some (13, false))⟩,
 oX 17 (.pick 13 (.k (.one (.v (.bool) (true)))) 16),
 oX 18 (.mv 17),
 ⟨(some 19), .fieldA 2 3, (some (18, false))⟩,
 ⟨(some 20), .load false 1 19, (some (18, false))⟩,
 ⟨(some 21), .bin .gtr 20 (kX 32), (some (18, false))⟩,
 oX 22 (.pick 18 (.k (.one (.v (.bool) (true)))) 21),
 oX 23 (.mv 22),
 ⟨(some 24), .fieldA 1 3, (some (23, false))⟩,
 ⟨(some 25), .load false 1 24, (some (23, false))⟩,
 ⟨(some 26), .bin .lss 25 (kX 1), (some (23, false))⟩,
 oX 27 (.pick 23 (.k (.one (.v (.bool) (true)))) 26),
 oX 28 (.mv 27),
 ⟨(some 29), .fieldA 1 3, (some (28, false))⟩,
 ⟨(some 30), .load false 1 29, (some (28, false))⟩,
 ⟨(some 31), .bin .gtr 30 (kX 8), (some (28, false))⟩,
 oX 32 (.pick 28 (.k (.one (.v (.bool) (true)))) 31)])
 (.cond 32
 (.seq
 (.reg false [
 oX 4 (.mv (.k (.one (.v (.bool) (false)))))])
 .ret)
 .skip))
 (.seq
 (.reg false [
 oX 33 (.fieldA 3 3),
 oX 34 (.load false 1 33),
 oX 35 (.len 34),
 oX 36 (.fieldA 0 3),
 oX 37 (.load false 1 36),
 oX 38 (.fieldA 1 3),
 oX 39 (.load false 1 38),
 oX 40 (.bin .mul 37 39),
 oX 41 (.fieldA 2 3),
 oX 42 (.load false 1 41),
 oX 43 (.bin .mul 40 42),
 oX 44 (.bin .eql 35 43),
 oX 45 (.mv 44),
 ⟨(some 46), .mv 0, (some (45, true))⟩,
 ⟨(some 47), .fieldA 3 3, (some (45, true))⟩,
 ⟨(some 48), .load false 1 47, (some (45, true))⟩,
 ⟨(some 49), .call .froz 127 [46, 48], (some (45, true))⟩,
 oX 50 (.pick 45 49 (.k (.one (.v (.bool) (false))))),
 oX 4 (.mv 50)])
 .ret)))
def ms_impl_siteOk : List MRes := [.tmp 4]
theorem n_impl_siteOk (NN : Nat) (x : DLL (Sig.tys ag_impl_siteOk)) : runS NN [fn_impl_inMod] sc_impl_siteOk ms_impl_siteOk ag_impl_siteOk rs_impl_siteOk x = G_impl_siteOk NN x := by kernel_rfl
theorem k_impl_siteOk : chkS pX 69 sc_impl_siteOk.er ms_impl_siteOk 2 = true := by decide +kernel
theorem p_impl_siteOk : PureSpec pX 69 fn_impl_siteOk.M ∧ chkFun pX 69 = true :=
  pure_of_runS (T := [fn_impl_inMod]) (sc := sc_impl_siteOk) (ms := ms_impl_siteOk) (args := ag_impl_siteOk) (res := rs_impl_siteOk) (SOk.cons p_impl_inMod <| SOk.nil) follows_ok k_impl_siteOk F_impl_siteOk fun x y h => (n_impl_siteOk FUEL x).trans (f_impl_siteOk x y h)

def fn_impl_ChainOk : SFn := ⟨18, ag_impl_ChainOk, mu_impl_ChainOk, rs_impl_ChainOk, F_impl_ChainOk⟩
def sc_impl_ChainOk : SCode :=
 (.seq
 (.reg false [
 oX 1 (.box 2 0),
 oX 2 (.mv (.k (.one (.v (.bool) (false)))))])
 (.seq
 (.seq
 (.reg false [
 oX 7 (.fieldA 0 1),
 oX 8 (.load false 1 7),
 oX 9 (.call .froz 68 [8]),
 oX 10 (.un .not 9),
 oX 11 (.mv 10),
 ⟨(some 12), .fieldA 1 1, (some (11, false))⟩,
 ⟨(some 13), .load false 1 12, (some (11, false))⟩,
 ⟨(some 14), .len 13, (some (11, false))⟩,
 ⟨(some 15), .bin .lss 14 (kX 1), (some (11, false))⟩,
 oX 16 (.pick 11 (.k (.one (.v (.bool) (true)))) 15),
 oX 17 (.mv 16),
 ⟨(some 18), .fieldA 1 1, (some (17, false))⟩,
 ⟨(some 19), .load false 1 18, (some (17, false))⟩,
 ⟨(some 20), .len 19, (some (17, false))⟩,
 ⟨(some 21), .bin .gtr 20 (kX 8), (some (17, false))⟩,
 oX 22 (.pick 17 (.k (.one (.v (.bool) (true)))) 21)])
 (.cond 22
 (.seq
 (.reg false [
 oX 2 (.mv (.k (.one (.v (.bool) (false)))))])
 .ret)
 .skip))
 (.seq
 (.reg false [
 oX 3 (.mv (kX 1)),
 oX 4 (.mv (kX 1))])
 (.seq
 (.seq
 (.reg false [
 oX 23 (.fieldA 1 1),
 oX 24 (.load false 1 23),
 oX 25 (.len 24),
 oX 26 (.mv (kX 0))])
 (.join ⟨[(3, sX), (4, sX)], []⟩ [1] []
 (.block 0
 (.loop 0 ⟨[(1, .one (rX 1)), (3, sX), (4, sX), (24, .one (.c (.v (.list gX)))), (25, sX), (26, sX)], [(1, .box [vX, .c (.v (.list gX))])]⟩ [1, 6] []
 (.seq
 (.reg false [
 oX 27 (.bin .lss 26 25)])
 (.seq
 (.cond 27
 .skip
 (.exit 0))
 (.seq
 (.block 1
 (.seq
 (.reg false [
 oX 28 (.idxA 4 24 26),
 oX 29 (.load true 4 28),
 oX 6 (.alloc [zX, zX, zX, .nil iX]),
 uX (.store 4 6 29)])
 (.seq
 (.seq
 (.reg false [
 oX 30 (.fieldA 0 1),
 oX 31 (.load false 1 30),
 oX 32 (.load true 4 6),
 oX 33 (.call .froz 69 [31, 32]),
 oX 34 (.un .not 33),
 oX 35 (.mv 34),
 ⟨(some 36), .fieldA 0 6, (some (35, false))⟩,
 ⟨(some 37), .load false 1 36, (some (35, false))⟩,
 ⟨(some 38), .mv 3, (some (35, false))⟩,
 ⟨(some 39), .bin .neq 37 38, (some (35, false))⟩,
 oX 40 (.pick 35 (.k (.one (.v (.bool) (true)))) 39)])
 (.cond 40
 (.seq
 (.reg false [
 oX 2 (.mv (.k (.one (.v (.bool) (false)))))])
 .ret)
 .skip))
 (.seq
 (.reg false [
 oX 41 (.fieldA 2 6),
 oX 42 (.load false 1 41),
 oX 3 (.mv 42)])
 (.reg false [
 oX 43 (.mv 4),
 oX 44 (.fieldA 1 6),
 oX 45 (.load false 1 44),
 oX 46 (.bin .mul 43 45),
 oX 4 (.mv 46)])))))
 (.reg false [
 oX 47 (.bin .add 26 (kX 1)),
 oX 26 (.mv 47)]))))))))
 (.seq
 (.reg false [
 oX 48 (.mv 3),
 oX 49 (.bin .eql 48 (kX 1)),
 oX 50 (.mv 49),
 ⟨(some 51), .mv 4, (some (50, true))⟩,
 ⟨(some 52), .bin .leq 51 (kX 4096), (some (50, true))⟩,
 oX 53 (.pick 50 52 (.k (.one (.v (.bool) (false))))),
 oX 2 (.mv 53)])
 .ret)))))
def ms_impl_ChainOk : List MRes := [.tmp 2]
theorem n_impl_ChainOk (NN : Nat) (x : DLL (Sig.tys ag_impl_ChainOk)) : runS NN [fn_impl_IsPrime, fn_impl_siteOk] sc_impl_ChainOk ms_impl_ChainOk ag_impl_ChainOk rs_impl_ChainOk x = G_impl_ChainOk NN x := by kernel_rfl
theorem k_impl_ChainOk : chkS pX 18 sc_impl_ChainOk.er ms_impl_ChainOk 1 = true := by decide +kernel
theorem p_impl_ChainOk : PureSpec pX 18 fn_impl_ChainOk.M ∧ chkFun pX 18 = true :=
  pure_of_runS (T := [fn_impl_IsPrime, fn_impl_siteOk]) (sc := sc_impl_ChainOk) (ms := ms_impl_ChainOk) (args := ag_impl_ChainOk) (res := rs_impl_ChainOk) (SOk.cons p_impl_IsPrime <| SOk.cons p_impl_siteOk <| SOk.nil) follows_ok k_impl_ChainOk F_impl_ChainOk fun x y h => (n_impl_ChainOk FUEL x).trans (f_impl_ChainOk x y h)

def fn_impl_MatrixOk : SFn := ⟨93, ag_impl_MatrixOk, mu_impl_MatrixOk, rs_impl_MatrixOk, F_impl_MatrixOk⟩
def sc_impl_MatrixOk : SCode :=
 (.seq
 (.reg false [
 oX 3 (.box 3 1),
 oX 4 (.mv (.k (.one (.v (.bool) (false)))))])
 (.seq
 (.seq
 (.reg false [
 oX 5 (.mv 0),
 oX 6 (.call .froz 68 [5]),
 oX 7 (.un .not 6),
 oX 8 (.mv 7),
 ⟨(some 9), .fieldA 0 3, (some (8, false))⟩,
 ⟨(some 10), .load false 1 9, (some (8, false))⟩,
 ⟨(some 11), .bin .lss 10 (kX 0), (some (8, false))⟩,
 oX 12 (.pick 8 (.k (.one (.v (.bool) (true)))) 11),
 oX 13 (.mv 12),
 ⟨(some 14), .fieldA 1 3, (some (13, false))⟩,
 ⟨(some 15), .load false 1 14, (some (13, false))⟩,
 ⟨(some 16), .bin .lss 15 (kX 0), (some (13, false))⟩,
 oX 17 (.pick 13 (.k (.one (.v (.bool) (true)))) 16),
 oX 18 (.mv 17),
 ⟨(some 19), .fieldA 0 3, (some (18, false))⟩,
 ⟨(some 20), .load false 1 19, (some (18, false))⟩,
 ⟨(some 21), .bin .gtr 20 (kX 64), (some (18, false))⟩,
 oX 22 (.pick 18 (.k (.one (.v (.bool) (true)))) 21),
 oX 23 (.mv 22),
 ⟨(some 24), .fieldA 1 3, (some (23, false))⟩,
 ⟨(some 25), .load false 1 24, (some (23, false))⟩,
 ⟨(some 26), .bin .gtr 25 (kX 64), (some (23, false))⟩,
 oX 27 (.pick 23 (.k (.one (.v (.bool) (true)))) 26)])
 (.cond 27
 (.seq
 (.reg false [
 oX 4 (.mv (.k (.one (.v (.bool) (false)))))])
 .ret)
 .skip))
 (.seq
 (.reg false [
 oX 28 (.fieldA 2 3),
 oX 29 (.load false 1 28),
 oX 30 (.len 29),
 oX 31 (.fieldA 0 3),
 oX 32 (.load false 1 31),
 oX 33 (.fieldA 1 3),
 oX 34 (.load false 1 33),
 oX 35 (.bin .mul 32 34),
 oX 36 (.bin .eql 30 35),
 oX 37 (.mv 36),
 ⟨(some 38), .mv 0, (some (37, true))⟩,
 ⟨(some 39), .fieldA 2 3, (some (37, true))⟩,
 ⟨(some 40), .load false 1 39, (some (37, true))⟩,
 ⟨(some 41), .call .froz 127 [38, 40], (some (37, true))⟩,
 oX 42 (.pick 37 41 (.k (.one (.v (.bool) (false))))),
 oX 4 (.mv 42)])
 .ret)))
def ms_impl_MatrixOk : List MRes := [.tmp 4]
theorem n_impl_MatrixOk (NN : Nat) (x : DLL (Sig.tys ag_impl_MatrixOk)) : runS NN [fn_impl_IsPrime, fn_impl_inMod] sc_impl_MatrixOk ms_impl_MatrixOk ag_impl_MatrixOk rs_impl_MatrixOk x = G_impl_MatrixOk NN x := by kernel_rfl
theorem k_impl_MatrixOk : chkS pX 93 sc_impl_MatrixOk.er ms_impl_MatrixOk 2 = true := by decide +kernel
theorem p_impl_MatrixOk : PureSpec pX 93 fn_impl_MatrixOk.M ∧ chkFun pX 93 = true :=
  pure_of_runS (T := [fn_impl_IsPrime, fn_impl_inMod]) (sc := sc_impl_MatrixOk) (ms := ms_impl_MatrixOk) (args := ag_impl_MatrixOk) (res := rs_impl_MatrixOk) (SOk.cons p_impl_IsPrime <| SOk.cons p_impl_inMod <| SOk.nil) follows_ok k_impl_MatrixOk F_impl_MatrixOk fun x y h => (n_impl_MatrixOk FUEL x).trans (f_impl_MatrixOk x y h)

def fn_impl_emptyMatrix : SFn := ⟨82, ag_impl_emptyMatrix, mu_impl_emptyMatrix, rs_impl_emptyMatrix, F_impl_emptyMatrix⟩
def sc_impl_emptyMatrix : SCode :=
 (.seq
 (.reg false [
 oX 4 (.alloc [zX, zX, .nil iX])])
 (.seq
 (.reg false [
 oX 5 (.mv 0),
 oX 6 (.mv 1),
 oX 7 (.mv 0),
 oX 8 (.mv 1),
 oX 9 (.bin .mul 7 8),
 oX 10 (.mkslice .froz iX 8 (0 : Int) 9 9),
 oX 11 (.build [zX, zX, .nil iX] [(0, 1, 5), (1, 1, 6), (2, 1, 10)]),
 uX (.store 3 4 11)])
 .ret))
def ms_impl_emptyMatrix : List MRes := [.cell 4 3 true]
theorem n_impl_emptyMatrix (NN : Nat) (x : DLL (Sig.tys ag_impl_emptyMatrix)) : runS NN [] sc_impl_emptyMatrix ms_impl_emptyMatrix ag_impl_emptyMatrix rs_impl_emptyMatrix x = G_impl_emptyMatrix NN x := by kernel_rfl
theorem k_impl_emptyMatrix : chkS pX 82 sc_impl_emptyMatrix.er ms_impl_emptyMatrix 2 = true := by decide +kernel
theorem p_impl_emptyMatrix : PureSpec pX 82 fn_impl_emptyMatrix.M ∧ chkFun pX 82 = true :=
  pure_of_runS (T := []) (sc := sc_impl_emptyMatrix) (ms := ms_impl_emptyMatrix) (args := ag_impl_emptyMatrix) (res := rs_impl_emptyMatrix) (SOk.nil) follows_ok k_impl_emptyMatrix F_impl_emptyMatrix fun x y h => (n_impl_emptyMatrix FUEL x).trans (f_impl_emptyMatrix x y h)

def fn_impl_Matrix_at : SFn := ⟨95, ag_impl_Matrix_at, mu_impl_Matrix_at, rs_impl_Matrix_at, F_impl_Matrix_at⟩
def sc_impl_Matrix_at : SCode :=
 (.seq
 (.reg false [
 oX 3 (.box 3 0),
 oX 6 (.mv (kX 0))])
 (.seq
 (.reg false [
 oX 7 (.fieldA 2 3),
 oX 8 (.load false 1 7),
 oX 9 (.mv 1),
 oX 10 (.fieldA 1 3),
 oX 11 (.load false 1 10),
 oX 12 (.bin .mul 9 11),
 oX 13 (.mv 2),
 oX 14 (.bin .add 12 13),
 oX 15 (.idxA 1 8 14),
 oX 16 (.load false 1 15),
 oX 6 (.mv 16)])
 .ret))
def ms_impl_Matrix_at : List MRes := [.tmp 6]
theorem n_impl_Matrix_at (NN : Nat) (x : DLL (Sig.tys ag_impl_Matrix_at)) : runS NN [] sc_impl_Matrix_at ms_impl_Matrix_at ag_impl_Matrix_at rs_impl_Matrix_at x = G_impl_Matrix_at NN x := by kernel_rfl
theorem k_impl_Matrix_at : chkS pX 95 sc_impl_Matrix_at.er ms_impl_Matrix_at 3 = true := by decide +kernel
theorem p_impl_Matrix_at : PureSpec pX 95 fn_impl_Matrix_at.M ∧ chkFun pX 95 = true :=
  pure_of_runS (T := []) (sc := sc_impl_Matrix_at) (ms := ms_impl_Matrix_at) (args := ag_impl_Matrix_at) (res := rs_impl_Matrix_at) (SOk.nil) follows_ok k_impl_Matrix_at F_impl_Matrix_at fun x y h => (n_impl_Matrix_at FUEL x).trans (f_impl_Matrix_at x y h)

def fn_impl_Matrix_set : SFn := ⟨101, ag_impl_Matrix_set, mu_impl_Matrix_set, rs_impl_Matrix_set, F_impl_Matrix_set⟩
def sc_impl_Matrix_set : SCode :=
 (.seq
 (.reg false [
 oX 4 (.box 3 0)])
 (.reg false [
 oX 8 (.fieldA 2 4),
 oX 9 (.load false 1 8),
 oX 10 (.mv 1),
 oX 11 (.fieldA 1 4),
 oX 12 (.load false 1 11),
 oX 13 (.bin .mul 10 12),
 oX 14 (.mv 2),
 oX 15 (.bin .add 13 14),
 oX 16 (.mv 3),
 oX 17 (.idxA 1 9 15),
 uX (.store 1 17 16)]))
def ms_impl_Matrix_set : List MRes := []
theorem n_impl_Matrix_set (NN : Nat) (x : DLL (Sig.tys ag_impl_Matrix_set)) : runMS NN [] sc_impl_Matrix_set ms_impl_Matrix_set ag_impl_Matrix_set mu_impl_Matrix_set rs_impl_Matrix_set x = G_impl_Matrix_set NN x := by kernel_rfl
theorem k_impl_Matrix_set : chkS pX 101 sc_impl_Matrix_set.er ms_impl_Matrix_set 4 = true := by decide +kernel
theorem p_impl_Matrix_set : MutSpec pX 101 mu_impl_Matrix_set fn_impl_Matrix_set.MM ∧ chkFun pX 101 = true :=
  mut_of_runMS (T := []) (sc := sc_impl_Matrix_set) (ms := ms_impl_Matrix_set) (args := ag_impl_Matrix_set) (mu := mu_impl_Matrix_set) (res := rs_impl_Matrix_set) (SOk.nil) follows_ok k_impl_Matrix_set F_impl_Matrix_set fun x y h => (n_impl_Matrix_set FUEL x).trans (f_impl_Matrix_set x y h)

def fn_impl_rawMulMatrix : SFn := ⟨83, ag_impl_rawMulMatrix, mu_impl_rawMulMatrix, rs_impl_rawMulMatrix, F_impl_rawMulMatrix⟩
def sc_impl_rawMulMatrix : SCode :=
 (.seq
 (.reg false [
 oX 4 (.box 3 1),
 oX 5 (.box 3 2),
 oX 6 (.alloc [zX, zX, .nil iX])])
 (.seq
 (.reg false [
 oX 12 (.fieldA 0 4),
 oX 13 (.load false 1 12),
 oX 14 (.fieldA 1 5),
 oX 15 (.load false 1 14),
 oX 16 (.call .froz 82 [13, 15]),
 oX 7 (.alloc [zX, zX, .nil iX]),
 uX (.store 3 7 16)])
 (.seq
 (.seq
 (.reg false [
 oX 8 (.mv (kX 0))])
 (.join ⟨[(7, .one (rX 7)), (6, .one (rX 6))], [(6, .box [vX, vX, fX 500012 1]), (7, .box [vX, vX, fX 500013 1]), (500012, .row true .froz iX), (500013, .row true .froz iX)]⟩ [4, 5, 6, 7, 500000, 500001, 500012, 500013] [(true, 6, 2, 500012, .froz, []), (true, 7, 2, 500013, .froz, [])]
 (.block 0
 (.loop 0 ⟨[(0, sX), (4, .one (rX 4)), (5, .one (rX 5)), (6, .one (rX 6)), (7, .one (rX 7)), (8, sX)], [(4, .box [vX, vX, .c (.v (lX))]), (5, .box [vX, vX, .c (.v (lX))]), (6, .box [vX, vX, fX 500000 1]), (7, .box [vX, vX, fX 500001 1]), (500000, .row true .froz iX), (500001, .row true .froz iX)]⟩ [4, 5, 6, 17000, 7, 500000, 500001, 500010, 500011] [(true, 6, 2, 500000, .froz, []), (true, 7, 2, 500001, .froz, [])]
 (.seq
 (.seq
 (.reg false [
 oX 17 (.mv 8),
 oX 18 (.fieldA 0 4),
 oX 19 (.load false 1 18),
 oX 20 (.bin .lss 17 19)])
 (.cond 20
 .skip
 (.exit 0)))
 (.seq
 (.join ⟨[(8, sX), (0, sX), (4, .one (rX 4)), (5, .one (rX 5)), (6, .one (rX 6)), (7, .one (rX 7))], [(4, .box [vX, vX, .c (.v (lX))]), (5, .box [vX, vX, .c (.v (lX))]), (6, .box [vX, vX, fX 500010 1]), (7, .box [vX, vX, fX 500011 1]), (500010, .row true .froz iX), (500011, .row true .froz iX)]⟩ [4, 5, 6, 7, 500002, 500003, 500010, 500011] [(true, 6, 2, 500010, .froz, []), (true, 7, 2, 500011, .froz, [])]
 (.block 1
 (.seq
 (.reg false [
 oX 9 (.mv (kX 0))])
 (.block 2
 (.loop 0 ⟨[(0, sX), (4, .one (rX 4)), (5, .one (rX 5)), (6, .one (rX 6)), (7, .one (rX 7)), (8, sX), (9, sX)], [(4, .box [vX, vX, .c (.v (lX))]), (5, .box [vX, vX, .c (.v (lX))]), (6, .box [vX, vX, fX 500002 1]), (7, .box [vX, vX, fX 500003 1]), (500002, .row true .froz iX), (500003, .row true .froz iX)]⟩ [4, 5, 6, 7, 500000, 500001, 500002, 500003, 500008, 500009] [(true, 6, 2, 500002, .froz, []), (true, 7, 2, 500003, .froz, [])]
 (.seq
 (.seq
 (.reg false [
 oX 23 (.mv 9),
 oX 24 (.fieldA 1 5),
 oX 25 (.load false 1 24),
 oX 26 (.bin .lss 23 25)])
 (.cond 26
 .skip
 (.exit 2)))
 (.seq
 (.join ⟨[(9, sX), (0, sX), (4, .one (rX 4)), (5, .one (rX 5)), (6, .one (rX 6)), (7, .one (rX 7)), (8, sX)], [(4, .box [vX, vX, .c (.v (lX))]), (5, .box [vX, vX, .c (.v (lX))]), (6, .box [vX, vX, fX 500008 1]), (7, .box [vX, vX, fX 500009 1]), (500008, .row true .froz iX), (500009, .row true .froz iX)]⟩ [4, 5, 6, 7, 500006, 500007, 500008, 500009] [(true, 6, 2, 500008, .froz, []), (true, 7, 2, 500009, .froz, [])]
 (.block 3
 (.seq
 (.reg false [
 oX 10 (.mv (kX 0))])
 (.seq
 (.seq
 (.reg false [
 oX 11 (.mv (kX 0))])
 (.join ⟨[(10, sX), (9, sX), (0, sX), (4, .one (rX 4)), (5, .one (rX 5)), (6, .one (rX 6)), (7, .one (rX 7)), (8, sX)], [(4, .box [vX, vX, .c (.v (lX))]), (5, .box [vX, vX, .c (.v (lX))]), (6, .box [vX, vX, fX 500006 1]), (7, .box [vX, vX, fX 500007 1]), (500006, .row true .froz iX), (500007, .row true .froz iX)]⟩ [4, 5, 6, 7, 500004, 500005, 500006, 500007] [(true, 6, 2, 500006, .froz, []), (true, 7, 2, 500007, .froz, [])]
 (.block 4
 (.loop 0 ⟨[(0, sX), (4, .one (rX 4)), (5, .one (rX 5)), (6, .one (rX 6)), (7, .one (rX 7)), (8, sX), (9, sX), (10, sX), (11, sX)], [(4, .box [vX, vX, .c (.v (lX))]), (5, .box [vX, vX, .c (.v (lX))]), (6, .box [vX, vX, fX 500004 1]), (7, .box [vX, vX, fX 500005 1]), (500004, .row true .froz iX), (500005, .row true .froz iX)]⟩ [4, 5, 6, 7, 500002, 500003, 500004, 500005] [(true, 6, 2, 500004, .froz, []), (true, 7, 2, 500005, .froz, [])]
 (.seq
 (.seq
 (.reg false [
 oX 29 (.mv 11),
 oX 30 (.fieldA 1 4),
 oX 31 (.load false 1 30),
 oX 32 (.bin .lss 29 31)])
 (.cond 32
 .skip
 (.exit 4)))
 (.seq
 (.block 5
 (.reg true [
 oX 35 (.mv 10),
 oX 36 (.load true 3 4),
 oX 37 (.mv 8),
 oX 38 (.mv 11),
 oX 39 (.call .froz 95 [36, 37, 38]),
 oX 40 (.load true 3 5),
 oX 41 (.mv 11),
 oX 42 (.mv 9),
 oX 43 (.call .froz 95 [40, 41, 42]),
 oX 44 (.bin .mul 39 43),
 oX 45 (.bin .add 35 44),
 oX 46 (.mv 0),
 oX 47 (.bin .rem 45 46),
 oX 10 (.mv 47)]))
 (.reg false [
 oX 33 (.mv 11),
 oX 34 (.bin .add 33 (kX 1)),
 oX 11 (.mv 34)])))))))
 (.reg false [
 oX 48 (.load true 3 7),
 oX 49 (.mv 8),
 oX 50 (.mv 9),
 oX 51 (.mv 10),
 oX 52 (.callm .froz 101 [48, 49, 50, 51])])))))
 (.reg false [
 oX 27 (.mv 9),
 oX 28 (.bin .add 27 (kX 1)),
 oX 9 (.mv 28)]))))))))
 (.reg false [
 oX 21 (.mv 8),
 oX 22 (.bin .add 21 (kX 1)),
 oX 8 (.mv 22)])))))))
 (.seq
 (.reg false [
 oX 53 (.load true 3 7),
 uX (.store 3 6 53)])
 .ret))))
def ms_impl_rawMulMatrix : List MRes := [.cell 6 3 true]
theorem n_impl_rawMulMatrix (NN : Nat) (x : DLL (Sig.tys ag_impl_rawMulMatrix)) : runS NN [fn_impl_emptyMatrix, fn_impl_Matrix_at, fn_impl_Matrix_set] sc_impl_rawMulMatrix ms_impl_rawMulMatrix ag_impl_rawMulMatrix rs_impl_rawMulMatrix x = G_impl_rawMulMatrix NN x := by kernel_rfl
theorem k_impl_rawMulMatrix : chkS pX 83 sc_impl_rawMulMatrix.er ms_impl_rawMulMatrix 3 = true := by decide +kernel
theorem p_impl_rawMulMatrix : PureSpec pX 83 fn_impl_rawMulMatrix.M ∧ chkFun pX 83 = true :=
  pure_of_runS (T := [fn_impl_emptyMatrix, fn_impl_Matrix_at, fn_impl_Matrix_set]) (sc := sc_impl_rawMulMatrix) (ms := ms_impl_rawMulMatrix) (args := ag_impl_rawMulMatrix) (res := rs_impl_rawMulMatrix) (SOk.cons p_impl_emptyMatrix <| SOk.cons p_impl_Matrix_at <| SOk.consM p_impl_Matrix_set <| SOk.nil) follows_ok k_impl_rawMulMatrix F_impl_rawMulMatrix fun x y h => (n_impl_rawMulMatrix FUEL x).trans (f_impl_rawMulMatrix x y h)

def fn_impl_copyInts : SFn := ⟨124, ag_impl_copyInts, mu_impl_copyInts, rs_impl_copyInts, F_impl_copyInts⟩
def sc_impl_copyInts : SCode :=
 (.seq
 (.reg false [
 oX 2 (.mv (.k (.one (.nil iX))))])
 (.seq
 (.reg false [
 oX 3 (.mv 0),
 oX 4 (.append true iX 8 (.k (.one (.nil iX))) 3),
 oX 2 (.mv 4)])
 .ret))
def ms_impl_copyInts : List MRes := [.tmp 2]
theorem n_impl_copyInts (NN : Nat) (x : DLL (Sig.tys ag_impl_copyInts)) : runS NN [] sc_impl_copyInts ms_impl_copyInts ag_impl_copyInts rs_impl_copyInts x = G_impl_copyInts NN x := by kernel_rfl
theorem k_impl_copyInts : chkS pX 124 sc_impl_copyInts.er ms_impl_copyInts 1 = true := by decide +kernel
theorem p_impl_copyInts : PureSpec pX 124 fn_impl_copyInts.M ∧ chkFun pX 124 = true :=
  pure_of_runS (T := []) (sc := sc_impl_copyInts) (ms := ms_impl_copyInts) (args := ag_impl_copyInts) (res := rs_impl_copyInts) (SOk.nil) follows_ok k_impl_copyInts F_impl_copyInts fun x y h => (n_impl_copyInts FUEL x).trans (f_impl_copyInts x y h)

def fn_impl_copyMatrix : SFn := ⟨158, ag_impl_copyMatrix, mu_impl_copyMatrix, rs_impl_copyMatrix, F_impl_copyMatrix⟩
def sc_impl_copyMatrix : SCode :=
 (.seq
 (.reg false [
 oX 1 (.box 3 0),
 oX 2 (.alloc [zX, zX, .nil iX])])
 (.seq
 (.reg true [
 oX 3 (.fieldA 0 1),
 oX 4 (.load false 1 3),
 oX 5 (.fieldA 1 1),
 oX 6 (.load false 1 5),
 oX 7 (.fieldA 2 1),
 oX 8 (.load false 1 7),
 oX 9 (.call .froz 124 [8]),
 oX 10 (.build [zX, zX, .nil iX] [(0, 1, 4), (1, 1, 6), (2, 1, 9)]),
 uX (.store 3 2 10)])
 .ret))
def ms_impl_copyMatrix : List MRes := [.cell 2 3 true]
theorem n_impl_copyMatrix (NN : Nat) (x : DLL (Sig.tys ag_impl_copyMatrix)) : runS NN [fn_impl_copyInts] sc_impl_copyMatrix ms_impl_copyMatrix ag_impl_copyMatrix rs_impl_copyMatrix x = G_impl_copyMatrix NN x := by kernel_rfl
theorem k_impl_copyMatrix : chkS pX 158 sc_impl_copyMatrix.er ms_impl_copyMatrix 1 = true := by decide +kernel
theorem p_impl_copyMatrix : PureSpec pX 158 fn_impl_copyMatrix.M ∧ chkFun pX 158 = true :=
  pure_of_runS (T := [fn_impl_copyInts]) (sc := sc_impl_copyMatrix) (ms := ms_impl_copyMatrix) (args := ag_impl_copyMatrix) (res := rs_impl_copyMatrix) (SOk.cons p_impl_copyInts <| SOk.nil) follows_ok k_impl_copyMatrix F_impl_copyMatrix fun x y h => (n_impl_copyMatrix FUEL x).trans (f_impl_copyMatrix x y h)

def fn_impl_Matrix_swapRows : SFn := ⟨159, ag_impl_Matrix_swapRows, mu_impl_Matrix_swapRows, rs_impl_Matrix_swapRows, F_impl_Matrix_swapRows⟩
def sc_impl_Matrix_swapRows : SCode :=
 (.seq
 (.reg false [
 oX 3 (.box 3 0)])
 (.seq
 (.reg false [
 oX 6 (.mv (kX 0))])
 (.block 0
 (.loop 0 ⟨[(1, sX), (2, sX), (3, .one (rX 3)), (6, sX)], [(1000000, .row false .froz iX), (3, .box [vX, vX, fX 1000000 1])]⟩ [1000000, 3, 500000] [(true, 3, 2, 500000, .froz, [])]
 (.seq
 (.seq
 (.reg false [
 oX 9 (.mv 6),
 oX 10 (.fieldA 1 3),
 oX 11 (.load false 1 10),
 oX 12 (.bin .lss 9 11)])
 (.cond 12
 .skip
 (.exit 0)))
 (.seq
 (.block 1
 (.seq
 (.reg true [
 oX 15 (.load true 3 3),
 oX 16 (.mv 1),
 oX 17 (.mv 6),
 oX 18 (.call .froz 95 [15, 16, 17]),
 oX 19 (.load true 3 3),
 oX 20 (.mv 2),
 oX 21 (.mv 6),
 oX 22 (.call .froz 95 [19, 20, 21]),
 oX 7 (.mv 18),
 oX 8 (.mv 22)])
 (.seq
 (.reg false [
 oX 23 (.load true 3 3),
 oX 24 (.mv 1),
 oX 25 (.mv 6),
 oX 26 (.mv 8),
 oX 27 (.callm .froz 101 [23, 24, 25, 26])])
 (.reg false [
 oX 28 (.load true 3 3),
 oX 29 (.mv 2),
 oX 30 (.mv 6),
 oX 31 (.mv 7),
 oX 32 (.callm .froz 101 [28, 29, 30, 31])]))))
 (.reg false [
 oX 13 (.mv 6),
 oX 14 (.bin .add 13 (kX 1)),
 oX 6 (.mv 14)])))))))
def ms_impl_Matrix_swapRows : List MRes := []
theorem n_impl_Matrix_swapRows (NN : Nat) (x : DLL (Sig.tys ag_impl_Matrix_swapRows)) : runMS NN [fn_impl_Matrix_at, fn_impl_Matrix_set] sc_impl_Matrix_swapRows ms_impl_Matrix_swapRows ag_impl_Matrix_swapRows mu_impl_Matrix_swapRows rs_impl_Matrix_swapRows x = G_impl_Matrix_swapRows NN x := by kernel_rfl
theorem k_impl_Matrix_swapRows : chkS pX 159 sc_impl_Matrix_swapRows.er ms_impl_Matrix_swapRows 3 = true := by decide +kernel
theorem p_impl_Matrix_swapRows : MutSpec pX 159 mu_impl_Matrix_swapRows fn_impl_Matrix_swapRows.MM ∧ chkFun pX 159 = true :=
  mut_of_runMS (T := [fn_impl_Matrix_at, fn_impl_Matrix_set]) (sc := sc_impl_Matrix_swapRows) (ms := ms_impl_Matrix_swapRows) (args := ag_impl_Matrix_swapRows) (mu := mu_impl_Matrix_swapRows) (res := rs_impl_Matrix_swapRows) (SOk.cons p_impl_Matrix_at <| SOk.consM p_impl_Matrix_set <| SOk.nil) follows_ok k_impl_Matrix_swapRows F_impl_Matrix_swapRows fun x y h => (n_impl_Matrix_swapRows FUEL x).trans (f_impl_Matrix_swapRows x y h)

def fn_impl_rawInverse : SFn := ⟨160, ag_impl_rawInverse, mu_impl_rawInverse, rs_impl_rawInverse, F_impl_rawInverse⟩
def sc_impl_rawInverse : SCode :=
 (.seq
 (.reg false [
 oX 4 (.mv (kX 0))])
 (.seq
 (.reg false [
 oX 5 (.mv (kX 1))])
 (.seq
 (.seq
 (.reg false [
 oX 7 (.mv 0),
 oX 8 (.bin .sub 7 (kX 2)),
 oX 6 (.mv 8)])
 (.join ⟨[(5, sX)], []⟩ [] []
 (.block 0
 (.loop 0 ⟨[(0, sX), (1, sX), (5, sX), (6, sX)], []⟩ [] []
 (.seq
 (.seq
 (.reg false [
 oX 9 (.mv 6),
 oX 10 (.bin .gtr 9 (kX 0))])
 (.cond 10
 .skip
 (.exit 0)))
 (.seq
 (.block 1
 (.seq
 (.seq
 (.reg false [
 oX 13 (.mv 6),
 oX 14 (.bin .and 13 (kX 1)),
 oX 15 (.bin .eql 14 (kX 1))])
 (.join ⟨[(1, sX), (6, sX), (0, sX), (5, sX)], []⟩ [] []
 (.cond 15
 (.reg false [
 oX 16 (.mv 5),
 oX 17 (.mv 1),
 oX 18 (.bin .mul 16 17),
 oX 19 (.mv 0),
 oX 20 (.bin .rem 18 19),
 oX 5 (.mv 20)])
 .skip)))
 (.reg false [
 oX 21 (.mv 1),
 oX 22 (.mv 1),
 oX 23 (.bin .mul 21 22),
 oX 24 (.mv 0),
 oX 25 (.bin .rem 23 24),
 oX 1 (.mv 25)])))
 (.reg false [
 oX 11 (.mv 6),
 oX 12 (.bin .shr 11 (.k (.one (.v (.int .u64) ((1 : Int)))))),
 oX 6 (.mv 12)])))))))
 (.seq
 (.reg false [
 oX 26 (.mv 5),
 oX 4 (.mv 26)])
 .ret))))
def ms_impl_rawInverse : List MRes := [.tmp 4]
theorem n_impl_rawInverse (NN : Nat) (x : DLL (Sig.tys ag_impl_rawInverse)) : runS NN [] sc_impl_rawInverse ms_impl_rawInverse ag_impl_rawInverse rs_impl_rawInverse x = G_impl_rawInverse NN x := by kernel_rfl
theorem k_impl_rawInverse : chkS pX 160 sc_impl_rawInverse.er ms_impl_rawInverse 2 = true := by decide +kernel
theorem p_impl_rawInverse : PureSpec pX 160 fn_impl_rawInverse.M ∧ chkFun pX 160 = true :=
  pure_of_runS (T := []) (sc := sc_impl_rawInverse) (ms := ms_impl_rawInverse) (args := ag_impl_rawInverse) (res := rs_impl_rawInverse) (SOk.nil) follows_ok k_impl_rawInverse F_impl_rawInverse fun x y h => (n_impl_rawInverse FUEL x).trans (f_impl_rawInverse x y h)

def fn_impl_Matrix_addRow : SFn := ⟨161, ag_impl_Matrix_addRow, mu_impl_Matrix_addRow, rs_impl_Matrix_addRow, F_impl_Matrix_addRow⟩
def sc_impl_Matrix_addRow : SCode :=
 (.seq
 (.reg false [
 oX 5 (.box 3 0)])
 (.seq
 (.reg false [
 oX 10 (.mv (kX 0))])
 (.block 0
 (.loop 0 ⟨[(1, sX), (2, sX), (3, sX), (4, sX), (5, .one (rX 5)), (10, sX)], [(1000000, .row false .froz iX), (5, .box [vX, vX, fX 1000000 1])]⟩ [1000000, 5, 500000] [(true, 5, 2, 500000, .froz, [])]
 (.seq
 (.seq
 (.reg false [
 oX 11 (.mv 10),
 oX 12 (.fieldA 1 5),
 oX 13 (.load false 1 12),
 oX 14 (.bin .lss 11 13)])
 (.cond 14
 .skip
 (.exit 0)))
 (.seq
 (.block 1
 (.reg true [
 oX 17 (.load true 3 5),
 oX 18 (.mv 2),
 oX 19 (.mv 10),
 oX 20 (.load true 3 5),
 oX 21 (.mv 2),
 oX 22 (.mv 10),
 oX 23 (.call .froz 95 [20, 21, 22]),
 oX 24 (.mv 4),
 oX 25 (.load true 3 5),
 oX 26 (.mv 3),
 oX 27 (.mv 10),
 oX 28 (.call .froz 95 [25, 26, 27]),
 oX 29 (.bin .mul 24 28),
 oX 30 (.bin .add 23 29),
 oX 31 (.mv 1),
 oX 32 (.bin .rem 30 31),
 oX 33 (.callm .froz 101 [17, 18, 19, 32])]))
 (.reg false [
 oX 15 (.mv 10),
 oX 16 (.bin .add 15 (kX 1)),
 oX 10 (.mv 16)])))))))
def ms_impl_Matrix_addRow : List MRes := []
theorem n_impl_Matrix_addRow (NN : Nat) (x : DLL (Sig.tys ag_impl_Matrix_addRow)) : runMS NN [fn_impl_Matrix_at, fn_impl_Matrix_set] sc_impl_Matrix_addRow ms_impl_Matrix_addRow ag_impl_Matrix_addRow mu_impl_Matrix_addRow rs_impl_Matrix_addRow x = G_impl_Matrix_addRow NN x := by kernel_rfl
theorem k_impl_Matrix_addRow : chkS pX 161 sc_impl_Matrix_addRow.er ms_impl_Matrix_addRow 5 = true := by decide +kernel
theorem p_impl_Matrix_addRow : MutSpec pX 161 mu_impl_Matrix_addRow fn_impl_Matrix_addRow.MM ∧ chkFun pX 161 = true :=
  mut_of_runMS (T := [fn_impl_Matrix_at, fn_impl_Matrix_set]) (sc := sc_impl_Matrix_addRow) (ms := ms_impl_Matrix_addRow) (args := ag_impl_Matrix_addRow) (mu := mu_impl_Matrix_addRow) (res := rs_impl_Matrix_addRow) (SOk.cons p_impl_Matrix_at <| SOk.consM p_impl_Matrix_set <| SOk.nil) follows_ok k_impl_Matrix_addRow F_impl_Matrix_addRow fun x y h => (n_impl_Matrix_addRow FUEL x).trans (f_impl_Matrix_addRow x y h)

def fn_impl_rawReduce : SFn := ⟨134, ag_impl_rawReduce, mu_impl_rawReduce, rs_impl_rawReduce, F_impl_rawReduce⟩
def sc_impl_rawReduce : SCode :=
 (.seq
 (.reg false [
 oX 3 (.box 3 1),
 oX 4 (.alloc [zX, zX, .nil iX]),
 oX 5 (.mv (.k (.one (.nil iX))))])
 (.seq
 (.reg false [
 oX 14 (.load true 3 3),
 oX 15 (.call .froz 158 [14]),
 oX 6 (.alloc [zX, zX, .nil iX]),
 uX (.store 3 6 15)])
 (.seq
 (.reg false [
 oX 7 (.mv (.k (.one (.nil iX))))])
 (.seq
 (.seq
 (.reg false [
 oX 8 (.mv (kX 0))])
 (.join ⟨[(6, .one (rX 6)), (7, .one (fX 500026 1)), (4, .one (rX 4))], [(4, .box [vX, vX, fX 500024 1]), (6, .box [vX, vX, fX 500025 1]), (500024, .row true .froz iX), (500025, .row true .froz iX), (500026, .row true .froz iX)]⟩ [4, 6, 500000, 500001, 500002, 500024, 500025, 500026] [(true, 4, 2, 500024, .froz, []), (true, 6, 2, 500025, .froz, []), (false, 7, 0, 500026, .froz, [])]
 (.block 0
 (.loop 0 ⟨[(0, sX), (4, .one (rX 4)), (6, .one (rX 6)), (7, .one (fX 500002 1)), (8, sX)], [(4, .box [vX, vX, fX 500000 1]), (6, .box [vX, vX, fX 500001 1]), (500000, .row true .froz iX), (500001, .row true .froz iX), (500002, .row true .froz iX)]⟩ [3, 4, 16000, 6, 500000, 500001, 500002, 500021, 500022, 500023] [(true, 4, 2, 500000, .froz, []), (true, 6, 2, 500001, .froz, []), (false, 7, 0, 500002, .froz, [])]
 (.seq
 (.seq
 (.reg false [
 oX 16 (.mv 8),
 oX 17 (.fieldA 1 6),
 oX 18 (.load false 1 17),
 oX 19 (.bin .lss 16 18)])
 (.cond 19
 .skip
 (.exit 0)))
 (.seq
 (.join ⟨[(8, sX), (0, sX), (4, .one (rX 4)), (6, .one (rX 6)), (7, .one (fX 500023 1))], [(4, .box [vX, vX, fX 500021 1]), (6, .box [vX, vX, fX 500022 1]), (500021, .row true .froz iX), (500022, .row true .froz iX), (500023, .row true .froz iX)]⟩ [4, 6, 99, 100, 500006, 500007, 500008, 500018, 500019, 500021, 500022, 500023] [(true, 4, 2, 500021, .froz, []), (true, 6, 2, 500022, .froz, []), (false, 7, 0, 500023, .froz, [])]
 (.block 1
 (.seq
 (.reg false [
 oX 22 (.mv 7),
 oX 23 (.len 22),
 oX 9 (.mv 23)])
 (.seq
 (.reg false [
 oX 24 (.mv 9),
 oX 10 (.mv 24)])
 (.seq
 (.join ⟨[(10, sX), (9, sX), (7, .one (fX 500008 1)), (8, sX), (0, sX), (4, .one (rX 4)), (6, .one (rX 6))], [(4, .box [vX, vX, fX 500006 1]), (6, .box [vX, vX, fX 500007 1]), (500006, .row true .froz iX), (500007, .row true .froz iX), (500008, .row true .froz iX)]⟩ [4, 6, 500003, 500004, 500005, 500006, 500007, 500008] [(true, 4, 2, 500006, .froz, []), (true, 6, 2, 500007, .froz, []), (false, 7, 0, 500008, .froz, [])]
 (.block 2
 (.loop 0 ⟨[(0, sX), (4, .one (rX 4)), (6, .one (rX 6)), (7, .one (fX 500005 1)), (8, sX), (9, sX), (10, sX)], [(4, .box [vX, vX, fX 500003 1]), (6, .box [vX, vX, fX 500004 1]), (500003, .row true .froz iX), (500004, .row true .froz iX), (500005, .row true .froz iX)]⟩ [4, 6, 500000, 500001, 500002, 500003, 500004, 500005] [(true, 4, 2, 500003, .froz, []), (true, 6, 2, 500004, .froz, []), (false, 7, 0, 500005, .froz, [])]
 (.seq
 (.seq
 (.reg false [
 oX 25 (.mv 10),
 oX 26 (.fieldA 0 6),
 oX 27 (.load false 1 26),
 oX 28 (.bin .lss 25 27),
 oX 29 (.mv 28),
 ⟨(some 30), .load true 3 6, (some (29, true))⟩,
 ⟨(some 31), .mv 10, (some (29, true))⟩,
 ⟨(some 32), .mv 8, (some (29, true))⟩,
 ⟨(some 33), .call .froz 95 [30, 31, 32], (some (29, true))⟩,
 ⟨(some 34), .bin .eql 33 (kX 0), (some (29, true))⟩,
 oX 35 (.pick 29 34 (.k (.one (.v (.bool) (false)))))])
 (.cond 35
 .skip
 (.exit 2)))
 (.block 3
 (.reg false [
 oX 36 (.mv 10),
 oX 37 (.bin .add 36 (kX 1)),
 oX 10 (.mv 37)]))))))
 (.seq
 (.seq
 (.reg false [
 oX 38 (.mv 10),
 oX 39 (.fieldA 0 6),
 oX 40 (.load false 1 39),
 oX 41 (.bin .eql 38 40)])
 (.cond 41
 (.exit 1)
 .skip))
 (.seq
 (.reg false [
 oX 42 (.load true 3 6),
 oX 43 (.mv 9),
 oX 44 (.mv 10),
 oX 45 (.callm .froz 159 [42, 43, 44])])
 (.seq
 (.reg false [
 oX 46 (.mv 0),
 oX 47 (.load true 3 6),
 oX 48 (.mv 9),
 oX 49 (.mv 8),
 oX 50 (.call .froz 95 [47, 48, 49]),
 oX 51 (.call .froz 160 [46, 50]),
 oX 11 (.mv 51)])
 (.seq
 (.seq
 (.reg false [
 oX 12 (.mv (kX 0))])
 (.join ⟨[(6, .one (rX 6)), (4, .one (rX 4)), (0, sX), (8, sX), (7, .one (fX 500014 1)), (9, sX)], [(4, .box [vX, vX, fX 500012 1]), (6, .box [vX, vX, fX 500013 1]), (500012, .row true .froz iX), (500013, .row true .froz iX), (500014, .row true .froz iX)]⟩ [4, 6, 500009, 500010, 500011, 500012, 500013, 500014] [(true, 4, 2, 500012, .froz, []), (true, 6, 2, 500013, .froz, []), (false, 7, 0, 500014, .froz, [])]
 (.block 4
 (.loop 0 ⟨[(0, sX), (4, .one (rX 4)), (6, .one (rX 6)), (7, .one (fX 500011 1)), (8, sX), (9, sX), (11, sX), (12, sX)], [(4, .box [vX, vX, fX 500009 1]), (6, .box [vX, vX, fX 500010 1]), (500009, .row true .froz iX), (500010, .row true .froz iX), (500011, .row true .froz iX)]⟩ [4, 6, 500006, 500007, 500008, 500009, 500010, 500011] [(true, 4, 2, 500009, .froz, []), (true, 6, 2, 500010, .froz, []), (false, 7, 0, 500011, .froz, [])]
 (.seq
 (.seq
 (.reg false [
 oX 52 (.mv 12),
 oX 53 (.fieldA 1 6),
 oX 54 (.load false 1 53),
 oX 55 (.bin .lss 52 54)])
 (.cond 55
 .skip
 (.exit 4)))
 (.seq
 (.block 5
 (.reg true [
 oX 58 (.load true 3 6),
 oX 59 (.mv 9),
 oX 60 (.mv 12),
 oX 61 (.load true 3 6),
 oX 62 (.mv 9),
 oX 63 (.mv 12),
 oX 64 (.call .froz 95 [61, 62, 63]),
 oX 65 (.mv 11),
 oX 66 (.bin .mul 64 65),
 oX 67 (.mv 0),
 oX 68 (.bin .rem 66 67),
 oX 69 (.callm .froz 101 [58, 59, 60, 68])]))
 (.reg false [
 oX 56 (.mv 12),
 oX 57 (.bin .add 56 (kX 1)),
 oX 12 (.mv 57)])))))))
 (.seq
 (.seq
 (.reg false [
 oX 13 (.mv (kX 0))])
 (.join ⟨[(7, .one (fX 500020 1)), (8, sX), (0, sX), (4, .one (rX 4)), (6, .one (rX 6))], [(4, .box [vX, vX, fX 500018 1]), (6, .box [vX, vX, fX 500019 1]), (500018, .row true .froz iX), (500019, .row true .froz iX), (500020, .row true .froz iX)]⟩ [4, 6, 500015, 500016, 500017, 500018, 500019, 500020] [(true, 4, 2, 500018, .froz, []), (true, 6, 2, 500019, .froz, []), (false, 7, 0, 500020, .froz, [])]
 (.block 6
 (.loop 0 ⟨[(0, sX), (4, .one (rX 4)), (6, .one (rX 6)), (7, .one (fX 500017 1)), (8, sX), (9, sX), (13, sX)], [(4, .box [vX, vX, fX 500015 1]), (6, .box [vX, vX, fX 500016 1]), (500015, .row true .froz iX), (500016, .row true .froz iX), (500017, .row true .froz iX)]⟩ [4, 6, 500012, 500013, 500014, 500015, 500016, 500017] [(true, 4, 2, 500015, .froz, []), (true, 6, 2, 500016, .froz, []), (false, 7, 0, 500017, .froz, [])]
 (.seq
 (.seq
 (.reg false [
 oX 70 (.mv 13),
 oX 71 (.fieldA 0 6),
 oX 72 (.load false 1 71),
 oX 73 (.bin .lss 70 72)])
 (.cond 73
 .skip
 (.exit 6)))
 (.seq
 (.block 7
 (.seq
 (.reg false [
 oX 76 (.mv 13),
 oX 77 (.mv 9),
 oX 78 (.bin .neq 76 77),
 oX 79 (.mv 78),
 ⟨(some 80), .load true 3 6, (some (79, true))⟩,
 ⟨(some 81), .mv 13, (some (79, true))⟩,
 ⟨(some 82), .mv 8, (some (79, true))⟩,
 ⟨(some 83), .call .froz 95 [80, 81, 82], (some (79, true))⟩,
 ⟨(some 84), .bin .neq 83 (kX 0), (some (79, true))⟩,
 oX 85 (.pick 79 84 (.k (.one (.v (.bool) (false)))))])
 (.cond 85
 (.reg true [
 oX 86 (.load true 3 6),
 oX 87 (.mv 0),
 oX 88 (.mv 13),
 oX 89 (.mv 9),
 oX 90 (.mv 0),
 oX 91 (.load true 3 6),
 oX 92 (.mv 13),
 oX 93 (.mv 8),
 oX 94 (.call .froz 95 [91, 92, 93]),
 oX 95 (.bin .sub 90 94),
 oX 96 (.callm .froz 161 [86, 87, 88, 89, 95])])
 .skip)))
 (.reg false [
 oX 74 (.mv 13),
 oX 75 (.bin .add 74 (kX 1)),
 oX 13 (.mv 75)])))))))
 (.reg false [
 oX 97 (.mv 7),
 oX 98 (.mv 8),
 oX 99 (.bslice iX [98]),
 oX 100 (.append true iX 8 97 99),
 oX 7 (.mv 100)])))))))))))
 (.reg false [
 oX 20 (.mv 8),
 oX 21 (.bin .add 20 (kX 1)),
 oX 8 (.mv 21)])))))))
 (.seq
 (.reg false [
 oX 101 (.load true 3 6),
 oX 102 (.mv 7),
 uX (.store 3 4 101),
 oX 5 (.mv 102)])
 .ret)))))
def ms_impl_rawReduce : List MRes := [.cell 4 3 true, .tmp 5]
theorem n_impl_rawReduce (NN : Nat) (x : DLL (Sig.tys ag_impl_rawReduce)) : runS NN [fn_impl_copyMatrix, fn_impl_Matrix_at, fn_impl_Matrix_swapRows, fn_impl_rawInverse, fn_impl_Matrix_set, fn_impl_Matrix_addRow] sc_impl_rawReduce ms_impl_rawReduce ag_impl_rawReduce rs_impl_rawReduce x = G_impl_rawReduce NN x := by kernel_rfl
theorem k_impl_rawReduce : chkS pX 134 sc_impl_rawReduce.er ms_impl_rawReduce 2 = true := by decide +kernel
theorem p_impl_rawReduce : PureSpec pX 134 fn_impl_rawReduce.M ∧ chkFun pX 134 = true :=
  pure_of_runS (T := [fn_impl_copyMatrix, fn_impl_Matrix_at, fn_impl_Matrix_swapRows, fn_impl_rawInverse, fn_impl_Matrix_set, fn_impl_Matrix_addRow]) (sc := sc_impl_rawReduce) (ms := ms_impl_rawReduce) (args := ag_impl_rawReduce) (res := rs_impl_rawReduce) (SOk.cons p_impl_copyMatrix <| SOk.cons p_impl_Matrix_at <| SOk.consM p_impl_Matrix_swapRows <| SOk.cons p_impl_rawInverse <| SOk.consM p_impl_Matrix_set <| SOk.consM p_impl_Matrix_addRow <| SOk.nil) follows_ok k_impl_rawReduce F_impl_rawReduce fun x y h => (n_impl_rawReduce FUEL x).trans (f_impl_rawReduce x y h)

def fn_impl_FactorMatrix : SFn := ⟨98, ag_impl_FactorMatrix, mu_impl_FactorMatrix, rs_impl_FactorMatrix, F_impl_FactorMatrix⟩
def sc_impl_FactorMatrix : SCode :=
 (.seq
 (.reg false [
 oX 3 (.box 3 1),
 oX 4 (.alloc [zX, zX, .nil iX]),
 oX 5 (.alloc [zX, zX, .nil iX]),
 oX 6 (.mv (.k (.one (.v (.bool) (false)))))])
 (.seq
 (.seq
 (.reg false [
 oX 15 (.mv 0),
 oX 16 (.load true 3 3),
 oX 17 (.call .froz 93 [15, 16]),
 oX 18 (.un .not 17)])
 (.cond 18
 (.seq
 (.reg false [
 oX 19 (.build [zX, zX, .nil iX] []),
 oX 20 (.build [zX, zX, .nil iX] []),
 uX (.store 3 4 19),
 uX (.store 3 5 20),
 oX 6 (.mv (.k (.one (.v (.bool) (false)))))])
 .ret)
 .skip))
 (.seq
 (.reg false [
 oX 22 (.mv 0),
 oX 23 (.load true 3 3),
 oX 24 (.call .froz 134 [22, 23]),
 oX 21 (.mv 24),
 oX 25 (.ext 0 21),
 oX 26 (.ext 1 21),
 oX 7 (.alloc [zX, zX, .nil iX]),
 uX (.store 3 7 25),
 oX 8 (.mv 26)])
 (.seq
 (.reg false [
 oX 27 (.mv 8),
 oX 28 (.len 27),
 oX 9 (.mv 28)])
 (.seq
 (.reg false [
 oX 29 (.fieldA 0 3),
 oX 30 (.load false 1 29),
 oX 31 (.mv 9),
 oX 32 (.call .froz 82 [30, 31]),
 oX 10 (.alloc [zX, zX, .nil iX]),
 uX (.store 3 10 32)])
 (.seq
 (.seq
 (.reg false [
 oX 11 (.mv (kX 0))])
 (.join ⟨[(7, .one (rX 7)), (9, sX), (3, .one (rX 3)), (10, .one (rX 10)), (4, .one (rX 4)), (5, .one (rX 5))], [(3, .box [vX, vX, .c (.v (lX))]), (4, .box [vX, vX, fX 500015 1]), (5, .box [vX, vX, fX 500016 1]), (7, .box [vX, vX, fX 500017 1]), (10, .box [vX, vX, fX 500018 1]), (500015, .row true .froz iX), (500016, .row true .froz iX), (500017, .row true .froz iX), (500018, .row true .froz iX)]⟩ [3, 4, 5, 7, 10, 500000, 500001, 500002, 500003, 500004, 500015, 500016, 500017, 500018] [(true, 4, 2, 500015, .froz, []), (true, 5, 2, 500016, .froz, []), (true, 7, 2, 500017, .froz, []), (true, 10, 2, 500018, .froz, [])]
 (.block 0
 (.loop 0 ⟨[(3, .one (rX 3)), (4, .one (rX 4)), (5, .one (rX 5)), (7, .one (rX 7)), (8, .one (fX 500004 1)), (9, sX), (10, .one (rX 10)), (11, sX)], [(3, .box [vX, vX, .c (.v (lX))]), (4, .box [vX, vX, fX 500000 1]), (5, .box [vX, vX, fX 500001 1]), (7, .box [vX, vX, fX 500002 1]), (10, .box [vX, vX, fX 500003 1]), (500000, .row true .froz iX), (500001, .row true .froz iX), (500002, .row true .froz iX), (500003, .row true .froz iX), (500004, .row true .froz iX)]⟩ [3, 4, 5, 25000, 25001, 7, 33000, 10, 500000, 500001, 500002, 500003, 500004, 500010, 500011, 500012, 500013, 500014] [(true, 4, 2, 500000, .froz, []), (true, 5, 2, 500001, .froz, []), (true, 7, 2, 500002, .froz, []), (true, 10, 2, 500003, .froz, []), (false, 8, 0, 500004, .froz, [])]
 (.seq
 (.seq
 (.reg false [
 oX 33 (.mv 11),
 oX 34 (.fieldA 0 3),
 oX 35 (.load false 1 34),
 oX 36 (.bin .lss 33 35)])
 (.cond 36
 .skip
 (.exit 0)))
 (.seq
 (.join ⟨[(11, sX), (3, .one (rX 3)), (4, .one (rX 4)), (5, .one (rX 5)), (7, .one (rX 7)), (8, .one (fX 500014 1)), (9, sX), (10, .one (rX 10))], [(3, .box [vX, vX, .c (.v (lX))]), (4, .box [vX, vX, fX 500010 1]), (5, .box [vX, vX, fX 500011 1]), (7, .box [vX, vX, fX 500012 1]), (10, .box [vX, vX, fX 500013 1]), (500010, .row true .froz iX), (500011, .row true .froz iX), (500012, .row true .froz iX), (500013, .row true .froz iX), (500014, .row true .froz iX)]⟩ [3, 4, 5, 7, 10, 500005, 500006, 500007, 500008, 500009, 500010, 500011, 500012, 500013, 500014] [(true, 4, 2, 500010, .froz, []), (true, 5, 2, 500011, .froz, []), (true, 7, 2, 500012, .froz, []), (true, 10, 2, 500013, .froz, []), (false, 8, 0, 500014, .froz, [])]
 (.block 1
 (.seq
 (.reg false [
 oX 39 (.mv 8),
 oX 40 (.len 39),
 oX 41 (.mv (kX 0))])
 (.block 2
 (.loop 0 ⟨[(3, .one (rX 3)), (4, .one (rX 4)), (5, .one (rX 5)), (7, .one (rX 7)), (8, .one (fX 500009 1)), (9, sX), (10, .one (rX 10)), (11, sX), (39, .one (fX 500009 1)), (40, sX), (41, sX)], [(3, .box [vX, vX, .c (.v (lX))]), (4, .box [vX, vX, fX 500005 1]), (5, .box [vX, vX, fX 500006 1]), (7, .box [vX, vX, fX 500007 1]), (10, .box [vX, vX, fX 500008 1]), (500005, .row true .froz iX), (500006, .row true .froz iX), (500007, .row true .froz iX), (500008, .row true .froz iX), (500009, .row true .froz iX)]⟩ [3, 4, 5, 7, 10, 500000, 500001, 500002, 500003, 500004, 500005, 500006, 500007, 500008, 500009] [(true, 4, 2, 500005, .froz, []), (true, 5, 2, 500006, .froz, []), (true, 7, 2, 500007, .froz, []), (true, 10, 2, 500008, .froz, []), (false, 8, 0, 500009, .froz, [])]
 (.seq
 (.reg false [
 oX 42 (.bin .lss 41 40)])
 (.seq
 (.cond 42
 .skip
 (.exit 2))
 (.seq
 (.block 3
 (.seq
 (.reg false [
 oX 43 (.mv 41),
 oX 44 (.idxA 1 39 41),
 oX 45 (.load false 1 44),
 oX 12 (.mv 43),
 oX 13 (.mv 45)])
 (.reg true [
 oX 46 (.load true 3 10),
 oX 47 (.mv 11),
 oX 48 (.mv 12),
 oX 49 (.load true 3 3),
 oX 50 (.mv 11),
 oX 51 (.mv 13),
 oX 52 (.call .froz 95 [49, 50, 51]),
 oX 53 (.callm .froz 101 [46, 47, 48, 52])])))
 (.reg false [
 oX 54 (.bin .add 41 (kX 1)),
 oX 41 (.mv 54)])))))))))
 (.reg false [
 oX 37 (.mv 11),
 oX 38 (.bin .add 37 (kX 1)),
 oX 11 (.mv 38)])))))))
 (.seq
 (.reg true [
 oX 55 (.mv 9),
 oX 56 (.fieldA 1 3),
 oX 57 (.load false 1 56),
 oX 58 (.fieldA 2 7),
 oX 59 (.load false 1 58),
 oX 60 (.mv 9),
 oX 61 (.fieldA 1 3),
 oX 62 (.load false 1 61),
 oX 63 (.bin .mul 60 62),
 oX 64 (.slice 1 59 none (some 63)),
 oX 65 (.call .froz 124 [64]),
 oX 66 (.build [zX, zX, .nil iX] [(0, 1, 55), (1, 1, 57), (2, 1, 65)]),
 oX 14 (.alloc [zX, zX, .nil iX]),
 uX (.store 3 14 66)])
 (.seq
 (.regD [(1, 2)] [
 oX 67 (.load true 3 10),
 oX 68 (.load true 3 14),
 uX (.store 3 4 67),
 uX (.store 3 5 68),
 oX 6 (.mv (.k (.one (.v (.bool) (true)))))])
 .ret))))))))
def ms_impl_FactorMatrix : List MRes := [.cell 4 3 true, .cell 5 3 true, .tmp 6]
theorem n_impl_FactorMatrix (NN : Nat) (x : DLL (Sig.tys ag_impl_FactorMatrix)) : runS NN [fn_impl_MatrixOk, fn_impl_rawReduce, fn_impl_emptyMatrix, fn_impl_Matrix_at, fn_impl_Matrix_set, fn_impl_copyInts] sc_impl_FactorMatrix ms_impl_FactorMatrix ag_impl_FactorMatrix rs_impl_FactorMatrix x = G_impl_FactorMatrix NN x := by kernel_rfl
theorem k_impl_FactorMatrix : chkS pX 98 sc_impl_FactorMatrix.er ms_impl_FactorMatrix 2 = true := by decide +kernel
theorem p_impl_FactorMatrix : PureSpec pX 98 fn_impl_FactorMatrix.M ∧ chkFun pX 98 = true :=
  pure_of_runS (T := [fn_impl_MatrixOk, fn_impl_rawReduce, fn_impl_emptyMatrix, fn_impl_Matrix_at, fn_impl_Matrix_set, fn_impl_copyInts]) (sc := sc_impl_FactorMatrix) (ms := ms_impl_FactorMatrix) (args := ag_impl_FactorMatrix) (res := rs_impl_FactorMatrix) (SOk.cons p_impl_MatrixOk <| SOk.cons p_impl_rawReduce <| SOk.cons p_impl_emptyMatrix <| SOk.cons p_impl_Matrix_at <| SOk.consM p_impl_Matrix_set <| SOk.cons p_impl_copyInts <| SOk.nil) follows_ok k_impl_FactorMatrix F_impl_FactorMatrix fun x y h => (n_impl_FactorMatrix FUEL x).trans (f_impl_FactorMatrix x y h)

def fn_impl_copyChain : SFn := ⟨94, ag_impl_copyChain, mu_impl_copyChain, rs_impl_copyChain, F_impl_copyChain⟩
def sc_impl_copyChain : SCode :=
 (.seq
 (.reg false [
 oX 1 (.box 2 0),
 oX 2 (.alloc [zX, .nil gX])])
 (.seq
 (.reg false [
 oX 6 (.fieldA 0 1),
 oX 7 (.load false 1 6),
 oX 8 (.build [zX, .nil gX] [(0, 1, 7)]),
 oX 3 (.alloc [zX, .nil gX]),
 uX (.store 2 3 8)])
 (.seq
 (.seq
 (.reg false [
 oX 9 (.fieldA 1 1),
 oX 10 (.load false 1 9),
 oX 11 (.len 10),
 oX 12 (.mv (kX 0))])
 (.join ⟨[(3, .one (rX 3)), (2, .one (rX 2))], [(2, .box [vX, fX 500002 4]), (3, .box [vX, fX 500003 4]), (500002, .row true .froz gX), (500003, .row true .froz gX)]⟩ [2, 3, 500000, 500001, 500002, 500003] [(true, 2, 1, 500002, .froz, []), (true, 3, 1, 500003, .froz, [])]
 (.block 0
 (.loop 0 ⟨[(2, .one (rX 2)), (3, .one (rX 3)), (10, .one (.c (.v (.list gX)))), (11, sX), (12, sX)], [(2, .box [vX, fX 500000 4]), (3, .box [vX, fX 500001 4]), (500000, .row true .froz gX), (500001, .row true .froz gX)]⟩ [1, 2, 3, 5, 29, 500000, 500001] [(true, 2, 1, 500000, .froz, []), (true, 3, 1, 500001, .froz, [])]
 (.seq
 (.reg false [
 oX 13 (.bin .lss 12 11)])
 (.seq
 (.cond 13
 .skip
 (.exit 0))
 (.seq
 (.block 1
 (.seq
 (.reg false [
 oX 14 (.idxA 4 10 12),
 oX 15 (.load true 4 14),
 oX 5 (.alloc [zX, zX, zX, .nil iX]),
 uX (.store 4 5 15)])
 (.regD [(0, 12), (1, 12)] [
 oX 16 (.fieldA 1 3),
 oX 17 (.load false 1 16),
 oX 18 (.fieldA 0 5),
 oX 19 (.load false 1 18),
 oX 20 (.fieldA 1 5),
 oX 21 (.load false 1 20),
 oX 22 (.fieldA 2 5),
 oX 23 (.load false 1 22),
 oX 24 (.fieldA 3 5),
 oX 25 (.load false 1 24),
 oX 26 (.call .froz 124 [25]),
 oX 27 (.build [zX, zX, zX, .nil iX] [(0, 1, 19), (1, 1, 21), (2, 1, 23), (3, 1, 26)]),
 oX 28 (.bslice gX [27]),
 oX 29 (.append false gX 48 17 28),
 oX 30 (.fieldA 1 3),
 uX (.store 1 30 29)])))
 (.reg false [
 oX 31 (.bin .add 12 (kX 1)),
 oX 12 (.mv 31)]))))))))
 (.seq
 (.reg false [
 oX 32 (.load true 2 3),
 uX (.store 2 2 32)])
 .ret))))
def ms_impl_copyChain : List MRes := [.cell 2 2 true]
theorem n_impl_copyChain (NN : Nat) (x : DLL (Sig.tys ag_impl_copyChain)) : runS NN [fn_impl_copyInts] sc_impl_copyChain ms_impl_copyChain ag_impl_copyChain rs_impl_copyChain x = G_impl_copyChain NN x := by kernel_rfl
theorem k_impl_copyChain : chkS pX 94 sc_impl_copyChain.er ms_impl_copyChain 1 = true := by decide +kernel
theorem p_impl_copyChain : PureSpec pX 94 fn_impl_copyChain.M ∧ chkFun pX 94 = true :=
  pure_of_runS (T := [fn_impl_copyInts]) (sc := sc_impl_copyChain) (ms := ms_impl_copyChain) (args := ag_impl_copyChain) (res := rs_impl_copyChain) (SOk.cons p_impl_copyInts <| SOk.nil) follows_ok k_impl_copyChain F_impl_copyChain fun x y h => (n_impl_copyChain FUEL x).trans (f_impl_copyChain x y h)

def fn_impl_ApplyBond : SFn := ⟨50, ag_impl_ApplyBond, mu_impl_ApplyBond, rs_impl_ApplyBond, F_impl_ApplyBond⟩
def sc_impl_ApplyBond : SCode :=
 (.seq
 (.reg false [
 oX 3 (.box 2 0),
 oX 5 (.box 3 2),
 oX 6 (.alloc [zX, .nil gX]),
 oX 7 (.mv (.k (.one (.v (.bool) (false)))))])
 (.seq
 (.seq
 (.reg false [
 oX 23 (.load true 2 3),
 oX 24 (.call .froz 18 [23]),
 oX 25 (.un .not 24),
 oX 26 (.mv 25),
 ⟨(some 27), .mv 1, (some (26, false))⟩,
 ⟨(some 28), .bin .lss 27 (kX 0), (some (26, false))⟩,
 oX 29 (.pick 26 (.k (.one (.v (.bool) (true)))) 28),
 oX 30 (.mv 29),
 ⟨(some 31), .mv 1, (some (30, false))⟩,
 ⟨(some 32), .fieldA 1 3, (some (30, false))⟩,
 ⟨(some 33), .load false 1 32, (some (30, false))⟩,
 ⟨(some 34), .len 33, (some (30, false))⟩,
 ⟨(some 35), .bin .sub 34 (kX 1), (some (30, false))⟩,
 ⟨(some 36), .bin .geq 31 35, (some (30, false))⟩,
 oX 37 (.pick 30 (.k (.one (.v (.bool) (true)))) 36),
 oX 38 (.mv 37),
 ⟨(some 39), .fieldA 0 3, (some (38, false))⟩,
 ⟨(some 40), .load false 1 39, (some (38, false))⟩,
 ⟨(some 41), .load true 3 5, (some (38, false))⟩,
 ⟨(some 42), .call .froz 93 [40, 41], (some (38, false))⟩,
 ⟨(some 43), .un .not 42, (some (38, false))⟩,
 oX 44 (.pick 38 (.k (.one (.v (.bool) (true)))) 43)])
 (.cond 44
 (.seq
 (.reg false [
 oX 45 (.build [zX, .nil gX] []),
 uX (.store 2 6 45),
 oX 7 (.mv (.k (.one (.v (.bool) (false)))))])
 .ret)
 .skip))
 (.seq
 (.regD [(5, 13), (6, 13), (9, 13), (10, 13)] [
 oX 46 (.fieldA 1 3),
 oX 47 (.load false 1 46),
 oX 48 (.mv 1),
 oX 49 (.idxA 4 47 48),
 oX 50 (.load true 4 49),
 oX 51 (.fieldA 1 3),
 oX 52 (.load false 1 51),
 oX 53 (.mv 1),
 oX 54 (.bin .add 53 (kX 1)),
 oX 55 (.idxA 4 52 54),
 oX 56 (.load true 4 55),
 oX 8 (.alloc [zX, zX, zX, .nil iX]),
 oX 9 (.alloc [zX, zX, zX, .nil iX]),
 uX (.store 4 8 50),
 uX (.store 4 9 56)])
 (.seq
 (.seq
 (.reg false [
 oX 57 (.fieldA 0 5),
 oX 58 (.load false 1 57),
 oX 59 (.fieldA 1 8),
 oX 60 (.load false 1 59),
 oX 61 (.fieldA 1 9),
 oX 62 (.load false 1 61),
 oX 63 (.bin .mul 60 62),
 oX 64 (.bin .neq 58 63),
 oX 65 (.mv 64),
 ⟨(some 66), .fieldA 1 5, (some (65, false))⟩,
 ⟨(some 67), .load false 1 66, (some (65, false))⟩,
 ⟨(some 68), .fieldA 1 8, (some (65, false))⟩,
 ⟨(some 69), .load false 1 68, (some (65, false))⟩,
 ⟨(some 70), .fieldA 1 9, (some (65, false))⟩,
 ⟨(some 71), .load false 1 70, (some (65, false))⟩,
 ⟨(some 72), .bin .mul 69 71, (some (65, false))⟩,
 ⟨(some 73), .bin .neq 67 72, (some (65, false))⟩,
 oX 74 (.pick 65 (.k (.one (.v (.bool) (true)))) 73)])
 (.cond 74
 (.seq
 (.reg false [
 oX 75 (.build [zX, .nil gX] []),
 uX (.store 2 6 75),
 oX 7 (.mv (.k (.one (.v (.bool) (false)))))])
 .ret)
 .skip))
 (.seq
 (.reg true [
 oX 76 (.fieldA 0 8),
 oX 77 (.load false 1 76),
 oX 78 (.fieldA 1 8),
 oX 79 (.load false 1 78),
 oX 80 (.bin .mul 77 79),
 oX 81 (.fieldA 1 9),
 oX 82 (.load false 1 81),
 oX 83 (.fieldA 2 9),
 oX 84 (.load false 1 83),
 oX 85 (.bin .mul 82 84),
 oX 10 (.mv 80),
 oX 11 (.mv 85)])
 (.seq
 (.seq
 (.reg false [
 oX 86 (.mv 10),
 oX 87 (.bin .gtr 86 (kX 64)),
 oX 88 (.mv 87),
 ⟨(some 89), .mv 11, (some (88, false))⟩,
 ⟨(some 90), .bin .gtr 89 (kX 64), (some (88, false))⟩,
 oX 91 (.pick 88 (.k (.one (.v (.bool) (true)))) 90)])
 (.cond 91
 (.seq
 (.reg false [
 oX 92 (.build [zX, .nil gX] []),
 uX (.store 2 6 92),
 oX 7 (.mv (.k (.one (.v (.bool) (false)))))])
 .ret)
 .skip))
 (.seq
 (.reg false [
 oX 93 (.fieldA 0 3),
 oX 94 (.load false 1 93),
 oX 95 (.mv 10),
 oX 96 (.fieldA 2 8),
 oX 97 (.load false 1 96),
 oX 98 (.fieldA 3 8),
 oX 99 (.load false 1 98),
 oX 100 (.build [zX, zX, .nil iX] [(0, 1, 95), (1, 1, 97), (2, 1, 99)]),
 oX 101 (.fieldA 0 9),
 oX 102 (.load false 1 101),
 oX 103 (.mv 11),
 oX 104 (.fieldA 3 9),
 oX 105 (.load false 1 104),
 oX 106 (.build [zX, zX, .nil iX] [(0, 1, 102), (1, 1, 103), (2, 1, 105)]),
 oX 107 (.call .froz 83 [94, 100, 106]),
 oX 12 (.alloc [zX, zX, .nil iX]),
 uX (.store 3 12 107)])
 (.seq
 (.reg false [
 oX 108 (.mv 10),
 oX 109 (.mv 11),
 oX 110 (.call .froz 82 [108, 109]),
 oX 13 (.alloc [zX, zX, .nil iX]),
 uX (.store 3 13 110)])
 (.seq
 (.seq
 (.reg false [
 oX 14 (.mv (kX 0))])
 (.join ⟨[(13, .one (rX 13)), (3, .one (rX 3)), (8, .one (rX 8)), (1, sX), (9, .one (rX 9)), (6, .one (rX 6))], [(3, .box [vX, .c (.v (.list gX))]), (6, .box [vX, fX 500024 4]), (8, .box [vX, vX, vX, .c (.v (lX))]), (9, .box [vX, vX, vX, .c (.v (lX))]), (13, .box [vX, vX, fX 500025 1]), (500024, .row true .froz gX), (500025, .row true .froz iX)]⟩ [3, 5, 6, 8, 9, 12, 13, 500000, 500001, 500002, 500024, 500025] [(true, 6, 1, 500024, .froz, []), (true, 13, 2, 500025, .froz, [])]
 (.block 0
 (.loop 0 ⟨[(1, sX), (3, .one (rX 3)), (5, .one (rX 5)), (6, .one (rX 6)), (8, .one (rX 8)), (9, .one (rX 9)), (12, .one (rX 12)), (13, .one (rX 13)), (14, sX)], [(3, .box [vX, .c (.v (.list gX))]), (5, .box [vX, vX, .c (.v (lX))]), (6, .box [vX, fX 500000 4]), (8, .box [vX, vX, vX, .c (.v (lX))]), (9, .box [vX, vX, vX, .c (.v (lX))]), (12, .box [vX, vX, fX 500001 1]), (13, .box [vX, vX, fX 500002 1]), (500000, .row true .froz gX), (500001, .row true .froz iX), (500002, .row true .froz iX)]⟩ [3, 5, 6, 8, 9, 108000, 12, 111000, 13, 500000, 500001, 500002, 500021, 500022, 500023] [(true, 6, 1, 500000, .froz, []), (true, 12, 2, 500001, .froz, []), (true, 13, 2, 500002, .froz, [])]
 (.seq
 (.seq
 (.reg false [
 oX 111 (.mv 14),
 oX 112 (.fieldA 0 8),
 oX 113 (.load false 1 112),
 oX 114 (.bin .lss 111 113)])
 (.cond 114
 .skip
 (.exit 0)))
 (.seq
 (.join ⟨[(14, sX), (1, sX), (3, .one (rX 3)), (5, .one (rX 5)), (6, .one (rX 6)), (8, .one (rX 8)), (9, .one (rX 9)), (12, .one (rX 12)), (13, .one (rX 13))], [(3, .box [vX, .c (.v (.list gX))]), (5, .box [vX, vX, .c (.v (lX))]), (6, .box [vX, fX 500021 4]), (8, .box [vX, vX, vX, .c (.v (lX))]), (9, .box [vX, vX, vX, .c (.v (lX))]), (12, .box [vX, vX, fX 500022 1]), (13, .box [vX, vX, fX 500023 1]), (500021, .row true .froz gX), (500022, .row true .froz iX), (500023, .row true .froz iX)]⟩ [3, 5, 6, 8, 9, 12, 13, 500003, 500004, 500005, 500021, 500022, 500023] [(true, 6, 1, 500021, .froz, []), (true, 12, 2, 500022, .froz, []), (true, 13, 2, 500023, .froz, [])]
 (.block 1
 (.seq
 (.reg false [
 oX 15 (.mv (kX 0))])
 (.block 2
 (.loop 0 ⟨[(1, sX), (3, .one (rX 3)), (5, .one (rX 5)), (6, .one (rX 6)), (8, .one (rX 8)), (9, .one (rX 9)), (12, .one (rX 12)), (13, .one (rX 13)), (14, sX), (15, sX)], [(3, .box [vX, .c (.v (.list gX))]), (5, .box [vX, vX, .c (.v (lX))]), (6, .box [vX, fX 500003 4]), (8, .box [vX, vX, vX, .c (.v (lX))]), (9, .box [vX, vX, vX, .c (.v (lX))]), (12, .box [vX, vX, fX 500004 1]), (13, .box [vX, vX, fX 500005 1]), (500003, .row true .froz gX), (500004, .row true .froz iX), (500005, .row true .froz iX)]⟩ [3, 5, 6, 8, 9, 12, 13, 500000, 500001, 500002, 500003, 500004, 500005, 500018, 500019, 500020] [(true, 6, 1, 500003, .froz, []), (true, 12, 2, 500004, .froz, []), (true, 13, 2, 500005, .froz, [])]
 (.seq
 (.seq
 (.reg false [
 oX 117 (.mv 15),
 oX 118 (.fieldA 2 9),
 oX 119 (.load false 1 118),
 oX 120 (.bin .lss 117 119)])
 (.cond 120
 .skip
 (.exit 2)))
 (.seq
 (.join ⟨[(15, sX), (1, sX), (3, .one (rX 3)), (5, .one (rX 5)), (6, .one (rX 6)), (8, .one (rX 8)), (9, .one (rX 9)), (12, .one (rX 12)), (13, .one (rX 13)), (14, sX)], [(3, .box [vX, .c (.v (.list gX))]), (5, .box [vX, vX, .c (.v (lX))]), (6, .box [vX, fX 500018 4]), (8, .box [vX, vX, vX, .c (.v (lX))]), (9, .box [vX, vX, vX, .c (.v (lX))]), (12, .box [vX, vX, fX 500019 1]), (13, .box [vX, vX, fX 500020 1]), (500018, .row true .froz gX), (500019, .row true .froz iX), (500020, .row true .froz iX)]⟩ [3, 5, 6, 8, 9, 12, 13, 500006, 500007, 500008, 500018, 500019, 500020] [(true, 6, 1, 500018, .froz, []), (true, 12, 2, 500019, .froz, []), (true, 13, 2, 500020, .froz, [])]
 (.block 3
 (.seq
 (.reg false [
 oX 16 (.mv (kX 0))])
 (.block 4
 (.loop 0 ⟨[(1, sX), (3, .one (rX 3)), (5, .one (rX 5)), (6, .one (rX 6)), (8, .one (rX 8)), (9, .one (rX 9)), (12, .one (rX 12)), (13, .one (rX 13)), (14, sX), (15, sX), (16, sX)], [(3, .box [vX, .c (.v (.list gX))]), (5, .box [vX, vX, .c (.v (lX))]), (6, .box [vX, fX 500006 4]), (8, .box [vX, vX, vX, .c (.v (lX))]), (9, .box [vX, vX, vX, .c (.v (lX))]), (12, .box [vX, vX, fX 500007 1]), (13, .box [vX, vX, fX 500008 1]), (500006, .row true .froz gX), (500007, .row true .froz iX), (500008, .row true .froz iX)]⟩ [3, 5, 6, 8, 9, 12, 13, 500003, 500004, 500005, 500006, 500007, 500008, 500015, 500016, 500017] [(true, 6, 1, 500006, .froz, []), (true, 12, 2, 500007, .froz, []), (true, 13, 2, 500008, .froz, [])]
 (.seq
 (.seq
 (.reg false [
 oX 123 (.mv 16),
 oX 124 (.fieldA 0 5),
 oX 125 (.load false 1 124),
 oX 126 (.bin .lss 123 125)])
 (.cond 126
 .skip
 (.exit 4)))
 (.seq
 (.join ⟨[(16, sX), (1, sX), (3, .one (rX 3)), (5, .one (rX 5)), (6, .one (rX 6)), (8, .one (rX 8)), (9, .one (rX 9)), (12, .one (rX 12)), (13, .one (rX 13)), (14, sX), (15, sX)], [(3, .box [vX, .c (.v (.list gX))]), (5, .box [vX, vX, .c (.v (lX))]), (6, .box [vX, fX 500015 4]), (8, .box [vX, vX, vX, .c (.v (lX))]), (9, .box [vX, vX, vX, .c (.v (lX))]), (12, .box [vX, vX, fX 500016 1]), (13, .box [vX, vX, fX 500017 1]), (500015, .row true .froz gX), (500016, .row true .froz iX), (500017, .row true .froz iX)]⟩ [3, 5, 6, 8, 9, 12, 13, 500012, 500013, 500014, 500015, 500016, 500017] [(true, 6, 1, 500015, .froz, []), (true, 12, 2, 500016, .froz, []), (true, 13, 2, 500017, .froz, [])]
 (.block 5
 (.seq
 (.reg false [
 oX 17 (.mv (kX 0))])
 (.seq
 (.seq
 (.reg false [
 oX 18 (.mv (kX 0))])
 (.join ⟨[(17, sX), (16, sX), (1, sX), (3, .one (rX 3)), (5, .one (rX 5)), (6, .one (rX 6)), (8, .one (rX 8)), (9, .one (rX 9)), (12, .one (rX 12)), (13, .one (rX 13)), (14, sX), (15, sX)], [(3, .box [vX, .c (.v (.list gX))]), (5, .box [vX, vX, .c (.v (lX))]), (6, .box [vX, fX 500012 4]), (8, .box [vX, vX, vX, .c (.v (lX))]), (9, .box [vX, vX, vX, .c (.v (lX))]), (12, .box [vX, vX, fX 500013 1]), (13, .box [vX, vX, fX 500014 1]), (500012, .row true .froz gX), (500013, .row true .froz iX), (500014, .row true .froz iX)]⟩ [3, 5, 6, 8, 9, 12, 13, 500009, 500010, 500011, 500012, 500013, 500014] [(true, 6, 1, 500012, .froz, []), (true, 12, 2, 500013, .froz, []), (true, 13, 2, 500014, .froz, [])]
 (.block 6
 (.loop 0 ⟨[(1, sX), (3, .one (rX 3)), (5, .one (rX 5)), (6, .one (rX 6)), (8, .one (rX 8)), (9, .one (rX 9)), (12, .one (rX 12)), (13, .one (rX 13)), (14, sX), (15, sX), (16, sX), (17, sX), (18, sX)], [(3, .box [vX, .c (.v (.list gX))]), (5, .box [vX, vX, .c (.v (lX))]), (6, .box [vX, fX 500009 4]), (8, .box [vX, vX, vX, .c (.v (lX))]), (9, .box [vX, vX, vX, .c (.v (lX))]), (12, .box [vX, vX, fX 500010 1]), (13, .box [vX, vX, fX 500011 1]), (500009, .row true .froz gX), (500010, .row true .froz iX), (500011, .row true .froz iX)]⟩ [3, 5, 6, 8, 9, 12, 13, 500006, 500007, 500008, 500009, 500010, 500011] [(true, 6, 1, 500009, .froz, []), (true, 12, 2, 500010, .froz, []), (true, 13, 2, 500011, .froz, [])]
 (.seq
 (.seq
 (.reg false [
 oX 129 (.mv 18),
 oX 130 (.fieldA 1 5),
 oX 131 (.load false 1 130),
 oX 132 (.bin .lss 129 131)])
 (.cond 132
 .skip
 (.exit 6)))
 (.seq
 (.block 7
 (.reg true [
 oX 135 (.mv 17),
 oX 136 (.load true 3 5),
 oX 137 (.mv 16),
 oX 138 (.mv 18),
 oX 139 (.call .froz 95 [136, 137, 138]),
 oX 140 (.load true 3 12),
 oX 141 (.mv 14),
 oX 142 (.fieldA 1 8),
 oX 143 (.load false 1 142),
 oX 144 (.bin .mul 141 143),
 oX 145 (.mv 18),
 oX 146 (.fieldA 1 9),
 oX 147 (.load false 1 146),
 oX 148 (.bin .quo 145 147),
 oX 149 (.bin .add 144 148),
 oX 150 (.mv 18),
 oX 151 (.fieldA 1 9),
 oX 152 (.load false 1 151),
 oX 153 (.bin .rem 150 152),
 oX 154 (.fieldA 2 9),
 oX 155 (.load false 1 154),
 oX 156 (.bin .mul 153 155),
 oX 157 (.mv 15),
 oX 158 (.bin .add 156 157),
 oX 159 (.call .froz 95 [140, 149, 158]),
 oX 160 (.bin .mul 139 159),
 oX 161 (.bin .add 135 160),
 oX 162 (.fieldA 0 3),
 oX 163 (.load false 1 162),
 oX 164 (.bin .rem 161 163),
 oX 17 (.mv 164)]))
 (.reg false [
 oX 133 (.mv 18),
 oX 134 (.bin .add 133 (kX 1)),
 oX 18 (.mv 134)])))))))
 (.reg true [
 oX 165 (.load true 3 13),
 oX 166 (.mv 14),
 oX 167 (.fieldA 1 8),
 oX 168 (.load false 1 167),
 oX 169 (.bin .mul 166 168),
 oX 170 (.mv 16),
 oX 171 (.fieldA 1 9),
 oX 172 (.load false 1 171),
 oX 173 (.bin .quo 170 172),
 oX 174 (.bin .add 169 173),
 oX 175 (.mv 16),
 oX 176 (.fieldA 1 9),
 oX 177 (.load false 1 176),
 oX 178 (.bin .rem 175 177),
 oX 179 (.fieldA 2 9),
 oX 180 (.load false 1 179),
 oX 181 (.bin .mul 178 180),
 oX 182 (.mv 15),
 oX 183 (.bin .add 181 182),
 oX 184 (.mv 17),
 oX 185 (.callm .froz 101 [165, 174, 183, 184])])))))
 (.reg false [
 oX 127 (.mv 16),
 oX 128 (.bin .add 127 (kX 1)),
 oX 16 (.mv 128)]))))))))
 (.reg false [
 oX 121 (.mv 15),
 oX 122 (.bin .add 121 (kX 1)),
 oX 15 (.mv 122)]))))))))
 (.reg false [
 oX 115 (.mv 14),
 oX 116 (.bin .add 115 (kX 1)),
 oX 14 (.mv 116)])))))))
 (.seq
 (.reg false [
 oX 187 (.fieldA 0 3),
 oX 188 (.load false 1 187),
 oX 189 (.load true 3 13),
 oX 190 (.call .froz 98 [188, 189]),
 oX 186 (.mv 190),
 oX 191 (.ext 0 186),
 oX 192 (.ext 1 186),
 oX 193 (.ext 2 186),
 oX 19 (.alloc [zX, zX, .nil iX]),
 oX 20 (.alloc [zX, zX, .nil iX]),
 uX (.store 3 19 191),
 uX (.store 3 20 192),
 oX 21 (.mv 193)])
 (.seq
 (.seq
 (.reg false [
 oX 194 (.mv 21),
 oX 195 (.un .not 194)])
 (.cond 195
 (.seq
 (.reg false [
 oX 196 (.build [zX, .nil gX] []),
 uX (.store 2 6 196),
 oX 7 (.mv (.k (.one (.v (.bool) (false)))))])
 .ret)
 .skip))
 (.seq
 (.reg false [
 oX 197 (.load true 2 3),
 oX 198 (.call .froz 94 [197]),
 oX 22 (.alloc [zX, .nil gX]),
 uX (.store 2 22 198)])
 (.seq
 (.reg false [
 oX 199 (.fieldA 1 22),
 oX 200 (.load false 1 199),
 oX 201 (.mv 1),
 oX 202 (.fieldA 0 8),
 oX 203 (.load false 1 202),
 oX 204 (.fieldA 1 8),
 oX 205 (.load false 1 204),
 oX 206 (.fieldA 1 19),
 oX 207 (.load false 1 206),
 oX 208 (.fieldA 2 19),
 oX 209 (.load false 1 208),
 oX 210 (.build [zX, zX, zX, .nil iX] [(0, 1, 203), (1, 1, 205), (2, 1, 207), (3, 1, 209)]),
 oX 211 (.idxA 4 200 201),
 uX (.store 4 211 210)])
 (.seq
 (.reg false [
 oX 212 (.fieldA 1 22),
 oX 213 (.load false 1 212),
 oX 214 (.mv 1),
 oX 215 (.bin .add 214 (kX 1)),
 oX 216 (.fieldA 0 20),
 oX 217 (.load false 1 216),
 oX 218 (.fieldA 1 9),
 oX 219 (.load false 1 218),
 oX 220 (.fieldA 2 9),
 oX 221 (.load false 1 220),
 oX 222 (.fieldA 2 20),
 oX 223 (.load false 1 222),
 oX 224 (.build [zX, zX, zX, .nil iX] [(0, 1, 217), (1, 1, 219), (2, 1, 221), (3, 1, 223)]),
 oX 225 (.idxA 4 213 215),
 uX (.store 4 225 224)])
 (.seq
 (.seq
 (.reg false [
 oX 226 (.load true 2 22),
 oX 227 (.call .froz 18 [226]),
 oX 228 (.un .not 227)])
 (.cond 228
 (.seq
 (.reg false [
 oX 229 (.build [zX, .nil gX] []),
 uX (.store 2 6 229),
 oX 7 (.mv (.k (.one (.v (.bool) (false)))))])
 .ret)
 .skip))
 (.seq
 (.reg false [
 oX 230 (.load true 2 22),
 uX (.store 2 6 230),
 oX 7 (.mv (.k (.one (.v (.bool) (true)))))])
 .ret))))))))))))))))
def ms_impl_ApplyBond : List MRes := [.cell 6 2 true, .tmp 7]
theorem n_impl_ApplyBond (NN : Nat) (x : DLL (Sig.tys ag_impl_ApplyBond)) : runS NN [fn_impl_ChainOk, fn_impl_MatrixOk, fn_impl_rawMulMatrix, fn_impl_emptyMatrix, fn_impl_Matrix_at, fn_impl_Matrix_set, fn_impl_FactorMatrix, fn_impl_copyChain] sc_impl_ApplyBond ms_impl_ApplyBond ag_impl_ApplyBond rs_impl_ApplyBond x = G_impl_ApplyBond NN x := by kernel_rfl
theorem k_impl_ApplyBond : chkS pX 50 sc_impl_ApplyBond.er ms_impl_ApplyBond 3 = true := by decide +kernel
theorem p_impl_ApplyBond : PureSpec pX 50 fn_impl_ApplyBond.M ∧ chkFun pX 50 = true :=
  pure_of_runS (T := [fn_impl_ChainOk, fn_impl_MatrixOk, fn_impl_rawMulMatrix, fn_impl_emptyMatrix, fn_impl_Matrix_at, fn_impl_Matrix_set, fn_impl_FactorMatrix, fn_impl_copyChain]) (sc := sc_impl_ApplyBond) (ms := ms_impl_ApplyBond) (args := ag_impl_ApplyBond) (res := rs_impl_ApplyBond) (SOk.cons p_impl_ChainOk <| SOk.cons p_impl_MatrixOk <| SOk.cons p_impl_rawMulMatrix <| SOk.cons p_impl_emptyMatrix <| SOk.cons p_impl_Matrix_at <| SOk.consM p_impl_Matrix_set <| SOk.cons p_impl_FactorMatrix <| SOk.cons p_impl_copyChain <| SOk.nil) follows_ok k_impl_ApplyBond F_impl_ApplyBond fun x y h => (n_impl_ApplyBond FUEL x).trans (f_impl_ApplyBond x y h)

def fn_laws_eqIntS : SFn := ⟨22, ag_laws_eqIntS, mu_laws_eqIntS, rs_laws_eqIntS, F_laws_eqIntS⟩
def sc_laws_eqIntS : SCode :=
 (.seq
 (.reg false [
 oX 4 (.mv (.k (.one (.v (.bool) (false)))))])
 (.seq
 (.seq
 (.reg false [
 oX 6 (.mv 0),
 oX 7 (.len 6),
 oX 8 (.mv 1),
 oX 9 (.len 8),
 oX 10 (.bin .neq 7 9)])
 (.cond 10
 (.seq
 (.reg false [
 oX 4 (.mv (.k (.one (.v (.bool) (false)))))])
 .ret)
 .skip))
 (.seq
 (.seq
 (.reg false [
 oX 5 (.mv (kX 0))])
 (.join ⟨[], []⟩ [] []
 (.block 0
 (.loop 0 ⟨[(0, .one (.c (.v (lX)))), (1, .one (.c (.v (lX)))), (5, sX)], []⟩ [] []
 (.seq
 (.seq
 (.reg false [
 oX 11 (.mv 5),
 oX 12 (.mv 0),
 oX 13 (.len 12),
 oX 14 (.bin .lss 11 13)])
 (.cond 14
 .skip
 (.exit 0)))
 (.seq
 (.block 1
 (.seq
 (.reg true [
 oX 17 (.mv 0),
 oX 18 (.mv 5),
 oX 19 (.idxA 1 17 18),
 oX 20 (.load false 1 19),
 oX 21 (.mv 1),
 oX 22 (.mv 5),
 oX 23 (.idxA 1 21 22),
 oX 24 (.load false 1 23),
 oX 25 (.bin .neq 20 24)])
 (.cond 25
 (.seq
 (.reg false [
 oX 4 (.mv (.k (.one (.v (.bool) (false)))))])
 .ret)
 .skip)))
 (.reg false [
 oX 15 (.mv 5),
 oX 16 (.bin .add 15 (kX 1)),
 oX 5 (.mv 16)])))))))
 (.seq
 (.reg false [
 oX 4 (.mv (.k (.one (.v (.bool) (true)))))])
 .ret))))
def ms_laws_eqIntS : List MRes := [.tmp 4]
theorem n_laws_eqIntS (NN : Nat) (x : DLL (Sig.tys ag_laws_eqIntS)) : runS NN [] sc_laws_eqIntS ms_laws_eqIntS ag_laws_eqIntS rs_laws_eqIntS x = G_laws_eqIntS NN x := by kernel_rfl
theorem k_laws_eqIntS : chkS pX 22 sc_laws_eqIntS.er ms_laws_eqIntS 2 = true := by decide +kernel
theorem p_laws_eqIntS : PureSpec pX 22 fn_laws_eqIntS.M ∧ chkFun pX 22 = true :=
  pure_of_runS (T := []) (sc := sc_laws_eqIntS) (ms := ms_laws_eqIntS) (args := ag_laws_eqIntS) (res := rs_laws_eqIntS) (SOk.nil) follows_ok k_laws_eqIntS F_laws_eqIntS fun x y h => (n_laws_eqIntS FUEL x).trans (f_laws_eqIntS x y h)

def fn_laws_eqSite : SFn := ⟨128, ag_laws_eqSite, mu_laws_eqSite, rs_laws_eqSite, F_laws_eqSite⟩
def sc_laws_eqSite : SCode :=
 (.seq
 (.reg false [
 oX 2 (.box 4 0),
 oX 3 (.box 4 1),
 oX 4 (.mv (.k (.one (.v (.bool) (false)))))])
 (.seq
 (.seq
 (.reg false [
 oX 5 (.fieldA 0 2),
 oX 6 (.load false 1 5),
 oX 7 (.fieldA 0 3),
 oX 8 (.load false 1 7),
 oX 9 (.bin .neq 6 8)])
 (.cond 9
 (.seq
 (.reg false [
 oX 4 (.mv (.k (.one (.v (.bool) (false)))))])
 .ret)
 .skip))
 (.seq
 (.seq
 (.reg false [
 oX 10 (.fieldA 1 2),
 oX 11 (.load false 1 10),
 oX 12 (.fieldA 1 3),
 oX 13 (.load false 1 12),
 oX 14 (.bin .neq 11 13)])
 (.cond 14
 (.seq
 (.reg false [
 oX 4 (.mv (.k (.one (.v (.bool) (false)))))])
 .ret)
 .skip))
 (.seq
 (.seq
 (.reg false [
 oX 15 (.fieldA 2 2),
 oX 16 (.load false 1 15),
 oX 17 (.fieldA 2 3),
 oX 18 (.load false 1 17),
 oX 19 (.bin .neq 16 18)])
 (.cond 19
 (.seq
 (.reg false [
 oX 4 (.mv (.k (.one (.v (.bool) (false)))))])
 .ret)
 .skip))
 (.seq
 (.seq
 (.reg false [
 oX 20 (.fieldA 3 2),
 oX 21 (.load false 1 20),
 oX 22 (.fieldA 3 3),
 oX 23 (.load false 1 22),
 oX 24 (.call .froz 22 [21, 23]),
 oX 25 (.un .not 24)])
 (.cond 25
 (.seq
 (.reg false [
 oX 4 (.mv (.k (.one (.v (.bool) (false)))))])
 .ret)
 .skip))
 (.seq
 (.reg false [
 oX 4 (.mv (.k (.one (.v (.bool) (true)))))])
 .ret))))))
def ms_laws_eqSite : List MRes := [.tmp 4]
theorem n_laws_eqSite (NN : Nat) (x : DLL (Sig.tys ag_laws_eqSite)) : runS NN [fn_laws_eqIntS] sc_laws_eqSite ms_laws_eqSite ag_laws_eqSite rs_laws_eqSite x = G_laws_eqSite NN x := by kernel_rfl
theorem k_laws_eqSite : chkS pX 128 sc_laws_eqSite.er ms_laws_eqSite 2 = true := by decide +kernel
theorem p_laws_eqSite : PureSpec pX 128 fn_laws_eqSite.M ∧ chkFun pX 128 = true :=
  pure_of_runS (T := [fn_laws_eqIntS]) (sc := sc_laws_eqSite) (ms := ms_laws_eqSite) (args := ag_laws_eqSite) (res := rs_laws_eqSite) (SOk.cons p_laws_eqIntS <| SOk.nil) follows_ok k_laws_eqSite F_laws_eqSite fun x y h => (n_laws_eqSite FUEL x).trans (f_laws_eqSite x y h)

def fn_laws_eqSiteS : SFn := ⟨70, ag_laws_eqSiteS, mu_laws_eqSiteS, rs_laws_eqSiteS, F_laws_eqSiteS⟩
def sc_laws_eqSiteS : SCode :=
 (.seq
 (.reg false [
 oX 4 (.mv (.k (.one (.v (.bool) (false)))))])
 (.seq
 (.seq
 (.reg false [
 oX 6 (.mv 0),
 oX 7 (.len 6),
 oX 8 (.mv 1),
 oX 9 (.len 8),
 oX 10 (.bin .neq 7 9)])
 (.cond 10
 (.seq
 (.reg false [
 oX 4 (.mv (.k (.one (.v (.bool) (false)))))])
 .ret)
 .skip))
 (.seq
 (.seq
 (.reg false [
 oX 5 (.mv (kX 0))])
 (.join ⟨[], []⟩ [] []
 (.block 0
 (.loop 0 ⟨[(0, .one (.c (.v (.list gX)))), (1, .one (.c (.v (.list gX)))), (5, sX)], []⟩ [] []
 (.seq
 (.seq
 (.reg false [
 oX 11 (.mv 5),
 oX 12 (.mv 0),
 oX 13 (.len 12),
 oX 14 (.bin .lss 11 13)])
 (.cond 14
 .skip
 (.exit 0)))
 (.seq
 (.block 1
 (.seq
 (.reg true [
 oX 17 (.mv 0),
 oX 18 (.mv 5),
 oX 19 (.idxA 4 17 18),
 oX 20 (.load true 4 19),
 oX 21 (.mv 1),
 oX 22 (.mv 5),
 oX 23 (.idxA 4 21 22),
 oX 24 (.load true 4 23),
 oX 25 (.call .froz 128 [20, 24]),
 oX 26 (.un .not 25)])
 (.cond 26
 (.seq
 (.reg false [
 oX 4 (.mv (.k (.one (.v (.bool) (false)))))])
 .ret)
 .skip)))
 (.reg false [
 oX 15 (.mv 5),
 oX 16 (.bin .add 15 (kX 1)),
 oX 5 (.mv 16)])))))))
 (.seq
 (.reg false [
 oX 4 (.mv (.k (.one (.v (.bool) (true)))))])
 .ret))))
def ms_laws_eqSiteS : List MRes := [.tmp 4]
theorem n_laws_eqSiteS (NN : Nat) (x : DLL (Sig.tys ag_laws_eqSiteS)) : runS NN [fn_laws_eqSite] sc_laws_eqSiteS ms_laws_eqSiteS ag_laws_eqSiteS rs_laws_eqSiteS x = G_laws_eqSiteS NN x := by kernel_rfl
theorem k_laws_eqSiteS : chkS pX 70 sc_laws_eqSiteS.er ms_laws_eqSiteS 2 = true := by decide +kernel
theorem p_laws_eqSiteS : PureSpec pX 70 fn_laws_eqSiteS.M ∧ chkFun pX 70 = true :=
  pure_of_runS (T := [fn_laws_eqSite]) (sc := sc_laws_eqSiteS) (ms := ms_laws_eqSiteS) (args := ag_laws_eqSiteS) (res := rs_laws_eqSiteS) (SOk.cons p_laws_eqSite <| SOk.nil) follows_ok k_laws_eqSiteS F_laws_eqSiteS fun x y h => (n_laws_eqSiteS FUEL x).trans (f_laws_eqSiteS x y h)

def fn_laws_eqChain : SFn := ⟨19, ag_laws_eqChain, mu_laws_eqChain, rs_laws_eqChain, F_laws_eqChain⟩
def sc_laws_eqChain : SCode :=
 (.seq
 (.reg false [
 oX 2 (.box 2 0),
 oX 3 (.box 2 1),
 oX 4 (.mv (.k (.one (.v (.bool) (false)))))])
 (.seq
 (.seq
 (.reg false [
 oX 5 (.fieldA 0 2),
 oX 6 (.load false 1 5),
 oX 7 (.fieldA 0 3),
 oX 8 (.load false 1 7),
 oX 9 (.bin .neq 6 8)])
 (.cond 9
 (.seq
 (.reg false [
 oX 4 (.mv (.k (.one (.v (.bool) (false)))))])
 .ret)
 .skip))
 (.seq
 (.seq
 (.reg false [
 oX 10 (.fieldA 1 2),
 oX 11 (.load false 1 10),
 oX 12 (.fieldA 1 3),
 oX 13 (.load false 1 12),
 oX 14 (.call .froz 70 [11, 13]),
 oX 15 (.un .not 14)])
 (.cond 15
 (.seq
 (.reg false [
 oX 4 (.mv (.k (.one (.v (.bool) (false)))))])
 .ret)
 .skip))
 (.seq
 (.reg false [
 oX 4 (.mv (.k (.one (.v (.bool) (true)))))])
 .ret))))
def ms_laws_eqChain : List MRes := [.tmp 4]
theorem n_laws_eqChain (NN : Nat) (x : DLL (Sig.tys ag_laws_eqChain)) : runS NN [fn_laws_eqSiteS] sc_laws_eqChain ms_laws_eqChain ag_laws_eqChain rs_laws_eqChain x = G_laws_eqChain NN x := by kernel_rfl
theorem k_laws_eqChain : chkS pX 19 sc_laws_eqChain.er ms_laws_eqChain 2 = true := by decide +kernel
theorem p_laws_eqChain : PureSpec pX 19 fn_laws_eqChain.M ∧ chkFun pX 19 = true :=
  pure_of_runS (T := [fn_laws_eqSiteS]) (sc := sc_laws_eqChain) (ms := ms_laws_eqChain) (args := ag_laws_eqChain) (res := rs_laws_eqChain) (SOk.cons p_laws_eqSiteS <| SOk.nil) follows_ok k_laws_eqChain F_laws_eqChain fun x y h => (n_laws_eqChain FUEL x).trans (f_laws_eqChain x y h)

def fn_laws_eqMatrix : SFn := ⟨43, ag_laws_eqMatrix, mu_laws_eqMatrix, rs_laws_eqMatrix, F_laws_eqMatrix⟩
def sc_laws_eqMatrix : SCode :=
 (.seq
 (.reg false [
 oX 2 (.box 3 0),
 oX 3 (.box 3 1),
 oX 4 (.mv (.k (.one (.v (.bool) (false)))))])
 (.seq
 (.seq
 (.reg false [
 oX 5 (.fieldA 0 2),
 oX 6 (.load false 1 5),
 oX 7 (.fieldA 0 3),
 oX 8 (.load false 1 7),
 oX 9 (.bin .neq 6 8)])
 (.cond 9
 (.seq
 (.reg false [
 oX 4 (.mv (.k (.one (.v (.bool) (false)))))])
 .ret)
 .skip))
 (.seq
 (.seq
 (.reg false [
 oX 10 (.fieldA 1 2),
 oX 11 (.load false 1 10),
 oX 12 (.fieldA 1 3),
 oX 13 (.load false 1 12),
 oX 14 (.bin .neq 11 13)])
 (.cond 14
 (.seq
 (.reg false [
 oX 4 (.mv (.k (.one (.v (.bool) (false)))))])
 .ret)
 .skip))
 (.seq
 (.seq
 (.reg false [
 oX 15 (.fieldA 2 2),
 oX 16 (.load false 1 15),
 oX 17 (.fieldA 2 3),
 oX 18 (.load false 1 17),
 oX 19 (.call .froz 22 [16, 18]),
 oX 20 (.un .not 19)])
 (.cond 20
 (.seq
 (.reg false [
 oX 4 (.mv (.k (.one (.v (.bool) (false)))))])
 .ret)
 .skip))
 (.seq
 (.reg false [
 oX 4 (.mv (.k (.one (.v (.bool) (true)))))])
 .ret)))))
def ms_laws_eqMatrix : List MRes := [.tmp 4]
theorem n_laws_eqMatrix (NN : Nat) (x : DLL (Sig.tys ag_laws_eqMatrix)) : runS NN [fn_laws_eqIntS] sc_laws_eqMatrix ms_laws_eqMatrix ag_laws_eqMatrix rs_laws_eqMatrix x = G_laws_eqMatrix NN x := by kernel_rfl
theorem k_laws_eqMatrix : chkS pX 43 sc_laws_eqMatrix.er ms_laws_eqMatrix 2 = true := by decide +kernel
theorem p_laws_eqMatrix : PureSpec pX 43 fn_laws_eqMatrix.M ∧ chkFun pX 43 = true :=
  pure_of_runS (T := [fn_laws_eqIntS]) (sc := sc_laws_eqMatrix) (ms := ms_laws_eqMatrix) (args := ag_laws_eqMatrix) (res := rs_laws_eqMatrix) (SOk.cons p_laws_eqIntS <| SOk.nil) follows_ok k_laws_eqMatrix F_laws_eqMatrix fun x y h => (n_laws_eqMatrix FUEL x).trans (f_laws_eqMatrix x y h)

def fn_laws_markIntS : SFn := ⟨24, ag_laws_markIntS, mu_laws_markIntS, rs_laws_markIntS, F_laws_markIntS⟩
def sc_laws_markIntS : SCode :=
 (.seq
 (.reg false [
 oX 4 (.mv (kX 0))])
 (.seq
 (.seq
 (.reg false [
 oX 5 (.mv (kX 0))])
 (.join ⟨[(1, sX)], [(1000000, .row false .froz iX)]⟩ [1000000] []
 (.block 0
 (.loop 0 ⟨[(0, .one (fX 1000000 1)), (1, sX), (5, sX)], [(1000000, .row false .froz iX)]⟩ [1000000, 500000] [(false, 0, 0, 500000, .froz, [])]
 (.seq
 (.seq
 (.reg false [
 oX 6 (.mv 5),
 oX 7 (.mv 0),
 oX 8 (.len 7),
 oX 9 (.bin .lss 6 8)])
 (.cond 9
 .skip
 (.exit 0)))
 (.seq
 (.block 1
 (.seq
 (.reg false [
 oX 12 (.mv 0),
 oX 13 (.mv 5),
 oX 14 (.mv 1),
 oX 15 (.idxA 1 12 13),
 uX (.store 1 15 14)])
 (.reg false [
 oX 16 (.mv 1),
 oX 17 (.bin .add 16 (kX 1)),
 oX 1 (.mv 17)])))
 (.reg false [
 oX 10 (.mv 5),
 oX 11 (.bin .add 10 (kX 1)),
 oX 5 (.mv 11)])))))))
 (.seq
 (.reg false [
 oX 18 (.mv 1),
 oX 4 (.mv 18)])
 .ret)))
def ms_laws_markIntS : List MRes := [.tmp 4]
theorem n_laws_markIntS (NN : Nat) (x : DLL (Sig.tys ag_laws_markIntS)) : runMS NN [] sc_laws_markIntS ms_laws_markIntS ag_laws_markIntS mu_laws_markIntS rs_laws_markIntS x = G_laws_markIntS NN x := by kernel_rfl
theorem k_laws_markIntS : chkS pX 24 sc_laws_markIntS.er ms_laws_markIntS 2 = true := by decide +kernel
theorem p_laws_markIntS : MutSpec pX 24 mu_laws_markIntS fn_laws_markIntS.MM ∧ chkFun pX 24 = true :=
  mut_of_runMS (T := []) (sc := sc_laws_markIntS) (ms := ms_laws_markIntS) (args := ag_laws_markIntS) (mu := mu_laws_markIntS) (res := rs_laws_markIntS) (SOk.nil) follows_ok k_laws_markIntS F_laws_markIntS fun x y h => (n_laws_markIntS FUEL x).trans (f_laws_markIntS x y h)

def fn_laws_markSiteS : SFn := ⟨71, ag_laws_markSiteS, mu_laws_markSiteS, rs_laws_markSiteS, F_laws_markSiteS⟩
def sc_laws_markSiteS : SCode :=
 (.seq
 (.reg false [
 oX 4 (.mv (kX 0))])
 (.seq
 (.seq
 (.reg false [
 oX 5 (.mv (kX 0))])
 (.join ⟨[(1, sX)], [(1000000, .row false .live gX)]⟩ [1000000] []
 (.block 0
 (.loop 0 ⟨[(0, .one (fX 1000000 4)), (1, sX), (5, sX)], [(1000000, .row false .live gX)]⟩ [1000000, 500000] [(false, 0, 0, 500000, .froz, [])]
 (.seq
 (.seq
 (.reg false [
 oX 6 (.mv 5),
 oX 7 (.mv 0),
 oX 8 (.len 7),
 oX 9 (.bin .lss 6 8)])
 (.cond 9
 .skip
 (.exit 0)))
 (.seq
 (.block 1
 (.seq
 (.reg false [
 oX 12 (.mv 0),
 oX 13 (.mv 5),
 oX 14 (.mv 1),
 oX 15 (.idxA 4 12 13),
 oX 16 (.fieldA 0 15),
 uX (.store 1 16 14)])
 (.seq
 (.reg false [
 oX 17 (.mv 1),
 oX 18 (.bin .add 17 (kX 1)),
 oX 1 (.mv 18)])
 (.seq
 (.reg false [
 oX 19 (.mv 0),
 oX 20 (.mv 5),
 oX 21 (.mv 1),
 oX 22 (.idxA 4 19 20),
 oX 23 (.fieldA 1 22),
 uX (.store 1 23 21)])
 (.seq
 (.reg false [
 oX 24 (.mv 1),
 oX 25 (.bin .add 24 (kX 1)),
 oX 1 (.mv 25)])
 (.seq
 (.reg false [
 oX 26 (.mv 0),
 oX 27 (.mv 5),
 oX 28 (.mv 1),
 oX 29 (.idxA 4 26 27),
 oX 30 (.fieldA 2 29),
 uX (.store 1 30 28)])
 (.seq
 (.reg false [
 oX 31 (.mv 1),
 oX 32 (.bin .add 31 (kX 1)),
 oX 1 (.mv 32)])
 (.reg false [
 oX 33 (.mv 0),
 oX 34 (.mv 5),
 oX 35 (.idxA 4 33 34),
 oX 36 (.fieldA 3 35),
 oX 37 (.load false 1 36),
 oX 38 (.mv 1),
 oX 39 (.callm .froz 24 [37, 38]),
 oX 1 (.mv 39)]))))))))
 (.reg false [
 oX 10 (.mv 5),
 oX 11 (.bin .add 10 (kX 1)),
 oX 5 (.mv 11)])))))))
 (.seq
 (.reg false [
 oX 40 (.mv 1),
 oX 4 (.mv 40)])
 .ret)))
def ms_laws_markSiteS : List MRes := [.tmp 4]
theorem n_laws_markSiteS (NN : Nat) (x : DLL (Sig.tys ag_laws_markSiteS)) : runMS NN [fn_laws_markIntS] sc_laws_markSiteS ms_laws_markSiteS ag_laws_markSiteS mu_laws_markSiteS rs_laws_markSiteS x = G_laws_markSiteS NN x := by kernel_rfl
theorem k_laws_markSiteS : chkS pX 71 sc_laws_markSiteS.er ms_laws_markSiteS 2 = true := by decide +kernel
theorem p_laws_markSiteS : MutSpec pX 71 mu_laws_markSiteS fn_laws_markSiteS.MM ∧ chkFun pX 71 = true :=
  mut_of_runMS (T := [fn_laws_markIntS]) (sc := sc_laws_markSiteS) (ms := ms_laws_markSiteS) (args := ag_laws_markSiteS) (mu := mu_laws_markSiteS) (res := rs_laws_markSiteS) (SOk.consM p_laws_markIntS <| SOk.nil) follows_ok k_laws_markSiteS F_laws_markSiteS fun x y h => (n_laws_markSiteS FUEL x).trans (f_laws_markSiteS x y h)

def fn_laws_markChain : SFn := ⟨23, ag_laws_markChain, mu_laws_markChain, rs_laws_markChain, F_laws_markChain⟩
def sc_laws_markChain : SCode :=
 (.seq
 (.reg false [
 oX 2 (.box 2 0),
 oX 4 (.mv (kX 0))])
 (.seq
 (.reg false [
 oX 5 (.fieldA 1 2),
 oX 6 (.load false 1 5),
 oX 7 (.mv 1),
 oX 8 (.callm .live 71 [6, 7]),
 oX 1 (.mv 8)])
 (.seq
 (.reg false [
 oX 9 (.mv 1),
 oX 4 (.mv 9)])
 .ret)))
def ms_laws_markChain : List MRes := [.tmp 4]
theorem n_laws_markChain (NN : Nat) (x : DLL (Sig.tys ag_laws_markChain)) : runMS NN [fn_laws_markSiteS] sc_laws_markChain ms_laws_markChain ag_laws_markChain mu_laws_markChain rs_laws_markChain x = G_laws_markChain NN x := by kernel_rfl
theorem k_laws_markChain : chkS pX 23 sc_laws_markChain.er ms_laws_markChain 2 = true := by decide +kernel
theorem p_laws_markChain : MutSpec pX 23 mu_laws_markChain fn_laws_markChain.MM ∧ chkFun pX 23 = true :=
  mut_of_runMS (T := [fn_laws_markSiteS]) (sc := sc_laws_markChain) (ms := ms_laws_markChain) (args := ag_laws_markChain) (mu := mu_laws_markChain) (res := rs_laws_markChain) (SOk.consM p_laws_markSiteS <| SOk.nil) follows_ok k_laws_markChain F_laws_markChain fun x y h => (n_laws_markChain FUEL x).trans (f_laws_markChain x y h)

def fn_laws_markMatrix : SFn := ⟨44, ag_laws_markMatrix, mu_laws_markMatrix, rs_laws_markMatrix, F_laws_markMatrix⟩
def sc_laws_markMatrix : SCode :=
 (.seq
 (.reg false [
 oX 2 (.box 3 0),
 oX 4 (.mv (kX 0))])
 (.seq
 (.reg false [
 oX 5 (.fieldA 2 2),
 oX 6 (.load false 1 5),
 oX 7 (.mv 1),
 oX 8 (.callm .froz 24 [6, 7]),
 oX 1 (.mv 8)])
 (.seq
 (.reg false [
 oX 9 (.mv 1),
 oX 4 (.mv 9)])
 .ret)))
def ms_laws_markMatrix : List MRes := [.tmp 4]
theorem n_laws_markMatrix (NN : Nat) (x : DLL (Sig.tys ag_laws_markMatrix)) : runMS NN [fn_laws_markIntS] sc_laws_markMatrix ms_laws_markMatrix ag_laws_markMatrix mu_laws_markMatrix rs_laws_markMatrix x = G_laws_markMatrix NN x := by kernel_rfl
theorem k_laws_markMatrix : chkS pX 44 sc_laws_markMatrix.er ms_laws_markMatrix 2 = true := by decide +kernel
theorem p_laws_markMatrix : MutSpec pX 44 mu_laws_markMatrix fn_laws_markMatrix.MM ∧ chkFun pX 44 = true :=
  mut_of_runMS (T := [fn_laws_markIntS]) (sc := sc_laws_markMatrix) (ms := ms_laws_markMatrix) (args := ag_laws_markMatrix) (mu := mu_laws_markMatrix) (res := rs_laws_markMatrix) (SOk.consM p_laws_markIntS <| SOk.nil) follows_ok k_laws_markMatrix F_laws_markMatrix fun x y h => (n_laws_markMatrix FUEL x).trans (f_laws_markMatrix x y h)

def fn_laws_heldIntS : SFn := ⟨25, ag_laws_heldIntS, mu_laws_heldIntS, rs_laws_heldIntS, F_laws_heldIntS⟩
def sc_laws_heldIntS : SCode :=
 (.seq
 (.reg false [
 oX 4 (.mv (kX 0))])
 (.seq
 (.seq
 (.reg false [
 oX 5 (.mv (kX 0))])
 (.join ⟨[(1, sX)], []⟩ [] []
 (.block 0
 (.loop 0 ⟨[(0, .one (.c (.v (lX)))), (1, sX), (5, sX)], []⟩ [] []
 (.seq
 (.seq
 (.reg false [
 oX 6 (.mv 5),
 oX 7 (.mv 0),
 oX 8 (.len 7),
 oX 9 (.bin .lss 6 8)])
 (.cond 9
 .skip
 (.exit 0)))
 (.seq
 (.block 1
 (.seq
 (.seq
 (.reg false [
 oX 12 (.mv 0),
 oX 13 (.mv 5),
 oX 14 (.idxA 1 12 13),
 oX 15 (.load false 1 14),
 oX 16 (.mv 1),
 oX 17 (.bin .neq 15 16)])
 (.cond 17
 (.seq
 (.reg false [
 oX 4 (.mv (kX (-1)))])
 .ret)
 .skip))
 (.reg false [
 oX 18 (.mv 1),
 oX 19 (.bin .add 18 (kX 1)),
 oX 1 (.mv 19)])))
 (.reg false [
 oX 10 (.mv 5),
 oX 11 (.bin .add 10 (kX 1)),
 oX 5 (.mv 11)])))))))
 (.seq
 (.reg false [
 oX 20 (.mv 1),
 oX 4 (.mv 20)])
 .ret)))
def ms_laws_heldIntS : List MRes := [.tmp 4]
theorem n_laws_heldIntS (NN : Nat) (x : DLL (Sig.tys ag_laws_heldIntS)) : runS NN [] sc_laws_heldIntS ms_laws_heldIntS ag_laws_heldIntS rs_laws_heldIntS x = G_laws_heldIntS NN x := by kernel_rfl
theorem k_laws_heldIntS : chkS pX 25 sc_laws_heldIntS.er ms_laws_heldIntS 2 = true := by decide +kernel
theorem p_laws_heldIntS : PureSpec pX 25 fn_laws_heldIntS.M ∧ chkFun pX 25 = true :=
  pure_of_runS (T := []) (sc := sc_laws_heldIntS) (ms := ms_laws_heldIntS) (args := ag_laws_heldIntS) (res := rs_laws_heldIntS) (SOk.nil) follows_ok k_laws_heldIntS F_laws_heldIntS fun x y h => (n_laws_heldIntS FUEL x).trans (f_laws_heldIntS x y h)

def fn_laws_heldSiteS : SFn := ⟨89, ag_laws_heldSiteS, mu_laws_heldSiteS, rs_laws_heldSiteS, F_laws_heldSiteS⟩
def sc_laws_heldSiteS : SCode :=
 (.seq
 (.reg false [
 oX 4 (.mv (kX 0))])
 (.seq
 (.seq
 (.reg false [
 oX 5 (.mv (kX 0))])
 (.join ⟨[(1, sX)], []⟩ [] []
 (.block 0
 (.loop 0 ⟨[(0, .one (.c (.v (.list gX)))), (1, sX), (5, sX)], []⟩ [] []
 (.seq
 (.seq
 (.reg false [
 oX 6 (.mv 5),
 oX 7 (.mv 0),
 oX 8 (.len 7),
 oX 9 (.bin .lss 6 8)])
 (.cond 9
 .skip
 (.exit 0)))
 (.seq
 (.block 1
 (.seq
 (.seq
 (.reg false [
 oX 12 (.mv 0),
 oX 13 (.mv 5),
 oX 14 (.idxA 4 12 13),
 oX 15 (.fieldA 0 14),
 oX 16 (.load false 1 15),
 oX 17 (.mv 1),
 oX 18 (.bin .neq 16 17)])
 (.cond 18
 (.seq
 (.reg false [
 oX 4 (.mv (kX (-1)))])
 .ret)
 .skip))
 (.seq
 (.reg false [
 oX 19 (.mv 1),
 oX 20 (.bin .add 19 (kX 1)),
 oX 1 (.mv 20)])
 (.seq
 (.seq
 (.reg false [
 oX 21 (.mv 0),
 oX 22 (.mv 5),
 oX 23 (.idxA 4 21 22),
 oX 24 (.fieldA 1 23),
 oX 25 (.load false 1 24),
 oX 26 (.mv 1),
 oX 27 (.bin .neq 25 26)])
 (.cond 27
 (.seq
 (.reg false [
 oX 4 (.mv (kX (-1)))])
 .ret)
 .skip))
 (.seq
 (.reg false [
 oX 28 (.mv 1),
 oX 29 (.bin .add 28 (kX 1)),
 oX 1 (.mv 29)])
 (.seq
 (.seq
 (.reg false [
 oX 30 (.mv 0),
 oX 31 (.mv 5),
 oX 32 (.idxA 4 30 31),
 oX 33 (.fieldA 2 32),
 oX 34 (.load false 1 33),
 oX 35 (.mv 1),
 oX 36 (.bin .neq 34 35)])
 (.cond 36
 (.seq
 (.reg false [
 oX 4 (.mv (kX (-1)))])
 .ret)
 .skip))
 (.seq
 (.reg false [
 oX 37 (.mv 1),
 oX 38 (.bin .add 37 (kX 1)),
 oX 1 (.mv 38)])
 (.seq
 (.reg false [
 oX 39 (.mv 0),
 oX 40 (.mv 5),
 oX 41 (.idxA 4 39 40),
 oX 42 (.fieldA 3 41),
 oX 43 (.load false 1 42),
 oX 44 (.mv 1),
 oX 45 (.call .froz 25 [43, 44]),
 oX 1 (.mv 45)])
 (.seq
 (.reg false [
 oX 46 (.mv 1),
 oX 47 (.bin .lss 46 (kX 0))])
 (.cond 47
 (.seq
 (.reg false [
 oX 4 (.mv (kX (-1)))])
 .ret)
 .skip))))))))))
 (.reg false [
 oX 10 (.mv 5),
 oX 11 (.bin .add 10 (kX 1)),
 oX 5 (.mv 11)])))))))
 (.seq
 (.reg false [
 oX 48 (.mv 1),
 oX 4 (.mv 48)])
 .ret)))
def ms_laws_heldSiteS : List MRes := [.tmp 4]
theorem n_laws_heldSiteS (NN : Nat) (x : DLL (Sig.tys ag_laws_heldSiteS)) : runS NN [fn_laws_heldIntS] sc_laws_heldSiteS ms_laws_heldSiteS ag_laws_heldSiteS rs_laws_heldSiteS x = G_laws_heldSiteS NN x := by kernel_rfl
theorem k_laws_heldSiteS : chkS pX 89 sc_laws_heldSiteS.er ms_laws_heldSiteS 2 = true := by decide +kernel
theorem p_laws_heldSiteS : PureSpec pX 89 fn_laws_heldSiteS.M ∧ chkFun pX 89 = true :=
  pure_of_runS (T := [fn_laws_heldIntS]) (sc := sc_laws_heldSiteS) (ms := ms_laws_heldSiteS) (args := ag_laws_heldSiteS) (res := rs_laws_heldSiteS) (SOk.cons p_laws_heldIntS <| SOk.nil) follows_ok k_laws_heldSiteS F_laws_heldSiteS fun x y h => (n_laws_heldSiteS FUEL x).trans (f_laws_heldSiteS x y h)

def fn_laws_heldChain : SFn := ⟨38, ag_laws_heldChain, mu_laws_heldChain, rs_laws_heldChain, F_laws_heldChain⟩
def sc_laws_heldChain : SCode :=
 (.seq
 (.reg false [
 oX 2 (.box 2 0),
 oX 4 (.mv (kX 0))])
 (.seq
 (.reg false [
 oX 5 (.fieldA 1 2),
 oX 6 (.load false 1 5),
 oX 7 (.mv 1),
 oX 8 (.call .froz 89 [6, 7]),
 oX 1 (.mv 8)])
 (.seq
 (.seq
 (.reg false [
 oX 9 (.mv 1),
 oX 10 (.bin .lss 9 (kX 0))])
 (.cond 10
 (.seq
 (.reg false [
 oX 4 (.mv (kX (-1)))])
 .ret)
 .skip))
 (.seq
 (.reg false [
 oX 11 (.mv 1),
 oX 4 (.mv 11)])
 .ret))))
def ms_laws_heldChain : List MRes := [.tmp 4]
theorem n_laws_heldChain (NN : Nat) (x : DLL (Sig.tys ag_laws_heldChain)) : runS NN [fn_laws_heldSiteS] sc_laws_heldChain ms_laws_heldChain ag_laws_heldChain rs_laws_heldChain x = G_laws_heldChain NN x := by kernel_rfl
theorem k_laws_heldChain : chkS pX 38 sc_laws_heldChain.er ms_laws_heldChain 2 = true := by decide +kernel
theorem p_laws_heldChain : PureSpec pX 38 fn_laws_heldChain.M ∧ chkFun pX 38 = true :=
  pure_of_runS (T := [fn_laws_heldSiteS]) (sc := sc_laws_heldChain) (ms := ms_laws_heldChain) (args := ag_laws_heldChain) (res := rs_laws_heldChain) (SOk.cons p_laws_heldSiteS <| SOk.nil) follows_ok k_laws_heldChain F_laws_heldChain fun x y h => (n_laws_heldChain FUEL x).trans (f_laws_heldChain x y h)

def fn_laws_FnExactApplyBond : SFn := ⟨12, ag_laws_FnExactApplyBond, mu_laws_FnExactApplyBond, rs_laws_FnExactApplyBond, F_laws_FnExactApplyBond⟩
def sc_laws_FnExactApplyBond : SCode :=
 (.seq
 (.reg false [
 oX 3 (.box 2 0),
 oX 5 (.box 3 2),
 oX 6 (.mv (.k (.one (.v (.bool) (false)))))])
 (.seq
 (.reg false [
 oX 7 (.mv (kX 1048576))])
 (.seq
 (.reg false [
 oX 19 (.load true 2 3),
 oX 20 (.mv 7),
 oX 21 (.call .live 15 [19, 20]),
 oX 7 (.mv 21)])
 (.seq
 (.seq
 (.reg false [
 oX 22 (.mv 7),
 oX 23 (.bin .lss 22 (kX 0))])
 (.cond 23
 (.seq
 (.reg false [
 oX 6 (.mv (.k (.one (.v (.bool) (true)))))])
 .ret)
 .skip))
 (.seq
 (.reg false [
 oX 24 (.load true 3 5),
 oX 25 (.mv 7),
 oX 26 (.call .live 39 [24, 25]),
 oX 7 (.mv 26)])
 (.seq
 (.seq
 (.reg false [
 oX 27 (.mv 7),
 oX 28 (.bin .lss 27 (kX 0))])
 (.cond 28
 (.seq
 (.reg false [
 oX 6 (.mv (.k (.one (.v (.bool) (true)))))])
 .ret)
 .skip))
 (.seq
 (.reg true [
 oX 30 (.load true 2 3),
 oX 31 (.call .live 17 [30]),
 oX 32 (.mv 1),
 oX 33 (.load true 3 5),
 oX 34 (.call .live 41 [33]),
 oX 35 (.call .live 49 [31, 32, 34]),
 oX 29 (.mv 35),
 oX 36 (.ext 0 29),
 oX 37 (.ext 1 29),
 oX 8 (.alloc [zX, .nil gX]),
 uX (.store 2 8 36),
 oX 9 (.mv 37)])
 (.seq
 (.reg false [
 oX 38 (.load true 2 3),
 oX 39 (.call .live 17 [38]),
 oX 10 (.alloc [zX, .nil gX]),
 uX (.store 2 10 39)])
 (.seq
 (.reg false [
 oX 40 (.load true 3 5),
 oX 41 (.call .live 41 [40]),
 oX 11 (.alloc [zX, zX, .nil iX]),
 uX (.store 3 11 41)])
 (.seq
 (.reg false [
 oX 43 (.load true 2 10),
 oX 44 (.mv 1),
 oX 45 (.load true 3 11),
 oX 46 (.call .live 50 [43, 44, 45]),
 oX 42 (.mv 46),
 oX 47 (.ext 0 42),
 oX 48 (.ext 1 42),
 oX 12 (.alloc [zX, .nil gX]),
 uX (.store 2 12 47),
 oX 13 (.mv 48)])
 (.seq
 (.seq
 (.reg false [
 oX 49 (.load true 2 12),
 oX 50 (.load true 2 8),
 oX 51 (.call .live 19 [49, 50]),
 oX 52 (.un .not 51),
 oX 53 (.mv 52),
 ⟨(some 54), .mv 13, (some (53, false))⟩,
 ⟨(some 55), .mv 9, (some (53, false))⟩,
 ⟨(some 56), .binb .neq 54 55, (some (53, false))⟩,
 oX 57 (.pick 53 (.k (.one (.v (.bool) (true)))) 56)])
 (.cond 57
 (.seq
 (.reg false [
 oX 6 (.mv (.k (.one (.v (.bool) (false)))))])
 .ret)
 .skip))
 (.seq
 (.seq
 (.reg true [
 oX 58 (.load true 2 10),
 oX 59 (.load true 2 3),
 oX 60 (.call .live 17 [59]),
 oX 61 (.call .live 19 [58, 60]),
 oX 62 (.un .not 61)])
 (.cond 62
 (.seq
 (.reg false [
 oX 6 (.mv (.k (.one (.v (.bool) (false)))))])
 .ret)
 .skip))
 (.seq
 (.seq
 (.reg true [
 oX 63 (.load true 3 11),
 oX 64 (.load true 3 5),
 oX 65 (.call .live 41 [64]),
 oX 66 (.call .live 43 [63, 65]),
 oX 67 (.un .not 66)])
 (.cond 67
 (.seq
 (.reg false [
 oX 6 (.mv (.k (.one (.v (.bool) (false)))))])
 .ret)
 .skip))
 (.seq
 (.reg false [
 oX 14 (.mv (kX 1))])
 (.seq
 (.reg false [
 oX 68 (.load true 2 10),
 oX 69 (.mv 14),
 oX 70 (.callm .live 23 [68, 69]),
 oX 14 (.mv 70)])
 (.seq
 (.reg false [
 oX 71 (.load true 3 11),
 oX 72 (.mv 14),
 oX 73 (.callm .live 44 [71, 72]),
 oX 14 (.mv 73)])
 (.seq
 (.seq
 (.reg false [
 oX 74 (.mv 14),
 oX 75 (.bin .lss 74 (kX 0)),
 oX 76 (.mv 75),
 ⟨(some 77), .load true 2 12, (some (76, false))⟩,
 ⟨(some 78), .load true 2 8, (some (76, false))⟩,
 ⟨(some 79), .call .live 19 [77, 78], (some (76, false))⟩,
 ⟨(some 80), .un .not 79, (some (76, false))⟩,
 oX 81 (.pick 76 (.k (.one (.v (.bool) (true)))) 80),
 oX 82 (.mv 81),
 ⟨(some 83), .mv 13, (some (82, false))⟩,
 ⟨(some 84), .mv 9, (some (82, false))⟩,
 ⟨(some 85), .binb .neq 83 84, (some (82, false))⟩,
 oX 86 (.pick 82 (.k (.one (.v (.bool) (true)))) 85)])
 (.cond 86
 (.seq
 (.reg false [
 oX 6 (.mv (.k (.one (.v (.bool) (false)))))])
 .ret)
 .skip))
 (.seq
 (.reg false [
 oX 15 (.mv (kX 1))])
 (.seq
 (.reg false [
 oX 87 (.load true 2 12),
 oX 88 (.mv 15),
 oX 89 (.callm .live 23 [87, 88]),
 oX 15 (.mv 89)])
 (.seq
 (.reg false [
 oX 16 (.mv (kX 1))])
 (.seq
 (.reg false [
 oX 90 (.load true 2 12),
 oX 91 (.mv 16),
 oX 92 (.call .live 38 [90, 91]),
 oX 16 (.mv 92)])
 (.seq
 (.seq
 (.reg false [
 oX 93 (.mv 16),
 oX 94 (.bin .lss 93 (kX 0))])
 (.cond 94
 (.seq
 (.reg false [
 oX 6 (.mv (.k (.one (.v (.bool) (false)))))])
 .ret)
 .skip))
 (.seq
 (.seq
 (.reg false [
 oX 95 (.mv 16),
 oX 96 (.mv 15),
 oX 97 (.bin .neq 95 96)])
 (.cond 97
 (.seq
 (.reg false [
 oX 6 (.mv (.k (.one (.v (.bool) (false)))))])
 .ret)
 .skip))
 (.seq
 (.reg true [
 oX 99 (.load true 2 3),
 oX 100 (.call .live 17 [99]),
 oX 101 (.mv 1),
 oX 102 (.load true 3 5),
 oX 103 (.call .live 41 [102]),
 oX 104 (.call .live 50 [100, 101, 103]),
 oX 98 (.mv 104),
 oX 105 (.ext 0 98),
 oX 106 (.ext 1 98),
 oX 17 (.alloc [zX, .nil gX]),
 uX (.store 2 17 105),
 oX 18 (.mv 106)])
 (.seq
 (.seq
 (.reg false [
 oX 107 (.load true 2 17),
 oX 108 (.load true 2 8),
 oX 109 (.call .live 19 [107, 108]),
 oX 110 (.un .not 109),
 oX 111 (.mv 110),
 ⟨(some 112), .mv 18, (some (111, false))⟩,
 ⟨(some 113), .mv 9, (some (111, false))⟩,
 ⟨(some 114), .binb .neq 112 113, (some (111, false))⟩,
 oX 115 (.pick 111 (.k (.one (.v (.bool) (true)))) 114)])
 (.cond 115
 (.seq
 (.reg false [
 oX 6 (.mv (.k (.one (.v (.bool) (false)))))])
 .ret)
 .skip))
 (.seq
 (.reg false [
 oX 16 (.mv (kX 1))])
 (.seq
 (.reg false [
 oX 116 (.load true 2 12),
 oX 117 (.mv 16),
 oX 118 (.call .live 38 [116, 117]),
 oX 16 (.mv 118)])
 (.seq
 (.seq
 (.reg false [
 oX 119 (.mv 16),
 oX 120 (.bin .lss 119 (kX 0))])
 (.cond 120
 (.seq
 (.reg false [
 oX 6 (.mv (.k (.one (.v (.bool) (false)))))])
 .ret)
 .skip))
 (.seq
 (.seq
 (.reg false [
 oX 121 (.mv 16),
 oX 122 (.mv 15),
 oX 123 (.bin .neq 121 122)])
 (.cond 123
 (.seq
 (.reg false [
 oX 6 (.mv (.k (.one (.v (.bool) (false)))))])
 .ret)
 .skip))
 (.seq
 (.reg false [
 oX 6 (.mv (.k (.one (.v (.bool) (true)))))])
 .ret))))))))))))))))))))))))))))))
def ms_laws_FnExactApplyBond : List MRes := [.tmp 6]
theorem n_laws_FnExactApplyBond (NN : Nat) (x : DLL (Sig.tys ag_laws_FnExactApplyBond)) : runS NN [fn_laws_szChain, fn_laws_szMatrix, fn_laws_toChain, fn_laws_toMatrix, fn_spec_ApplyBond, fn_impl_ApplyBond, fn_laws_eqChain, fn_laws_eqMatrix, fn_laws_markChain, fn_laws_markMatrix, fn_laws_heldChain] sc_laws_FnExactApplyBond ms_laws_FnExactApplyBond ag_laws_FnExactApplyBond rs_laws_FnExactApplyBond x = G_laws_FnExactApplyBond NN x := by kernel_rfl
theorem k_laws_FnExactApplyBond : chkS pX 12 sc_laws_FnExactApplyBond.er ms_laws_FnExactApplyBond 3 = true := by decide +kernel
theorem p_laws_FnExactApplyBond : PureSpec pX 12 fn_laws_FnExactApplyBond.M ∧ chkFun pX 12 = true :=
  pure_of_runS (T := [fn_laws_szChain, fn_laws_szMatrix, fn_laws_toChain, fn_laws_toMatrix, fn_spec_ApplyBond, fn_impl_ApplyBond, fn_laws_eqChain, fn_laws_eqMatrix, fn_laws_markChain, fn_laws_markMatrix, fn_laws_heldChain]) (sc := sc_laws_FnExactApplyBond) (ms := ms_laws_FnExactApplyBond) (args := ag_laws_FnExactApplyBond) (res := rs_laws_FnExactApplyBond) (SOk.cons p_laws_szChain <| SOk.cons p_laws_szMatrix <| SOk.cons p_laws_toChain <| SOk.cons p_laws_toMatrix <| SOk.cons p_spec_ApplyBond <| SOk.cons p_impl_ApplyBond <| SOk.cons p_laws_eqChain <| SOk.cons p_laws_eqMatrix <| SOk.consM p_laws_markChain <| SOk.consM p_laws_markMatrix <| SOk.cons p_laws_heldChain <| SOk.nil) follows_ok k_laws_FnExactApplyBond F_laws_FnExactApplyBond fun x y h => (n_laws_FnExactApplyBond FUEL x).trans (f_laws_FnExactApplyBond x y h)

end Go.Am
