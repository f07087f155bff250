/- A_OverlapChains: the code of the functions of FnExactOverlapChains. No condition. -/
import Derived.Test.YtfoplfdfpanglaaLOverlapChains
import Derived.Test.YtfoplfdfpanglaaBr2
import Derived.KernelRfl
import Derived.Test.YtfoplfdfpanglaaRows
set_option linter.unusedVariables false
set_option maxRecDepth 100000
namespace Go.Am
theorem follows_ok : Go.Proofs.Try.prog.follows .mixedOrders = true := by decide +kernel
noncomputable abbrev pX := Go.Proofs.Try.prog
def oX (n : Nat) (x : SOp) : SOper := ⟨some n, x, none⟩
def uX (x : SOp) : SOper := ⟨none, x, none⟩
def kX (n : Int) : SMO := .k (.one (.v (.int .i64) n))
def sX : ShV := .one (.c (.v (.int .i64)))
def iX : List Ty := [.int .i64]
def lX : Ty := .list iX
def gX : List Ty := [.int .i64, .int .i64, .int .i64, lX]
def zX : SC := .v (.int .i64) (0 : Int)
def vX : ShC := .c (.v (.int .i64))
def fX (n k : Nat) : ShC := .c (.full n k)
def rX (n : Nat) : ShC := .c (.ptr0 n 0)
instance tX (n : Nat) : OfNat SMO n := ⟨.t n⟩
def fn_laws_szIntS : SFn := ⟨90, ag_laws_szIntS, mu_laws_szIntS, rs_laws_szIntS, F_laws_szIntS⟩
def sc_laws_szIntS : SCode :=
 (.seq
 (.reg false [
 oX 4 (.mv (kX 0))])
 (.seq
 (.reg false [
 oX 5 (.mv 1),
 oX 6 (.mv 0),
 oX 7 (.len 6),
 oX 8 (.bin .sub 5 7),
 oX 1 (.mv 8)])
 (.seq
 (.seq
 (.reg false [
 oX 9 (.mv 1),
 oX 10 (.bin .lss 9 (kX 0))])
 (.cond 10
 (.seq
 (.reg false [
 oX 4 (.mv (kX (-1)))])
 .ret)
 .skip))
 (.seq
 (.reg false [
 oX 11 (.mv 1),
 oX 4 (.mv 11)])
 .ret))))
def ms_laws_szIntS : List MRes := [.tmp 4]
theorem n_laws_szIntS (NN : Nat) (x : DLL (Sig.tys ag_laws_szIntS)) : runS NN [] sc_laws_szIntS ms_laws_szIntS ag_laws_szIntS rs_laws_szIntS x = G_laws_szIntS NN x := by kernel_rfl
theorem k_laws_szIntS : chkS pX 90 sc_laws_szIntS.er ms_laws_szIntS 2 = true := by decide +kernel
theorem p_laws_szIntS : PureSpec pX 90 fn_laws_szIntS.M ∧ chkFun pX 90 = true :=
  pure_of_runS (T := []) (sc := sc_laws_szIntS) (ms := ms_laws_szIntS) (args := ag_laws_szIntS) (res := rs_laws_szIntS) (SOk.nil) follows_ok k_laws_szIntS F_laws_szIntS fun x y h => (n_laws_szIntS FUEL x).trans (f_laws_szIntS x y h)

def fn_laws_szSite : SFn := ⟨125, ag_laws_szSite, mu_laws_szSite, rs_laws_szSite, F_laws_szSite⟩
def sc_laws_szSite : SCode :=
 (.seq
 (.reg false [
 oX 2 (.box 4 0),
 oX 4 (.mv (kX 0))])
 (.seq
 (.reg false [
 oX 5 (.fieldA 3 2),
 oX 6 (.load false 1 5),
 oX 7 (.mv 1),
 oX 8 (.call .froz 90 [6, 7]),
 oX 1 (.mv 8)])
 (.seq
 (.seq
 (.reg false [
 oX 9 (.mv 1),
 oX 10 (.bin .lss 9 (kX 0))])
 (.cond 10
 (.seq
 (.reg false [
 oX 4 (.mv (kX (-1)))])
 .ret)
 .skip))
 (.seq
 (.reg false [
 oX 11 (.mv 1),
 oX 4 (.mv 11)])
 .ret))))
def ms_laws_szSite : List MRes := [.tmp 4]
theorem n_laws_szSite (NN : Nat) (x : DLL (Sig.tys ag_laws_szSite)) : runS NN [fn_laws_szIntS] sc_laws_szSite ms_laws_szSite ag_laws_szSite rs_laws_szSite x = G_laws_szSite NN x := by kernel_rfl
theorem k_laws_szSite : chkS pX 125 sc_laws_szSite.er ms_laws_szSite 2 = true := by decide +kernel
theorem p_laws_szSite : PureSpec pX 125 fn_laws_szSite.M ∧ chkFun pX 125 = true :=
  pure_of_runS (T := [fn_laws_szIntS]) (sc := sc_laws_szSite) (ms := ms_laws_szSite) (args := ag_laws_szSite) (res := rs_laws_szSite) (SOk.cons p_laws_szIntS <| SOk.nil) follows_ok k_laws_szSite F_laws_szSite fun x y h => (n_laws_szSite FUEL x).trans (f_laws_szSite x y h)

def fn_laws_szSiteS : SFn := ⟨62, ag_laws_szSiteS, mu_laws_szSiteS, rs_laws_szSiteS, F_laws_szSiteS⟩
def sc_laws_szSiteS : SCode :=
 (.seq
 (.reg false [
 oX 4 (.mv (kX 0))])
 (.seq
 (.reg false [
 oX 6 (.mv 1),
 oX 7 (.mv 0),
 oX 8 (.len 7),
 oX 9 (.bin .sub 6 8),
 oX 1 (.mv 9)])
 (.seq
 (.seq
 (.reg false [
 oX 10 (.mv 1),
 oX 11 (.bin .lss 10 (kX 0))])
 (.cond 11
 (.seq
 (.reg false [
 oX 4 (.mv (kX (-1)))])
 .ret)
 .skip))
 (.seq
 (.seq
 (.reg false [
 oX 5 (.mv (kX 0))])
 (.join ⟨[(1, sX)], []⟩ [] []
 (.block 0
 (.loop 0 ⟨[(0, .one (.c (.v (.list gX)))), (1, sX), (5, sX)], []⟩ [] []
 (.seq
 (.seq
 (.reg false [
 oX 12 (.mv 5),
 oX 13 (.mv 0),
 oX 14 (.len 13),
 oX 15 (.bin .lss 12 14)])
 (.cond 15
 .skip
 (.exit 0)))
 (.seq
 (.block 1
 (.seq
 (.reg false [
 oX 18 (.mv 0),
 oX 19 (.mv 5),
 oX 20 (.idxA 4 18 19),
 oX 21 (.load true 4 20),
 oX 22 (.mv 1),
 oX 23 (.call .froz 125 [21, 22]),
 oX 1 (.mv 23)])
 (.seq
 (.reg false [
 oX 24 (.mv 1),
 oX 25 (.bin .lss 24 (kX 0))])
 (.cond 25
 (.seq
 (.reg false [
 oX 4 (.mv (kX (-1)))])
 .ret)
 .skip))))
 (.reg false [
 oX 16 (.mv 5),
 oX 17 (.bin .add 16 (kX 1)),
 oX 5 (.mv 17)])))))))
 (.seq
 (.reg false [
 oX 26 (.mv 1),
 oX 4 (.mv 26)])
 .ret)))))
def ms_laws_szSiteS : List MRes := [.tmp 4]
theorem n_laws_szSiteS (NN : Nat) (x : DLL (Sig.tys ag_laws_szSiteS)) : runS NN [fn_laws_szSite] sc_laws_szSiteS ms_laws_szSiteS ag_laws_szSiteS rs_laws_szSiteS x = G_laws_szSiteS NN x := by kernel_rfl
theorem k_laws_szSiteS : chkS pX 62 sc_laws_szSiteS.er ms_laws_szSiteS 2 = true := by decide +kernel
theorem p_laws_szSiteS : PureSpec pX 62 fn_laws_szSiteS.M ∧ chkFun pX 62 = true :=
  pure_of_runS (T := [fn_laws_szSite]) (sc := sc_laws_szSiteS) (ms := ms_laws_szSiteS) (args := ag_laws_szSiteS) (res := rs_laws_szSiteS) (SOk.cons p_laws_szSite <| SOk.nil) follows_ok k_laws_szSiteS F_laws_szSiteS fun x y h => (n_laws_szSiteS FUEL x).trans (f_laws_szSiteS x y h)

def fn_laws_szChain : SFn := ⟨15, ag_laws_szChain, mu_laws_szChain, rs_laws_szChain, F_laws_szChain⟩
def sc_laws_szChain : SCode :=
 (.seq
 (.reg false [
 oX 2 (.box 2 0),
 oX 4 (.mv (kX 0))])
 (.seq
 (.reg false [
 oX 5 (.fieldA 1 2),
 oX 6 (.load false 1 5),
 oX 7 (.mv 1),
 oX 8 (.call .froz 62 [6, 7]),
 oX 1 (.mv 8)])
 (.seq
 (.seq
 (.reg false [
 oX 9 (.mv 1),
 oX 10 (.bin .lss 9 (kX 0))])
 (.cond 10
 (.seq
 (.reg false [
 oX 4 (.mv (kX (-1)))])
 .ret)
 .skip))
 (.seq
 (.reg false [
 oX 11 (.mv 1),
 oX 4 (.mv 11)])
 .ret))))
def ms_laws_szChain : List MRes := [.tmp 4]
theorem n_laws_szChain (NN : Nat) (x : DLL (Sig.tys ag_laws_szChain)) : runS NN [fn_laws_szSiteS] sc_laws_szChain ms_laws_szChain ag_laws_szChain rs_laws_szChain x = G_laws_szChain NN x := by kernel_rfl
theorem k_laws_szChain : chkS pX 15 sc_laws_szChain.er ms_laws_szChain 2 = true := by decide +kernel
theorem p_laws_szChain : PureSpec pX 15 fn_laws_szChain.M ∧ chkFun pX 15 = true :=
  pure_of_runS (T := [fn_laws_szSiteS]) (sc := sc_laws_szChain) (ms := ms_laws_szChain) (args := ag_laws_szChain) (res := rs_laws_szChain) (SOk.cons p_laws_szSiteS <| SOk.nil) follows_ok k_laws_szChain F_laws_szChain fun x y h => (n_laws_szChain FUEL x).trans (f_laws_szChain x y h)

def fn_laws_szMatrix : SFn := ⟨39, ag_laws_szMatrix, mu_laws_szMatrix, rs_laws_szMatrix, F_laws_szMatrix⟩
def sc_laws_szMatrix : SCode :=
 (.seq
 (.reg false [
 oX 2 (.box 3 0),
 oX 4 (.mv (kX 0))])
 (.seq
 (.reg false [
 oX 5 (.fieldA 2 2),
 oX 6 (.load false 1 5),
 oX 7 (.mv 1),
 oX 8 (.call .froz 90 [6, 7]),
 oX 1 (.mv 8)])
 (.seq
 (.seq
 (.reg false [
 oX 9 (.mv 1),
 oX 10 (.bin .lss 9 (kX 0))])
 (.cond 10
 (.seq
 (.reg false [
 oX 4 (.mv (kX (-1)))])
 .ret)
 .skip))
 (.seq
 (.reg false [
 oX 11 (.mv 1),
 oX 4 (.mv 11)])
 .ret))))
def ms_laws_szMatrix : List MRes := [.tmp 4]
theorem n_laws_szMatrix (NN : Nat) (x : DLL (Sig.tys ag_laws_szMatrix)) : runS NN [fn_laws_szIntS] sc_laws_szMatrix ms_laws_szMatrix ag_laws_szMatrix rs_laws_szMatrix x = G_laws_szMatrix NN x := by kernel_rfl
theorem k_laws_szMatrix : chkS pX 39 sc_laws_szMatrix.er ms_laws_szMatrix 2 = true := by decide +kernel
theorem p_laws_szMatrix : PureSpec pX 39 fn_laws_szMatrix.M ∧ chkFun pX 39 = true :=
  pure_of_runS (T := [fn_laws_szIntS]) (sc := sc_laws_szMatrix) (ms := ms_laws_szMatrix) (args := ag_laws_szMatrix) (res := rs_laws_szMatrix) (SOk.cons p_laws_szIntS <| SOk.nil) follows_ok k_laws_szMatrix F_laws_szMatrix fun x y h => (n_laws_szMatrix FUEL x).trans (f_laws_szMatrix x y h)

def fn_laws_toIntS : SFn := ⟨27, ag_laws_toIntS, mu_laws_toIntS, rs_laws_toIntS, F_laws_toIntS⟩
def sc_laws_toIntS : SCode :=
 (.seq
 (.reg false [
 oX 2 (.mv (.k (.one (.nil iX))))])
 (.seq
 (.reg false [
 oX 5 (.mv 0),
 oX 6 (.len 5),
 oX 7 (.mkslice .froz iX 8 (0 : Int) 6 6),
 oX 3 (.mv 7)])
 (.seq
 (.seq
 (.reg false [
 oX 4 (.mv (kX 0))])
 (.join ⟨[(3, .one (fX 500001 1))], [(500001, .row true .froz iX)]⟩ [500000, 500001] [(false, 3, 0, 500001, .froz, [])]
 (.block 0
 (.loop 0 ⟨[(0, .one (.c (.v (lX)))), (3, .one (fX 500000 1)), (4, sX)], [(500000, .row true .froz iX)]⟩ [7, 500000] [(false, 3, 0, 500000, .froz, [])]
 (.seq
 (.seq
 (.reg false [
 oX 8 (.mv 4),
 oX 9 (.mv 0),
 oX 10 (.len 9),
 oX 11 (.bin .lss 8 10)])
 (.cond 11
 .skip
 (.exit 0)))
 (.seq
 (.block 1
 (.reg false [
 oX 14 (.mv 3),
 oX 15 (.mv 4),
 oX 16 (.mv 0),
 oX 17 (.mv 4),
 oX 18 (.idxA 1 16 17),
 oX 19 (.load false 1 18),
 oX 20 (.idxA 1 14 15),
 uX (.store 1 20 19)]))
 (.reg false [
 oX 12 (.mv 4),
 oX 13 (.bin .add 12 (kX 1)),
 oX 4 (.mv 13)])))))))
 (.seq
 (.reg false [
 oX 21 (.mv 3),
 oX 2 (.mv 21)])
 .ret))))
def ms_laws_toIntS : List MRes := [.tmp 2]
theorem n_laws_toIntS (NN : Nat) (x : DLL (Sig.tys ag_laws_toIntS)) : runS NN [] sc_laws_toIntS ms_laws_toIntS ag_laws_toIntS rs_laws_toIntS x = G_laws_toIntS NN x := by kernel_rfl
theorem k_laws_toIntS : chkS pX 27 sc_laws_toIntS.er ms_laws_toIntS 1 = true := by decide +kernel
theorem p_laws_toIntS : PureSpec pX 27 fn_laws_toIntS.M ∧ chkFun pX 27 = true :=
  pure_of_runS (T := []) (sc := sc_laws_toIntS) (ms := ms_laws_toIntS) (args := ag_laws_toIntS) (res := rs_laws_toIntS) (SOk.nil) follows_ok k_laws_toIntS F_laws_toIntS fun x y h => (n_laws_toIntS FUEL x).trans (f_laws_toIntS x y h)

def fn_laws_toSite : SFn := ⟨126, ag_laws_toSite, mu_laws_toSite, rs_laws_toSite, F_laws_toSite⟩
def sc_laws_toSite : SCode :=
 (.seq
 (.reg false [
 oX 1 (.box 4 0),
 oX 2 (.alloc [zX, zX, zX, .nil iX])])
 (.seq
 (.reg false [
 oX 3 (.alloc [zX, zX, zX, .nil iX])])
 (.seq
 (.reg false [
 oX 4 (.fieldA 0 1),
 oX 5 (.load false 1 4),
 oX 6 (.fieldA 0 3),
 uX (.store 1 6 5)])
 (.seq
 (.reg false [
 oX 7 (.fieldA 1 1),
 oX 8 (.load false 1 7),
 oX 9 (.fieldA 1 3),
 uX (.store 1 9 8)])
 (.seq
 (.reg false [
 oX 10 (.fieldA 2 1),
 oX 11 (.load false 1 10),
 oX 12 (.fieldA 2 3),
 uX (.store 1 12 11)])
 (.seq
 (.reg false [
 oX 13 (.fieldA 3 1),
 oX 14 (.load false 1 13),
 oX 15 (.call .froz 27 [14]),
 oX 16 (.fieldA 3 3),
 uX (.store 1 16 15)])
 (.seq
 (.reg false [
 oX 17 (.load true 4 3),
 uX (.store 4 2 17)])
 .ret)))))))
def ms_laws_toSite : List MRes := [.cell 2 4 true]
theorem n_laws_toSite (NN : Nat) (x : DLL (Sig.tys ag_laws_toSite)) : runS NN [fn_laws_toIntS] sc_laws_toSite ms_laws_toSite ag_laws_toSite rs_laws_toSite x = G_laws_toSite NN x := by kernel_rfl
theorem k_laws_toSite : chkS pX 126 sc_laws_toSite.er ms_laws_toSite 1 = true := by decide +kernel
theorem p_laws_toSite : PureSpec pX 126 fn_laws_toSite.M ∧ chkFun pX 126 = true :=
  pure_of_runS (T := [fn_laws_toIntS]) (sc := sc_laws_toSite) (ms := ms_laws_toSite) (args := ag_laws_toSite) (res := rs_laws_toSite) (SOk.cons p_laws_toIntS <| SOk.nil) follows_ok k_laws_toSite F_laws_toSite fun x y h => (n_laws_toSite FUEL x).trans (f_laws_toSite x y h)

def fn_laws_toSiteS : SFn := ⟨67, ag_laws_toSiteS, mu_laws_toSiteS, rs_laws_toSiteS, F_laws_toSiteS⟩
def sc_laws_toSiteS : SCode :=
 (.seq
 (.reg false [
 oX 2 (.mv (.k (.one (.nil gX))))])
 (.seq
 (.reg false [
 oX 5 (.mv 0),
 oX 6 (.len 5),
 oX 7 (.mkslice .froz gX 48 ((0 : Int), ((0 : Int), ((0 : Int), []))) 6 6),
 oX 3 (.mv 7)])
 (.seq
 (.seq
 (.reg false [
 oX 4 (.mv (kX 0))])
 (.join ⟨[(3, .one (fX 500001 4))], [(500001, .row true .froz gX)]⟩ [500000, 500001] [(false, 3, 0, 500001, .froz, [])]
 (.block 0
 (.loop 0 ⟨[(0, .one (.c (.v (.list gX)))), (3, .one (fX 500000 4)), (4, sX)], [(500000, .row true .froz gX)]⟩ [7, 500000] [(false, 3, 0, 500000, .froz, [])]
 (.seq
 (.seq
 (.reg false [
 oX 8 (.mv 4),
 oX 9 (.mv 0),
 oX 10 (.len 9),
 oX 11 (.bin .lss 8 10)])
 (.cond 11
 .skip
 (.exit 0)))
 (.seq
 (.block 1
 (.reg false [
 oX 14 (.mv 3),
 oX 15 (.mv 4),
 oX 16 (.mv 0),
 oX 17 (.mv 4),
 oX 18 (.idxA 4 16 17),
 oX 19 (.load true 4 18),
 oX 20 (.call .froz 126 [19]),
 oX 21 (.idxA 4 14 15),
 uX (.store 4 21 20)]))
 (.reg false [
 oX 12 (.mv 4),
 oX 13 (.bin .add 12 (kX 1)),
 oX 4 (.mv 13)])))))))
 (.seq
 (.reg false [
 oX 22 (.mv 3),
 oX 2 (.mv 22)])
 .ret))))
def ms_laws_toSiteS : List MRes := [.tmp 2]
theorem n_laws_toSiteS (NN : Nat) (x : DLL (Sig.tys ag_laws_toSiteS)) : runS NN [fn_laws_toSite] sc_laws_toSiteS ms_laws_toSiteS ag_laws_toSiteS rs_laws_toSiteS x = G_laws_toSiteS NN x := by kernel_rfl
theorem k_laws_toSiteS : chkS pX 67 sc_laws_toSiteS.er ms_laws_toSiteS 1 = true := by decide +kernel
theorem p_laws_toSiteS : PureSpec pX 67 fn_laws_toSiteS.M ∧ chkFun pX 67 = true :=
  pure_of_runS (T := [fn_laws_toSite]) (sc := sc_laws_toSiteS) (ms := ms_laws_toSiteS) (args := ag_laws_toSiteS) (res := rs_laws_toSiteS) (SOk.cons p_laws_toSite <| SOk.nil) follows_ok k_laws_toSiteS F_laws_toSiteS fun x y h => (n_laws_toSiteS FUEL x).trans (f_laws_toSiteS x y h)

def fn_laws_toChain : SFn := ⟨17, ag_laws_toChain, mu_laws_toChain, rs_laws_toChain, F_laws_toChain⟩
def sc_laws_toChain : SCode :=
 (.seq
 (.reg false [
 oX 1 (.box 2 0),
 oX 2 (.alloc [zX, .nil gX])])
 (.seq
 (.reg false [
 oX 3 (.alloc [zX, .nil gX])])
 (.seq
 (.reg false [
 oX 4 (.fieldA 0 1),
 oX 5 (.load false 1 4),
 oX 6 (.fieldA 0 3),
 uX (.store 1 6 5)])
 (.seq
 (.reg false [
 oX 7 (.fieldA 1 1),
 oX 8 (.load false 1 7),
 oX 9 (.call .froz 67 [8]),
 oX 10 (.fieldA 1 3),
 uX (.store 1 10 9)])
 (.seq
 (.reg false [
 oX 11 (.load true 2 3),
 uX (.store 2 2 11)])
 .ret)))))
def ms_laws_toChain : List MRes := [.cell 2 2 true]
theorem n_laws_toChain (NN : Nat) (x : DLL (Sig.tys ag_laws_toChain)) : runS NN [fn_laws_toSiteS] sc_laws_toChain ms_laws_toChain ag_laws_toChain rs_laws_toChain x = G_laws_toChain NN x := by kernel_rfl
theorem k_laws_toChain : chkS pX 17 sc_laws_toChain.er ms_laws_toChain 1 = true := by decide +kernel
theorem p_laws_toChain : PureSpec pX 17 fn_laws_toChain.M ∧ chkFun pX 17 = true :=
  pure_of_runS (T := [fn_laws_toSiteS]) (sc := sc_laws_toChain) (ms := ms_laws_toChain) (args := ag_laws_toChain) (res := rs_laws_toChain) (SOk.cons p_laws_toSiteS <| SOk.nil) follows_ok k_laws_toChain F_laws_toChain fun x y h => (n_laws_toChain FUEL x).trans (f_laws_toChain x y h)

def fn_laws_toMatrix : SFn := ⟨41, ag_laws_toMatrix, mu_laws_toMatrix, rs_laws_toMatrix, F_laws_toMatrix⟩
def sc_laws_toMatrix : SCode :=
 (.seq
 (.reg false [
 oX 1 (.box 3 0),
 oX 2 (.alloc [zX, zX, .nil iX])])
 (.seq
 (.reg false [
 oX 3 (.alloc [zX, zX, .nil iX])])
 (.seq
 (.reg false [
 oX 4 (.fieldA 0 1),
 oX 5 (.load false 1 4),
 oX 6 (.fieldA 0 3),
 uX (.store 1 6 5)])
 (.seq
 (.reg false [
 oX 7 (.fieldA 1 1),
 oX 8 (.load false 1 7),
 oX 9 (.fieldA 1 3),
 uX (.store 1 9 8)])
 (.seq
 (.reg false [
 oX 10 (.fieldA 2 1),
 oX 11 (.load false 1 10),
 oX 12 (.call .froz 27 [11]),
 oX 13 (.fieldA 2 3),
 uX (.store 1 13 12)])
 (.seq
 (.reg false [
 oX 14 (.load true 3 3),
 uX (.store 3 2 14)])
 .ret))))))
def ms_laws_toMatrix : List MRes := [.cell 2 3 true]
theorem n_laws_toMatrix (NN : Nat) (x : DLL (Sig.tys ag_laws_toMatrix)) : runS NN [fn_laws_toIntS] sc_laws_toMatrix ms_laws_toMatrix ag_laws_toMatrix rs_laws_toMatrix x = G_laws_toMatrix NN x := by kernel_rfl
theorem k_laws_toMatrix : chkS pX 41 sc_laws_toMatrix.er ms_laws_toMatrix 1 = true := by decide +kernel
theorem p_laws_toMatrix : PureSpec pX 41 fn_laws_toMatrix.M ∧ chkFun pX 41 = true :=
  pure_of_runS (T := [fn_laws_toIntS]) (sc := sc_laws_toMatrix) (ms := ms_laws_toMatrix) (args := ag_laws_toMatrix) (res := rs_laws_toMatrix) (SOk.cons p_laws_toIntS <| SOk.nil) follows_ok k_laws_toMatrix F_laws_toMatrix fun x y h => (n_laws_toMatrix FUEL x).trans (f_laws_toMatrix x y h)

def fn_spec_l01In : SFn := ⟨64, ag_spec_l01In, mu_spec_l01In, rs_spec_l01In, F_spec_l01In⟩
def sc_spec_l01In : SCode :=
 (.seq
 (.reg false [
 oX 6 (.mv (.k (.one (.v (.bool) (false)))))])
 (.seq
 (.reg false [
 oX 7 (.mv 0),
 oX 8 (.mv 1),
 oX 9 (.bin .geq 7 8),
 oX 10 (.mv 9),
 ⟨(some 11), .mv 0, (some (10, true))⟩,
 ⟨(some 12), .mv 2, (some (10, true))⟩,
 ⟨(some 13), .bin .leq 11 12, (some (10, true))⟩,
 oX 14 (.pick 10 13 (.k (.one (.v (.bool) (false))))),
 oX 6 (.mv 14)])
 .ret))
def ms_spec_l01In : List MRes := [.tmp 6]
theorem n_spec_l01In (NN : Nat) (x : DLL (Sig.tys ag_spec_l01In)) : runS NN [] sc_spec_l01In ms_spec_l01In ag_spec_l01In rs_spec_l01In x = G_spec_l01In NN x := by kernel_rfl
theorem k_spec_l01In : chkS pX 64 sc_spec_l01In.er ms_spec_l01In 3 = true := by decide +kernel
theorem p_spec_l01In : PureSpec pX 64 fn_spec_l01In.M ∧ chkFun pX 64 = true :=
  pure_of_runS (T := []) (sc := sc_spec_l01In) (ms := ms_spec_l01In) (args := ag_spec_l01In) (res := rs_spec_l01In) (SOk.nil) follows_ok k_spec_l01In F_spec_l01In fun x y h => (n_spec_l01In FUEL x).trans (f_spec_l01In x y h)

def fn_spec_IsPrime : SFn := ⟨63, ag_spec_IsPrime, mu_spec_IsPrime, rs_spec_IsPrime, F_spec_IsPrime⟩
def sc_spec_IsPrime : SCode :=
 (.seq
 (.reg false [
 oX 2 (.mv (.k (.one (.v (.bool) (false)))))])
 (.seq
 (.seq
 (.reg false [
 oX 3 (.mv (kX 2))])
 (.join ⟨[(0, sX)], []⟩ [] []
 (.block 0
 (.loop 0 ⟨[(0, sX), (3, sX)], []⟩ [] []
 (.seq
 (.seq
 (.reg false [
 oX 4 (.mv 3),
 oX 5 (.mv 3),
 oX 6 (.bin .mul 4 5),
 oX 7 (.mv 0),
 oX 8 (.bin .leq 6 7),
 oX 9 (.mv 8),
 ⟨(some 10), .mv 0, (some (9, true))⟩,
 ⟨(some 11), .bin .leq 10 (kX 1000003), (some (9, true))⟩,
 oX 12 (.pick 9 11 (.k (.one (.v (.bool) (false)))))])
 (.cond 12
 .skip
 (.exit 0)))
 (.seq
 (.block 1
 (.seq
 (.reg false [
 oX 15 (.mv 0),
 oX 16 (.mv 3),
 oX 17 (.bin .rem 15 16),
 oX 18 (.bin .eql 17 (kX 0))])
 (.cond 18
 (.seq
 (.reg false [
 oX 2 (.mv (.k (.one (.v (.bool) (false)))))])
 .ret)
 .skip)))
 (.reg false [
 oX 13 (.mv 3),
 oX 14 (.bin .add 13 (kX 1)),
 oX 3 (.mv 14)])))))))
 (.seq
 (.reg false [
 oX 19 (.mv 0),
 oX 20 (.call .froz 64 [19, (kX 2), (kX 1000003)]),
 oX 2 (.mv 20)])
 .ret)))
def ms_spec_IsPrime : List MRes := [.tmp 2]
theorem n_spec_IsPrime (NN : Nat) (x : DLL (Sig.tys ag_spec_IsPrime)) : runS NN [fn_spec_l01In] sc_spec_IsPrime ms_spec_IsPrime ag_spec_IsPrime rs_spec_IsPrime x = G_spec_IsPrime NN x := by kernel_rfl
theorem k_spec_IsPrime : chkS pX 63 sc_spec_IsPrime.er ms_spec_IsPrime 1 = true := by decide +kernel
theorem p_spec_IsPrime : PureSpec pX 63 fn_spec_IsPrime.M ∧ chkFun pX 63 = true :=
  pure_of_runS (T := [fn_spec_l01In]) (sc := sc_spec_IsPrime) (ms := ms_spec_IsPrime) (args := ag_spec_IsPrime) (res := rs_spec_IsPrime) (SOk.cons p_spec_l01In <| SOk.nil) follows_ok k_spec_IsPrime F_spec_IsPrime fun x y h => (n_spec_IsPrime FUEL x).trans (f_spec_IsPrime x y h)

def fn_spec_l32Dims : SFn := ⟨66, ag_spec_l32Dims, mu_spec_l32Dims, rs_spec_l32Dims, F_spec_l32Dims⟩
def sc_spec_l32Dims : SCode :=
 (.seq
 (.reg false [
 oX 1 (.box 2 0),
 oX 2 (.mv (.k (.one (.nil iX))))])
 (.seq
 (.reg false [
 oX 6 (.bslice iX []),
 oX 3 (.mv 6)])
 (.seq
 (.seq
 (.reg false [
 oX 7 (.fieldA 1 1),
 oX 8 (.load false 1 7),
 oX 9 (.len 8),
 oX 10 (.mv (kX 0))])
 (.join ⟨[(3, .one (fX 500001 1))], [(500001, .row true .froz iX)]⟩ [500000, 500001] [(false, 3, 0, 500001, .froz, [])]
 (.block 0
 (.loop 0 ⟨[(3, .one (fX 500000 1)), (8, .one (.c (.v (.list gX)))), (9, sX), (10, sX)], [(500000, .row true .froz iX)]⟩ [1, 6, 5, 17, 18, 500000] [(false, 3, 0, 500000, .froz, [])]
 (.seq
 (.reg false [
 oX 11 (.bin .lss 10 9)])
 (.seq
 (.cond 11
 .skip
 (.exit 0))
 (.seq
 (.block 1
 (.seq
 (.reg false [
 oX 12 (.idxA 4 8 10),
 oX 13 (.load true 4 12),
 oX 5 (.alloc [zX, zX, zX, .nil iX]),
 uX (.store 4 5 13)])
 (.reg false [
 oX 14 (.mv 3),
 oX 15 (.fieldA 1 5),
 oX 16 (.load false 1 15),
 oX 17 (.bslice iX [16]),
 oX 18 (.append true iX 8 14 17),
 oX 3 (.mv 18)])))
 (.reg false [
 oX 19 (.bin .add 10 (kX 1)),
 oX 10 (.mv 19)]))))))))
 (.seq
 (.reg false [
 oX 20 (.mv 3),
 oX 2 (.mv 20)])
 .ret))))
def ms_spec_l32Dims : List MRes := [.tmp 2]
theorem n_spec_l32Dims (NN : Nat) (x : DLL (Sig.tys ag_spec_l32Dims)) : runS NN [] sc_spec_l32Dims ms_spec_l32Dims ag_spec_l32Dims rs_spec_l32Dims x = G_spec_l32Dims NN x := by kernel_rfl
theorem k_spec_l32Dims : chkS pX 66 sc_spec_l32Dims.er ms_spec_l32Dims 1 = true := by decide +kernel
theorem p_spec_l32Dims : PureSpec pX 66 fn_spec_l32Dims.M ∧ chkFun pX 66 = true :=
  pure_of_runS (T := []) (sc := sc_spec_l32Dims) (ms := ms_spec_l32Dims) (args := ag_spec_l32Dims) (res := rs_spec_l32Dims) (SOk.nil) follows_ok k_spec_l32Dims F_spec_l32Dims fun x y h => (n_spec_l32Dims FUEL x).trans (f_spec_l32Dims x y h)

def fn_spec_l05Product : SFn := ⟨65, ag_spec_l05Product, mu_spec_l05Product, rs_spec_l05Product, F_spec_l05Product⟩
def sc_spec_l05Product : SCode :=
 (.seq
 (.reg false [
 oX 4 (.mv (kX 0))])
 (.seq
 (.reg false [
 oX 5 (.mv (kX 1))])
 (.seq
 (.seq
 (.reg false [
 oX 8 (.mv 0),
 oX 9 (.len 8),
 oX 10 (.mv (kX 0))])
 (.join ⟨[(5, sX)], []⟩ [] []
 (.block 0
 (.loop 0 ⟨[(1, sX), (5, sX), (8, .one (.c (.v (lX)))), (9, sX), (10, sX)], []⟩ [] []
 (.seq
 (.reg false [
 oX 11 (.bin .lss 10 9)])
 (.seq
 (.cond 11
 .skip
 (.exit 0))
 (.seq
 (.block 1
 (.seq
 (.reg false [
 oX 12 (.idxA 1 8 10),
 oX 13 (.load false 1 12),
 oX 7 (.mv 13)])
 (.reg false [
 oX 14 (.mv 5),
 oX 15 (.mv 7),
 oX 16 (.bin .mul 14 15),
 oX 17 (.mv 1),
 oX 18 (.bin .add 17 (kX 1)),
 oX 19 (.mm false 16 18),
 oX 5 (.mv 19)])))
 (.reg false [
 oX 20 (.bin .add 10 (kX 1)),
 oX 10 (.mv 20)]))))))))
 (.seq
 (.reg false [
 oX 21 (.mv 5),
 oX 4 (.mv 21)])
 .ret))))
def ms_spec_l05Product : List MRes := [.tmp 4]
theorem n_spec_l05Product (NN : Nat) (x : DLL (Sig.tys ag_spec_l05Product)) : runS NN [] sc_spec_l05Product ms_spec_l05Product ag_spec_l05Product rs_spec_l05Product x = G_spec_l05Product NN x := by kernel_rfl
theorem k_spec_l05Product : chkS pX 65 sc_spec_l05Product.er ms_spec_l05Product 2 = true := by decide +kernel
theorem p_spec_l05Product : PureSpec pX 65 fn_spec_l05Product.M ∧ chkFun pX 65 = true :=
  pure_of_runS (T := []) (sc := sc_spec_l05Product) (ms := ms_spec_l05Product) (args := ag_spec_l05Product) (res := rs_spec_l05Product) (SOk.nil) follows_ok k_spec_l05Product F_spec_l05Product fun x y h => (n_spec_l05Product FUEL x).trans (f_spec_l05Product x y h)

def fn_spec_ChainOk : SFn := ⟨16, ag_spec_ChainOk, mu_spec_ChainOk, rs_spec_ChainOk, F_spec_ChainOk⟩
def sc_spec_ChainOk : SCode :=
 (.seq
 (.reg false [
 oX 1 (.box 2 0),
 oX 2 (.mv (.k (.one (.v (.bool) (false)))))])
 (.seq
 (.seq
 (.reg false [
 oX 8 (.fieldA 0 1),
 oX 9 (.load false 1 8),
 oX 10 (.call .froz 63 [9]),
 oX 11 (.un .not 10),
 oX 12 (.mv 11),
 ⟨(some 13), .fieldA 1 1, (some (12, false))⟩,
 ⟨(some 14), .load false 1 13, (some (12, false))⟩,
 ⟨(some 15), .len 14, (some (12, false))⟩,
 ⟨(some 16), .call .froz 64 [15, (kX 1), (kX 8)], (some (12, false))⟩,
 ⟨(some 17), .un .not 16, (some (12, false))⟩,
 oX 18 (.pick 12 (.k (.one (.v (.bool) (true)))) 17)])
 (.cond 18
 (.seq
 (.reg false [
 oX 2 (.mv (.k (.one (.v (.bool) (false)))))])
 .ret)
 .skip))
 (.seq
 (.reg false [
 oX 3 (.mv (kX 1))])
 (.seq
 (.seq
 (.reg false [
 oX 19 (.fieldA 1 1),
 oX 20 (.load false 1 19),
 oX 21 (.len 20),
 oX 22 (.mv (kX 0))])
 (.join ⟨[(3, sX), (1, .one (rX 1))], [(1, .box [vX, .c (.v (.list gX))])]⟩ [1] []
 (.block 0
 (.loop 0 ⟨[(1, .one (rX 1)), (3, sX), (20, .one (.c (.v (.list gX)))), (21, sX), (22, sX)], [(1, .box [vX, .c (.v (.list gX))])]⟩ [1] []
 (.seq
 (.reg false [
 oX 23 (.bin .lss 22 21)])
 (.seq
 (.cond 23
 .skip
 (.exit 0))
 (.seq
 (.join ⟨[(22, sX), (1, .one (rX 1)), (3, sX), (20, .one (.c (.v (.list gX)))), (21, sX)], [(1, .box [vX, .c (.v (.list gX))])]⟩ [1, 5] []
 (.block 1
 (.seq
 (.reg false [
 oX 24 (.idxA 4 20 22),
 oX 25 (.load true 4 24),
 oX 5 (.alloc [zX, zX, zX, .nil iX]),
 uX (.store 4 5 25)])
 (.seq
 (.seq
 (.reg false [
 oX 26 (.fieldA 0 5),
 oX 27 (.load false 1 26),
 oX 28 (.mv 3),
 oX 29 (.bin .neq 27 28),
 oX 30 (.mv 29),
 ⟨(some 31), .fieldA 1 5, (some (30, false))⟩,
 ⟨(some 32), .load false 1 31, (some (30, false))⟩,
 ⟨(some 33), .call .froz 64 [32, (kX 1), (kX 8)], (some (30, false))⟩,
 ⟨(some 34), .un .not 33, (some (30, false))⟩,
 oX 35 (.pick 30 (.k (.one (.v (.bool) (true)))) 34),
 oX 36 (.mv 35),
 ⟨(some 37), .fieldA 2 5, (some (36, false))⟩,
 ⟨(some 38), .load false 1 37, (some (36, false))⟩,
 ⟨(some 39), .call .froz 64 [38, (kX 0), (kX 32)], (some (36, false))⟩,
 ⟨(some 40), .un .not 39, (some (36, false))⟩,
 oX 41 (.pick 36 (.k (.one (.v (.bool) (true)))) 40),
 oX 42 (.mv 41),
 ⟨(some 43), .fieldA 3 5, (some (42, false))⟩,
 ⟨(some 44), .load false 1 43, (some (42, false))⟩,
 ⟨(some 45), .len 44, (some (42, false))⟩,
 ⟨(some 46), .fieldA 0 5, (some (42, false))⟩,
 ⟨(some 47), .load false 1 46, (some (42, false))⟩,
 ⟨(some 48), .fieldA 1 5, (some (42, false))⟩,
 ⟨(some 49), .load false 1 48, (some (42, false))⟩,
 ⟨(some 50), .bin .mul 47 49, (some (42, false))⟩,
 ⟨(some 51), .fieldA 2 5, (some (42, false))⟩,
 ⟨(some 52), .load false 1 51, (some (42, false))⟩,
 ⟨(some 53), .bin .mul 50 52, (some (42, false))⟩,
 ⟨(some 54), .bin .neq 45 53, (some (42, false))⟩,
 oX 55 (.pick 42 (.k (.one (.v (.bool) (true)))) 54)])
 (.cond 55
 (.seq
 (.reg false [
 oX 2 (.mv (.k (.one (.v (.bool) (false)))))])
 .ret)
 .skip))
 (.seq
 (.seq
 (.reg false [
 oX 56 (.fieldA 3 5),
 oX 57 (.load false 1 56),
 oX 58 (.len 57),
 oX 59 (.mv (kX 0))])
 (.join ⟨[(5, .one (rX 5)), (22, sX), (1, .one (rX 1)), (20, .one (.c (.v (.list gX)))), (21, sX)], [(1, .box [vX, .c (.v (.list gX))]), (5, .box [vX, vX, vX, .c (.v (lX))])]⟩ [1, 5] []
 (.block 2
 (.loop 0 ⟨[(1, .one (rX 1)), (5, .one (rX 5)), (20, .one (.c (.v (.list gX)))), (21, sX), (22, sX), (57, .one (.c (.v (lX)))), (58, sX), (59, sX)], [(1, .box [vX, .c (.v (.list gX))]), (5, .box [vX, vX, vX, .c (.v (lX))])]⟩ [1, 5] []
 (.seq
 (.reg false [
 oX 60 (.bin .lss 59 58)])
 (.seq
 (.cond 60
 .skip
 (.exit 2))
 (.seq
 (.block 3
 (.seq
 (.reg false [
 oX 61 (.idxA 1 57 59),
 oX 62 (.load false 1 61),
 oX 7 (.mv 62)])
 (.seq
 (.reg false [
 oX 63 (.mv 7),
 oX 64 (.fieldA 0 1),
 oX 65 (.load false 1 64),
 oX 66 (.bin .sub 65 (kX 1)),
 oX 67 (.call .froz 64 [63, (kX 0), 66]),
 oX 68 (.un .not 67)])
 (.cond 68
 (.seq
 (.reg false [
 oX 2 (.mv (.k (.one (.v (.bool) (false)))))])
 .ret)
 .skip))))
 (.reg false [
 oX 69 (.bin .add 59 (kX 1)),
 oX 59 (.mv 69)]))))))))
 (.reg false [
 oX 70 (.fieldA 2 5),
 oX 71 (.load false 1 70),
 oX 3 (.mv 71)]))))))
 (.reg false [
 oX 72 (.bin .add 22 (kX 1)),
 oX 22 (.mv 72)]))))))))
 (.seq
 (.reg false [
 oX 73 (.mv 3),
 oX 74 (.bin .eql 73 (kX 1)),
 oX 75 (.mv 74),
 ⟨(some 76), .load true 2 1, (some (75, true))⟩,
 ⟨(some 77), .call .froz 66 [76], (some (75, true))⟩,
 ⟨(some 78), .call .froz 65 [77, (kX 4096)], (some (75, true))⟩,
 ⟨(some 79), .bin .leq 78 (kX 4096), (some (75, true))⟩,
 oX 80 (.pick 75 79 (.k (.one (.v (.bool) (false))))),
 oX 2 (.mv 80)])
 .ret)))))
def ms_spec_ChainOk : List MRes := [.tmp 2]
theorem n_spec_ChainOk (NN : Nat) (x : DLL (Sig.tys ag_spec_ChainOk)) : runS NN [fn_spec_IsPrime, fn_spec_l01In, fn_spec_l32Dims, fn_spec_l05Product] sc_spec_ChainOk ms_spec_ChainOk ag_spec_ChainOk rs_spec_ChainOk x = G_spec_ChainOk NN x := by kernel_rfl
theorem k_spec_ChainOk : chkS pX 16 sc_spec_ChainOk.er ms_spec_ChainOk 1 = true := by decide +kernel
theorem p_spec_ChainOk : PureSpec pX 16 fn_spec_ChainOk.M ∧ chkFun pX 16 = true :=
  pure_of_runS (T := [fn_spec_IsPrime, fn_spec_l01In, fn_spec_l32Dims, fn_spec_l05Product]) (sc := sc_spec_ChainOk) (ms := ms_spec_ChainOk) (args := ag_spec_ChainOk) (res := rs_spec_ChainOk) (SOk.cons p_spec_IsPrime <| SOk.cons p_spec_l01In <| SOk.cons p_spec_l32Dims <| SOk.cons p_spec_l05Product <| SOk.nil) follows_ok k_spec_ChainOk F_spec_ChainOk fun x y h => (n_spec_ChainOk FUEL x).trans (f_spec_ChainOk x y h)

def fn_spec_MatrixOk : SFn := ⟨91, ag_spec_MatrixOk, mu_spec_MatrixOk, rs_spec_MatrixOk, F_spec_MatrixOk⟩
def sc_spec_MatrixOk : SCode :=
 (.seq
 (.reg false [
 oX 3 (.box 3 1),
 oX 4 (.mv (.k (.one (.v (.bool) (false)))))])
 (.seq
 (.seq
 (.reg false [
 oX 7 (.mv 0),
 oX 8 (.call .froz 63 [7]),
 oX 9 (.un .not 8),
 oX 10 (.mv 9),
 ⟨(some 11), .fieldA 0 3, (some (10, false))⟩,
 ⟨(some 12), .load false 1 11, (some (10, false))⟩,
 ⟨(some 13), .call .froz 64 [12, (kX 0), (kX 64)], (some (10, false))⟩,
 ⟨(some 14), .un .not 13, (some (10, false))⟩,
 oX 15 (.pick 10 (.k (.one (.v (.bool) (true)))) 14),
 oX 16 (.mv 15),
 ⟨(some 17), .fieldA 1 3, (some (16, false))⟩,
 ⟨(some 18), .load false 1 17, (some (16, false))⟩,
 ⟨(some 19), .call .froz 64 [18, (kX 0), (kX 64)], (some (16, false))⟩,
 ⟨(some 20), .un .not 19, (some (16, false))⟩,
 oX 21 (.pick 16 (.k (.one (.v (.bool) (true)))) 20),
 oX 22 (.mv 21),
 ⟨(some 23), .fieldA 2 3, (some (22, false))⟩,
 ⟨(some 24), .load false 1 23, (some (22, false))⟩,
 ⟨(some 25), .len 24, (some (22, false))⟩,
 ⟨(some 26), .fieldA 0 3, (some (22, false))⟩,
 ⟨(some 27), .load false 1 26, (some (22, false))⟩,
 ⟨(some 28), .fieldA 1 3, (some (22, false))⟩,
 ⟨(some 29), .load false 1 28, (some (22, false))⟩,
 ⟨(some 30), .bin .mul 27 29, (some (22, false))⟩,
 ⟨(some 31), .bin .neq 25 30, (some (22, false))⟩,
 oX 32 (.pick 22 (.k (.one (.v (.bool) (true)))) 31)])
 (.cond 32
 (.seq
 (.reg false [
 oX 4 (.mv (.k (.one (.v (.bool) (false)))))])
 .ret)
 .skip))
 (.seq
 (.seq
 (.reg false [
 oX 33 (.fieldA 2 3),
 oX 34 (.load false 1 33),
 oX 35 (.len 34),
 oX 36 (.mv (kX 0))])
 (.join ⟨[], []⟩ [] []
 (.block 0
 (.loop 0 ⟨[(0, sX), (34, .one (.c (.v (lX)))), (35, sX), (36, sX)], []⟩ [3] []
 (.seq
 (.reg false [
 oX 37 (.bin .lss 36 35)])
 (.seq
 (.cond 37
 .skip
 (.exit 0))
 (.seq
 (.block 1
 (.seq
 (.reg false [
 oX 38 (.idxA 1 34 36),
 oX 39 (.load false 1 38),
 oX 6 (.mv 39)])
 (.seq
 (.reg false [
 oX 40 (.mv 6),
 oX 41 (.mv 0),
 oX 42 (.bin .sub 41 (kX 1)),
 oX 43 (.call .froz 64 [40, (kX 0), 42]),
 oX 44 (.un .not 43)])
 (.cond 44
 (.seq
 (.reg false [
 oX 4 (.mv (.k (.one (.v (.bool) (false)))))])
 .ret)
 .skip))))
 (.reg false [
 oX 45 (.bin .add 36 (kX 1)),
 oX 36 (.mv 45)]))))))))
 (.seq
 (.reg false [
 oX 4 (.mv (.k (.one (.v (.bool) (true)))))])
 .ret))))
def ms_spec_MatrixOk : List MRes := [.tmp 4]
theorem n_spec_MatrixOk (NN : Nat) (x : DLL (Sig.tys ag_spec_MatrixOk)) : runS NN [fn_spec_IsPrime, fn_spec_l01In] sc_spec_MatrixOk ms_spec_MatrixOk ag_spec_MatrixOk rs_spec_MatrixOk x = G_spec_MatrixOk NN x := by kernel_rfl
theorem k_spec_MatrixOk : chkS pX 91 sc_spec_MatrixOk.er ms_spec_MatrixOk 2 = true := by decide +kernel
theorem p_spec_MatrixOk : PureSpec pX 91 fn_spec_MatrixOk.M ∧ chkFun pX 91 = true :=
  pure_of_runS (T := [fn_spec_IsPrime, fn_spec_l01In]) (sc := sc_spec_MatrixOk) (ms := ms_spec_MatrixOk) (args := ag_spec_MatrixOk) (res := rs_spec_MatrixOk) (SOk.cons p_spec_IsPrime <| SOk.cons p_spec_l01In <| SOk.nil) follows_ok k_spec_MatrixOk F_spec_MatrixOk fun x y h => (n_spec_MatrixOk FUEL x).trans (f_spec_MatrixOk x y h)

def fn_spec_l05Ints : SFn := ⟨122, ag_spec_l05Ints, mu_spec_l05Ints, rs_spec_l05Ints, F_spec_l05Ints⟩
def sc_spec_l05Ints : SCode :=
 (.seq
 (.reg false [
 oX 2 (.mv (.k (.one (.nil iX))))])
 (.seq
 (.reg false [
 oX 3 (.bslice iX []),
 oX 4 (.mv 0),
 oX 5 (.append true iX 8 3 4),
 oX 2 (.mv 5)])
 .ret))
def ms_spec_l05Ints : List MRes := [.tmp 2]
theorem n_spec_l05Ints (NN : Nat) (x : DLL (Sig.tys ag_spec_l05Ints)) : runS NN [] sc_spec_l05Ints ms_spec_l05Ints ag_spec_l05Ints rs_spec_l05Ints x = G_spec_l05Ints NN x := by kernel_rfl
theorem k_spec_l05Ints : chkS pX 122 sc_spec_l05Ints.er ms_spec_l05Ints 1 = true := by decide +kernel
theorem p_spec_l05Ints : PureSpec pX 122 fn_spec_l05Ints.M ∧ chkFun pX 122 = true :=
  pure_of_runS (T := []) (sc := sc_spec_l05Ints) (ms := ms_spec_l05Ints) (args := ag_spec_l05Ints) (res := rs_spec_l05Ints) (SOk.nil) follows_ok k_spec_l05Ints F_spec_l05Ints fun x y h => (n_spec_l05Ints FUEL x).trans (f_spec_l05Ints x y h)

def fn_spec_l32Copy : SFn := ⟨92, ag_spec_l32Copy, mu_spec_l32Copy, rs_spec_l32Copy, F_spec_l32Copy⟩
def sc_spec_l32Copy : SCode :=
 (.seq
 (.reg false [
 oX 1 (.box 2 0),
 oX 2 (.alloc [zX, .nil gX])])
 (.seq
 (.reg false [
 oX 6 (.fieldA 0 1),
 oX 7 (.load false 1 6),
 oX 8 (.build [zX, .nil gX] [(0, 1, 7)]),
 oX 3 (.alloc [zX, .nil gX]),
 uX (.store 2 3 8)])
 (.seq
 (.seq
 (.reg false [
 oX 9 (.fieldA 1 1),
 oX 10 (.load false 1 9),
 oX 11 (.len 10),
 oX 12 (.mv (kX 0))])
 (.join ⟨[(3, .one (rX 3)), (2, .one (rX 2))], [(2, .box [vX, fX 500002 4]), (3, .box [vX, fX 500003 4]), (500002, .row true .froz gX), (500003, .row true .froz gX)]⟩ [2, 3, 500000, 500001, 500002, 500003] [(true, 2, 1, 500002, .froz, []), (true, 3, 1, 500003, .froz, [])]
 (.block 0
 (.loop 0 ⟨[(2, .one (rX 2)), (3, .one (rX 3)), (10, .one (.c (.v (.list gX)))), (11, sX), (12, sX)], [(2, .box [vX, fX 500000 4]), (3, .box [vX, fX 500001 4]), (500000, .row true .froz gX), (500001, .row true .froz gX)]⟩ [1, 2, 3, 5, 29, 500000, 500001] [(true, 2, 1, 500000, .froz, []), (true, 3, 1, 500001, .froz, [])]
 (.seq
 (.reg false [
 oX 13 (.bin .lss 12 11)])
 (.seq
 (.cond 13
 .skip
 (.exit 0))
 (.seq
 (.block 1
 (.seq
 (.reg false [
 oX 14 (.idxA 4 10 12),
 oX 15 (.load true 4 14),
 oX 5 (.alloc [zX, zX, zX, .nil iX]),
 uX (.store 4 5 15)])
 (.regD [(0, 12), (1, 12)] [
 oX 16 (.fieldA 1 3),
 oX 17 (.load false 1 16),
 oX 18 (.fieldA 0 5),
 oX 19 (.load false 1 18),
 oX 20 (.fieldA 1 5),
 oX 21 (.load false 1 20),
 oX 22 (.fieldA 2 5),
 oX 23 (.load false 1 22),
 oX 24 (.fieldA 3 5),
 oX 25 (.load false 1 24),
 oX 26 (.call .froz 122 [25]),
 oX 27 (.build [zX, zX, zX, .nil iX] [(0, 1, 19), (1, 1, 21), (2, 1, 23), (3, 1, 26)]),
 oX 28 (.bslice gX [27]),
 oX 29 (.append false gX 48 17 28),
 oX 30 (.fieldA 1 3),
 uX (.store 1 30 29)])))
 (.reg false [
 oX 31 (.bin .add 12 (kX 1)),
 oX 12 (.mv 31)]))))))))
 (.seq
 (.reg false [
 oX 32 (.load true 2 3),
 uX (.store 2 2 32)])
 .ret))))
def ms_spec_l32Copy : List MRes := [.cell 2 2 true]
theorem n_spec_l32Copy (NN : Nat) (x : DLL (Sig.tys ag_spec_l32Copy)) : runS NN [fn_spec_l05Ints] sc_spec_l32Copy ms_spec_l32Copy ag_spec_l32Copy rs_spec_l32Copy x = G_spec_l32Copy NN x := by kernel_rfl
theorem k_spec_l32Copy : chkS pX 92 sc_spec_l32Copy.er ms_spec_l32Copy 1 = true := by decide +kernel
theorem p_spec_l32Copy : PureSpec pX 92 fn_spec_l32Copy.M ∧ chkFun pX 92 = true :=
  pure_of_runS (T := [fn_spec_l05Ints]) (sc := sc_spec_l32Copy) (ms := ms_spec_l32Copy) (args := ag_spec_l32Copy) (res := rs_spec_l32Copy) (SOk.cons p_spec_l05Ints <| SOk.nil) follows_ok k_spec_l32Copy F_spec_l32Copy fun x y h => (n_spec_l32Copy FUEL x).trans (f_spec_l32Copy x y h)

def fn_spec_l31New : SFn := ⟨77, ag_spec_l31New, mu_spec_l31New, rs_spec_l31New, F_spec_l31New⟩
def sc_spec_l31New : SCode :=
 (.seq
 (.reg false [
 oX 4 (.alloc [zX, zX, .nil iX])])
 (.seq
 (.reg false [
 oX 5 (.mv 0),
 oX 6 (.mv 1),
 oX 7 (.mv 0),
 oX 8 (.mv 1),
 oX 9 (.bin .mul 7 8),
 oX 10 (.mkslice .froz iX 8 (0 : Int) 9 9),
 oX 11 (.build [zX, zX, .nil iX] [(0, 1, 5), (1, 1, 6), (2, 1, 10)]),
 uX (.store 3 4 11)])
 .ret))
def ms_spec_l31New : List MRes := [.cell 4 3 true]
theorem n_spec_l31New (NN : Nat) (x : DLL (Sig.tys ag_spec_l31New)) : runS NN [] sc_spec_l31New ms_spec_l31New ag_spec_l31New rs_spec_l31New x = G_spec_l31New NN x := by kernel_rfl
theorem k_spec_l31New : chkS pX 77 sc_spec_l31New.er ms_spec_l31New 2 = true := by decide +kernel
theorem p_spec_l31New : PureSpec pX 77 fn_spec_l31New.M ∧ chkFun pX 77 = true :=
  pure_of_runS (T := []) (sc := sc_spec_l31New) (ms := ms_spec_l31New) (args := ag_spec_l31New) (res := rs_spec_l31New) (SOk.nil) follows_ok k_spec_l31New F_spec_l31New fun x y h => (n_spec_l31New FUEL x).trans (f_spec_l31New x y h)

def fn_spec_l31Mul : SFn := ⟨78, ag_spec_l31Mul, mu_spec_l31Mul, rs_spec_l31Mul, F_spec_l31Mul⟩
def sc_spec_l31Mul : SCode :=
 (.seq
 (.reg false [
 oX 4 (.box 3 1),
 oX 5 (.box 3 2),
 oX 6 (.alloc [zX, zX, .nil iX])])
 (.seq
 (.reg false [
 oX 12 (.fieldA 0 4),
 oX 13 (.load false 1 12),
 oX 14 (.fieldA 1 5),
 oX 15 (.load false 1 14),
 oX 16 (.call .froz 77 [13, 15]),
 oX 7 (.alloc [zX, zX, .nil iX]),
 uX (.store 3 7 16)])
 (.seq
 (.seq
 (.reg false [
 oX 8 (.mv (kX 0))])
 (.join ⟨[(7, .one (rX 7)), (6, .one (rX 6))], [(6, .box [vX, vX, fX 500012 1]), (7, .box [vX, vX, fX 500013 1]), (500012, .row true .froz iX), (500013, .row true .froz iX)]⟩ [4, 5, 6, 7, 500000, 500001, 500012, 500013] [(true, 6, 2, 500012, .froz, []), (true, 7, 2, 500013, .froz, [])]
 (.block 0
 (.loop 0 ⟨[(0, sX), (4, .one (rX 4)), (5, .one (rX 5)), (6, .one (rX 6)), (7, .one (rX 7)), (8, sX)], [(4, .box [vX, vX, .c (.v (lX))]), (5, .box [vX, vX, .c (.v (lX))]), (6, .box [vX, vX, fX 500000 1]), (7, .box [vX, vX, fX 500001 1]), (500000, .row true .froz iX), (500001, .row true .froz iX)]⟩ [4, 5, 6, 17000, 7, 500000, 500001, 500010, 500011] [(true, 6, 2, 500000, .froz, []), (true, 7, 2, 500001, .froz, [])]
 (.seq
 (.seq
 (.reg false [
 oX 17 (.mv 8),
 oX 18 (.fieldA 0 4),
 oX 19 (.load false 1 18),
 oX 20 (.bin .lss 17 19)])
 (.cond 20
 .skip
 (.exit 0)))
 (.seq
 (.join ⟨[(8, sX), (0, sX), (4, .one (rX 4)), (5, .one (rX 5)), (6, .one (rX 6)), (7, .one (rX 7))], [(4, .box [vX, vX, .c (.v (lX))]), (5, .box [vX, vX, .c (.v (lX))]), (6, .box [vX, vX, fX 500010 1]), (7, .box [vX, vX, fX 500011 1]), (500010, .row true .froz iX), (500011, .row true .froz iX)]⟩ [4, 5, 6, 7, 500002, 500003, 500010, 500011] [(true, 6, 2, 500010, .froz, []), (true, 7, 2, 500011, .froz, [])]
 (.block 1
 (.seq
 (.reg false [
 oX 9 (.mv (kX 0))])
 (.block 2
 (.loop 0 ⟨[(0, sX), (4, .one (rX 4)), (5, .one (rX 5)), (6, .one (rX 6)), (7, .one (rX 7)), (8, sX), (9, sX)], [(4, .box [vX, vX, .c (.v (lX))]), (5, .box [vX, vX, .c (.v (lX))]), (6, .box [vX, vX, fX 500002 1]), (7, .box [vX, vX, fX 500003 1]), (500002, .row true .froz iX), (500003, .row true .froz iX)]⟩ [4, 5, 6, 7, 500000, 500001, 500002, 500003, 500008, 500009] [(true, 6, 2, 500002, .froz, []), (true, 7, 2, 500003, .froz, [])]
 (.seq
 (.seq
 (.reg false [
 oX 23 (.mv 9),
 oX 24 (.fieldA 1 5),
 oX 25 (.load false 1 24),
 oX 26 (.bin .lss 23 25)])
 (.cond 26
 .skip
 (.exit 2)))
 (.seq
 (.join ⟨[(9, sX), (0, sX), (4, .one (rX 4)), (5, .one (rX 5)), (6, .one (rX 6)), (7, .one (rX 7)), (8, sX)], [(4, .box [vX, vX, .c (.v (lX))]), (5, .box [vX, vX, .c (.v (lX))]), (6, .box [vX, vX, fX 500008 1]), (7, .box [vX, vX, fX 500009 1]), (500008, .row true .froz iX), (500009, .row true .froz iX)]⟩ [4, 5, 6, 7, 500006, 500007, 500008, 500009] [(true, 6, 2, 500008, .froz, []), (true, 7, 2, 500009, .froz, [])]
 (.block 3
 (.seq
 (.reg false [
 oX 10 (.mv (kX 0))])
 (.seq
 (.seq
 (.reg false [
 oX 11 (.mv (kX 0))])
 (.join ⟨[(10, sX), (9, sX), (0, sX), (4, .one (rX 4)), (5, .one (rX 5)), (6, .one (rX 6)), (7, .one (rX 7)), (8, sX)], [(4, .box [vX, vX, .c (.v (lX))]), (5, .box [vX, vX, .c (.v (lX))]), (6, .box [vX, vX, fX 500006 1]), (7, .box [vX, vX, fX 500007 1]), (500006, .row true .froz iX), (500007, .row true .froz iX)]⟩ [4, 5, 6, 7, 500004, 500005, 500006, 500007] [(true, 6, 2, 500006, .froz, []), (true, 7, 2, 500007, .froz, [])]
 (.block 4
 (.loop 0 ⟨[(0, sX), (4, .one (rX 4)), (5, .one (rX 5)), (6, .one (rX 6)), (7, .one (rX 7)), (8, sX), (9, sX), (10, sX), (11, sX)], [(4, .box [vX, vX, .c (.v (lX))]), (5, .box [vX, vX, .c (.v (lX))]), (6, .box [vX, vX, fX 500004 1]), (7, .box [vX, vX, fX 500005 1]), (500004, .row true .froz iX), (500005, .row true .froz iX)]⟩ [4, 5, 6, 7, 500002, 500003, 500004, 500005] [(true, 6, 2, 500004, .froz, []), (true, 7, 2, 500005, .froz, [])]
 (.seq
 (.seq
 (.reg false [
 oX 29 (.mv 11),
 oX 30 (.fieldA 1 4),
 oX 31 (.load false 1 30),
 oX 32 (.bin .lss 29 31)])
 (.cond 32
 .skip
 (.exit 4)))
 (.seq
 (.block 5
 (.reg true [
 oX 35 (.mv 10),
 oX 36 (.fieldA 2 4),
 oX 37 (.load false 1 36),
 oX 38 (.mv 8),
 oX 39 (.fieldA 1 4),
 oX 40 (.load false 1 39),
 oX 41 (.bin .mul 38 40),
 oX 42 (.mv 11),
 oX 43 (.bin .add 41 42),
 oX 44 (.idxA 1 37 43),
 oX 45 (.load false 1 44),
 oX 46 (.fieldA 2 5),
 oX 47 (.load false 1 46),
 oX 48 (.mv 11),
 oX 49 (.fieldA 1 5),
 oX 50 (.load false 1 49),
 oX 51 (.bin .mul 48 50),
 oX 52 (.mv 9),
 oX 53 (.bin .add 51 52),
 oX 54 (.idxA 1 47 53),
 oX 55 (.load false 1 54),
 oX 56 (.bin .mul 45 55),
 oX 57 (.bin .add 35 56),
 oX 58 (.mv 0),
 oX 59 (.bin .rem 57 58),
 oX 10 (.mv 59)]))
 (.reg false [
 oX 33 (.mv 11),
 oX 34 (.bin .add 33 (kX 1)),
 oX 11 (.mv 34)])))))))
 (.reg false [
 oX 60 (.fieldA 2 7),
 oX 61 (.load false 1 60),
 oX 62 (.mv 8),
 oX 63 (.fieldA 1 5),
 oX 64 (.load false 1 63),
 oX 65 (.bin .mul 62 64),
 oX 66 (.mv 9),
 oX 67 (.bin .add 65 66),
 oX 68 (.mv 10),
 oX 69 (.idxA 1 61 67),
 uX (.store 1 69 68)])))))
 (.reg false [
 oX 27 (.mv 9),
 oX 28 (.bin .add 27 (kX 1)),
 oX 9 (.mv 28)]))))))))
 (.reg false [
 oX 21 (.mv 8),
 oX 22 (.bin .add 21 (kX 1)),
 oX 8 (.mv 22)])))))))
 (.seq
 (.reg false [
 oX 70 (.load true 3 7),
 uX (.store 3 6 70)])
 .ret))))
def ms_spec_l31Mul : List MRes := [.cell 6 3 true]
theorem n_spec_l31Mul (NN : Nat) (x : DLL (Sig.tys ag_spec_l31Mul)) : runS NN [fn_spec_l31New] sc_spec_l31Mul ms_spec_l31Mul ag_spec_l31Mul rs_spec_l31Mul x = G_spec_l31Mul NN x := by kernel_rfl
theorem k_spec_l31Mul : chkS pX 78 sc_spec_l31Mul.er ms_spec_l31Mul 3 = true := by decide +kernel
theorem p_spec_l31Mul : PureSpec pX 78 fn_spec_l31Mul.M ∧ chkFun pX 78 = true :=
  pure_of_runS (T := [fn_spec_l31New]) (sc := sc_spec_l31Mul) (ms := ms_spec_l31Mul) (args := ag_spec_l31Mul) (res := rs_spec_l31Mul) (SOk.cons p_spec_l31New <| SOk.nil) follows_ok k_spec_l31Mul F_spec_l31Mul fun x y h => (n_spec_l31Mul FUEL x).trans (f_spec_l31Mul x y h)

def fn_spec_ApplySite : SFn := ⟨40, ag_spec_ApplySite, mu_spec_ApplySite, rs_spec_ApplySite, F_spec_ApplySite⟩
def sc_spec_ApplySite : SCode :=
 (.seq
 (.reg false [
 oX 3 (.box 2 0),
 oX 5 (.box 3 2),
 oX 6 (.alloc [zX, .nil gX]),
 oX 7 (.mv (.k (.one (.v (.bool) (false)))))])
 (.seq
 (.seq
 (.reg false [
 oX 14 (.load true 2 3),
 oX 15 (.call .live 16 [14]),
 oX 16 (.un .not 15),
 oX 17 (.mv 16),
 ⟨(some 18), .mv 1, (some (17, false))⟩,
 ⟨(some 19), .fieldA 1 3, (some (17, false))⟩,
 ⟨(some 20), .load false 1 19, (some (17, false))⟩,
 ⟨(some 21), .len 20, (some (17, false))⟩,
 ⟨(some 22), .bin .sub 21 (kX 1), (some (17, false))⟩,
 ⟨(some 23), .call .live 64 [18, (kX 0), 22], (some (17, false))⟩,
 ⟨(some 24), .un .not 23, (some (17, false))⟩,
 oX 25 (.pick 17 (.k (.one (.v (.bool) (true)))) 24),
 oX 26 (.mv 25),
 ⟨(some 27), .fieldA 0 3, (some (26, false))⟩,
 ⟨(some 28), .load false 1 27, (some (26, false))⟩,
 ⟨(some 29), .load true 3 5, (some (26, false))⟩,
 ⟨(some 30), .call .live 91 [28, 29], (some (26, false))⟩,
 ⟨(some 31), .un .not 30, (some (26, false))⟩,
 oX 32 (.pick 26 (.k (.one (.v (.bool) (true)))) 31)])
 (.cond 32
 (.seq
 (.reg false [
 oX 33 (.build [zX, .nil gX] []),
 uX (.store 2 6 33),
 oX 7 (.mv (.k (.one (.v (.bool) (false)))))])
 .ret)
 .skip))
 (.seq
 (.reg false [
 oX 34 (.fieldA 1 3),
 oX 35 (.load false 1 34),
 oX 36 (.mv 1),
 oX 37 (.idxA 4 35 36),
 oX 38 (.load true 4 37),
 oX 8 (.alloc [zX, zX, zX, .nil iX]),
 uX (.store 4 8 38)])
 (.seq
 (.seq
 (.reg false [
 oX 39 (.fieldA 0 5),
 oX 40 (.load false 1 39),
 oX 41 (.fieldA 1 8),
 oX 42 (.load false 1 41),
 oX 43 (.bin .neq 40 42),
 oX 44 (.mv 43),
 ⟨(some 45), .fieldA 1 5, (some (44, false))⟩,
 ⟨(some 46), .load false 1 45, (some (44, false))⟩,
 ⟨(some 47), .fieldA 1 8, (some (44, false))⟩,
 ⟨(some 48), .load false 1 47, (some (44, false))⟩,
 ⟨(some 49), .bin .neq 46 48, (some (44, false))⟩,
 oX 50 (.pick 44 (.k (.one (.v (.bool) (true)))) 49)])
 (.cond 50
 (.seq
 (.reg false [
 oX 51 (.build [zX, .nil gX] []),
 uX (.store 2 6 51),
 oX 7 (.mv (.k (.one (.v (.bool) (false)))))])
 .ret)
 .skip))
 (.seq
 (.reg false [
 oX 52 (.load true 2 3),
 oX 53 (.call .live 92 [52]),
 oX 9 (.alloc [zX, .nil gX]),
 uX (.store 2 9 53)])
 (.seq
 (.seq
 (.reg false [
 oX 10 (.mv (kX 0))])
 (.join ⟨[(9, .one (rX 9)), (6, .one (rX 6))], [(6, .box [vX, fX 500007 4]), (9, .box [vX, fX 500008 4]), (500007, .row true .live gX), (500008, .row true .live gX)]⟩ [3, 5, 6, 8, 9, 500000, 500001, 500007, 500008] [(true, 6, 1, 500007, .live, []), (true, 9, 1, 500008, .live, [])]
 (.block 0
 (.loop 0 ⟨[(1, sX), (3, .one (rX 3)), (5, .one (rX 5)), (6, .one (rX 6)), (8, .one (rX 8)), (9, .one (rX 9)), (10, sX)], [(3, .box [vX, .c (.v (.list gX))]), (5, .box [vX, vX, .c (.v (lX))]), (6, .box [vX, fX 500000 4]), (8, .box [vX, vX, vX, .c (.v (lX))]), (9, .box [vX, fX 500001 4]), (500000, .row true .live gX), (500001, .row true .live gX)]⟩ [3, 5, 6, 8, 54000, 9, 500000, 500001, 500005, 500006] [(true, 6, 1, 500000, .live, []), (true, 9, 1, 500001, .live, [])]
 (.seq
 (.seq
 (.reg false [
 oX 54 (.mv 10),
 oX 55 (.fieldA 0 8),
 oX 56 (.load false 1 55),
 oX 57 (.bin .lss 54 56)])
 (.cond 57
 .skip
 (.exit 0)))
 (.seq
 (.join ⟨[(10, sX), (1, sX), (3, .one (rX 3)), (5, .one (rX 5)), (6, .one (rX 6)), (8, .one (rX 8)), (9, .one (rX 9))], [(3, .box [vX, .c (.v (.list gX))]), (5, .box [vX, vX, .c (.v (lX))]), (6, .box [vX, fX 500005 4]), (8, .box [vX, vX, vX, .c (.v (lX))]), (9, .box [vX, fX 500006 4]), (500005, .row true .live gX), (500006, .row true .live gX)]⟩ [3, 5, 6, 8, 9, 500002, 500003, 500004, 500005, 500006] [(true, 6, 1, 500005, .live, []), (true, 9, 1, 500006, .live, [])]
 (.block 1
 (.seq
 (.reg true [
 oX 60 (.fieldA 1 8),
 oX 61 (.load false 1 60),
 oX 62 (.fieldA 2 8),
 oX 63 (.load false 1 62),
 oX 64 (.fieldA 3 8),
 oX 65 (.load false 1 64),
 oX 66 (.mv 10),
 oX 67 (.fieldA 1 8),
 oX 68 (.load false 1 67),
 oX 69 (.bin .mul 66 68),
 oX 70 (.fieldA 2 8),
 oX 71 (.load false 1 70),
 oX 72 (.bin .mul 69 71),
 oX 73 (.mv 10),
 oX 74 (.bin .add 73 (kX 1)),
 oX 75 (.fieldA 1 8),
 oX 76 (.load false 1 75),
 oX 77 (.bin .mul 74 76),
 oX 78 (.fieldA 2 8),
 oX 79 (.load false 1 78),
 oX 80 (.bin .mul 77 79),
 oX 81 (.slice 1 65 (some 72) (some 80)),
 oX 82 (.build [zX, zX, .nil iX] [(0, 1, 61), (1, 1, 63), (2, 1, 81)]),
 oX 11 (.alloc [zX, zX, .nil iX]),
 uX (.store 3 11 82)])
 (.seq
 (.reg false [
 oX 83 (.fieldA 0 3),
 oX 84 (.load false 1 83),
 oX 85 (.load true 3 5),
 oX 86 (.load true 3 11),
 oX 87 (.call .live 78 [84, 85, 86]),
 oX 88 (.fld false 2 1 87),
 oX 89 (.len 88),
 oX 90 (.mv (kX 0))])
 (.block 2
 (.loop 0 ⟨[(1, sX), (3, .one (rX 3)), (5, .one (rX 5)), (6, .one (rX 6)), (8, .one (rX 8)), (9, .one (rX 9)), (10, sX), (88, .one (fX 500004 1)), (89, sX), (90, sX)], [(3, .box [vX, .c (.v (.list gX))]), (5, .box [vX, vX, .c (.v (lX))]), (6, .box [vX, fX 500002 4]), (8, .box [vX, vX, vX, .c (.v (lX))]), (9, .box [vX, fX 500003 4]), (500002, .row true .live gX), (500003, .row true .live gX), (500004, .row true .live iX)]⟩ [3, 5, 6, 8, 9, 11, 88000, 500000, 500001, 500002, 500003, 500004] [(true, 6, 1, 500002, .live, []), (true, 9, 1, 500003, .live, []), (false, 88, 0, 500004, .live, [])]
 (.seq
 (.reg false [
 oX 91 (.bin .lss 90 89)])
 (.seq
 (.cond 91
 .skip
 (.exit 2))
 (.seq
 (.block 3
 (.seq
 (.reg false [
 oX 92 (.mv 90),
 oX 93 (.idxA 1 88 90),
 oX 94 (.load false 1 93),
 oX 12 (.mv 92),
 oX 13 (.mv 94)])
 (.reg true [
 oX 95 (.fieldA 1 9),
 oX 96 (.load false 1 95),
 oX 97 (.mv 1),
 oX 98 (.idxA 4 96 97),
 oX 99 (.fieldA 3 98),
 oX 100 (.load false 1 99),
 oX 101 (.mv 10),
 oX 102 (.fieldA 1 8),
 oX 103 (.load false 1 102),
 oX 104 (.bin .mul 101 103),
 oX 105 (.fieldA 2 8),
 oX 106 (.load false 1 105),
 oX 107 (.bin .mul 104 106),
 oX 108 (.mv 12),
 oX 109 (.bin .add 107 108),
 oX 110 (.mv 13),
 oX 111 (.idxA 1 100 109),
 uX (.store 1 111 110)])))
 (.reg false [
 oX 112 (.bin .add 90 (kX 1)),
 oX 90 (.mv 112)]))))))))))
 (.reg false [
 oX 58 (.mv 10),
 oX 59 (.bin .add 58 (kX 1)),
 oX 10 (.mv 59)])))))))
 (.seq
 (.reg false [
 oX 113 (.load true 2 9),
 uX (.store 2 6 113),
 oX 7 (.mv (.k (.one (.v (.bool) (true)))))])
 .ret)))))))
def ms_spec_ApplySite : List MRes := [.cell 6 2 true, .tmp 7]
theorem n_spec_ApplySite (NN : Nat) (x : DLL (Sig.tys ag_spec_ApplySite)) : runS NN [fn_spec_ChainOk, fn_spec_l01In, fn_spec_MatrixOk, fn_spec_l32Copy, fn_spec_l31Mul] sc_spec_ApplySite ms_spec_ApplySite ag_spec_ApplySite rs_spec_ApplySite x = G_spec_ApplySite NN x := by kernel_rfl
theorem k_spec_ApplySite : chkS pX 40 sc_spec_ApplySite.er ms_spec_ApplySite 3 = true := by decide +kernel
theorem p_spec_ApplySite : PureSpec pX 40 fn_spec_ApplySite.M ∧ chkFun pX 40 = true :=
  pure_of_runS (T := [fn_spec_ChainOk, fn_spec_l01In, fn_spec_MatrixOk, fn_spec_l32Copy, fn_spec_l31Mul]) (sc := sc_spec_ApplySite) (ms := ms_spec_ApplySite) (args := ag_spec_ApplySite) (res := rs_spec_ApplySite) (SOk.cons p_spec_ChainOk <| SOk.cons p_spec_l01In <| SOk.cons p_spec_MatrixOk <| SOk.cons p_spec_l32Copy <| SOk.cons p_spec_l31Mul <| SOk.nil) follows_ok k_spec_ApplySite F_spec_ApplySite fun x y h => (n_spec_ApplySite FUEL x).trans (f_spec_ApplySite x y h)

def fn_spec_l06Equal : SFn := ⟨129, ag_spec_l06Equal, mu_spec_l06Equal, rs_spec_l06Equal, F_spec_l06Equal⟩
def sc_spec_l06Equal : SCode :=
 (.seq
 (.reg false [
 oX 4 (.mv (.k (.one (.v (.bool) (false)))))])
 (.seq
 (.seq
 (.reg false [
 oX 7 (.mv 0),
 oX 8 (.len 7),
 oX 9 (.mv (kX 0))])
 (.join ⟨[(0, .one (.c (.v (lX)))), (1, .one (.c (.v (lX))))], []⟩ [] []
 (.block 0
 (.loop 0 ⟨[(0, .one (.c (.v (lX)))), (1, .one (.c (.v (lX)))), (7, .one (.c (.v (lX)))), (8, sX), (9, sX)], []⟩ [] []
 (.seq
 (.reg false [
 oX 10 (.bin .lss 9 8)])
 (.seq
 (.cond 10
 .skip
 (.exit 0))
 (.seq
 (.block 1
 (.seq
 (.reg false [
 oX 11 (.mv 9),
 oX 12 (.idxA 1 7 9),
 oX 13 (.load false 1 12),
 oX 5 (.mv 11),
 oX 6 (.mv 13)])
 (.seq
 (.reg false [
 oX 14 (.mv 5),
 oX 15 (.mv 1),
 oX 16 (.len 15),
 oX 17 (.bin .geq 14 16),
 oX 18 (.mv 17),
 ⟨(some 19), .mv 1, (some (18, false))⟩,
 ⟨(some 20), .mv 5, (some (18, false))⟩,
 ⟨(some 21), .idxA 1 19 20, (some (18, false))⟩,
 ⟨(some 22), .load false 1 21, (some (18, false))⟩,
 ⟨(some 23), .mv 6, (some (18, false))⟩,
 ⟨(some 24), .bin .neq 22 23, (some (18, false))⟩,
 oX 25 (.pick 18 (.k (.one (.v (.bool) (true)))) 24)])
 (.cond 25
 (.seq
 (.reg false [
 oX 4 (.mv (.k (.one (.v (.bool) (false)))))])
 .ret)
 .skip))))
 (.reg false [
 oX 26 (.bin .add 9 (kX 1)),
 oX 9 (.mv 26)]))))))))
 (.seq
 (.reg false [
 oX 27 (.mv 0),
 oX 28 (.len 27),
 oX 29 (.mv 1),
 oX 30 (.len 29),
 oX 31 (.bin .eql 28 30),
 oX 4 (.mv 31)])
 .ret)))
def ms_spec_l06Equal : List MRes := [.tmp 4]
theorem n_spec_l06Equal (NN : Nat) (x : DLL (Sig.tys ag_spec_l06Equal)) : runS NN [] sc_spec_l06Equal ms_spec_l06Equal ag_spec_l06Equal rs_spec_l06Equal x = G_spec_l06Equal NN x := by kernel_rfl
theorem k_spec_l06Equal : chkS pX 129 sc_spec_l06Equal.er ms_spec_l06Equal 2 = true := by decide +kernel
theorem p_spec_l06Equal : PureSpec pX 129 fn_spec_l06Equal.M ∧ chkFun pX 129 = true :=
  pure_of_runS (T := []) (sc := sc_spec_l06Equal) (ms := ms_spec_l06Equal) (args := ag_spec_l06Equal) (res := rs_spec_l06Equal) (SOk.nil) follows_ok k_spec_l06Equal F_spec_l06Equal fun x y h => (n_spec_l06Equal FUEL x).trans (f_spec_l06Equal x y h)

def fn_spec_l32Alike : SFn := ⟨76, ag_spec_l32Alike, mu_spec_l32Alike, rs_spec_l32Alike, F_spec_l32Alike⟩
def sc_spec_l32Alike : SCode :=
 (.seq
 (.reg false [
 oX 2 (.box 2 0),
 oX 3 (.box 2 1),
 oX 4 (.mv (.k (.one (.v (.bool) (false)))))])
 (.seq
 (.reg true [
 oX 5 (.load true 2 2),
 oX 6 (.call .froz 16 [5]),
 oX 7 (.mv 6),
 ⟨(some 8), .load true 2 3, (some (7, true))⟩,
 ⟨(some 9), .call .froz 16 [8], (some (7, true))⟩,
 oX 10 (.pick 7 9 (.k (.one (.v (.bool) (false))))),
 oX 11 (.mv 10),
 ⟨(some 12), .fieldA 0 2, (some (11, true))⟩,
 ⟨(some 13), .load false 1 12, (some (11, true))⟩,
 ⟨(some 14), .fieldA 0 3, (some (11, true))⟩,
 ⟨(some 15), .load false 1 14, (some (11, true))⟩,
 ⟨(some 16), .bin .eql 13 15, (some (11, true))⟩,
 oX 17 (.pick 11 16 (.k (.one (.v (.bool) (false))))),
 oX 18 (.mv 17),
 ⟨(some 19), .load true 2 2, (some (18, true))⟩,
 ⟨(some 20), .call .froz 66 [19], (some (18, true))⟩,
 ⟨(some 21), .load true 2 3, (some (18, true))⟩,
 ⟨(some 22), .call .froz 66 [21], (some (18, true))⟩,
 ⟨(some 23), .call .froz 129 [20, 22], (some (18, true))⟩,
 oX 24 (.pick 18 23 (.k (.one (.v (.bool) (false))))),
 oX 4 (.mv 24)])
 .ret))
def ms_spec_l32Alike : List MRes := [.tmp 4]
theorem n_spec_l32Alike (NN : Nat) (x : DLL (Sig.tys ag_spec_l32Alike)) : runS NN [fn_spec_ChainOk, fn_spec_l32Dims, fn_spec_l06Equal] sc_spec_l32Alike ms_spec_l32Alike ag_spec_l32Alike rs_spec_l32Alike x = G_spec_l32Alike NN x := by kernel_rfl
theorem k_spec_l32Alike : chkS pX 76 sc_spec_l32Alike.er ms_spec_l32Alike 2 = true := by decide +kernel
theorem p_spec_l32Alike : PureSpec pX 76 fn_spec_l32Alike.M ∧ chkFun pX 76 = true :=
  pure_of_runS (T := [fn_spec_ChainOk, fn_spec_l32Dims, fn_spec_l06Equal]) (sc := sc_spec_l32Alike) (ms := ms_spec_l32Alike) (args := ag_spec_l32Alike) (res := rs_spec_l32Alike) (SOk.cons p_spec_ChainOk <| SOk.cons p_spec_l32Dims <| SOk.cons p_spec_l06Equal <| SOk.nil) follows_ok k_spec_l32Alike F_spec_l32Alike fun x y h => (n_spec_l32Alike FUEL x).trans (f_spec_l32Alike x y h)

def fn_spec_l32At : SFn := ⟨80, ag_spec_l32At, mu_spec_l32At, rs_spec_l32At, F_spec_l32At⟩
def sc_spec_l32At : SCode :=
 (.seq
 (.reg false [
 oX 2 (.box 4 0),
 oX 4 (.alloc [zX, zX, .nil iX])])
 (.seq
 (.reg false [
 oX 8 (.fieldA 0 2),
 oX 9 (.load false 1 8),
 oX 10 (.fieldA 2 2),
 oX 11 (.load false 1 10),
 oX 12 (.call .froz 77 [9, 11]),
 oX 5 (.alloc [zX, zX, .nil iX]),
 uX (.store 3 5 12)])
 (.seq
 (.seq
 (.reg false [
 oX 6 (.mv (kX 0))])
 (.join ⟨[(5, .one (rX 5)), (4, .one (rX 4))], [(4, .box [vX, vX, fX 500006 1]), (5, .box [vX, vX, fX 500007 1]), (500006, .row true .froz iX), (500007, .row true .froz iX)]⟩ [2, 4, 5, 500000, 500001, 500006, 500007] [(true, 4, 2, 500006, .froz, []), (true, 5, 2, 500007, .froz, [])]
 (.block 0
 (.loop 0 ⟨[(1, sX), (2, .one (rX 2)), (4, .one (rX 4)), (5, .one (rX 5)), (6, sX)], [(2, .box [vX, vX, vX, .c (.v (lX))]), (4, .box [vX, vX, fX 500000 1]), (5, .box [vX, vX, fX 500001 1]), (500000, .row true .froz iX), (500001, .row true .froz iX)]⟩ [2, 4, 13000, 5, 500000, 500001, 500004, 500005] [(true, 4, 2, 500000, .froz, []), (true, 5, 2, 500001, .froz, [])]
 (.seq
 (.seq
 (.reg false [
 oX 13 (.mv 6),
 oX 14 (.fieldA 0 2),
 oX 15 (.load false 1 14),
 oX 16 (.bin .lss 13 15)])
 (.cond 16
 .skip
 (.exit 0)))
 (.seq
 (.join ⟨[(6, sX), (1, sX), (2, .one (rX 2)), (4, .one (rX 4)), (5, .one (rX 5))], [(2, .box [vX, vX, vX, .c (.v (lX))]), (4, .box [vX, vX, fX 500004 1]), (5, .box [vX, vX, fX 500005 1]), (500004, .row true .froz iX), (500005, .row true .froz iX)]⟩ [2, 4, 5, 500002, 500003, 500004, 500005] [(true, 4, 2, 500004, .froz, []), (true, 5, 2, 500005, .froz, [])]
 (.block 1
 (.seq
 (.reg false [
 oX 7 (.mv (kX 0))])
 (.block 2
 (.loop 0 ⟨[(1, sX), (2, .one (rX 2)), (4, .one (rX 4)), (5, .one (rX 5)), (6, sX), (7, sX)], [(2, .box [vX, vX, vX, .c (.v (lX))]), (4, .box [vX, vX, fX 500002 1]), (5, .box [vX, vX, fX 500003 1]), (500002, .row true .froz iX), (500003, .row true .froz iX)]⟩ [2, 4, 5, 500000, 500001, 500002, 500003] [(true, 4, 2, 500002, .froz, []), (true, 5, 2, 500003, .froz, [])]
 (.seq
 (.seq
 (.reg false [
 oX 19 (.mv 7),
 oX 20 (.fieldA 2 2),
 oX 21 (.load false 1 20),
 oX 22 (.bin .lss 19 21)])
 (.cond 22
 .skip
 (.exit 2)))
 (.seq
 (.block 3
 (.reg true [
 oX 25 (.fieldA 2 5),
 oX 26 (.load false 1 25),
 oX 27 (.mv 6),
 oX 28 (.fieldA 2 2),
 oX 29 (.load false 1 28),
 oX 30 (.bin .mul 27 29),
 oX 31 (.mv 7),
 oX 32 (.bin .add 30 31),
 oX 33 (.fieldA 3 2),
 oX 34 (.load false 1 33),
 oX 35 (.mv 6),
 oX 36 (.fieldA 1 2),
 oX 37 (.load false 1 36),
 oX 38 (.bin .mul 35 37),
 oX 39 (.mv 1),
 oX 40 (.bin .add 38 39),
 oX 41 (.fieldA 2 2),
 oX 42 (.load false 1 41),
 oX 43 (.bin .mul 40 42),
 oX 44 (.mv 7),
 oX 45 (.bin .add 43 44),
 oX 46 (.idxA 1 34 45),
 oX 47 (.load false 1 46),
 oX 48 (.idxA 1 26 32),
 uX (.store 1 48 47)]))
 (.reg false [
 oX 23 (.mv 7),
 oX 24 (.bin .add 23 (kX 1)),
 oX 7 (.mv 24)]))))))))
 (.reg false [
 oX 17 (.mv 6),
 oX 18 (.bin .add 17 (kX 1)),
 oX 6 (.mv 18)])))))))
 (.seq
 (.reg false [
 oX 49 (.load true 3 5),
 uX (.store 3 4 49)])
 .ret))))
def ms_spec_l32At : List MRes := [.cell 4 3 true]
theorem n_spec_l32At (NN : Nat) (x : DLL (Sig.tys ag_spec_l32At)) : runS NN [fn_spec_l31New] sc_spec_l32At ms_spec_l32At ag_spec_l32At rs_spec_l32At x = G_spec_l32At NN x := by kernel_rfl
theorem k_spec_l32At : chkS pX 80 sc_spec_l32At.er ms_spec_l32At 2 = true := by decide +kernel
theorem p_spec_l32At : PureSpec pX 80 fn_spec_l32At.M ∧ chkFun pX 80 = true :=
  pure_of_runS (T := [fn_spec_l31New]) (sc := sc_spec_l32At) (ms := ms_spec_l32At) (args := ag_spec_l32At) (res := rs_spec_l32At) (SOk.cons p_spec_l31New <| SOk.nil) follows_ok k_spec_l32At F_spec_l32At fun x y h => (n_spec_l32At FUEL x).trans (f_spec_l32At x y h)

def fn_spec_l31Turn : SFn := ⟨79, ag_spec_l31Turn, mu_spec_l31Turn, rs_spec_l31Turn, F_spec_l31Turn⟩
def sc_spec_l31Turn : SCode :=
 (.seq
 (.reg false [
 oX 1 (.box 3 0),
 oX 2 (.alloc [zX, zX, .nil iX])])
 (.seq
 (.reg false [
 oX 6 (.fieldA 1 1),
 oX 7 (.load false 1 6),
 oX 8 (.fieldA 0 1),
 oX 9 (.load false 1 8),
 oX 10 (.call .froz 77 [7, 9]),
 oX 3 (.alloc [zX, zX, .nil iX]),
 uX (.store 3 3 10)])
 (.seq
 (.seq
 (.reg false [
 oX 4 (.mv (kX 0))])
 (.join ⟨[(3, .one (rX 3)), (2, .one (rX 2))], [(2, .box [vX, vX, fX 500006 1]), (3, .box [vX, vX, fX 500007 1]), (500006, .row true .froz iX), (500007, .row true .froz iX)]⟩ [1, 2, 3, 500000, 500001, 500006, 500007] [(true, 2, 2, 500006, .froz, []), (true, 3, 2, 500007, .froz, [])]
 (.block 0
 (.loop 0 ⟨[(1, .one (rX 1)), (2, .one (rX 2)), (3, .one (rX 3)), (4, sX)], [(1, .box [vX, vX, .c (.v (lX))]), (2, .box [vX, vX, fX 500000 1]), (3, .box [vX, vX, fX 500001 1]), (500000, .row true .froz iX), (500001, .row true .froz iX)]⟩ [1, 2, 11000, 3, 500000, 500001, 500004, 500005] [(true, 2, 2, 500000, .froz, []), (true, 3, 2, 500001, .froz, [])]
 (.seq
 (.seq
 (.reg false [
 oX 11 (.mv 4),
 oX 12 (.fieldA 0 1),
 oX 13 (.load false 1 12),
 oX 14 (.bin .lss 11 13)])
 (.cond 14
 .skip
 (.exit 0)))
 (.seq
 (.join ⟨[(4, sX), (1, .one (rX 1)), (2, .one (rX 2)), (3, .one (rX 3))], [(1, .box [vX, vX, .c (.v (lX))]), (2, .box [vX, vX, fX 500004 1]), (3, .box [vX, vX, fX 500005 1]), (500004, .row true .froz iX), (500005, .row true .froz iX)]⟩ [1, 2, 3, 500002, 500003, 500004, 500005] [(true, 2, 2, 500004, .froz, []), (true, 3, 2, 500005, .froz, [])]
 (.block 1
 (.seq
 (.reg false [
 oX 5 (.mv (kX 0))])
 (.block 2
 (.loop 0 ⟨[(1, .one (rX 1)), (2, .one (rX 2)), (3, .one (rX 3)), (4, sX), (5, sX)], [(1, .box [vX, vX, .c (.v (lX))]), (2, .box [vX, vX, fX 500002 1]), (3, .box [vX, vX, fX 500003 1]), (500002, .row true .froz iX), (500003, .row true .froz iX)]⟩ [1, 2, 3, 500000, 500001, 500002, 500003] [(true, 2, 2, 500002, .froz, []), (true, 3, 2, 500003, .froz, [])]
 (.seq
 (.seq
 (.reg false [
 oX 17 (.mv 5),
 oX 18 (.fieldA 1 1),
 oX 19 (.load false 1 18),
 oX 20 (.bin .lss 17 19)])
 (.cond 20
 .skip
 (.exit 2)))
 (.seq
 (.block 3
 (.reg true [
 oX 23 (.fieldA 2 3),
 oX 24 (.load false 1 23),
 oX 25 (.mv 5),
 oX 26 (.fieldA 0 1),
 oX 27 (.load false 1 26),
 oX 28 (.bin .mul 25 27),
 oX 29 (.mv 4),
 oX 30 (.bin .add 28 29),
 oX 31 (.fieldA 2 1),
 oX 32 (.load false 1 31),
 oX 33 (.mv 4),
 oX 34 (.fieldA 1 1),
 oX 35 (.load false 1 34),
 oX 36 (.bin .mul 33 35),
 oX 37 (.mv 5),
 oX 38 (.bin .add 36 37),
 oX 39 (.idxA 1 32 38),
 oX 40 (.load false 1 39),
 oX 41 (.idxA 1 24 30),
 uX (.store 1 41 40)]))
 (.reg false [
 oX 21 (.mv 5),
 oX 22 (.bin .add 21 (kX 1)),
 oX 5 (.mv 22)]))))))))
 (.reg false [
 oX 15 (.mv 4),
 oX 16 (.bin .add 15 (kX 1)),
 oX 4 (.mv 16)])))))))
 (.seq
 (.reg false [
 oX 42 (.load true 3 3),
 uX (.store 3 2 42)])
 .ret))))
def ms_spec_l31Turn : List MRes := [.cell 2 3 true]
theorem n_spec_l31Turn (NN : Nat) (x : DLL (Sig.tys ag_spec_l31Turn)) : runS NN [fn_spec_l31New] sc_spec_l31Turn ms_spec_l31Turn ag_spec_l31Turn rs_spec_l31Turn x = G_spec_l31Turn NN x := by kernel_rfl
theorem k_spec_l31Turn : chkS pX 79 sc_spec_l31Turn.er ms_spec_l31Turn 1 = true := by decide +kernel
theorem p_spec_l31Turn : PureSpec pX 79 fn_spec_l31Turn.M ∧ chkFun pX 79 = true :=
  pure_of_runS (T := [fn_spec_l31New]) (sc := sc_spec_l31Turn) (ms := ms_spec_l31Turn) (args := ag_spec_l31Turn) (res := rs_spec_l31Turn) (SOk.cons p_spec_l31New <| SOk.nil) follows_ok k_spec_l31Turn F_spec_l31Turn fun x y h => (n_spec_l31Turn FUEL x).trans (f_spec_l31Turn x y h)

def fn_spec_InnerChains : SFn := ⟨29, ag_spec_InnerChains, mu_spec_InnerChains, rs_spec_InnerChains, F_spec_InnerChains⟩
def sc_spec_InnerChains : SCode :=
 (.seq
 (.reg false [
 oX 2 (.box 2 0),
 oX 3 (.box 2 1),
 oX 4 (.mv (kX 0)),
 oX 5 (.mv (.k (.one (.v (.bool) (false)))))])
 (.seq
 (.seq
 (.reg false [
 oX 13 (.load true 2 2),
 oX 14 (.load true 2 3),
 oX 15 (.call .froz 76 [13, 14]),
 oX 16 (.un .not 15)])
 (.cond 16
 (.seq
 (.reg false [
 oX 4 (.mv (kX 0)),
 oX 5 (.mv (.k (.one (.v (.bool) (false)))))])
 .ret)
 .skip))
 (.seq
 (.reg false [
 oX 17 (.bslice iX [(kX 1)]),
 oX 18 (.build [zX, zX, .nil iX] [(0, 1, (kX 1)), (1, 1, (kX 1)), (2, 1, 17)]),
 oX 6 (.alloc [zX, zX, .nil iX]),
 uX (.store 3 6 18)])
 (.seq
 (.seq
 (.reg false [
 oX 19 (.fieldA 1 2),
 oX 20 (.load false 1 19),
 oX 21 (.len 20),
 oX 22 (.mv (kX 0))])
 (.join ⟨[(6, .one (rX 6))], [(6, .box [vX, vX, fX 500011 1]), (500011, .row true .froz iX)]⟩ [2, 3, 6, 500000, 500011] [(true, 6, 2, 500011, .froz, [])]
 (.block 0
 (.loop 0 ⟨[(2, .one (rX 2)), (3, .one (rX 3)), (6, .one (rX 6)), (20, .one (.c (.v (.list gX)))), (21, sX), (22, sX)], [(2, .box [vX, .c (.v (.list gX))]), (3, .box [vX, .c (.v (.list gX))]), (6, .box [vX, vX, fX 500000 1]), (500000, .row true .froz iX)]⟩ [2, 3, 17, 6, 500000, 500010] [(true, 6, 2, 500000, .froz, [])]
 (.seq
 (.reg false [
 oX 23 (.bin .lss 22 21)])
 (.seq
 (.cond 23
 .skip
 (.exit 0))
 (.seq
 (.join ⟨[(22, sX), (2, .one (rX 2)), (3, .one (rX 3)), (6, .one (rX 6)), (20, .one (.c (.v (.list gX)))), (21, sX)], [(2, .box [vX, .c (.v (.list gX))]), (3, .box [vX, .c (.v (.list gX))]), (6, .box [vX, vX, fX 500010 1]), (500010, .row true .froz iX)]⟩ [2, 3, 6, 9, 500008, 500009, 500010] [(true, 6, 2, 500010, .froz, [])]
 (.block 1
 (.seq
 (.reg false [
 oX 24 (.mv 22),
 oX 25 (.idxA 4 20 22),
 oX 26 (.load true 4 25),
 oX 8 (.alloc [zX, zX, zX, .nil iX]),
 oX 7 (.mv 24),
 uX (.store 4 8 26)])
 (.seq
 (.reg true [
 oX 27 (.fieldA 2 8),
 oX 28 (.load false 1 27),
 oX 29 (.fieldA 1 3),
 oX 30 (.load false 1 29),
 oX 31 (.mv 7),
 oX 32 (.idxA 4 30 31),
 oX 33 (.fieldA 2 32),
 oX 34 (.load false 1 33),
 oX 35 (.call .froz 77 [28, 34]),
 oX 9 (.alloc [zX, zX, .nil iX]),
 uX (.store 3 9 35)])
 (.seq
 (.seq
 (.reg false [
 oX 10 (.mv (kX 0))])
 (.join ⟨[(9, .one (rX 9)), (22, sX), (2, .one (rX 2)), (3, .one (rX 3)), (6, .one (rX 6)), (20, .one (.c (.v (.list gX)))), (21, sX)], [(2, .box [vX, .c (.v (.list gX))]), (3, .box [vX, .c (.v (.list gX))]), (6, .box [vX, vX, fX 500008 1]), (9, .box [vX, vX, fX 500009 1]), (500008, .row true .froz iX), (500009, .row true .froz iX)]⟩ [2, 3, 6, 8, 9, 500001, 500002, 500008, 500009] [(true, 6, 2, 500008, .froz, []), (true, 9, 2, 500009, .froz, [])]
 (.block 2
 (.loop 0 ⟨[(2, .one (rX 2)), (3, .one (rX 3)), (6, .one (rX 6)), (7, sX), (8, .one (rX 8)), (9, .one (rX 9)), (10, sX), (20, .one (.c (.v (.list gX)))), (21, sX), (22, sX)], [(2, .box [vX, .c (.v (.list gX))]), (3, .box [vX, .c (.v (.list gX))]), (6, .box [vX, vX, fX 500001 1]), (8, .box [vX, vX, vX, .c (.v (lX))]), (9, .box [vX, vX, fX 500002 1]), (500001, .row true .froz iX), (500002, .row true .froz iX)]⟩ [2, 3, 6, 8, 36000, 9, 500000, 500001, 500002, 500006, 500007] [(true, 6, 2, 500001, .froz, []), (true, 9, 2, 500002, .froz, [])]
 (.seq
 (.seq
 (.reg false [
 oX 36 (.mv 10),
 oX 37 (.fieldA 1 8),
 oX 38 (.load false 1 37),
 oX 39 (.bin .lss 36 38)])
 (.cond 39
 .skip
 (.exit 2)))
 (.seq
 (.join ⟨[(10, sX), (2, .one (rX 2)), (3, .one (rX 3)), (6, .one (rX 6)), (7, sX), (8, .one (rX 8)), (9, .one (rX 9)), (20, .one (.c (.v (.list gX)))), (21, sX), (22, sX)], [(2, .box [vX, .c (.v (.list gX))]), (3, .box [vX, .c (.v (.list gX))]), (6, .box [vX, vX, fX 500006 1]), (8, .box [vX, vX, vX, .c (.v (lX))]), (9, .box [vX, vX, fX 500007 1]), (500006, .row true .froz iX), (500007, .row true .froz iX)]⟩ [2, 3, 6, 8, 9, 11, 500003, 500004, 500005, 500006, 500007] [(true, 6, 2, 500006, .froz, []), (true, 9, 2, 500007, .froz, [])]
 (.block 3
 (.seq
 (.reg true [
 oX 42 (.fieldA 0 2),
 oX 43 (.load false 1 42),
 oX 44 (.fieldA 0 2),
 oX 45 (.load false 1 44),
 oX 46 (.load true 4 8),
 oX 47 (.mv 10),
 oX 48 (.call .froz 80 [46, 47]),
 oX 49 (.call .froz 79 [48]),
 oX 50 (.load true 3 6),
 oX 51 (.call .froz 78 [45, 49, 50]),
 oX 52 (.fieldA 1 3),
 oX 53 (.load false 1 52),
 oX 54 (.mv 7),
 oX 55 (.idxA 4 53 54),
 oX 56 (.load true 4 55),
 oX 57 (.mv 10),
 oX 58 (.call .froz 80 [56, 57]),
 oX 59 (.call .froz 78 [43, 51, 58]),
 oX 11 (.alloc [zX, zX, .nil iX]),
 uX (.store 3 11 59)])
 (.seq
 (.reg false [
 oX 60 (.fieldA 2 11),
 oX 61 (.load false 1 60),
 oX 62 (.len 61),
 oX 63 (.mv (kX 0))])
 (.block 4
 (.loop 0 ⟨[(2, .one (rX 2)), (3, .one (rX 3)), (6, .one (rX 6)), (7, sX), (8, .one (rX 8)), (9, .one (rX 9)), (10, sX), (11, .one (rX 11)), (20, .one (.c (.v (.list gX)))), (21, sX), (22, sX), (62, sX), (63, sX)], [(2, .box [vX, .c (.v (.list gX))]), (3, .box [vX, .c (.v (.list gX))]), (6, .box [vX, vX, fX 500003 1]), (8, .box [vX, vX, vX, .c (.v (lX))]), (9, .box [vX, vX, fX 500004 1]), (11, .box [vX, vX, fX 500005 1]), (500003, .row true .froz iX), (500004, .row true .froz iX), (500005, .row true .froz iX)]⟩ [2, 3, 6, 8, 9, 49000, 50000, 52000, 59000, 60000, 11, 500001, 500002, 500003, 500004, 500005] [(true, 6, 2, 500003, .froz, []), (true, 9, 2, 500004, .froz, []), (true, 11, 2, 500005, .froz, [])]
 (.seq
 (.reg false [
 oX 64 (.bin .lss 63 62)])
 (.seq
 (.cond 64
 .skip
 (.exit 4))
 (.seq
 (.block 5
 (.seq
 (.reg false [
 oX 65 (.mv 63),
 oX 12 (.mv 65)])
 (.reg true [
 oX 66 (.fieldA 2 9),
 oX 67 (.load false 1 66),
 oX 68 (.mv 12),
 oX 69 (.fieldA 2 9),
 oX 70 (.load false 1 69),
 oX 71 (.mv 12),
 oX 72 (.idxA 1 70 71),
 oX 73 (.load false 1 72),
 oX 74 (.fieldA 2 11),
 oX 75 (.load false 1 74),
 oX 76 (.mv 12),
 oX 77 (.idxA 1 75 76),
 oX 78 (.load false 1 77),
 oX 79 (.bin .add 73 78),
 oX 80 (.fieldA 0 2),
 oX 81 (.load false 1 80),
 oX 82 (.bin .rem 79 81),
 oX 83 (.idxA 1 67 68),
 uX (.store 1 83 82)])))
 (.reg false [
 oX 84 (.bin .add 63 (kX 1)),
 oX 63 (.mv 84)]))))))))))
 (.reg false [
 oX 40 (.mv 10),
 oX 41 (.bin .add 40 (kX 1)),
 oX 10 (.mv 41)])))))))
 (.reg false [
 oX 85 (.load true 3 9),
 uX (.store 3 6 85)]))))))
 (.reg false [
 oX 86 (.bin .add 22 (kX 1)),
 oX 22 (.mv 86)]))))))))
 (.seq
 (.reg false [
 oX 87 (.fieldA 2 6),
 oX 88 (.load false 1 87),
 oX 89 (.idxA 1 88 (kX 0)),
 oX 90 (.load false 1 89),
 oX 4 (.mv 90),
 oX 5 (.mv (.k (.one (.v (.bool) (true)))))])
 .ret)))))
def ms_spec_InnerChains : List MRes := [.tmp 4, .tmp 5]
theorem n_spec_InnerChains (NN : Nat) (x : DLL (Sig.tys ag_spec_InnerChains)) : runS NN [fn_spec_l32Alike, fn_spec_l31New, fn_spec_l32At, fn_spec_l31Turn, fn_spec_l31Mul] sc_spec_InnerChains ms_spec_InnerChains ag_spec_InnerChains rs_spec_InnerChains x = G_spec_InnerChains NN x := by kernel_rfl
theorem k_spec_InnerChains : chkS pX 29 sc_spec_InnerChains.er ms_spec_InnerChains 2 = true := by decide +kernel
theorem p_spec_InnerChains : PureSpec pX 29 fn_spec_InnerChains.M ∧ chkFun pX 29 = true :=
  pure_of_runS (T := [fn_spec_l32Alike, fn_spec_l31New, fn_spec_l32At, fn_spec_l31Turn, fn_spec_l31Mul]) (sc := sc_spec_InnerChains) (ms := ms_spec_InnerChains) (args := ag_spec_InnerChains) (res := rs_spec_InnerChains) (SOk.cons p_spec_l32Alike <| SOk.cons p_spec_l31New <| SOk.cons p_spec_l32At <| SOk.cons p_spec_l31Turn <| SOk.cons p_spec_l31Mul <| SOk.nil) follows_ok k_spec_InnerChains F_spec_InnerChains fun x y h => (n_spec_InnerChains FUEL x).trans (f_spec_InnerChains x y h)

def fn_spec_OverlapChains : SFn := ⟨45, ag_spec_OverlapChains, mu_spec_OverlapChains, rs_spec_OverlapChains, F_spec_OverlapChains⟩
def sc_spec_OverlapChains : SCode :=
 (.seq
 (.reg false [
 oX 4 (.box 2 0),
 oX 6 (.box 3 2),
 oX 7 (.box 2 3),
 oX 8 (.mv (kX 0)),
 oX 9 (.mv (.k (.one (.v (.bool) (false)))))])
 (.seq
 (.reg false [
 oX 13 (.load true 2 7),
 oX 14 (.mv 1),
 oX 15 (.load true 3 6),
 oX 16 (.call .froz 40 [13, 14, 15]),
 oX 12 (.mv 16),
 oX 17 (.ext 0 12),
 oX 18 (.ext 1 12),
 oX 10 (.alloc [zX, .nil gX]),
 uX (.store 2 10 17),
 oX 11 (.mv 18)])
 (.seq
 (.seq
 (.reg false [
 oX 19 (.mv 11),
 oX 20 (.un .not 19)])
 (.cond 20
 (.seq
 (.reg false [
 oX 8 (.mv (kX 0)),
 oX 9 (.mv (.k (.one (.v (.bool) (false)))))])
 .ret)
 .skip))
 (.seq
 (.reg false [
 oX 21 (.load true 2 4),
 oX 22 (.load true 2 10),
 oX 23 (.call .froz 29 [21, 22]),
 oX 24 (.ext 0 23),
 oX 25 (.ext 1 23),
 oX 8 (.mv 24),
 oX 9 (.mv 25)])
 .ret))))
def ms_spec_OverlapChains : List MRes := [.tmp 8, .tmp 9]
theorem n_spec_OverlapChains (NN : Nat) (x : DLL (Sig.tys ag_spec_OverlapChains)) : runS NN [fn_spec_ApplySite, fn_spec_InnerChains] sc_spec_OverlapChains ms_spec_OverlapChains ag_spec_OverlapChains rs_spec_OverlapChains x = G_spec_OverlapChains NN x := by kernel_rfl
theorem k_spec_OverlapChains : chkS pX 45 sc_spec_OverlapChains.er ms_spec_OverlapChains 4 = true := by decide +kernel
theorem p_spec_OverlapChains : PureSpec pX 45 fn_spec_OverlapChains.M ∧ chkFun pX 45 = true :=
  pure_of_runS (T := [fn_spec_ApplySite, fn_spec_InnerChains]) (sc := sc_spec_OverlapChains) (ms := ms_spec_OverlapChains) (args := ag_spec_OverlapChains) (res := rs_spec_OverlapChains) (SOk.cons p_spec_ApplySite <| SOk.cons p_spec_InnerChains <| SOk.nil) follows_ok k_spec_OverlapChains F_spec_OverlapChains fun x y h => (n_spec_OverlapChains FUEL x).trans (f_spec_OverlapChains x y h)

def fn_impl_IsPrime : SFn := ⟨68, ag_impl_IsPrime, mu_impl_IsPrime, rs_impl_IsPrime, F_impl_IsPrime⟩
def sc_impl_IsPrime : SCode :=
 (.seq
 (.reg false [
 oX 2 (.mv (.k (.one (.v (.bool) (false)))))])
 (.seq
 (.seq
 (.reg false [
 oX 4 (.mv 0),
 oX 5 (.bin .lss 4 (kX 2)),
 oX 6 (.mv 5),
 ⟨(some 7), .mv 0, (some (6, false))⟩,
 ⟨(some 8), .bin .gtr 7 (kX 1000003), (some (6, false))⟩,
 oX 9 (.pick 6 (.k (.one (.v (.bool) (true)))) 8)])
 (.cond 9
 (.seq
 (.reg false [
 oX 2 (.mv (.k (.one (.v (.bool) (false)))))])
 .ret)
 .skip))
 (.seq
 (.seq
 (.reg false [
 oX 3 (.mv (kX 2))])
 (.join ⟨[], []⟩ [] []
 (.block 0
 (.loop 0 ⟨[(0, sX), (3, sX)], []⟩ [] []
 (.seq
 (.seq
 (.reg false [
 oX 10 (.mv 3),
 oX 11 (.mv 3),
 oX 12 (.bin .mul 10 11),
 oX 13 (.mv 0),
 oX 14 (.bin .leq 12 13)])
 (.cond 14
 .skip
 (.exit 0)))
 (.seq
 (.block 1
 (.seq
 (.reg false [
 oX 17 (.mv 0),
 oX 18 (.mv 3),
 oX 19 (.bin .rem 17 18),
 oX 20 (.bin .eql 19 (kX 0))])
 (.cond 20
 (.seq
 (.reg false [
 oX 2 (.mv (.k (.one (.v (.bool) (false)))))])
 .ret)
 .skip)))
 (.reg false [
 oX 15 (.mv 3),
 oX 16 (.bin .add 15 (kX 1)),
 oX 3 (.mv 16)])))))))
 (.seq
 (.reg false [
 oX 2 (.mv (.k (.one (.v (.bool) (true)))))])
 .ret))))
def ms_impl_IsPrime : List MRes := [.tmp 2]
theorem n_impl_IsPrime (NN : Nat) (x : DLL (Sig.tys ag_impl_IsPrime)) : runS NN [] sc_impl_IsPrime ms_impl_IsPrime ag_impl_IsPrime rs_impl_IsPrime x = G_impl_IsPrime NN x := by kernel_rfl
theorem k_impl_IsPrime : chkS pX 68 sc_impl_IsPrime.er ms_impl_IsPrime 1 = true := by decide +kernel
theorem p_impl_IsPrime : PureSpec pX 68 fn_impl_IsPrime.M ∧ chkFun pX 68 = true :=
  pure_of_runS (T := []) (sc := sc_impl_IsPrime) (ms := ms_impl_IsPrime) (args := ag_impl_IsPrime) (res := rs_impl_IsPrime) (SOk.nil) follows_ok k_impl_IsPrime F_impl_IsPrime fun x y h => (n_impl_IsPrime FUEL x).trans (f_impl_IsPrime x y h)

def fn_impl_inMod : SFn := ⟨127, ag_impl_inMod, mu_impl_inMod, rs_impl_inMod, F_impl_inMod⟩
def sc_impl_inMod : SCode :=
 (.seq
 (.reg false [
 oX 4 (.mv (.k (.one (.v (.bool) (false)))))])
 (.seq
 (.seq
 (.reg false [
 oX 7 (.mv 1),
 oX 8 (.len 7),
 oX 9 (.mv (kX 0))])
 (.join ⟨[], []⟩ [] []
 (.block 0
 (.loop 0 ⟨[(0, sX), (7, .one (.c (.v (lX)))), (8, sX), (9, sX)], []⟩ [] []
 (.seq
 (.reg false [
 oX 10 (.bin .lss 9 8)])
 (.seq
 (.cond 10
 .skip
 (.exit 0))
 (.seq
 (.block 1
 (.seq
 (.reg false [
 oX 11 (.idxA 1 7 9),
 oX 12 (.load false 1 11),
 oX 6 (.mv 12)])
 (.seq
 (.reg false [
 oX 13 (.mv 6),
 oX 14 (.bin .lss 13 (kX 0)),
 oX 15 (.mv 14),
 ⟨(some 16), .mv 6, (some (15, false))⟩,
 ⟨(some 17), .mv 0, (some (15, false))⟩,
 ⟨(some 18), .bin .geq 16 17, (some (15, false))⟩,
 oX 19 (.pick 15 (.k (.one (.v (.bool) (true)))) 18)])
 (.cond 19
 (.seq
 (.reg false [
 oX 4 (.mv (.k (.one (.v (.bool) (false)))))])
 .ret)
 .skip))))
 (.reg false [
 oX 20 (.bin .add 9 (kX 1)),
 oX 9 (.mv 20)]))))))))
 (.seq
 (.reg false [
 oX 4 (.mv (.k (.one (.v (.bool) (true)))))])
 .ret)))
def ms_impl_inMod : List MRes := [.tmp 4]
theorem n_impl_inMod (NN : Nat) (x : DLL (Sig.tys ag_impl_inMod)) : runS NN [] sc_impl_inMod ms_impl_inMod ag_impl_inMod rs_impl_inMod x = G_impl_inMod NN x := by kernel_rfl
theorem k_impl_inMod : chkS pX 127 sc_impl_inMod.er ms_impl_inMod 2 = true := by decide +kernel
theorem p_impl_inMod : PureSpec pX 127 fn_impl_inMod.M ∧ chkFun pX 127 = true :=
  pure_of_runS (T := []) (sc := sc_impl_inMod) (ms := ms_impl_inMod) (args := ag_impl_inMod) (res := rs_impl_inMod) (SOk.nil) follows_ok k_impl_inMod F_impl_inMod fun x y h => (n_impl_inMod FUEL x).trans (f_impl_inMod x y h)

def fn_impl_siteOk : SFn := ⟨69, ag_impl_siteOk, mu_impl_siteOk, rs_impl_siteOk, F_impl_siteOk⟩
def sc_impl_siteOk : SCode :=
 (.seq
 (.reg false [
 oX 3 (.box 4 1),
 oX 4 (.mv (.k (.one (.v (.bool) (false)))))])
 (.seq
 (.seq
 (.reg false [
 oX 5 (.fieldA 0 3),
 oX 6 (.load false 1 5),
 oX 7 (.bin .lss 6 (kX 0)),
 oX 8 (.mv 7),
 ⟨(some 9), .fieldA 0 3, (some (8, false))⟩,
 ⟨(some 10), .load false 1 9, (some (8, false))⟩,
 ⟨(some 11), .bin .gtr 10 (kX 32), (some (8, false))⟩,
 oX 12 (.pick 8 (.k (.one (.v (.bool) (true)))) 11),
 oX 13 (.mv 12),
 ⟨(some 14), .fieldA 2 3, (some (13, false))⟩,
 ⟨(some 15), .load false 1 14, (some (13, false))⟩,
 ⟨(some 16), .bin .lss 15 (kX 0), (some (13, false))⟩,
 oX 17 (.pick 13 (.k (.one (.v (.bool) (true)))) 16),
 oX 18 (.mv 17),
 ⟨(some 19), .fieldA 2 3, (some (18, false))⟩,
 ⟨(some 20), .load false 1 19, (some (18, false))⟩,
 ⟨(some 21), .bin .gtr 20 (kX 32), (some (18, false))⟩,
 oX 22 (.pick 18 (.k (.one (.v (.bool) (true)))) 21),
 oX 23 (.mv 22),
 ⟨(some 24), .fieldA 1 3, (some (23, false))⟩,
 ⟨(some 25), .load false 1 24, (some (23, false))⟩,
 ⟨(some 26), .bin .lss 25 (kX 1), (some (23, false))⟩,
 oX 27 (.pick 23 (.k (.one (.v (.bool) (true)))) 26),
 oX 28 (.mv 27),
 ⟨(some 29), .fieldA 1 3, (some (28, false))⟩,
 ⟨(some 30), .load false 1 29, (some (28, false))⟩,
 ⟨(some 31), .bin .gtr 30 (kX 8), (some (28, false))⟩,
 oX 32 (.pick 28 (.k (.one (.v (.bool) (true)))) 31)])
 (.cond 32
 (.seq
 (.reg false [
 oX 4 (.mv (.k (.one (.v (.bool) (false)))))])
 .ret)
 .skip))
 (.seq
 (.reg false [
 oX 33 (.fieldA 3 3),
 oX 34 (.load false 1 33),
 oX 35 (.len 34),
 oX 36 (.fieldA 0 3),
 oX 37 (.load false 1 36),
 oX 38 (.fieldA 1 3),
 oX 39 (.load false 1 38),
 oX 40 (.bin .mul 37 39),
 oX 41 (.fieldA 2 3),
 oX 42 (.load false 1 41),
 oX 43 (.bin .mul 40 42),
 oX 44 (.bin .eql 35 43),
 oX 45 (.mv 44),
 ⟨(some 46), .mv 0, (some (45, true))⟩,
 ⟨(some 47), .fieldA 3 3, (some (45, true))⟩,
 ⟨(some 48), .load false 1 47, (some (45, true))⟩,
 ⟨(some 49), .call .froz 127 [46, 48], (some (45, true))⟩,
 oX 50 (.pick 45 49 (.k (.one (.v (.bool) (false))))),
 oX 4 (.mv 50)])
 .ret)))
def ms_impl_siteOk : List MRes := [.tmp 4]
theorem n_impl_siteOk (NN : Nat) (x : DLL (Sig.tys ag_impl_siteOk)) : runS NN [fn_impl_inMod] sc_impl_siteOk ms_impl_siteOk ag_impl_siteOk rs_impl_siteOk x = G_impl_siteOk NN x := by kernel_rfl
theorem k_impl_siteOk : chkS pX 69 sc_impl_siteOk.er ms_impl_siteOk 2 = true := by decide +kernel
theorem p_impl_siteOk : PureSpec pX 69 fn_impl_siteOk.M ∧ chkFun pX 69 = true :=
  pure_of_runS (T := [fn_impl_inMod]) (sc := sc_impl_siteOk) (ms := ms_impl_siteOk) (args := ag_impl_siteOk) (res := rs_impl_siteOk) (SOk.cons p_impl_inMod <| SOk.nil) follows_ok k_impl_siteOk F_impl_siteOk fun x y h => (n_impl_siteOk FUEL x).trans (f_impl_siteOk x y h)

def fn_impl_ChainOk : SFn := ⟨18, ag_impl_ChainOk, mu_impl_ChainOk, rs_impl_ChainOk, F_impl_ChainOk⟩
def sc_impl_ChainOk : SCode :=
 (.seq
 (.reg false [
 oX 1 (.box 2 0),
 oX 2 (.mv (.k (.one (.v (.bool) (false)))))])
 (.seq
 (.seq
 (.reg false [
 oX 7 (.fieldA 0 1),
 oX 8 (.load false 1 7),
 oX 9 (.call .froz 68 [8]),
 oX 10 (.un .not 9),
 oX 11 (.mv 10),
 ⟨(some 12), .fieldA 1 1, (some (11, false))⟩,
 ⟨(some 13), .load false 1 12, (some (11, false))⟩,
 ⟨(some 14), .len 13, (some (11, false))⟩,
 ⟨(some 15), .bin .lss 14 (kX 1), (some (11, false))⟩,
 oX 16 (.pick 11 (.k (.one (.v (.bool) (true)))) 15),
 oX 17 (.mv 16),
 ⟨(some 18), .fieldA 1 1, (some (17, false))⟩,
 ⟨(some 19), .load false 1 18, (some (17, false))⟩,
 ⟨(some 20), .len 19, (some (17, false))⟩,
 ⟨(some 21), .bin .gtr 20 (kX 8), (some (17, false))⟩,
 oX 22 (.pick 17 (.k (.one (.v (.bool) (true)))) 21)])
 (.cond 22
 (.seq
 (.reg false [
 oX 2 (.mv (.k (.one (.v (.bool) (false)))))])
 .ret)
 .skip))
 (.seq
 (.reg false [
 oX 3 (.mv (kX 1)),
 oX 4 (.mv (kX 1))])
 (.seq
 (.seq
 (.reg false [
 oX 23 (.fieldA 1 1),
 oX 24 (.load false 1 23),
 oX 25 (.len 24),
 oX 26 (.mv (kX 0))])
 (.join ⟨[(3, sX), (4, sX)], []⟩ [1] []
 (.block 0
 (.loop 0 ⟨[(1, .one (rX 1)), (3, sX), (4, sX), (24, .one (.c (.v (.list gX)))), (25, sX), (26, sX)], [(1, .box [vX, .c (.v (.list gX))])]⟩ [1, 6] []
 (.seq
 (.reg false [
 oX 27 (.bin .lss 26 25)])
 (.seq
 (.cond 27
 .skip
 (.exit 0))
 (.seq
 (.block 1
 (.seq
 (.reg false [
 oX 28 (.idxA 4 24 26),
 oX 29 (.load true 4 28),
 oX 6 (.alloc [zX, zX, zX, .nil iX]),
 uX (.store 4 6 29)])
 (.seq
 (.seq
 (.reg false [
 oX 30 (.fieldA 0 1),
 oX 31 (.load false 1 30),
 oX 32 (.load true 4 6),
 oX 33 (.call .froz 69 [31, 32]),
 oX 34 (.un .not 33),
 oX 35 (.mv 34),
 ⟨(some 36), .fieldA 0 6, (some (35, false))⟩,
 ⟨(some 37), .load false 1 36, (some (35, false))⟩,
 ⟨(some 38), .mv 3, (some (35, false))⟩,
 ⟨(some 39), .bin .neq 37 38, (some (35, false))⟩,
 oX 40 (.pick 35 (.k (.one (.v (.bool) (true)))) 39)])
 (.cond 40
 (.seq
 (.reg false [
 oX 2 (.mv (.k (.one (.v (.bool) (false)))))])
 .ret)
 .skip))
 (.seq
 (.reg false [
 oX 41 (.fieldA 2 6),
 oX 42 (.load false 1 41),
 oX 3 (.mv 42)])
 (.reg false [
 oX 43 (.mv 4),
 oX 44 (.fieldA 1 6),
 oX 45 (.load false 1 44),
 oX 46 (.bin .mul 43 45),
 oX 4 (.mv 46)])))))
 (.reg false [
 oX 47 (.bin .add 26 (kX 1)),
 oX 26 (.mv 47)]))))))))
 (.seq
 (.reg false [
 oX 48 (.mv 3),
 oX 49 (.bin .eql 48 (kX 1)),
 oX 50 (.mv 49),
 ⟨(some 51), .mv 4, (some (50, true))⟩,
 ⟨(some 52), .bin .leq 51 (kX 4096), (some (50, true))⟩,
 oX 53 (.pick 50 52 (.k (.one (.v (.bool) (false))))),
 oX 2 (.mv 53)])
 .ret)))))
def ms_impl_ChainOk : List MRes := [.tmp 2]
theorem n_impl_ChainOk (NN : Nat) (x : DLL (Sig.tys ag_impl_ChainOk)) : runS NN [fn_impl_IsPrime, fn_impl_siteOk] sc_impl_ChainOk ms_impl_ChainOk ag_impl_ChainOk rs_impl_ChainOk x = G_impl_ChainOk NN x := by kernel_rfl
theorem k_impl_ChainOk : chkS pX 18 sc_impl_ChainOk.er ms_impl_ChainOk 1 = true := by decide +kernel
theorem p_impl_ChainOk : PureSpec pX 18 fn_impl_ChainOk.M ∧ chkFun pX 18 = true :=
  pure_of_runS (T := [fn_impl_IsPrime, fn_impl_siteOk]) (sc := sc_impl_ChainOk) (ms := ms_impl_ChainOk) (args := ag_impl_ChainOk) (res := rs_impl_ChainOk) (SOk.cons p_impl_IsPrime <| SOk.cons p_impl_siteOk <| SOk.nil) follows_ok k_impl_ChainOk F_impl_ChainOk fun x y h => (n_impl_ChainOk FUEL x).trans (f_impl_ChainOk x y h)

def fn_impl_MatrixOk : SFn := ⟨93, ag_impl_MatrixOk, mu_impl_MatrixOk, rs_impl_MatrixOk, F_impl_MatrixOk⟩
def sc_impl_MatrixOk : SCode :=
 (.seq
 (.reg false [
 oX 3 (.box 3 1),
 oX 4 (.mv (.k (.one (.v (.bool) (false)))))])
 (.seq
 (.seq
 (.reg false [
 oX 5 (.mv 0),
 oX 6 (.call .froz 68 [5]),
 oX 7 (.un .not 6),
 oX 8 (.mv 7),
 ⟨(some 9), .fieldA 0 3, (some (8, false))⟩,
 ⟨(some 10), .load false 1 9, (some (8, false))⟩,
 ⟨(some 11), .bin .lss 10 (kX 0), (some (8, false))⟩,
 oX 12 (.pick 8 (.k (.one (.v (.bool) (true)))) 11),
 oX 13 (.mv 12),
 ⟨(some 14), .fieldA 1 3, (some (13, false))⟩,
 ⟨(some 15), .load false 1 14, (some (13, false))⟩,
 ⟨(some 16), .bin .lss 15 (kX 0), (some (13, false))⟩,
 oX 17 (.pick 13 (.k (.one (.v (.bool) (true)))) 16),
 oX 18 (.mv 17),
 ⟨(some 19), .fieldA 0 3, (some (18, false))⟩,
 ⟨(some 20), .load false 1 19, (some (18, false))⟩,
 ⟨(some 21), .bin .gtr 20 (kX 64), (some (18, false))⟩,
 oX 22 (.pick 18 (.k (.one (.v (.bool) (true)))) 21),
 oX 23 (.mv 22),
 ⟨(some 24), .fieldA 1 3, (some (23, false))⟩,
 ⟨(some 25), .load false 1 24, (some (23, false))⟩,
 ⟨(some 26), .bin .gtr 25 (kX 64), (some (23, false))⟩,
 oX 27 (.pick 23 (.k (.one (.v (.bool) (true)))) 26)])
 (.cond 27
 (.seq
 (.reg false [
 oX 4 (.mv (.k (.one (.v (.bool) (false)))))])
 .ret)
 .skip))
 (.seq
 (.reg false [
 oX 28 (.fieldA 2 3),
 oX 29 (.load false 1 28),
 oX 30 (.len 29),
 oX 31 (.fieldA 0 3),
 oX 32 (.load false 1 31),
 oX 33 (.fieldA 1 3),
 oX 34 (.load false 1 33),
 oX 35 (.bin .mul 32 34),
 oX 36 (.bin .eql 30 35),
 oX 37 (.mv 36),
 ⟨(some 38), .mv 0, (some (37, true))⟩,
 ⟨(some 39), .fieldA 2 3, (some (37, true))⟩,
 ⟨(some 40), .load false 1 39, (some (37, true))⟩,
 ⟨(some 41), .call .froz 127 [38, 40], (some (37, true))⟩,
 oX 42 (.pick 37 41 (.k (.one (.v (.bool) (false))))),
 oX 4 (.mv 42)])
 .ret)))
def ms_impl_MatrixOk : List MRes := [.tmp 4]
theorem n_impl_MatrixOk (NN : Nat) (x : DLL (Sig.tys ag_impl_MatrixOk)) : runS NN [fn_impl_IsPrime, fn_impl_inMod] sc_impl_MatrixOk ms_impl_MatrixOk ag_impl_MatrixOk rs_impl_MatrixOk x = G_impl_MatrixOk NN x := by kernel_rfl
theorem k_impl_MatrixOk : chkS pX 93 sc_impl_MatrixOk.er ms_impl_MatrixOk 2 = true := by decide +kernel
theorem p_impl_MatrixOk : PureSpec pX 93 fn_impl_MatrixOk.M ∧ chkFun pX 93 = true :=
  pure_of_runS (T := [fn_impl_IsPrime, fn_impl_inMod]) (sc := sc_impl_MatrixOk) (ms := ms_impl_MatrixOk) (args := ag_impl_MatrixOk) (res := rs_impl_MatrixOk) (SOk.cons p_impl_IsPrime <| SOk.cons p_impl_inMod <| SOk.nil) follows_ok k_impl_MatrixOk F_impl_MatrixOk fun x y h => (n_impl_MatrixOk FUEL x).trans (f_impl_MatrixOk x y h)

def fn_impl_copyInts : SFn := ⟨124, ag_impl_copyInts, mu_impl_copyInts, rs_impl_copyInts, F_impl_copyInts⟩
def sc_impl_copyInts : SCode :=
 (.seq
 (.reg false [
 oX 2 (.mv (.k (.one (.nil iX))))])
 (.seq
 (.reg false [
 oX 3 (.mv 0),
 oX 4 (.append true iX 8 (.k (.one (.nil iX))) 3),
 oX 2 (.mv 4)])
 .ret))
def ms_impl_copyInts : List MRes := [.tmp 2]
theorem n_impl_copyInts (NN : Nat) (x : DLL (Sig.tys ag_impl_copyInts)) : runS NN [] sc_impl_copyInts ms_impl_copyInts ag_impl_copyInts rs_impl_copyInts x = G_impl_copyInts NN x := by kernel_rfl
theorem k_impl_copyInts : chkS pX 124 sc_impl_copyInts.er ms_impl_copyInts 1 = true := by decide +kernel
theorem p_impl_copyInts : PureSpec pX 124 fn_impl_copyInts.M ∧ chkFun pX 124 = true :=
  pure_of_runS (T := []) (sc := sc_impl_copyInts) (ms := ms_impl_copyInts) (args := ag_impl_copyInts) (res := rs_impl_copyInts) (SOk.nil) follows_ok k_impl_copyInts F_impl_copyInts fun x y h => (n_impl_copyInts FUEL x).trans (f_impl_copyInts x y h)

def fn_impl_copyChain : SFn := ⟨94, ag_impl_copyChain, mu_impl_copyChain, rs_impl_copyChain, F_impl_copyChain⟩
def sc_impl_copyChain : SCode :=
 (.seq
 (.reg false [
 oX 1 (.box 2 0),
 oX 2 (.alloc [zX, .nil gX])])
 (.seq
 (.reg false [
 oX 6 (.fieldA 0 1),
 oX 7 (.load false 1 6),
 oX 8 (.build [zX, .nil gX] [(0, 1, 7)]),
 oX 3 (.alloc [zX, .nil gX]),
 uX (.store 2 3 8)])
 (.seq
 (.seq
 (.reg false [
 oX 9 (.fieldA 1 1),
 oX 10 (.load false 1 9),
 oX 11 (.len 10),
 oX 12 (.mv (kX 0))])
 (.join ⟨[(3, .one (rX 3)), (2, .one (rX 2))], [(2, .box [vX, fX 500002 4]), (3, .box [vX, fX 500003 4]), (500002, .row true .froz gX), (500003, .row true .froz gX)]⟩ [2, 3, 500000, 500001, 500002, 500003] [(true, 2, 1, 500002, .froz, []), (true, 3, 1, 500003, .froz, [])]
 (.block 0
 (.loop 0 ⟨[(2, .one (rX 2)), (3, .one (rX 3)), (10, .one (.c (.v (.list gX)))), (11, sX), (12, sX)], [(2, .box [vX, fX 500000 4]), (3, .box [vX, fX 500001 4]), (500000, .row true .froz gX), (500001, .row true .froz gX)]⟩ [1, 2, 3, 5, 29, 500000, 500001] [(true, 2, 1, 500000, .froz, []), (true, 3, 1, 500001, .froz, [])]
 (.seq
 (.reg false [
 oX 13 (.bin .lss 12 11)])
 (.seq
 (.cond 13
 .skip
 (.exit 0))
 (.seq
 (.block 1
 (.seq
 (.reg false [
 oX 14 (.idxA 4 10 12),
 oX 15 (.load true 4 14),
 oX 5 (.alloc [zX, zX, zX, .nil iX]),
 uX (.store 4 5 15)])
 (.regD [(0, 12), (1, 12)] [
 oX 16 (.fieldA 1 3),
 oX 17 (.load false 1 16),
 oX 18 (.fieldA 0 5),
 oX 19 (.load false 1 18),
 oX 20 (.fieldA 1 5),
 oX 21 (.load false 1 20),
 oX 22 (.fieldA 2 5),
 oX 23 (.load false 1 22),
 oX 24 (.fieldA 3 5),
 oX 25 (.load false 1 24),
 oX 26 (.call .froz 124 [25]),
 oX 27 (.build [zX, zX, zX, .nil iX] [(0, 1, 19), (1, 1, 21), (2, 1, 23), (3, 1, 26)]),
 oX 28 (.bslice gX [27]),
 oX 29 (.append false gX 48 17 28),
 oX 30 (.fieldA 1 3),
 uX (.store 1 30 29)])))
 (.reg false [
 oX 31 (.bin .add 12 (kX 1)),
 oX 12 (.mv 31)]))))))))
 (.seq
 (.reg false [
 oX 32 (.load true 2 3),
 uX (.store 2 2 32)])
 .ret))))
def ms_impl_copyChain : List MRes := [.cell 2 2 true]
theorem n_impl_copyChain (NN : Nat) (x : DLL (Sig.tys ag_impl_copyChain)) : runS NN [fn_impl_copyInts] sc_impl_copyChain ms_impl_copyChain ag_impl_copyChain rs_impl_copyChain x = G_impl_copyChain NN x := by kernel_rfl
theorem k_impl_copyChain : chkS pX 94 sc_impl_copyChain.er ms_impl_copyChain 1 = true := by decide +kernel
theorem p_impl_copyChain : PureSpec pX 94 fn_impl_copyChain.M ∧ chkFun pX 94 = true :=
  pure_of_runS (T := [fn_impl_copyInts]) (sc := sc_impl_copyChain) (ms := ms_impl_copyChain) (args := ag_impl_copyChain) (res := rs_impl_copyChain) (SOk.cons p_impl_copyInts <| SOk.nil) follows_ok k_impl_copyChain F_impl_copyChain fun x y h => (n_impl_copyChain FUEL x).trans (f_impl_copyChain x y h)

def fn_impl_Matrix_at : SFn := ⟨95, ag_impl_Matrix_at, mu_impl_Matrix_at, rs_impl_Matrix_at, F_impl_Matrix_at⟩
def sc_impl_Matrix_at : SCode :=
 (.seq
 (.reg false [
 oX 3 (.box 3 0),
 oX 6 (.mv (kX 0))])
 (.seq
 (.reg false [
 oX 7 (.fieldA 2 3),
 oX 8 (.load false 1 7),
 oX 9 (.mv 1),
 oX 10 (.fieldA 1 3),
 oX 11 (.load false 1 10),
 oX 12 (.bin .mul 9 11),
 oX 13 (.mv 2),
 oX 14 (.bin .add 12 13),
 oX 15 (.idxA 1 8 14),
 oX 16 (.load false 1 15),
 oX 6 (.mv 16)])
 .ret))
def ms_impl_Matrix_at : List MRes := [.tmp 6]
theorem n_impl_Matrix_at (NN : Nat) (x : DLL (Sig.tys ag_impl_Matrix_at)) : runS NN [] sc_impl_Matrix_at ms_impl_Matrix_at ag_impl_Matrix_at rs_impl_Matrix_at x = G_impl_Matrix_at NN x := by kernel_rfl
theorem k_impl_Matrix_at : chkS pX 95 sc_impl_Matrix_at.er ms_impl_Matrix_at 3 = true := by decide +kernel
theorem p_impl_Matrix_at : PureSpec pX 95 fn_impl_Matrix_at.M ∧ chkFun pX 95 = true :=
  pure_of_runS (T := []) (sc := sc_impl_Matrix_at) (ms := ms_impl_Matrix_at) (args := ag_impl_Matrix_at) (res := rs_impl_Matrix_at) (SOk.nil) follows_ok k_impl_Matrix_at F_impl_Matrix_at fun x y h => (n_impl_Matrix_at FUEL x).trans (f_impl_Matrix_at x y h)

def fn_impl_Site_at : SFn := ⟨96, ag_impl_Site_at, mu_impl_Site_at, rs_impl_Site_at, F_impl_Site_at⟩
def sc_impl_Site_at : SCode :=
 (.seq
 (.reg false [
 oX 4 (.box 4 0),
 oX 8 (.mv (kX 0))])
 (.seq
 (.reg false [
 oX 9 (.fieldA 3 4),
 oX 10 (.load false 1 9),
 oX 11 (.mv 1),
 oX 12 (.fieldA 1 4),
 oX 13 (.load false 1 12),
 oX 14 (.bin .mul 11 13),
 oX 15 (.mv 2),
 oX 16 (.bin .add 14 15),
 oX 17 (.fieldA 2 4),
 oX 18 (.load false 1 17),
 oX 19 (.bin .mul 16 18),
 oX 20 (.mv 3),
 oX 21 (.bin .add 19 20),
 oX 22 (.idxA 1 10 21),
 oX 23 (.load false 1 22),
 oX 8 (.mv 23)])
 .ret))
def ms_impl_Site_at : List MRes := [.tmp 8]
theorem n_impl_Site_at (NN : Nat) (x : DLL (Sig.tys ag_impl_Site_at)) : runS NN [] sc_impl_Site_at ms_impl_Site_at ag_impl_Site_at rs_impl_Site_at x = G_impl_Site_at NN x := by kernel_rfl
theorem k_impl_Site_at : chkS pX 96 sc_impl_Site_at.er ms_impl_Site_at 4 = true := by decide +kernel
theorem p_impl_Site_at : PureSpec pX 96 fn_impl_Site_at.M ∧ chkFun pX 96 = true :=
  pure_of_runS (T := []) (sc := sc_impl_Site_at) (ms := ms_impl_Site_at) (args := ag_impl_Site_at) (res := rs_impl_Site_at) (SOk.nil) follows_ok k_impl_Site_at F_impl_Site_at fun x y h => (n_impl_Site_at FUEL x).trans (f_impl_Site_at x y h)

def fn_impl_ApplySite : SFn := ⟨42, ag_impl_ApplySite, mu_impl_ApplySite, rs_impl_ApplySite, F_impl_ApplySite⟩
def sc_impl_ApplySite : SCode :=
 (.seq
 (.reg false [
 oX 3 (.box 2 0),
 oX 5 (.box 3 2),
 oX 6 (.alloc [zX, .nil gX]),
 oX 7 (.mv (.k (.one (.v (.bool) (false)))))])
 (.seq
 (.seq
 (.reg false [
 oX 15 (.load true 2 3),
 oX 16 (.call .live 18 [15]),
 oX 17 (.un .not 16),
 oX 18 (.mv 17),
 ⟨(some 19), .mv 1, (some (18, false))⟩,
 ⟨(some 20), .bin .lss 19 (kX 0), (some (18, false))⟩,
 oX 21 (.pick 18 (.k (.one (.v (.bool) (true)))) 20),
 oX 22 (.mv 21),
 ⟨(some 23), .mv 1, (some (22, false))⟩,
 ⟨(some 24), .fieldA 1 3, (some (22, false))⟩,
 ⟨(some 25), .load false 1 24, (some (22, false))⟩,
 ⟨(some 26), .len 25, (some (22, false))⟩,
 ⟨(some 27), .bin .geq 23 26, (some (22, false))⟩,
 oX 28 (.pick 22 (.k (.one (.v (.bool) (true)))) 27),
 oX 29 (.mv 28),
 ⟨(some 30), .fieldA 0 3, (some (29, false))⟩,
 ⟨(some 31), .load false 1 30, (some (29, false))⟩,
 ⟨(some 32), .load true 3 5, (some (29, false))⟩,
 ⟨(some 33), .call .live 93 [31, 32], (some (29, false))⟩,
 ⟨(some 34), .un .not 33, (some (29, false))⟩,
 oX 35 (.pick 29 (.k (.one (.v (.bool) (true)))) 34)])
 (.cond 35
 (.seq
 (.reg false [
 oX 36 (.build [zX, .nil gX] []),
 uX (.store 2 6 36),
 oX 7 (.mv (.k (.one (.v (.bool) (false)))))])
 .ret)
 .skip))
 (.seq
 (.reg false [
 oX 37 (.fieldA 1 3),
 oX 38 (.load false 1 37),
 oX 39 (.mv 1),
 oX 40 (.idxA 4 38 39),
 oX 41 (.load true 4 40),
 oX 8 (.alloc [zX, zX, zX, .nil iX]),
 uX (.store 4 8 41)])
 (.seq
 (.seq
 (.reg false [
 oX 42 (.fieldA 0 5),
 oX 43 (.load false 1 42),
 oX 44 (.fieldA 1 8),
 oX 45 (.load false 1 44),
 oX 46 (.bin .neq 43 45),
 oX 47 (.mv 46),
 ⟨(some 48), .fieldA 1 5, (some (47, false))⟩,
 ⟨(some 49), .load false 1 48, (some (47, false))⟩,
 ⟨(some 50), .fieldA 1 8, (some (47, false))⟩,
 ⟨(some 51), .load false 1 50, (some (47, false))⟩,
 ⟨(some 52), .bin .neq 49 51, (some (47, false))⟩,
 oX 53 (.pick 47 (.k (.one (.v (.bool) (true)))) 52)])
 (.cond 53
 (.seq
 (.reg false [
 oX 54 (.build [zX, .nil gX] []),
 uX (.store 2 6 54),
 oX 7 (.mv (.k (.one (.v (.bool) (false)))))])
 .ret)
 .skip))
 (.seq
 (.reg false [
 oX 55 (.load true 2 3),
 oX 56 (.call .live 94 [55]),
 oX 9 (.alloc [zX, .nil gX]),
 uX (.store 2 9 56)])
 (.seq
 (.seq
 (.reg false [
 oX 10 (.mv (kX 0))])
 (.join ⟨[(9, .one (rX 9)), (6, .one (rX 6))], [(6, .box [vX, fX 500016 4]), (9, .box [vX, fX 500017 4]), (500016, .row true .live gX), (500017, .row true .live gX)]⟩ [3, 5, 6, 8, 9, 500000, 500001, 500016, 500017] [(true, 6, 1, 500016, .live, []), (true, 9, 1, 500017, .live, [])]
 (.block 0
 (.loop 0 ⟨[(1, sX), (3, .one (rX 3)), (5, .one (rX 5)), (6, .one (rX 6)), (8, .one (rX 8)), (9, .one (rX 9)), (10, sX)], [(3, .box [vX, .c (.v (.list gX))]), (5, .box [vX, vX, .c (.v (lX))]), (6, .box [vX, fX 500000 4]), (8, .box [vX, vX, vX, .c (.v (lX))]), (9, .box [vX, fX 500001 4]), (500000, .row true .live gX), (500001, .row true .live gX)]⟩ [3, 5, 6, 8, 57000, 9, 500000, 500001, 500014, 500015] [(true, 6, 1, 500000, .live, []), (true, 9, 1, 500001, .live, [])]
 (.seq
 (.seq
 (.reg false [
 oX 57 (.mv 10),
 oX 58 (.fieldA 0 8),
 oX 59 (.load false 1 58),
 oX 60 (.bin .lss 57 59)])
 (.cond 60
 .skip
 (.exit 0)))
 (.seq
 (.join ⟨[(10, sX), (1, sX), (3, .one (rX 3)), (5, .one (rX 5)), (6, .one (rX 6)), (8, .one (rX 8)), (9, .one (rX 9))], [(3, .box [vX, .c (.v (.list gX))]), (5, .box [vX, vX, .c (.v (lX))]), (6, .box [vX, fX 500014 4]), (8, .box [vX, vX, vX, .c (.v (lX))]), (9, .box [vX, fX 500015 4]), (500014, .row true .live gX), (500015, .row true .live gX)]⟩ [3, 5, 6, 8, 9, 500002, 500003, 500014, 500015] [(true, 6, 1, 500014, .live, []), (true, 9, 1, 500015, .live, [])]
 (.block 1
 (.seq
 (.reg false [
 oX 11 (.mv (kX 0))])
 (.block 2
 (.loop 0 ⟨[(1, sX), (3, .one (rX 3)), (5, .one (rX 5)), (6, .one (rX 6)), (8, .one (rX 8)), (9, .one (rX 9)), (10, sX), (11, sX)], [(3, .box [vX, .c (.v (.list gX))]), (5, .box [vX, vX, .c (.v (lX))]), (6, .box [vX, fX 500002 4]), (8, .box [vX, vX, vX, .c (.v (lX))]), (9, .box [vX, fX 500003 4]), (500002, .row true .live gX), (500003, .row true .live gX)]⟩ [3, 5, 6, 8, 9, 500000, 500001, 500002, 500003, 500012, 500013] [(true, 6, 1, 500002, .live, []), (true, 9, 1, 500003, .live, [])]
 (.seq
 (.seq
 (.reg false [
 oX 63 (.mv 11),
 oX 64 (.fieldA 1 8),
 oX 65 (.load false 1 64),
 oX 66 (.bin .lss 63 65)])
 (.cond 66
 .skip
 (.exit 2)))
 (.seq
 (.join ⟨[(11, sX), (1, sX), (3, .one (rX 3)), (5, .one (rX 5)), (6, .one (rX 6)), (8, .one (rX 8)), (9, .one (rX 9)), (10, sX)], [(3, .box [vX, .c (.v (.list gX))]), (5, .box [vX, vX, .c (.v (lX))]), (6, .box [vX, fX 500012 4]), (8, .box [vX, vX, vX, .c (.v (lX))]), (9, .box [vX, fX 500013 4]), (500012, .row true .live gX), (500013, .row true .live gX)]⟩ [3, 5, 6, 8, 9, 500004, 500005, 500012, 500013] [(true, 6, 1, 500012, .live, []), (true, 9, 1, 500013, .live, [])]
 (.block 3
 (.seq
 (.reg false [
 oX 12 (.mv (kX 0))])
 (.block 4
 (.loop 0 ⟨[(1, sX), (3, .one (rX 3)), (5, .one (rX 5)), (6, .one (rX 6)), (8, .one (rX 8)), (9, .one (rX 9)), (10, sX), (11, sX), (12, sX)], [(3, .box [vX, .c (.v (.list gX))]), (5, .box [vX, vX, .c (.v (lX))]), (6, .box [vX, fX 500004 4]), (8, .box [vX, vX, vX, .c (.v (lX))]), (9, .box [vX, fX 500005 4]), (500004, .row true .live gX), (500005, .row true .live gX)]⟩ [3, 5, 6, 8, 9, 500002, 500003, 500004, 500005, 500010, 500011] [(true, 6, 1, 500004, .live, []), (true, 9, 1, 500005, .live, [])]
 (.seq
 (.seq
 (.reg false [
 oX 69 (.mv 12),
 oX 70 (.fieldA 2 8),
 oX 71 (.load false 1 70),
 oX 72 (.bin .lss 69 71)])
 (.cond 72
 .skip
 (.exit 4)))
 (.seq
 (.join ⟨[(12, sX), (1, sX), (3, .one (rX 3)), (5, .one (rX 5)), (6, .one (rX 6)), (8, .one (rX 8)), (9, .one (rX 9)), (10, sX), (11, sX)], [(3, .box [vX, .c (.v (.list gX))]), (5, .box [vX, vX, .c (.v (lX))]), (6, .box [vX, fX 500010 4]), (8, .box [vX, vX, vX, .c (.v (lX))]), (9, .box [vX, fX 500011 4]), (500010, .row true .live gX), (500011, .row true .live gX)]⟩ [3, 5, 6, 8, 9, 500008, 500009, 500010, 500011] [(true, 6, 1, 500010, .live, []), (true, 9, 1, 500011, .live, [])]
 (.block 5
 (.seq
 (.reg false [
 oX 13 (.mv (kX 0))])
 (.seq
 (.seq
 (.reg false [
 oX 14 (.mv (kX 0))])
 (.join ⟨[(13, sX), (12, sX), (1, sX), (3, .one (rX 3)), (5, .one (rX 5)), (6, .one (rX 6)), (8, .one (rX 8)), (9, .one (rX 9)), (10, sX), (11, sX)], [(3, .box [vX, .c (.v (.list gX))]), (5, .box [vX, vX, .c (.v (lX))]), (6, .box [vX, fX 500008 4]), (8, .box [vX, vX, vX, .c (.v (lX))]), (9, .box [vX, fX 500009 4]), (500008, .row true .live gX), (500009, .row true .live gX)]⟩ [3, 5, 6, 8, 9, 500006, 500007, 500008, 500009] [(true, 6, 1, 500008, .live, []), (true, 9, 1, 500009, .live, [])]
 (.block 6
 (.loop 0 ⟨[(1, sX), (3, .one (rX 3)), (5, .one (rX 5)), (6, .one (rX 6)), (8, .one (rX 8)), (9, .one (rX 9)), (10, sX), (11, sX), (12, sX), (13, sX), (14, sX)], [(3, .box [vX, .c (.v (.list gX))]), (5, .box [vX, vX, .c (.v (lX))]), (6, .box [vX, fX 500006 4]), (8, .box [vX, vX, vX, .c (.v (lX))]), (9, .box [vX, fX 500007 4]), (500006, .row true .live gX), (500007, .row true .live gX)]⟩ [3, 5, 6, 8, 9, 500004, 500005, 500006, 500007] [(true, 6, 1, 500006, .live, []), (true, 9, 1, 500007, .live, [])]
 (.seq
 (.seq
 (.reg false [
 oX 75 (.mv 14),
 oX 76 (.fieldA 1 8),
 oX 77 (.load false 1 76),
 oX 78 (.bin .lss 75 77)])
 (.cond 78
 .skip
 (.exit 6)))
 (.seq
 (.block 7
 (.reg true [
 oX 81 (.mv 13),
 oX 82 (.load true 3 5),
 oX 83 (.mv 11),
 oX 84 (.mv 14),
 oX 85 (.call .live 95 [82, 83, 84]),
 oX 86 (.load true 4 8),
 oX 87 (.mv 10),
 oX 88 (.mv 14),
 oX 89 (.mv 12),
 oX 90 (.call .live 96 [86, 87, 88, 89]),
 oX 91 (.bin .mul 85 90),
 oX 92 (.bin .add 81 91),
 oX 93 (.fieldA 0 3),
 oX 94 (.load false 1 93),
 oX 95 (.bin .rem 92 94),
 oX 13 (.mv 95)]))
 (.reg false [
 oX 79 (.mv 14),
 oX 80 (.bin .add 79 (kX 1)),
 oX 14 (.mv 80)])))))))
 (.reg true [
 oX 96 (.fieldA 1 9),
 oX 97 (.load false 1 96),
 oX 98 (.mv 1),
 oX 99 (.idxA 4 97 98),
 oX 100 (.fieldA 3 99),
 oX 101 (.load false 1 100),
 oX 102 (.mv 10),
 oX 103 (.fieldA 1 8),
 oX 104 (.load false 1 103),
 oX 105 (.bin .mul 102 104),
 oX 106 (.mv 11),
 oX 107 (.bin .add 105 106),
 oX 108 (.fieldA 2 8),
 oX 109 (.load false 1 108),
 oX 110 (.bin .mul 107 109),
 oX 111 (.mv 12),
 oX 112 (.bin .add 110 111),
 oX 113 (.mv 13),
 oX 114 (.idxA 1 101 112),
 uX (.store 1 114 113)])))))
 (.reg false [
 oX 73 (.mv 12),
 oX 74 (.bin .add 73 (kX 1)),
 oX 12 (.mv 74)]))))))))
 (.reg false [
 oX 67 (.mv 11),
 oX 68 (.bin .add 67 (kX 1)),
 oX 11 (.mv 68)]))))))))
 (.reg false [
 oX 61 (.mv 10),
 oX 62 (.bin .add 61 (kX 1)),
 oX 10 (.mv 62)])))))))
 (.seq
 (.reg false [
 oX 115 (.load true 2 9),
 uX (.store 2 6 115),
 oX 7 (.mv (.k (.one (.v (.bool) (true)))))])
 .ret)))))))
def ms_impl_ApplySite : List MRes := [.cell 6 2 true, .tmp 7]
theorem n_impl_ApplySite (NN : Nat) (x : DLL (Sig.tys ag_impl_ApplySite)) : runS NN [fn_impl_ChainOk, fn_impl_MatrixOk, fn_impl_copyChain, fn_impl_Matrix_at, fn_impl_Site_at] sc_impl_ApplySite ms_impl_ApplySite ag_impl_ApplySite rs_impl_ApplySite x = G_impl_ApplySite NN x := by kernel_rfl
theorem k_impl_ApplySite : chkS pX 42 sc_impl_ApplySite.er ms_impl_ApplySite 3 = true := by decide +kernel
theorem p_impl_ApplySite : PureSpec pX 42 fn_impl_ApplySite.M ∧ chkFun pX 42 = true :=
  pure_of_runS (T := [fn_impl_ChainOk, fn_impl_MatrixOk, fn_impl_copyChain, fn_impl_Matrix_at, fn_impl_Site_at]) (sc := sc_impl_ApplySite) (ms := ms_impl_ApplySite) (args := ag_impl_ApplySite) (res := rs_impl_ApplySite) (SOk.cons p_impl_ChainOk <| SOk.cons p_impl_MatrixOk <| SOk.cons p_impl_copyChain <| SOk.cons p_impl_Matrix_at <| SOk.cons p_impl_Site_at <| SOk.nil) follows_ok k_impl_ApplySite F_impl_ApplySite fun x y h => (n_impl_ApplySite FUEL x).trans (f_impl_ApplySite x y h)

def fn_impl_chainDims : SFn := ⟨74, ag_impl_chainDims, mu_impl_chainDims, rs_impl_chainDims, F_impl_chainDims⟩
def sc_impl_chainDims : SCode :=
 (.seq
 (.reg false [
 oX 1 (.box 2 0),
 oX 2 (.mv (.k (.one (.nil iX))))])
 (.seq
 (.reg false [
 oX 3 (.mv (.k (.one (.nil iX))))])
 (.seq
 (.seq
 (.reg false [
 oX 6 (.fieldA 1 1),
 oX 7 (.load false 1 6),
 oX 8 (.len 7),
 oX 9 (.mv (kX 0))])
 (.join ⟨[(3, .one (fX 500001 1))], [(500001, .row true .froz iX)]⟩ [500000, 500001] [(false, 3, 0, 500001, .froz, [])]
 (.block 0
 (.loop 0 ⟨[(3, .one (fX 500000 1)), (7, .one (.c (.v (.list gX)))), (8, sX), (9, sX)], [(500000, .row true .froz iX)]⟩ [1, 5, 16, 17, 500000] [(false, 3, 0, 500000, .froz, [])]
 (.seq
 (.reg false [
 oX 10 (.bin .lss 9 8)])
 (.seq
 (.cond 10
 .skip
 (.exit 0))
 (.seq
 (.block 1
 (.seq
 (.reg false [
 oX 11 (.idxA 4 7 9),
 oX 12 (.load true 4 11),
 oX 5 (.alloc [zX, zX, zX, .nil iX]),
 uX (.store 4 5 12)])
 (.reg false [
 oX 13 (.mv 3),
 oX 14 (.fieldA 1 5),
 oX 15 (.load false 1 14),
 oX 16 (.bslice iX [15]),
 oX 17 (.append true iX 8 13 16),
 oX 3 (.mv 17)])))
 (.reg false [
 oX 18 (.bin .add 9 (kX 1)),
 oX 9 (.mv 18)]))))))))
 (.seq
 (.reg false [
 oX 19 (.mv 3),
 oX 2 (.mv 19)])
 .ret))))
def ms_impl_chainDims : List MRes := [.tmp 2]
theorem n_impl_chainDims (NN : Nat) (x : DLL (Sig.tys ag_impl_chainDims)) : runS NN [] sc_impl_chainDims ms_impl_chainDims ag_impl_chainDims rs_impl_chainDims x = G_impl_chainDims NN x := by kernel_rfl
theorem k_impl_chainDims : chkS pX 74 sc_impl_chainDims.er ms_impl_chainDims 1 = true := by decide +kernel
theorem p_impl_chainDims : PureSpec pX 74 fn_impl_chainDims.M ∧ chkFun pX 74 = true :=
  pure_of_runS (T := []) (sc := sc_impl_chainDims) (ms := ms_impl_chainDims) (args := ag_impl_chainDims) (res := rs_impl_chainDims) (SOk.nil) follows_ok k_impl_chainDims F_impl_chainDims fun x y h => (n_impl_chainDims FUEL x).trans (f_impl_chainDims x y h)

def fn_impl_equalInts : SFn := ⟨130, ag_impl_equalInts, mu_impl_equalInts, rs_impl_equalInts, F_impl_equalInts⟩
def sc_impl_equalInts : SCode :=
 (.seq
 (.reg false [
 oX 4 (.mv (.k (.one (.v (.bool) (false)))))])
 (.seq
 (.seq
 (.reg false [
 oX 6 (.mv 0),
 oX 7 (.len 6),
 oX 8 (.mv 1),
 oX 9 (.len 8),
 oX 10 (.bin .neq 7 9)])
 (.cond 10
 (.seq
 (.reg false [
 oX 4 (.mv (.k (.one (.v (.bool) (false)))))])
 .ret)
 .skip))
 (.seq
 (.seq
 (.reg false [
 oX 11 (.mv 0),
 oX 12 (.len 11),
 oX 13 (.mv (kX 0))])
 (.join ⟨[], []⟩ [] []
 (.block 0
 (.loop 0 ⟨[(0, .one (.c (.v (lX)))), (1, .one (.c (.v (lX)))), (12, sX), (13, sX)], []⟩ [] []
 (.seq
 (.reg false [
 oX 14 (.bin .lss 13 12)])
 (.seq
 (.cond 14
 .skip
 (.exit 0))
 (.seq
 (.block 1
 (.seq
 (.reg false [
 oX 15 (.mv 13),
 oX 5 (.mv 15)])
 (.seq
 (.reg true [
 oX 16 (.mv 0),
 oX 17 (.mv 5),
 oX 18 (.idxA 1 16 17),
 oX 19 (.load false 1 18),
 oX 20 (.mv 1),
 oX 21 (.mv 5),
 oX 22 (.idxA 1 20 21),
 oX 23 (.load false 1 22),
 oX 24 (.bin .neq 19 23)])
 (.cond 24
 (.seq
 (.reg false [
 oX 4 (.mv (.k (.one (.v (.bool) (false)))))])
 .ret)
 .skip))))
 (.reg false [
 oX 25 (.bin .add 13 (kX 1)),
 oX 13 (.mv 25)]))))))))
 (.seq
 (.reg false [
 oX 4 (.mv (.k (.one (.v (.bool) (true)))))])
 .ret))))
def ms_impl_equalInts : List MRes := [.tmp 4]
theorem n_impl_equalInts (NN : Nat) (x : DLL (Sig.tys ag_impl_equalInts)) : runS NN [] sc_impl_equalInts ms_impl_equalInts ag_impl_equalInts rs_impl_equalInts x = G_impl_equalInts NN x := by kernel_rfl
theorem k_impl_equalInts : chkS pX 130 sc_impl_equalInts.er ms_impl_equalInts 2 = true := by decide +kernel
theorem p_impl_equalInts : PureSpec pX 130 fn_impl_equalInts.M ∧ chkFun pX 130 = true :=
  pure_of_runS (T := []) (sc := sc_impl_equalInts) (ms := ms_impl_equalInts) (args := ag_impl_equalInts) (res := rs_impl_equalInts) (SOk.nil) follows_ok k_impl_equalInts F_impl_equalInts fun x y h => (n_impl_equalInts FUEL x).trans (f_impl_equalInts x y h)

def fn_impl_sameShape : SFn := ⟨81, ag_impl_sameShape, mu_impl_sameShape, rs_impl_sameShape, F_impl_sameShape⟩
def sc_impl_sameShape : SCode :=
 (.seq
 (.reg false [
 oX 2 (.box 2 0),
 oX 3 (.box 2 1),
 oX 4 (.mv (.k (.one (.v (.bool) (false)))))])
 (.seq
 (.reg true [
 oX 5 (.load true 2 2),
 oX 6 (.call .froz 18 [5]),
 oX 7 (.mv 6),
 ⟨(some 8), .load true 2 3, (some (7, true))⟩,
 ⟨(some 9), .call .froz 18 [8], (some (7, true))⟩,
 oX 10 (.pick 7 9 (.k (.one (.v (.bool) (false))))),
 oX 11 (.mv 10),
 ⟨(some 12), .fieldA 0 2, (some (11, true))⟩,
 ⟨(some 13), .load false 1 12, (some (11, true))⟩,
 ⟨(some 14), .fieldA 0 3, (some (11, true))⟩,
 ⟨(some 15), .load false 1 14, (some (11, true))⟩,
 ⟨(some 16), .bin .eql 13 15, (some (11, true))⟩,
 oX 17 (.pick 11 16 (.k (.one (.v (.bool) (false))))),
 oX 18 (.mv 17),
 ⟨(some 19), .load true 2 2, (some (18, true))⟩,
 ⟨(some 20), .call .froz 74 [19], (some (18, true))⟩,
 ⟨(some 21), .load true 2 3, (some (18, true))⟩,
 ⟨(some 22), .call .froz 74 [21], (some (18, true))⟩,
 ⟨(some 23), .call .froz 130 [20, 22], (some (18, true))⟩,
 oX 24 (.pick 18 23 (.k (.one (.v (.bool) (false))))),
 oX 4 (.mv 24)])
 .ret))
def ms_impl_sameShape : List MRes := [.tmp 4]
theorem n_impl_sameShape (NN : Nat) (x : DLL (Sig.tys ag_impl_sameShape)) : runS NN [fn_impl_ChainOk, fn_impl_chainDims, fn_impl_equalInts] sc_impl_sameShape ms_impl_sameShape ag_impl_sameShape rs_impl_sameShape x = G_impl_sameShape NN x := by kernel_rfl
theorem k_impl_sameShape : chkS pX 81 sc_impl_sameShape.er ms_impl_sameShape 2 = true := by decide +kernel
theorem p_impl_sameShape : PureSpec pX 81 fn_impl_sameShape.M ∧ chkFun pX 81 = true :=
  pure_of_runS (T := [fn_impl_ChainOk, fn_impl_chainDims, fn_impl_equalInts]) (sc := sc_impl_sameShape) (ms := ms_impl_sameShape) (args := ag_impl_sameShape) (res := rs_impl_sameShape) (SOk.cons p_impl_ChainOk <| SOk.cons p_impl_chainDims <| SOk.cons p_impl_equalInts <| SOk.nil) follows_ok k_impl_sameShape F_impl_sameShape fun x y h => (n_impl_sameShape FUEL x).trans (f_impl_sameShape x y h)

def fn_impl_emptyMatrix : SFn := ⟨82, ag_impl_emptyMatrix, mu_impl_emptyMatrix, rs_impl_emptyMatrix, F_impl_emptyMatrix⟩
def sc_impl_emptyMatrix : SCode :=
 (.seq
 (.reg false [
 oX 4 (.alloc [zX, zX, .nil iX])])
 (.seq
 (.reg false [
 oX 5 (.mv 0),
 oX 6 (.mv 1),
 oX 7 (.mv 0),
 oX 8 (.mv 1),
 oX 9 (.bin .mul 7 8),
 oX 10 (.mkslice .froz iX 8 (0 : Int) 9 9),
 oX 11 (.build [zX, zX, .nil iX] [(0, 1, 5), (1, 1, 6), (2, 1, 10)]),
 uX (.store 3 4 11)])
 .ret))
def ms_impl_emptyMatrix : List MRes := [.cell 4 3 true]
theorem n_impl_emptyMatrix (NN : Nat) (x : DLL (Sig.tys ag_impl_emptyMatrix)) : runS NN [] sc_impl_emptyMatrix ms_impl_emptyMatrix ag_impl_emptyMatrix rs_impl_emptyMatrix x = G_impl_emptyMatrix NN x := by kernel_rfl
theorem k_impl_emptyMatrix : chkS pX 82 sc_impl_emptyMatrix.er ms_impl_emptyMatrix 2 = true := by decide +kernel
theorem p_impl_emptyMatrix : PureSpec pX 82 fn_impl_emptyMatrix.M ∧ chkFun pX 82 = true :=
  pure_of_runS (T := []) (sc := sc_impl_emptyMatrix) (ms := ms_impl_emptyMatrix) (args := ag_impl_emptyMatrix) (res := rs_impl_emptyMatrix) (SOk.nil) follows_ok k_impl_emptyMatrix F_impl_emptyMatrix fun x y h => (n_impl_emptyMatrix FUEL x).trans (f_impl_emptyMatrix x y h)

def fn_impl_Matrix_set : SFn := ⟨101, ag_impl_Matrix_set, mu_impl_Matrix_set, rs_impl_Matrix_set, F_impl_Matrix_set⟩
def sc_impl_Matrix_set : SCode :=
 (.seq
 (.reg false [
 oX 4 (.box 3 0)])
 (.reg false [
 oX 8 (.fieldA 2 4),
 oX 9 (.load false 1 8),
 oX 10 (.mv 1),
 oX 11 (.fieldA 1 4),
 oX 12 (.load false 1 11),
 oX 13 (.bin .mul 10 12),
 oX 14 (.mv 2),
 oX 15 (.bin .add 13 14),
 oX 16 (.mv 3),
 oX 17 (.idxA 1 9 15),
 uX (.store 1 17 16)]))
def ms_impl_Matrix_set : List MRes := []
theorem n_impl_Matrix_set (NN : Nat) (x : DLL (Sig.tys ag_impl_Matrix_set)) : runMS NN [] sc_impl_Matrix_set ms_impl_Matrix_set ag_impl_Matrix_set mu_impl_Matrix_set rs_impl_Matrix_set x = G_impl_Matrix_set NN x := by kernel_rfl
theorem k_impl_Matrix_set : chkS pX 101 sc_impl_Matrix_set.er ms_impl_Matrix_set 4 = true := by decide +kernel
theorem p_impl_Matrix_set : MutSpec pX 101 mu_impl_Matrix_set fn_impl_Matrix_set.MM ∧ chkFun pX 101 = true :=
  mut_of_runMS (T := []) (sc := sc_impl_Matrix_set) (ms := ms_impl_Matrix_set) (args := ag_impl_Matrix_set) (mu := mu_impl_Matrix_set) (res := rs_impl_Matrix_set) (SOk.nil) follows_ok k_impl_Matrix_set F_impl_Matrix_set fun x y h => (n_impl_Matrix_set FUEL x).trans (f_impl_Matrix_set x y h)

def fn_impl_valueMatrix : SFn := ⟨85, ag_impl_valueMatrix, mu_impl_valueMatrix, rs_impl_valueMatrix, F_impl_valueMatrix⟩
def sc_impl_valueMatrix : SCode :=
 (.seq
 (.reg false [
 oX 2 (.box 4 0),
 oX 4 (.alloc [zX, zX, .nil iX])])
 (.seq
 (.reg false [
 oX 8 (.fieldA 0 2),
 oX 9 (.load false 1 8),
 oX 10 (.fieldA 2 2),
 oX 11 (.load false 1 10),
 oX 12 (.call .froz 82 [9, 11]),
 oX 5 (.alloc [zX, zX, .nil iX]),
 uX (.store 3 5 12)])
 (.seq
 (.seq
 (.reg false [
 oX 6 (.mv (kX 0))])
 (.join ⟨[(5, .one (rX 5)), (4, .one (rX 4))], [(4, .box [vX, vX, fX 500006 1]), (5, .box [vX, vX, fX 500007 1]), (500006, .row true .froz iX), (500007, .row true .froz iX)]⟩ [2, 4, 5, 500000, 500001, 500006, 500007] [(true, 4, 2, 500006, .froz, []), (true, 5, 2, 500007, .froz, [])]
 (.block 0
 (.loop 0 ⟨[(1, sX), (2, .one (rX 2)), (4, .one (rX 4)), (5, .one (rX 5)), (6, sX)], [(2, .box [vX, vX, vX, .c (.v (lX))]), (4, .box [vX, vX, fX 500000 1]), (5, .box [vX, vX, fX 500001 1]), (500000, .row true .froz iX), (500001, .row true .froz iX)]⟩ [2, 4, 13000, 5, 500000, 500001, 500004, 500005] [(true, 4, 2, 500000, .froz, []), (true, 5, 2, 500001, .froz, [])]
 (.seq
 (.seq
 (.reg false [
 oX 13 (.mv 6),
 oX 14 (.fieldA 0 2),
 oX 15 (.load false 1 14),
 oX 16 (.bin .lss 13 15)])
 (.cond 16
 .skip
 (.exit 0)))
 (.seq
 (.join ⟨[(6, sX), (1, sX), (2, .one (rX 2)), (4, .one (rX 4)), (5, .one (rX 5))], [(2, .box [vX, vX, vX, .c (.v (lX))]), (4, .box [vX, vX, fX 500004 1]), (5, .box [vX, vX, fX 500005 1]), (500004, .row true .froz iX), (500005, .row true .froz iX)]⟩ [2, 4, 5, 500002, 500003, 500004, 500005] [(true, 4, 2, 500004, .froz, []), (true, 5, 2, 500005, .froz, [])]
 (.block 1
 (.seq
 (.reg false [
 oX 7 (.mv (kX 0))])
 (.block 2
 (.loop 0 ⟨[(1, sX), (2, .one (rX 2)), (4, .one (rX 4)), (5, .one (rX 5)), (6, sX), (7, sX)], [(2, .box [vX, vX, vX, .c (.v (lX))]), (4, .box [vX, vX, fX 500002 1]), (5, .box [vX, vX, fX 500003 1]), (500002, .row true .froz iX), (500003, .row true .froz iX)]⟩ [2, 4, 5, 500000, 500001, 500002, 500003] [(true, 4, 2, 500002, .froz, []), (true, 5, 2, 500003, .froz, [])]
 (.seq
 (.seq
 (.reg false [
 oX 19 (.mv 7),
 oX 20 (.fieldA 2 2),
 oX 21 (.load false 1 20),
 oX 22 (.bin .lss 19 21)])
 (.cond 22
 .skip
 (.exit 2)))
 (.seq
 (.block 3
 (.reg true [
 oX 25 (.load true 3 5),
 oX 26 (.mv 6),
 oX 27 (.mv 7),
 oX 28 (.load true 4 2),
 oX 29 (.mv 6),
 oX 30 (.mv 1),
 oX 31 (.mv 7),
 oX 32 (.call .froz 96 [28, 29, 30, 31]),
 oX 33 (.callm .froz 101 [25, 26, 27, 32])]))
 (.reg false [
 oX 23 (.mv 7),
 oX 24 (.bin .add 23 (kX 1)),
 oX 7 (.mv 24)]))))))))
 (.reg false [
 oX 17 (.mv 6),
 oX 18 (.bin .add 17 (kX 1)),
 oX 6 (.mv 18)])))))))
 (.seq
 (.reg false [
 oX 34 (.load true 3 5),
 uX (.store 3 4 34)])
 .ret))))
def ms_impl_valueMatrix : List MRes := [.cell 4 3 true]
theorem n_impl_valueMatrix (NN : Nat) (x : DLL (Sig.tys ag_impl_valueMatrix)) : runS NN [fn_impl_emptyMatrix, fn_impl_Site_at, fn_impl_Matrix_set] sc_impl_valueMatrix ms_impl_valueMatrix ag_impl_valueMatrix rs_impl_valueMatrix x = G_impl_valueMatrix NN x := by kernel_rfl
theorem k_impl_valueMatrix : chkS pX 85 sc_impl_valueMatrix.er ms_impl_valueMatrix 2 = true := by decide +kernel
theorem p_impl_valueMatrix : PureSpec pX 85 fn_impl_valueMatrix.M ∧ chkFun pX 85 = true :=
  pure_of_runS (T := [fn_impl_emptyMatrix, fn_impl_Site_at, fn_impl_Matrix_set]) (sc := sc_impl_valueMatrix) (ms := ms_impl_valueMatrix) (args := ag_impl_valueMatrix) (res := rs_impl_valueMatrix) (SOk.cons p_impl_emptyMatrix <| SOk.cons p_impl_Site_at <| SOk.consM p_impl_Matrix_set <| SOk.nil) follows_ok k_impl_valueMatrix F_impl_valueMatrix fun x y h => (n_impl_valueMatrix FUEL x).trans (f_impl_valueMatrix x y h)

def fn_impl_rawTranspose : SFn := ⟨84, ag_impl_rawTranspose, mu_impl_rawTranspose, rs_impl_rawTranspose, F_impl_rawTranspose⟩
def sc_impl_rawTranspose : SCode :=
 (.seq
 (.reg false [
 oX 1 (.box 3 0),
 oX 2 (.alloc [zX, zX, .nil iX])])
 (.seq
 (.reg false [
 oX 6 (.fieldA 1 1),
 oX 7 (.load false 1 6),
 oX 8 (.fieldA 0 1),
 oX 9 (.load false 1 8),
 oX 10 (.call .froz 82 [7, 9]),
 oX 3 (.alloc [zX, zX, .nil iX]),
 uX (.store 3 3 10)])
 (.seq
 (.seq
 (.reg false [
 oX 4 (.mv (kX 0))])
 (.join ⟨[(3, .one (rX 3)), (2, .one (rX 2))], [(2, .box [vX, vX, fX 500006 1]), (3, .box [vX, vX, fX 500007 1]), (500006, .row true .froz iX), (500007, .row true .froz iX)]⟩ [1, 2, 3, 500000, 500001, 500006, 500007] [(true, 2, 2, 500006, .froz, []), (true, 3, 2, 500007, .froz, [])]
 (.block 0
 (.loop 0 ⟨[(1, .one (rX 1)), (2, .one (rX 2)), (3, .one (rX 3)), (4, sX)], [(1, .box [vX, vX, .c (.v (lX))]), (2, .box [vX, vX, fX 500000 1]), (3, .box [vX, vX, fX 500001 1]), (500000, .row true .froz iX), (500001, .row true .froz iX)]⟩ [1, 2, 11000, 3, 500000, 500001, 500004, 500005] [(true, 2, 2, 500000, .froz, []), (true, 3, 2, 500001, .froz, [])]
 (.seq
 (.seq
 (.reg false [
 oX 11 (.mv 4),
 oX 12 (.fieldA 0 1),
 oX 13 (.load false 1 12),
 oX 14 (.bin .lss 11 13)])
 (.cond 14
 .skip
 (.exit 0)))
 (.seq
 (.join ⟨[(4, sX), (1, .one (rX 1)), (2, .one (rX 2)), (3, .one (rX 3))], [(1, .box [vX, vX, .c (.v (lX))]), (2, .box [vX, vX, fX 500004 1]), (3, .box [vX, vX, fX 500005 1]), (500004, .row true .froz iX), (500005, .row true .froz iX)]⟩ [1, 2, 3, 500002, 500003, 500004, 500005] [(true, 2, 2, 500004, .froz, []), (true, 3, 2, 500005, .froz, [])]
 (.block 1
 (.seq
 (.reg false [
 oX 5 (.mv (kX 0))])
 (.block 2
 (.loop 0 ⟨[(1, .one (rX 1)), (2, .one (rX 2)), (3, .one (rX 3)), (4, sX), (5, sX)], [(1, .box [vX, vX, .c (.v (lX))]), (2, .box [vX, vX, fX 500002 1]), (3, .box [vX, vX, fX 500003 1]), (500002, .row true .froz iX), (500003, .row true .froz iX)]⟩ [1, 2, 3, 500000, 500001, 500002, 500003] [(true, 2, 2, 500002, .froz, []), (true, 3, 2, 500003, .froz, [])]
 (.seq
 (.seq
 (.reg false [
 oX 17 (.mv 5),
 oX 18 (.fieldA 1 1),
 oX 19 (.load false 1 18),
 oX 20 (.bin .lss 17 19)])
 (.cond 20
 .skip
 (.exit 2)))
 (.seq
 (.block 3
 (.reg true [
 oX 23 (.load true 3 3),
 oX 24 (.mv 5),
 oX 25 (.mv 4),
 oX 26 (.load true 3 1),
 oX 27 (.mv 4),
 oX 28 (.mv 5),
 oX 29 (.call .froz 95 [26, 27, 28]),
 oX 30 (.callm .froz 101 [23, 24, 25, 29])]))
 (.reg false [
 oX 21 (.mv 5),
 oX 22 (.bin .add 21 (kX 1)),
 oX 5 (.mv 22)]))))))))
 (.reg false [
 oX 15 (.mv 4),
 oX 16 (.bin .add 15 (kX 1)),
 oX 4 (.mv 16)])))))))
 (.seq
 (.reg false [
 oX 31 (.load true 3 3),
 uX (.store 3 2 31)])
 .ret))))
def ms_impl_rawTranspose : List MRes := [.cell 2 3 true]
theorem n_impl_rawTranspose (NN : Nat) (x : DLL (Sig.tys ag_impl_rawTranspose)) : runS NN [fn_impl_emptyMatrix, fn_impl_Matrix_at, fn_impl_Matrix_set] sc_impl_rawTranspose ms_impl_rawTranspose ag_impl_rawTranspose rs_impl_rawTranspose x = G_impl_rawTranspose NN x := by kernel_rfl
theorem k_impl_rawTranspose : chkS pX 84 sc_impl_rawTranspose.er ms_impl_rawTranspose 1 = true := by decide +kernel
theorem p_impl_rawTranspose : PureSpec pX 84 fn_impl_rawTranspose.M ∧ chkFun pX 84 = true :=
  pure_of_runS (T := [fn_impl_emptyMatrix, fn_impl_Matrix_at, fn_impl_Matrix_set]) (sc := sc_impl_rawTranspose) (ms := ms_impl_rawTranspose) (args := ag_impl_rawTranspose) (res := rs_impl_rawTranspose) (SOk.cons p_impl_emptyMatrix <| SOk.cons p_impl_Matrix_at <| SOk.consM p_impl_Matrix_set <| SOk.nil) follows_ok k_impl_rawTranspose F_impl_rawTranspose fun x y h => (n_impl_rawTranspose FUEL x).trans (f_impl_rawTranspose x y h)

def fn_impl_rawMulMatrix : SFn := ⟨83, ag_impl_rawMulMatrix, mu_impl_rawMulMatrix, rs_impl_rawMulMatrix, F_impl_rawMulMatrix⟩
def sc_impl_rawMulMatrix : SCode :=
 (.seq
 (.reg false [
 oX 4 (.box 3 1),
 oX 5 (.box 3 2),
 oX 6 (.alloc [zX, zX, .nil iX])])
 (.seq
 (.reg false [
 oX 12 (.fieldA 0 4),
 oX 13 (.load false 1 12),
 oX 14 (.fieldA 1 5),
 oX 15 (.load false 1 14),
 oX 16 (.call .froz 82 [13, 15]),
 oX 7 (.alloc [zX, zX, .nil iX]),
 uX (.store 3 7 16)])
 (.seq
 (.seq
 (.reg false [
 oX 8 (.mv (kX 0))])
 (.join ⟨[(7, .one (rX 7)), (6, .one (rX 6))], [(6, .box [vX, vX, fX 500012 1]), (7, .box [vX, vX, fX 500013 1]), (500012, .row true .froz iX), (500013, .row true .froz iX)]⟩ [4, 5, 6, 7, 500000, 500001, 500012, 500013] [(true, 6, 2, 500012, .froz, []), (true, 7, 2, 500013, .froz, [])]
 (.block 0
 (.loop 0 ⟨[(0, sX), (4, .one (rX 4)), (5, .one (rX 5)), (6, .one (rX 6)), (7, .one (rX 7)), (8, sX)], [(4, .box [vX, vX, .c (.v (lX))]), (5, .box [vX, vX, .c (.v (lX))]), (6, .box [vX, vX, fX 500000 1]), (7, .box [vX, vX, fX 500001 1]), (500000, .row true .froz iX), (500001, .row true .froz iX)]⟩ [4, 5, 6, 17000, 7, 500000, 500001, 500010, 500011] [(true, 6, 2, 500000, .froz, []), (true, 7, 2, 500001, .froz, [])]
 (.seq
 (.seq
 (.reg false [
 oX 17 (.mv 8),
 oX 18 (.fieldA 0 4),
 oX 19 (.load false 1 18),
 oX 20 (.bin .lss 17 19)])
 (.cond 20
 .skip
 (.exit 0)))
 (.seq
 (.join ⟨[(8, sX), (0, sX), (4, .one (rX 4)), (5, .one (rX 5)), (6, .one (rX 6)), (7, .one (rX 7))], [(4, .box [vX, vX, .c (.v (lX))]), (5, .box [vX, vX, .c (.v (lX))]), (6, .box [vX, vX, fX 500010 1]), (7, .box [vX, vX, fX 500011 1]), (500010, .row true .froz iX), (500011, .row true .froz iX)]⟩ [4, 5, 6, 7, 500002, 500003, 500010, 500011] [(true, 6, 2, 500010, .froz, []), (true, 7, 2, 500011, .froz, [])]
 (.block 1
 (.seq
 (.reg false [
 oX 9 (.mv (kX 0))])
 (.block 2
 (.loop 0 ⟨[(0, sX), (4, .one (rX 4)), (5, .one (rX 5)), (6, .one (rX 6)), (7, .one (rX 7)), (8, sX), (9, sX)], [(4, .box [vX, vX, .c (.v (lX))]), (5, .box [vX, vX, .c (.v (lX))]), (6, .box [vX, vX, fX 500002 1]), (7, .box [vX, vX, fX 500003 1]), (500002, .row true .froz iX), (500003, .row true .froz iX)]⟩ [4, 5, 6, 7, 500000, 500001, 500002, 500003, 500008, 500009] [(true, 6, 2, 500002, .froz, []), (true, 7, 2, 500003, .froz, [])]
 (.seq
 (.seq
 (.reg false [
 oX 23 (.mv 9),
 oX 24 (.fieldA 1 5),
 oX 25 (.load false 1 24),
 oX 26 (.bin .lss 23 25)])
 (.cond 26
 .skip
 (.exit 2)))
 (.seq
 (.join ⟨[(9, sX), (0, sX), (4, .one (rX 4)), (5, .one (rX 5)), (6, .one (rX 6)), (7, .one (rX 7)), (8, sX)], [(4, .box [vX, vX, .c (.v (lX))]), (5, .box [vX, vX, .c (.v (lX))]), (6, .box [vX, vX, fX 500008 1]), (7, .box [vX, vX, fX 500009 1]), (500008, .row true .froz iX), (500009, .row true .froz iX)]⟩ [4, 5, 6, 7, 500006, 500007, 500008, 500009] [(true, 6, 2, 500008, .froz, []), (true, 7, 2, 500009, .froz, [])]
 (.block 3
 (.seq
 (.reg false [
 oX 10 (.mv (kX 0))])
 (.seq
 (.seq
 (.reg false [
 oX 11 (.mv (kX 0))])
 (.join ⟨[(10, sX), (9, sX), (0, sX), (4, .one (rX 4)), (5, .one (rX 5)), (6, .one (rX 6)), (7, .one (rX 7)), (8, sX)], [(4, .box [vX, vX, .c (.v (lX))]), (5, .box [vX, vX, .c (.v (lX))]), (6, .box [vX, vX, fX 500006 1]), (7, .box [vX, vX, fX 500007 1]), (500006, .row true .froz iX), (500007, .row true .froz iX)]⟩ [4, 5, 6, 7, 500004, 500005, 500006, 500007] [(true, 6, 2, 500006, .froz, []), (true, 7, 2, 500007, .froz, [])]
 (.block 4
 (.loop 0 ⟨[(0, sX), (4, .one (rX 4)), (5, .one (rX 5)), (6, .one (rX 6)), (7, .one (rX 7)), (8, sX), (9, sX), (10, sX), (11, sX)], [(4, .box [vX, vX, .c (.v (lX))]), (5, .box [vX, vX, .c (.v (lX))]), (6, .box [vX, vX, fX 500004 1]), (7, .box [vX, vX, fX 500005 1]), (500004, .row true .froz iX), (500005, .row true .froz iX)]⟩ [4, 5, 6, 7, 500002, 500003, 500004, 500005] [(true, 6, 2, 500004, .froz, []), (true, 7, 2, 500005, .froz, [])]
 (.seq
 (.seq
 (.reg false [
 oX 29 (.mv 11),
 oX 30 (.fieldA 1 4),
 oX 31 (.load false 1 30),
 oX 32 (.bin .lss 29 31)])
 (.cond 32
 .skip
 (.exit 4)))
 (.seq
 (.block 5
 (.reg true [
 oX 35 (.mv 10),
 oX 36 (.load true 3 4),
 oX 37 (.mv 8),
 oX 38 (.mv 11),
 oX 39 (.call .froz 95 [36, 37, 38]),
 oX 40 (.load true 3 5),
 oX 41 (.mv 11),
 oX 42 (.mv 9),
 oX 43 (.call .froz 95 [40, 41, 42]),
 oX 44 (.bin .mul 39 43),
 oX 45 (.bin .add 35 44),
 oX 46 (.mv 0),
 oX 47 (.bin .rem 45 46),
 oX 10 (.mv 47)]))
 (.reg false [
 oX 33 (.mv 11),
 oX 34 (.bin .add 33 (kX 1)),
 oX 11 (.mv 34)])))))))
 (.reg false [
 oX 48 (.load true 3 7),
 oX 49 (.mv 8),
 oX 50 (.mv 9),
 oX 51 (.mv 10),
 oX 52 (.callm .froz 101 [48, 49, 50, 51])])))))
 (.reg false [
 oX 27 (.mv 9),
 oX 28 (.bin .add 27 (kX 1)),
 oX 9 (.mv 28)]))))))))
 (.reg false [
 oX 21 (.mv 8),
 oX 22 (.bin .add 21 (kX 1)),
 oX 8 (.mv 22)])))))))
 (.seq
 (.reg false [
 oX 53 (.load true 3 7),
 uX (.store 3 6 53)])
 .ret))))
def ms_impl_rawMulMatrix : List MRes := [.cell 6 3 true]
theorem n_impl_rawMulMatrix (NN : Nat) (x : DLL (Sig.tys ag_impl_rawMulMatrix)) : runS NN [fn_impl_emptyMatrix, fn_impl_Matrix_at, fn_impl_Matrix_set] sc_impl_rawMulMatrix ms_impl_rawMulMatrix ag_impl_rawMulMatrix rs_impl_rawMulMatrix x = G_impl_rawMulMatrix NN x := by kernel_rfl
theorem k_impl_rawMulMatrix : chkS pX 83 sc_impl_rawMulMatrix.er ms_impl_rawMulMatrix 3 = true := by decide +kernel
theorem p_impl_rawMulMatrix : PureSpec pX 83 fn_impl_rawMulMatrix.M ∧ chkFun pX 83 = true :=
  pure_of_runS (T := [fn_impl_emptyMatrix, fn_impl_Matrix_at, fn_impl_Matrix_set]) (sc := sc_impl_rawMulMatrix) (ms := ms_impl_rawMulMatrix) (args := ag_impl_rawMulMatrix) (res := rs_impl_rawMulMatrix) (SOk.cons p_impl_emptyMatrix <| SOk.cons p_impl_Matrix_at <| SOk.consM p_impl_Matrix_set <| SOk.nil) follows_ok k_impl_rawMulMatrix F_impl_rawMulMatrix fun x y h => (n_impl_rawMulMatrix FUEL x).trans (f_impl_rawMulMatrix x y h)

def fn_impl_InnerChains : SFn := ⟨30, ag_impl_InnerChains, mu_impl_InnerChains, rs_impl_InnerChains, F_impl_InnerChains⟩
def sc_impl_InnerChains : SCode :=
 (.seq
 (.reg false [
 oX 2 (.box 2 0),
 oX 3 (.box 2 1),
 oX 4 (.mv (kX 0)),
 oX 5 (.mv (.k (.one (.v (.bool) (false)))))])
 (.seq
 (.seq
 (.reg false [
 oX 16 (.load true 2 2),
 oX 17 (.load true 2 3),
 oX 18 (.call .froz 81 [16, 17]),
 oX 19 (.un .not 18)])
 (.cond 19
 (.seq
 (.reg false [
 oX 4 (.mv (kX 0)),
 oX 5 (.mv (.k (.one (.v (.bool) (false)))))])
 .ret)
 .skip))
 (.seq
 (.reg false [
 oX 20 (.fieldA 0 2),
 oX 21 (.load false 1 20),
 oX 6 (.mv 21)])
 (.seq
 (.reg false [
 oX 22 (.bslice iX [(kX 1)]),
 oX 23 (.build [zX, zX, .nil iX] [(0, 1, (kX 1)), (1, 1, (kX 1)), (2, 1, 22)]),
 oX 7 (.alloc [zX, zX, .nil iX]),
 uX (.store 3 7 23)])
 (.seq
 (.seq
 (.reg false [
 oX 24 (.fieldA 1 2),
 oX 25 (.load false 1 24),
 oX 26 (.len 25),
 oX 27 (.mv (kX 0))])
 (.join ⟨[(7, .one (rX 7))], [(7, .box [vX, vX, fX 500011 1]), (500011, .row true .froz iX)]⟩ [3, 7, 500000, 500011] [(true, 7, 2, 500011, .froz, [])]
 (.block 0
 (.loop 0 ⟨[(3, .one (rX 3)), (6, sX), (7, .one (rX 7)), (25, .one (.c (.v (.list gX)))), (26, sX), (27, sX)], [(3, .box [vX, .c (.v (.list gX))]), (7, .box [vX, vX, fX 500000 1]), (500000, .row true .froz iX)]⟩ [2, 3, 22, 7, 500000, 500010] [(true, 7, 2, 500000, .froz, [])]
 (.seq
 (.reg false [
 oX 28 (.bin .lss 27 26)])
 (.seq
 (.cond 28
 .skip
 (.exit 0))
 (.seq
 (.join ⟨[(27, sX), (3, .one (rX 3)), (6, sX), (7, .one (rX 7)), (25, .one (.c (.v (.list gX)))), (26, sX)], [(3, .box [vX, .c (.v (.list gX))]), (7, .box [vX, vX, fX 500010 1]), (500010, .row true .froz iX)]⟩ [3, 7, 11, 500008, 500009, 500010] [(true, 7, 2, 500010, .froz, [])]
 (.block 1
 (.seq
 (.reg false [
 oX 29 (.mv 27),
 oX 30 (.idxA 4 25 27),
 oX 31 (.load true 4 30),
 oX 9 (.alloc [zX, zX, zX, .nil iX]),
 oX 8 (.mv 29),
 uX (.store 4 9 31)])
 (.seq
 (.reg false [
 oX 32 (.fieldA 1 3),
 oX 33 (.load false 1 32),
 oX 34 (.mv 8),
 oX 35 (.idxA 4 33 34),
 oX 36 (.load true 4 35),
 oX 10 (.alloc [zX, zX, zX, .nil iX]),
 uX (.store 4 10 36)])
 (.seq
 (.reg false [
 oX 37 (.fieldA 2 9),
 oX 38 (.load false 1 37),
 oX 39 (.fieldA 2 10),
 oX 40 (.load false 1 39),
 oX 41 (.call .froz 82 [38, 40]),
 oX 11 (.alloc [zX, zX, .nil iX]),
 uX (.store 3 11 41)])
 (.seq
 (.seq
 (.reg false [
 oX 12 (.mv (kX 0))])
 (.join ⟨[(11, .one (rX 11)), (27, sX), (3, .one (rX 3)), (6, sX), (7, .one (rX 7)), (25, .one (.c (.v (.list gX)))), (26, sX)], [(3, .box [vX, .c (.v (.list gX))]), (7, .box [vX, vX, fX 500008 1]), (11, .box [vX, vX, fX 500009 1]), (500008, .row true .froz iX), (500009, .row true .froz iX)]⟩ [3, 7, 9, 10, 11, 500001, 500002, 500008, 500009] [(true, 7, 2, 500008, .froz, []), (true, 11, 2, 500009, .froz, [])]
 (.block 2
 (.loop 0 ⟨[(3, .one (rX 3)), (6, sX), (7, .one (rX 7)), (9, .one (rX 9)), (10, .one (rX 10)), (11, .one (rX 11)), (12, sX), (25, .one (.c (.v (.list gX)))), (26, sX), (27, sX)], [(3, .box [vX, .c (.v (.list gX))]), (7, .box [vX, vX, fX 500001 1]), (9, .box [vX, vX, vX, .c (.v (lX))]), (10, .box [vX, vX, vX, .c (.v (lX))]), (11, .box [vX, vX, fX 500002 1]), (500001, .row true .froz iX), (500002, .row true .froz iX)]⟩ [3, 7, 9, 10, 42000, 11, 500000, 500001, 500002, 500006, 500007] [(true, 7, 2, 500001, .froz, []), (true, 11, 2, 500002, .froz, [])]
 (.seq
 (.seq
 (.reg false [
 oX 42 (.mv 12),
 oX 43 (.fieldA 1 9),
 oX 44 (.load false 1 43),
 oX 45 (.bin .lss 42 44)])
 (.cond 45
 .skip
 (.exit 2)))
 (.seq
 (.join ⟨[(12, sX), (3, .one (rX 3)), (6, sX), (7, .one (rX 7)), (9, .one (rX 9)), (10, .one (rX 10)), (11, .one (rX 11)), (25, .one (.c (.v (.list gX)))), (26, sX), (27, sX)], [(3, .box [vX, .c (.v (.list gX))]), (7, .box [vX, vX, fX 500006 1]), (9, .box [vX, vX, vX, .c (.v (lX))]), (10, .box [vX, vX, vX, .c (.v (lX))]), (11, .box [vX, vX, fX 500007 1]), (500006, .row true .froz iX), (500007, .row true .froz iX)]⟩ [3, 7, 9, 10, 11, 500003, 500004, 500005, 500006, 500007] [(true, 7, 2, 500006, .froz, []), (true, 11, 2, 500007, .froz, [])]
 (.block 3
 (.seq
 (.reg true [
 oX 48 (.mv 6),
 oX 49 (.load true 4 9),
 oX 50 (.mv 12),
 oX 51 (.call .froz 85 [49, 50]),
 oX 52 (.call .froz 84 [51]),
 oX 53 (.load true 3 7),
 oX 54 (.call .froz 83 [48, 52, 53]),
 oX 13 (.alloc [zX, zX, .nil iX]),
 uX (.store 3 13 54)])
 (.seq
 (.reg true [
 oX 55 (.mv 6),
 oX 56 (.load true 3 13),
 oX 57 (.load true 4 10),
 oX 58 (.mv 12),
 oX 59 (.call .froz 85 [57, 58]),
 oX 60 (.call .froz 83 [55, 56, 59]),
 uX (.store 3 13 60)])
 (.seq
 (.reg false [
 oX 61 (.fieldA 2 13),
 oX 62 (.load false 1 61),
 oX 63 (.len 62),
 oX 64 (.mv (kX 0))])
 (.block 4
 (.loop 0 ⟨[(3, .one (rX 3)), (6, sX), (7, .one (rX 7)), (9, .one (rX 9)), (10, .one (rX 10)), (11, .one (rX 11)), (12, sX), (25, .one (.c (.v (.list gX)))), (26, sX), (27, sX), (62, .one (fX 500005 1)), (63, sX), (64, sX)], [(3, .box [vX, .c (.v (.list gX))]), (7, .box [vX, vX, fX 500003 1]), (9, .box [vX, vX, vX, .c (.v (lX))]), (10, .box [vX, vX, vX, .c (.v (lX))]), (11, .box [vX, vX, fX 500004 1]), (500003, .row true .froz iX), (500004, .row true .froz iX), (500005, .row true .froz iX)]⟩ [3, 7, 9, 10, 11, 52000, 53000, 55000, 13, 60000, 61000, 500001, 500002, 500003, 500004, 500005] [(true, 7, 2, 500003, .froz, []), (true, 11, 2, 500004, .froz, []), (false, 62, 0, 500005, .froz, [])]
 (.seq
 (.reg false [
 oX 65 (.bin .lss 64 63)])
 (.seq
 (.cond 65
 .skip
 (.exit 4))
 (.seq
 (.block 5
 (.seq
 (.reg false [
 oX 66 (.mv 64),
 oX 67 (.idxA 1 62 64),
 oX 68 (.load false 1 67),
 oX 14 (.mv 66),
 oX 15 (.mv 68)])
 (.reg true [
 oX 69 (.fieldA 2 11),
 oX 70 (.load false 1 69),
 oX 71 (.mv 14),
 oX 72 (.fieldA 2 11),
 oX 73 (.load false 1 72),
 oX 74 (.mv 14),
 oX 75 (.idxA 1 73 74),
 oX 76 (.load false 1 75),
 oX 77 (.mv 15),
 oX 78 (.bin .add 76 77),
 oX 79 (.mv 6),
 oX 80 (.bin .rem 78 79),
 oX 81 (.idxA 1 70 71),
 uX (.store 1 81 80)])))
 (.reg false [
 oX 82 (.bin .add 64 (kX 1)),
 oX 64 (.mv 82)])))))))))))
 (.reg false [
 oX 46 (.mv 12),
 oX 47 (.bin .add 46 (kX 1)),
 oX 12 (.mv 47)])))))))
 (.reg false [
 oX 83 (.load true 3 11),
 uX (.store 3 7 83)])))))))
 (.reg false [
 oX 84 (.bin .add 27 (kX 1)),
 oX 27 (.mv 84)]))))))))
 (.seq
 (.reg false [
 oX 85 (.fieldA 2 7),
 oX 86 (.load false 1 85),
 oX 87 (.idxA 1 86 (kX 0)),
 oX 88 (.load false 1 87),
 oX 4 (.mv 88),
 oX 5 (.mv (.k (.one (.v (.bool) (true)))))])
 .ret))))))
def ms_impl_InnerChains : List MRes := [.tmp 4, .tmp 5]
theorem n_impl_InnerChains (NN : Nat) (x : DLL (Sig.tys ag_impl_InnerChains)) : runS NN [fn_impl_sameShape, fn_impl_emptyMatrix, fn_impl_valueMatrix, fn_impl_rawTranspose, fn_impl_rawMulMatrix] sc_impl_InnerChains ms_impl_InnerChains ag_impl_InnerChains rs_impl_InnerChains x = G_impl_InnerChains NN x := by kernel_rfl
theorem k_impl_InnerChains : chkS pX 30 sc_impl_InnerChains.er ms_impl_InnerChains 2 = true := by decide +kernel
theorem p_impl_InnerChains : PureSpec pX 30 fn_impl_InnerChains.M ∧ chkFun pX 30 = true :=
  pure_of_runS (T := [fn_impl_sameShape, fn_impl_emptyMatrix, fn_impl_valueMatrix, fn_impl_rawTranspose, fn_impl_rawMulMatrix]) (sc := sc_impl_InnerChains) (ms := ms_impl_InnerChains) (args := ag_impl_InnerChains) (res := rs_impl_InnerChains) (SOk.cons p_impl_sameShape <| SOk.cons p_impl_emptyMatrix <| SOk.cons p_impl_valueMatrix <| SOk.cons p_impl_rawTranspose <| SOk.cons p_impl_rawMulMatrix <| SOk.nil) follows_ok k_impl_InnerChains F_impl_InnerChains fun x y h => (n_impl_InnerChains FUEL x).trans (f_impl_InnerChains x y h)

def fn_impl_OverlapChains : SFn := ⟨46, ag_impl_OverlapChains, mu_impl_OverlapChains, rs_impl_OverlapChains, F_impl_OverlapChains⟩
def sc_impl_OverlapChains : SCode :=
 (.seq
 (.reg false [
 oX 4 (.box 2 0),
 oX 6 (.box 3 2),
 oX 7 (.box 2 3),
 oX 8 (.mv (kX 0)),
 oX 9 (.mv (.k (.one (.v (.bool) (false)))))])
 (.seq
 (.reg false [
 oX 13 (.load true 2 7),
 oX 14 (.mv 1),
 oX 15 (.load true 3 6),
 oX 16 (.call .froz 42 [13, 14, 15]),
 oX 12 (.mv 16),
 oX 17 (.ext 0 12),
 oX 18 (.ext 1 12),
 oX 10 (.alloc [zX, .nil gX]),
 uX (.store 2 10 17),
 oX 11 (.mv 18)])
 (.seq
 (.seq
 (.reg false [
 oX 19 (.mv 11),
 oX 20 (.un .not 19)])
 (.cond 20
 (.seq
 (.reg false [
 oX 8 (.mv (kX 0)),
 oX 9 (.mv (.k (.one (.v (.bool) (false)))))])
 .ret)
 .skip))
 (.seq
 (.reg false [
 oX 21 (.load true 2 4),
 oX 22 (.load true 2 10),
 oX 23 (.call .froz 30 [21, 22]),
 oX 24 (.ext 0 23),
 oX 25 (.ext 1 23),
 oX 8 (.mv 24),
 oX 9 (.mv 25)])
 .ret))))
def ms_impl_OverlapChains : List MRes := [.tmp 8, .tmp 9]
theorem n_impl_OverlapChains (NN : Nat) (x : DLL (Sig.tys ag_impl_OverlapChains)) : runS NN [fn_impl_ApplySite, fn_impl_InnerChains] sc_impl_OverlapChains ms_impl_OverlapChains ag_impl_OverlapChains rs_impl_OverlapChains x = G_impl_OverlapChains NN x := by kernel_rfl
theorem k_impl_OverlapChains : chkS pX 46 sc_impl_OverlapChains.er ms_impl_OverlapChains 4 = true := by decide +kernel
theorem p_impl_OverlapChains : PureSpec pX 46 fn_impl_OverlapChains.M ∧ chkFun pX 46 = true :=
  pure_of_runS (T := [fn_impl_ApplySite, fn_impl_InnerChains]) (sc := sc_impl_OverlapChains) (ms := ms_impl_OverlapChains) (args := ag_impl_OverlapChains) (res := rs_impl_OverlapChains) (SOk.cons p_impl_ApplySite <| SOk.cons p_impl_InnerChains <| SOk.nil) follows_ok k_impl_OverlapChains F_impl_OverlapChains fun x y h => (n_impl_OverlapChains FUEL x).trans (f_impl_OverlapChains x y h)

def fn_laws_eqIntS : SFn := ⟨22, ag_laws_eqIntS, mu_laws_eqIntS, rs_laws_eqIntS, F_laws_eqIntS⟩
def sc_laws_eqIntS : SCode :=
 (.seq
 (.reg false [
 oX 4 (.mv (.k (.one (.v (.bool) (false)))))])
 (.seq
 (.seq
 (.reg false [
 oX 6 (.mv 0),
 oX 7 (.len 6),
 oX 8 (.mv 1),
 oX 9 (.len 8),
 oX 10 (.bin .neq 7 9)])
 (.cond 10
 (.seq
 (.reg false [
 oX 4 (.mv (.k (.one (.v (.bool) (false)))))])
 .ret)
 .skip))
 (.seq
 (.seq
 (.reg false [
 oX 5 (.mv (kX 0))])
 (.join ⟨[], []⟩ [] []
 (.block 0
 (.loop 0 ⟨[(0, .one (.c (.v (lX)))), (1, .one (.c (.v (lX)))), (5, sX)], []⟩ [] []
 (.seq
 (.seq
 (.reg false [
 oX 11 (.mv 5),
 oX 12 (.mv 0),
 oX 13 (.len 12),
 oX 14 (.bin .lss 11 13)])
 (.cond 14
 .skip
 (.exit 0)))
 (.seq
 (.block 1
 (.seq
 (.reg true [
 oX 17 (.mv 0),
 oX 18 (.mv 5),
 oX 19 (.idxA 1 17 18),
 oX 20 (.load false 1 19),
 oX 21 (.mv 1),
 oX 22 (.mv 5),
 oX 23 (.idxA 1 21 22),
 oX 24 (.load false 1 23),
 oX 25 (.bin .neq 20 24)])
 (.cond 25
 (.seq
 (.reg false [
 oX 4 (.mv (.k (.one (.v (.bool) (false)))))])
 .ret)
 .skip)))
 (.reg false [
 oX 15 (.mv 5),
 oX 16 (.bin .add 15 (kX 1)),
 oX 5 (.mv 16)])))))))
 (.seq
 (.reg false [
 oX 4 (.mv (.k (.one (.v (.bool) (true)))))])
 .ret))))
def ms_laws_eqIntS : List MRes := [.tmp 4]
theorem n_laws_eqIntS (NN : Nat) (x : DLL (Sig.tys ag_laws_eqIntS)) : runS NN [] sc_laws_eqIntS ms_laws_eqIntS ag_laws_eqIntS rs_laws_eqIntS x = G_laws_eqIntS NN x := by kernel_rfl
theorem k_laws_eqIntS : chkS pX 22 sc_laws_eqIntS.er ms_laws_eqIntS 2 = true := by decide +kernel
theorem p_laws_eqIntS : PureSpec pX 22 fn_laws_eqIntS.M ∧ chkFun pX 22 = true :=
  pure_of_runS (T := []) (sc := sc_laws_eqIntS) (ms := ms_laws_eqIntS) (args := ag_laws_eqIntS) (res := rs_laws_eqIntS) (SOk.nil) follows_ok k_laws_eqIntS F_laws_eqIntS fun x y h => (n_laws_eqIntS FUEL x).trans (f_laws_eqIntS x y h)

def fn_laws_eqSite : SFn := ⟨128, ag_laws_eqSite, mu_laws_eqSite, rs_laws_eqSite, F_laws_eqSite⟩
def sc_laws_eqSite : SCode :=
 (.seq
 (.reg false [
 oX 2 (.box 4 0),
 oX 3 (.box 4 1),
 oX 4 (.mv (.k (.one (.v (.bool) (false)))))])
 (.seq
 (.seq
 (.reg false [
 oX 5 (.fieldA 0 2),
 oX 6 (.load false 1 5),
 oX 7 (.fieldA 0 3),
 oX 8 (.load false 1 7),
 oX 9 (.bin .neq 6 8)])
 (.cond 9
 (.seq
 (.reg false [
 oX 4 (.mv (.k (.one (.v (.bool) (false)))))])
 .ret)
 .skip))
 (.seq
 (.seq
 (.reg false [
 oX 10 (.fieldA 1 2),
 oX 11 (.load false 1 10),
 oX 12 (.fieldA 1 3),
 oX 13 (.load false 1 12),
 oX 14 (.bin .neq 11 13)])
 (.cond 14
 (.seq
 (.reg false [
 oX 4 (.mv (.k (.one (.v (.bool) (false)))))])
 .ret)
 .skip))
 (.seq
 (.seq
 (.reg false [
 oX 15 (.fieldA 2 2),
 oX 16 (.load false 1 15),
 oX 17 (.fieldA 2 3),
 oX 18 (.load false 1 17),
 oX 19 (.bin .neq 16 18)])
 (.cond 19
 (.seq
 (.reg false [
 oX 4 (.mv (.k (.one (.v (.bool) (false)))))])
 .ret)
 .skip))
 (.seq
 (.seq
 (.reg false [
 oX 20 (.fieldA 3 2),
 oX 21 (.load false 1 20),
 oX 22 (.fieldA 3 3),
 oX 23 (.load false 1 22),
 oX 24 (.call .froz 22 [21, 23]),
 oX 25 (.un .not 24)])
 (.cond 25
 (.seq
 (.reg false [
 oX 4 (.mv (.k (.one (.v (.bool) (false)))))])
 .ret)
 .skip))
 (.seq
 (.reg false [
 oX 4 (.mv (.k (.one (.v (.bool) (true)))))])
 .ret))))))
def ms_laws_eqSite : List MRes := [.tmp 4]
theorem n_laws_eqSite (NN : Nat) (x : DLL (Sig.tys ag_laws_eqSite)) : runS NN [fn_laws_eqIntS] sc_laws_eqSite ms_laws_eqSite ag_laws_eqSite rs_laws_eqSite x = G_laws_eqSite NN x := by kernel_rfl
theorem k_laws_eqSite : chkS pX 128 sc_laws_eqSite.er ms_laws_eqSite 2 = true := by decide +kernel
theorem p_laws_eqSite : PureSpec pX 128 fn_laws_eqSite.M ∧ chkFun pX 128 = true :=
  pure_of_runS (T := [fn_laws_eqIntS]) (sc := sc_laws_eqSite) (ms := ms_laws_eqSite) (args := ag_laws_eqSite) (res := rs_laws_eqSite) (SOk.cons p_laws_eqIntS <| SOk.nil) follows_ok k_laws_eqSite F_laws_eqSite fun x y h => (n_laws_eqSite FUEL x).trans (f_laws_eqSite x y h)

def fn_laws_eqSiteS : SFn := ⟨70, ag_laws_eqSiteS, mu_laws_eqSiteS, rs_laws_eqSiteS, F_laws_eqSiteS⟩
def sc_laws_eqSiteS : SCode :=
 (.seq
 (.reg false [
 oX 4 (.mv (.k (.one (.v (.bool) (false)))))])
 (.seq
 (.seq
 (.reg false [
 oX 6 (.mv 0),
 oX 7 (.len 6),
 oX 8 (.mv 1),
 oX 9 (.len 8),
 oX 10 (.bin .neq 7 9)])
 (.cond 10
 (.seq
 (.reg false [
 oX 4 (.mv (.k (.one (.v (.bool) (false)))))])
 .ret)
 .skip))
 (.seq
 (.seq
 (.reg false [
 oX 5 (.mv (kX 0))])
 (.join ⟨[], []⟩ [] []
 (.block 0
 (.loop 0 ⟨[(0, .one (.c (.v (.list gX)))), (1, .one (.c (.v (.list gX)))), (5, sX)], []⟩ [] []
 (.seq
 (.seq
 (.reg false [
 oX 11 (.mv 5),
 oX 12 (.mv 0),
 oX 13 (.len 12),
 oX 14 (.bin .lss 11 13)])
 (.cond 14
 .skip
 (.exit 0)))
 (.seq
 (.block 1
 (.seq
 (.reg true [
 oX 17 (.mv 0),
 oX 18 (.mv 5),
 oX 19 (.idxA 4 17 18),
 oX 20 (.load true 4 19),
 oX 21 (.mv 1),
 oX 22 (.mv 5),
 oX 23 (.idxA 4 21 22),
 oX 24 (.load true 4 23),
 oX 25 (.call .froz 128 [20, 24]),
 oX 26 (.un .not 25)])
 (.cond 26
 (.seq
 (.reg false [
 oX 4 (.mv (.k (.one (.v (.bool) (false)))))])
 .ret)
 .skip)))
 (.reg false [
 oX 15 (.mv 5),
 oX 16 (.bin .add 15 (kX 1)),
 oX 5 (.mv 16)])))))))
 (.seq
 (.reg false [
 oX 4 (.mv (.k (.one (.v (.bool) (true)))))])
 .ret))))
def ms_laws_eqSiteS : List MRes := [.tmp 4]
theorem n_laws_eqSiteS (NN : Nat) (x : DLL (Sig.tys ag_laws_eqSiteS)) : runS NN [fn_laws_eqSite] sc_laws_eqSiteS ms_laws_eqSiteS ag_laws_eqSiteS rs_laws_eqSiteS x = G_laws_eqSiteS NN x := by kernel_rfl
theorem k_laws_eqSiteS : chkS pX 70 sc_laws_eqSiteS.er ms_laws_eqSiteS 2 = true := by decide +kernel
theorem p_laws_eqSiteS : PureSpec pX 70 fn_laws_eqSiteS.M ∧ chkFun pX 70 = true :=
  pure_of_runS (T := [fn_laws_eqSite]) (sc := sc_laws_eqSiteS) (ms := ms_laws_eqSiteS) (args := ag_laws_eqSiteS) (res := rs_laws_eqSiteS) (SOk.cons p_laws_eqSite <| SOk.nil) follows_ok k_laws_eqSiteS F_laws_eqSiteS fun x y h => (n_laws_eqSiteS FUEL x).trans (f_laws_eqSiteS x y h)

def fn_laws_eqChain : SFn := ⟨19, ag_laws_eqChain, mu_laws_eqChain, rs_laws_eqChain, F_laws_eqChain⟩
def sc_laws_eqChain : SCode :=
 (.seq
 (.reg false [
 oX 2 (.box 2 0),
 oX 3 (.box 2 1),
 oX 4 (.mv (.k (.one (.v (.bool) (false)))))])
 (.seq
 (.seq
 (.reg false [
 oX 5 (.fieldA 0 2),
 oX 6 (.load false 1 5),
 oX 7 (.fieldA 0 3),
 oX 8 (.load false 1 7),
 oX 9 (.bin .neq 6 8)])
 (.cond 9
 (.seq
 (.reg false [
 oX 4 (.mv (.k (.one (.v (.bool) (false)))))])
 .ret)
 .skip))
 (.seq
 (.seq
 (.reg false [
 oX 10 (.fieldA 1 2),
 oX 11 (.load false 1 10),
 oX 12 (.fieldA 1 3),
 oX 13 (.load false 1 12),
 oX 14 (.call .froz 70 [11, 13]),
 oX 15 (.un .not 14)])
 (.cond 15
 (.seq
 (.reg false [
 oX 4 (.mv (.k (.one (.v (.bool) (false)))))])
 .ret)
 .skip))
 (.seq
 (.reg false [
 oX 4 (.mv (.k (.one (.v (.bool) (true)))))])
 .ret))))
def ms_laws_eqChain : List MRes := [.tmp 4]
theorem n_laws_eqChain (NN : Nat) (x : DLL (Sig.tys ag_laws_eqChain)) : runS NN [fn_laws_eqSiteS] sc_laws_eqChain ms_laws_eqChain ag_laws_eqChain rs_laws_eqChain x = G_laws_eqChain NN x := by kernel_rfl
theorem k_laws_eqChain : chkS pX 19 sc_laws_eqChain.er ms_laws_eqChain 2 = true := by decide +kernel
theorem p_laws_eqChain : PureSpec pX 19 fn_laws_eqChain.M ∧ chkFun pX 19 = true :=
  pure_of_runS (T := [fn_laws_eqSiteS]) (sc := sc_laws_eqChain) (ms := ms_laws_eqChain) (args := ag_laws_eqChain) (res := rs_laws_eqChain) (SOk.cons p_laws_eqSiteS <| SOk.nil) follows_ok k_laws_eqChain F_laws_eqChain fun x y h => (n_laws_eqChain FUEL x).trans (f_laws_eqChain x y h)

def fn_laws_eqMatrix : SFn := ⟨43, ag_laws_eqMatrix, mu_laws_eqMatrix, rs_laws_eqMatrix, F_laws_eqMatrix⟩
def sc_laws_eqMatrix : SCode :=
 (.seq
 (.reg false [
 oX 2 (.box 3 0),
 oX 3 (.box 3 1),
 oX 4 (.mv (.k (.one (.v (.bool) (false)))))])
 (.seq
 (.seq
 (.reg false [
 oX 5 (.fieldA 0 2),
 oX 6 (.load false 1 5),
 oX 7 (.fieldA 0 3),
 oX 8 (.load false 1 7),
 oX 9 (.bin .neq 6 8)])
 (.cond 9
 (.seq
 (.reg false [
 oX 4 (.mv (.k (.one (.v (.bool) (false)))))])
 .ret)
 .skip))
 (.seq
 (.seq
 (.reg false [
 oX 10 (.fieldA 1 2),
 oX 11 (.load false 1 10),
 oX 12 (.fieldA 1 3),
 oX 13 (.load false 1 12),
 oX 14 (.bin .neq 11 13)])
 (.cond 14
 (.seq
 (.reg false [
 oX 4 (.mv (.k (.one (.v (.bool) (false)))))])
 .ret)
 .skip))
 (.seq
 (.seq
 (.reg false [
 oX 15 (.fieldA 2 2),
 oX 16 (.load false 1 15),
 oX 17 (.fieldA 2 3),
 oX 18 (.load false 1 17),
 oX 19 (.call .froz 22 [16, 18]),
 oX 20 (.un .not 19)])
 (.cond 20
 (.seq
 (.reg false [
 oX 4 (.mv (.k (.one (.v (.bool) (false)))))])
 .ret)
 .skip))
 (.seq
 (.reg false [
 oX 4 (.mv (.k (.one (.v (.bool) (true)))))])
 .ret)))))
def ms_laws_eqMatrix : List MRes := [.tmp 4]
theorem n_laws_eqMatrix (NN : Nat) (x : DLL (Sig.tys ag_laws_eqMatrix)) : runS NN [fn_laws_eqIntS] sc_laws_eqMatrix ms_laws_eqMatrix ag_laws_eqMatrix rs_laws_eqMatrix x = G_laws_eqMatrix NN x := by kernel_rfl
theorem k_laws_eqMatrix : chkS pX 43 sc_laws_eqMatrix.er ms_laws_eqMatrix 2 = true := by decide +kernel
theorem p_laws_eqMatrix : PureSpec pX 43 fn_laws_eqMatrix.M ∧ chkFun pX 43 = true :=
  pure_of_runS (T := [fn_laws_eqIntS]) (sc := sc_laws_eqMatrix) (ms := ms_laws_eqMatrix) (args := ag_laws_eqMatrix) (res := rs_laws_eqMatrix) (SOk.cons p_laws_eqIntS <| SOk.nil) follows_ok k_laws_eqMatrix F_laws_eqMatrix fun x y h => (n_laws_eqMatrix FUEL x).trans (f_laws_eqMatrix x y h)

def fn_laws_FnExactOverlapChains : SFn := ⟨10, ag_laws_FnExactOverlapChains, mu_laws_FnExactOverlapChains, rs_laws_FnExactOverlapChains, F_laws_FnExactOverlapChains⟩
def sc_laws_FnExactOverlapChains : SCode :=
 (.seq
 (.reg false [
 oX 4 (.box 2 0),
 oX 6 (.box 3 2),
 oX 7 (.box 2 3),
 oX 8 (.mv (.k (.one (.v (.bool) (false)))))])
 (.seq
 (.reg false [
 oX 9 (.mv (kX 1048576))])
 (.seq
 (.reg false [
 oX 17 (.load true 2 4),
 oX 18 (.mv 9),
 oX 19 (.call .froz 15 [17, 18]),
 oX 9 (.mv 19)])
 (.seq
 (.seq
 (.reg false [
 oX 20 (.mv 9),
 oX 21 (.bin .lss 20 (kX 0))])
 (.cond 21
 (.seq
 (.reg false [
 oX 8 (.mv (.k (.one (.v (.bool) (true)))))])
 .ret)
 .skip))
 (.seq
 (.reg false [
 oX 22 (.load true 3 6),
 oX 23 (.mv 9),
 oX 24 (.call .froz 39 [22, 23]),
 oX 9 (.mv 24)])
 (.seq
 (.seq
 (.reg false [
 oX 25 (.mv 9),
 oX 26 (.bin .lss 25 (kX 0))])
 (.cond 26
 (.seq
 (.reg false [
 oX 8 (.mv (.k (.one (.v (.bool) (true)))))])
 .ret)
 .skip))
 (.seq
 (.reg false [
 oX 27 (.load true 2 7),
 oX 28 (.mv 9),
 oX 29 (.call .froz 15 [27, 28]),
 oX 9 (.mv 29)])
 (.seq
 (.seq
 (.reg false [
 oX 30 (.mv 9),
 oX 31 (.bin .lss 30 (kX 0))])
 (.cond 31
 (.seq
 (.reg false [
 oX 8 (.mv (.k (.one (.v (.bool) (true)))))])
 .ret)
 .skip))
 (.seq
 (.reg true [
 oX 33 (.load true 2 4),
 oX 34 (.call .froz 17 [33]),
 oX 35 (.mv 1),
 oX 36 (.load true 3 6),
 oX 37 (.call .froz 41 [36]),
 oX 38 (.load true 2 7),
 oX 39 (.call .froz 17 [38]),
 oX 40 (.call .froz 45 [34, 35, 37, 39]),
 oX 32 (.mv 40),
 oX 41 (.ext 0 32),
 oX 42 (.ext 1 32),
 oX 10 (.mv 41),
 oX 11 (.mv 42)])
 (.seq
 (.reg false [
 oX 43 (.load true 2 4),
 oX 44 (.call .froz 17 [43]),
 oX 12 (.alloc [zX, .nil gX]),
 uX (.store 2 12 44)])
 (.seq
 (.reg false [
 oX 45 (.load true 3 6),
 oX 46 (.call .froz 41 [45]),
 oX 13 (.alloc [zX, zX, .nil iX]),
 uX (.store 3 13 46)])
 (.seq
 (.reg false [
 oX 47 (.load true 2 7),
 oX 48 (.call .froz 17 [47]),
 oX 14 (.alloc [zX, .nil gX]),
 uX (.store 2 14 48)])
 (.seq
 (.reg false [
 oX 50 (.load true 2 12),
 oX 51 (.mv 1),
 oX 52 (.load true 3 13),
 oX 53 (.load true 2 14),
 oX 54 (.call .froz 46 [50, 51, 52, 53]),
 oX 49 (.mv 54),
 oX 55 (.ext 0 49),
 oX 56 (.ext 1 49),
 oX 15 (.mv 55),
 oX 16 (.mv 56)])
 (.seq
 (.seq
 (.reg false [
 oX 57 (.mv 15),
 oX 58 (.mv 10),
 oX 59 (.bin .neq 57 58),
 oX 60 (.mv 59),
 ⟨(some 61), .mv 16, (some (60, false))⟩,
 ⟨(some 62), .mv 11, (some (60, false))⟩,
 ⟨(some 63), .binb .neq 61 62, (some (60, false))⟩,
 oX 64 (.pick 60 (.k (.one (.v (.bool) (true)))) 63)])
 (.cond 64
 (.seq
 (.reg false [
 oX 8 (.mv (.k (.one (.v (.bool) (false)))))])
 .ret)
 .skip))
 (.seq
 (.seq
 (.reg true [
 oX 65 (.load true 2 12),
 oX 66 (.load true 2 4),
 oX 67 (.call .froz 17 [66]),
 oX 68 (.call .froz 19 [65, 67]),
 oX 69 (.un .not 68)])
 (.cond 69
 (.seq
 (.reg false [
 oX 8 (.mv (.k (.one (.v (.bool) (false)))))])
 .ret)
 .skip))
 (.seq
 (.seq
 (.reg true [
 oX 70 (.load true 3 13),
 oX 71 (.load true 3 6),
 oX 72 (.call .froz 41 [71]),
 oX 73 (.call .froz 43 [70, 72]),
 oX 74 (.un .not 73)])
 (.cond 74
 (.seq
 (.reg false [
 oX 8 (.mv (.k (.one (.v (.bool) (false)))))])
 .ret)
 .skip))
 (.seq
 (.seq
 (.reg true [
 oX 75 (.load true 2 14),
 oX 76 (.load true 2 7),
 oX 77 (.call .froz 17 [76]),
 oX 78 (.call .froz 19 [75, 77]),
 oX 79 (.un .not 78)])
 (.cond 79
 (.seq
 (.reg false [
 oX 8 (.mv (.k (.one (.v (.bool) (false)))))])
 .ret)
 .skip))
 (.seq
 (.reg false [
 oX 8 (.mv (.k (.one (.v (.bool) (true)))))])
 .ret))))))))))))))))))
def ms_laws_FnExactOverlapChains : List MRes := [.tmp 8]
theorem n_laws_FnExactOverlapChains (NN : Nat) (x : DLL (Sig.tys ag_laws_FnExactOverlapChains)) : runS NN [fn_laws_szChain, fn_laws_szMatrix, fn_laws_toChain, fn_laws_toMatrix, fn_spec_OverlapChains, fn_impl_OverlapChains, fn_laws_eqChain, fn_laws_eqMatrix] sc_laws_FnExactOverlapChains ms_laws_FnExactOverlapChains ag_laws_FnExactOverlapChains rs_laws_FnExactOverlapChains x = G_laws_FnExactOverlapChains NN x := by kernel_rfl
theorem k_laws_FnExactOverlapChains : chkS pX 10 sc_laws_FnExactOverlapChains.er ms_laws_FnExactOverlapChains 4 = true := by decide +kernel
theorem p_laws_FnExactOverlapChains : PureSpec pX 10 fn_laws_FnExactOverlapChains.M ∧ chkFun pX 10 = true :=
  pure_of_runS (T := [fn_laws_szChain, fn_laws_szMatrix, fn_laws_toChain, fn_laws_toMatrix, fn_spec_OverlapChains, fn_impl_OverlapChains, fn_laws_eqChain, fn_laws_eqMatrix]) (sc := sc_laws_FnExactOverlapChains) (ms := ms_laws_FnExactOverlapChains) (args := ag_laws_FnExactOverlapChains) (res := rs_laws_FnExactOverlapChains) (SOk.cons p_laws_szChain <| SOk.cons p_laws_szMatrix <| SOk.cons p_laws_toChain <| SOk.cons p_laws_toMatrix <| SOk.cons p_spec_OverlapChains <| SOk.cons p_impl_OverlapChains <| SOk.cons p_laws_eqChain <| SOk.cons p_laws_eqMatrix <| SOk.nil) follows_ok k_laws_FnExactOverlapChains F_laws_FnExactOverlapChains fun x y h => (n_laws_FnExactOverlapChains FUEL x).trans (f_laws_FnExactOverlapChains x y h)

end Go.Am
