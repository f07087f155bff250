/- A_AutomatonChain: the code of the functions of FnExactAutomatonChain. No condition. -/
import Derived.Test.YtckmnjojabgnoaaLAutomatonChain
import Derived.Test.YtckmnjojabgnoaaBr2
import Derived.KernelRfl
import Derived.Test.YtckmnjojabgnoaaRows
set_option linter.unusedVariables false
set_option maxRecDepth 100000
namespace Go.Am
theorem follows_ok : Go.Proofs.Try.prog.follows .mixedOrders = true := by decide +kernel
noncomputable abbrev pX := Go.Proofs.Try.prog
def oX (n : Nat) (x : SOp) : SOper := ⟨some n, x, none⟩
def uX (x : SOp) : SOper := ⟨none, x, none⟩
def kX (n : Int) : SMO := .k (.one (.v (.int .i64) n))
def sX : ShV := .one (.c (.v (.int .i64)))
def iX : List Ty := [.int .i64]
def lX : Ty := .list iX
def mX : List Ty := [.int .i64, .int .i64, lX]
def gX : List Ty := [.int .i64, .int .i64, .int .i64, lX]
def zX : SC := .v (.int .i64) (0 : Int)
def vX : ShC := .c (.v (.int .i64))
def fX (n k : Nat) : ShC := .c (.full n k)
def rX (n : Nat) : ShC := .c (.ptr0 n 0)
instance tX (n : Nat) : OfNat SMO n := ⟨.t n⟩
def fn_laws_szIntS : SFn := ⟨50, ag_laws_szIntS, mu_laws_szIntS, rs_laws_szIntS, F_laws_szIntS⟩
def sc_laws_szIntS : SCode :=
 (.seq
 (.reg false [
 oX 4 (.mv (kX 0))])
 (.seq
 (.reg false [
 oX 5 (.mv 1),
 oX 6 (.mv 0),
 oX 7 (.len 6),
 oX 8 (.bin .sub 5 7),
 oX 1 (.mv 8)])
 (.seq
 (.seq
 (.reg false [
 oX 9 (.mv 1),
 oX 10 (.bin .lss 9 (kX 0))])
 (.cond 10
 (.seq
 (.reg false [
 oX 4 (.mv (kX (-1)))])
 .ret)
 .skip))
 (.seq
 (.reg false [
 oX 11 (.mv 1),
 oX 4 (.mv 11)])
 .ret))))
def ms_laws_szIntS : List MRes := [.tmp 4]
theorem n_laws_szIntS (NN : Nat) (x : DLL (Sig.tys ag_laws_szIntS)) : runS NN [] sc_laws_szIntS ms_laws_szIntS ag_laws_szIntS rs_laws_szIntS x = G_laws_szIntS NN x := by kernel_rfl
theorem k_laws_szIntS : chkS pX 50 sc_laws_szIntS.er ms_laws_szIntS 2 = true := by decide +kernel
theorem p_laws_szIntS : PureSpec pX 50 fn_laws_szIntS.M ∧ chkFun pX 50 = true :=
  pure_of_runS (T := []) (sc := sc_laws_szIntS) (ms := ms_laws_szIntS) (args := ag_laws_szIntS) (res := rs_laws_szIntS) (SOk.nil) follows_ok k_laws_szIntS F_laws_szIntS fun x y h => (n_laws_szIntS FUEL x).trans (f_laws_szIntS x y h)

def fn_laws_szMatrix : SFn := ⟨96, ag_laws_szMatrix, mu_laws_szMatrix, rs_laws_szMatrix, F_laws_szMatrix⟩
def sc_laws_szMatrix : SCode :=
 (.seq
 (.reg false [
 oX 2 (.box 3 0),
 oX 4 (.mv (kX 0))])
 (.seq
 (.reg false [
 oX 5 (.fieldA 2 2),
 oX 6 (.load false 1 5),
 oX 7 (.mv 1),
 oX 8 (.call .froz 50 [6, 7]),
 oX 1 (.mv 8)])
 (.seq
 (.seq
 (.reg false [
 oX 9 (.mv 1),
 oX 10 (.bin .lss 9 (kX 0))])
 (.cond 10
 (.seq
 (.reg false [
 oX 4 (.mv (kX (-1)))])
 .ret)
 .skip))
 (.seq
 (.reg false [
 oX 11 (.mv 1),
 oX 4 (.mv 11)])
 .ret))))
def ms_laws_szMatrix : List MRes := [.tmp 4]
theorem n_laws_szMatrix (NN : Nat) (x : DLL (Sig.tys ag_laws_szMatrix)) : runS NN [fn_laws_szIntS] sc_laws_szMatrix ms_laws_szMatrix ag_laws_szMatrix rs_laws_szMatrix x = G_laws_szMatrix NN x := by kernel_rfl
theorem k_laws_szMatrix : chkS pX 96 sc_laws_szMatrix.er ms_laws_szMatrix 2 = true := by decide +kernel
theorem p_laws_szMatrix : PureSpec pX 96 fn_laws_szMatrix.M ∧ chkFun pX 96 = true :=
  pure_of_runS (T := [fn_laws_szIntS]) (sc := sc_laws_szMatrix) (ms := ms_laws_szMatrix) (args := ag_laws_szMatrix) (res := rs_laws_szMatrix) (SOk.cons p_laws_szIntS <| SOk.nil) follows_ok k_laws_szMatrix F_laws_szMatrix fun x y h => (n_laws_szMatrix FUEL x).trans (f_laws_szMatrix x y h)

def fn_laws_szMatrixS : SFn := ⟨51, ag_laws_szMatrixS, mu_laws_szMatrixS, rs_laws_szMatrixS, F_laws_szMatrixS⟩
def sc_laws_szMatrixS : SCode :=
 (.seq
 (.reg false [
 oX 4 (.mv (kX 0))])
 (.seq
 (.reg false [
 oX 6 (.mv 1),
 oX 7 (.mv 0),
 oX 8 (.len 7),
 oX 9 (.bin .sub 6 8),
 oX 1 (.mv 9)])
 (.seq
 (.seq
 (.reg false [
 oX 10 (.mv 1),
 oX 11 (.bin .lss 10 (kX 0))])
 (.cond 11
 (.seq
 (.reg false [
 oX 4 (.mv (kX (-1)))])
 .ret)
 .skip))
 (.seq
 (.seq
 (.reg false [
 oX 5 (.mv (kX 0))])
 (.join ⟨[(1, sX)], []⟩ [] []
 (.block 0
 (.loop 0 ⟨[(0, .one (.c (.v (.list mX)))), (1, sX), (5, sX)], []⟩ [] []
 (.seq
 (.seq
 (.reg false [
 oX 12 (.mv 5),
 oX 13 (.mv 0),
 oX 14 (.len 13),
 oX 15 (.bin .lss 12 14)])
 (.cond 15
 .skip
 (.exit 0)))
 (.seq
 (.block 1
 (.seq
 (.reg false [
 oX 18 (.mv 0),
 oX 19 (.mv 5),
 oX 20 (.idxA 3 18 19),
 oX 21 (.load true 3 20),
 oX 22 (.mv 1),
 oX 23 (.call .froz 96 [21, 22]),
 oX 1 (.mv 23)])
 (.seq
 (.reg false [
 oX 24 (.mv 1),
 oX 25 (.bin .lss 24 (kX 0))])
 (.cond 25
 (.seq
 (.reg false [
 oX 4 (.mv (kX (-1)))])
 .ret)
 .skip))))
 (.reg false [
 oX 16 (.mv 5),
 oX 17 (.bin .add 16 (kX 1)),
 oX 5 (.mv 17)])))))))
 (.seq
 (.reg false [
 oX 26 (.mv 1),
 oX 4 (.mv 26)])
 .ret)))))
def ms_laws_szMatrixS : List MRes := [.tmp 4]
theorem n_laws_szMatrixS (NN : Nat) (x : DLL (Sig.tys ag_laws_szMatrixS)) : runS NN [fn_laws_szMatrix] sc_laws_szMatrixS ms_laws_szMatrixS ag_laws_szMatrixS rs_laws_szMatrixS x = G_laws_szMatrixS NN x := by kernel_rfl
theorem k_laws_szMatrixS : chkS pX 51 sc_laws_szMatrixS.er ms_laws_szMatrixS 2 = true := by decide +kernel
theorem p_laws_szMatrixS : PureSpec pX 51 fn_laws_szMatrixS.M ∧ chkFun pX 51 = true :=
  pure_of_runS (T := [fn_laws_szMatrix]) (sc := sc_laws_szMatrixS) (ms := ms_laws_szMatrixS) (args := ag_laws_szMatrixS) (res := rs_laws_szMatrixS) (SOk.cons p_laws_szMatrix <| SOk.nil) follows_ok k_laws_szMatrixS F_laws_szMatrixS fun x y h => (n_laws_szMatrixS FUEL x).trans (f_laws_szMatrixS x y h)

def fn_laws_szAutomaton : SFn := ⟨15, ag_laws_szAutomaton, mu_laws_szAutomaton, rs_laws_szAutomaton, F_laws_szAutomaton⟩
def sc_laws_szAutomaton : SCode :=
 (.seq
 (.reg false [
 oX 2 (.box 5 0),
 oX 4 (.mv (kX 0))])
 (.seq
 (.reg false [
 oX 5 (.fieldA 2 2),
 oX 6 (.load false 1 5),
 oX 7 (.mv 1),
 oX 8 (.call .froz 50 [6, 7]),
 oX 1 (.mv 8)])
 (.seq
 (.seq
 (.reg false [
 oX 9 (.mv 1),
 oX 10 (.bin .lss 9 (kX 0))])
 (.cond 10
 (.seq
 (.reg false [
 oX 4 (.mv (kX (-1)))])
 .ret)
 .skip))
 (.seq
 (.reg false [
 oX 11 (.fieldA 3 2),
 oX 12 (.load false 1 11),
 oX 13 (.mv 1),
 oX 14 (.call .froz 51 [12, 13]),
 oX 1 (.mv 14)])
 (.seq
 (.seq
 (.reg false [
 oX 15 (.mv 1),
 oX 16 (.bin .lss 15 (kX 0))])
 (.cond 16
 (.seq
 (.reg false [
 oX 4 (.mv (kX (-1)))])
 .ret)
 .skip))
 (.seq
 (.reg false [
 oX 17 (.fieldA 4 2),
 oX 18 (.load false 1 17),
 oX 19 (.mv 1),
 oX 20 (.call .froz 50 [18, 19]),
 oX 1 (.mv 20)])
 (.seq
 (.seq
 (.reg false [
 oX 21 (.mv 1),
 oX 22 (.bin .lss 21 (kX 0))])
 (.cond 22
 (.seq
 (.reg false [
 oX 4 (.mv (kX (-1)))])
 .ret)
 .skip))
 (.seq
 (.reg false [
 oX 23 (.mv 1),
 oX 4 (.mv 23)])
 .ret))))))))
def ms_laws_szAutomaton : List MRes := [.tmp 4]
theorem n_laws_szAutomaton (NN : Nat) (x : DLL (Sig.tys ag_laws_szAutomaton)) : runS NN [fn_laws_szIntS, fn_laws_szMatrixS] sc_laws_szAutomaton ms_laws_szAutomaton ag_laws_szAutomaton rs_laws_szAutomaton x = G_laws_szAutomaton NN x := by kernel_rfl
theorem k_laws_szAutomaton : chkS pX 15 sc_laws_szAutomaton.er ms_laws_szAutomaton 2 = true := by decide +kernel
theorem p_laws_szAutomaton : PureSpec pX 15 fn_laws_szAutomaton.M ∧ chkFun pX 15 = true :=
  pure_of_runS (T := [fn_laws_szIntS, fn_laws_szMatrixS]) (sc := sc_laws_szAutomaton) (ms := ms_laws_szAutomaton) (args := ag_laws_szAutomaton) (res := rs_laws_szAutomaton) (SOk.cons p_laws_szIntS <| SOk.cons p_laws_szMatrixS <| SOk.nil) follows_ok k_laws_szAutomaton F_laws_szAutomaton fun x y h => (n_laws_szAutomaton FUEL x).trans (f_laws_szAutomaton x y h)

def fn_laws_toIntS : SFn := ⟨26, ag_laws_toIntS, mu_laws_toIntS, rs_laws_toIntS, F_laws_toIntS⟩
def sc_laws_toIntS : SCode :=
 (.seq
 (.reg false [
 oX 2 (.mv (.k (.one (.nil iX))))])
 (.seq
 (.reg false [
 oX 5 (.mv 0),
 oX 6 (.len 5),
 oX 7 (.mkslice .froz iX 8 (0 : Int) 6 6),
 oX 3 (.mv 7)])
 (.seq
 (.seq
 (.reg false [
 oX 4 (.mv (kX 0))])
 (.join ⟨[(3, .one (fX 500001 1))], [(500001, .row true .froz iX)]⟩ [500000, 500001] [(false, 3, 0, 500001, .froz, [])]
 (.block 0
 (.loop 0 ⟨[(0, .one (.c (.v (lX)))), (3, .one (fX 500000 1)), (4, sX)], [(500000, .row true .froz iX)]⟩ [7, 500000] [(false, 3, 0, 500000, .froz, [])]
 (.seq
 (.seq
 (.reg false [
 oX 8 (.mv 4),
 oX 9 (.mv 0),
 oX 10 (.len 9),
 oX 11 (.bin .lss 8 10)])
 (.cond 11
 .skip
 (.exit 0)))
 (.seq
 (.block 1
 (.reg false [
 oX 14 (.mv 3),
 oX 15 (.mv 4),
 oX 16 (.mv 0),
 oX 17 (.mv 4),
 oX 18 (.idxA 1 16 17),
 oX 19 (.load false 1 18),
 oX 20 (.idxA 1 14 15),
 uX (.store 1 20 19)]))
 (.reg false [
 oX 12 (.mv 4),
 oX 13 (.bin .add 12 (kX 1)),
 oX 4 (.mv 13)])))))))
 (.seq
 (.reg false [
 oX 21 (.mv 3),
 oX 2 (.mv 21)])
 .ret))))
def ms_laws_toIntS : List MRes := [.tmp 2]
theorem n_laws_toIntS (NN : Nat) (x : DLL (Sig.tys ag_laws_toIntS)) : runS NN [] sc_laws_toIntS ms_laws_toIntS ag_laws_toIntS rs_laws_toIntS x = G_laws_toIntS NN x := by kernel_rfl
theorem k_laws_toIntS : chkS pX 26 sc_laws_toIntS.er ms_laws_toIntS 1 = true := by decide +kernel
theorem p_laws_toIntS : PureSpec pX 26 fn_laws_toIntS.M ∧ chkFun pX 26 = true :=
  pure_of_runS (T := []) (sc := sc_laws_toIntS) (ms := ms_laws_toIntS) (args := ag_laws_toIntS) (res := rs_laws_toIntS) (SOk.nil) follows_ok k_laws_toIntS F_laws_toIntS fun x y h => (n_laws_toIntS FUEL x).trans (f_laws_toIntS x y h)

def fn_laws_toMatrix : SFn := ⟨97, ag_laws_toMatrix, mu_laws_toMatrix, rs_laws_toMatrix, F_laws_toMatrix⟩
def sc_laws_toMatrix : SCode :=
 (.seq
 (.reg false [
 oX 1 (.box 3 0),
 oX 2 (.alloc [zX, zX, .nil iX])])
 (.seq
 (.reg false [
 oX 3 (.alloc [zX, zX, .nil iX])])
 (.seq
 (.reg false [
 oX 4 (.fieldA 0 1),
 oX 5 (.load false 1 4),
 oX 6 (.fieldA 0 3),
 uX (.store 1 6 5)])
 (.seq
 (.reg false [
 oX 7 (.fieldA 1 1),
 oX 8 (.load false 1 7),
 oX 9 (.fieldA 1 3),
 uX (.store 1 9 8)])
 (.seq
 (.reg false [
 oX 10 (.fieldA 2 1),
 oX 11 (.load false 1 10),
 oX 12 (.call .froz 26 [11]),
 oX 13 (.fieldA 2 3),
 uX (.store 1 13 12)])
 (.seq
 (.reg false [
 oX 14 (.load true 3 3),
 uX (.store 3 2 14)])
 .ret))))))
def ms_laws_toMatrix : List MRes := [.cell 2 3 true]
theorem n_laws_toMatrix (NN : Nat) (x : DLL (Sig.tys ag_laws_toMatrix)) : runS NN [fn_laws_toIntS] sc_laws_toMatrix ms_laws_toMatrix ag_laws_toMatrix rs_laws_toMatrix x = G_laws_toMatrix NN x := by kernel_rfl
theorem k_laws_toMatrix : chkS pX 97 sc_laws_toMatrix.er ms_laws_toMatrix 1 = true := by decide +kernel
theorem p_laws_toMatrix : PureSpec pX 97 fn_laws_toMatrix.M ∧ chkFun pX 97 = true :=
  pure_of_runS (T := [fn_laws_toIntS]) (sc := sc_laws_toMatrix) (ms := ms_laws_toMatrix) (args := ag_laws_toMatrix) (res := rs_laws_toMatrix) (SOk.cons p_laws_toIntS <| SOk.nil) follows_ok k_laws_toMatrix F_laws_toMatrix fun x y h => (n_laws_toMatrix FUEL x).trans (f_laws_toMatrix x y h)

def fn_laws_toMatrixS : SFn := ⟨56, ag_laws_toMatrixS, mu_laws_toMatrixS, rs_laws_toMatrixS, F_laws_toMatrixS⟩
def sc_laws_toMatrixS : SCode :=
 (.seq
 (.reg false [
 oX 2 (.mv (.k (.one (.nil mX))))])
 (.seq
 (.reg false [
 oX 5 (.mv 0),
 oX 6 (.len 5),
 oX 7 (.mkslice .froz mX 40 ((0 : Int), ((0 : Int), [])) 6 6),
 oX 3 (.mv 7)])
 (.seq
 (.seq
 (.reg false [
 oX 4 (.mv (kX 0))])
 (.join ⟨[(3, .one (fX 500001 3))], [(500001, .row true .froz mX)]⟩ [500000, 500001] [(false, 3, 0, 500001, .froz, [])]
 (.block 0
 (.loop 0 ⟨[(0, .one (.c (.v (.list mX)))), (3, .one (fX 500000 3)), (4, sX)], [(500000, .row true .froz mX)]⟩ [7, 500000] [(false, 3, 0, 500000, .froz, [])]
 (.seq
 (.seq
 (.reg false [
 oX 8 (.mv 4),
 oX 9 (.mv 0),
 oX 10 (.len 9),
 oX 11 (.bin .lss 8 10)])
 (.cond 11
 .skip
 (.exit 0)))
 (.seq
 (.block 1
 (.reg false [
 oX 14 (.mv 3),
 oX 15 (.mv 4),
 oX 16 (.mv 0),
 oX 17 (.mv 4),
 oX 18 (.idxA 3 16 17),
 oX 19 (.load true 3 18),
 oX 20 (.call .froz 97 [19]),
 oX 21 (.idxA 3 14 15),
 uX (.store 3 21 20)]))
 (.reg false [
 oX 12 (.mv 4),
 oX 13 (.bin .add 12 (kX 1)),
 oX 4 (.mv 13)])))))))
 (.seq
 (.reg false [
 oX 22 (.mv 3),
 oX 2 (.mv 22)])
 .ret))))
def ms_laws_toMatrixS : List MRes := [.tmp 2]
theorem n_laws_toMatrixS (NN : Nat) (x : DLL (Sig.tys ag_laws_toMatrixS)) : runS NN [fn_laws_toMatrix] sc_laws_toMatrixS ms_laws_toMatrixS ag_laws_toMatrixS rs_laws_toMatrixS x = G_laws_toMatrixS NN x := by kernel_rfl
theorem k_laws_toMatrixS : chkS pX 56 sc_laws_toMatrixS.er ms_laws_toMatrixS 1 = true := by decide +kernel
theorem p_laws_toMatrixS : PureSpec pX 56 fn_laws_toMatrixS.M ∧ chkFun pX 56 = true :=
  pure_of_runS (T := [fn_laws_toMatrix]) (sc := sc_laws_toMatrixS) (ms := ms_laws_toMatrixS) (args := ag_laws_toMatrixS) (res := rs_laws_toMatrixS) (SOk.cons p_laws_toMatrix <| SOk.nil) follows_ok k_laws_toMatrixS F_laws_toMatrixS fun x y h => (n_laws_toMatrixS FUEL x).trans (f_laws_toMatrixS x y h)

def fn_laws_toAutomaton : SFn := ⟨17, ag_laws_toAutomaton, mu_laws_toAutomaton, rs_laws_toAutomaton, F_laws_toAutomaton⟩
def sc_laws_toAutomaton : SCode :=
 (.seq
 (.reg false [
 oX 1 (.box 5 0),
 oX 2 (.alloc [zX, zX, .nil iX, .nil mX, .nil iX])])
 (.seq
 (.reg false [
 oX 3 (.alloc [zX, zX, .nil iX, .nil mX, .nil iX])])
 (.seq
 (.reg false [
 oX 4 (.fieldA 0 1),
 oX 5 (.load false 1 4),
 oX 6 (.fieldA 0 3),
 uX (.store 1 6 5)])
 (.seq
 (.reg false [
 oX 7 (.fieldA 1 1),
 oX 8 (.load false 1 7),
 oX 9 (.fieldA 1 3),
 uX (.store 1 9 8)])
 (.seq
 (.reg false [
 oX 10 (.fieldA 2 1),
 oX 11 (.load false 1 10),
 oX 12 (.call .froz 26 [11]),
 oX 13 (.fieldA 2 3),
 uX (.store 1 13 12)])
 (.seq
 (.reg false [
 oX 14 (.fieldA 3 1),
 oX 15 (.load false 1 14),
 oX 16 (.call .froz 56 [15]),
 oX 17 (.fieldA 3 3),
 uX (.store 1 17 16)])
 (.seq
 (.reg false [
 oX 18 (.fieldA 4 1),
 oX 19 (.load false 1 18),
 oX 20 (.call .froz 26 [19]),
 oX 21 (.fieldA 4 3),
 uX (.store 1 21 20)])
 (.seq
 (.reg false [
 oX 22 (.load true 5 3),
 uX (.store 5 2 22)])
 .ret))))))))
def ms_laws_toAutomaton : List MRes := [.cell 2 5 true]
theorem n_laws_toAutomaton (NN : Nat) (x : DLL (Sig.tys ag_laws_toAutomaton)) : runS NN [fn_laws_toIntS, fn_laws_toMatrixS] sc_laws_toAutomaton ms_laws_toAutomaton ag_laws_toAutomaton rs_laws_toAutomaton x = G_laws_toAutomaton NN x := by kernel_rfl
theorem k_laws_toAutomaton : chkS pX 17 sc_laws_toAutomaton.er ms_laws_toAutomaton 1 = true := by decide +kernel
theorem p_laws_toAutomaton : PureSpec pX 17 fn_laws_toAutomaton.M ∧ chkFun pX 17 = true :=
  pure_of_runS (T := [fn_laws_toIntS, fn_laws_toMatrixS]) (sc := sc_laws_toAutomaton) (ms := ms_laws_toAutomaton) (args := ag_laws_toAutomaton) (res := rs_laws_toAutomaton) (SOk.cons p_laws_toIntS <| SOk.cons p_laws_toMatrixS <| SOk.nil) follows_ok k_laws_toAutomaton F_laws_toAutomaton fun x y h => (n_laws_toAutomaton FUEL x).trans (f_laws_toAutomaton x y h)

def fn_spec_l01In : SFn := ⟨53, ag_spec_l01In, mu_spec_l01In, rs_spec_l01In, F_spec_l01In⟩
def sc_spec_l01In : SCode :=
 (.seq
 (.reg false [
 oX 6 (.mv (.k (.one (.v (.bool) (false)))))])
 (.seq
 (.reg false [
 oX 7 (.mv 0),
 oX 8 (.mv 1),
 oX 9 (.bin .geq 7 8),
 oX 10 (.mv 9),
 ⟨(some 11), .mv 0, (some (10, true))⟩,
 ⟨(some 12), .mv 2, (some (10, true))⟩,
 ⟨(some 13), .bin .leq 11 12, (some (10, true))⟩,
 oX 14 (.pick 10 13 (.k (.one (.v (.bool) (false))))),
 oX 6 (.mv 14)])
 .ret))
def ms_spec_l01In : List MRes := [.tmp 6]
theorem n_spec_l01In (NN : Nat) (x : DLL (Sig.tys ag_spec_l01In)) : runS NN [] sc_spec_l01In ms_spec_l01In ag_spec_l01In rs_spec_l01In x = G_spec_l01In NN x := by kernel_rfl
theorem k_spec_l01In : chkS pX 53 sc_spec_l01In.er ms_spec_l01In 3 = true := by decide +kernel
theorem p_spec_l01In : PureSpec pX 53 fn_spec_l01In.M ∧ chkFun pX 53 = true :=
  pure_of_runS (T := []) (sc := sc_spec_l01In) (ms := ms_spec_l01In) (args := ag_spec_l01In) (res := rs_spec_l01In) (SOk.nil) follows_ok k_spec_l01In F_spec_l01In fun x y h => (n_spec_l01In FUEL x).trans (f_spec_l01In x y h)

def fn_spec_IsPrime : SFn := ⟨52, ag_spec_IsPrime, mu_spec_IsPrime, rs_spec_IsPrime, F_spec_IsPrime⟩
def sc_spec_IsPrime : SCode :=
 (.seq
 (.reg false [
 oX 2 (.mv (.k (.one (.v (.bool) (false)))))])
 (.seq
 (.seq
 (.reg false [
 oX 3 (.mv (kX 2))])
 (.join ⟨[(0, sX)], []⟩ [] []
 (.block 0
 (.loop 0 ⟨[(0, sX), (3, sX)], []⟩ [] []
 (.seq
 (.seq
 (.reg false [
 oX 4 (.mv 3),
 oX 5 (.mv 3),
 oX 6 (.bin .mul 4 5),
 oX 7 (.mv 0),
 oX 8 (.bin .leq 6 7),
 oX 9 (.mv 8),
 ⟨(some 10), .mv 0, (some (9, true))⟩,
 ⟨(some 11), .bin .leq 10 (kX 1000003), (some (9, true))⟩,
 oX 12 (.pick 9 11 (.k (.one (.v (.bool) (false)))))])
 (.cond 12
 .skip
 (.exit 0)))
 (.seq
 (.block 1
 (.seq
 (.reg false [
 oX 15 (.mv 0),
 oX 16 (.mv 3),
 oX 17 (.bin .rem 15 16),
 oX 18 (.bin .eql 17 (kX 0))])
 (.cond 18
 (.seq
 (.reg false [
 oX 2 (.mv (.k (.one (.v (.bool) (false)))))])
 .ret)
 .skip)))
 (.reg false [
 oX 13 (.mv 3),
 oX 14 (.bin .add 13 (kX 1)),
 oX 3 (.mv 14)])))))))
 (.seq
 (.reg false [
 oX 19 (.mv 0),
 oX 20 (.call .froz 53 [19, (kX 2), (kX 1000003)]),
 oX 2 (.mv 20)])
 .ret)))
def ms_spec_IsPrime : List MRes := [.tmp 2]
theorem n_spec_IsPrime (NN : Nat) (x : DLL (Sig.tys ag_spec_IsPrime)) : runS NN [fn_spec_l01In] sc_spec_IsPrime ms_spec_IsPrime ag_spec_IsPrime rs_spec_IsPrime x = G_spec_IsPrime NN x := by kernel_rfl
theorem k_spec_IsPrime : chkS pX 52 sc_spec_IsPrime.er ms_spec_IsPrime 1 = true := by decide +kernel
theorem p_spec_IsPrime : PureSpec pX 52 fn_spec_IsPrime.M ∧ chkFun pX 52 = true :=
  pure_of_runS (T := [fn_spec_l01In]) (sc := sc_spec_IsPrime) (ms := ms_spec_IsPrime) (args := ag_spec_IsPrime) (res := rs_spec_IsPrime) (SOk.cons p_spec_l01In <| SOk.nil) follows_ok k_spec_IsPrime F_spec_IsPrime fun x y h => (n_spec_IsPrime FUEL x).trans (f_spec_IsPrime x y h)

def fn_spec_l34Row : SFn := ⟨54, ag_spec_l34Row, mu_spec_l34Row, rs_spec_l34Row, F_spec_l34Row⟩
def sc_spec_l34Row : SCode :=
 (.seq
 (.reg false [
 oX 6 (.mv (.k (.one (.v (.bool) (false)))))])
 (.seq
 (.seq
 (.reg false [
 oX 9 (.mv 1),
 oX 10 (.len 9),
 oX 11 (.mv (kX 0))])
 (.join ⟨[(1, .one (.c (.v (lX)))), (2, sX)], []⟩ [] []
 (.block 0
 (.loop 0 ⟨[(0, sX), (1, .one (.c (.v (lX)))), (2, sX), (9, .one (.c (.v (lX)))), (10, sX), (11, sX)], []⟩ [] []
 (.seq
 (.reg false [
 oX 12 (.bin .lss 11 10)])
 (.seq
 (.cond 12
 .skip
 (.exit 0))
 (.seq
 (.block 1
 (.seq
 (.reg false [
 oX 13 (.idxA 1 9 11),
 oX 14 (.load false 1 13),
 oX 8 (.mv 14)])
 (.seq
 (.reg false [
 oX 15 (.mv 8),
 oX 16 (.mv 0),
 oX 17 (.bin .sub 16 (kX 1)),
 oX 18 (.call .froz 53 [15, (kX 0), 17]),
 oX 19 (.un .not 18)])
 (.cond 19
 (.seq
 (.reg false [
 oX 6 (.mv (.k (.one (.v (.bool) (false)))))])
 .ret)
 .skip))))
 (.reg false [
 oX 20 (.bin .add 11 (kX 1)),
 oX 11 (.mv 20)]))))))))
 (.seq
 (.reg false [
 oX 21 (.mv 1),
 oX 22 (.len 21),
 oX 23 (.mv 2),
 oX 24 (.bin .eql 22 23),
 oX 6 (.mv 24)])
 .ret)))
def ms_spec_l34Row : List MRes := [.tmp 6]
theorem n_spec_l34Row (NN : Nat) (x : DLL (Sig.tys ag_spec_l34Row)) : runS NN [fn_spec_l01In] sc_spec_l34Row ms_spec_l34Row ag_spec_l34Row rs_spec_l34Row x = G_spec_l34Row NN x := by kernel_rfl
theorem k_spec_l34Row : chkS pX 54 sc_spec_l34Row.er ms_spec_l34Row 3 = true := by decide +kernel
theorem p_spec_l34Row : PureSpec pX 54 fn_spec_l34Row.M ∧ chkFun pX 54 = true :=
  pure_of_runS (T := [fn_spec_l01In]) (sc := sc_spec_l34Row) (ms := ms_spec_l34Row) (args := ag_spec_l34Row) (res := rs_spec_l34Row) (SOk.cons p_spec_l01In <| SOk.nil) follows_ok k_spec_l34Row F_spec_l34Row fun x y h => (n_spec_l34Row FUEL x).trans (f_spec_l34Row x y h)

def fn_spec_MatrixOk : SFn := ⟨55, ag_spec_MatrixOk, mu_spec_MatrixOk, rs_spec_MatrixOk, F_spec_MatrixOk⟩
def sc_spec_MatrixOk : SCode :=
 (.seq
 (.reg false [
 oX 3 (.box 3 1),
 oX 4 (.mv (.k (.one (.v (.bool) (false)))))])
 (.seq
 (.seq
 (.reg false [
 oX 7 (.mv 0),
 oX 8 (.call .froz 52 [7]),
 oX 9 (.un .not 8),
 oX 10 (.mv 9),
 ⟨(some 11), .fieldA 0 3, (some (10, false))⟩,
 ⟨(some 12), .load false 1 11, (some (10, false))⟩,
 ⟨(some 13), .call .froz 53 [12, (kX 0), (kX 64)], (some (10, false))⟩,
 ⟨(some 14), .un .not 13, (some (10, false))⟩,
 oX 15 (.pick 10 (.k (.one (.v (.bool) (true)))) 14),
 oX 16 (.mv 15),
 ⟨(some 17), .fieldA 1 3, (some (16, false))⟩,
 ⟨(some 18), .load false 1 17, (some (16, false))⟩,
 ⟨(some 19), .call .froz 53 [18, (kX 0), (kX 64)], (some (16, false))⟩,
 ⟨(some 20), .un .not 19, (some (16, false))⟩,
 oX 21 (.pick 16 (.k (.one (.v (.bool) (true)))) 20),
 oX 22 (.mv 21),
 ⟨(some 23), .fieldA 2 3, (some (22, false))⟩,
 ⟨(some 24), .load false 1 23, (some (22, false))⟩,
 ⟨(some 25), .len 24, (some (22, false))⟩,
 ⟨(some 26), .fieldA 0 3, (some (22, false))⟩,
 ⟨(some 27), .load false 1 26, (some (22, false))⟩,
 ⟨(some 28), .fieldA 1 3, (some (22, false))⟩,
 ⟨(some 29), .load false 1 28, (some (22, false))⟩,
 ⟨(some 30), .bin .mul 27 29, (some (22, false))⟩,
 ⟨(some 31), .bin .neq 25 30, (some (22, false))⟩,
 oX 32 (.pick 22 (.k (.one (.v (.bool) (true)))) 31)])
 (.cond 32
 (.seq
 (.reg false [
 oX 4 (.mv (.k (.one (.v (.bool) (false)))))])
 .ret)
 .skip))
 (.seq
 (.seq
 (.reg false [
 oX 33 (.fieldA 2 3),
 oX 34 (.load false 1 33),
 oX 35 (.len 34),
 oX 36 (.mv (kX 0))])
 (.join ⟨[], []⟩ [] []
 (.block 0
 (.loop 0 ⟨[(0, sX), (34, .one (.c (.v (lX)))), (35, sX), (36, sX)], []⟩ [3] []
 (.seq
 (.reg false [
 oX 37 (.bin .lss 36 35)])
 (.seq
 (.cond 37
 .skip
 (.exit 0))
 (.seq
 (.block 1
 (.seq
 (.reg false [
 oX 38 (.idxA 1 34 36),
 oX 39 (.load false 1 38),
 oX 6 (.mv 39)])
 (.seq
 (.reg false [
 oX 40 (.mv 6),
 oX 41 (.mv 0),
 oX 42 (.bin .sub 41 (kX 1)),
 oX 43 (.call .froz 53 [40, (kX 0), 42]),
 oX 44 (.un .not 43)])
 (.cond 44
 (.seq
 (.reg false [
 oX 4 (.mv (.k (.one (.v (.bool) (false)))))])
 .ret)
 .skip))))
 (.reg false [
 oX 45 (.bin .add 36 (kX 1)),
 oX 36 (.mv 45)]))))))))
 (.seq
 (.reg false [
 oX 4 (.mv (.k (.one (.v (.bool) (true)))))])
 .ret))))
def ms_spec_MatrixOk : List MRes := [.tmp 4]
theorem n_spec_MatrixOk (NN : Nat) (x : DLL (Sig.tys ag_spec_MatrixOk)) : runS NN [fn_spec_IsPrime, fn_spec_l01In] sc_spec_MatrixOk ms_spec_MatrixOk ag_spec_MatrixOk rs_spec_MatrixOk x = G_spec_MatrixOk NN x := by kernel_rfl
theorem k_spec_MatrixOk : chkS pX 55 sc_spec_MatrixOk.er ms_spec_MatrixOk 2 = true := by decide +kernel
theorem p_spec_MatrixOk : PureSpec pX 55 fn_spec_MatrixOk.M ∧ chkFun pX 55 = true :=
  pure_of_runS (T := [fn_spec_IsPrime, fn_spec_l01In]) (sc := sc_spec_MatrixOk) (ms := ms_spec_MatrixOk) (args := ag_spec_MatrixOk) (res := rs_spec_MatrixOk) (SOk.cons p_spec_IsPrime <| SOk.cons p_spec_l01In <| SOk.nil) follows_ok k_spec_MatrixOk F_spec_MatrixOk fun x y h => (n_spec_MatrixOk FUEL x).trans (f_spec_MatrixOk x y h)

def fn_spec_AutomatonOk : SFn := ⟨16, ag_spec_AutomatonOk, mu_spec_AutomatonOk, rs_spec_AutomatonOk, F_spec_AutomatonOk⟩
def sc_spec_AutomatonOk : SCode :=
 (.seq
 (.reg false [
 oX 1 (.box 5 0),
 oX 2 (.mv (.k (.one (.v (.bool) (false)))))])
 (.seq
 (.seq
 (.reg false [
 oX 5 (.fieldA 0 1),
 oX 6 (.load false 1 5),
 oX 7 (.call .froz 52 [6]),
 oX 8 (.un .not 7),
 oX 9 (.mv 8),
 ⟨(some 10), .fieldA 1 1, (some (9, false))⟩,
 ⟨(some 11), .load false 1 10, (some (9, false))⟩,
 ⟨(some 12), .call .froz 53 [11, (kX 0), (kX 12)], (some (9, false))⟩,
 ⟨(some 13), .un .not 12, (some (9, false))⟩,
 oX 14 (.pick 9 (.k (.one (.v (.bool) (true)))) 13),
 oX 15 (.mv 14),
 ⟨(some 16), .fieldA 0 1, (some (15, false))⟩,
 ⟨(some 17), .load false 1 16, (some (15, false))⟩,
 ⟨(some 18), .fieldA 2 1, (some (15, false))⟩,
 ⟨(some 19), .load false 1 18, (some (15, false))⟩,
 ⟨(some 20), .fieldA 1 1, (some (15, false))⟩,
 ⟨(some 21), .load false 1 20, (some (15, false))⟩,
 ⟨(some 22), .call .froz 54 [17, 19, 21], (some (15, false))⟩,
 ⟨(some 23), .un .not 22, (some (15, false))⟩,
 oX 24 (.pick 15 (.k (.one (.v (.bool) (true)))) 23),
 oX 25 (.mv 24),
 ⟨(some 26), .fieldA 0 1, (some (25, false))⟩,
 ⟨(some 27), .load false 1 26, (some (25, false))⟩,
 ⟨(some 28), .fieldA 4 1, (some (25, false))⟩,
 ⟨(some 29), .load false 1 28, (some (25, false))⟩,
 ⟨(some 30), .fieldA 1 1, (some (25, false))⟩,
 ⟨(some 31), .load false 1 30, (some (25, false))⟩,
 ⟨(some 32), .call .froz 54 [27, 29, 31], (some (25, false))⟩,
 ⟨(some 33), .un .not 32, (some (25, false))⟩,
 oX 34 (.pick 25 (.k (.one (.v (.bool) (true)))) 33),
 oX 35 (.mv 34),
 ⟨(some 36), .fieldA 3 1, (some (35, false))⟩,
 ⟨(some 37), .load false 1 36, (some (35, false))⟩,
 ⟨(some 38), .len 37, (some (35, false))⟩,
 ⟨(some 39), .call .froz 53 [38, (kX 1), (kX 4)], (some (35, false))⟩,
 ⟨(some 40), .un .not 39, (some (35, false))⟩,
 oX 41 (.pick 35 (.k (.one (.v (.bool) (true)))) 40)])
 (.cond 41
 (.seq
 (.reg false [
 oX 2 (.mv (.k (.one (.v (.bool) (false)))))])
 .ret)
 .skip))
 (.seq
 (.seq
 (.reg false [
 oX 42 (.fieldA 3 1),
 oX 43 (.load false 1 42),
 oX 44 (.len 43),
 oX 45 (.mv (kX 0))])
 (.join ⟨[], []⟩ [1] []
 (.block 0
 (.loop 0 ⟨[(1, .one (rX 1)), (43, .one (.c (.v (.list mX)))), (44, sX), (45, sX)], [(1, .box [vX, vX, .c (.v (lX)), .c (.v (.list mX)), .c (.v (lX))])]⟩ [1, 4] []
 (.seq
 (.reg false [
 oX 46 (.bin .lss 45 44)])
 (.seq
 (.cond 46
 .skip
 (.exit 0))
 (.seq
 (.block 1
 (.seq
 (.reg false [
 oX 47 (.idxA 3 43 45),
 oX 48 (.load true 3 47),
 oX 4 (.alloc [zX, zX, .nil iX]),
 uX (.store 3 4 48)])
 (.seq
 (.reg false [
 oX 49 (.fieldA 0 1),
 oX 50 (.load false 1 49),
 oX 51 (.load true 3 4),
 oX 52 (.call .froz 55 [50, 51]),
 oX 53 (.un .not 52),
 oX 54 (.mv 53),
 ⟨(some 55), .fieldA 0 4, (some (54, false))⟩,
 ⟨(some 56), .load false 1 55, (some (54, false))⟩,
 ⟨(some 57), .fieldA 1 1, (some (54, false))⟩,
 ⟨(some 58), .load false 1 57, (some (54, false))⟩,
 ⟨(some 59), .bin .neq 56 58, (some (54, false))⟩,
 oX 60 (.pick 54 (.k (.one (.v (.bool) (true)))) 59),
 oX 61 (.mv 60),
 ⟨(some 62), .fieldA 1 4, (some (61, false))⟩,
 ⟨(some 63), .load false 1 62, (some (61, false))⟩,
 ⟨(some 64), .fieldA 1 1, (some (61, false))⟩,
 ⟨(some 65), .load false 1 64, (some (61, false))⟩,
 ⟨(some 66), .bin .neq 63 65, (some (61, false))⟩,
 oX 67 (.pick 61 (.k (.one (.v (.bool) (true)))) 66)])
 (.cond 67
 (.seq
 (.reg false [
 oX 2 (.mv (.k (.one (.v (.bool) (false)))))])
 .ret)
 .skip))))
 (.reg false [
 oX 68 (.bin .add 45 (kX 1)),
 oX 45 (.mv 68)]))))))))
 (.seq
 (.reg false [
 oX 2 (.mv (.k (.one (.v (.bool) (true)))))])
 .ret))))
def ms_spec_AutomatonOk : List MRes := [.tmp 2]
theorem n_spec_AutomatonOk (NN : Nat) (x : DLL (Sig.tys ag_spec_AutomatonOk)) : runS NN [fn_spec_IsPrime, fn_spec_l01In, fn_spec_l34Row, fn_spec_MatrixOk] sc_spec_AutomatonOk ms_spec_AutomatonOk ag_spec_AutomatonOk rs_spec_AutomatonOk x = G_spec_AutomatonOk NN x := by kernel_rfl
theorem k_spec_AutomatonOk : chkS pX 16 sc_spec_AutomatonOk.er ms_spec_AutomatonOk 1 = true := by decide +kernel
theorem p_spec_AutomatonOk : PureSpec pX 16 fn_spec_AutomatonOk.M ∧ chkFun pX 16 = true :=
  pure_of_runS (T := [fn_spec_IsPrime, fn_spec_l01In, fn_spec_l34Row, fn_spec_MatrixOk]) (sc := sc_spec_AutomatonOk) (ms := ms_spec_AutomatonOk) (args := ag_spec_AutomatonOk) (res := rs_spec_AutomatonOk) (SOk.cons p_spec_IsPrime <| SOk.cons p_spec_l01In <| SOk.cons p_spec_l34Row <| SOk.cons p_spec_MatrixOk <| SOk.nil) follows_ok k_spec_AutomatonOk F_spec_AutomatonOk fun x y h => (n_spec_AutomatonOk FUEL x).trans (f_spec_AutomatonOk x y h)

def fn_spec_l31New : SFn := ⟨110, ag_spec_l31New, mu_spec_l31New, rs_spec_l31New, F_spec_l31New⟩
def sc_spec_l31New : SCode :=
 (.seq
 (.reg false [
 oX 4 (.alloc [zX, zX, .nil iX])])
 (.seq
 (.reg false [
 oX 5 (.mv 0),
 oX 6 (.mv 1),
 oX 7 (.mv 0),
 oX 8 (.mv 1),
 oX 9 (.bin .mul 7 8),
 oX 10 (.mkslice .froz iX 8 (0 : Int) 9 9),
 oX 11 (.build [zX, zX, .nil iX] [(0, 1, 5), (1, 1, 6), (2, 1, 10)]),
 uX (.store 3 4 11)])
 .ret))
def ms_spec_l31New : List MRes := [.cell 4 3 true]
theorem n_spec_l31New (NN : Nat) (x : DLL (Sig.tys ag_spec_l31New)) : runS NN [] sc_spec_l31New ms_spec_l31New ag_spec_l31New rs_spec_l31New x = G_spec_l31New NN x := by kernel_rfl
theorem k_spec_l31New : chkS pX 110 sc_spec_l31New.er ms_spec_l31New 2 = true := by decide +kernel
theorem p_spec_l31New : PureSpec pX 110 fn_spec_l31New.M ∧ chkFun pX 110 = true :=
  pure_of_runS (T := []) (sc := sc_spec_l31New) (ms := ms_spec_l31New) (args := ag_spec_l31New) (res := rs_spec_l31New) (SOk.nil) follows_ok k_spec_l31New F_spec_l31New fun x y h => (n_spec_l31New FUEL x).trans (f_spec_l31New x y h)

def fn_spec_l31Mul : SFn := ⟨86, ag_spec_l31Mul, mu_spec_l31Mul, rs_spec_l31Mul, F_spec_l31Mul⟩
def sc_spec_l31Mul : SCode :=
 (.seq
 (.reg false [
 oX 4 (.box 3 1),
 oX 5 (.box 3 2),
 oX 6 (.alloc [zX, zX, .nil iX])])
 (.seq
 (.reg false [
 oX 12 (.fieldA 0 4),
 oX 13 (.load false 1 12),
 oX 14 (.fieldA 1 5),
 oX 15 (.load false 1 14),
 oX 16 (.call .froz 110 [13, 15]),
 oX 7 (.alloc [zX, zX, .nil iX]),
 uX (.store 3 7 16)])
 (.seq
 (.seq
 (.reg false [
 oX 8 (.mv (kX 0))])
 (.join ⟨[(7, .one (rX 7)), (6, .one (rX 6))], [(6, .box [vX, vX, fX 500012 1]), (7, .box [vX, vX, fX 500013 1]), (500012, .row true .froz iX), (500013, .row true .froz iX)]⟩ [4, 5, 6, 7, 500000, 500001, 500012, 500013] [(true, 6, 2, 500012, .froz, []), (true, 7, 2, 500013, .froz, [])]
 (.block 0
 (.loop 0 ⟨[(0, sX), (4, .one (rX 4)), (5, .one (rX 5)), (6, .one (rX 6)), (7, .one (rX 7)), (8, sX)], [(4, .box [vX, vX, .c (.v (lX))]), (5, .box [vX, vX, .c (.v (lX))]), (6, .box [vX, vX, fX 500000 1]), (7, .box [vX, vX, fX 500001 1]), (500000, .row true .froz iX), (500001, .row true .froz iX)]⟩ [4, 5, 6, 17000, 7, 500000, 500001, 500010, 500011] [(true, 6, 2, 500000, .froz, []), (true, 7, 2, 500001, .froz, [])]
 (.seq
 (.seq
 (.reg false [
 oX 17 (.mv 8),
 oX 18 (.fieldA 0 4),
 oX 19 (.load false 1 18),
 oX 20 (.bin .lss 17 19)])
 (.cond 20
 .skip
 (.exit 0)))
 (.seq
 (.join ⟨[(8, sX), (0, sX), (4, .one (rX 4)), (5, .one (rX 5)), (6, .one (rX 6)), (7, .one (rX 7))], [(4, .box [vX, vX, .c (.v (lX))]), (5, .box [vX, vX, .c (.v (lX))]), (6, .box [vX, vX, fX 500010 1]), (7, .box [vX, vX, fX 500011 1]), (500010, .row true .froz iX), (500011, .row true .froz iX)]⟩ [4, 5, 6, 7, 500002, 500003, 500010, 500011] [(true, 6, 2, 500010, .froz, []), (true, 7, 2, 500011, .froz, [])]
 (.block 1
 (.seq
 (.reg false [
 oX 9 (.mv (kX 0))])
 (.block 2
 (.loop 0 ⟨[(0, sX), (4, .one (rX 4)), (5, .one (rX 5)), (6, .one (rX 6)), (7, .one (rX 7)), (8, sX), (9, sX)], [(4, .box [vX, vX, .c (.v (lX))]), (5, .box [vX, vX, .c (.v (lX))]), (6, .box [vX, vX, fX 500002 1]), (7, .box [vX, vX, fX 500003 1]), (500002, .row true .froz iX), (500003, .row true .froz iX)]⟩ [4, 5, 6, 7, 500000, 500001, 500002, 500003, 500008, 500009] [(true, 6, 2, 500002, .froz, []), (true, 7, 2, 500003, .froz, [])]
 (.seq
 (.seq
 (.reg false [
 oX 23 (.mv 9),
 oX 24 (.fieldA 1 5),
 oX 25 (.load false 1 24),
 oX 26 (.bin .lss 23 25)])
 (.cond 26
 .skip
 (.exit 2)))
 (.seq
 (.join ⟨[(9, sX), (0, sX), (4, .one (rX 4)), (5, .one (rX 5)), (6, .one (rX 6)), (7, .one (rX 7)), (8, sX)], [(4, .box [vX, vX, .c (.v (lX))]), (5, .box [vX, vX, .c (.v (lX))]), (6, .box [vX, vX, fX 500008 1]), (7, .box [vX, vX, fX 500009 1]), (500008, .row true .froz iX), (500009, .row true .froz iX)]⟩ [4, 5, 6, 7, 500006, 500007, 500008, 500009] [(true, 6, 2, 500008, .froz, []), (true, 7, 2, 500009, .froz, [])]
 (.block 3
 (.seq
 (.reg false [
 oX 10 (.mv (kX 0))])
 (.seq
 (.seq
 (.reg false [
 oX 11 (.mv (kX 0))])
 (.join ⟨[(10, sX), (9, sX), (0, sX), (4, .one (rX 4)), (5, .one (rX 5)), (6, .one (rX 6)), (7, .one (rX 7)), (8, sX)], [(4, .box [vX, vX, .c (.v (lX))]), (5, .box [vX, vX, .c (.v (lX))]), (6, .box [vX, vX, fX 500006 1]), (7, .box [vX, vX, fX 500007 1]), (500006, .row true .froz iX), (500007, .row true .froz iX)]⟩ [4, 5, 6, 7, 500004, 500005, 500006, 500007] [(true, 6, 2, 500006, .froz, []), (true, 7, 2, 500007, .froz, [])]
 (.block 4
 (.loop 0 ⟨[(0, sX), (4, .one (rX 4)), (5, .one (rX 5)), (6, .one (rX 6)), (7, .one (rX 7)), (8, sX), (9, sX), (10, sX), (11, sX)], [(4, .box [vX, vX, .c (.v (lX))]), (5, .box [vX, vX, .c (.v (lX))]), (6, .box [vX, vX, fX 500004 1]), (7, .box [vX, vX, fX 500005 1]), (500004, .row true .froz iX), (500005, .row true .froz iX)]⟩ [4, 5, 6, 7, 500002, 500003, 500004, 500005] [(true, 6, 2, 500004, .froz, []), (true, 7, 2, 500005, .froz, [])]
 (.seq
 (.seq
 (.reg false [
 oX 29 (.mv 11),
 oX 30 (.fieldA 1 4),
 oX 31 (.load false 1 30),
 oX 32 (.bin .lss 29 31)])
 (.cond 32
 .skip
 (.exit 4)))
 (.seq
 (.block 5
 (.reg true [
 oX 35 (.mv 10),
 oX 36 (.fieldA 2 4),
 oX 37 (.load false 1 36),
 oX 38 (.mv 8),
 oX 39 (.fieldA 1 4),
 oX 40 (.load false 1 39),
 oX 41 (.bin .mul 38 40),
 oX 42 (.mv 11),
 oX 43 (.bin .add 41 42),
 oX 44 (.idxA 1 37 43),
 oX 45 (.load false 1 44),
 oX 46 (.fieldA 2 5),
 oX 47 (.load false 1 46),
 oX 48 (.mv 11),
 oX 49 (.fieldA 1 5),
 oX 50 (.load false 1 49),
 oX 51 (.bin .mul 48 50),
 oX 52 (.mv 9),
 oX 53 (.bin .add 51 52),
 oX 54 (.idxA 1 47 53),
 oX 55 (.load false 1 54),
 oX 56 (.bin .mul 45 55),
 oX 57 (.bin .add 35 56),
 oX 58 (.mv 0),
 oX 59 (.bin .rem 57 58),
 oX 10 (.mv 59)]))
 (.reg false [
 oX 33 (.mv 11),
 oX 34 (.bin .add 33 (kX 1)),
 oX 11 (.mv 34)])))))))
 (.reg false [
 oX 60 (.fieldA 2 7),
 oX 61 (.load false 1 60),
 oX 62 (.mv 8),
 oX 63 (.fieldA 1 5),
 oX 64 (.load false 1 63),
 oX 65 (.bin .mul 62 64),
 oX 66 (.mv 9),
 oX 67 (.bin .add 65 66),
 oX 68 (.mv 10),
 oX 69 (.idxA 1 61 67),
 uX (.store 1 69 68)])))))
 (.reg false [
 oX 27 (.mv 9),
 oX 28 (.bin .add 27 (kX 1)),
 oX 9 (.mv 28)]))))))))
 (.reg false [
 oX 21 (.mv 8),
 oX 22 (.bin .add 21 (kX 1)),
 oX 8 (.mv 22)])))))))
 (.seq
 (.reg false [
 oX 70 (.load true 3 7),
 uX (.store 3 6 70)])
 .ret))))
def ms_spec_l31Mul : List MRes := [.cell 6 3 true]
theorem n_spec_l31Mul (NN : Nat) (x : DLL (Sig.tys ag_spec_l31Mul)) : runS NN [fn_spec_l31New] sc_spec_l31Mul ms_spec_l31Mul ag_spec_l31Mul rs_spec_l31Mul x = G_spec_l31Mul NN x := by kernel_rfl
theorem k_spec_l31Mul : chkS pX 86 sc_spec_l31Mul.er ms_spec_l31Mul 3 = true := by decide +kernel
theorem p_spec_l31Mul : PureSpec pX 86 fn_spec_l31Mul.M ∧ chkFun pX 86 = true :=
  pure_of_runS (T := [fn_spec_l31New]) (sc := sc_spec_l31Mul) (ms := ms_spec_l31Mul) (args := ag_spec_l31Mul) (res := rs_spec_l31Mul) (SOk.cons p_spec_l31New <| SOk.nil) follows_ok k_spec_l31Mul F_spec_l31Mul fun x y h => (n_spec_l31Mul FUEL x).trans (f_spec_l31Mul x y h)

def fn_spec_l32Dims : SFn := ⟨115, ag_spec_l32Dims, mu_spec_l32Dims, rs_spec_l32Dims, F_spec_l32Dims⟩
def sc_spec_l32Dims : SCode :=
 (.seq
 (.reg false [
 oX 1 (.box 2 0),
 oX 2 (.mv (.k (.one (.nil iX))))])
 (.seq
 (.reg false [
 oX 6 (.bslice iX []),
 oX 3 (.mv 6)])
 (.seq
 (.seq
 (.reg false [
 oX 7 (.fieldA 1 1),
 oX 8 (.load false 1 7),
 oX 9 (.len 8),
 oX 10 (.mv (kX 0))])
 (.join ⟨[(3, .one (fX 500001 1))], [(500001, .row true .froz iX)]⟩ [500000, 500001] [(false, 3, 0, 500001, .froz, [])]
 (.block 0
 (.loop 0 ⟨[(3, .one (fX 500000 1)), (8, .one (.c (.v (.list gX)))), (9, sX), (10, sX)], [(500000, .row true .froz iX)]⟩ [1, 6, 5, 17, 18, 500000] [(false, 3, 0, 500000, .froz, [])]
 (.seq
 (.reg false [
 oX 11 (.bin .lss 10 9)])
 (.seq
 (.cond 11
 .skip
 (.exit 0))
 (.seq
 (.block 1
 (.seq
 (.reg false [
 oX 12 (.idxA 4 8 10),
 oX 13 (.load true 4 12),
 oX 5 (.alloc [zX, zX, zX, .nil iX]),
 uX (.store 4 5 13)])
 (.reg false [
 oX 14 (.mv 3),
 oX 15 (.fieldA 1 5),
 oX 16 (.load false 1 15),
 oX 17 (.bslice iX [16]),
 oX 18 (.append true iX 8 14 17),
 oX 3 (.mv 18)])))
 (.reg false [
 oX 19 (.bin .add 10 (kX 1)),
 oX 10 (.mv 19)]))))))))
 (.seq
 (.reg false [
 oX 20 (.mv 3),
 oX 2 (.mv 20)])
 .ret))))
def ms_spec_l32Dims : List MRes := [.tmp 2]
theorem n_spec_l32Dims (NN : Nat) (x : DLL (Sig.tys ag_spec_l32Dims)) : runS NN [] sc_spec_l32Dims ms_spec_l32Dims ag_spec_l32Dims rs_spec_l32Dims x = G_spec_l32Dims NN x := by kernel_rfl
theorem k_spec_l32Dims : chkS pX 115 sc_spec_l32Dims.er ms_spec_l32Dims 1 = true := by decide +kernel
theorem p_spec_l32Dims : PureSpec pX 115 fn_spec_l32Dims.M ∧ chkFun pX 115 = true :=
  pure_of_runS (T := []) (sc := sc_spec_l32Dims) (ms := ms_spec_l32Dims) (args := ag_spec_l32Dims) (res := rs_spec_l32Dims) (SOk.nil) follows_ok k_spec_l32Dims F_spec_l32Dims fun x y h => (n_spec_l32Dims FUEL x).trans (f_spec_l32Dims x y h)

def fn_spec_l05Product : SFn := ⟨114, ag_spec_l05Product, mu_spec_l05Product, rs_spec_l05Product, F_spec_l05Product⟩
def sc_spec_l05Product : SCode :=
 (.seq
 (.reg false [
 oX 4 (.mv (kX 0))])
 (.seq
 (.reg false [
 oX 5 (.mv (kX 1))])
 (.seq
 (.seq
 (.reg false [
 oX 8 (.mv 0),
 oX 9 (.len 8),
 oX 10 (.mv (kX 0))])
 (.join ⟨[(5, sX)], []⟩ [] []
 (.block 0
 (.loop 0 ⟨[(1, sX), (5, sX), (8, .one (.c (.v (lX)))), (9, sX), (10, sX)], []⟩ [] []
 (.seq
 (.reg false [
 oX 11 (.bin .lss 10 9)])
 (.seq
 (.cond 11
 .skip
 (.exit 0))
 (.seq
 (.block 1
 (.seq
 (.reg false [
 oX 12 (.idxA 1 8 10),
 oX 13 (.load false 1 12),
 oX 7 (.mv 13)])
 (.reg false [
 oX 14 (.mv 5),
 oX 15 (.mv 7),
 oX 16 (.bin .mul 14 15),
 oX 17 (.mv 1),
 oX 18 (.bin .add 17 (kX 1)),
 oX 19 (.mm false 16 18),
 oX 5 (.mv 19)])))
 (.reg false [
 oX 20 (.bin .add 10 (kX 1)),
 oX 10 (.mv 20)]))))))))
 (.seq
 (.reg false [
 oX 21 (.mv 5),
 oX 4 (.mv 21)])
 .ret))))
def ms_spec_l05Product : List MRes := [.tmp 4]
theorem n_spec_l05Product (NN : Nat) (x : DLL (Sig.tys ag_spec_l05Product)) : runS NN [] sc_spec_l05Product ms_spec_l05Product ag_spec_l05Product rs_spec_l05Product x = G_spec_l05Product NN x := by kernel_rfl
theorem k_spec_l05Product : chkS pX 114 sc_spec_l05Product.er ms_spec_l05Product 2 = true := by decide +kernel
theorem p_spec_l05Product : PureSpec pX 114 fn_spec_l05Product.M ∧ chkFun pX 114 = true :=
  pure_of_runS (T := []) (sc := sc_spec_l05Product) (ms := ms_spec_l05Product) (args := ag_spec_l05Product) (res := rs_spec_l05Product) (SOk.nil) follows_ok k_spec_l05Product F_spec_l05Product fun x y h => (n_spec_l05Product FUEL x).trans (f_spec_l05Product x y h)

def fn_spec_ChainOk : SFn := ⟨87, ag_spec_ChainOk, mu_spec_ChainOk, rs_spec_ChainOk, F_spec_ChainOk⟩
def sc_spec_ChainOk : SCode :=
 (.seq
 (.reg false [
 oX 1 (.box 2 0),
 oX 2 (.mv (.k (.one (.v (.bool) (false)))))])
 (.seq
 (.seq
 (.reg false [
 oX 8 (.fieldA 0 1),
 oX 9 (.load false 1 8),
 oX 10 (.call .froz 52 [9]),
 oX 11 (.un .not 10),
 oX 12 (.mv 11),
 ⟨(some 13), .fieldA 1 1, (some (12, false))⟩,
 ⟨(some 14), .load false 1 13, (some (12, false))⟩,
 ⟨(some 15), .len 14, (some (12, false))⟩,
 ⟨(some 16), .call .froz 53 [15, (kX 1), (kX 8)], (some (12, false))⟩,
 ⟨(some 17), .un .not 16, (some (12, false))⟩,
 oX 18 (.pick 12 (.k (.one (.v (.bool) (true)))) 17)])
 (.cond 18
 (.seq
 (.reg false [
 oX 2 (.mv (.k (.one (.v (.bool) (false)))))])
 .ret)
 .skip))
 (.seq
 (.reg false [
 oX 3 (.mv (kX 1))])
 (.seq
 (.seq
 (.reg false [
 oX 19 (.fieldA 1 1),
 oX 20 (.load false 1 19),
 oX 21 (.len 20),
 oX 22 (.mv (kX 0))])
 (.join ⟨[(3, sX), (1, .one (rX 1))], [(1, .box [vX, .c (.v (.list gX))])]⟩ [1] []
 (.block 0
 (.loop 0 ⟨[(1, .one (rX 1)), (3, sX), (20, .one (.c (.v (.list gX)))), (21, sX), (22, sX)], [(1, .box [vX, .c (.v (.list gX))])]⟩ [1] []
 (.seq
 (.reg false [
 oX 23 (.bin .lss 22 21)])
 (.seq
 (.cond 23
 .skip
 (.exit 0))
 (.seq
 (.join ⟨[(22, sX), (1, .one (rX 1)), (3, sX), (20, .one (.c (.v (.list gX)))), (21, sX)], [(1, .box [vX, .c (.v (.list gX))])]⟩ [1, 5] []
 (.block 1
 (.seq
 (.reg false [
 oX 24 (.idxA 4 20 22),
 oX 25 (.load true 4 24),
 oX 5 (.alloc [zX, zX, zX, .nil iX]),
 uX (.store 4 5 25)])
 (.seq
 (.seq
 (.reg false [
 oX 26 (.fieldA 0 5),
 oX 27 (.load false 1 26),
 oX 28 (.mv 3),
 oX 29 (.bin .neq 27 28),
 oX 30 (.mv 29),
 ⟨(some 31), .fieldA 1 5, (some (30, false))⟩,
 ⟨(some 32), .load false 1 31, (some (30, false))⟩,
 ⟨(some 33), .call .froz 53 [32, (kX 1), (kX 8)], (some (30, false))⟩,
 ⟨(some 34), .un .not 33, (some (30, false))⟩,
 oX 35 (.pick 30 (.k (.one (.v (.bool) (true)))) 34),
 oX 36 (.mv 35),
 ⟨(some 37), .fieldA 2 5, (some (36, false))⟩,
 ⟨(some 38), .load false 1 37, (some (36, false))⟩,
 ⟨(some 39), .call .froz 53 [38, (kX 0), (kX 32)], (some (36, false))⟩,
 ⟨(some 40), .un .not 39, (some (36, false))⟩,
 oX 41 (.pick 36 (.k (.one (.v (.bool) (true)))) 40),
 oX 42 (.mv 41),
 ⟨(some 43), .fieldA 3 5, (some (42, false))⟩,
 ⟨(some 44), .load false 1 43, (some (42, false))⟩,
 ⟨(some 45), .len 44, (some (42, false))⟩,
 ⟨(some 46), .fieldA 0 5, (some (42, false))⟩,
 ⟨(some 47), .load false 1 46, (some (42, false))⟩,
 ⟨(some 48), .fieldA 1 5, (some (42, false))⟩,
 ⟨(some 49), .load false 1 48, (some (42, false))⟩,
 ⟨(some 50), .bin .mul 47 49, (some (42, false))⟩,
 ⟨(some 51), .fieldA 2 5, (some (42, false))⟩,
 ⟨(some 52), .load false 1 51, (some (42, false))⟩,
 ⟨(some 53), .bin .mul 50 52, (some (42, false))⟩,
 ⟨(some 54), .bin .neq 45 53, (some (42, false))⟩,
 oX 55 (.pick 42 (.k (.one (.v (.bool) (true)))) 54)])
 (.cond 55
 (.seq
 (.reg false [
 oX 2 (.mv (.k (.one (.v (.bool) (false)))))])
 .ret)
 .skip))
 (.seq
 (.seq
 (.reg false [
 oX 56 (.fieldA 3 5),
 oX 57 (.load false 1 56),
 oX 58 (.len 57),
 oX 59 (.mv (kX 0))])
 (.join ⟨[(5, .one (rX 5)), (22, sX), (1, .one (rX 1)), (20, .one (.c (.v (.list gX)))), (21, sX)], [(1, .box [vX, .c (.v (.list gX))]), (5, .box [vX, vX, vX, .c (.v (lX))])]⟩ [1, 5] []
 (.block 2
 (.loop 0 ⟨[(1, .one (rX 1)), (5, .one (rX 5)), (20, .one (.c (.v (.list gX)))), (21, sX), (22, sX), (57, .one (.c (.v (lX)))), (58, sX), (59, sX)], [(1, .box [vX, .c (.v (.list gX))]), (5, .box [vX, vX, vX, .c (.v (lX))])]⟩ [1, 5] []
 (.seq
 (.reg false [
 oX 60 (.bin .lss 59 58)])
 (.seq
 (.cond 60
 .skip
 (.exit 2))
 (.seq
 (.block 3
 (.seq
 (.reg false [
 oX 61 (.idxA 1 57 59),
 oX 62 (.load false 1 61),
 oX 7 (.mv 62)])
 (.seq
 (.reg false [
 oX 63 (.mv 7),
 oX 64 (.fieldA 0 1),
 oX 65 (.load false 1 64),
 oX 66 (.bin .sub 65 (kX 1)),
 oX 67 (.call .froz 53 [63, (kX 0), 66]),
 oX 68 (.un .not 67)])
 (.cond 68
 (.seq
 (.reg false [
 oX 2 (.mv (.k (.one (.v (.bool) (false)))))])
 .ret)
 .skip))))
 (.reg false [
 oX 69 (.bin .add 59 (kX 1)),
 oX 59 (.mv 69)]))))))))
 (.reg false [
 oX 70 (.fieldA 2 5),
 oX 71 (.load false 1 70),
 oX 3 (.mv 71)]))))))
 (.reg false [
 oX 72 (.bin .add 22 (kX 1)),
 oX 22 (.mv 72)]))))))))
 (.seq
 (.reg false [
 oX 73 (.mv 3),
 oX 74 (.bin .eql 73 (kX 1)),
 oX 75 (.mv 74),
 ⟨(some 76), .load true 2 1, (some (75, true))⟩,
 ⟨(some 77), .call .froz 115 [76], (some (75, true))⟩,
 ⟨(some 78), .call .froz 114 [77, (kX 4096)], (some (75, true))⟩,
 ⟨(some 79), .bin .leq 78 (kX 4096), (some (75, true))⟩,
 oX 80 (.pick 75 79 (.k (.one (.v (.bool) (false))))),
 oX 2 (.mv 80)])
 .ret)))))
def ms_spec_ChainOk : List MRes := [.tmp 2]
theorem n_spec_ChainOk (NN : Nat) (x : DLL (Sig.tys ag_spec_ChainOk)) : runS NN [fn_spec_IsPrime, fn_spec_l01In, fn_spec_l32Dims, fn_spec_l05Product] sc_spec_ChainOk ms_spec_ChainOk ag_spec_ChainOk rs_spec_ChainOk x = G_spec_ChainOk NN x := by kernel_rfl
theorem k_spec_ChainOk : chkS pX 87 sc_spec_ChainOk.er ms_spec_ChainOk 1 = true := by decide +kernel
theorem p_spec_ChainOk : PureSpec pX 87 fn_spec_ChainOk.M ∧ chkFun pX 87 = true :=
  pure_of_runS (T := [fn_spec_IsPrime, fn_spec_l01In, fn_spec_l32Dims, fn_spec_l05Product]) (sc := sc_spec_ChainOk) (ms := ms_spec_ChainOk) (args := ag_spec_ChainOk) (res := rs_spec_ChainOk) (SOk.cons p_spec_IsPrime <| SOk.cons p_spec_l01In <| SOk.cons p_spec_l32Dims <| SOk.cons p_spec_l05Product <| SOk.nil) follows_ok k_spec_ChainOk F_spec_ChainOk fun x y h => (n_spec_ChainOk FUEL x).trans (f_spec_ChainOk x y h)

def fn_spec_AutomatonChain : SFn := ⟨43, ag_spec_AutomatonChain, mu_spec_AutomatonChain, rs_spec_AutomatonChain, F_spec_AutomatonChain⟩
def sc_spec_AutomatonChain : SCode :=
 (.seq
 (.reg false [
 oX 2 (.box 5 0),
 oX 4 (.alloc [zX, .nil gX]),
 oX 5 (.mv (.k (.one (.v (.bool) (false)))))])
 (.seq
 (.seq
 (.reg false [
 oX 13 (.load true 5 2),
 oX 14 (.call .froz 16 [13]),
 oX 15 (.un .not 14),
 oX 16 (.mv 15),
 ⟨(some 17), .mv 1, (some (16, false))⟩,
 ⟨(some 18), .call .froz 53 [17, (kX 1), (kX 8)], (some (16, false))⟩,
 ⟨(some 19), .un .not 18, (some (16, false))⟩,
 oX 20 (.pick 16 (.k (.one (.v (.bool) (true)))) 19)])
 (.cond 20
 (.seq
 (.reg false [
 oX 21 (.build [zX, .nil gX] []),
 uX (.store 2 4 21),
 oX 5 (.mv (.k (.one (.v (.bool) (false)))))])
 .ret)
 .skip))
 (.seq
 (.reg false [
 oX 22 (.fieldA 0 2),
 oX 23 (.load false 1 22),
 oX 24 (.build [zX, .nil gX] [(0, 1, 23)]),
 oX 6 (.alloc [zX, .nil gX]),
 uX (.store 2 6 24)])
 (.seq
 (.seq
 (.reg false [
 oX 7 (.mv (kX 0))])
 (.join ⟨[(6, .one (rX 6)), (4, .one (rX 4))], [(4, .box [vX, fX 500034 4]), (6, .box [vX, fX 500035 4]), (500034, .row true .froz gX), (500035, .row true .froz gX)]⟩ [2, 4, 6, 500000, 500001, 500034, 500035] [(true, 4, 1, 500034, .froz, []), (true, 6, 1, 500035, .froz, [])]
 (.block 0
 (.loop 0 ⟨[(1, sX), (2, .one (rX 2)), (4, .one (rX 4)), (6, .one (rX 6)), (7, sX)], [(2, .box [vX, vX, .c (.v (lX)), .c (.v (.list mX)), .c (.v (lX))]), (4, .box [vX, fX 500000 4]), (6, .box [vX, fX 500001 4]), (500000, .row true .froz gX), (500001, .row true .froz gX)]⟩ [2, 4, 6, 500000, 500001, 500032, 500033] [(true, 4, 1, 500000, .froz, []), (true, 6, 1, 500001, .froz, [])]
 (.seq
 (.seq
 (.reg false [
 oX 25 (.mv 7),
 oX 26 (.mv 1),
 oX 27 (.bin .lss 25 26)])
 (.cond 27
 .skip
 (.exit 0)))
 (.seq
 (.join ⟨[(7, sX), (1, sX), (2, .one (rX 2)), (4, .one (rX 4)), (6, .one (rX 6))], [(2, .box [vX, vX, .c (.v (lX)), .c (.v (.list mX)), .c (.v (lX))]), (4, .box [vX, fX 500032 4]), (6, .box [vX, fX 500033 4]), (500032, .row true .froz gX), (500033, .row true .froz gX)]⟩ [2, 4, 6, 8, 129, 500029, 500032, 500033] [(true, 4, 1, 500032, .froz, []), (true, 6, 1, 500033, .froz, [])]
 (.block 1
 (.seq
 (.reg false [
 oX 30 (.fieldA 1 2),
 oX 31 (.load false 1 30),
 oX 32 (.fieldA 3 2),
 oX 33 (.load false 1 32),
 oX 34 (.len 33),
 oX 35 (.fieldA 1 2),
 oX 36 (.load false 1 35),
 oX 37 (.build [zX, zX, zX, .nil iX] [(0, 1, 31), (1, 1, 34), (2, 1, 36)]),
 oX 8 (.alloc [zX, zX, zX, .nil iX]),
 uX (.store 4 8 37)])
 (.seq
 (.seq
 (.reg false [
 oX 38 (.mv 7),
 oX 39 (.bin .eql 38 (kX 0))])
 (.join ⟨[(6, .one (rX 6)), (4, .one (rX 4)), (2, .one (rX 2)), (1, sX), (7, sX), (8, .one (rX 8))], [(2, .box [vX, vX, .c (.v (lX)), .c (.v (.list mX)), .c (.v (lX))]), (4, .box [vX, fX 500002 4]), (6, .box [vX, fX 500003 4]), (8, .box [vX, vX, vX, fX 500004 1]), (500002, .row true .froz gX), (500003, .row true .froz gX), (500004, .row true .froz iX)]⟩ [2, 4, 6, 8, 500000, 500001, 500002, 500003, 500004] [(true, 4, 1, 500002, .froz, []), (true, 6, 1, 500003, .froz, []), (true, 8, 3, 500004, .froz, [])]
 (.cond 39
 (.reg false [
 oX 40 (.fieldA 0 8),
 uX (.store 1 40 (kX 1))])
 .skip)))
 (.seq
 (.seq
 (.reg false [
 oX 41 (.mv 7),
 oX 42 (.mv 1),
 oX 43 (.bin .sub 42 (kX 1)),
 oX 44 (.bin .eql 41 43)])
 (.join ⟨[(6, .one (rX 6)), (4, .one (rX 4)), (2, .one (rX 2)), (1, sX), (7, sX), (8, .one (rX 8))], [(2, .box [vX, vX, .c (.v (lX)), .c (.v (.list mX)), .c (.v (lX))]), (4, .box [vX, fX 500005 4]), (6, .box [vX, fX 500006 4]), (8, .box [vX, vX, vX, fX 500007 1]), (500005, .row true .froz gX), (500006, .row true .froz gX), (500007, .row true .froz iX)]⟩ [2, 4, 6, 8, 500002, 500003, 500004, 500005, 500006, 500007] [(true, 4, 1, 500005, .froz, []), (true, 6, 1, 500006, .froz, []), (true, 8, 3, 500007, .froz, [])]
 (.cond 44
 (.reg false [
 oX 45 (.fieldA 2 8),
 uX (.store 1 45 (kX 1))])
 .skip)))
 (.seq
 (.reg false [
 oX 46 (.fieldA 0 8),
 oX 47 (.load false 1 46),
 oX 48 (.fieldA 1 8),
 oX 49 (.load false 1 48),
 oX 50 (.bin .mul 47 49),
 oX 51 (.fieldA 2 8),
 oX 52 (.load false 1 51),
 oX 53 (.bin .mul 50 52),
 oX 54 (.mkslice .froz iX 8 (0 : Int) 53 53),
 oX 55 (.fieldA 3 8),
 uX (.store 1 55 54)])
 (.seq
 (.seq
 (.reg false [
 oX 56 (.fieldA 3 2),
 oX 57 (.load false 1 56),
 oX 58 (.len 57),
 oX 59 (.mv (kX 0))])
 (.join ⟨[(8, .one (rX 8)), (7, sX), (1, sX), (2, .one (rX 2)), (4, .one (rX 4)), (6, .one (rX 6))], [(2, .box [vX, vX, .c (.v (lX)), .c (.v (.list mX)), .c (.v (lX))]), (4, .box [vX, fX 500029 4]), (6, .box [vX, fX 500030 4]), (8, .box [vX, vX, vX, fX 500031 1]), (500029, .row true .froz gX), (500030, .row true .froz gX), (500031, .row true .froz iX)]⟩ [2, 4, 6, 8, 500008, 500009, 500010, 500029, 500030, 500031] [(true, 4, 1, 500029, .froz, []), (true, 6, 1, 500030, .froz, []), (true, 8, 3, 500031, .froz, [])]
 (.block 2
 (.loop 0 ⟨[(1, sX), (2, .one (rX 2)), (4, .one (rX 4)), (6, .one (rX 6)), (7, sX), (8, .one (rX 8)), (57, .one (.c (.v (.list mX)))), (58, sX), (59, sX)], [(2, .box [vX, vX, .c (.v (lX)), .c (.v (.list mX)), .c (.v (lX))]), (4, .box [vX, fX 500008 4]), (6, .box [vX, fX 500009 4]), (8, .box [vX, vX, vX, fX 500010 1]), (500008, .row true .froz gX), (500009, .row true .froz gX), (500010, .row true .froz iX)]⟩ [2, 4, 6, 8, 54, 500005, 500006, 500007, 500008, 500009, 500010, 500026, 500027, 500028] [(true, 4, 1, 500008, .froz, []), (true, 6, 1, 500009, .froz, []), (true, 8, 3, 500010, .froz, [])]
 (.seq
 (.reg false [
 oX 60 (.bin .lss 59 58)])
 (.seq
 (.cond 60
 .skip
 (.exit 2))
 (.seq
 (.join ⟨[(59, sX), (1, sX), (2, .one (rX 2)), (4, .one (rX 4)), (6, .one (rX 6)), (7, sX), (8, .one (rX 8)), (57, .one (.c (.v (.list mX)))), (58, sX)], [(2, .box [vX, vX, .c (.v (lX)), .c (.v (.list mX)), .c (.v (lX))]), (4, .box [vX, fX 500026 4]), (6, .box [vX, fX 500027 4]), (8, .box [vX, vX, vX, fX 500028 1]), (500026, .row true .froz gX), (500027, .row true .froz gX), (500028, .row true .froz iX)]⟩ [2, 4, 6, 8, 10, 500017, 500018, 500019, 500026, 500027, 500028] [(true, 4, 1, 500026, .froz, []), (true, 6, 1, 500027, .froz, []), (true, 8, 3, 500028, .froz, [])]
 (.block 3
 (.seq
 (.reg false [
 oX 61 (.mv 59),
 oX 62 (.idxA 3 57 59),
 oX 63 (.load true 3 62),
 oX 10 (.alloc [zX, zX, .nil iX]),
 oX 9 (.mv 61),
 uX (.store 3 10 63)])
 (.seq
 (.seq
 (.reg false [
 oX 64 (.mv 7),
 oX 65 (.bin .eql 64 (kX 0))])
 (.join ⟨[(58, sX), (57, .one (.c (.v (.list mX)))), (8, .one (rX 8)), (7, sX), (6, .one (rX 6)), (4, .one (rX 4)), (2, .one (rX 2)), (1, sX), (59, sX), (9, sX), (10, .one (rX 10))], [(2, .box [vX, vX, .c (.v (lX)), .c (.v (.list mX)), .c (.v (lX))]), (4, .box [vX, fX 500011 4]), (6, .box [vX, fX 500012 4]), (8, .box [vX, vX, vX, fX 500013 1]), (10, .box [vX, vX, .c (.v (lX))]), (500011, .row true .froz gX), (500012, .row true .froz gX), (500013, .row true .froz iX)]⟩ [2, 4, 6, 8, 10, 500008, 500009, 500010, 500011, 500012, 500013] [(true, 4, 1, 500011, .froz, []), (true, 6, 1, 500012, .froz, []), (true, 8, 3, 500013, .froz, [])]
 (.cond 65
 (.reg false [
 oX 66 (.fieldA 0 2),
 oX 67 (.load false 1 66),
 oX 68 (.fieldA 1 2),
 oX 69 (.load false 1 68),
 oX 70 (.fieldA 2 2),
 oX 71 (.load false 1 70),
 oX 72 (.build [zX, zX, .nil iX] [(0, 1, (kX 1)), (1, 1, 69), (2, 1, 71)]),
 oX 73 (.load true 3 10),
 oX 74 (.calld 86 [67, 72, 73]),
 uX (.store 3 10 74)])
 .skip)))
 (.seq
 (.seq
 (.reg false [
 oX 75 (.mv 7),
 oX 76 (.mv 1),
 oX 77 (.bin .sub 76 (kX 1)),
 oX 78 (.bin .eql 75 77)])
 (.join ⟨[(58, sX), (57, .one (.c (.v (.list mX)))), (8, .one (rX 8)), (7, sX), (6, .one (rX 6)), (4, .one (rX 4)), (2, .one (rX 2)), (1, sX), (59, sX), (9, sX), (10, .one (rX 10))], [(2, .box [vX, vX, .c (.v (lX)), .c (.v (.list mX)), .c (.v (lX))]), (4, .box [vX, fX 500014 4]), (6, .box [vX, fX 500015 4]), (8, .box [vX, vX, vX, fX 500016 1]), (10, .box [vX, vX, .c (.v (lX))]), (500014, .row true .froz gX), (500015, .row true .froz gX), (500016, .row true .froz iX)]⟩ [2, 4, 6, 8, 10, 500011, 500012, 500013, 500014, 500015, 500016] [(true, 4, 1, 500014, .froz, []), (true, 6, 1, 500015, .froz, []), (true, 8, 3, 500016, .froz, [])]
 (.cond 78
 (.reg false [
 oX 79 (.fieldA 0 2),
 oX 80 (.load false 1 79),
 oX 81 (.load true 3 10),
 oX 82 (.fieldA 1 2),
 oX 83 (.load false 1 82),
 oX 84 (.fieldA 4 2),
 oX 85 (.load false 1 84),
 oX 86 (.build [zX, zX, .nil iX] [(0, 1, 83), (1, 1, (kX 1)), (2, 1, 85)]),
 oX 87 (.calld 86 [80, 81, 86]),
 uX (.store 3 10 87)])
 .skip)))
 (.seq
 (.reg false [
 oX 11 (.mv (kX 0))])
 (.block 4
 (.loop 0 ⟨[(1, sX), (2, .one (rX 2)), (4, .one (rX 4)), (6, .one (rX 6)), (7, sX), (8, .one (rX 8)), (9, sX), (10, .one (rX 10)), (11, sX), (57, .one (.c (.v (.list mX)))), (58, sX), (59, sX)], [(2, .box [vX, vX, .c (.v (lX)), .c (.v (.list mX)), .c (.v (lX))]), (4, .box [vX, fX 500017 4]), (6, .box [vX, fX 500018 4]), (8, .box [vX, vX, vX, fX 500019 1]), (10, .box [vX, vX, .c (.v (lX))]), (500017, .row true .froz gX), (500018, .row true .froz gX), (500019, .row true .froz iX)]⟩ [2, 4, 6, 8, 10, 500014, 500015, 500016, 500017, 500018, 500019, 500023, 500024, 500025] [(true, 4, 1, 500017, .froz, []), (true, 6, 1, 500018, .froz, []), (true, 8, 3, 500019, .froz, [])]
 (.seq
 (.seq
 (.reg false [
 oX 88 (.mv 11),
 oX 89 (.fieldA 0 8),
 oX 90 (.load false 1 89),
 oX 91 (.bin .lss 88 90)])
 (.cond 91
 .skip
 (.exit 4)))
 (.seq
 (.join ⟨[(11, sX), (1, sX), (2, .one (rX 2)), (4, .one (rX 4)), (6, .one (rX 6)), (7, sX), (8, .one (rX 8)), (9, sX), (10, .one (rX 10)), (57, .one (.c (.v (.list mX)))), (58, sX), (59, sX)], [(2, .box [vX, vX, .c (.v (lX)), .c (.v (.list mX)), .c (.v (lX))]), (4, .box [vX, fX 500023 4]), (6, .box [vX, fX 500024 4]), (8, .box [vX, vX, vX, fX 500025 1]), (10, .box [vX, vX, .c (.v (lX))]), (500023, .row true .froz gX), (500024, .row true .froz gX), (500025, .row true .froz iX)]⟩ [2, 4, 6, 8, 10, 500020, 500021, 500022, 500023, 500024, 500025] [(true, 4, 1, 500023, .froz, []), (true, 6, 1, 500024, .froz, []), (true, 8, 3, 500025, .froz, [])]
 (.block 5
 (.seq
 (.reg false [
 oX 12 (.mv (kX 0))])
 (.block 6
 (.loop 0 ⟨[(1, sX), (2, .one (rX 2)), (4, .one (rX 4)), (6, .one (rX 6)), (7, sX), (8, .one (rX 8)), (9, sX), (10, .one (rX 10)), (11, sX), (12, sX), (57, .one (.c (.v (.list mX)))), (58, sX), (59, sX)], [(2, .box [vX, vX, .c (.v (lX)), .c (.v (.list mX)), .c (.v (lX))]), (4, .box [vX, fX 500020 4]), (6, .box [vX, fX 500021 4]), (8, .box [vX, vX, vX, fX 500022 1]), (10, .box [vX, vX, .c (.v (lX))]), (500020, .row true .froz gX), (500021, .row true .froz gX), (500022, .row true .froz iX)]⟩ [2, 4, 6, 8, 10, 500017, 500018, 500019, 500020, 500021, 500022] [(true, 4, 1, 500020, .froz, []), (true, 6, 1, 500021, .froz, []), (true, 8, 3, 500022, .froz, [])]
 (.seq
 (.seq
 (.reg false [
 oX 94 (.mv 12),
 oX 95 (.fieldA 2 8),
 oX 96 (.load false 1 95),
 oX 97 (.bin .lss 94 96)])
 (.cond 97
 .skip
 (.exit 6)))
 (.seq
 (.block 7
 (.reg true [
 oX 100 (.fieldA 3 8),
 oX 101 (.load false 1 100),
 oX 102 (.mv 11),
 oX 103 (.fieldA 1 8),
 oX 104 (.load false 1 103),
 oX 105 (.bin .mul 102 104),
 oX 106 (.mv 9),
 oX 107 (.bin .add 105 106),
 oX 108 (.fieldA 2 8),
 oX 109 (.load false 1 108),
 oX 110 (.bin .mul 107 109),
 oX 111 (.mv 12),
 oX 112 (.bin .add 110 111),
 oX 113 (.fieldA 2 10),
 oX 114 (.load false 1 113),
 oX 115 (.mv 11),
 oX 116 (.fieldA 2 8),
 oX 117 (.load false 1 116),
 oX 118 (.bin .mul 115 117),
 oX 119 (.mv 12),
 oX 120 (.bin .add 118 119),
 oX 121 (.idxA 1 114 120),
 oX 122 (.load false 1 121),
 oX 123 (.idxA 1 101 112),
 uX (.store 1 123 122)]))
 (.reg false [
 oX 98 (.mv 12),
 oX 99 (.bin .add 98 (kX 1)),
 oX 12 (.mv 99)]))))))))
 (.reg false [
 oX 92 (.mv 11),
 oX 93 (.bin .add 92 (kX 1)),
 oX 11 (.mv 93)])))))))))))
 (.reg false [
 oX 124 (.bin .add 59 (kX 1)),
 oX 59 (.mv 124)]))))))))
 (.reg false [
 oX 125 (.fieldA 1 6),
 oX 126 (.load false 1 125),
 oX 127 (.load true 4 8),
 oX 128 (.bslice gX [127]),
 oX 129 (.append false gX 48 126 128),
 oX 130 (.fieldA 1 6),
 uX (.store 1 130 129)]))))))))
 (.reg false [
 oX 28 (.mv 7),
 oX 29 (.bin .add 28 (kX 1)),
 oX 7 (.mv 29)])))))))
 (.seq
 (.seq
 (.reg false [
 oX 131 (.load true 2 6),
 oX 132 (.call .froz 87 [131]),
 oX 133 (.un .not 132)])
 (.cond 133
 (.seq
 (.reg false [
 oX 134 (.build [zX, .nil gX] []),
 uX (.store 2 4 134),
 oX 5 (.mv (.k (.one (.v (.bool) (false)))))])
 .ret)
 .skip))
 (.seq
 (.reg false [
 oX 135 (.load true 2 6),
 uX (.store 2 4 135),
 oX 5 (.mv (.k (.one (.v (.bool) (true)))))])
 .ret))))))
def ms_spec_AutomatonChain : List MRes := [.cell 4 2 true, .tmp 5]
theorem n_spec_AutomatonChain (NN : Nat) (x : DLL (Sig.tys ag_spec_AutomatonChain)) : runS NN [fn_spec_AutomatonOk, fn_spec_l01In, fn_spec_l31Mul, fn_spec_ChainOk] sc_spec_AutomatonChain ms_spec_AutomatonChain ag_spec_AutomatonChain rs_spec_AutomatonChain x = G_spec_AutomatonChain NN x := by kernel_rfl
theorem k_spec_AutomatonChain : chkS pX 43 sc_spec_AutomatonChain.er ms_spec_AutomatonChain 2 = true := by decide +kernel
theorem p_spec_AutomatonChain : PureSpec pX 43 fn_spec_AutomatonChain.M ∧ chkFun pX 43 = true :=
  pure_of_runS (T := [fn_spec_AutomatonOk, fn_spec_l01In, fn_spec_l31Mul, fn_spec_ChainOk]) (sc := sc_spec_AutomatonChain) (ms := ms_spec_AutomatonChain) (args := ag_spec_AutomatonChain) (res := rs_spec_AutomatonChain) (SOk.cons p_spec_AutomatonOk <| SOk.cons p_spec_l01In <| SOk.cons p_spec_l31Mul <| SOk.cons p_spec_ChainOk <| SOk.nil) follows_ok k_spec_AutomatonChain F_spec_AutomatonChain fun x y h => (n_spec_AutomatonChain FUEL x).trans (f_spec_AutomatonChain x y h)

def fn_impl_IsPrime : SFn := ⟨57, ag_impl_IsPrime, mu_impl_IsPrime, rs_impl_IsPrime, F_impl_IsPrime⟩
def sc_impl_IsPrime : SCode :=
 (.seq
 (.reg false [
 oX 2 (.mv (.k (.one (.v (.bool) (false)))))])
 (.seq
 (.seq
 (.reg false [
 oX 4 (.mv 0),
 oX 5 (.bin .lss 4 (kX 2)),
 oX 6 (.mv 5),
 ⟨(some 7), .mv 0, (some (6, false))⟩,
 ⟨(some 8), .bin .gtr 7 (kX 1000003), (some (6, false))⟩,
 oX 9 (.pick 6 (.k (.one (.v (.bool) (true)))) 8)])
 (.cond 9
 (.seq
 (.reg false [
 oX 2 (.mv (.k (.one (.v (.bool) (false)))))])
 .ret)
 .skip))
 (.seq
 (.seq
 (.reg false [
 oX 3 (.mv (kX 2))])
 (.join ⟨[], []⟩ [] []
 (.block 0
 (.loop 0 ⟨[(0, sX), (3, sX)], []⟩ [] []
 (.seq
 (.seq
 (.reg false [
 oX 10 (.mv 3),
 oX 11 (.mv 3),
 oX 12 (.bin .mul 10 11),
 oX 13 (.mv 0),
 oX 14 (.bin .leq 12 13)])
 (.cond 14
 .skip
 (.exit 0)))
 (.seq
 (.block 1
 (.seq
 (.reg false [
 oX 17 (.mv 0),
 oX 18 (.mv 3),
 oX 19 (.bin .rem 17 18),
 oX 20 (.bin .eql 19 (kX 0))])
 (.cond 20
 (.seq
 (.reg false [
 oX 2 (.mv (.k (.one (.v (.bool) (false)))))])
 .ret)
 .skip)))
 (.reg false [
 oX 15 (.mv 3),
 oX 16 (.bin .add 15 (kX 1)),
 oX 3 (.mv 16)])))))))
 (.seq
 (.reg false [
 oX 2 (.mv (.k (.one (.v (.bool) (true)))))])
 .ret))))
def ms_impl_IsPrime : List MRes := [.tmp 2]
theorem n_impl_IsPrime (NN : Nat) (x : DLL (Sig.tys ag_impl_IsPrime)) : runS NN [] sc_impl_IsPrime ms_impl_IsPrime ag_impl_IsPrime rs_impl_IsPrime x = G_impl_IsPrime NN x := by kernel_rfl
theorem k_impl_IsPrime : chkS pX 57 sc_impl_IsPrime.er ms_impl_IsPrime 1 = true := by decide +kernel
theorem p_impl_IsPrime : PureSpec pX 57 fn_impl_IsPrime.M ∧ chkFun pX 57 = true :=
  pure_of_runS (T := []) (sc := sc_impl_IsPrime) (ms := ms_impl_IsPrime) (args := ag_impl_IsPrime) (res := rs_impl_IsPrime) (SOk.nil) follows_ok k_impl_IsPrime F_impl_IsPrime fun x y h => (n_impl_IsPrime FUEL x).trans (f_impl_IsPrime x y h)

def fn_impl_inMod : SFn := ⟨58, ag_impl_inMod, mu_impl_inMod, rs_impl_inMod, F_impl_inMod⟩
def sc_impl_inMod : SCode :=
 (.seq
 (.reg false [
 oX 4 (.mv (.k (.one (.v (.bool) (false)))))])
 (.seq
 (.seq
 (.reg false [
 oX 7 (.mv 1),
 oX 8 (.len 7),
 oX 9 (.mv (kX 0))])
 (.join ⟨[], []⟩ [] []
 (.block 0
 (.loop 0 ⟨[(0, sX), (7, .one (.c (.v (lX)))), (8, sX), (9, sX)], []⟩ [] []
 (.seq
 (.reg false [
 oX 10 (.bin .lss 9 8)])
 (.seq
 (.cond 10
 .skip
 (.exit 0))
 (.seq
 (.block 1
 (.seq
 (.reg false [
 oX 11 (.idxA 1 7 9),
 oX 12 (.load false 1 11),
 oX 6 (.mv 12)])
 (.seq
 (.reg false [
 oX 13 (.mv 6),
 oX 14 (.bin .lss 13 (kX 0)),
 oX 15 (.mv 14),
 ⟨(some 16), .mv 6, (some (15, false))⟩,
 ⟨(some 17), .mv 0, (some (15, false))⟩,
 ⟨(some 18), .bin .geq 16 17, (some (15, false))⟩,
 oX 19 (.pick 15 (.k (.one (.v (.bool) (true)))) 18)])
 (.cond 19
 (.seq
 (.reg false [
 oX 4 (.mv (.k (.one (.v (.bool) (false)))))])
 .ret)
 .skip))))
 (.reg false [
 oX 20 (.bin .add 9 (kX 1)),
 oX 9 (.mv 20)]))))))))
 (.seq
 (.reg false [
 oX 4 (.mv (.k (.one (.v (.bool) (true)))))])
 .ret)))
def ms_impl_inMod : List MRes := [.tmp 4]
theorem n_impl_inMod (NN : Nat) (x : DLL (Sig.tys ag_impl_inMod)) : runS NN [] sc_impl_inMod ms_impl_inMod ag_impl_inMod rs_impl_inMod x = G_impl_inMod NN x := by kernel_rfl
theorem k_impl_inMod : chkS pX 58 sc_impl_inMod.er ms_impl_inMod 2 = true := by decide +kernel
theorem p_impl_inMod : PureSpec pX 58 fn_impl_inMod.M ∧ chkFun pX 58 = true :=
  pure_of_runS (T := []) (sc := sc_impl_inMod) (ms := ms_impl_inMod) (args := ag_impl_inMod) (res := rs_impl_inMod) (SOk.nil) follows_ok k_impl_inMod F_impl_inMod fun x y h => (n_impl_inMod FUEL x).trans (f_impl_inMod x y h)

def fn_impl_MatrixOk : SFn := ⟨59, ag_impl_MatrixOk, mu_impl_MatrixOk, rs_impl_MatrixOk, F_impl_MatrixOk⟩
def sc_impl_MatrixOk : SCode :=
 (.seq
 (.reg false [
 oX 3 (.box 3 1),
 oX 4 (.mv (.k (.one (.v (.bool) (false)))))])
 (.seq
 (.seq
 (.reg false [
 oX 5 (.mv 0),
 oX 6 (.call .froz 57 [5]),
 oX 7 (.un .not 6),
 oX 8 (.mv 7),
 ⟨(some 9), .fieldA 0 3, (some (8, false))⟩,
 ⟨(some 10), .load false 1 9, (some (8, false))⟩,
 ⟨(some 11), .bin .lss 10 (kX 0), (some (8, false))⟩,
 oX 12 (.pick 8 (.k (.one (.v (.bool) (true)))) 11),
 oX 13 (.mv 12),
 ⟨(some 14), .fieldA 1 3, (some (13, false))⟩,
 ⟨(some 15), .load false 1 14, (some (13, false))⟩,
 ⟨(some 16), .bin .lss 15 (kX 0), (some (13, false))⟩,
 oX 17 (.pick 13 (.k (.one (.v (.bool) (true)))) 16),
 oX 18 (.mv 17),
 ⟨(some 19), .fieldA 0 3, (some (18, false))⟩,
 ⟨(some 20), .load false 1 19, (some (18, false))⟩,
 ⟨(some 21), .bin .gtr 20 (kX 64), (some (18, false))⟩,
 oX 22 (.pick 18 (.k (.one (.v (.bool) (true)))) 21),
 oX 23 (.mv 22),
 ⟨(some 24), .fieldA 1 3, (some (23, false))⟩,
 ⟨(some 25), .load false 1 24, (some (23, false))⟩,
 ⟨(some 26), .bin .gtr 25 (kX 64), (some (23, false))⟩,
 oX 27 (.pick 23 (.k (.one (.v (.bool) (true)))) 26)])
 (.cond 27
 (.seq
 (.reg false [
 oX 4 (.mv (.k (.one (.v (.bool) (false)))))])
 .ret)
 .skip))
 (.seq
 (.reg false [
 oX 28 (.fieldA 2 3),
 oX 29 (.load false 1 28),
 oX 30 (.len 29),
 oX 31 (.fieldA 0 3),
 oX 32 (.load false 1 31),
 oX 33 (.fieldA 1 3),
 oX 34 (.load false 1 33),
 oX 35 (.bin .mul 32 34),
 oX 36 (.bin .eql 30 35),
 oX 37 (.mv 36),
 ⟨(some 38), .mv 0, (some (37, true))⟩,
 ⟨(some 39), .fieldA 2 3, (some (37, true))⟩,
 ⟨(some 40), .load false 1 39, (some (37, true))⟩,
 ⟨(some 41), .call .froz 58 [38, 40], (some (37, true))⟩,
 oX 42 (.pick 37 41 (.k (.one (.v (.bool) (false))))),
 oX 4 (.mv 42)])
 .ret)))
def ms_impl_MatrixOk : List MRes := [.tmp 4]
theorem n_impl_MatrixOk (NN : Nat) (x : DLL (Sig.tys ag_impl_MatrixOk)) : runS NN [fn_impl_IsPrime, fn_impl_inMod] sc_impl_MatrixOk ms_impl_MatrixOk ag_impl_MatrixOk rs_impl_MatrixOk x = G_impl_MatrixOk NN x := by kernel_rfl
theorem k_impl_MatrixOk : chkS pX 59 sc_impl_MatrixOk.er ms_impl_MatrixOk 2 = true := by decide +kernel
theorem p_impl_MatrixOk : PureSpec pX 59 fn_impl_MatrixOk.M ∧ chkFun pX 59 = true :=
  pure_of_runS (T := [fn_impl_IsPrime, fn_impl_inMod]) (sc := sc_impl_MatrixOk) (ms := ms_impl_MatrixOk) (args := ag_impl_MatrixOk) (res := rs_impl_MatrixOk) (SOk.cons p_impl_IsPrime <| SOk.cons p_impl_inMod <| SOk.nil) follows_ok k_impl_MatrixOk F_impl_MatrixOk fun x y h => (n_impl_MatrixOk FUEL x).trans (f_impl_MatrixOk x y h)

def fn_impl_AutomatonOk : SFn := ⟨18, ag_impl_AutomatonOk, mu_impl_AutomatonOk, rs_impl_AutomatonOk, F_impl_AutomatonOk⟩
def sc_impl_AutomatonOk : SCode :=
 (.seq
 (.reg false [
 oX 1 (.box 5 0),
 oX 2 (.mv (.k (.one (.v (.bool) (false)))))])
 (.seq
 (.seq
 (.reg false [
 oX 5 (.fieldA 0 1),
 oX 6 (.load false 1 5),
 oX 7 (.call .froz 57 [6]),
 oX 8 (.un .not 7),
 oX 9 (.mv 8),
 ⟨(some 10), .fieldA 1 1, (some (9, false))⟩,
 ⟨(some 11), .load false 1 10, (some (9, false))⟩,
 ⟨(some 12), .bin .lss 11 (kX 0), (some (9, false))⟩,
 oX 13 (.pick 9 (.k (.one (.v (.bool) (true)))) 12),
 oX 14 (.mv 13),
 ⟨(some 15), .fieldA 1 1, (some (14, false))⟩,
 ⟨(some 16), .load false 1 15, (some (14, false))⟩,
 ⟨(some 17), .bin .gtr 16 (kX 12), (some (14, false))⟩,
 oX 18 (.pick 14 (.k (.one (.v (.bool) (true)))) 17),
 oX 19 (.mv 18),
 ⟨(some 20), .fieldA 2 1, (some (19, false))⟩,
 ⟨(some 21), .load false 1 20, (some (19, false))⟩,
 ⟨(some 22), .len 21, (some (19, false))⟩,
 ⟨(some 23), .fieldA 1 1, (some (19, false))⟩,
 ⟨(some 24), .load false 1 23, (some (19, false))⟩,
 ⟨(some 25), .bin .neq 22 24, (some (19, false))⟩,
 oX 26 (.pick 19 (.k (.one (.v (.bool) (true)))) 25),
 oX 27 (.mv 26),
 ⟨(some 28), .fieldA 4 1, (some (27, false))⟩,
 ⟨(some 29), .load false 1 28, (some (27, false))⟩,
 ⟨(some 30), .len 29, (some (27, false))⟩,
 ⟨(some 31), .fieldA 1 1, (some (27, false))⟩,
 ⟨(some 32), .load false 1 31, (some (27, false))⟩,
 ⟨(some 33), .bin .neq 30 32, (some (27, false))⟩,
 oX 34 (.pick 27 (.k (.one (.v (.bool) (true)))) 33)])
 (.cond 34
 (.seq
 (.reg false [
 oX 2 (.mv (.k (.one (.v (.bool) (false)))))])
 .ret)
 .skip))
 (.seq
 (.seq
 (.reg false [
 oX 35 (.fieldA 0 1),
 oX 36 (.load false 1 35),
 oX 37 (.fieldA 2 1),
 oX 38 (.load false 1 37),
 oX 39 (.call .froz 58 [36, 38]),
 oX 40 (.un .not 39),
 oX 41 (.mv 40),
 ⟨(some 42), .fieldA 0 1, (some (41, false))⟩,
 ⟨(some 43), .load false 1 42, (some (41, false))⟩,
 ⟨(some 44), .fieldA 4 1, (some (41, false))⟩,
 ⟨(some 45), .load false 1 44, (some (41, false))⟩,
 ⟨(some 46), .call .froz 58 [43, 45], (some (41, false))⟩,
 ⟨(some 47), .un .not 46, (some (41, false))⟩,
 oX 48 (.pick 41 (.k (.one (.v (.bool) (true)))) 47),
 oX 49 (.mv 48),
 ⟨(some 50), .fieldA 3 1, (some (49, false))⟩,
 ⟨(some 51), .load false 1 50, (some (49, false))⟩,
 ⟨(some 52), .len 51, (some (49, false))⟩,
 ⟨(some 53), .bin .lss 52 (kX 1), (some (49, false))⟩,
 oX 54 (.pick 49 (.k (.one (.v (.bool) (true)))) 53),
 oX 55 (.mv 54),
 ⟨(some 56), .fieldA 3 1, (some (55, false))⟩,
 ⟨(some 57), .load false 1 56, (some (55, false))⟩,
 ⟨(some 58), .len 57, (some (55, false))⟩,
 ⟨(some 59), .bin .gtr 58 (kX 4), (some (55, false))⟩,
 oX 60 (.pick 55 (.k (.one (.v (.bool) (true)))) 59)])
 (.cond 60
 (.seq
 (.reg false [
 oX 2 (.mv (.k (.one (.v (.bool) (false)))))])
 .ret)
 .skip))
 (.seq
 (.seq
 (.reg false [
 oX 61 (.fieldA 3 1),
 oX 62 (.load false 1 61),
 oX 63 (.len 62),
 oX 64 (.mv (kX 0))])
 (.join ⟨[], []⟩ [1] []
 (.block 0
 (.loop 0 ⟨[(1, .one (rX 1)), (62, .one (.c (.v (.list mX)))), (63, sX), (64, sX)], [(1, .box [vX, vX, .c (.v (lX)), .c (.v (.list mX)), .c (.v (lX))])]⟩ [1, 4] []
 (.seq
 (.reg false [
 oX 65 (.bin .lss 64 63)])
 (.seq
 (.cond 65
 .skip
 (.exit 0))
 (.seq
 (.block 1
 (.seq
 (.reg false [
 oX 66 (.idxA 3 62 64),
 oX 67 (.load true 3 66),
 oX 4 (.alloc [zX, zX, .nil iX]),
 uX (.store 3 4 67)])
 (.seq
 (.reg false [
 oX 68 (.fieldA 0 1),
 oX 69 (.load false 1 68),
 oX 70 (.load true 3 4),
 oX 71 (.call .froz 59 [69, 70]),
 oX 72 (.un .not 71),
 oX 73 (.mv 72),
 ⟨(some 74), .fieldA 0 4, (some (73, false))⟩,
 ⟨(some 75), .load false 1 74, (some (73, false))⟩,
 ⟨(some 76), .fieldA 1 1, (some (73, false))⟩,
 ⟨(some 77), .load false 1 76, (some (73, false))⟩,
 ⟨(some 78), .bin .neq 75 77, (some (73, false))⟩,
 oX 79 (.pick 73 (.k (.one (.v (.bool) (true)))) 78),
 oX 80 (.mv 79),
 ⟨(some 81), .fieldA 1 4, (some (80, false))⟩,
 ⟨(some 82), .load false 1 81, (some (80, false))⟩,
 ⟨(some 83), .fieldA 1 1, (some (80, false))⟩,
 ⟨(some 84), .load false 1 83, (some (80, false))⟩,
 ⟨(some 85), .bin .neq 82 84, (some (80, false))⟩,
 oX 86 (.pick 80 (.k (.one (.v (.bool) (true)))) 85)])
 (.cond 86
 (.seq
 (.reg false [
 oX 2 (.mv (.k (.one (.v (.bool) (false)))))])
 .ret)
 .skip))))
 (.reg false [
 oX 87 (.bin .add 64 (kX 1)),
 oX 64 (.mv 87)]))))))))
 (.seq
 (.reg false [
 oX 2 (.mv (.k (.one (.v (.bool) (true)))))])
 .ret)))))
def ms_impl_AutomatonOk : List MRes := [.tmp 2]
theorem n_impl_AutomatonOk (NN : Nat) (x : DLL (Sig.tys ag_impl_AutomatonOk)) : runS NN [fn_impl_IsPrime, fn_impl_inMod, fn_impl_MatrixOk] sc_impl_AutomatonOk ms_impl_AutomatonOk ag_impl_AutomatonOk rs_impl_AutomatonOk x = G_impl_AutomatonOk NN x := by kernel_rfl
theorem k_impl_AutomatonOk : chkS pX 18 sc_impl_AutomatonOk.er ms_impl_AutomatonOk 1 = true := by decide +kernel
theorem p_impl_AutomatonOk : PureSpec pX 18 fn_impl_AutomatonOk.M ∧ chkFun pX 18 = true :=
  pure_of_runS (T := [fn_impl_IsPrime, fn_impl_inMod, fn_impl_MatrixOk]) (sc := sc_impl_AutomatonOk) (ms := ms_impl_AutomatonOk) (args := ag_impl_AutomatonOk) (res := rs_impl_AutomatonOk) (SOk.cons p_impl_IsPrime <| SOk.cons p_impl_inMod <| SOk.cons p_impl_MatrixOk <| SOk.nil) follows_ok k_impl_AutomatonOk F_impl_AutomatonOk fun x y h => (n_impl_AutomatonOk FUEL x).trans (f_impl_AutomatonOk x y h)

def fn_impl_emptyMatrix : SFn := ⟨102, ag_impl_emptyMatrix, mu_impl_emptyMatrix, rs_impl_emptyMatrix, F_impl_emptyMatrix⟩
def sc_impl_emptyMatrix : SCode :=
 (.seq
 (.reg false [
 oX 4 (.alloc [zX, zX, .nil iX])])
 (.seq
 (.reg false [
 oX 5 (.mv 0),
 oX 6 (.mv 1),
 oX 7 (.mv 0),
 oX 8 (.mv 1),
 oX 9 (.bin .mul 7 8),
 oX 10 (.mkslice .froz iX 8 (0 : Int) 9 9),
 oX 11 (.build [zX, zX, .nil iX] [(0, 1, 5), (1, 1, 6), (2, 1, 10)]),
 uX (.store 3 4 11)])
 .ret))
def ms_impl_emptyMatrix : List MRes := [.cell 4 3 true]
theorem n_impl_emptyMatrix (NN : Nat) (x : DLL (Sig.tys ag_impl_emptyMatrix)) : runS NN [] sc_impl_emptyMatrix ms_impl_emptyMatrix ag_impl_emptyMatrix rs_impl_emptyMatrix x = G_impl_emptyMatrix NN x := by kernel_rfl
theorem k_impl_emptyMatrix : chkS pX 102 sc_impl_emptyMatrix.er ms_impl_emptyMatrix 2 = true := by decide +kernel
theorem p_impl_emptyMatrix : PureSpec pX 102 fn_impl_emptyMatrix.M ∧ chkFun pX 102 = true :=
  pure_of_runS (T := []) (sc := sc_impl_emptyMatrix) (ms := ms_impl_emptyMatrix) (args := ag_impl_emptyMatrix) (res := rs_impl_emptyMatrix) (SOk.nil) follows_ok k_impl_emptyMatrix F_impl_emptyMatrix fun x y h => (n_impl_emptyMatrix FUEL x).trans (f_impl_emptyMatrix x y h)

def fn_impl_Matrix_at : SFn := ⟨104, ag_impl_Matrix_at, mu_impl_Matrix_at, rs_impl_Matrix_at, F_impl_Matrix_at⟩
def sc_impl_Matrix_at : SCode :=
 (.seq
 (.reg false [
 oX 3 (.box 3 0),
 oX 6 (.mv (kX 0))])
 (.seq
 (.reg false [
 oX 7 (.fieldA 2 3),
 oX 8 (.load false 1 7),
 oX 9 (.mv 1),
 oX 10 (.fieldA 1 3),
 oX 11 (.load false 1 10),
 oX 12 (.bin .mul 9 11),
 oX 13 (.mv 2),
 oX 14 (.bin .add 12 13),
 oX 15 (.idxA 1 8 14),
 oX 16 (.load false 1 15),
 oX 6 (.mv 16)])
 .ret))
def ms_impl_Matrix_at : List MRes := [.tmp 6]
theorem n_impl_Matrix_at (NN : Nat) (x : DLL (Sig.tys ag_impl_Matrix_at)) : runS NN [] sc_impl_Matrix_at ms_impl_Matrix_at ag_impl_Matrix_at rs_impl_Matrix_at x = G_impl_Matrix_at NN x := by kernel_rfl
theorem k_impl_Matrix_at : chkS pX 104 sc_impl_Matrix_at.er ms_impl_Matrix_at 3 = true := by decide +kernel
theorem p_impl_Matrix_at : PureSpec pX 104 fn_impl_Matrix_at.M ∧ chkFun pX 104 = true :=
  pure_of_runS (T := []) (sc := sc_impl_Matrix_at) (ms := ms_impl_Matrix_at) (args := ag_impl_Matrix_at) (res := rs_impl_Matrix_at) (SOk.nil) follows_ok k_impl_Matrix_at F_impl_Matrix_at fun x y h => (n_impl_Matrix_at FUEL x).trans (f_impl_Matrix_at x y h)

def fn_impl_Matrix_set : SFn := ⟨103, ag_impl_Matrix_set, mu_impl_Matrix_set, rs_impl_Matrix_set, F_impl_Matrix_set⟩
def sc_impl_Matrix_set : SCode :=
 (.seq
 (.reg false [
 oX 4 (.box 3 0)])
 (.reg false [
 oX 8 (.fieldA 2 4),
 oX 9 (.load false 1 8),
 oX 10 (.mv 1),
 oX 11 (.fieldA 1 4),
 oX 12 (.load false 1 11),
 oX 13 (.bin .mul 10 12),
 oX 14 (.mv 2),
 oX 15 (.bin .add 13 14),
 oX 16 (.mv 3),
 oX 17 (.idxA 1 9 15),
 uX (.store 1 17 16)]))
def ms_impl_Matrix_set : List MRes := []
theorem n_impl_Matrix_set (NN : Nat) (x : DLL (Sig.tys ag_impl_Matrix_set)) : runMS NN [] sc_impl_Matrix_set ms_impl_Matrix_set ag_impl_Matrix_set mu_impl_Matrix_set rs_impl_Matrix_set x = G_impl_Matrix_set NN x := by kernel_rfl
theorem k_impl_Matrix_set : chkS pX 103 sc_impl_Matrix_set.er ms_impl_Matrix_set 4 = true := by decide +kernel
theorem p_impl_Matrix_set : MutSpec pX 103 mu_impl_Matrix_set fn_impl_Matrix_set.MM ∧ chkFun pX 103 = true :=
  mut_of_runMS (T := []) (sc := sc_impl_Matrix_set) (ms := ms_impl_Matrix_set) (args := ag_impl_Matrix_set) (mu := mu_impl_Matrix_set) (res := rs_impl_Matrix_set) (SOk.nil) follows_ok k_impl_Matrix_set F_impl_Matrix_set fun x y h => (n_impl_Matrix_set FUEL x).trans (f_impl_Matrix_set x y h)

def fn_impl_rawMulMatrix : SFn := ⟨88, ag_impl_rawMulMatrix, mu_impl_rawMulMatrix, rs_impl_rawMulMatrix, F_impl_rawMulMatrix⟩
def sc_impl_rawMulMatrix : SCode :=
 (.seq
 (.reg false [
 oX 4 (.box 3 1),
 oX 5 (.box 3 2),
 oX 6 (.alloc [zX, zX, .nil iX])])
 (.seq
 (.reg false [
 oX 12 (.fieldA 0 4),
 oX 13 (.load false 1 12),
 oX 14 (.fieldA 1 5),
 oX 15 (.load false 1 14),
 oX 16 (.call .froz 102 [13, 15]),
 oX 7 (.alloc [zX, zX, .nil iX]),
 uX (.store 3 7 16)])
 (.seq
 (.seq
 (.reg false [
 oX 8 (.mv (kX 0))])
 (.join ⟨[(7, .one (rX 7)), (6, .one (rX 6))], [(6, .box [vX, vX, fX 500012 1]), (7, .box [vX, vX, fX 500013 1]), (500012, .row true .froz iX), (500013, .row true .froz iX)]⟩ [4, 5, 6, 7, 500000, 500001, 500012, 500013] [(true, 6, 2, 500012, .froz, []), (true, 7, 2, 500013, .froz, [])]
 (.block 0
 (.loop 0 ⟨[(0, sX), (4, .one (rX 4)), (5, .one (rX 5)), (6, .one (rX 6)), (7, .one (rX 7)), (8, sX)], [(4, .box [vX, vX, .c (.v (lX))]), (5, .box [vX, vX, .c (.v (lX))]), (6, .box [vX, vX, fX 500000 1]), (7, .box [vX, vX, fX 500001 1]), (500000, .row true .froz iX), (500001, .row true .froz iX)]⟩ [4, 5, 6, 17000, 7, 500000, 500001, 500010, 500011] [(true, 6, 2, 500000, .froz, []), (true, 7, 2, 500001, .froz, [])]
 (.seq
 (.seq
 (.reg false [
 oX 17 (.mv 8),
 oX 18 (.fieldA 0 4),
 oX 19 (.load false 1 18),
 oX 20 (.bin .lss 17 19)])
 (.cond 20
 .skip
 (.exit 0)))
 (.seq
 (.join ⟨[(8, sX), (0, sX), (4, .one (rX 4)), (5, .one (rX 5)), (6, .one (rX 6)), (7, .one (rX 7))], [(4, .box [vX, vX, .c (.v (lX))]), (5, .box [vX, vX, .c (.v (lX))]), (6, .box [vX, vX, fX 500010 1]), (7, .box [vX, vX, fX 500011 1]), (500010, .row true .froz iX), (500011, .row true .froz iX)]⟩ [4, 5, 6, 7, 500002, 500003, 500010, 500011] [(true, 6, 2, 500010, .froz, []), (true, 7, 2, 500011, .froz, [])]
 (.block 1
 (.seq
 (.reg false [
 oX 9 (.mv (kX 0))])
 (.block 2
 (.loop 0 ⟨[(0, sX), (4, .one (rX 4)), (5, .one (rX 5)), (6, .one (rX 6)), (7, .one (rX 7)), (8, sX), (9, sX)], [(4, .box [vX, vX, .c (.v (lX))]), (5, .box [vX, vX, .c (.v (lX))]), (6, .box [vX, vX, fX 500002 1]), (7, .box [vX, vX, fX 500003 1]), (500002, .row true .froz iX), (500003, .row true .froz iX)]⟩ [4, 5, 6, 7, 500000, 500001, 500002, 500003, 500008, 500009] [(true, 6, 2, 500002, .froz, []), (true, 7, 2, 500003, .froz, [])]
 (.seq
 (.seq
 (.reg false [
 oX 23 (.mv 9),
 oX 24 (.fieldA 1 5),
 oX 25 (.load false 1 24),
 oX 26 (.bin .lss 23 25)])
 (.cond 26
 .skip
 (.exit 2)))
 (.seq
 (.join ⟨[(9, sX), (0, sX), (4, .one (rX 4)), (5, .one (rX 5)), (6, .one (rX 6)), (7, .one (rX 7)), (8, sX)], [(4, .box [vX, vX, .c (.v (lX))]), (5, .box [vX, vX, .c (.v (lX))]), (6, .box [vX, vX, fX 500008 1]), (7, .box [vX, vX, fX 500009 1]), (500008, .row true .froz iX), (500009, .row true .froz iX)]⟩ [4, 5, 6, 7, 500006, 500007, 500008, 500009] [(true, 6, 2, 500008, .froz, []), (true, 7, 2, 500009, .froz, [])]
 (.block 3
 (.seq
 (.reg false [
 oX 10 (.mv (kX 0))])
 (.seq
 (.seq
 (.reg false [
 oX 11 (.mv (kX 0))])
 (.join ⟨[(10, sX), (9, sX), (0, sX), (4, .one (rX 4)), (5, .one (rX 5)), (6, .one (rX 6)), (7, .one (rX 7)), (8, sX)], [(4, .box [vX, vX, .c (.v (lX))]), (5, .box [vX, vX, .c (.v (lX))]), (6, .box [vX, vX, fX 500006 1]), (7, .box [vX, vX, fX 500007 1]), (500006, .row true .froz iX), (500007, .row true .froz iX)]⟩ [4, 5, 6, 7, 500004, 500005, 500006, 500007] [(true, 6, 2, 500006, .froz, []), (true, 7, 2, 500007, .froz, [])]
 (.block 4
 (.loop 0 ⟨[(0, sX), (4, .one (rX 4)), (5, .one (rX 5)), (6, .one (rX 6)), (7, .one (rX 7)), (8, sX), (9, sX), (10, sX), (11, sX)], [(4, .box [vX, vX, .c (.v (lX))]), (5, .box [vX, vX, .c (.v (lX))]), (6, .box [vX, vX, fX 500004 1]), (7, .box [vX, vX, fX 500005 1]), (500004, .row true .froz iX), (500005, .row true .froz iX)]⟩ [4, 5, 6, 7, 500002, 500003, 500004, 500005] [(true, 6, 2, 500004, .froz, []), (true, 7, 2, 500005, .froz, [])]
 (.seq
 (.seq
 (.reg false [
 oX 29 (.mv 11),
 oX 30 (.fieldA 1 4),
 oX 31 (.load false 1 30),
 oX 32 (.bin .lss 29 31)])
 (.cond 32
 .skip
 (.exit 4)))
 (.seq
 (.block 5
 (.reg true [
 oX 35 (.mv 10),
 oX 36 (.load true 3 4),
 oX 37 (.mv 8),
 oX 38 (.mv 11),
 oX 39 (.call .froz 104 [36, 37, 38]),
 oX 40 (.load true 3 5),
 oX 41 (.mv 11),
 oX 42 (.mv 9),
 oX 43 (.call .froz 104 [40, 41, 42]),
 oX 44 (.bin .mul 39 43),
 oX 45 (.bin .add 35 44),
 oX 46 (.mv 0),
 oX 47 (.bin .rem 45 46),
 oX 10 (.mv 47)]))
 (.reg false [
 oX 33 (.mv 11),
 oX 34 (.bin .add 33 (kX 1)),
 oX 11 (.mv 34)])))))))
 (.reg false [
 oX 48 (.load true 3 7),
 oX 49 (.mv 8),
 oX 50 (.mv 9),
 oX 51 (.mv 10),
 oX 52 (.callm .froz 103 [48, 49, 50, 51])])))))
 (.reg false [
 oX 27 (.mv 9),
 oX 28 (.bin .add 27 (kX 1)),
 oX 9 (.mv 28)]))))))))
 (.reg false [
 oX 21 (.mv 8),
 oX 22 (.bin .add 21 (kX 1)),
 oX 8 (.mv 22)])))))))
 (.seq
 (.reg false [
 oX 53 (.load true 3 7),
 uX (.store 3 6 53)])
 .ret))))
def ms_impl_rawMulMatrix : List MRes := [.cell 6 3 true]
theorem n_impl_rawMulMatrix (NN : Nat) (x : DLL (Sig.tys ag_impl_rawMulMatrix)) : runS NN [fn_impl_emptyMatrix, fn_impl_Matrix_at, fn_impl_Matrix_set] sc_impl_rawMulMatrix ms_impl_rawMulMatrix ag_impl_rawMulMatrix rs_impl_rawMulMatrix x = G_impl_rawMulMatrix NN x := by kernel_rfl
theorem k_impl_rawMulMatrix : chkS pX 88 sc_impl_rawMulMatrix.er ms_impl_rawMulMatrix 3 = true := by decide +kernel
theorem p_impl_rawMulMatrix : PureSpec pX 88 fn_impl_rawMulMatrix.M ∧ chkFun pX 88 = true :=
  pure_of_runS (T := [fn_impl_emptyMatrix, fn_impl_Matrix_at, fn_impl_Matrix_set]) (sc := sc_impl_rawMulMatrix) (ms := ms_impl_rawMulMatrix) (args := ag_impl_rawMulMatrix) (res := rs_impl_rawMulMatrix) (SOk.cons p_impl_emptyMatrix <| SOk.cons p_impl_Matrix_at <| SOk.consM p_impl_Matrix_set <| SOk.nil) follows_ok k_impl_rawMulMatrix F_impl_rawMulMatrix fun x y h => (n_impl_rawMulMatrix FUEL x).trans (f_impl_rawMulMatrix x y h)

def fn_impl_siteOk : SFn := ⟨92, ag_impl_siteOk, mu_impl_siteOk, rs_impl_siteOk, F_impl_siteOk⟩
def sc_impl_siteOk : SCode :=
 (.seq
 (.reg false [
 oX 3 (.box 4 1),
 oX 4 (.mv (.k (.one (.v (.bool) (false)))))])
 (.seq
 (.seq
 (.reg false [
 oX 5 (.fieldA 0 3),
 oX 6 (.load false 1 5),
 oX 7 (.bin .lss 6 (kX 0)),
 oX 8 (.mv 7),
 ⟨(some 9), .fieldA 0 3, (some (8, false))⟩,
 ⟨(some 10), .load false 1 9, (some (8, false))⟩,
 ⟨(some 11), .bin .gtr 10 (kX 32), (some (8, false))⟩,
 oX 12 (.pick 8 (.k (.one (.v (.bool) (true)))) 11),
 oX 13 (.mv 12),
 ⟨(some 14), .fieldA 2 3, (some (13, false))⟩,
 ⟨(some 15), .load false 1 14, (some (13, false))⟩,
 ⟨(some 16), .bin .lss 15 (kX 0), (some (13, false))⟩,
 oX 17 (.pick 13 (.k (.one (.v (.bool) (true)))) 16),
 oX 18 (.mv 17),
 ⟨(some 19), .fieldA 2 3, (some (18, false))⟩,
 ⟨(some 20), .load false 1 19, (some (18, false))⟩,
 ⟨(some 21), .bin .gtr 20 (kX 32), (some (18, false))⟩,
 oX 22 (.pick 18 (.k (.one (.v (.bool) (true)))) 21),
 oX 23 (.mv 22),
 ⟨(some 24), .fieldA 1 3, (some (23, false))⟩,
 ⟨(some 25), .load false 1 24, (some (23, false))⟩,
 ⟨(some 26), .bin .lss 25 (kX 1), (some (23, false))⟩,
 oX 27 (.pick 23 (.k (.one (.v (.bool) (true)))) 26),
 oX 28 (.mv 27),
 ⟨(some 29), .fieldA 1 3, (some (28, false))⟩,
 ⟨(some 30), .load false 1 29, (some (28, false))⟩,
 ⟨(some 31), .bin .gtr 30 (kX 8), (some (28, false))⟩,
 oX 32 (.pick 28 (.k (.one (.v (.bool) (true)))) 31)])
 (.cond 32
 (.seq
 (.reg false [
 oX 4 (.mv (.k (.one (.v (.bool) (false)))))])
 .ret)
 .skip))
 (.seq
 (.reg false [
 oX 33 (.fieldA 3 3),
 oX 34 (.load false 1 33),
 oX 35 (.len 34),
 oX 36 (.fieldA 0 3),
 oX 37 (.load false 1 36),
 oX 38 (.fieldA 1 3),
 oX 39 (.load false 1 38),
 oX 40 (.bin .mul 37 39),
 oX 41 (.fieldA 2 3),
 oX 42 (.load false 1 41),
 oX 43 (.bin .mul 40 42),
 oX 44 (.bin .eql 35 43),
 oX 45 (.mv 44),
 ⟨(some 46), .mv 0, (some (45, true))⟩,
 ⟨(some 47), .fieldA 3 3, (some (45, true))⟩,
 ⟨(some 48), .load false 1 47, (some (45, true))⟩,
 ⟨(some 49), .call .froz 58 [46, 48], (some (45, true))⟩,
 oX 50 (.pick 45 49 (.k (.one (.v (.bool) (false))))),
 oX 4 (.mv 50)])
 .ret)))
def ms_impl_siteOk : List MRes := [.tmp 4]
theorem n_impl_siteOk (NN : Nat) (x : DLL (Sig.tys ag_impl_siteOk)) : runS NN [fn_impl_inMod] sc_impl_siteOk ms_impl_siteOk ag_impl_siteOk rs_impl_siteOk x = G_impl_siteOk NN x := by kernel_rfl
theorem k_impl_siteOk : chkS pX 92 sc_impl_siteOk.er ms_impl_siteOk 2 = true := by decide +kernel
theorem p_impl_siteOk : PureSpec pX 92 fn_impl_siteOk.M ∧ chkFun pX 92 = true :=
  pure_of_runS (T := [fn_impl_inMod]) (sc := sc_impl_siteOk) (ms := ms_impl_siteOk) (args := ag_impl_siteOk) (res := rs_impl_siteOk) (SOk.cons p_impl_inMod <| SOk.nil) follows_ok k_impl_siteOk F_impl_siteOk fun x y h => (n_impl_siteOk FUEL x).trans (f_impl_siteOk x y h)

def fn_impl_ChainOk : SFn := ⟨48, ag_impl_ChainOk, mu_impl_ChainOk, rs_impl_ChainOk, F_impl_ChainOk⟩
def sc_impl_ChainOk : SCode :=
 (.seq
 (.reg false [
 oX 1 (.box 2 0),
 oX 2 (.mv (.k (.one (.v (.bool) (false)))))])
 (.seq
 (.seq
 (.reg false [
 oX 7 (.fieldA 0 1),
 oX 8 (.load false 1 7),
 oX 9 (.call .froz 57 [8]),
 oX 10 (.un .not 9),
 oX 11 (.mv 10),
 ⟨(some 12), .fieldA 1 1, (some (11, false))⟩,
 ⟨(some 13), .load false 1 12, (some (11, false))⟩,
 ⟨(some 14), .len 13, (some (11, false))⟩,
 ⟨(some 15), .bin .lss 14 (kX 1), (some (11, false))⟩,
 oX 16 (.pick 11 (.k (.one (.v (.bool) (true)))) 15),
 oX 17 (.mv 16),
 ⟨(some 18), .fieldA 1 1, (some (17, false))⟩,
 ⟨(some 19), .load false 1 18, (some (17, false))⟩,
 ⟨(some 20), .len 19, (some (17, false))⟩,
 ⟨(some 21), .bin .gtr 20 (kX 8), (some (17, false))⟩,
 oX 22 (.pick 17 (.k (.one (.v (.bool) (true)))) 21)])
 (.cond 22
 (.seq
 (.reg false [
 oX 2 (.mv (.k (.one (.v (.bool) (false)))))])
 .ret)
 .skip))
 (.seq
 (.reg false [
 oX 3 (.mv (kX 1)),
 oX 4 (.mv (kX 1))])
 (.seq
 (.seq
 (.reg false [
 oX 23 (.fieldA 1 1),
 oX 24 (.load false 1 23),
 oX 25 (.len 24),
 oX 26 (.mv (kX 0))])
 (.join ⟨[(3, sX), (4, sX)], []⟩ [1] []
 (.block 0
 (.loop 0 ⟨[(1, .one (rX 1)), (3, sX), (4, sX), (24, .one (.c (.v (.list gX)))), (25, sX), (26, sX)], [(1, .box [vX, .c (.v (.list gX))])]⟩ [1, 6] []
 (.seq
 (.reg false [
 oX 27 (.bin .lss 26 25)])
 (.seq
 (.cond 27
 .skip
 (.exit 0))
 (.seq
 (.block 1
 (.seq
 (.reg false [
 oX 28 (.idxA 4 24 26),
 oX 29 (.load true 4 28),
 oX 6 (.alloc [zX, zX, zX, .nil iX]),
 uX (.store 4 6 29)])
 (.seq
 (.seq
 (.reg false [
 oX 30 (.fieldA 0 1),
 oX 31 (.load false 1 30),
 oX 32 (.load true 4 6),
 oX 33 (.call .froz 92 [31, 32]),
 oX 34 (.un .not 33),
 oX 35 (.mv 34),
 ⟨(some 36), .fieldA 0 6, (some (35, false))⟩,
 ⟨(some 37), .load false 1 36, (some (35, false))⟩,
 ⟨(some 38), .mv 3, (some (35, false))⟩,
 ⟨(some 39), .bin .neq 37 38, (some (35, false))⟩,
 oX 40 (.pick 35 (.k (.one (.v (.bool) (true)))) 39)])
 (.cond 40
 (.seq
 (.reg false [
 oX 2 (.mv (.k (.one (.v (.bool) (false)))))])
 .ret)
 .skip))
 (.seq
 (.reg false [
 oX 41 (.fieldA 2 6),
 oX 42 (.load false 1 41),
 oX 3 (.mv 42)])
 (.reg false [
 oX 43 (.mv 4),
 oX 44 (.fieldA 1 6),
 oX 45 (.load false 1 44),
 oX 46 (.bin .mul 43 45),
 oX 4 (.mv 46)])))))
 (.reg false [
 oX 47 (.bin .add 26 (kX 1)),
 oX 26 (.mv 47)]))))))))
 (.seq
 (.reg false [
 oX 48 (.mv 3),
 oX 49 (.bin .eql 48 (kX 1)),
 oX 50 (.mv 49),
 ⟨(some 51), .mv 4, (some (50, true))⟩,
 ⟨(some 52), .bin .leq 51 (kX 4096), (some (50, true))⟩,
 oX 53 (.pick 50 52 (.k (.one (.v (.bool) (false))))),
 oX 2 (.mv 53)])
 .ret)))))
def ms_impl_ChainOk : List MRes := [.tmp 2]
theorem n_impl_ChainOk (NN : Nat) (x : DLL (Sig.tys ag_impl_ChainOk)) : runS NN [fn_impl_IsPrime, fn_impl_siteOk] sc_impl_ChainOk ms_impl_ChainOk ag_impl_ChainOk rs_impl_ChainOk x = G_impl_ChainOk NN x := by kernel_rfl
theorem k_impl_ChainOk : chkS pX 48 sc_impl_ChainOk.er ms_impl_ChainOk 1 = true := by decide +kernel
theorem p_impl_ChainOk : PureSpec pX 48 fn_impl_ChainOk.M ∧ chkFun pX 48 = true :=
  pure_of_runS (T := [fn_impl_IsPrime, fn_impl_siteOk]) (sc := sc_impl_ChainOk) (ms := ms_impl_ChainOk) (args := ag_impl_ChainOk) (res := rs_impl_ChainOk) (SOk.cons p_impl_IsPrime <| SOk.cons p_impl_siteOk <| SOk.nil) follows_ok k_impl_ChainOk F_impl_ChainOk fun x y h => (n_impl_ChainOk FUEL x).trans (f_impl_ChainOk x y h)

def fn_impl_AutomatonChain : SFn := ⟨44, ag_impl_AutomatonChain, mu_impl_AutomatonChain, rs_impl_AutomatonChain, F_impl_AutomatonChain⟩
def sc_impl_AutomatonChain : SCode :=
 (.seq
 (.reg false [
 oX 2 (.box 5 0),
 oX 4 (.alloc [zX, .nil gX]),
 oX 5 (.mv (.k (.one (.v (.bool) (false)))))])
 (.seq
 (.seq
 (.reg false [
 oX 15 (.load true 5 2),
 oX 16 (.call .froz 18 [15]),
 oX 17 (.un .not 16),
 oX 18 (.mv 17),
 ⟨(some 19), .mv 1, (some (18, false))⟩,
 ⟨(some 20), .bin .lss 19 (kX 1), (some (18, false))⟩,
 oX 21 (.pick 18 (.k (.one (.v (.bool) (true)))) 20),
 oX 22 (.mv 21),
 ⟨(some 23), .mv 1, (some (22, false))⟩,
 ⟨(some 24), .bin .gtr 23 (kX 8), (some (22, false))⟩,
 oX 25 (.pick 22 (.k (.one (.v (.bool) (true)))) 24)])
 (.cond 25
 (.seq
 (.reg false [
 oX 26 (.build [zX, .nil gX] []),
 uX (.store 2 4 26),
 oX 5 (.mv (.k (.one (.v (.bool) (false)))))])
 .ret)
 .skip))
 (.seq
 (.reg false [
 oX 27 (.fieldA 0 2),
 oX 28 (.load false 1 27),
 oX 29 (.build [zX, .nil gX] [(0, 1, 28)]),
 oX 6 (.alloc [zX, .nil gX]),
 uX (.store 2 6 29)])
 (.seq
 (.seq
 (.reg false [
 oX 7 (.mv (kX 0))])
 (.join ⟨[(6, .one (rX 6)), (4, .one (rX 4))], [(4, .box [vX, fX 500035 4]), (6, .box [vX, fX 500036 4]), (500035, .row true .froz gX), (500036, .row true .froz gX)]⟩ [2, 4, 6, 500000, 500001, 500035, 500036] [(true, 4, 1, 500035, .froz, []), (true, 6, 1, 500036, .froz, [])]
 (.block 0
 (.loop 0 ⟨[(1, sX), (2, .one (rX 2)), (4, .one (rX 4)), (6, .one (rX 6)), (7, sX)], [(2, .box [vX, vX, .c (.v (lX)), .c (.v (.list mX)), .c (.v (lX))]), (4, .box [vX, fX 500000 4]), (6, .box [vX, fX 500001 4]), (500000, .row true .froz gX), (500001, .row true .froz gX)]⟩ [2, 4, 6, 500000, 500001, 500033, 500034] [(true, 4, 1, 500000, .froz, []), (true, 6, 1, 500001, .froz, [])]
 (.seq
 (.seq
 (.reg false [
 oX 30 (.mv 7),
 oX 31 (.mv 1),
 oX 32 (.bin .lss 30 31)])
 (.cond 32
 .skip
 (.exit 0)))
 (.seq
 (.join ⟨[(7, sX), (1, sX), (2, .one (rX 2)), (4, .one (rX 4)), (6, .one (rX 6))], [(2, .box [vX, vX, .c (.v (lX)), .c (.v (.list mX)), .c (.v (lX))]), (4, .box [vX, fX 500033 4]), (6, .box [vX, fX 500034 4]), (500033, .row true .froz gX), (500034, .row true .froz gX)]⟩ [2, 4, 6, 8, 114, 500030, 500033, 500034] [(true, 4, 1, 500033, .froz, []), (true, 6, 1, 500034, .froz, [])]
 (.block 1
 (.seq
 (.reg false [
 oX 35 (.fieldA 1 2),
 oX 36 (.load false 1 35),
 oX 37 (.fieldA 3 2),
 oX 38 (.load false 1 37),
 oX 39 (.len 38),
 oX 40 (.fieldA 1 2),
 oX 41 (.load false 1 40),
 oX 42 (.build [zX, zX, zX, .nil iX] [(0, 1, 36), (1, 1, 39), (2, 1, 41)]),
 oX 8 (.alloc [zX, zX, zX, .nil iX]),
 uX (.store 4 8 42)])
 (.seq
 (.reg false [
 oX 9 (.mv (.k (.one (.nil mX))))])
 (.seq
 (.seq
 (.reg false [
 oX 43 (.fieldA 3 2),
 oX 44 (.load false 1 43),
 oX 45 (.len 44),
 oX 46 (.mv (kX 0))])
 (.join ⟨[(6, .one (rX 6)), (4, .one (rX 4)), (2, .one (rX 2)), (1, sX), (7, sX), (8, .one (rX 8)), (9, .one (fX 500017 3))], [(2, .box [vX, vX, .c (.v (lX)), .c (.v (.list mX)), .c (.v (lX))]), (4, .box [vX, fX 500014 4]), (6, .box [vX, fX 500015 4]), (8, .box [vX, vX, vX, fX 500016 1]), (500014, .row true .froz gX), (500015, .row true .froz gX), (500016, .row true .froz iX), (500017, .row true .bor mX)]⟩ [2, 4, 6, 8, 500002, 500003, 500004, 500005, 500014, 500015, 500016, 500017] [(true, 4, 1, 500014, .froz, []), (true, 6, 1, 500015, .froz, []), (true, 8, 3, 500016, .froz, []), (false, 9, 0, 500017, .bor, [])]
 (.block 2
 (.loop 0 ⟨[(1, sX), (2, .one (rX 2)), (4, .one (rX 4)), (6, .one (rX 6)), (7, sX), (8, .one (rX 8)), (9, .one (fX 500005 3)), (44, .one (.c (.v (.list mX)))), (45, sX), (46, sX)], [(2, .box [vX, vX, .c (.v (lX)), .c (.v (.list mX)), .c (.v (lX))]), (4, .box [vX, fX 500002 4]), (6, .box [vX, fX 500003 4]), (8, .box [vX, vX, vX, fX 500004 1]), (500002, .row true .froz gX), (500003, .row true .froz gX), (500004, .row true .froz iX), (500005, .row true .bor mX)]⟩ [2, 4, 6, 8, 11, 79, 500000, 500001, 500002, 500003, 500004, 500005, 500010, 500011, 500012] [(true, 4, 1, 500002, .froz, []), (true, 6, 1, 500003, .froz, []), (true, 8, 3, 500004, .froz, []), (false, 9, 0, 500005, .bor, [])]
 (.seq
 (.reg false [
 oX 47 (.bin .lss 46 45)])
 (.seq
 (.cond 47
 .skip
 (.exit 2))
 (.seq
 (.block 3
 (.seq
 (.reg false [
 oX 48 (.idxA 3 44 46),
 oX 49 (.load true 3 48),
 oX 11 (.alloc [zX, zX, .nil iX]),
 uX (.store 3 11 49)])
 (.seq
 (.seq
 (.reg false [
 oX 50 (.mv 7),
 oX 51 (.bin .eql 50 (kX 0))])
 (.join ⟨[(9, .one (fX 500009 3)), (11, .one (rX 11)), (46, sX), (1, sX), (2, .one (rX 2)), (4, .one (rX 4)), (6, .one (rX 6)), (7, sX), (8, .one (rX 8)), (44, .one (.c (.v (.list mX)))), (45, sX)], [(2, .box [vX, vX, .c (.v (lX)), .c (.v (.list mX)), .c (.v (lX))]), (4, .box [vX, fX 500006 4]), (6, .box [vX, fX 500007 4]), (8, .box [vX, vX, vX, fX 500008 1]), (11, .box [vX, vX, .c (.v (lX))]), (500006, .row true .froz gX), (500007, .row true .froz gX), (500008, .row true .froz iX), (500009, .row true .bor mX)]⟩ [2, 4, 6, 8, 11, 500002, 500003, 500004, 500005, 500006, 500007, 500008, 500009] [(true, 4, 1, 500006, .froz, []), (true, 6, 1, 500007, .froz, []), (true, 8, 3, 500008, .froz, []), (false, 9, 0, 500009, .bor, [])]
 (.cond 51
 (.reg true [
 oX 52 (.fieldA 0 2),
 oX 53 (.load false 1 52),
 oX 54 (.fieldA 2 2),
 oX 55 (.load false 1 54),
 oX 56 (.rowm 68 false 55),
 oX 57 (.load true 3 11),
 oX 58 (.calld 88 [53, 56, 57]),
 uX (.store 3 11 58)])
 .skip)))
 (.seq
 (.seq
 (.reg false [
 oX 59 (.mv 7),
 oX 60 (.mv 1),
 oX 61 (.bin .sub 60 (kX 1)),
 oX 62 (.bin .eql 59 61)])
 (.join ⟨[(9, .one (fX 500013 3)), (11, .one (rX 11)), (46, sX), (1, sX), (2, .one (rX 2)), (4, .one (rX 4)), (6, .one (rX 6)), (7, sX), (8, .one (rX 8)), (44, .one (.c (.v (.list mX)))), (45, sX)], [(2, .box [vX, vX, .c (.v (lX)), .c (.v (.list mX)), .c (.v (lX))]), (4, .box [vX, fX 500010 4]), (6, .box [vX, fX 500011 4]), (8, .box [vX, vX, vX, fX 500012 1]), (11, .box [vX, vX, .c (.v (lX))]), (500010, .row true .froz gX), (500011, .row true .froz gX), (500012, .row true .froz iX), (500013, .row true .bor mX)]⟩ [2, 4, 6, 8, 11, 500006, 500007, 500008, 500009, 500010, 500011, 500012, 500013] [(true, 4, 1, 500010, .froz, []), (true, 6, 1, 500011, .froz, []), (true, 8, 3, 500012, .froz, []), (false, 9, 0, 500013, .bor, [])]
 (.cond 62
 (.reg true [
 oX 63 (.fieldA 0 2),
 oX 64 (.load false 1 63),
 oX 65 (.load true 3 11),
 oX 66 (.fieldA 4 2),
 oX 67 (.load false 1 66),
 oX 68 (.rowm 69 true 67),
 oX 69 (.calld 88 [64, 65, 68]),
 uX (.store 3 11 69)])
 .skip)))
 (.seq
 (.regD [(2, 5), (3, 5)] [
 oX 70 (.fieldA 0 11),
 oX 71 (.load false 1 70),
 oX 72 (.fieldA 1 11),
 oX 73 (.load false 1 72),
 oX 74 (.fieldA 0 8),
 uX (.store 1 74 71),
 oX 75 (.fieldA 2 8),
 uX (.store 1 75 73)])
 (.reg false [
 oX 76 (.mv 9),
 oX 77 (.load true 3 11),
 oX 78 (.bslice mX [77]),
 oX 79 (.append false mX 40 76 78),
 oX 9 (.mv 79)]))))))
 (.reg false [
 oX 80 (.bin .add 46 (kX 1)),
 oX 46 (.mv 80)]))))))))
 (.seq
 (.seq
 (.reg false [
 oX 12 (.mv (kX 0))])
 (.join ⟨[(8, .one (rX 8)), (7, sX), (1, sX), (2, .one (rX 2)), (4, .one (rX 4)), (6, .one (rX 6))], [(2, .box [vX, vX, .c (.v (lX)), .c (.v (.list mX)), .c (.v (lX))]), (4, .box [vX, fX 500030 4]), (6, .box [vX, fX 500031 4]), (8, .box [vX, vX, vX, fX 500032 1]), (500030, .row true .froz gX), (500031, .row true .froz gX), (500032, .row true .froz iX)]⟩ [2, 4, 6, 8, 500018, 500019, 500020, 500021, 500030, 500031, 500032] [(true, 4, 1, 500030, .froz, []), (true, 6, 1, 500031, .froz, []), (true, 8, 3, 500032, .froz, [])]
 (.block 4
 (.loop 0 ⟨[(1, sX), (2, .one (rX 2)), (4, .one (rX 4)), (6, .one (rX 6)), (7, sX), (8, .one (rX 8)), (9, .one (fX 500021 3)), (12, sX)], [(2, .box [vX, vX, .c (.v (lX)), .c (.v (.list mX)), .c (.v (lX))]), (4, .box [vX, fX 500018 4]), (6, .box [vX, fX 500019 4]), (8, .box [vX, vX, vX, fX 500020 1]), (500018, .row true .froz gX), (500019, .row true .froz gX), (500020, .row true .froz iX), (500021, .row true .bor mX)]⟩ [2, 4, 6, 8, 500014, 500015, 500016, 500017, 500018, 500019, 500020, 500021, 500026, 500027, 500028, 500029] [(true, 4, 1, 500018, .froz, []), (true, 6, 1, 500019, .froz, []), (true, 8, 3, 500020, .froz, []), (false, 9, 0, 500021, .bor, [])]
 (.seq
 (.seq
 (.reg false [
 oX 81 (.mv 12),
 oX 82 (.fieldA 0 8),
 oX 83 (.load false 1 82),
 oX 84 (.bin .lss 81 83)])
 (.cond 84
 .skip
 (.exit 4)))
 (.seq
 (.join ⟨[(12, sX), (1, sX), (2, .one (rX 2)), (4, .one (rX 4)), (6, .one (rX 6)), (7, sX), (8, .one (rX 8)), (9, .one (fX 500029 3))], [(2, .box [vX, vX, .c (.v (lX)), .c (.v (.list mX)), .c (.v (lX))]), (4, .box [vX, fX 500026 4]), (6, .box [vX, fX 500027 4]), (8, .box [vX, vX, vX, fX 500028 1]), (500026, .row true .froz gX), (500027, .row true .froz gX), (500028, .row true .froz iX), (500029, .row true .bor mX)]⟩ [2, 4, 6, 8, 500022, 500023, 500024, 500025, 500026, 500027, 500028, 500029] [(true, 4, 1, 500026, .froz, []), (true, 6, 1, 500027, .froz, []), (true, 8, 3, 500028, .froz, []), (false, 9, 0, 500029, .bor, [])]
 (.block 5
 (.seq
 (.reg false [
 oX 87 (.mv 9),
 oX 88 (.len 87),
 oX 89 (.mv (kX 0))])
 (.block 6
 (.loop 0 ⟨[(1, sX), (2, .one (rX 2)), (4, .one (rX 4)), (6, .one (rX 6)), (7, sX), (8, .one (rX 8)), (9, .one (fX 500025 3)), (12, sX), (87, .one (fX 500025 3)), (88, sX), (89, sX)], [(2, .box [vX, vX, .c (.v (lX)), .c (.v (.list mX)), .c (.v (lX))]), (4, .box [vX, fX 500022 4]), (6, .box [vX, fX 500023 4]), (8, .box [vX, vX, vX, fX 500024 1]), (500022, .row true .froz gX), (500023, .row true .froz gX), (500024, .row true .froz iX), (500025, .row true .bor mX)]⟩ [2, 4, 6, 8, 14, 107, 500018, 500019, 500020, 500021, 500022, 500023, 500024, 500025] [(true, 4, 1, 500022, .froz, []), (true, 6, 1, 500023, .froz, []), (true, 8, 3, 500024, .froz, []), (false, 9, 0, 500025, .bor, [])]
 (.seq
 (.reg false [
 oX 90 (.bin .lss 89 88)])
 (.seq
 (.cond 90
 .skip
 (.exit 6))
 (.seq
 (.block 7
 (.seq
 (.reg false [
 oX 91 (.idxA 3 87 89),
 oX 92 (.load true 3 91),
 oX 14 (.alloc [zX, zX, .nil iX]),
 uX (.store 3 14 92)])
 (.reg true [
 oX 93 (.fieldA 3 8),
 oX 94 (.load false 1 93),
 oX 95 (.fieldA 2 14),
 oX 96 (.load false 1 95),
 oX 97 (.mv 12),
 oX 98 (.fieldA 1 14),
 oX 99 (.load false 1 98),
 oX 100 (.bin .mul 97 99),
 oX 101 (.mv 12),
 oX 102 (.bin .add 101 (kX 1)),
 oX 103 (.fieldA 1 14),
 oX 104 (.load false 1 103),
 oX 105 (.bin .mul 102 104),
 oX 106 (.slice 1 96 (some 100) (some 105)),
 oX 107 (.append true iX 8 94 106),
 oX 108 (.fieldA 3 8),
 uX (.store 1 108 107)])))
 (.reg false [
 oX 109 (.bin .add 89 (kX 1)),
 oX 89 (.mv 109)])))))))))
 (.reg false [
 oX 85 (.mv 12),
 oX 86 (.bin .add 85 (kX 1)),
 oX 12 (.mv 86)])))))))
 (.reg false [
 oX 110 (.fieldA 1 6),
 oX 111 (.load false 1 110),
 oX 112 (.load true 4 8),
 oX 113 (.bslice gX [112]),
 oX 114 (.append false gX 48 111 113),
 oX 115 (.fieldA 1 6),
 uX (.store 1 115 114)])))))))
 (.reg false [
 oX 33 (.mv 7),
 oX 34 (.bin .add 33 (kX 1)),
 oX 7 (.mv 34)])))))))
 (.seq
 (.seq
 (.reg false [
 oX 116 (.load true 2 6),
 oX 117 (.call .froz 48 [116]),
 oX 118 (.un .not 117)])
 (.cond 118
 (.seq
 (.reg false [
 oX 119 (.build [zX, .nil gX] []),
 uX (.store 2 4 119),
 oX 5 (.mv (.k (.one (.v (.bool) (false)))))])
 .ret)
 .skip))
 (.seq
 (.reg false [
 oX 120 (.load true 2 6),
 uX (.store 2 4 120),
 oX 5 (.mv (.k (.one (.v (.bool) (true)))))])
 .ret))))))
def ms_impl_AutomatonChain : List MRes := [.cell 4 2 true, .tmp 5]
theorem n_impl_AutomatonChain (NN : Nat) (x : DLL (Sig.tys ag_impl_AutomatonChain)) : runS NN [fn_impl_AutomatonOk, fn_impl_rawMulMatrix, fn_impl_ChainOk] sc_impl_AutomatonChain ms_impl_AutomatonChain ag_impl_AutomatonChain rs_impl_AutomatonChain x = G_impl_AutomatonChain NN x := by kernel_rfl
theorem k_impl_AutomatonChain : chkS pX 44 sc_impl_AutomatonChain.er ms_impl_AutomatonChain 2 = true := by decide +kernel
theorem p_impl_AutomatonChain : PureSpec pX 44 fn_impl_AutomatonChain.M ∧ chkFun pX 44 = true :=
  pure_of_runS (T := [fn_impl_AutomatonOk, fn_impl_rawMulMatrix, fn_impl_ChainOk]) (sc := sc_impl_AutomatonChain) (ms := ms_impl_AutomatonChain) (args := ag_impl_AutomatonChain) (res := rs_impl_AutomatonChain) (SOk.cons p_impl_AutomatonOk <| SOk.cons p_impl_rawMulMatrix <| SOk.cons p_impl_ChainOk <| SOk.nil) follows_ok k_impl_AutomatonChain F_impl_AutomatonChain fun x y h => (n_impl_AutomatonChain FUEL x).trans (f_impl_AutomatonChain x y h)

def fn_laws_eqIntS : SFn := ⟨27, ag_laws_eqIntS, mu_laws_eqIntS, rs_laws_eqIntS, F_laws_eqIntS⟩
def sc_laws_eqIntS : SCode :=
 (.seq
 (.reg false [
 oX 4 (.mv (.k (.one (.v (.bool) (false)))))])
 (.seq
 (.seq
 (.reg false [
 oX 6 (.mv 0),
 oX 7 (.len 6),
 oX 8 (.mv 1),
 oX 9 (.len 8),
 oX 10 (.bin .neq 7 9)])
 (.cond 10
 (.seq
 (.reg false [
 oX 4 (.mv (.k (.one (.v (.bool) (false)))))])
 .ret)
 .skip))
 (.seq
 (.seq
 (.reg false [
 oX 5 (.mv (kX 0))])
 (.join ⟨[], []⟩ [] []
 (.block 0
 (.loop 0 ⟨[(0, .one (.c (.v (lX)))), (1, .one (.c (.v (lX)))), (5, sX)], []⟩ [] []
 (.seq
 (.seq
 (.reg false [
 oX 11 (.mv 5),
 oX 12 (.mv 0),
 oX 13 (.len 12),
 oX 14 (.bin .lss 11 13)])
 (.cond 14
 .skip
 (.exit 0)))
 (.seq
 (.block 1
 (.seq
 (.reg true [
 oX 17 (.mv 0),
 oX 18 (.mv 5),
 oX 19 (.idxA 1 17 18),
 oX 20 (.load false 1 19),
 oX 21 (.mv 1),
 oX 22 (.mv 5),
 oX 23 (.idxA 1 21 22),
 oX 24 (.load false 1 23),
 oX 25 (.bin .neq 20 24)])
 (.cond 25
 (.seq
 (.reg false [
 oX 4 (.mv (.k (.one (.v (.bool) (false)))))])
 .ret)
 .skip)))
 (.reg false [
 oX 15 (.mv 5),
 oX 16 (.bin .add 15 (kX 1)),
 oX 5 (.mv 16)])))))))
 (.seq
 (.reg false [
 oX 4 (.mv (.k (.one (.v (.bool) (true)))))])
 .ret))))
def ms_laws_eqIntS : List MRes := [.tmp 4]
theorem n_laws_eqIntS (NN : Nat) (x : DLL (Sig.tys ag_laws_eqIntS)) : runS NN [] sc_laws_eqIntS ms_laws_eqIntS ag_laws_eqIntS rs_laws_eqIntS x = G_laws_eqIntS NN x := by kernel_rfl
theorem k_laws_eqIntS : chkS pX 27 sc_laws_eqIntS.er ms_laws_eqIntS 2 = true := by decide +kernel
theorem p_laws_eqIntS : PureSpec pX 27 fn_laws_eqIntS.M ∧ chkFun pX 27 = true :=
  pure_of_runS (T := []) (sc := sc_laws_eqIntS) (ms := ms_laws_eqIntS) (args := ag_laws_eqIntS) (res := rs_laws_eqIntS) (SOk.nil) follows_ok k_laws_eqIntS F_laws_eqIntS fun x y h => (n_laws_eqIntS FUEL x).trans (f_laws_eqIntS x y h)

def fn_laws_eqSite : SFn := ⟨116, ag_laws_eqSite, mu_laws_eqSite, rs_laws_eqSite, F_laws_eqSite⟩
def sc_laws_eqSite : SCode :=
 (.seq
 (.reg false [
 oX 2 (.box 4 0),
 oX 3 (.box 4 1),
 oX 4 (.mv (.k (.one (.v (.bool) (false)))))])
 (.seq
 (.seq
 (.reg false [
 oX 5 (.fieldA 0 2),
 oX 6 (.load false 1 5),
 oX 7 (.fieldA 0 3),
 oX 8 (.load false 1 7),
 oX 9 (.bin .neq 6 8)])
 (.cond 9
 (.seq
 (.reg false [
 oX 4 (.mv (.k (.one (.v (.bool) (false)))))])
 .ret)
 .skip))
 (.seq
 (.seq
 (.reg false [
 oX 10 (.fieldA 1 2),
 oX 11 (.load false 1 10),
 oX 12 (.fieldA 1 3),
 oX 13 (.load false 1 12),
 oX 14 (.bin .neq 11 13)])
 (.cond 14
 (.seq
 (.reg false [
 oX 4 (.mv (.k (.one (.v (.bool) (false)))))])
 .ret)
 .skip))
 (.seq
 (.seq
 (.reg false [
 oX 15 (.fieldA 2 2),
 oX 16 (.load false 1 15),
 oX 17 (.fieldA 2 3),
 oX 18 (.load false 1 17),
 oX 19 (.bin .neq 16 18)])
 (.cond 19
 (.seq
 (.reg false [
 oX 4 (.mv (.k (.one (.v (.bool) (false)))))])
 .ret)
 .skip))
 (.seq
 (.seq
 (.reg false [
 oX 20 (.fieldA 3 2),
 oX 21 (.load false 1 20),
 oX 22 (.fieldA 3 3),
 oX 23 (.load false 1 22),
 oX 24 (.call .froz 27 [21, 23]),
 oX 25 (.un .not 24)])
 (.cond 25
 (.seq
 (.reg false [
 oX 4 (.mv (.k (.one (.v (.bool) (false)))))])
 .ret)
 .skip))
 (.seq
 (.reg false [
 oX 4 (.mv (.k (.one (.v (.bool) (true)))))])
 .ret))))))
def ms_laws_eqSite : List MRes := [.tmp 4]
theorem n_laws_eqSite (NN : Nat) (x : DLL (Sig.tys ag_laws_eqSite)) : runS NN [fn_laws_eqIntS] sc_laws_eqSite ms_laws_eqSite ag_laws_eqSite rs_laws_eqSite x = G_laws_eqSite NN x := by kernel_rfl
theorem k_laws_eqSite : chkS pX 116 sc_laws_eqSite.er ms_laws_eqSite 2 = true := by decide +kernel
theorem p_laws_eqSite : PureSpec pX 116 fn_laws_eqSite.M ∧ chkFun pX 116 = true :=
  pure_of_runS (T := [fn_laws_eqIntS]) (sc := sc_laws_eqSite) (ms := ms_laws_eqSite) (args := ag_laws_eqSite) (res := rs_laws_eqSite) (SOk.cons p_laws_eqIntS <| SOk.nil) follows_ok k_laws_eqSite F_laws_eqSite fun x y h => (n_laws_eqSite FUEL x).trans (f_laws_eqSite x y h)

def fn_laws_eqSiteS : SFn := ⟨89, ag_laws_eqSiteS, mu_laws_eqSiteS, rs_laws_eqSiteS, F_laws_eqSiteS⟩
def sc_laws_eqSiteS : SCode :=
 (.seq
 (.reg false [
 oX 4 (.mv (.k (.one (.v (.bool) (false)))))])
 (.seq
 (.seq
 (.reg false [
 oX 6 (.mv 0),
 oX 7 (.len 6),
 oX 8 (.mv 1),
 oX 9 (.len 8),
 oX 10 (.bin .neq 7 9)])
 (.cond 10
 (.seq
 (.reg false [
 oX 4 (.mv (.k (.one (.v (.bool) (false)))))])
 .ret)
 .skip))
 (.seq
 (.seq
 (.reg false [
 oX 5 (.mv (kX 0))])
 (.join ⟨[], []⟩ [] []
 (.block 0
 (.loop 0 ⟨[(0, .one (.c (.v (.list gX)))), (1, .one (.c (.v (.list gX)))), (5, sX)], []⟩ [] []
 (.seq
 (.seq
 (.reg false [
 oX 11 (.mv 5),
 oX 12 (.mv 0),
 oX 13 (.len 12),
 oX 14 (.bin .lss 11 13)])
 (.cond 14
 .skip
 (.exit 0)))
 (.seq
 (.block 1
 (.seq
 (.reg true [
 oX 17 (.mv 0),
 oX 18 (.mv 5),
 oX 19 (.idxA 4 17 18),
 oX 20 (.load true 4 19),
 oX 21 (.mv 1),
 oX 22 (.mv 5),
 oX 23 (.idxA 4 21 22),
 oX 24 (.load true 4 23),
 oX 25 (.call .froz 116 [20, 24]),
 oX 26 (.un .not 25)])
 (.cond 26
 (.seq
 (.reg false [
 oX 4 (.mv (.k (.one (.v (.bool) (false)))))])
 .ret)
 .skip)))
 (.reg false [
 oX 15 (.mv 5),
 oX 16 (.bin .add 15 (kX 1)),
 oX 5 (.mv 16)])))))))
 (.seq
 (.reg false [
 oX 4 (.mv (.k (.one (.v (.bool) (true)))))])
 .ret))))
def ms_laws_eqSiteS : List MRes := [.tmp 4]
theorem n_laws_eqSiteS (NN : Nat) (x : DLL (Sig.tys ag_laws_eqSiteS)) : runS NN [fn_laws_eqSite] sc_laws_eqSiteS ms_laws_eqSiteS ag_laws_eqSiteS rs_laws_eqSiteS x = G_laws_eqSiteS NN x := by kernel_rfl
theorem k_laws_eqSiteS : chkS pX 89 sc_laws_eqSiteS.er ms_laws_eqSiteS 2 = true := by decide +kernel
theorem p_laws_eqSiteS : PureSpec pX 89 fn_laws_eqSiteS.M ∧ chkFun pX 89 = true :=
  pure_of_runS (T := [fn_laws_eqSite]) (sc := sc_laws_eqSiteS) (ms := ms_laws_eqSiteS) (args := ag_laws_eqSiteS) (res := rs_laws_eqSiteS) (SOk.cons p_laws_eqSite <| SOk.nil) follows_ok k_laws_eqSiteS F_laws_eqSiteS fun x y h => (n_laws_eqSiteS FUEL x).trans (f_laws_eqSiteS x y h)

def fn_laws_eqChain : SFn := ⟨45, ag_laws_eqChain, mu_laws_eqChain, rs_laws_eqChain, F_laws_eqChain⟩
def sc_laws_eqChain : SCode :=
 (.seq
 (.reg false [
 oX 2 (.box 2 0),
 oX 3 (.box 2 1),
 oX 4 (.mv (.k (.one (.v (.bool) (false)))))])
 (.seq
 (.seq
 (.reg false [
 oX 5 (.fieldA 0 2),
 oX 6 (.load false 1 5),
 oX 7 (.fieldA 0 3),
 oX 8 (.load false 1 7),
 oX 9 (.bin .neq 6 8)])
 (.cond 9
 (.seq
 (.reg false [
 oX 4 (.mv (.k (.one (.v (.bool) (false)))))])
 .ret)
 .skip))
 (.seq
 (.seq
 (.reg false [
 oX 10 (.fieldA 1 2),
 oX 11 (.load false 1 10),
 oX 12 (.fieldA 1 3),
 oX 13 (.load false 1 12),
 oX 14 (.call .froz 89 [11, 13]),
 oX 15 (.un .not 14)])
 (.cond 15
 (.seq
 (.reg false [
 oX 4 (.mv (.k (.one (.v (.bool) (false)))))])
 .ret)
 .skip))
 (.seq
 (.reg false [
 oX 4 (.mv (.k (.one (.v (.bool) (true)))))])
 .ret))))
def ms_laws_eqChain : List MRes := [.tmp 4]
theorem n_laws_eqChain (NN : Nat) (x : DLL (Sig.tys ag_laws_eqChain)) : runS NN [fn_laws_eqSiteS] sc_laws_eqChain ms_laws_eqChain ag_laws_eqChain rs_laws_eqChain x = G_laws_eqChain NN x := by kernel_rfl
theorem k_laws_eqChain : chkS pX 45 sc_laws_eqChain.er ms_laws_eqChain 2 = true := by decide +kernel
theorem p_laws_eqChain : PureSpec pX 45 fn_laws_eqChain.M ∧ chkFun pX 45 = true :=
  pure_of_runS (T := [fn_laws_eqSiteS]) (sc := sc_laws_eqChain) (ms := ms_laws_eqChain) (args := ag_laws_eqChain) (res := rs_laws_eqChain) (SOk.cons p_laws_eqSiteS <| SOk.nil) follows_ok k_laws_eqChain F_laws_eqChain fun x y h => (n_laws_eqChain FUEL x).trans (f_laws_eqChain x y h)

def fn_laws_eqMatrix : SFn := ⟨98, ag_laws_eqMatrix, mu_laws_eqMatrix, rs_laws_eqMatrix, F_laws_eqMatrix⟩
def sc_laws_eqMatrix : SCode :=
 (.seq
 (.reg false [
 oX 2 (.box 3 0),
 oX 3 (.box 3 1),
 oX 4 (.mv (.k (.one (.v (.bool) (false)))))])
 (.seq
 (.seq
 (.reg false [
 oX 5 (.fieldA 0 2),
 oX 6 (.load false 1 5),
 oX 7 (.fieldA 0 3),
 oX 8 (.load false 1 7),
 oX 9 (.bin .neq 6 8)])
 (.cond 9
 (.seq
 (.reg false [
 oX 4 (.mv (.k (.one (.v (.bool) (false)))))])
 .ret)
 .skip))
 (.seq
 (.seq
 (.reg false [
 oX 10 (.fieldA 1 2),
 oX 11 (.load false 1 10),
 oX 12 (.fieldA 1 3),
 oX 13 (.load false 1 12),
 oX 14 (.bin .neq 11 13)])
 (.cond 14
 (.seq
 (.reg false [
 oX 4 (.mv (.k (.one (.v (.bool) (false)))))])
 .ret)
 .skip))
 (.seq
 (.seq
 (.reg false [
 oX 15 (.fieldA 2 2),
 oX 16 (.load false 1 15),
 oX 17 (.fieldA 2 3),
 oX 18 (.load false 1 17),
 oX 19 (.call .froz 27 [16, 18]),
 oX 20 (.un .not 19)])
 (.cond 20
 (.seq
 (.reg false [
 oX 4 (.mv (.k (.one (.v (.bool) (false)))))])
 .ret)
 .skip))
 (.seq
 (.reg false [
 oX 4 (.mv (.k (.one (.v (.bool) (true)))))])
 .ret)))))
def ms_laws_eqMatrix : List MRes := [.tmp 4]
theorem n_laws_eqMatrix (NN : Nat) (x : DLL (Sig.tys ag_laws_eqMatrix)) : runS NN [fn_laws_eqIntS] sc_laws_eqMatrix ms_laws_eqMatrix ag_laws_eqMatrix rs_laws_eqMatrix x = G_laws_eqMatrix NN x := by kernel_rfl
theorem k_laws_eqMatrix : chkS pX 98 sc_laws_eqMatrix.er ms_laws_eqMatrix 2 = true := by decide +kernel
theorem p_laws_eqMatrix : PureSpec pX 98 fn_laws_eqMatrix.M ∧ chkFun pX 98 = true :=
  pure_of_runS (T := [fn_laws_eqIntS]) (sc := sc_laws_eqMatrix) (ms := ms_laws_eqMatrix) (args := ag_laws_eqMatrix) (res := rs_laws_eqMatrix) (SOk.cons p_laws_eqIntS <| SOk.nil) follows_ok k_laws_eqMatrix F_laws_eqMatrix fun x y h => (n_laws_eqMatrix FUEL x).trans (f_laws_eqMatrix x y h)

def fn_laws_eqMatrixS : SFn := ⟨60, ag_laws_eqMatrixS, mu_laws_eqMatrixS, rs_laws_eqMatrixS, F_laws_eqMatrixS⟩
def sc_laws_eqMatrixS : SCode :=
 (.seq
 (.reg false [
 oX 4 (.mv (.k (.one (.v (.bool) (false)))))])
 (.seq
 (.seq
 (.reg false [
 oX 6 (.mv 0),
 oX 7 (.len 6),
 oX 8 (.mv 1),
 oX 9 (.len 8),
 oX 10 (.bin .neq 7 9)])
 (.cond 10
 (.seq
 (.reg false [
 oX 4 (.mv (.k (.one (.v (.bool) (false)))))])
 .ret)
 .skip))
 (.seq
 (.seq
 (.reg false [
 oX 5 (.mv (kX 0))])
 (.join ⟨[], []⟩ [] []
 (.block 0
 (.loop 0 ⟨[(0, .one (.c (.v (.list mX)))), (1, .one (.c (.v (.list mX)))), (5, sX)], []⟩ [] []
 (.seq
 (.seq
 (.reg false [
 oX 11 (.mv 5),
 oX 12 (.mv 0),
 oX 13 (.len 12),
 oX 14 (.bin .lss 11 13)])
 (.cond 14
 .skip
 (.exit 0)))
 (.seq
 (.block 1
 (.seq
 (.reg true [
 oX 17 (.mv 0),
 oX 18 (.mv 5),
 oX 19 (.idxA 3 17 18),
 oX 20 (.load true 3 19),
 oX 21 (.mv 1),
 oX 22 (.mv 5),
 oX 23 (.idxA 3 21 22),
 oX 24 (.load true 3 23),
 oX 25 (.call .froz 98 [20, 24]),
 oX 26 (.un .not 25)])
 (.cond 26
 (.seq
 (.reg false [
 oX 4 (.mv (.k (.one (.v (.bool) (false)))))])
 .ret)
 .skip)))
 (.reg false [
 oX 15 (.mv 5),
 oX 16 (.bin .add 15 (kX 1)),
 oX 5 (.mv 16)])))))))
 (.seq
 (.reg false [
 oX 4 (.mv (.k (.one (.v (.bool) (true)))))])
 .ret))))
def ms_laws_eqMatrixS : List MRes := [.tmp 4]
theorem n_laws_eqMatrixS (NN : Nat) (x : DLL (Sig.tys ag_laws_eqMatrixS)) : runS NN [fn_laws_eqMatrix] sc_laws_eqMatrixS ms_laws_eqMatrixS ag_laws_eqMatrixS rs_laws_eqMatrixS x = G_laws_eqMatrixS NN x := by kernel_rfl
theorem k_laws_eqMatrixS : chkS pX 60 sc_laws_eqMatrixS.er ms_laws_eqMatrixS 2 = true := by decide +kernel
theorem p_laws_eqMatrixS : PureSpec pX 60 fn_laws_eqMatrixS.M ∧ chkFun pX 60 = true :=
  pure_of_runS (T := [fn_laws_eqMatrix]) (sc := sc_laws_eqMatrixS) (ms := ms_laws_eqMatrixS) (args := ag_laws_eqMatrixS) (res := rs_laws_eqMatrixS) (SOk.cons p_laws_eqMatrix <| SOk.nil) follows_ok k_laws_eqMatrixS F_laws_eqMatrixS fun x y h => (n_laws_eqMatrixS FUEL x).trans (f_laws_eqMatrixS x y h)

def fn_laws_eqAutomaton : SFn := ⟨19, ag_laws_eqAutomaton, mu_laws_eqAutomaton, rs_laws_eqAutomaton, F_laws_eqAutomaton⟩
def sc_laws_eqAutomaton : SCode :=
 (.seq
 (.reg false [
 oX 2 (.box 5 0),
 oX 3 (.box 5 1),
 oX 4 (.mv (.k (.one (.v (.bool) (false)))))])
 (.seq
 (.seq
 (.reg false [
 oX 5 (.fieldA 0 2),
 oX 6 (.load false 1 5),
 oX 7 (.fieldA 0 3),
 oX 8 (.load false 1 7),
 oX 9 (.bin .neq 6 8)])
 (.cond 9
 (.seq
 (.reg false [
 oX 4 (.mv (.k (.one (.v (.bool) (false)))))])
 .ret)
 .skip))
 (.seq
 (.seq
 (.reg false [
 oX 10 (.fieldA 1 2),
 oX 11 (.load false 1 10),
 oX 12 (.fieldA 1 3),
 oX 13 (.load false 1 12),
 oX 14 (.bin .neq 11 13)])
 (.cond 14
 (.seq
 (.reg false [
 oX 4 (.mv (.k (.one (.v (.bool) (false)))))])
 .ret)
 .skip))
 (.seq
 (.seq
 (.reg false [
 oX 15 (.fieldA 2 2),
 oX 16 (.load false 1 15),
 oX 17 (.fieldA 2 3),
 oX 18 (.load false 1 17),
 oX 19 (.call .froz 27 [16, 18]),
 oX 20 (.un .not 19)])
 (.cond 20
 (.seq
 (.reg false [
 oX 4 (.mv (.k (.one (.v (.bool) (false)))))])
 .ret)
 .skip))
 (.seq
 (.seq
 (.reg false [
 oX 21 (.fieldA 3 2),
 oX 22 (.load false 1 21),
 oX 23 (.fieldA 3 3),
 oX 24 (.load false 1 23),
 oX 25 (.call .froz 60 [22, 24]),
 oX 26 (.un .not 25)])
 (.cond 26
 (.seq
 (.reg false [
 oX 4 (.mv (.k (.one (.v (.bool) (false)))))])
 .ret)
 .skip))
 (.seq
 (.seq
 (.reg false [
 oX 27 (.fieldA 4 2),
 oX 28 (.load false 1 27),
 oX 29 (.fieldA 4 3),
 oX 30 (.load false 1 29),
 oX 31 (.call .froz 27 [28, 30]),
 oX 32 (.un .not 31)])
 (.cond 32
 (.seq
 (.reg false [
 oX 4 (.mv (.k (.one (.v (.bool) (false)))))])
 .ret)
 .skip))
 (.seq
 (.reg false [
 oX 4 (.mv (.k (.one (.v (.bool) (true)))))])
 .ret)))))))
def ms_laws_eqAutomaton : List MRes := [.tmp 4]
theorem n_laws_eqAutomaton (NN : Nat) (x : DLL (Sig.tys ag_laws_eqAutomaton)) : runS NN [fn_laws_eqIntS, fn_laws_eqMatrixS] sc_laws_eqAutomaton ms_laws_eqAutomaton ag_laws_eqAutomaton rs_laws_eqAutomaton x = G_laws_eqAutomaton NN x := by kernel_rfl
theorem k_laws_eqAutomaton : chkS pX 19 sc_laws_eqAutomaton.er ms_laws_eqAutomaton 2 = true := by decide +kernel
theorem p_laws_eqAutomaton : PureSpec pX 19 fn_laws_eqAutomaton.M ∧ chkFun pX 19 = true :=
  pure_of_runS (T := [fn_laws_eqIntS, fn_laws_eqMatrixS]) (sc := sc_laws_eqAutomaton) (ms := ms_laws_eqAutomaton) (args := ag_laws_eqAutomaton) (res := rs_laws_eqAutomaton) (SOk.cons p_laws_eqIntS <| SOk.cons p_laws_eqMatrixS <| SOk.nil) follows_ok k_laws_eqAutomaton F_laws_eqAutomaton fun x y h => (n_laws_eqAutomaton FUEL x).trans (f_laws_eqAutomaton x y h)

def fn_laws_markIntS : SFn := ⟨40, ag_laws_markIntS, mu_laws_markIntS, rs_laws_markIntS, F_laws_markIntS⟩
def sc_laws_markIntS : SCode :=
 (.seq
 (.reg false [
 oX 4 (.mv (kX 0))])
 (.seq
 (.seq
 (.reg false [
 oX 5 (.mv (kX 0))])
 (.join ⟨[(1, sX)], [(1000000, .row false .froz iX)]⟩ [1000000] []
 (.block 0
 (.loop 0 ⟨[(0, .one (fX 1000000 1)), (1, sX), (5, sX)], [(1000000, .row false .froz iX)]⟩ [1000000, 500000] [(false, 0, 0, 500000, .froz, [])]
 (.seq
 (.seq
 (.reg false [
 oX 6 (.mv 5),
 oX 7 (.mv 0),
 oX 8 (.len 7),
 oX 9 (.bin .lss 6 8)])
 (.cond 9
 .skip
 (.exit 0)))
 (.seq
 (.block 1
 (.seq
 (.reg false [
 oX 12 (.mv 0),
 oX 13 (.mv 5),
 oX 14 (.mv 1),
 oX 15 (.idxA 1 12 13),
 uX (.store 1 15 14)])
 (.reg false [
 oX 16 (.mv 1),
 oX 17 (.bin .add 16 (kX 1)),
 oX 1 (.mv 17)])))
 (.reg false [
 oX 10 (.mv 5),
 oX 11 (.bin .add 10 (kX 1)),
 oX 5 (.mv 11)])))))))
 (.seq
 (.reg false [
 oX 18 (.mv 1),
 oX 4 (.mv 18)])
 .ret)))
def ms_laws_markIntS : List MRes := [.tmp 4]
theorem n_laws_markIntS (NN : Nat) (x : DLL (Sig.tys ag_laws_markIntS)) : runMS NN [] sc_laws_markIntS ms_laws_markIntS ag_laws_markIntS mu_laws_markIntS rs_laws_markIntS x = G_laws_markIntS NN x := by kernel_rfl
theorem k_laws_markIntS : chkS pX 40 sc_laws_markIntS.er ms_laws_markIntS 2 = true := by decide +kernel
theorem p_laws_markIntS : MutSpec pX 40 mu_laws_markIntS fn_laws_markIntS.MM ∧ chkFun pX 40 = true :=
  mut_of_runMS (T := []) (sc := sc_laws_markIntS) (ms := ms_laws_markIntS) (args := ag_laws_markIntS) (mu := mu_laws_markIntS) (res := rs_laws_markIntS) (SOk.nil) follows_ok k_laws_markIntS F_laws_markIntS fun x y h => (n_laws_markIntS FUEL x).trans (f_laws_markIntS x y h)

def fn_laws_markMatrixS : SFn := ⟨79, ag_laws_markMatrixS, mu_laws_markMatrixS, rs_laws_markMatrixS, F_laws_markMatrixS⟩
def sc_laws_markMatrixS : SCode :=
 (.seq
 (.reg false [
 oX 4 (.mv (kX 0))])
 (.seq
 (.seq
 (.reg false [
 oX 5 (.mv (kX 0))])
 (.join ⟨[(1, sX)], [(1000000, .row false .live mX)]⟩ [1000000] []
 (.block 0
 (.loop 0 ⟨[(0, .one (fX 1000000 3)), (1, sX), (5, sX)], [(1000000, .row false .live mX)]⟩ [1000000, 500000] [(false, 0, 0, 500000, .froz, [])]
 (.seq
 (.seq
 (.reg false [
 oX 6 (.mv 5),
 oX 7 (.mv 0),
 oX 8 (.len 7),
 oX 9 (.bin .lss 6 8)])
 (.cond 9
 .skip
 (.exit 0)))
 (.seq
 (.block 1
 (.seq
 (.reg false [
 oX 12 (.mv 0),
 oX 13 (.mv 5),
 oX 14 (.mv 1),
 oX 15 (.idxA 3 12 13),
 oX 16 (.fieldA 0 15),
 uX (.store 1 16 14)])
 (.seq
 (.reg false [
 oX 17 (.mv 1),
 oX 18 (.bin .add 17 (kX 1)),
 oX 1 (.mv 18)])
 (.seq
 (.reg false [
 oX 19 (.mv 0),
 oX 20 (.mv 5),
 oX 21 (.mv 1),
 oX 22 (.idxA 3 19 20),
 oX 23 (.fieldA 1 22),
 uX (.store 1 23 21)])
 (.seq
 (.reg false [
 oX 24 (.mv 1),
 oX 25 (.bin .add 24 (kX 1)),
 oX 1 (.mv 25)])
 (.reg false [
 oX 26 (.mv 0),
 oX 27 (.mv 5),
 oX 28 (.idxA 3 26 27),
 oX 29 (.fieldA 2 28),
 oX 30 (.load false 1 29),
 oX 31 (.mv 1),
 oX 32 (.callm .froz 40 [30, 31]),
 oX 1 (.mv 32)]))))))
 (.reg false [
 oX 10 (.mv 5),
 oX 11 (.bin .add 10 (kX 1)),
 oX 5 (.mv 11)])))))))
 (.seq
 (.reg false [
 oX 33 (.mv 1),
 oX 4 (.mv 33)])
 .ret)))
def ms_laws_markMatrixS : List MRes := [.tmp 4]
theorem n_laws_markMatrixS (NN : Nat) (x : DLL (Sig.tys ag_laws_markMatrixS)) : runMS NN [fn_laws_markIntS] sc_laws_markMatrixS ms_laws_markMatrixS ag_laws_markMatrixS mu_laws_markMatrixS rs_laws_markMatrixS x = G_laws_markMatrixS NN x := by kernel_rfl
theorem k_laws_markMatrixS : chkS pX 79 sc_laws_markMatrixS.er ms_laws_markMatrixS 2 = true := by decide +kernel
theorem p_laws_markMatrixS : MutSpec pX 79 mu_laws_markMatrixS fn_laws_markMatrixS.MM ∧ chkFun pX 79 = true :=
  mut_of_runMS (T := [fn_laws_markIntS]) (sc := sc_laws_markMatrixS) (ms := ms_laws_markMatrixS) (args := ag_laws_markMatrixS) (mu := mu_laws_markMatrixS) (res := rs_laws_markMatrixS) (SOk.consM p_laws_markIntS <| SOk.nil) follows_ok k_laws_markMatrixS F_laws_markMatrixS fun x y h => (n_laws_markMatrixS FUEL x).trans (f_laws_markMatrixS x y h)

def fn_laws_markAutomaton : SFn := ⟨32, ag_laws_markAutomaton, mu_laws_markAutomaton, rs_laws_markAutomaton, F_laws_markAutomaton⟩
def sc_laws_markAutomaton : SCode :=
 (.seq
 (.reg false [
 oX 2 (.box 5 0),
 oX 4 (.mv (kX 0))])
 (.seq
 (.reg false [
 oX 5 (.fieldA 2 2),
 oX 6 (.load false 1 5),
 oX 7 (.mv 1),
 oX 8 (.callm .live 40 [6, 7]),
 oX 1 (.mv 8)])
 (.seq
 (.reg false [
 oX 9 (.fieldA 3 2),
 oX 10 (.load false 1 9),
 oX 11 (.mv 1),
 oX 12 (.callm .live 79 [10, 11]),
 oX 1 (.mv 12)])
 (.seq
 (.reg false [
 oX 13 (.fieldA 4 2),
 oX 14 (.load false 1 13),
 oX 15 (.mv 1),
 oX 16 (.callm .live 40 [14, 15]),
 oX 1 (.mv 16)])
 (.seq
 (.reg false [
 oX 17 (.mv 1),
 oX 4 (.mv 17)])
 .ret)))))
def ms_laws_markAutomaton : List MRes := [.tmp 4]
theorem n_laws_markAutomaton (NN : Nat) (x : DLL (Sig.tys ag_laws_markAutomaton)) : runMS NN [fn_laws_markIntS, fn_laws_markMatrixS] sc_laws_markAutomaton ms_laws_markAutomaton ag_laws_markAutomaton mu_laws_markAutomaton rs_laws_markAutomaton x = G_laws_markAutomaton NN x := by kernel_rfl
theorem k_laws_markAutomaton : chkS pX 32 sc_laws_markAutomaton.er ms_laws_markAutomaton 2 = true := by decide +kernel
theorem p_laws_markAutomaton : MutSpec pX 32 mu_laws_markAutomaton fn_laws_markAutomaton.MM ∧ chkFun pX 32 = true :=
  mut_of_runMS (T := [fn_laws_markIntS, fn_laws_markMatrixS]) (sc := sc_laws_markAutomaton) (ms := ms_laws_markAutomaton) (args := ag_laws_markAutomaton) (mu := mu_laws_markAutomaton) (res := rs_laws_markAutomaton) (SOk.consM p_laws_markIntS <| SOk.consM p_laws_markMatrixS <| SOk.nil) follows_ok k_laws_markAutomaton F_laws_markAutomaton fun x y h => (n_laws_markAutomaton FUEL x).trans (f_laws_markAutomaton x y h)

def fn_laws_markSiteS : SFn := ⟨90, ag_laws_markSiteS, mu_laws_markSiteS, rs_laws_markSiteS, F_laws_markSiteS⟩
def sc_laws_markSiteS : SCode :=
 (.seq
 (.reg false [
 oX 4 (.mv (kX 0))])
 (.seq
 (.seq
 (.reg false [
 oX 5 (.mv (kX 0))])
 (.join ⟨[(1, sX)], [(1000000, .row false .live gX)]⟩ [1000000] []
 (.block 0
 (.loop 0 ⟨[(0, .one (fX 1000000 4)), (1, sX), (5, sX)], [(1000000, .row false .live gX)]⟩ [1000000, 500000] [(false, 0, 0, 500000, .froz, [])]
 (.seq
 (.seq
 (.reg false [
 oX 6 (.mv 5),
 oX 7 (.mv 0),
 oX 8 (.len 7),
 oX 9 (.bin .lss 6 8)])
 (.cond 9
 .skip
 (.exit 0)))
 (.seq
 (.block 1
 (.seq
 (.reg false [
 oX 12 (.mv 0),
 oX 13 (.mv 5),
 oX 14 (.mv 1),
 oX 15 (.idxA 4 12 13),
 oX 16 (.fieldA 0 15),
 uX (.store 1 16 14)])
 (.seq
 (.reg false [
 oX 17 (.mv 1),
 oX 18 (.bin .add 17 (kX 1)),
 oX 1 (.mv 18)])
 (.seq
 (.reg false [
 oX 19 (.mv 0),
 oX 20 (.mv 5),
 oX 21 (.mv 1),
 oX 22 (.idxA 4 19 20),
 oX 23 (.fieldA 1 22),
 uX (.store 1 23 21)])
 (.seq
 (.reg false [
 oX 24 (.mv 1),
 oX 25 (.bin .add 24 (kX 1)),
 oX 1 (.mv 25)])
 (.seq
 (.reg false [
 oX 26 (.mv 0),
 oX 27 (.mv 5),
 oX 28 (.mv 1),
 oX 29 (.idxA 4 26 27),
 oX 30 (.fieldA 2 29),
 uX (.store 1 30 28)])
 (.seq
 (.reg false [
 oX 31 (.mv 1),
 oX 32 (.bin .add 31 (kX 1)),
 oX 1 (.mv 32)])
 (.reg false [
 oX 33 (.mv 0),
 oX 34 (.mv 5),
 oX 35 (.idxA 4 33 34),
 oX 36 (.fieldA 3 35),
 oX 37 (.load false 1 36),
 oX 38 (.mv 1),
 oX 39 (.callm .froz 40 [37, 38]),
 oX 1 (.mv 39)]))))))))
 (.reg false [
 oX 10 (.mv 5),
 oX 11 (.bin .add 10 (kX 1)),
 oX 5 (.mv 11)])))))))
 (.seq
 (.reg false [
 oX 40 (.mv 1),
 oX 4 (.mv 40)])
 .ret)))
def ms_laws_markSiteS : List MRes := [.tmp 4]
theorem n_laws_markSiteS (NN : Nat) (x : DLL (Sig.tys ag_laws_markSiteS)) : runMS NN [fn_laws_markIntS] sc_laws_markSiteS ms_laws_markSiteS ag_laws_markSiteS mu_laws_markSiteS rs_laws_markSiteS x = G_laws_markSiteS NN x := by kernel_rfl
theorem k_laws_markSiteS : chkS pX 90 sc_laws_markSiteS.er ms_laws_markSiteS 2 = true := by decide +kernel
theorem p_laws_markSiteS : MutSpec pX 90 mu_laws_markSiteS fn_laws_markSiteS.MM ∧ chkFun pX 90 = true :=
  mut_of_runMS (T := [fn_laws_markIntS]) (sc := sc_laws_markSiteS) (ms := ms_laws_markSiteS) (args := ag_laws_markSiteS) (mu := mu_laws_markSiteS) (res := rs_laws_markSiteS) (SOk.consM p_laws_markIntS <| SOk.nil) follows_ok k_laws_markSiteS F_laws_markSiteS fun x y h => (n_laws_markSiteS FUEL x).trans (f_laws_markSiteS x y h)

def fn_laws_markChain : SFn := ⟨46, ag_laws_markChain, mu_laws_markChain, rs_laws_markChain, F_laws_markChain⟩
def sc_laws_markChain : SCode :=
 (.seq
 (.reg false [
 oX 2 (.box 2 0),
 oX 4 (.mv (kX 0))])
 (.seq
 (.reg false [
 oX 5 (.fieldA 1 2),
 oX 6 (.load false 1 5),
 oX 7 (.mv 1),
 oX 8 (.callm .live 90 [6, 7]),
 oX 1 (.mv 8)])
 (.seq
 (.reg false [
 oX 9 (.mv 1),
 oX 4 (.mv 9)])
 .ret)))
def ms_laws_markChain : List MRes := [.tmp 4]
theorem n_laws_markChain (NN : Nat) (x : DLL (Sig.tys ag_laws_markChain)) : runMS NN [fn_laws_markSiteS] sc_laws_markChain ms_laws_markChain ag_laws_markChain mu_laws_markChain rs_laws_markChain x = G_laws_markChain NN x := by kernel_rfl
theorem k_laws_markChain : chkS pX 46 sc_laws_markChain.er ms_laws_markChain 2 = true := by decide +kernel
theorem p_laws_markChain : MutSpec pX 46 mu_laws_markChain fn_laws_markChain.MM ∧ chkFun pX 46 = true :=
  mut_of_runMS (T := [fn_laws_markSiteS]) (sc := sc_laws_markChain) (ms := ms_laws_markChain) (args := ag_laws_markChain) (mu := mu_laws_markChain) (res := rs_laws_markChain) (SOk.consM p_laws_markSiteS <| SOk.nil) follows_ok k_laws_markChain F_laws_markChain fun x y h => (n_laws_markChain FUEL x).trans (f_laws_markChain x y h)

def fn_laws_heldIntS : SFn := ⟨41, ag_laws_heldIntS, mu_laws_heldIntS, rs_laws_heldIntS, F_laws_heldIntS⟩
def sc_laws_heldIntS : SCode :=
 (.seq
 (.reg false [
 oX 4 (.mv (kX 0))])
 (.seq
 (.seq
 (.reg false [
 oX 5 (.mv (kX 0))])
 (.join ⟨[(1, sX)], []⟩ [] []
 (.block 0
 (.loop 0 ⟨[(0, .one (.c (.v (lX)))), (1, sX), (5, sX)], []⟩ [] []
 (.seq
 (.seq
 (.reg false [
 oX 6 (.mv 5),
 oX 7 (.mv 0),
 oX 8 (.len 7),
 oX 9 (.bin .lss 6 8)])
 (.cond 9
 .skip
 (.exit 0)))
 (.seq
 (.block 1
 (.seq
 (.seq
 (.reg false [
 oX 12 (.mv 0),
 oX 13 (.mv 5),
 oX 14 (.idxA 1 12 13),
 oX 15 (.load false 1 14),
 oX 16 (.mv 1),
 oX 17 (.bin .neq 15 16)])
 (.cond 17
 (.seq
 (.reg false [
 oX 4 (.mv (kX (-1)))])
 .ret)
 .skip))
 (.reg false [
 oX 18 (.mv 1),
 oX 19 (.bin .add 18 (kX 1)),
 oX 1 (.mv 19)])))
 (.reg false [
 oX 10 (.mv 5),
 oX 11 (.bin .add 10 (kX 1)),
 oX 5 (.mv 11)])))))))
 (.seq
 (.reg false [
 oX 20 (.mv 1),
 oX 4 (.mv 20)])
 .ret)))
def ms_laws_heldIntS : List MRes := [.tmp 4]
theorem n_laws_heldIntS (NN : Nat) (x : DLL (Sig.tys ag_laws_heldIntS)) : runS NN [] sc_laws_heldIntS ms_laws_heldIntS ag_laws_heldIntS rs_laws_heldIntS x = G_laws_heldIntS NN x := by kernel_rfl
theorem k_laws_heldIntS : chkS pX 41 sc_laws_heldIntS.er ms_laws_heldIntS 2 = true := by decide +kernel
theorem p_laws_heldIntS : PureSpec pX 41 fn_laws_heldIntS.M ∧ chkFun pX 41 = true :=
  pure_of_runS (T := []) (sc := sc_laws_heldIntS) (ms := ms_laws_heldIntS) (args := ag_laws_heldIntS) (res := rs_laws_heldIntS) (SOk.nil) follows_ok k_laws_heldIntS F_laws_heldIntS fun x y h => (n_laws_heldIntS FUEL x).trans (f_laws_heldIntS x y h)

def fn_laws_heldSiteS : SFn := ⟨91, ag_laws_heldSiteS, mu_laws_heldSiteS, rs_laws_heldSiteS, F_laws_heldSiteS⟩
def sc_laws_heldSiteS : SCode :=
 (.seq
 (.reg false [
 oX 4 (.mv (kX 0))])
 (.seq
 (.seq
 (.reg false [
 oX 5 (.mv (kX 0))])
 (.join ⟨[(1, sX)], []⟩ [] []
 (.block 0
 (.loop 0 ⟨[(0, .one (.c (.v (.list gX)))), (1, sX), (5, sX)], []⟩ [] []
 (.seq
 (.seq
 (.reg false [
 oX 6 (.mv 5),
 oX 7 (.mv 0),
 oX 8 (.len 7),
 oX 9 (.bin .lss 6 8)])
 (.cond 9
 .skip
 (.exit 0)))
 (.seq
 (.block 1
 (.seq
 (.seq
 (.reg false [
 oX 12 (.mv 0),
 oX 13 (.mv 5),
 oX 14 (.idxA 4 12 13),
 oX 15 (.fieldA 0 14),
 oX 16 (.load false 1 15),
 oX 17 (.mv 1),
 oX 18 (.bin .neq 16 17)])
 (.cond 18
 (.seq
 (.reg false [
 oX 4 (.mv (kX (-1)))])
 .ret)
 .skip))
 (.seq
 (.reg false [
 oX 19 (.mv 1),
 oX 20 (.bin .add 19 (kX 1)),
 oX 1 (.mv 20)])
 (.seq
 (.seq
 (.reg false [
 oX 21 (.mv 0),
 oX 22 (.mv 5),
 oX 23 (.idxA 4 21 22),
 oX 24 (.fieldA 1 23),
 oX 25 (.load false 1 24),
 oX 26 (.mv 1),
 oX 27 (.bin .neq 25 26)])
 (.cond 27
 (.seq
 (.reg false [
 oX 4 (.mv (kX (-1)))])
 .ret)
 .skip))
 (.seq
 (.reg false [
 oX 28 (.mv 1),
 oX 29 (.bin .add 28 (kX 1)),
 oX 1 (.mv 29)])
 (.seq
 (.seq
 (.reg false [
 oX 30 (.mv 0),
 oX 31 (.mv 5),
 oX 32 (.idxA 4 30 31),
 oX 33 (.fieldA 2 32),
 oX 34 (.load false 1 33),
 oX 35 (.mv 1),
 oX 36 (.bin .neq 34 35)])
 (.cond 36
 (.seq
 (.reg false [
 oX 4 (.mv (kX (-1)))])
 .ret)
 .skip))
 (.seq
 (.reg false [
 oX 37 (.mv 1),
 oX 38 (.bin .add 37 (kX 1)),
 oX 1 (.mv 38)])
 (.seq
 (.reg false [
 oX 39 (.mv 0),
 oX 40 (.mv 5),
 oX 41 (.idxA 4 39 40),
 oX 42 (.fieldA 3 41),
 oX 43 (.load false 1 42),
 oX 44 (.mv 1),
 oX 45 (.call .froz 41 [43, 44]),
 oX 1 (.mv 45)])
 (.seq
 (.reg false [
 oX 46 (.mv 1),
 oX 47 (.bin .lss 46 (kX 0))])
 (.cond 47
 (.seq
 (.reg false [
 oX 4 (.mv (kX (-1)))])
 .ret)
 .skip))))))))))
 (.reg false [
 oX 10 (.mv 5),
 oX 11 (.bin .add 10 (kX 1)),
 oX 5 (.mv 11)])))))))
 (.seq
 (.reg false [
 oX 48 (.mv 1),
 oX 4 (.mv 48)])
 .ret)))
def ms_laws_heldSiteS : List MRes := [.tmp 4]
theorem n_laws_heldSiteS (NN : Nat) (x : DLL (Sig.tys ag_laws_heldSiteS)) : runS NN [fn_laws_heldIntS] sc_laws_heldSiteS ms_laws_heldSiteS ag_laws_heldSiteS rs_laws_heldSiteS x = G_laws_heldSiteS NN x := by kernel_rfl
theorem k_laws_heldSiteS : chkS pX 91 sc_laws_heldSiteS.er ms_laws_heldSiteS 2 = true := by decide +kernel
theorem p_laws_heldSiteS : PureSpec pX 91 fn_laws_heldSiteS.M ∧ chkFun pX 91 = true :=
  pure_of_runS (T := [fn_laws_heldIntS]) (sc := sc_laws_heldSiteS) (ms := ms_laws_heldSiteS) (args := ag_laws_heldSiteS) (res := rs_laws_heldSiteS) (SOk.cons p_laws_heldIntS <| SOk.nil) follows_ok k_laws_heldSiteS F_laws_heldSiteS fun x y h => (n_laws_heldSiteS FUEL x).trans (f_laws_heldSiteS x y h)

def fn_laws_heldChain : SFn := ⟨47, ag_laws_heldChain, mu_laws_heldChain, rs_laws_heldChain, F_laws_heldChain⟩
def sc_laws_heldChain : SCode :=
 (.seq
 (.reg false [
 oX 2 (.box 2 0),
 oX 4 (.mv (kX 0))])
 (.seq
 (.reg false [
 oX 5 (.fieldA 1 2),
 oX 6 (.load false 1 5),
 oX 7 (.mv 1),
 oX 8 (.call .froz 91 [6, 7]),
 oX 1 (.mv 8)])
 (.seq
 (.seq
 (.reg false [
 oX 9 (.mv 1),
 oX 10 (.bin .lss 9 (kX 0))])
 (.cond 10
 (.seq
 (.reg false [
 oX 4 (.mv (kX (-1)))])
 .ret)
 .skip))
 (.seq
 (.reg false [
 oX 11 (.mv 1),
 oX 4 (.mv 11)])
 .ret))))
def ms_laws_heldChain : List MRes := [.tmp 4]
theorem n_laws_heldChain (NN : Nat) (x : DLL (Sig.tys ag_laws_heldChain)) : runS NN [fn_laws_heldSiteS] sc_laws_heldChain ms_laws_heldChain ag_laws_heldChain rs_laws_heldChain x = G_laws_heldChain NN x := by kernel_rfl
theorem k_laws_heldChain : chkS pX 47 sc_laws_heldChain.er ms_laws_heldChain 2 = true := by decide +kernel
theorem p_laws_heldChain : PureSpec pX 47 fn_laws_heldChain.M ∧ chkFun pX 47 = true :=
  pure_of_runS (T := [fn_laws_heldSiteS]) (sc := sc_laws_heldChain) (ms := ms_laws_heldChain) (args := ag_laws_heldChain) (res := rs_laws_heldChain) (SOk.cons p_laws_heldSiteS <| SOk.nil) follows_ok k_laws_heldChain F_laws_heldChain fun x y h => (n_laws_heldChain FUEL x).trans (f_laws_heldChain x y h)

def fn_laws_FnExactAutomatonChain : SFn := ⟨13, ag_laws_FnExactAutomatonChain, mu_laws_FnExactAutomatonChain, rs_laws_FnExactAutomatonChain, F_laws_FnExactAutomatonChain⟩
def sc_laws_FnExactAutomatonChain : SCode :=
 (.seq
 (.reg false [
 oX 2 (.box 5 0),
 oX 4 (.mv (.k (.one (.v (.bool) (false)))))])
 (.seq
 (.reg false [
 oX 5 (.mv (kX 1048576))])
 (.seq
 (.reg false [
 oX 16 (.load true 5 2),
 oX 17 (.mv 5),
 oX 18 (.call .live 15 [16, 17]),
 oX 5 (.mv 18)])
 (.seq
 (.seq
 (.reg false [
 oX 19 (.mv 5),
 oX 20 (.bin .lss 19 (kX 0))])
 (.cond 20
 (.seq
 (.reg false [
 oX 4 (.mv (.k (.one (.v (.bool) (true)))))])
 .ret)
 .skip))
 (.seq
 (.reg false [
 oX 22 (.load true 5 2),
 oX 23 (.call .live 17 [22]),
 oX 24 (.mv 1),
 oX 25 (.call .live 43 [23, 24]),
 oX 21 (.mv 25),
 oX 26 (.ext 0 21),
 oX 27 (.ext 1 21),
 oX 6 (.alloc [zX, .nil gX]),
 uX (.store 2 6 26),
 oX 7 (.mv 27)])
 (.seq
 (.reg false [
 oX 28 (.load true 5 2),
 oX 29 (.call .live 17 [28]),
 oX 8 (.alloc [zX, zX, .nil iX, .nil mX, .nil iX]),
 uX (.store 5 8 29)])
 (.seq
 (.reg false [
 oX 31 (.load true 5 8),
 oX 32 (.mv 1),
 oX 33 (.call .live 44 [31, 32]),
 oX 30 (.mv 33),
 oX 34 (.ext 0 30),
 oX 35 (.ext 1 30),
 oX 9 (.alloc [zX, .nil gX]),
 uX (.store 2 9 34),
 oX 10 (.mv 35)])
 (.seq
 (.seq
 (.reg false [
 oX 36 (.load true 2 9),
 oX 37 (.load true 2 6),
 oX 38 (.call .live 45 [36, 37]),
 oX 39 (.un .not 38),
 oX 40 (.mv 39),
 ⟨(some 41), .mv 10, (some (40, false))⟩,
 ⟨(some 42), .mv 7, (some (40, false))⟩,
 ⟨(some 43), .binb .neq 41 42, (some (40, false))⟩,
 oX 44 (.pick 40 (.k (.one (.v (.bool) (true)))) 43)])
 (.cond 44
 (.seq
 (.reg false [
 oX 4 (.mv (.k (.one (.v (.bool) (false)))))])
 .ret)
 .skip))
 (.seq
 (.seq
 (.reg true [
 oX 45 (.load true 5 8),
 oX 46 (.load true 5 2),
 oX 47 (.call .live 17 [46]),
 oX 48 (.call .live 19 [45, 47]),
 oX 49 (.un .not 48)])
 (.cond 49
 (.seq
 (.reg false [
 oX 4 (.mv (.k (.one (.v (.bool) (false)))))])
 .ret)
 .skip))
 (.seq
 (.reg false [
 oX 11 (.mv (kX 1))])
 (.seq
 (.reg false [
 oX 50 (.load true 5 8),
 oX 51 (.mv 11),
 oX 52 (.callm .live 32 [50, 51]),
 oX 11 (.mv 52)])
 (.seq
 (.seq
 (.reg false [
 oX 53 (.mv 11),
 oX 54 (.bin .lss 53 (kX 0)),
 oX 55 (.mv 54),
 ⟨(some 56), .load true 2 9, (some (55, false))⟩,
 ⟨(some 57), .load true 2 6, (some (55, false))⟩,
 ⟨(some 58), .call .live 45 [56, 57], (some (55, false))⟩,
 ⟨(some 59), .un .not 58, (some (55, false))⟩,
 oX 60 (.pick 55 (.k (.one (.v (.bool) (true)))) 59),
 oX 61 (.mv 60),
 ⟨(some 62), .mv 10, (some (61, false))⟩,
 ⟨(some 63), .mv 7, (some (61, false))⟩,
 ⟨(some 64), .binb .neq 62 63, (some (61, false))⟩,
 oX 65 (.pick 61 (.k (.one (.v (.bool) (true)))) 64)])
 (.cond 65
 (.seq
 (.reg false [
 oX 4 (.mv (.k (.one (.v (.bool) (false)))))])
 .ret)
 .skip))
 (.seq
 (.reg false [
 oX 12 (.mv (kX 1))])
 (.seq
 (.reg false [
 oX 66 (.load true 2 9),
 oX 67 (.mv 12),
 oX 68 (.callm .live 46 [66, 67]),
 oX 12 (.mv 68)])
 (.seq
 (.reg false [
 oX 13 (.mv (kX 1))])
 (.seq
 (.reg false [
 oX 69 (.load true 2 9),
 oX 70 (.mv 13),
 oX 71 (.call .live 47 [69, 70]),
 oX 13 (.mv 71)])
 (.seq
 (.seq
 (.reg false [
 oX 72 (.mv 13),
 oX 73 (.bin .lss 72 (kX 0))])
 (.cond 73
 (.seq
 (.reg false [
 oX 4 (.mv (.k (.one (.v (.bool) (false)))))])
 .ret)
 .skip))
 (.seq
 (.seq
 (.reg false [
 oX 74 (.mv 13),
 oX 75 (.mv 12),
 oX 76 (.bin .neq 74 75)])
 (.cond 76
 (.seq
 (.reg false [
 oX 4 (.mv (.k (.one (.v (.bool) (false)))))])
 .ret)
 .skip))
 (.seq
 (.reg false [
 oX 78 (.load true 5 2),
 oX 79 (.call .live 17 [78]),
 oX 80 (.mv 1),
 oX 81 (.call .live 44 [79, 80]),
 oX 77 (.mv 81),
 oX 82 (.ext 0 77),
 oX 83 (.ext 1 77),
 oX 14 (.alloc [zX, .nil gX]),
 uX (.store 2 14 82),
 oX 15 (.mv 83)])
 (.seq
 (.seq
 (.reg false [
 oX 84 (.load true 2 14),
 oX 85 (.load true 2 6),
 oX 86 (.call .live 45 [84, 85]),
 oX 87 (.un .not 86),
 oX 88 (.mv 87),
 ⟨(some 89), .mv 15, (some (88, false))⟩,
 ⟨(some 90), .mv 7, (some (88, false))⟩,
 ⟨(some 91), .binb .neq 89 90, (some (88, false))⟩,
 oX 92 (.pick 88 (.k (.one (.v (.bool) (true)))) 91)])
 (.cond 92
 (.seq
 (.reg false [
 oX 4 (.mv (.k (.one (.v (.bool) (false)))))])
 .ret)
 .skip))
 (.seq
 (.reg false [
 oX 13 (.mv (kX 1))])
 (.seq
 (.reg false [
 oX 93 (.load true 2 9),
 oX 94 (.mv 13),
 oX 95 (.call .live 47 [93, 94]),
 oX 13 (.mv 95)])
 (.seq
 (.seq
 (.reg false [
 oX 96 (.mv 13),
 oX 97 (.bin .lss 96 (kX 0))])
 (.cond 97
 (.seq
 (.reg false [
 oX 4 (.mv (.k (.one (.v (.bool) (false)))))])
 .ret)
 .skip))
 (.seq
 (.seq
 (.reg false [
 oX 98 (.mv 13),
 oX 99 (.mv 12),
 oX 100 (.bin .neq 98 99)])
 (.cond 100
 (.seq
 (.reg false [
 oX 4 (.mv (.k (.one (.v (.bool) (false)))))])
 .ret)
 .skip))
 (.seq
 (.reg false [
 oX 4 (.mv (.k (.one (.v (.bool) (true)))))])
 .ret)))))))))))))))))))))))))
def ms_laws_FnExactAutomatonChain : List MRes := [.tmp 4]
theorem n_laws_FnExactAutomatonChain (NN : Nat) (x : DLL (Sig.tys ag_laws_FnExactAutomatonChain)) : runS NN [fn_laws_szAutomaton, fn_laws_toAutomaton, fn_spec_AutomatonChain, fn_impl_AutomatonChain, fn_laws_eqChain, fn_laws_eqAutomaton, fn_laws_markAutomaton, fn_laws_markChain, fn_laws_heldChain] sc_laws_FnExactAutomatonChain ms_laws_FnExactAutomatonChain ag_laws_FnExactAutomatonChain rs_laws_FnExactAutomatonChain x = G_laws_FnExactAutomatonChain NN x := by kernel_rfl
theorem k_laws_FnExactAutomatonChain : chkS pX 13 sc_laws_FnExactAutomatonChain.er ms_laws_FnExactAutomatonChain 2 = true := by decide +kernel
theorem p_laws_FnExactAutomatonChain : PureSpec pX 13 fn_laws_FnExactAutomatonChain.M ∧ chkFun pX 13 = true :=
  pure_of_runS (T := [fn_laws_szAutomaton, fn_laws_toAutomaton, fn_spec_AutomatonChain, fn_impl_AutomatonChain, fn_laws_eqChain, fn_laws_eqAutomaton, fn_laws_markAutomaton, fn_laws_markChain, fn_laws_heldChain]) (sc := sc_laws_FnExactAutomatonChain) (ms := ms_laws_FnExactAutomatonChain) (args := ag_laws_FnExactAutomatonChain) (res := rs_laws_FnExactAutomatonChain) (SOk.cons p_laws_szAutomaton <| SOk.cons p_laws_toAutomaton <| SOk.cons p_spec_AutomatonChain <| SOk.cons p_impl_AutomatonChain <| SOk.cons p_laws_eqChain <| SOk.cons p_laws_eqAutomaton <| SOk.consM p_laws_markAutomaton <| SOk.consM p_laws_markChain <| SOk.cons p_laws_heldChain <| SOk.nil) follows_ok k_laws_FnExactAutomatonChain F_laws_FnExactAutomatonChain fun x y h => (n_laws_FnExactAutomatonChain FUEL x).trans (f_laws_FnExactAutomatonChain x y h)

end Go.Am
