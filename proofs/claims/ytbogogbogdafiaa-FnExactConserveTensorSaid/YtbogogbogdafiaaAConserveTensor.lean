/- A_ConserveTensor: the code of the functions of FnExactConserveTensor. No condition. -/
import Derived.Test.YtbogogbogdafiaaLConserveTensor
import Derived.Test.YtbogogbogdafiaaBr2
import Derived.KernelRfl
import Derived.Test.YtbogogbogdafiaaRows
set_option linter.unusedVariables false
set_option maxRecDepth 100000
namespace Go.Am
theorem follows_ok : Go.Proofs.Try.prog.follows .mixedOrders = true := by decide +kernel
noncomputable abbrev pX := Go.Proofs.Try.prog
def oX (n : Nat) (x : SOp) : SOper := ⟨some n, x, none⟩
def uX (x : SOp) : SOper := ⟨none, x, none⟩
def kX (n : Int) : SMO := .k (.one (.v (.int .i64) n))
def sX : ShV := .one (.c (.v (.int .i64)))
def iX : List Ty := [.int .i64]
def lX : Ty := .list iX
def zX : SC := .v (.int .i64) (0 : Int)
def vX : ShC := .c (.v (.int .i64))
def fX (n k : Nat) : ShC := .c (.full n k)
def rX (n : Nat) : ShC := .c (.ptr0 n 0)
instance tX (n : Nat) : OfNat SMO n := ⟨.t n⟩
def fn_laws_szIntS : SFn := ⟨50, ag_laws_szIntS, mu_laws_szIntS, rs_laws_szIntS, F_laws_szIntS⟩
def sc_laws_szIntS : SCode :=
 (.seq
 (.reg false [
 oX 4 (.mv (kX 0))])
 (.seq
 (.reg false [
 oX 5 (.mv 1),
 oX 6 (.mv 0),
 oX 7 (.len 6),
 oX 8 (.bin .sub 5 7),
 oX 1 (.mv 8)])
 (.seq
 (.seq
 (.reg false [
 oX 9 (.mv 1),
 oX 10 (.bin .lss 9 (kX 0))])
 (.cond 10
 (.seq
 (.reg false [
 oX 4 (.mv (kX (-1)))])
 .ret)
 .skip))
 (.seq
 (.reg false [
 oX 11 (.mv 1),
 oX 4 (.mv 11)])
 .ret))))
def ms_laws_szIntS : List MRes := [.tmp 4]
theorem n_laws_szIntS (NN : Nat) (x : DLL (Sig.tys ag_laws_szIntS)) : runS NN [] sc_laws_szIntS ms_laws_szIntS ag_laws_szIntS rs_laws_szIntS x = G_laws_szIntS NN x := by kernel_rfl
theorem k_laws_szIntS : chkS pX 50 sc_laws_szIntS.er ms_laws_szIntS 2 = true := by decide +kernel
theorem p_laws_szIntS : PureSpec pX 50 fn_laws_szIntS.M ∧ chkFun pX 50 = true :=
  pure_of_runS (T := []) (sc := sc_laws_szIntS) (ms := ms_laws_szIntS) (args := ag_laws_szIntS) (res := rs_laws_szIntS) (SOk.nil) follows_ok k_laws_szIntS F_laws_szIntS fun x y h => (n_laws_szIntS FUEL x).trans (f_laws_szIntS x y h)

def fn_laws_szTensor : SFn := ⟨14, ag_laws_szTensor, mu_laws_szTensor, rs_laws_szTensor, F_laws_szTensor⟩
def sc_laws_szTensor : SCode :=
 (.seq
 (.reg false [
 oX 2 (.box 3 0),
 oX 4 (.mv (kX 0))])
 (.seq
 (.reg false [
 oX 5 (.fieldA 0 2),
 oX 6 (.load false 1 5),
 oX 7 (.mv 1),
 oX 8 (.call .froz 50 [6, 7]),
 oX 1 (.mv 8)])
 (.seq
 (.seq
 (.reg false [
 oX 9 (.mv 1),
 oX 10 (.bin .lss 9 (kX 0))])
 (.cond 10
 (.seq
 (.reg false [
 oX 4 (.mv (kX (-1)))])
 .ret)
 .skip))
 (.seq
 (.reg false [
 oX 11 (.fieldA 1 2),
 oX 12 (.load false 1 11),
 oX 13 (.mv 1),
 oX 14 (.call .froz 50 [12, 13]),
 oX 1 (.mv 14)])
 (.seq
 (.seq
 (.reg false [
 oX 15 (.mv 1),
 oX 16 (.bin .lss 15 (kX 0))])
 (.cond 16
 (.seq
 (.reg false [
 oX 4 (.mv (kX (-1)))])
 .ret)
 .skip))
 (.seq
 (.reg false [
 oX 17 (.fieldA 2 2),
 oX 18 (.load false 1 17),
 oX 19 (.mv 1),
 oX 20 (.call .froz 50 [18, 19]),
 oX 1 (.mv 20)])
 (.seq
 (.seq
 (.reg false [
 oX 21 (.mv 1),
 oX 22 (.bin .lss 21 (kX 0))])
 (.cond 22
 (.seq
 (.reg false [
 oX 4 (.mv (kX (-1)))])
 .ret)
 .skip))
 (.seq
 (.reg false [
 oX 23 (.mv 1),
 oX 4 (.mv 23)])
 .ret))))))))
def ms_laws_szTensor : List MRes := [.tmp 4]
theorem n_laws_szTensor (NN : Nat) (x : DLL (Sig.tys ag_laws_szTensor)) : runS NN [fn_laws_szIntS] sc_laws_szTensor ms_laws_szTensor ag_laws_szTensor rs_laws_szTensor x = G_laws_szTensor NN x := by kernel_rfl
theorem k_laws_szTensor : chkS pX 14 sc_laws_szTensor.er ms_laws_szTensor 2 = true := by decide +kernel
theorem p_laws_szTensor : PureSpec pX 14 fn_laws_szTensor.M ∧ chkFun pX 14 = true :=
  pure_of_runS (T := [fn_laws_szIntS]) (sc := sc_laws_szTensor) (ms := ms_laws_szTensor) (args := ag_laws_szTensor) (res := rs_laws_szTensor) (SOk.cons p_laws_szIntS <| SOk.nil) follows_ok k_laws_szTensor F_laws_szTensor fun x y h => (n_laws_szTensor FUEL x).trans (f_laws_szTensor x y h)

def fn_laws_szIntSS : SFn := ⟨51, ag_laws_szIntSS, mu_laws_szIntSS, rs_laws_szIntSS, F_laws_szIntSS⟩
def sc_laws_szIntSS : SCode :=
 (.seq
 (.reg false [
 oX 4 (.mv (kX 0))])
 (.seq
 (.reg false [
 oX 6 (.mv 1),
 oX 7 (.mv 0),
 oX 8 (.len 7),
 oX 9 (.bin .sub 6 8),
 oX 1 (.mv 9)])
 (.seq
 (.seq
 (.reg false [
 oX 10 (.mv 1),
 oX 11 (.bin .lss 10 (kX 0))])
 (.cond 11
 (.seq
 (.reg false [
 oX 4 (.mv (kX (-1)))])
 .ret)
 .skip))
 (.seq
 (.seq
 (.reg false [
 oX 5 (.mv (kX 0))])
 (.join ⟨[(1, sX)], []⟩ [] []
 (.block 0
 (.loop 0 ⟨[(0, .one (.c (.v (.list [lX])))), (1, sX), (5, sX)], []⟩ [] []
 (.seq
 (.seq
 (.reg false [
 oX 12 (.mv 5),
 oX 13 (.mv 0),
 oX 14 (.len 13),
 oX 15 (.bin .lss 12 14)])
 (.cond 15
 .skip
 (.exit 0)))
 (.seq
 (.block 1
 (.seq
 (.reg false [
 oX 18 (.mv 0),
 oX 19 (.mv 5),
 oX 20 (.idxA 1 18 19),
 oX 21 (.load false 1 20),
 oX 22 (.mv 1),
 oX 23 (.call .froz 50 [21, 22]),
 oX 1 (.mv 23)])
 (.seq
 (.reg false [
 oX 24 (.mv 1),
 oX 25 (.bin .lss 24 (kX 0))])
 (.cond 25
 (.seq
 (.reg false [
 oX 4 (.mv (kX (-1)))])
 .ret)
 .skip))))
 (.reg false [
 oX 16 (.mv 5),
 oX 17 (.bin .add 16 (kX 1)),
 oX 5 (.mv 17)])))))))
 (.seq
 (.reg false [
 oX 26 (.mv 1),
 oX 4 (.mv 26)])
 .ret)))))
def ms_laws_szIntSS : List MRes := [.tmp 4]
theorem n_laws_szIntSS (NN : Nat) (x : DLL (Sig.tys ag_laws_szIntSS)) : runS NN [fn_laws_szIntS] sc_laws_szIntSS ms_laws_szIntSS ag_laws_szIntSS rs_laws_szIntSS x = G_laws_szIntSS NN x := by kernel_rfl
theorem k_laws_szIntSS : chkS pX 51 sc_laws_szIntSS.er ms_laws_szIntSS 2 = true := by decide +kernel
theorem p_laws_szIntSS : PureSpec pX 51 fn_laws_szIntSS.M ∧ chkFun pX 51 = true :=
  pure_of_runS (T := [fn_laws_szIntS]) (sc := sc_laws_szIntSS) (ms := ms_laws_szIntSS) (args := ag_laws_szIntSS) (res := rs_laws_szIntSS) (SOk.cons p_laws_szIntS <| SOk.nil) follows_ok k_laws_szIntSS F_laws_szIntSS fun x y h => (n_laws_szIntSS FUEL x).trans (f_laws_szIntSS x y h)

def fn_laws_szCharges : SFn := ⟨15, ag_laws_szCharges, mu_laws_szCharges, rs_laws_szCharges, F_laws_szCharges⟩
def sc_laws_szCharges : SCode :=
 (.seq
 (.reg false [
 oX 2 (.box 2 0),
 oX 4 (.mv (kX 0))])
 (.seq
 (.reg false [
 oX 5 (.fieldA 1 2),
 oX 6 (.load false 1 5),
 oX 7 (.mv 1),
 oX 8 (.call .froz 51 [6, 7]),
 oX 1 (.mv 8)])
 (.seq
 (.seq
 (.reg false [
 oX 9 (.mv 1),
 oX 10 (.bin .lss 9 (kX 0))])
 (.cond 10
 (.seq
 (.reg false [
 oX 4 (.mv (kX (-1)))])
 .ret)
 .skip))
 (.seq
 (.reg false [
 oX 11 (.mv 1),
 oX 4 (.mv 11)])
 .ret))))
def ms_laws_szCharges : List MRes := [.tmp 4]
theorem n_laws_szCharges (NN : Nat) (x : DLL (Sig.tys ag_laws_szCharges)) : runS NN [fn_laws_szIntSS] sc_laws_szCharges ms_laws_szCharges ag_laws_szCharges rs_laws_szCharges x = G_laws_szCharges NN x := by kernel_rfl
theorem k_laws_szCharges : chkS pX 15 sc_laws_szCharges.er ms_laws_szCharges 2 = true := by decide +kernel
theorem p_laws_szCharges : PureSpec pX 15 fn_laws_szCharges.M ∧ chkFun pX 15 = true :=
  pure_of_runS (T := [fn_laws_szIntSS]) (sc := sc_laws_szCharges) (ms := ms_laws_szCharges) (args := ag_laws_szCharges) (res := rs_laws_szCharges) (SOk.cons p_laws_szIntSS <| SOk.nil) follows_ok k_laws_szCharges F_laws_szCharges fun x y h => (n_laws_szCharges FUEL x).trans (f_laws_szCharges x y h)

def fn_laws_toRing : SFn := ⟨17, ag_laws_toRing, mu_laws_toRing, rs_laws_toRing, F_laws_toRing⟩
def sc_laws_toRing : SCode :=
 (.seq
 (.reg false [
 oX 1 (.box 3 0),
 oX 2 (.alloc [zX, zX, zX])])
 (.seq
 (.reg false [
 oX 3 (.alloc [zX, zX, zX])])
 (.seq
 (.reg false [
 oX 4 (.fieldA 0 1),
 oX 5 (.load false 1 4),
 oX 6 (.fieldA 0 3),
 uX (.store 1 6 5)])
 (.seq
 (.reg false [
 oX 7 (.fieldA 1 1),
 oX 8 (.load false 1 7),
 oX 9 (.fieldA 1 3),
 uX (.store 1 9 8)])
 (.seq
 (.reg false [
 oX 10 (.fieldA 2 1),
 oX 11 (.load false 1 10),
 oX 12 (.fieldA 2 3),
 uX (.store 1 12 11)])
 (.seq
 (.reg false [
 oX 13 (.load true 3 3),
 uX (.store 3 2 13)])
 .ret))))))
def ms_laws_toRing : List MRes := [.cell 2 3 true]
theorem n_laws_toRing (NN : Nat) (x : DLL (Sig.tys ag_laws_toRing)) : runS NN [] sc_laws_toRing ms_laws_toRing ag_laws_toRing rs_laws_toRing x = G_laws_toRing NN x := by kernel_rfl
theorem k_laws_toRing : chkS pX 17 sc_laws_toRing.er ms_laws_toRing 1 = true := by decide +kernel
theorem p_laws_toRing : PureSpec pX 17 fn_laws_toRing.M ∧ chkFun pX 17 = true :=
  pure_of_runS (T := []) (sc := sc_laws_toRing) (ms := ms_laws_toRing) (args := ag_laws_toRing) (res := rs_laws_toRing) (SOk.nil) follows_ok k_laws_toRing F_laws_toRing fun x y h => (n_laws_toRing FUEL x).trans (f_laws_toRing x y h)

def fn_laws_toIntS : SFn := ⟨31, ag_laws_toIntS, mu_laws_toIntS, rs_laws_toIntS, F_laws_toIntS⟩
def sc_laws_toIntS : SCode :=
 (.seq
 (.reg false [
 oX 2 (.mv (.k (.one (.nil iX))))])
 (.seq
 (.reg false [
 oX 5 (.mv 0),
 oX 6 (.len 5),
 oX 7 (.mkslice .froz iX 8 (0 : Int) 6 6),
 oX 3 (.mv 7)])
 (.seq
 (.seq
 (.reg false [
 oX 4 (.mv (kX 0))])
 (.join ⟨[(3, .one (fX 500001 1))], [(500001, .row true .froz iX)]⟩ [500000, 500001] [(false, 3, 0, 500001, .froz, [])]
 (.block 0
 (.loop 0 ⟨[(0, .one (.c (.v (lX)))), (3, .one (fX 500000 1)), (4, sX)], [(500000, .row true .froz iX)]⟩ [7, 500000] [(false, 3, 0, 500000, .froz, [])]
 (.seq
 (.seq
 (.reg false [
 oX 8 (.mv 4),
 oX 9 (.mv 0),
 oX 10 (.len 9),
 oX 11 (.bin .lss 8 10)])
 (.cond 11
 .skip
 (.exit 0)))
 (.seq
 (.block 1
 (.reg false [
 oX 14 (.mv 3),
 oX 15 (.mv 4),
 oX 16 (.mv 0),
 oX 17 (.mv 4),
 oX 18 (.idxA 1 16 17),
 oX 19 (.load false 1 18),
 oX 20 (.idxA 1 14 15),
 uX (.store 1 20 19)]))
 (.reg false [
 oX 12 (.mv 4),
 oX 13 (.bin .add 12 (kX 1)),
 oX 4 (.mv 13)])))))))
 (.seq
 (.reg false [
 oX 21 (.mv 3),
 oX 2 (.mv 21)])
 .ret))))
def ms_laws_toIntS : List MRes := [.tmp 2]
theorem n_laws_toIntS (NN : Nat) (x : DLL (Sig.tys ag_laws_toIntS)) : runS NN [] sc_laws_toIntS ms_laws_toIntS ag_laws_toIntS rs_laws_toIntS x = G_laws_toIntS NN x := by kernel_rfl
theorem k_laws_toIntS : chkS pX 31 sc_laws_toIntS.er ms_laws_toIntS 1 = true := by decide +kernel
theorem p_laws_toIntS : PureSpec pX 31 fn_laws_toIntS.M ∧ chkFun pX 31 = true :=
  pure_of_runS (T := []) (sc := sc_laws_toIntS) (ms := ms_laws_toIntS) (args := ag_laws_toIntS) (res := rs_laws_toIntS) (SOk.nil) follows_ok k_laws_toIntS F_laws_toIntS fun x y h => (n_laws_toIntS FUEL x).trans (f_laws_toIntS x y h)

def fn_laws_toTensor : SFn := ⟨18, ag_laws_toTensor, mu_laws_toTensor, rs_laws_toTensor, F_laws_toTensor⟩
def sc_laws_toTensor : SCode :=
 (.seq
 (.reg false [
 oX 1 (.box 3 0),
 oX 2 (.alloc [.nil iX, .nil iX, .nil iX])])
 (.seq
 (.reg false [
 oX 3 (.alloc [.nil iX, .nil iX, .nil iX])])
 (.seq
 (.reg false [
 oX 4 (.fieldA 0 1),
 oX 5 (.load false 1 4),
 oX 6 (.call .froz 31 [5]),
 oX 7 (.fieldA 0 3),
 uX (.store 1 7 6)])
 (.seq
 (.reg false [
 oX 8 (.fieldA 1 1),
 oX 9 (.load false 1 8),
 oX 10 (.call .froz 31 [9]),
 oX 11 (.fieldA 1 3),
 uX (.store 1 11 10)])
 (.seq
 (.reg false [
 oX 12 (.fieldA 2 1),
 oX 13 (.load false 1 12),
 oX 14 (.call .froz 31 [13]),
 oX 15 (.fieldA 2 3),
 uX (.store 1 15 14)])
 (.seq
 (.reg false [
 oX 16 (.load true 3 3),
 uX (.store 3 2 16)])
 .ret))))))
def ms_laws_toTensor : List MRes := [.cell 2 3 true]
theorem n_laws_toTensor (NN : Nat) (x : DLL (Sig.tys ag_laws_toTensor)) : runS NN [fn_laws_toIntS] sc_laws_toTensor ms_laws_toTensor ag_laws_toTensor rs_laws_toTensor x = G_laws_toTensor NN x := by kernel_rfl
theorem k_laws_toTensor : chkS pX 18 sc_laws_toTensor.er ms_laws_toTensor 1 = true := by decide +kernel
theorem p_laws_toTensor : PureSpec pX 18 fn_laws_toTensor.M ∧ chkFun pX 18 = true :=
  pure_of_runS (T := [fn_laws_toIntS]) (sc := sc_laws_toTensor) (ms := ms_laws_toTensor) (args := ag_laws_toTensor) (res := rs_laws_toTensor) (SOk.cons p_laws_toIntS <| SOk.nil) follows_ok k_laws_toTensor F_laws_toTensor fun x y h => (n_laws_toTensor FUEL x).trans (f_laws_toTensor x y h)

def fn_laws_toIntSS : SFn := ⟨60, ag_laws_toIntSS, mu_laws_toIntSS, rs_laws_toIntSS, F_laws_toIntSS⟩
def sc_laws_toIntSS : SCode :=
 (.seq
 (.reg false [
 oX 2 (.mv (.k (.one (.nil [lX]))))])
 (.seq
 (.reg false [
 oX 5 (.mv 0),
 oX 6 (.len 5),
 oX 7 (.mkslice .froz [lX] 24 [] 6 6),
 oX 3 (.mv 7)])
 (.seq
 (.seq
 (.reg false [
 oX 4 (.mv (kX 0))])
 (.join ⟨[(3, .one (fX 500001 1))], [(500001, .row true .froz [lX])]⟩ [500000, 500001] [(false, 3, 0, 500001, .froz, [])]
 (.block 0
 (.loop 0 ⟨[(0, .one (.c (.v (.list [lX])))), (3, .one (fX 500000 1)), (4, sX)], [(500000, .row true .froz [lX])]⟩ [7, 500000] [(false, 3, 0, 500000, .froz, [])]
 (.seq
 (.seq
 (.reg false [
 oX 8 (.mv 4),
 oX 9 (.mv 0),
 oX 10 (.len 9),
 oX 11 (.bin .lss 8 10)])
 (.cond 11
 .skip
 (.exit 0)))
 (.seq
 (.block 1
 (.reg false [
 oX 14 (.mv 3),
 oX 15 (.mv 4),
 oX 16 (.mv 0),
 oX 17 (.mv 4),
 oX 18 (.idxA 1 16 17),
 oX 19 (.load false 1 18),
 oX 20 (.call .froz 31 [19]),
 oX 21 (.idxA 1 14 15),
 uX (.store 1 21 20)]))
 (.reg false [
 oX 12 (.mv 4),
 oX 13 (.bin .add 12 (kX 1)),
 oX 4 (.mv 13)])))))))
 (.seq
 (.reg false [
 oX 22 (.mv 3),
 oX 2 (.mv 22)])
 .ret))))
def ms_laws_toIntSS : List MRes := [.tmp 2]
theorem n_laws_toIntSS (NN : Nat) (x : DLL (Sig.tys ag_laws_toIntSS)) : runS NN [fn_laws_toIntS] sc_laws_toIntSS ms_laws_toIntSS ag_laws_toIntSS rs_laws_toIntSS x = G_laws_toIntSS NN x := by kernel_rfl
theorem k_laws_toIntSS : chkS pX 60 sc_laws_toIntSS.er ms_laws_toIntSS 1 = true := by decide +kernel
theorem p_laws_toIntSS : PureSpec pX 60 fn_laws_toIntSS.M ∧ chkFun pX 60 = true :=
  pure_of_runS (T := [fn_laws_toIntS]) (sc := sc_laws_toIntSS) (ms := ms_laws_toIntSS) (args := ag_laws_toIntSS) (res := rs_laws_toIntSS) (SOk.cons p_laws_toIntS <| SOk.nil) follows_ok k_laws_toIntSS F_laws_toIntSS fun x y h => (n_laws_toIntSS FUEL x).trans (f_laws_toIntSS x y h)

def fn_laws_toCharges : SFn := ⟨19, ag_laws_toCharges, mu_laws_toCharges, rs_laws_toCharges, F_laws_toCharges⟩
def sc_laws_toCharges : SCode :=
 (.seq
 (.reg false [
 oX 1 (.box 2 0),
 oX 2 (.alloc [zX, .nil [lX]])])
 (.seq
 (.reg false [
 oX 3 (.alloc [zX, .nil [lX]])])
 (.seq
 (.reg false [
 oX 4 (.fieldA 0 1),
 oX 5 (.load false 1 4),
 oX 6 (.fieldA 0 3),
 uX (.store 1 6 5)])
 (.seq
 (.reg false [
 oX 7 (.fieldA 1 1),
 oX 8 (.load false 1 7),
 oX 9 (.call .froz 60 [8]),
 oX 10 (.fieldA 1 3),
 uX (.store 1 10 9)])
 (.seq
 (.reg false [
 oX 11 (.load true 2 3),
 uX (.store 2 2 11)])
 .ret)))))
def ms_laws_toCharges : List MRes := [.cell 2 2 true]
theorem n_laws_toCharges (NN : Nat) (x : DLL (Sig.tys ag_laws_toCharges)) : runS NN [fn_laws_toIntSS] sc_laws_toCharges ms_laws_toCharges ag_laws_toCharges rs_laws_toCharges x = G_laws_toCharges NN x := by kernel_rfl
theorem k_laws_toCharges : chkS pX 19 sc_laws_toCharges.er ms_laws_toCharges 1 = true := by decide +kernel
theorem p_laws_toCharges : PureSpec pX 19 fn_laws_toCharges.M ∧ chkFun pX 19 = true :=
  pure_of_runS (T := [fn_laws_toIntSS]) (sc := sc_laws_toCharges) (ms := ms_laws_toCharges) (args := ag_laws_toCharges) (res := rs_laws_toCharges) (SOk.cons p_laws_toIntSS <| SOk.nil) follows_ok k_laws_toCharges F_laws_toCharges fun x y h => (n_laws_toCharges FUEL x).trans (f_laws_toCharges x y h)

def fn_spec_l01In : SFn := ⟨97, ag_spec_l01In, mu_spec_l01In, rs_spec_l01In, F_spec_l01In⟩
def sc_spec_l01In : SCode :=
 (.seq
 (.reg false [
 oX 6 (.mv (.k (.one (.v (.bool) (false)))))])
 (.seq
 (.reg false [
 oX 7 (.mv 0),
 oX 8 (.mv 1),
 oX 9 (.bin .geq 7 8),
 oX 10 (.mv 9),
 ⟨(some 11), .mv 0, (some (10, true))⟩,
 ⟨(some 12), .mv 2, (some (10, true))⟩,
 ⟨(some 13), .bin .leq 11 12, (some (10, true))⟩,
 oX 14 (.pick 10 13 (.k (.one (.v (.bool) (false))))),
 oX 6 (.mv 14)])
 .ret))
def ms_spec_l01In : List MRes := [.tmp 6]
theorem n_spec_l01In (NN : Nat) (x : DLL (Sig.tys ag_spec_l01In)) : runS NN [] sc_spec_l01In ms_spec_l01In ag_spec_l01In rs_spec_l01In x = G_spec_l01In NN x := by kernel_rfl
theorem k_spec_l01In : chkS pX 97 sc_spec_l01In.er ms_spec_l01In 3 = true := by decide +kernel
theorem p_spec_l01In : PureSpec pX 97 fn_spec_l01In.M ∧ chkFun pX 97 = true :=
  pure_of_runS (T := []) (sc := sc_spec_l01In) (ms := ms_spec_l01In) (args := ag_spec_l01In) (res := rs_spec_l01In) (SOk.nil) follows_ok k_spec_l01In F_spec_l01In fun x y h => (n_spec_l01In FUEL x).trans (f_spec_l01In x y h)

def fn_spec_l05Find : SFn := ⟨132, ag_spec_l05Find, mu_spec_l05Find, rs_spec_l05Find, F_spec_l05Find⟩
def sc_spec_l05Find : SCode :=
 (.seq
 (.reg false [
 oX 4 (.mv (kX 0))])
 (.seq
 (.seq
 (.reg false [
 oX 7 (.mv 0),
 oX 8 (.len 7),
 oX 9 (.mv (kX 0))])
 (.join ⟨[], []⟩ [] []
 (.block 0
 (.loop 0 ⟨[(1, sX), (7, .one (.c (.v (lX)))), (8, sX), (9, sX)], []⟩ [] []
 (.seq
 (.reg false [
 oX 10 (.bin .lss 9 8)])
 (.seq
 (.cond 10
 .skip
 (.exit 0))
 (.seq
 (.block 1
 (.seq
 (.reg false [
 oX 11 (.mv 9),
 oX 12 (.idxA 1 7 9),
 oX 13 (.load false 1 12),
 oX 5 (.mv 11),
 oX 6 (.mv 13)])
 (.seq
 (.reg false [
 oX 14 (.mv 6),
 oX 15 (.mv 1),
 oX 16 (.bin .eql 14 15)])
 (.cond 16
 (.seq
 (.reg false [
 oX 17 (.mv 5),
 oX 4 (.mv 17)])
 .ret)
 .skip))))
 (.reg false [
 oX 18 (.bin .add 9 (kX 1)),
 oX 9 (.mv 18)]))))))))
 (.seq
 (.reg false [
 oX 4 (.mv (kX (-1)))])
 .ret)))
def ms_spec_l05Find : List MRes := [.tmp 4]
theorem n_spec_l05Find (NN : Nat) (x : DLL (Sig.tys ag_spec_l05Find)) : runS NN [] sc_spec_l05Find ms_spec_l05Find ag_spec_l05Find rs_spec_l05Find x = G_spec_l05Find NN x := by kernel_rfl
theorem k_spec_l05Find : chkS pX 132 sc_spec_l05Find.er ms_spec_l05Find 2 = true := by decide +kernel
theorem p_spec_l05Find : PureSpec pX 132 fn_spec_l05Find.M ∧ chkFun pX 132 = true :=
  pure_of_runS (T := []) (sc := sc_spec_l05Find) (ms := ms_spec_l05Find) (args := ag_spec_l05Find) (res := rs_spec_l05Find) (SOk.nil) follows_ok k_spec_l05Find F_spec_l05Find fun x y h => (n_spec_l05Find FUEL x).trans (f_spec_l05Find x y h)

def fn_spec_l05Axes : SFn := ⟨129, ag_spec_l05Axes, mu_spec_l05Axes, rs_spec_l05Axes, F_spec_l05Axes⟩
def sc_spec_l05Axes : SCode :=
 (.seq
 (.reg false [
 oX 4 (.mv (.k (.one (.v (.bool) (false)))))])
 (.seq
 (.seq
 (.reg false [
 oX 7 (.mv 0),
 oX 8 (.len 7),
 oX 9 (.bin .gtr 8 (kX 12)),
 oX 10 (.mv 9),
 ⟨(some 11), .mv 0, (some (10, false))⟩,
 ⟨(some 12), .len 11, (some (10, false))⟩,
 ⟨(some 13), .mv 1, (some (10, false))⟩,
 ⟨(some 14), .len 13, (some (10, false))⟩,
 ⟨(some 15), .bin .neq 12 14, (some (10, false))⟩,
 oX 16 (.pick 10 (.k (.one (.v (.bool) (true)))) 15)])
 (.cond 16
 (.seq
 (.reg false [
 oX 4 (.mv (.k (.one (.v (.bool) (false)))))])
 .ret)
 .skip))
 (.seq
 (.seq
 (.reg false [
 oX 17 (.mv 0),
 oX 18 (.len 17),
 oX 19 (.mv (kX 0))])
 (.join ⟨[], []⟩ [] []
 (.block 0
 (.loop 0 ⟨[(0, .one (.c (.v (lX)))), (1, .one (.c (.v (lX)))), (17, .one (.c (.v (lX)))), (18, sX), (19, sX)], []⟩ [] []
 (.seq
 (.reg false [
 oX 20 (.bin .lss 19 18)])
 (.seq
 (.cond 20
 .skip
 (.exit 0))
 (.seq
 (.block 1
 (.seq
 (.reg false [
 oX 21 (.mv 19),
 oX 22 (.idxA 1 17 19),
 oX 23 (.load false 1 22),
 oX 5 (.mv 21),
 oX 6 (.mv 23)])
 (.seq
 (.reg false [
 oX 24 (.mv 6),
 oX 25 (.call .froz 97 [24, (kX 0), (kX 99)]),
 oX 26 (.un .not 25),
 oX 27 (.mv 26),
 ⟨(some 28), .mv 1, (some (27, false))⟩,
 ⟨(some 29), .mv 5, (some (27, false))⟩,
 ⟨(some 30), .idxA 1 28 29, (some (27, false))⟩,
 ⟨(some 31), .load false 1 30, (some (27, false))⟩,
 ⟨(some 32), .call .froz 97 [31, (kX 1), (kX 8)], (some (27, false))⟩,
 ⟨(some 33), .un .not 32, (some (27, false))⟩,
 oX 34 (.pick 27 (.k (.one (.v (.bool) (true)))) 33),
 oX 35 (.mv 34),
 ⟨(some 36), .mv 0, (some (35, false))⟩,
 ⟨(some 37), .mv 5, (some (35, false))⟩,
 ⟨(some 38), .slice 1 36 none (some 37), (some (35, false))⟩,
 ⟨(some 39), .mv 6, (some (35, false))⟩,
 ⟨(some 40), .call .froz 132 [38, 39], (some (35, false))⟩,
 ⟨(some 41), .bin .geq 40 (kX 0), (some (35, false))⟩,
 oX 42 (.pick 35 (.k (.one (.v (.bool) (true)))) 41)])
 (.cond 42
 (.seq
 (.reg false [
 oX 4 (.mv (.k (.one (.v (.bool) (false)))))])
 .ret)
 .skip))))
 (.reg false [
 oX 43 (.bin .add 19 (kX 1)),
 oX 19 (.mv 43)]))))))))
 (.seq
 (.reg false [
 oX 4 (.mv (.k (.one (.v (.bool) (true)))))])
 .ret))))
def ms_spec_l05Axes : List MRes := [.tmp 4]
theorem n_spec_l05Axes (NN : Nat) (x : DLL (Sig.tys ag_spec_l05Axes)) : runS NN [fn_spec_l01In, fn_spec_l05Find] sc_spec_l05Axes ms_spec_l05Axes ag_spec_l05Axes rs_spec_l05Axes x = G_spec_l05Axes NN x := by kernel_rfl
theorem k_spec_l05Axes : chkS pX 129 sc_spec_l05Axes.er ms_spec_l05Axes 2 = true := by decide +kernel
theorem p_spec_l05Axes : PureSpec pX 129 fn_spec_l05Axes.M ∧ chkFun pX 129 = true :=
  pure_of_runS (T := [fn_spec_l01In, fn_spec_l05Find]) (sc := sc_spec_l05Axes) (ms := ms_spec_l05Axes) (args := ag_spec_l05Axes) (res := rs_spec_l05Axes) (SOk.cons p_spec_l01In <| SOk.cons p_spec_l05Find <| SOk.nil) follows_ok k_spec_l05Axes F_spec_l05Axes fun x y h => (n_spec_l05Axes FUEL x).trans (f_spec_l05Axes x y h)

def fn_spec_l05Product : SFn := ⟨55, ag_spec_l05Product, mu_spec_l05Product, rs_spec_l05Product, F_spec_l05Product⟩
def sc_spec_l05Product : SCode :=
 (.seq
 (.reg false [
 oX 4 (.mv (kX 0))])
 (.seq
 (.reg false [
 oX 5 (.mv (kX 1))])
 (.seq
 (.seq
 (.reg false [
 oX 8 (.mv 0),
 oX 9 (.len 8),
 oX 10 (.mv (kX 0))])
 (.join ⟨[(5, sX)], []⟩ [] []
 (.block 0
 (.loop 0 ⟨[(1, sX), (5, sX), (8, .one (.c (.v (lX)))), (9, sX), (10, sX)], []⟩ [] []
 (.seq
 (.reg false [
 oX 11 (.bin .lss 10 9)])
 (.seq
 (.cond 11
 .skip
 (.exit 0))
 (.seq
 (.block 1
 (.seq
 (.reg false [
 oX 12 (.idxA 1 8 10),
 oX 13 (.load false 1 12),
 oX 7 (.mv 13)])
 (.reg false [
 oX 14 (.mv 5),
 oX 15 (.mv 7),
 oX 16 (.bin .mul 14 15),
 oX 17 (.mv 1),
 oX 18 (.bin .add 17 (kX 1)),
 oX 19 (.mm false 16 18),
 oX 5 (.mv 19)])))
 (.reg false [
 oX 20 (.bin .add 10 (kX 1)),
 oX 10 (.mv 20)]))))))))
 (.seq
 (.reg false [
 oX 21 (.mv 5),
 oX 4 (.mv 21)])
 .ret))))
def ms_spec_l05Product : List MRes := [.tmp 4]
theorem n_spec_l05Product (NN : Nat) (x : DLL (Sig.tys ag_spec_l05Product)) : runS NN [] sc_spec_l05Product ms_spec_l05Product ag_spec_l05Product rs_spec_l05Product x = G_spec_l05Product NN x := by kernel_rfl
theorem k_spec_l05Product : chkS pX 55 sc_spec_l05Product.er ms_spec_l05Product 2 = true := by decide +kernel
theorem p_spec_l05Product : PureSpec pX 55 fn_spec_l05Product.M ∧ chkFun pX 55 = true :=
  pure_of_runS (T := []) (sc := sc_spec_l05Product) (ms := ms_spec_l05Product) (args := ag_spec_l05Product) (res := rs_spec_l05Product) (SOk.nil) follows_ok k_spec_l05Product F_spec_l05Product fun x y h => (n_spec_l05Product FUEL x).trans (f_spec_l05Product x y h)

def fn_spec_TensorSize : SFn := ⟨105, ag_spec_TensorSize, mu_spec_TensorSize, rs_spec_TensorSize, F_spec_TensorSize⟩
def sc_spec_TensorSize : SCode :=
 (.seq
 (.reg false [
 oX 1 (.box 3 0),
 oX 2 (.mv (kX 0))])
 (.seq
 (.seq
 (.reg false [
 oX 4 (.fieldA 0 1),
 oX 5 (.load false 1 4),
 oX 6 (.fieldA 1 1),
 oX 7 (.load false 1 6),
 oX 8 (.call .froz 129 [5, 7]),
 oX 9 (.un .not 8)])
 (.cond 9
 (.seq
 (.reg false [
 oX 2 (.mv (kX (-1)))])
 .ret)
 .skip))
 (.seq
 (.reg false [
 oX 10 (.fieldA 1 1),
 oX 11 (.load false 1 10),
 oX 12 (.call .froz 55 [11, (kX 4096)]),
 oX 3 (.mv 12)])
 (.seq
 (.seq
 (.reg false [
 oX 13 (.mv 3),
 oX 14 (.bin .gtr 13 (kX 4096))])
 (.cond 14
 (.seq
 (.reg false [
 oX 2 (.mv (kX (-1)))])
 .ret)
 .skip))
 (.seq
 (.reg false [
 oX 15 (.mv 3),
 oX 2 (.mv 15)])
 .ret)))))
def ms_spec_TensorSize : List MRes := [.tmp 2]
theorem n_spec_TensorSize (NN : Nat) (x : DLL (Sig.tys ag_spec_TensorSize)) : runS NN [fn_spec_l05Axes, fn_spec_l05Product] sc_spec_TensorSize ms_spec_TensorSize ag_spec_TensorSize rs_spec_TensorSize x = G_spec_TensorSize NN x := by kernel_rfl
theorem k_spec_TensorSize : chkS pX 105 sc_spec_TensorSize.er ms_spec_TensorSize 1 = true := by decide +kernel
theorem p_spec_TensorSize : PureSpec pX 105 fn_spec_TensorSize.M ∧ chkFun pX 105 = true :=
  pure_of_runS (T := [fn_spec_l05Axes, fn_spec_l05Product]) (sc := sc_spec_TensorSize) (ms := ms_spec_TensorSize) (args := ag_spec_TensorSize) (res := rs_spec_TensorSize) (SOk.cons p_spec_l05Axes <| SOk.cons p_spec_l05Product <| SOk.nil) follows_ok k_spec_TensorSize F_spec_TensorSize fun x y h => (n_spec_TensorSize FUEL x).trans (f_spec_TensorSize x y h)

def fn_spec_IsPrime : SFn := ⟨96, ag_spec_IsPrime, mu_spec_IsPrime, rs_spec_IsPrime, F_spec_IsPrime⟩
def sc_spec_IsPrime : SCode :=
 (.seq
 (.reg false [
 oX 2 (.mv (.k (.one (.v (.bool) (false)))))])
 (.seq
 (.seq
 (.reg false [
 oX 3 (.mv (kX 2))])
 (.join ⟨[(0, sX)], []⟩ [] []
 (.block 0
 (.loop 0 ⟨[(0, sX), (3, sX)], []⟩ [] []
 (.seq
 (.seq
 (.reg false [
 oX 4 (.mv 3),
 oX 5 (.mv 3),
 oX 6 (.bin .mul 4 5),
 oX 7 (.mv 0),
 oX 8 (.bin .leq 6 7),
 oX 9 (.mv 8),
 ⟨(some 10), .mv 0, (some (9, true))⟩,
 ⟨(some 11), .bin .leq 10 (kX 1000003), (some (9, true))⟩,
 oX 12 (.pick 9 11 (.k (.one (.v (.bool) (false)))))])
 (.cond 12
 .skip
 (.exit 0)))
 (.seq
 (.block 1
 (.seq
 (.reg false [
 oX 15 (.mv 0),
 oX 16 (.mv 3),
 oX 17 (.bin .rem 15 16),
 oX 18 (.bin .eql 17 (kX 0))])
 (.cond 18
 (.seq
 (.reg false [
 oX 2 (.mv (.k (.one (.v (.bool) (false)))))])
 .ret)
 .skip)))
 (.reg false [
 oX 13 (.mv 3),
 oX 14 (.bin .add 13 (kX 1)),
 oX 3 (.mv 14)])))))))
 (.seq
 (.reg false [
 oX 19 (.mv 0),
 oX 20 (.call .froz 97 [19, (kX 2), (kX 1000003)]),
 oX 2 (.mv 20)])
 .ret)))
def ms_spec_IsPrime : List MRes := [.tmp 2]
theorem n_spec_IsPrime (NN : Nat) (x : DLL (Sig.tys ag_spec_IsPrime)) : runS NN [fn_spec_l01In] sc_spec_IsPrime ms_spec_IsPrime ag_spec_IsPrime rs_spec_IsPrime x = G_spec_IsPrime NN x := by kernel_rfl
theorem k_spec_IsPrime : chkS pX 96 sc_spec_IsPrime.er ms_spec_IsPrime 1 = true := by decide +kernel
theorem p_spec_IsPrime : PureSpec pX 96 fn_spec_IsPrime.M ∧ chkFun pX 96 = true :=
  pure_of_runS (T := [fn_spec_l01In]) (sc := sc_spec_IsPrime) (ms := ms_spec_IsPrime) (args := ag_spec_IsPrime) (res := rs_spec_IsPrime) (SOk.cons p_spec_l01In <| SOk.nil) follows_ok k_spec_IsPrime F_spec_IsPrime fun x y h => (n_spec_IsPrime FUEL x).trans (f_spec_IsPrime x y h)

def fn_spec_RingOk : SFn := ⟨106, ag_spec_RingOk, mu_spec_RingOk, rs_spec_RingOk, F_spec_RingOk⟩
def sc_spec_RingOk : SCode :=
 (.seq
 (.reg false [
 oX 1 (.box 3 0),
 oX 2 (.mv (.k (.one (.v (.bool) (false)))))])
 (.seq
 (.seq
 (.reg false [
 oX 3 (.fieldA 0 1),
 oX 4 (.load false 1 3)])
 (.block 0
 (.seq
 (.reg false [
 oX 6 (.bin .eql 4 (kX 1)),
 oX 5 (.mv 6)])
 (.cond 5
 (.seq
 (.reg false [
 oX 7 (.fieldA 1 1),
 oX 8 (.load false 1 7),
 oX 9 (.bin .eql 8 (kX 0)),
 oX 10 (.mv 9),
 ⟨(some 11), .fieldA 2 1, (some (10, true))⟩,
 ⟨(some 12), .load false 1 11, (some (10, true))⟩,
 ⟨(some 13), .bin .eql 12 (kX 0), (some (10, true))⟩,
 oX 14 (.pick 10 13 (.k (.one (.v (.bool) (false))))),
 oX 2 (.mv 14)])
 .ret)
 (.seq
 (.reg false [
 oX 16 (.bin .eql 4 (kX 2)),
 oX 15 (.mv 16)])
 (.cond 15
 (.seq
 (.reg false [
 oX 17 (.fieldA 1 1),
 oX 18 (.load false 1 17),
 oX 19 (.call .froz 96 [18]),
 oX 20 (.mv 19),
 ⟨(some 21), .fieldA 2 1, (some (20, true))⟩,
 ⟨(some 22), .load false 1 21, (some (20, true))⟩,
 ⟨(some 23), .bin .eql 22 (kX 0), (some (20, true))⟩,
 oX 24 (.pick 20 23 (.k (.one (.v (.bool) (false))))),
 oX 2 (.mv 24)])
 .ret)
 (.seq
 (.seq
 (.reg false [
 oX 26 (.bin .eql 4 (kX 3)),
 oX 25 (.mv 26)])
 (.join ⟨[(25, .one (.c (.v (.bool)))), (4, sX), (1, .one (rX 1))], [(1, .box [vX, vX, vX])]⟩ [1] []
 (.cond 25
 .skip
 (.seq
 (.reg false [
 oX 27 (.bin .eql 4 (kX 4)),
 oX 25 (.mv 27)])
 (.cond 25
 .skip
 (.reg false [
 oX 28 (.bin .eql 4 (kX 5)),
 oX 25 (.mv 28)]))))))
 (.cond 25
 (.seq
 (.reg false [
 oX 29 (.fieldA 1 1),
 oX 30 (.load false 1 29),
 oX 31 (.call .froz 97 [30, (kX 1), (kX 1000000)]),
 oX 32 (.mv 31),
 ⟨(some 33), .fieldA 2 1, (some (32, true))⟩,
 ⟨(some 34), .load false 1 33, (some (32, true))⟩,
 ⟨(some 35), .bin .eql 34 (kX 0), (some (32, true))⟩,
 oX 36 (.pick 32 35 (.k (.one (.v (.bool) (false))))),
 oX 2 (.mv 36)])
 .ret)
 (.seq
 (.reg false [
 oX 38 (.bin .eql 4 (kX 6)),
 oX 37 (.mv 38)])
 (.cond 37
 (.seq
 (.reg false [
 oX 39 (.fieldA 1 1),
 oX 40 (.load false 1 39),
 oX 41 (.bin .eql 40 (kX 0)),
 oX 42 (.mv 41),
 ⟨(some 43), .fieldA 2 1, (some (42, true))⟩,
 ⟨(some 44), .load false 1 43, (some (42, true))⟩,
 ⟨(some 45), .call .froz 97 [44, (kX 1), (kX 20)], (some (42, true))⟩,
 oX 46 (.pick 42 45 (.k (.one (.v (.bool) (false))))),
 oX 2 (.mv 46)])
 .ret)
 (.seq
 (.reg false [
 oX 48 (.bin .eql 4 (kX 7)),
 oX 47 (.mv 48)])
 (.cond 47
 (.seq
 (.reg false [
 oX 49 (.fieldA 1 1),
 oX 50 (.load false 1 49),
 oX 51 (.call .froz 96 [50]),
 oX 52 (.mv 51),
 ⟨(some 53), .fieldA 2 1, (some (52, true))⟩,
 ⟨(some 54), .load false 1 53, (some (52, true))⟩,
 ⟨(some 55), .call .froz 97 [54, (kX 1), (kX 6)], (some (52, true))⟩,
 oX 56 (.pick 52 55 (.k (.one (.v (.bool) (false))))),
 oX 2 (.mv 56)])
 .ret)
 (.seq
 (.reg false [
 oX 58 (.bin .eql 4 (kX 8)),
 oX 57 (.mv 58)])
 (.cond 57
 (.seq
 (.reg false [
 oX 59 (.fieldA 1 1),
 oX 60 (.load false 1 59),
 oX 61 (.call .froz 96 [60]),
 oX 62 (.mv 61),
 ⟨(some 63), .fieldA 1 1, (some (62, true))⟩,
 ⟨(some 64), .load false 1 63, (some (62, true))⟩,
 ⟨(some 65), .bin .gtr 64 (kX 2), (some (62, true))⟩,
 oX 66 (.pick 62 65 (.k (.one (.v (.bool) (false))))),
 oX 67 (.mv 66),
 ⟨(some 68), .fieldA 2 1, (some (67, true))⟩,
 ⟨(some 69), .load false 1 68, (some (67, true))⟩,
 ⟨(some 70), .bin .eql 69 (kX 0), (some (67, true))⟩,
 oX 71 (.pick 67 70 (.k (.one (.v (.bool) (false))))),
 oX 2 (.mv 71)])
 .ret)
 .skip))))))))))))))
 (.seq
 (.reg false [
 oX 2 (.mv (.k (.one (.v (.bool) (false)))))])
 .ret)))
def ms_spec_RingOk : List MRes := [.tmp 2]
theorem n_spec_RingOk (NN : Nat) (x : DLL (Sig.tys ag_spec_RingOk)) : runS NN [fn_spec_IsPrime, fn_spec_l01In] sc_spec_RingOk ms_spec_RingOk ag_spec_RingOk rs_spec_RingOk x = G_spec_RingOk NN x := by kernel_rfl
theorem k_spec_RingOk : chkS pX 106 sc_spec_RingOk.er ms_spec_RingOk 1 = true := by decide +kernel
theorem p_spec_RingOk : PureSpec pX 106 fn_spec_RingOk.M ∧ chkFun pX 106 = true :=
  pure_of_runS (T := [fn_spec_IsPrime, fn_spec_l01In]) (sc := sc_spec_RingOk) (ms := ms_spec_RingOk) (args := ag_spec_RingOk) (res := rs_spec_RingOk) (SOk.cons p_spec_IsPrime <| SOk.cons p_spec_l01In <| SOk.nil) follows_ok k_spec_RingOk F_spec_RingOk fun x y h => (n_spec_RingOk FUEL x).trans (f_spec_RingOk x y h)

def fn_spec_l02Width : SFn := ⟨107, ag_spec_l02Width, mu_spec_l02Width, rs_spec_l02Width, F_spec_l02Width⟩
def sc_spec_l02Width : SCode :=
 (.seq
 (.reg false [
 oX 1 (.box 3 0),
 oX 2 (.mv (kX 0))])
 (.seq
 (.seq
 (.reg false [
 oX 3 (.fieldA 0 1),
 oX 4 (.load false 1 3)])
 (.block 0
 (.seq
 (.reg false [
 oX 6 (.bin .eql 4 (kX 7)),
 oX 5 (.mv 6)])
 (.cond 5
 (.seq
 (.reg false [
 oX 7 (.fieldA 2 1),
 oX 8 (.load false 1 7),
 oX 2 (.mv 8)])
 .ret)
 (.seq
 (.reg false [
 oX 10 (.bin .eql 4 (kX 8)),
 oX 9 (.mv 10)])
 (.cond 9
 (.seq
 (.reg false [
 oX 2 (.mv (kX 4))])
 .ret)
 .skip))))))
 (.seq
 (.reg false [
 oX 2 (.mv (kX 1))])
 .ret)))
def ms_spec_l02Width : List MRes := [.tmp 2]
theorem n_spec_l02Width (NN : Nat) (x : DLL (Sig.tys ag_spec_l02Width)) : runS NN [] sc_spec_l02Width ms_spec_l02Width ag_spec_l02Width rs_spec_l02Width x = G_spec_l02Width NN x := by kernel_rfl
theorem k_spec_l02Width : chkS pX 107 sc_spec_l02Width.er ms_spec_l02Width 1 = true := by decide +kernel
theorem p_spec_l02Width : PureSpec pX 107 fn_spec_l02Width.M ∧ chkFun pX 107 = true :=
  pure_of_runS (T := []) (sc := sc_spec_l02Width) (ms := ms_spec_l02Width) (args := ag_spec_l02Width) (res := rs_spec_l02Width) (SOk.nil) follows_ok k_spec_l02Width F_spec_l02Width fun x y h => (n_spec_l02Width FUEL x).trans (f_spec_l02Width x y h)

def fn_spec_l02Top : SFn := ⟨108, ag_spec_l02Top, mu_spec_l02Top, rs_spec_l02Top, F_spec_l02Top⟩
def sc_spec_l02Top : SCode :=
 (.seq
 (.reg false [
 oX 1 (.box 3 0),
 oX 2 (.mv (kX 0))])
 (.seq
 (.seq
 (.reg false [
 oX 3 (.fieldA 0 1),
 oX 4 (.load false 1 3)])
 (.block 0
 (.seq
 (.reg false [
 oX 6 (.bin .eql 4 (kX 1)),
 oX 5 (.mv 6)])
 (.cond 5
 (.seq
 (.reg false [
 oX 2 (.mv (kX 1))])
 .ret)
 (.seq
 (.seq
 (.reg false [
 oX 8 (.bin .eql 4 (kX 3)),
 oX 7 (.mv 8)])
 (.join ⟨[(7, .one (.c (.v (.bool)))), (4, sX), (1, .one (rX 1))], [(1, .box [vX, vX, vX])]⟩ [1] []
 (.cond 7
 .skip
 (.seq
 (.reg false [
 oX 9 (.bin .eql 4 (kX 4)),
 oX 7 (.mv 9)])
 (.cond 7
 .skip
 (.reg false [
 oX 10 (.bin .eql 4 (kX 5)),
 oX 7 (.mv 10)]))))))
 (.cond 7
 (.seq
 (.reg false [
 oX 11 (.fieldA 1 1),
 oX 12 (.load false 1 11),
 oX 2 (.mv 12)])
 .ret)
 (.seq
 (.reg false [
 oX 14 (.bin .eql 4 (kX 6)),
 oX 13 (.mv 14)])
 (.cond 13
 (.seq
 (.reg false [
 oX 15 (.fieldA 2 1),
 oX 16 (.load false 1 15),
 oX 17 (.bin .shl (kX 1) 16),
 oX 18 (.bin .sub 17 (kX 1)),
 oX 2 (.mv 18)])
 .ret)
 .skip))))))))
 (.seq
 (.reg false [
 oX 19 (.fieldA 1 1),
 oX 20 (.load false 1 19),
 oX 21 (.bin .sub 20 (kX 1)),
 oX 2 (.mv 21)])
 .ret)))
def ms_spec_l02Top : List MRes := [.tmp 2]
theorem n_spec_l02Top (NN : Nat) (x : DLL (Sig.tys ag_spec_l02Top)) : runS NN [] sc_spec_l02Top ms_spec_l02Top ag_spec_l02Top rs_spec_l02Top x = G_spec_l02Top NN x := by kernel_rfl
theorem k_spec_l02Top : chkS pX 108 sc_spec_l02Top.er ms_spec_l02Top 1 = true := by decide +kernel
theorem p_spec_l02Top : PureSpec pX 108 fn_spec_l02Top.M ∧ chkFun pX 108 = true :=
  pure_of_runS (T := []) (sc := sc_spec_l02Top) (ms := ms_spec_l02Top) (args := ag_spec_l02Top) (res := rs_spec_l02Top) (SOk.nil) follows_ok k_spec_l02Top F_spec_l02Top fun x y h => (n_spec_l02Top FUEL x).trans (f_spec_l02Top x y h)

def fn_spec_TensorOk : SFn := ⟨52, ag_spec_TensorOk, mu_spec_TensorOk, rs_spec_TensorOk, F_spec_TensorOk⟩
def sc_spec_TensorOk : SCode :=
 (.seq
 (.reg false [
 oX 2 (.box 3 0),
 oX 3 (.box 3 1),
 oX 4 (.mv (.k (.one (.v (.bool) (false)))))])
 (.seq
 (.reg false [
 oX 8 (.load true 3 3),
 oX 9 (.call .froz 105 [8]),
 oX 5 (.mv 9)])
 (.seq
 (.seq
 (.reg true [
 oX 10 (.load true 3 2),
 oX 11 (.call .froz 106 [10]),
 oX 12 (.un .not 11),
 oX 13 (.mv 12),
 ⟨(some 14), .mv 5, (some (13, false))⟩,
 ⟨(some 15), .bin .lss 14 (kX 0), (some (13, false))⟩,
 oX 16 (.pick 13 (.k (.one (.v (.bool) (true)))) 15),
 oX 17 (.mv 16),
 ⟨(some 18), .fieldA 2 3, (some (17, false))⟩,
 ⟨(some 19), .load false 1 18, (some (17, false))⟩,
 ⟨(some 20), .len 19, (some (17, false))⟩,
 ⟨(some 21), .mv 5, (some (17, false))⟩,
 ⟨(some 22), .load true 3 2, (some (17, false))⟩,
 ⟨(some 23), .call .froz 107 [22], (some (17, false))⟩,
 ⟨(some 24), .bin .mul 21 23, (some (17, false))⟩,
 ⟨(some 25), .bin .neq 20 24, (some (17, false))⟩,
 oX 26 (.pick 17 (.k (.one (.v (.bool) (true)))) 25)])
 (.cond 26
 (.seq
 (.reg false [
 oX 4 (.mv (.k (.one (.v (.bool) (false)))))])
 .ret)
 .skip))
 (.seq
 (.seq
 (.reg false [
 oX 27 (.fieldA 2 3),
 oX 28 (.load false 1 27),
 oX 29 (.len 28),
 oX 30 (.mv (kX 0))])
 (.join ⟨[], []⟩ [2] []
 (.block 0
 (.loop 0 ⟨[(2, .one (rX 2)), (28, .one (.c (.v (lX)))), (29, sX), (30, sX)], [(2, .box [vX, vX, vX])]⟩ [2, 3] []
 (.seq
 (.reg false [
 oX 31 (.bin .lss 30 29)])
 (.seq
 (.cond 31
 .skip
 (.exit 0))
 (.seq
 (.block 1
 (.seq
 (.reg false [
 oX 32 (.idxA 1 28 30),
 oX 33 (.load false 1 32),
 oX 7 (.mv 33)])
 (.seq
 (.reg false [
 oX 34 (.mv 7),
 oX 35 (.load true 3 2),
 oX 36 (.call .froz 108 [35]),
 oX 37 (.call .froz 97 [34, (kX 0), 36]),
 oX 38 (.un .not 37)])
 (.cond 38
 (.seq
 (.reg false [
 oX 4 (.mv (.k (.one (.v (.bool) (false)))))])
 .ret)
 .skip))))
 (.reg false [
 oX 39 (.bin .add 30 (kX 1)),
 oX 30 (.mv 39)]))))))))
 (.seq
 (.reg false [
 oX 4 (.mv (.k (.one (.v (.bool) (true)))))])
 .ret)))))
def ms_spec_TensorOk : List MRes := [.tmp 4]
theorem n_spec_TensorOk (NN : Nat) (x : DLL (Sig.tys ag_spec_TensorOk)) : runS NN [fn_spec_TensorSize, fn_spec_RingOk, fn_spec_l02Width, fn_spec_l02Top, fn_spec_l01In] sc_spec_TensorOk ms_spec_TensorOk ag_spec_TensorOk rs_spec_TensorOk x = G_spec_TensorOk NN x := by kernel_rfl
theorem k_spec_TensorOk : chkS pX 52 sc_spec_TensorOk.er ms_spec_TensorOk 2 = true := by decide +kernel
theorem p_spec_TensorOk : PureSpec pX 52 fn_spec_TensorOk.M ∧ chkFun pX 52 = true :=
  pure_of_runS (T := [fn_spec_TensorSize, fn_spec_RingOk, fn_spec_l02Width, fn_spec_l02Top, fn_spec_l01In]) (sc := sc_spec_TensorOk) (ms := ms_spec_TensorOk) (args := ag_spec_TensorOk) (res := rs_spec_TensorOk) (SOk.cons p_spec_TensorSize <| SOk.cons p_spec_RingOk <| SOk.cons p_spec_l02Width <| SOk.cons p_spec_l02Top <| SOk.cons p_spec_l01In <| SOk.nil) follows_ok k_spec_TensorOk F_spec_TensorOk fun x y h => (n_spec_TensorOk FUEL x).trans (f_spec_TensorOk x y h)

def fn_spec_ChargesOk : SFn := ⟨53, ag_spec_ChargesOk, mu_spec_ChargesOk, rs_spec_ChargesOk, F_spec_ChargesOk⟩
def sc_spec_ChargesOk : SCode :=
 (.seq
 (.reg false [
 oX 2 (.box 3 0),
 oX 3 (.box 2 1),
 oX 4 (.mv (.k (.one (.v (.bool) (false)))))])
 (.seq
 (.seq
 (.reg false [
 oX 9 (.load true 3 2),
 oX 10 (.call .froz 105 [9]),
 oX 11 (.bin .lss 10 (kX 0)),
 oX 12 (.mv 11),
 ⟨(some 13), .fieldA 0 3, (some (12, false))⟩,
 ⟨(some 14), .load false 1 13, (some (12, false))⟩,
 ⟨(some 15), .call .froz 97 [14, (kX 1), (kX 12)], (some (12, false))⟩,
 ⟨(some 16), .un .not 15, (some (12, false))⟩,
 oX 17 (.pick 12 (.k (.one (.v (.bool) (true)))) 16),
 oX 18 (.mv 17),
 ⟨(some 19), .fieldA 1 3, (some (18, false))⟩,
 ⟨(some 20), .load false 1 19, (some (18, false))⟩,
 ⟨(some 21), .len 20, (some (18, false))⟩,
 ⟨(some 22), .fieldA 1 2, (some (18, false))⟩,
 ⟨(some 23), .load false 1 22, (some (18, false))⟩,
 ⟨(some 24), .len 23, (some (18, false))⟩,
 ⟨(some 25), .bin .neq 21 24, (some (18, false))⟩,
 oX 26 (.pick 18 (.k (.one (.v (.bool) (true)))) 25)])
 (.cond 26
 (.seq
 (.reg false [
 oX 4 (.mv (.k (.one (.v (.bool) (false)))))])
 .ret)
 .skip))
 (.seq
 (.seq
 (.reg false [
 oX 27 (.fieldA 1 2),
 oX 28 (.load false 1 27),
 oX 29 (.len 28),
 oX 30 (.mv (kX 0))])
 (.join ⟨[], []⟩ [3] []
 (.block 0
 (.loop 0 ⟨[(3, .one (rX 3)), (28, .one (.c (.v (lX)))), (29, sX), (30, sX)], [(3, .box [vX, .c (.v (.list [lX]))])]⟩ [2, 3] []
 (.seq
 (.reg false [
 oX 31 (.bin .lss 30 29)])
 (.seq
 (.cond 31
 .skip
 (.exit 0))
 (.seq
 (.join ⟨[(30, sX), (3, .one (rX 3)), (28, .one (.c (.v (lX)))), (29, sX)], [(3, .box [vX, .c (.v (.list [lX]))])]⟩ [3] []
 (.block 1
 (.seq
 (.reg false [
 oX 32 (.mv 30),
 oX 33 (.idxA 1 28 30),
 oX 34 (.load false 1 33),
 oX 5 (.mv 32),
 oX 6 (.mv 34)])
 (.seq
 (.seq
 (.reg false [
 oX 35 (.fieldA 1 3),
 oX 36 (.load false 1 35),
 oX 37 (.mv 5),
 oX 38 (.idxA 1 36 37),
 oX 39 (.load false 1 38),
 oX 40 (.len 39),
 oX 41 (.mv 6),
 oX 42 (.bin .neq 40 41)])
 (.cond 42
 (.seq
 (.reg false [
 oX 4 (.mv (.k (.one (.v (.bool) (false)))))])
 .ret)
 .skip))
 (.seq
 (.reg false [
 oX 43 (.fieldA 1 3),
 oX 44 (.load false 1 43),
 oX 45 (.mv 5),
 oX 46 (.idxA 1 44 45),
 oX 47 (.load false 1 46),
 oX 48 (.len 47),
 oX 49 (.mv (kX 0))])
 (.block 2
 (.loop 0 ⟨[(3, .one (rX 3)), (28, .one (.c (.v (lX)))), (29, sX), (30, sX), (47, .one (.c (.v (lX)))), (48, sX), (49, sX)], [(3, .box [vX, .c (.v (.list [lX]))])]⟩ [3] []
 (.seq
 (.reg false [
 oX 50 (.bin .lss 49 48)])
 (.seq
 (.cond 50
 .skip
 (.exit 2))
 (.seq
 (.block 3
 (.seq
 (.reg false [
 oX 51 (.idxA 1 47 49),
 oX 52 (.load false 1 51),
 oX 8 (.mv 52)])
 (.seq
 (.reg false [
 oX 53 (.mv 8),
 oX 54 (.fieldA 0 3),
 oX 55 (.load false 1 54),
 oX 56 (.bin .sub 55 (kX 1)),
 oX 57 (.call .froz 97 [53, (kX 0), 56]),
 oX 58 (.un .not 57)])
 (.cond 58
 (.seq
 (.reg false [
 oX 4 (.mv (.k (.one (.v (.bool) (false)))))])
 .ret)
 .skip))))
 (.reg false [
 oX 59 (.bin .add 49 (kX 1)),
 oX 49 (.mv 59)])))))))))))
 (.reg false [
 oX 60 (.bin .add 30 (kX 1)),
 oX 30 (.mv 60)]))))))))
 (.seq
 (.reg false [
 oX 4 (.mv (.k (.one (.v (.bool) (true)))))])
 .ret))))
def ms_spec_ChargesOk : List MRes := [.tmp 4]
theorem n_spec_ChargesOk (NN : Nat) (x : DLL (Sig.tys ag_spec_ChargesOk)) : runS NN [fn_spec_TensorSize, fn_spec_l01In] sc_spec_ChargesOk ms_spec_ChargesOk ag_spec_ChargesOk rs_spec_ChargesOk x = G_spec_ChargesOk NN x := by kernel_rfl
theorem k_spec_ChargesOk : chkS pX 53 sc_spec_ChargesOk.er ms_spec_ChargesOk 2 = true := by decide +kernel
theorem p_spec_ChargesOk : PureSpec pX 53 fn_spec_ChargesOk.M ∧ chkFun pX 53 = true :=
  pure_of_runS (T := [fn_spec_TensorSize, fn_spec_l01In]) (sc := sc_spec_ChargesOk) (ms := ms_spec_ChargesOk) (args := ag_spec_ChargesOk) (res := rs_spec_ChargesOk) (SOk.cons p_spec_TensorSize <| SOk.cons p_spec_l01In <| SOk.nil) follows_ok k_spec_ChargesOk F_spec_ChargesOk fun x y h => (n_spec_ChargesOk FUEL x).trans (f_spec_ChargesOk x y h)

def fn_spec_l05Ints : SFn := ⟨109, ag_spec_l05Ints, mu_spec_l05Ints, rs_spec_l05Ints, F_spec_l05Ints⟩
def sc_spec_l05Ints : SCode :=
 (.seq
 (.reg false [
 oX 2 (.mv (.k (.one (.nil iX))))])
 (.seq
 (.reg false [
 oX 3 (.bslice iX []),
 oX 4 (.mv 0),
 oX 5 (.append true iX 8 3 4),
 oX 2 (.mv 5)])
 .ret))
def ms_spec_l05Ints : List MRes := [.tmp 2]
theorem n_spec_l05Ints (NN : Nat) (x : DLL (Sig.tys ag_spec_l05Ints)) : runS NN [] sc_spec_l05Ints ms_spec_l05Ints ag_spec_l05Ints rs_spec_l05Ints x = G_spec_l05Ints NN x := by kernel_rfl
theorem k_spec_l05Ints : chkS pX 109 sc_spec_l05Ints.er ms_spec_l05Ints 1 = true := by decide +kernel
theorem p_spec_l05Ints : PureSpec pX 109 fn_spec_l05Ints.M ∧ chkFun pX 109 = true :=
  pure_of_runS (T := []) (sc := sc_spec_l05Ints) (ms := ms_spec_l05Ints) (args := ag_spec_l05Ints) (res := rs_spec_l05Ints) (SOk.nil) follows_ok k_spec_l05Ints F_spec_l05Ints fun x y h => (n_spec_l05Ints FUEL x).trans (f_spec_l05Ints x y h)

def fn_spec_l05Copy : SFn := ⟨54, ag_spec_l05Copy, mu_spec_l05Copy, rs_spec_l05Copy, F_spec_l05Copy⟩
def sc_spec_l05Copy : SCode :=
 (.seq
 (.reg false [
 oX 1 (.box 3 0),
 oX 2 (.alloc [.nil iX, .nil iX, .nil iX])])
 (.seq
 (.reg true [
 oX 3 (.fieldA 0 1),
 oX 4 (.load false 1 3),
 oX 5 (.call .froz 109 [4]),
 oX 6 (.fieldA 1 1),
 oX 7 (.load false 1 6),
 oX 8 (.call .froz 109 [7]),
 oX 9 (.fieldA 2 1),
 oX 10 (.load false 1 9),
 oX 11 (.call .froz 109 [10]),
 oX 12 (.build [.nil iX, .nil iX, .nil iX] [(0, 1, 5), (1, 1, 8), (2, 1, 11)]),
 uX (.store 3 2 12)])
 .ret))
def ms_spec_l05Copy : List MRes := [.cell 2 3 true]
theorem n_spec_l05Copy (NN : Nat) (x : DLL (Sig.tys ag_spec_l05Copy)) : runS NN [fn_spec_l05Ints] sc_spec_l05Copy ms_spec_l05Copy ag_spec_l05Copy rs_spec_l05Copy x = G_spec_l05Copy NN x := by kernel_rfl
theorem k_spec_l05Copy : chkS pX 54 sc_spec_l05Copy.er ms_spec_l05Copy 1 = true := by decide +kernel
theorem p_spec_l05Copy : PureSpec pX 54 fn_spec_l05Copy.M ∧ chkFun pX 54 = true :=
  pure_of_runS (T := [fn_spec_l05Ints]) (sc := sc_spec_l05Copy) (ms := ms_spec_l05Copy) (args := ag_spec_l05Copy) (res := rs_spec_l05Copy) (SOk.cons p_spec_l05Ints <| SOk.nil) follows_ok k_spec_l05Copy F_spec_l05Copy fun x y h => (n_spec_l05Copy FUEL x).trans (f_spec_l05Copy x y h)

def fn_spec_l05Index : SFn := ⟨57, ag_spec_l05Index, mu_spec_l05Index, rs_spec_l05Index, F_spec_l05Index⟩
def sc_spec_l05Index : SCode :=
 (.seq
 (.reg false [
 oX 4 (.mv (.k (.one (.nil iX))))])
 (.seq
 (.reg false [
 oX 7 (.mv 0),
 oX 8 (.len 7),
 oX 9 (.mkslice .froz iX 8 (0 : Int) 8 8),
 oX 5 (.mv 9)])
 (.seq
 (.seq
 (.reg false [
 oX 10 (.mv 0),
 oX 11 (.len 10),
 oX 12 (.bin .sub 11 (kX 1)),
 oX 6 (.mv 12)])
 (.join ⟨[(5, .one (fX 500001 1))], [(500001, .row true .froz iX)]⟩ [500000, 500001] [(false, 5, 0, 500001, .froz, [])]
 (.block 0
 (.loop 0 ⟨[(0, .one (.c (.v (lX)))), (1, sX), (5, .one (fX 500000 1)), (6, sX)], [(500000, .row true .froz iX)]⟩ [9, 500000] [(false, 5, 0, 500000, .froz, [])]
 (.seq
 (.seq
 (.reg false [
 oX 13 (.mv 6),
 oX 14 (.bin .geq 13 (kX 0))])
 (.cond 14
 .skip
 (.exit 0)))
 (.seq
 (.block 1
 (.seq
 (.reg false [
 oX 17 (.mv 5),
 oX 18 (.mv 6),
 oX 19 (.mv 1),
 oX 20 (.mv 0),
 oX 21 (.mv 6),
 oX 22 (.idxA 1 20 21),
 oX 23 (.load false 1 22),
 oX 24 (.bin .rem 19 23),
 oX 25 (.idxA 1 17 18),
 uX (.store 1 25 24)])
 (.reg false [
 oX 26 (.mv 1),
 oX 27 (.mv 0),
 oX 28 (.mv 6),
 oX 29 (.idxA 1 27 28),
 oX 30 (.load false 1 29),
 oX 31 (.bin .quo 26 30),
 oX 1 (.mv 31)])))
 (.reg false [
 oX 15 (.mv 6),
 oX 16 (.bin .sub 15 (kX 1)),
 oX 6 (.mv 16)])))))))
 (.seq
 (.reg false [
 oX 32 (.mv 5),
 oX 4 (.mv 32)])
 .ret))))
def ms_spec_l05Index : List MRes := [.tmp 4]
theorem n_spec_l05Index (NN : Nat) (x : DLL (Sig.tys ag_spec_l05Index)) : runS NN [] sc_spec_l05Index ms_spec_l05Index ag_spec_l05Index rs_spec_l05Index x = G_spec_l05Index NN x := by kernel_rfl
theorem k_spec_l05Index : chkS pX 57 sc_spec_l05Index.er ms_spec_l05Index 2 = true := by decide +kernel
theorem p_spec_l05Index : PureSpec pX 57 fn_spec_l05Index.M ∧ chkFun pX 57 = true :=
  pure_of_runS (T := []) (sc := sc_spec_l05Index) (ms := ms_spec_l05Index) (args := ag_spec_l05Index) (res := rs_spec_l05Index) (SOk.nil) follows_ok k_spec_l05Index F_spec_l05Index fun x y h => (n_spec_l05Index FUEL x).trans (f_spec_l05Index x y h)

def fn_spec_l35Sum : SFn := ⟨56, ag_spec_l35Sum, mu_spec_l35Sum, rs_spec_l35Sum, F_spec_l35Sum⟩
def sc_spec_l35Sum : SCode :=
 (.seq
 (.reg false [
 oX 2 (.box 2 0),
 oX 4 (.mv (kX 0))])
 (.seq
 (.reg false [
 oX 5 (.mv (kX 0))])
 (.seq
 (.seq
 (.reg false [
 oX 8 (.mv 1),
 oX 9 (.len 8),
 oX 10 (.mv (kX 0))])
 (.join ⟨[(5, sX), (2, .one (rX 2))], [(2, .box [vX, .c (.v (.list [lX]))])]⟩ [2] []
 (.block 0
 (.loop 0 ⟨[(2, .one (rX 2)), (5, sX), (8, .one (.c (.v (lX)))), (9, sX), (10, sX)], [(2, .box [vX, .c (.v (.list [lX]))])]⟩ [2] []
 (.seq
 (.reg false [
 oX 11 (.bin .lss 10 9)])
 (.seq
 (.cond 11
 .skip
 (.exit 0))
 (.seq
 (.block 1
 (.seq
 (.reg false [
 oX 12 (.mv 10),
 oX 13 (.idxA 1 8 10),
 oX 14 (.load false 1 13),
 oX 6 (.mv 12),
 oX 7 (.mv 14)])
 (.reg false [
 oX 15 (.mv 5),
 oX 16 (.fieldA 1 2),
 oX 17 (.load false 1 16),
 oX 18 (.mv 6),
 oX 19 (.idxA 1 17 18),
 oX 20 (.load false 1 19),
 oX 21 (.mv 7),
 oX 22 (.idxA 1 20 21),
 oX 23 (.load false 1 22),
 oX 24 (.bin .add 15 23),
 oX 5 (.mv 24)])))
 (.reg false [
 oX 25 (.bin .add 10 (kX 1)),
 oX 10 (.mv 25)]))))))))
 (.seq
 (.reg false [
 oX 26 (.mv 5),
 oX 27 (.fieldA 0 2),
 oX 28 (.load false 1 27),
 oX 29 (.bin .rem 26 28),
 oX 4 (.mv 29)])
 .ret))))
def ms_spec_l35Sum : List MRes := [.tmp 4]
theorem n_spec_l35Sum (NN : Nat) (x : DLL (Sig.tys ag_spec_l35Sum)) : runS NN [] sc_spec_l35Sum ms_spec_l35Sum ag_spec_l35Sum rs_spec_l35Sum x = G_spec_l35Sum NN x := by kernel_rfl
theorem k_spec_l35Sum : chkS pX 56 sc_spec_l35Sum.er ms_spec_l35Sum 2 = true := by decide +kernel
theorem p_spec_l35Sum : PureSpec pX 56 fn_spec_l35Sum.M ∧ chkFun pX 56 = true :=
  pure_of_runS (T := []) (sc := sc_spec_l35Sum) (ms := ms_spec_l35Sum) (args := ag_spec_l35Sum) (res := rs_spec_l35Sum) (SOk.nil) follows_ok k_spec_l35Sum F_spec_l35Sum fun x y h => (n_spec_l35Sum FUEL x).trans (f_spec_l35Sum x y h)

def fn_spec_l02Zero : SFn := ⟨59, ag_spec_l02Zero, mu_spec_l02Zero, rs_spec_l02Zero, F_spec_l02Zero⟩
def sc_spec_l02Zero : SCode :=
 (.seq
 (.reg false [
 oX 1 (.box 3 0),
 oX 2 (.mv (.k (.one (.nil iX))))])
 (.seq
 (.reg false [
 oX 4 (.load true 3 1),
 oX 5 (.call .froz 107 [4]),
 oX 6 (.mkslice .froz iX 8 (0 : Int) 5 5),
 oX 3 (.mv 6)])
 (.seq
 (.seq
 (.reg false [
 oX 7 (.fieldA 0 1),
 oX 8 (.load false 1 7),
 oX 9 (.bin .eql 8 (kX 4))])
 (.join ⟨[(3, .one (fX 500000 1))], [(500000, .row true .froz iX)]⟩ [1, 6, 500000] [(false, 3, 0, 500000, .froz, [])]
 (.cond 9
 (.reg false [
 oX 10 (.mv 3),
 oX 11 (.fieldA 1 1),
 oX 12 (.load false 1 11),
 oX 13 (.idxA 1 10 (kX 0)),
 uX (.store 1 13 12)])
 .skip)))
 (.seq
 (.reg false [
 oX 14 (.mv 3),
 oX 2 (.mv 14)])
 .ret))))
def ms_spec_l02Zero : List MRes := [.tmp 2]
theorem n_spec_l02Zero (NN : Nat) (x : DLL (Sig.tys ag_spec_l02Zero)) : runS NN [fn_spec_l02Width] sc_spec_l02Zero ms_spec_l02Zero ag_spec_l02Zero rs_spec_l02Zero x = G_spec_l02Zero NN x := by kernel_rfl
theorem k_spec_l02Zero : chkS pX 59 sc_spec_l02Zero.er ms_spec_l02Zero 1 = true := by decide +kernel
theorem p_spec_l02Zero : PureSpec pX 59 fn_spec_l02Zero.M ∧ chkFun pX 59 = true :=
  pure_of_runS (T := [fn_spec_l02Width]) (sc := sc_spec_l02Zero) (ms := ms_spec_l02Zero) (args := ag_spec_l02Zero) (res := rs_spec_l02Zero) (SOk.cons p_spec_l02Width <| SOk.nil) follows_ok k_spec_l02Zero F_spec_l02Zero fun x y h => (n_spec_l02Zero FUEL x).trans (f_spec_l02Zero x y h)

def fn_spec_l05Put : SFn := ⟨58, ag_spec_l05Put, mu_spec_l05Put, rs_spec_l05Put, F_spec_l05Put⟩
def sc_spec_l05Put : SCode :=
 (.seq
 (.reg false [
 oX 4 (.box 3 0),
 oX 5 (.box 3 1)])
 (.seq
 (.reg false [
 oX 10 (.load true 3 4),
 oX 11 (.call .froz 107 [10]),
 oX 8 (.mv 11)])
 (.seq
 (.reg false [
 oX 12 (.mv 3),
 oX 13 (.len 12),
 oX 14 (.mv (kX 0))])
 (.block 0
 (.loop 0 ⟨[(2, sX), (3, .one (.c (.v (lX)))), (5, .one (rX 5)), (8, sX), (13, sX), (14, sX)], [(1000000, .row false .froz iX), (5, .box [.c (.v (lX)), .c (.v (lX)), fX 1000000 1])]⟩ [1000000, 4, 5, 500000] [(true, 5, 2, 500000, .froz, [])]
 (.seq
 (.reg false [
 oX 15 (.bin .lss 14 13)])
 (.seq
 (.cond 15
 .skip
 (.exit 0))
 (.seq
 (.block 1
 (.seq
 (.reg false [
 oX 16 (.mv 14),
 oX 9 (.mv 16)])
 (.reg true [
 oX 17 (.fieldA 2 5),
 oX 18 (.load false 1 17),
 oX 19 (.mv 2),
 oX 20 (.mv 8),
 oX 21 (.bin .mul 19 20),
 oX 22 (.mv 9),
 oX 23 (.bin .add 21 22),
 oX 24 (.mv 3),
 oX 25 (.mv 9),
 oX 26 (.idxA 1 24 25),
 oX 27 (.load false 1 26),
 oX 28 (.idxA 1 18 23),
 uX (.store 1 28 27)])))
 (.reg false [
 oX 29 (.bin .add 14 (kX 1)),
 oX 14 (.mv 29)])))))))))
def ms_spec_l05Put : List MRes := []
theorem n_spec_l05Put (NN : Nat) (x : DLL (Sig.tys ag_spec_l05Put)) : runMS NN [fn_spec_l02Width] sc_spec_l05Put ms_spec_l05Put ag_spec_l05Put mu_spec_l05Put rs_spec_l05Put x = G_spec_l05Put NN x := by kernel_rfl
theorem k_spec_l05Put : chkS pX 58 sc_spec_l05Put.er ms_spec_l05Put 4 = true := by decide +kernel
theorem p_spec_l05Put : MutSpec pX 58 mu_spec_l05Put fn_spec_l05Put.MM ∧ chkFun pX 58 = true :=
  mut_of_runMS (T := [fn_spec_l02Width]) (sc := sc_spec_l05Put) (ms := ms_spec_l05Put) (args := ag_spec_l05Put) (mu := mu_spec_l05Put) (res := rs_spec_l05Put) (SOk.cons p_spec_l02Width <| SOk.nil) follows_ok k_spec_l05Put F_spec_l05Put fun x y h => (n_spec_l05Put FUEL x).trans (f_spec_l05Put x y h)

def fn_spec_ConserveTensor : SFn := ⟨16, ag_spec_ConserveTensor, mu_spec_ConserveTensor, rs_spec_ConserveTensor, F_spec_ConserveTensor⟩
def sc_spec_ConserveTensor : SCode :=
 (.seq
 (.reg false [
 oX 3 (.box 3 0),
 oX 4 (.box 3 1),
 oX 5 (.box 2 2),
 oX 6 (.alloc [.nil iX, .nil iX, .nil iX]),
 oX 7 (.mv (.k (.one (.v (.bool) (false)))))])
 (.seq
 (.seq
 (.reg false [
 oX 10 (.load true 3 3),
 oX 11 (.load true 3 4),
 oX 12 (.call .froz 52 [10, 11]),
 oX 13 (.un .not 12),
 oX 14 (.mv 13),
 ⟨(some 15), .load true 3 4, (some (14, false))⟩,
 ⟨(some 16), .load true 2 5, (some (14, false))⟩,
 ⟨(some 17), .call .froz 53 [15, 16], (some (14, false))⟩,
 ⟨(some 18), .un .not 17, (some (14, false))⟩,
 oX 19 (.pick 14 (.k (.one (.v (.bool) (true)))) 18)])
 (.cond 19
 (.seq
 (.reg false [
 oX 20 (.build [.nil iX, .nil iX, .nil iX] []),
 uX (.store 3 6 20),
 oX 7 (.mv (.k (.one (.v (.bool) (false)))))])
 .ret)
 .skip))
 (.seq
 (.reg false [
 oX 21 (.load true 3 4),
 oX 22 (.call .froz 54 [21]),
 oX 8 (.alloc [.nil iX, .nil iX, .nil iX]),
 uX (.store 3 8 22)])
 (.seq
 (.seq
 (.reg false [
 oX 9 (.mv (kX 0))])
 (.join ⟨[(8, .one (rX 8)), (6, .one (rX 6))], [(6, .box [fX 500006 1, fX 500007 1, fX 500008 1]), (8, .box [fX 500009 1, fX 500010 1, fX 500011 1]), (500006, .row true .froz iX), (500007, .row true .froz iX), (500008, .row true .froz iX), (500009, .row true .froz iX), (500010, .row true .froz iX), (500011, .row true .froz iX)]⟩ [3, 4, 5, 6, 8, 500000, 500001, 500002, 500003, 500004, 500005, 500006, 500007, 500008, 500009, 500010, 500011] [(true, 6, 0, 500006, .froz, []), (true, 6, 1, 500007, .froz, []), (true, 6, 2, 500008, .froz, []), (true, 8, 0, 500009, .froz, []), (true, 8, 1, 500010, .froz, []), (true, 8, 2, 500011, .froz, [])]
 (.block 0
 (.loop 0 ⟨[(3, .one (rX 3)), (4, .one (rX 4)), (5, .one (rX 5)), (6, .one (rX 6)), (8, .one (rX 8)), (9, sX)], [(3, .box [vX, vX, vX]), (4, .box [.c (.v (lX)), .c (.v (lX)), .c (.v (lX))]), (5, .box [vX, .c (.v (.list [lX]))]), (6, .box [fX 500000 1, fX 500001 1, fX 500002 1]), (8, .box [fX 500003 1, fX 500004 1, fX 500005 1]), (500000, .row true .froz iX), (500001, .row true .froz iX), (500002, .row true .froz iX), (500003, .row true .froz iX), (500004, .row true .froz iX), (500005, .row true .froz iX)]⟩ [3, 4, 5, 6, 23000, 23001, 23002, 8, 35000, 42000, 500000, 500001, 500002, 500003, 500004, 500005] [(true, 6, 0, 500000, .froz, []), (true, 6, 1, 500001, .froz, []), (true, 6, 2, 500002, .froz, []), (true, 8, 0, 500003, .froz, []), (true, 8, 1, 500004, .froz, []), (true, 8, 2, 500005, .froz, [])]
 (.seq
 (.seq
 (.reg false [
 oX 23 (.mv 9),
 oX 24 (.fieldA 1 4),
 oX 25 (.load false 1 24),
 oX 26 (.call .froz 55 [25, (kX 4096)]),
 oX 27 (.bin .lss 23 26)])
 (.cond 27
 .skip
 (.exit 0)))
 (.seq
 (.block 1
 (.seq
 (.reg true [
 oX 30 (.load true 2 5),
 oX 31 (.fieldA 1 4),
 oX 32 (.load false 1 31),
 oX 33 (.mv 9),
 oX 34 (.call .froz 57 [32, 33]),
 oX 35 (.call .froz 56 [30, 34]),
 oX 36 (.bin .neq 35 (kX 0))])
 (.cond 36
 (.reg true [
 oX 37 (.load true 3 3),
 oX 38 (.load true 3 8),
 oX 39 (.mv 9),
 oX 40 (.load true 3 3),
 oX 41 (.call .froz 59 [40]),
 oX 42 (.callm .froz 58 [37, 38, 39, 41])])
 .skip)))
 (.reg false [
 oX 28 (.mv 9),
 oX 29 (.bin .add 28 (kX 1)),
 oX 9 (.mv 29)])))))))
 (.seq
 (.reg false [
 oX 43 (.load true 3 8),
 uX (.store 3 6 43),
 oX 7 (.mv (.k (.one (.v (.bool) (true)))))])
 .ret)))))
def ms_spec_ConserveTensor : List MRes := [.cell 6 3 true, .tmp 7]
theorem n_spec_ConserveTensor (NN : Nat) (x : DLL (Sig.tys ag_spec_ConserveTensor)) : runS NN [fn_spec_TensorOk, fn_spec_ChargesOk, fn_spec_l05Copy, fn_spec_l05Product, fn_spec_l05Index, fn_spec_l35Sum, fn_spec_l02Zero, fn_spec_l05Put] sc_spec_ConserveTensor ms_spec_ConserveTensor ag_spec_ConserveTensor rs_spec_ConserveTensor x = G_spec_ConserveTensor NN x := by kernel_rfl
theorem k_spec_ConserveTensor : chkS pX 16 sc_spec_ConserveTensor.er ms_spec_ConserveTensor 3 = true := by decide +kernel
theorem p_spec_ConserveTensor : PureSpec pX 16 fn_spec_ConserveTensor.M ∧ chkFun pX 16 = true :=
  pure_of_runS (T := [fn_spec_TensorOk, fn_spec_ChargesOk, fn_spec_l05Copy, fn_spec_l05Product, fn_spec_l05Index, fn_spec_l35Sum, fn_spec_l02Zero, fn_spec_l05Put]) (sc := sc_spec_ConserveTensor) (ms := ms_spec_ConserveTensor) (args := ag_spec_ConserveTensor) (res := rs_spec_ConserveTensor) (SOk.cons p_spec_TensorOk <| SOk.cons p_spec_ChargesOk <| SOk.cons p_spec_l05Copy <| SOk.cons p_spec_l05Product <| SOk.cons p_spec_l05Index <| SOk.cons p_spec_l35Sum <| SOk.cons p_spec_l02Zero <| SOk.consM p_spec_l05Put <| SOk.nil) follows_ok k_spec_ConserveTensor F_spec_ConserveTensor fun x y h => (n_spec_ConserveTensor FUEL x).trans (f_spec_ConserveTensor x y h)

def fn_impl_IsPrime : SFn := ⟨102, ag_impl_IsPrime, mu_impl_IsPrime, rs_impl_IsPrime, F_impl_IsPrime⟩
def sc_impl_IsPrime : SCode :=
 (.seq
 (.reg false [
 oX 2 (.mv (.k (.one (.v (.bool) (false)))))])
 (.seq
 (.seq
 (.reg false [
 oX 4 (.mv 0),
 oX 5 (.bin .lss 4 (kX 2)),
 oX 6 (.mv 5),
 ⟨(some 7), .mv 0, (some (6, false))⟩,
 ⟨(some 8), .bin .gtr 7 (kX 1000003), (some (6, false))⟩,
 oX 9 (.pick 6 (.k (.one (.v (.bool) (true)))) 8)])
 (.cond 9
 (.seq
 (.reg false [
 oX 2 (.mv (.k (.one (.v (.bool) (false)))))])
 .ret)
 .skip))
 (.seq
 (.seq
 (.reg false [
 oX 3 (.mv (kX 2))])
 (.join ⟨[], []⟩ [] []
 (.block 0
 (.loop 0 ⟨[(0, sX), (3, sX)], []⟩ [] []
 (.seq
 (.seq
 (.reg false [
 oX 10 (.mv 3),
 oX 11 (.mv 3),
 oX 12 (.bin .mul 10 11),
 oX 13 (.mv 0),
 oX 14 (.bin .leq 12 13)])
 (.cond 14
 .skip
 (.exit 0)))
 (.seq
 (.block 1
 (.seq
 (.reg false [
 oX 17 (.mv 0),
 oX 18 (.mv 3),
 oX 19 (.bin .rem 17 18),
 oX 20 (.bin .eql 19 (kX 0))])
 (.cond 20
 (.seq
 (.reg false [
 oX 2 (.mv (.k (.one (.v (.bool) (false)))))])
 .ret)
 .skip)))
 (.reg false [
 oX 15 (.mv 3),
 oX 16 (.bin .add 15 (kX 1)),
 oX 3 (.mv 16)])))))))
 (.seq
 (.reg false [
 oX 2 (.mv (.k (.one (.v (.bool) (true)))))])
 .ret))))
def ms_impl_IsPrime : List MRes := [.tmp 2]
theorem n_impl_IsPrime (NN : Nat) (x : DLL (Sig.tys ag_impl_IsPrime)) : runS NN [] sc_impl_IsPrime ms_impl_IsPrime ag_impl_IsPrime rs_impl_IsPrime x = G_impl_IsPrime NN x := by kernel_rfl
theorem k_impl_IsPrime : chkS pX 102 sc_impl_IsPrime.er ms_impl_IsPrime 1 = true := by decide +kernel
theorem p_impl_IsPrime : PureSpec pX 102 fn_impl_IsPrime.M ∧ chkFun pX 102 = true :=
  pure_of_runS (T := []) (sc := sc_impl_IsPrime) (ms := ms_impl_IsPrime) (args := ag_impl_IsPrime) (res := rs_impl_IsPrime) (SOk.nil) follows_ok k_impl_IsPrime F_impl_IsPrime fun x y h => (n_impl_IsPrime FUEL x).trans (f_impl_IsPrime x y h)

def fn_impl_RingOk : SFn := ⟨110, ag_impl_RingOk, mu_impl_RingOk, rs_impl_RingOk, F_impl_RingOk⟩
def sc_impl_RingOk : SCode :=
 (.seq
 (.reg false [
 oX 1 (.box 3 0),
 oX 2 (.mv (.k (.one (.v (.bool) (false)))))])
 (.seq
 (.seq
 (.reg false [
 oX 3 (.fieldA 0 1),
 oX 4 (.load false 1 3)])
 (.block 0
 (.seq
 (.reg false [
 oX 6 (.bin .eql 4 (kX 1)),
 oX 5 (.mv 6)])
 (.cond 5
 (.seq
 (.reg false [
 oX 7 (.fieldA 1 1),
 oX 8 (.load false 1 7),
 oX 9 (.bin .eql 8 (kX 0)),
 oX 10 (.mv 9),
 ⟨(some 11), .fieldA 2 1, (some (10, true))⟩,
 ⟨(some 12), .load false 1 11, (some (10, true))⟩,
 ⟨(some 13), .bin .eql 12 (kX 0), (some (10, true))⟩,
 oX 14 (.pick 10 13 (.k (.one (.v (.bool) (false))))),
 oX 2 (.mv 14)])
 .ret)
 (.seq
 (.reg false [
 oX 16 (.bin .eql 4 (kX 2)),
 oX 15 (.mv 16)])
 (.cond 15
 (.seq
 (.reg false [
 oX 17 (.fieldA 1 1),
 oX 18 (.load false 1 17),
 oX 19 (.call .froz 102 [18]),
 oX 20 (.mv 19),
 ⟨(some 21), .fieldA 2 1, (some (20, true))⟩,
 ⟨(some 22), .load false 1 21, (some (20, true))⟩,
 ⟨(some 23), .bin .eql 22 (kX 0), (some (20, true))⟩,
 oX 24 (.pick 20 23 (.k (.one (.v (.bool) (false))))),
 oX 2 (.mv 24)])
 .ret)
 (.seq
 (.seq
 (.reg false [
 oX 26 (.bin .eql 4 (kX 3)),
 oX 25 (.mv 26)])
 (.join ⟨[(25, .one (.c (.v (.bool)))), (4, sX), (1, .one (rX 1))], [(1, .box [vX, vX, vX])]⟩ [1] []
 (.cond 25
 .skip
 (.seq
 (.reg false [
 oX 27 (.bin .eql 4 (kX 4)),
 oX 25 (.mv 27)])
 (.cond 25
 .skip
 (.reg false [
 oX 28 (.bin .eql 4 (kX 5)),
 oX 25 (.mv 28)]))))))
 (.cond 25
 (.seq
 (.reg false [
 oX 29 (.fieldA 1 1),
 oX 30 (.load false 1 29),
 oX 31 (.bin .geq 30 (kX 1)),
 oX 32 (.mv 31),
 ⟨(some 33), .fieldA 1 1, (some (32, true))⟩,
 ⟨(some 34), .load false 1 33, (some (32, true))⟩,
 ⟨(some 35), .bin .leq 34 (kX 1000000), (some (32, true))⟩,
 oX 36 (.pick 32 35 (.k (.one (.v (.bool) (false))))),
 oX 37 (.mv 36),
 ⟨(some 38), .fieldA 2 1, (some (37, true))⟩,
 ⟨(some 39), .load false 1 38, (some (37, true))⟩,
 ⟨(some 40), .bin .eql 39 (kX 0), (some (37, true))⟩,
 oX 41 (.pick 37 40 (.k (.one (.v (.bool) (false))))),
 oX 2 (.mv 41)])
 .ret)
 (.seq
 (.reg false [
 oX 43 (.bin .eql 4 (kX 6)),
 oX 42 (.mv 43)])
 (.cond 42
 (.seq
 (.reg false [
 oX 44 (.fieldA 1 1),
 oX 45 (.load false 1 44),
 oX 46 (.bin .eql 45 (kX 0)),
 oX 47 (.mv 46),
 ⟨(some 48), .fieldA 2 1, (some (47, true))⟩,
 ⟨(some 49), .load false 1 48, (some (47, true))⟩,
 ⟨(some 50), .bin .geq 49 (kX 1), (some (47, true))⟩,
 oX 51 (.pick 47 50 (.k (.one (.v (.bool) (false))))),
 oX 52 (.mv 51),
 ⟨(some 53), .fieldA 2 1, (some (52, true))⟩,
 ⟨(some 54), .load false 1 53, (some (52, true))⟩,
 ⟨(some 55), .bin .leq 54 (kX 20), (some (52, true))⟩,
 oX 56 (.pick 52 55 (.k (.one (.v (.bool) (false))))),
 oX 2 (.mv 56)])
 .ret)
 (.seq
 (.reg false [
 oX 58 (.bin .eql 4 (kX 7)),
 oX 57 (.mv 58)])
 (.cond 57
 (.seq
 (.reg false [
 oX 59 (.fieldA 1 1),
 oX 60 (.load false 1 59),
 oX 61 (.call .froz 102 [60]),
 oX 62 (.mv 61),
 ⟨(some 63), .fieldA 2 1, (some (62, true))⟩,
 ⟨(some 64), .load false 1 63, (some (62, true))⟩,
 ⟨(some 65), .bin .geq 64 (kX 1), (some (62, true))⟩,
 oX 66 (.pick 62 65 (.k (.one (.v (.bool) (false))))),
 oX 67 (.mv 66),
 ⟨(some 68), .fieldA 2 1, (some (67, true))⟩,
 ⟨(some 69), .load false 1 68, (some (67, true))⟩,
 ⟨(some 70), .bin .leq 69 (kX 6), (some (67, true))⟩,
 oX 71 (.pick 67 70 (.k (.one (.v (.bool) (false))))),
 oX 2 (.mv 71)])
 .ret)
 (.seq
 (.reg false [
 oX 73 (.bin .eql 4 (kX 8)),
 oX 72 (.mv 73)])
 (.cond 72
 (.seq
 (.reg false [
 oX 74 (.fieldA 1 1),
 oX 75 (.load false 1 74),
 oX 76 (.call .froz 102 [75]),
 oX 77 (.mv 76),
 ⟨(some 78), .fieldA 1 1, (some (77, true))⟩,
 ⟨(some 79), .load false 1 78, (some (77, true))⟩,
 ⟨(some 80), .bin .neq 79 (kX 2), (some (77, true))⟩,
 oX 81 (.pick 77 80 (.k (.one (.v (.bool) (false))))),
 oX 82 (.mv 81),
 ⟨(some 83), .fieldA 2 1, (some (82, true))⟩,
 ⟨(some 84), .load false 1 83, (some (82, true))⟩,
 ⟨(some 85), .bin .eql 84 (kX 0), (some (82, true))⟩,
 oX 86 (.pick 82 85 (.k (.one (.v (.bool) (false))))),
 oX 2 (.mv 86)])
 .ret)
 .skip))))))))))))))
 (.seq
 (.reg false [
 oX 2 (.mv (.k (.one (.v (.bool) (false)))))])
 .ret)))
def ms_impl_RingOk : List MRes := [.tmp 2]
theorem n_impl_RingOk (NN : Nat) (x : DLL (Sig.tys ag_impl_RingOk)) : runS NN [fn_impl_IsPrime] sc_impl_RingOk ms_impl_RingOk ag_impl_RingOk rs_impl_RingOk x = G_impl_RingOk NN x := by kernel_rfl
theorem k_impl_RingOk : chkS pX 110 sc_impl_RingOk.er ms_impl_RingOk 1 = true := by decide +kernel
theorem p_impl_RingOk : PureSpec pX 110 fn_impl_RingOk.M ∧ chkFun pX 110 = true :=
  pure_of_runS (T := [fn_impl_IsPrime]) (sc := sc_impl_RingOk) (ms := ms_impl_RingOk) (args := ag_impl_RingOk) (res := rs_impl_RingOk) (SOk.cons p_impl_IsPrime <| SOk.nil) follows_ok k_impl_RingOk F_impl_RingOk fun x y h => (n_impl_RingOk FUEL x).trans (f_impl_RingOk x y h)

def fn_impl_hasInt : SFn := ⟨130, ag_impl_hasInt, mu_impl_hasInt, rs_impl_hasInt, F_impl_hasInt⟩
def sc_impl_hasInt : SCode :=
 (.seq
 (.reg false [
 oX 4 (.mv (.k (.one (.v (.bool) (false)))))])
 (.seq
 (.seq
 (.reg false [
 oX 7 (.mv 0),
 oX 8 (.len 7),
 oX 9 (.mv (kX 0))])
 (.join ⟨[], []⟩ [] []
 (.block 0
 (.loop 0 ⟨[(1, sX), (7, .one (.c (.v (lX)))), (8, sX), (9, sX)], []⟩ [] []
 (.seq
 (.reg false [
 oX 10 (.bin .lss 9 8)])
 (.seq
 (.cond 10
 .skip
 (.exit 0))
 (.seq
 (.block 1
 (.seq
 (.reg false [
 oX 11 (.idxA 1 7 9),
 oX 12 (.load false 1 11),
 oX 6 (.mv 12)])
 (.seq
 (.reg false [
 oX 13 (.mv 1),
 oX 14 (.mv 6),
 oX 15 (.bin .eql 13 14)])
 (.cond 15
 (.seq
 (.reg false [
 oX 4 (.mv (.k (.one (.v (.bool) (true)))))])
 .ret)
 .skip))))
 (.reg false [
 oX 16 (.bin .add 9 (kX 1)),
 oX 9 (.mv 16)]))))))))
 (.seq
 (.reg false [
 oX 4 (.mv (.k (.one (.v (.bool) (false)))))])
 .ret)))
def ms_impl_hasInt : List MRes := [.tmp 4]
theorem n_impl_hasInt (NN : Nat) (x : DLL (Sig.tys ag_impl_hasInt)) : runS NN [] sc_impl_hasInt ms_impl_hasInt ag_impl_hasInt rs_impl_hasInt x = G_impl_hasInt NN x := by kernel_rfl
theorem k_impl_hasInt : chkS pX 130 sc_impl_hasInt.er ms_impl_hasInt 2 = true := by decide +kernel
theorem p_impl_hasInt : PureSpec pX 130 fn_impl_hasInt.M ∧ chkFun pX 130 = true :=
  pure_of_runS (T := []) (sc := sc_impl_hasInt) (ms := ms_impl_hasInt) (args := ag_impl_hasInt) (res := rs_impl_hasInt) (SOk.nil) follows_ok k_impl_hasInt F_impl_hasInt fun x y h => (n_impl_hasInt FUEL x).trans (f_impl_hasInt x y h)

def fn_impl_TensorSize : SFn := ⟨111, ag_impl_TensorSize, mu_impl_TensorSize, rs_impl_TensorSize, F_impl_TensorSize⟩
def sc_impl_TensorSize : SCode :=
 (.seq
 (.reg false [
 oX 1 (.box 3 0),
 oX 2 (.mv (kX 0))])
 (.seq
 (.seq
 (.reg false [
 oX 7 (.fieldA 0 1),
 oX 8 (.load false 1 7),
 oX 9 (.len 8),
 oX 10 (.bin .gtr 9 (kX 12)),
 oX 11 (.mv 10),
 ⟨(some 12), .fieldA 0 1, (some (11, false))⟩,
 ⟨(some 13), .load false 1 12, (some (11, false))⟩,
 ⟨(some 14), .len 13, (some (11, false))⟩,
 ⟨(some 15), .fieldA 1 1, (some (11, false))⟩,
 ⟨(some 16), .load false 1 15, (some (11, false))⟩,
 ⟨(some 17), .len 16, (some (11, false))⟩,
 ⟨(some 18), .bin .neq 14 17, (some (11, false))⟩,
 oX 19 (.pick 11 (.k (.one (.v (.bool) (true)))) 18)])
 (.cond 19
 (.seq
 (.reg false [
 oX 2 (.mv (kX (-1)))])
 .ret)
 .skip))
 (.seq
 (.reg false [
 oX 3 (.mv (kX 1))])
 (.seq
 (.seq
 (.reg false [
 oX 20 (.fieldA 0 1),
 oX 21 (.load false 1 20),
 oX 22 (.len 21),
 oX 23 (.mv (kX 0))])
 (.join ⟨[(3, sX)], []⟩ [1] []
 (.block 0
 (.loop 0 ⟨[(1, .one (rX 1)), (3, sX), (21, .one (.c (.v (lX)))), (22, sX), (23, sX)], [(1, .box [.c (.v (lX)), .c (.v (lX)), .c (.v (lX))])]⟩ [1] []
 (.seq
 (.reg false [
 oX 24 (.bin .lss 23 22)])
 (.seq
 (.cond 24
 .skip
 (.exit 0))
 (.seq
 (.block 1
 (.seq
 (.reg false [
 oX 25 (.mv 23),
 oX 26 (.idxA 1 21 23),
 oX 27 (.load false 1 26),
 oX 4 (.mv 25),
 oX 5 (.mv 27)])
 (.seq
 (.seq
 (.reg false [
 oX 28 (.mv 5),
 oX 29 (.bin .lss 28 (kX 0)),
 oX 30 (.mv 29),
 ⟨(some 31), .mv 5, (some (30, false))⟩,
 ⟨(some 32), .bin .gtr 31 (kX 99), (some (30, false))⟩,
 oX 33 (.pick 30 (.k (.one (.v (.bool) (true)))) 32),
 oX 34 (.mv 33),
 ⟨(some 35), .fieldA 0 1, (some (34, false))⟩,
 ⟨(some 36), .load false 1 35, (some (34, false))⟩,
 ⟨(some 37), .mv 4, (some (34, false))⟩,
 ⟨(some 38), .slice 1 36 none (some 37), (some (34, false))⟩,
 ⟨(some 39), .mv 5, (some (34, false))⟩,
 ⟨(some 40), .call .froz 130 [38, 39], (some (34, false))⟩,
 oX 41 (.pick 34 (.k (.one (.v (.bool) (true)))) 40)])
 (.cond 41
 (.seq
 (.reg false [
 oX 2 (.mv (kX (-1)))])
 .ret)
 .skip))
 (.seq
 (.reg false [
 oX 42 (.fieldA 1 1),
 oX 43 (.load false 1 42),
 oX 44 (.mv 4),
 oX 45 (.idxA 1 43 44),
 oX 46 (.load false 1 45),
 oX 6 (.mv 46)])
 (.seq
 (.seq
 (.reg false [
 oX 47 (.mv 6),
 oX 48 (.bin .lss 47 (kX 1)),
 oX 49 (.mv 48),
 ⟨(some 50), .mv 6, (some (49, false))⟩,
 ⟨(some 51), .bin .gtr 50 (kX 8), (some (49, false))⟩,
 oX 52 (.pick 49 (.k (.one (.v (.bool) (true)))) 51),
 oX 53 (.mv 52),
 ⟨(some 54), .mv 3, (some (53, false))⟩,
 ⟨(some 55), .mv 6, (some (53, false))⟩,
 ⟨(some 56), .bin .mul 54 55, (some (53, false))⟩,
 ⟨(some 57), .bin .gtr 56 (kX 4096), (some (53, false))⟩,
 oX 58 (.pick 53 (.k (.one (.v (.bool) (true)))) 57)])
 (.cond 58
 (.seq
 (.reg false [
 oX 2 (.mv (kX (-1)))])
 .ret)
 .skip))
 (.reg false [
 oX 59 (.mv 3),
 oX 60 (.mv 6),
 oX 61 (.bin .mul 59 60),
 oX 3 (.mv 61)]))))))
 (.reg false [
 oX 62 (.bin .add 23 (kX 1)),
 oX 23 (.mv 62)]))))))))
 (.seq
 (.reg false [
 oX 63 (.mv 3),
 oX 2 (.mv 63)])
 .ret)))))
def ms_impl_TensorSize : List MRes := [.tmp 2]
theorem n_impl_TensorSize (NN : Nat) (x : DLL (Sig.tys ag_impl_TensorSize)) : runS NN [fn_impl_hasInt] sc_impl_TensorSize ms_impl_TensorSize ag_impl_TensorSize rs_impl_TensorSize x = G_impl_TensorSize NN x := by kernel_rfl
theorem k_impl_TensorSize : chkS pX 111 sc_impl_TensorSize.er ms_impl_TensorSize 1 = true := by decide +kernel
theorem p_impl_TensorSize : PureSpec pX 111 fn_impl_TensorSize.M ∧ chkFun pX 111 = true :=
  pure_of_runS (T := [fn_impl_hasInt]) (sc := sc_impl_TensorSize) (ms := ms_impl_TensorSize) (args := ag_impl_TensorSize) (res := rs_impl_TensorSize) (SOk.cons p_impl_hasInt <| SOk.nil) follows_ok k_impl_TensorSize F_impl_TensorSize fun x y h => (n_impl_TensorSize FUEL x).trans (f_impl_TensorSize x y h)

def fn_impl_rawWidth : SFn := ⟨112, ag_impl_rawWidth, mu_impl_rawWidth, rs_impl_rawWidth, F_impl_rawWidth⟩
def sc_impl_rawWidth : SCode :=
 (.seq
 (.reg false [
 oX 1 (.box 3 0),
 oX 2 (.mv (kX 0))])
 (.seq
 (.seq
 (.reg false [
 oX 3 (.fieldA 0 1),
 oX 4 (.load false 1 3)])
 (.block 0
 (.seq
 (.reg false [
 oX 6 (.bin .eql 4 (kX 7)),
 oX 5 (.mv 6)])
 (.cond 5
 (.seq
 (.reg false [
 oX 7 (.fieldA 2 1),
 oX 8 (.load false 1 7),
 oX 2 (.mv 8)])
 .ret)
 (.seq
 (.reg false [
 oX 10 (.bin .eql 4 (kX 8)),
 oX 9 (.mv 10)])
 (.cond 9
 (.seq
 (.reg false [
 oX 2 (.mv (kX 4))])
 .ret)
 .skip))))))
 (.seq
 (.reg false [
 oX 2 (.mv (kX 1))])
 .ret)))
def ms_impl_rawWidth : List MRes := [.tmp 2]
theorem n_impl_rawWidth (NN : Nat) (x : DLL (Sig.tys ag_impl_rawWidth)) : runS NN [] sc_impl_rawWidth ms_impl_rawWidth ag_impl_rawWidth rs_impl_rawWidth x = G_impl_rawWidth NN x := by kernel_rfl
theorem k_impl_rawWidth : chkS pX 112 sc_impl_rawWidth.er ms_impl_rawWidth 1 = true := by decide +kernel
theorem p_impl_rawWidth : PureSpec pX 112 fn_impl_rawWidth.M ∧ chkFun pX 112 = true :=
  pure_of_runS (T := []) (sc := sc_impl_rawWidth) (ms := ms_impl_rawWidth) (args := ag_impl_rawWidth) (res := rs_impl_rawWidth) (SOk.nil) follows_ok k_impl_rawWidth F_impl_rawWidth fun x y h => (n_impl_rawWidth FUEL x).trans (f_impl_rawWidth x y h)

def fn_impl_rawTop : SFn := ⟨125, ag_impl_rawTop, mu_impl_rawTop, rs_impl_rawTop, F_impl_rawTop⟩
def sc_impl_rawTop : SCode :=
 (.seq
 (.reg false [
 oX 1 (.box 3 0),
 oX 2 (.mv (kX 0))])
 (.seq
 (.seq
 (.reg false [
 oX 3 (.fieldA 0 1),
 oX 4 (.load false 1 3)])
 (.block 0
 (.seq
 (.reg false [
 oX 6 (.bin .eql 4 (kX 1)),
 oX 5 (.mv 6)])
 (.cond 5
 (.seq
 (.reg false [
 oX 2 (.mv (kX 1))])
 .ret)
 (.seq
 (.seq
 (.reg false [
 oX 8 (.bin .eql 4 (kX 3)),
 oX 7 (.mv 8)])
 (.join ⟨[(7, .one (.c (.v (.bool)))), (4, sX), (1, .one (rX 1))], [(1, .box [vX, vX, vX])]⟩ [1] []
 (.cond 7
 .skip
 (.seq
 (.reg false [
 oX 9 (.bin .eql 4 (kX 4)),
 oX 7 (.mv 9)])
 (.cond 7
 .skip
 (.reg false [
 oX 10 (.bin .eql 4 (kX 5)),
 oX 7 (.mv 10)]))))))
 (.cond 7
 (.seq
 (.reg false [
 oX 11 (.fieldA 1 1),
 oX 12 (.load false 1 11),
 oX 2 (.mv 12)])
 .ret)
 (.seq
 (.reg false [
 oX 14 (.bin .eql 4 (kX 6)),
 oX 13 (.mv 14)])
 (.cond 13
 (.seq
 (.reg false [
 oX 15 (.fieldA 2 1),
 oX 16 (.load false 1 15),
 oX 17 (.bin .shl (kX 1) 16),
 oX 18 (.bin .sub 17 (kX 1)),
 oX 2 (.mv 18)])
 .ret)
 .skip))))))))
 (.seq
 (.reg false [
 oX 19 (.fieldA 1 1),
 oX 20 (.load false 1 19),
 oX 21 (.bin .sub 20 (kX 1)),
 oX 2 (.mv 21)])
 .ret)))
def ms_impl_rawTop : List MRes := [.tmp 2]
theorem n_impl_rawTop (NN : Nat) (x : DLL (Sig.tys ag_impl_rawTop)) : runS NN [] sc_impl_rawTop ms_impl_rawTop ag_impl_rawTop rs_impl_rawTop x = G_impl_rawTop NN x := by kernel_rfl
theorem k_impl_rawTop : chkS pX 125 sc_impl_rawTop.er ms_impl_rawTop 1 = true := by decide +kernel
theorem p_impl_rawTop : PureSpec pX 125 fn_impl_rawTop.M ∧ chkFun pX 125 = true :=
  pure_of_runS (T := []) (sc := sc_impl_rawTop) (ms := ms_impl_rawTop) (args := ag_impl_rawTop) (res := rs_impl_rawTop) (SOk.nil) follows_ok k_impl_rawTop F_impl_rawTop fun x y h => (n_impl_rawTop FUEL x).trans (f_impl_rawTop x y h)

def fn_impl_inRing : SFn := ⟨113, ag_impl_inRing, mu_impl_inRing, rs_impl_inRing, F_impl_inRing⟩
def sc_impl_inRing : SCode :=
 (.seq
 (.reg false [
 oX 2 (.box 3 0),
 oX 4 (.mv (.k (.one (.v (.bool) (false)))))])
 (.seq
 (.reg false [
 oX 8 (.load true 3 2),
 oX 9 (.call .froz 125 [8]),
 oX 5 (.mv 9)])
 (.seq
 (.seq
 (.reg false [
 oX 10 (.mv 1),
 oX 11 (.len 10),
 oX 12 (.mv (kX 0))])
 (.join ⟨[], []⟩ [] []
 (.block 0
 (.loop 0 ⟨[(5, sX), (10, .one (.c (.v (lX)))), (11, sX), (12, sX)], []⟩ [2] []
 (.seq
 (.reg false [
 oX 13 (.bin .lss 12 11)])
 (.seq
 (.cond 13
 .skip
 (.exit 0))
 (.seq
 (.block 1
 (.seq
 (.reg false [
 oX 14 (.idxA 1 10 12),
 oX 15 (.load false 1 14),
 oX 7 (.mv 15)])
 (.seq
 (.reg false [
 oX 16 (.mv 7),
 oX 17 (.bin .lss 16 (kX 0)),
 oX 18 (.mv 17),
 ⟨(some 19), .mv 7, (some (18, false))⟩,
 ⟨(some 20), .mv 5, (some (18, false))⟩,
 ⟨(some 21), .bin .gtr 19 20, (some (18, false))⟩,
 oX 22 (.pick 18 (.k (.one (.v (.bool) (true)))) 21)])
 (.cond 22
 (.seq
 (.reg false [
 oX 4 (.mv (.k (.one (.v (.bool) (false)))))])
 .ret)
 .skip))))
 (.reg false [
 oX 23 (.bin .add 12 (kX 1)),
 oX 12 (.mv 23)]))))))))
 (.seq
 (.reg false [
 oX 4 (.mv (.k (.one (.v (.bool) (true)))))])
 .ret))))
def ms_impl_inRing : List MRes := [.tmp 4]
theorem n_impl_inRing (NN : Nat) (x : DLL (Sig.tys ag_impl_inRing)) : runS NN [fn_impl_rawTop] sc_impl_inRing ms_impl_inRing ag_impl_inRing rs_impl_inRing x = G_impl_inRing NN x := by kernel_rfl
theorem k_impl_inRing : chkS pX 113 sc_impl_inRing.er ms_impl_inRing 2 = true := by decide +kernel
theorem p_impl_inRing : PureSpec pX 113 fn_impl_inRing.M ∧ chkFun pX 113 = true :=
  pure_of_runS (T := [fn_impl_rawTop]) (sc := sc_impl_inRing) (ms := ms_impl_inRing) (args := ag_impl_inRing) (res := rs_impl_inRing) (SOk.cons p_impl_rawTop <| SOk.nil) follows_ok k_impl_inRing F_impl_inRing fun x y h => (n_impl_inRing FUEL x).trans (f_impl_inRing x y h)

def fn_impl_TensorOk : SFn := ⟨61, ag_impl_TensorOk, mu_impl_TensorOk, rs_impl_TensorOk, F_impl_TensorOk⟩
def sc_impl_TensorOk : SCode :=
 (.seq
 (.reg false [
 oX 2 (.box 3 0),
 oX 3 (.box 3 1),
 oX 4 (.mv (.k (.one (.v (.bool) (false)))))])
 (.seq
 (.seq
 (.reg false [
 oX 6 (.load true 3 2),
 oX 7 (.call .froz 110 [6]),
 oX 8 (.un .not 7)])
 (.cond 8
 (.seq
 (.reg false [
 oX 4 (.mv (.k (.one (.v (.bool) (false)))))])
 .ret)
 .skip))
 (.seq
 (.reg false [
 oX 9 (.load true 3 3),
 oX 10 (.call .froz 111 [9]),
 oX 5 (.mv 10)])
 (.seq
 (.reg true [
 oX 11 (.mv 5),
 oX 12 (.bin .neq 11 (kX (-1))),
 oX 13 (.mv 12),
 ⟨(some 14), .fieldA 2 3, (some (13, true))⟩,
 ⟨(some 15), .load false 1 14, (some (13, true))⟩,
 ⟨(some 16), .len 15, (some (13, true))⟩,
 ⟨(some 17), .mv 5, (some (13, true))⟩,
 ⟨(some 18), .load true 3 2, (some (13, true))⟩,
 ⟨(some 19), .call .froz 112 [18], (some (13, true))⟩,
 ⟨(some 20), .bin .mul 17 19, (some (13, true))⟩,
 ⟨(some 21), .bin .eql 16 20, (some (13, true))⟩,
 oX 22 (.pick 13 21 (.k (.one (.v (.bool) (false))))),
 oX 23 (.mv 22),
 ⟨(some 24), .load true 3 2, (some (23, true))⟩,
 ⟨(some 25), .fieldA 2 3, (some (23, true))⟩,
 ⟨(some 26), .load false 1 25, (some (23, true))⟩,
 ⟨(some 27), .call .froz 113 [24, 26], (some (23, true))⟩,
 oX 28 (.pick 23 27 (.k (.one (.v (.bool) (false))))),
 oX 4 (.mv 28)])
 .ret))))
def ms_impl_TensorOk : List MRes := [.tmp 4]
theorem n_impl_TensorOk (NN : Nat) (x : DLL (Sig.tys ag_impl_TensorOk)) : runS NN [fn_impl_RingOk, fn_impl_TensorSize, fn_impl_rawWidth, fn_impl_inRing] sc_impl_TensorOk ms_impl_TensorOk ag_impl_TensorOk rs_impl_TensorOk x = G_impl_TensorOk NN x := by kernel_rfl
theorem k_impl_TensorOk : chkS pX 61 sc_impl_TensorOk.er ms_impl_TensorOk 2 = true := by decide +kernel
theorem p_impl_TensorOk : PureSpec pX 61 fn_impl_TensorOk.M ∧ chkFun pX 61 = true :=
  pure_of_runS (T := [fn_impl_RingOk, fn_impl_TensorSize, fn_impl_rawWidth, fn_impl_inRing]) (sc := sc_impl_TensorOk) (ms := ms_impl_TensorOk) (args := ag_impl_TensorOk) (res := rs_impl_TensorOk) (SOk.cons p_impl_RingOk <| SOk.cons p_impl_TensorSize <| SOk.cons p_impl_rawWidth <| SOk.cons p_impl_inRing <| SOk.nil) follows_ok k_impl_TensorOk F_impl_TensorOk fun x y h => (n_impl_TensorOk FUEL x).trans (f_impl_TensorOk x y h)

def fn_impl_inMod : SFn := ⟨114, ag_impl_inMod, mu_impl_inMod, rs_impl_inMod, F_impl_inMod⟩
def sc_impl_inMod : SCode :=
 (.seq
 (.reg false [
 oX 4 (.mv (.k (.one (.v (.bool) (false)))))])
 (.seq
 (.seq
 (.reg false [
 oX 7 (.mv 1),
 oX 8 (.len 7),
 oX 9 (.mv (kX 0))])
 (.join ⟨[], []⟩ [] []
 (.block 0
 (.loop 0 ⟨[(0, sX), (7, .one (.c (.v (lX)))), (8, sX), (9, sX)], []⟩ [] []
 (.seq
 (.reg false [
 oX 10 (.bin .lss 9 8)])
 (.seq
 (.cond 10
 .skip
 (.exit 0))
 (.seq
 (.block 1
 (.seq
 (.reg false [
 oX 11 (.idxA 1 7 9),
 oX 12 (.load false 1 11),
 oX 6 (.mv 12)])
 (.seq
 (.reg false [
 oX 13 (.mv 6),
 oX 14 (.bin .lss 13 (kX 0)),
 oX 15 (.mv 14),
 ⟨(some 16), .mv 6, (some (15, false))⟩,
 ⟨(some 17), .mv 0, (some (15, false))⟩,
 ⟨(some 18), .bin .geq 16 17, (some (15, false))⟩,
 oX 19 (.pick 15 (.k (.one (.v (.bool) (true)))) 18)])
 (.cond 19
 (.seq
 (.reg false [
 oX 4 (.mv (.k (.one (.v (.bool) (false)))))])
 .ret)
 .skip))))
 (.reg false [
 oX 20 (.bin .add 9 (kX 1)),
 oX 9 (.mv 20)]))))))))
 (.seq
 (.reg false [
 oX 4 (.mv (.k (.one (.v (.bool) (true)))))])
 .ret)))
def ms_impl_inMod : List MRes := [.tmp 4]
theorem n_impl_inMod (NN : Nat) (x : DLL (Sig.tys ag_impl_inMod)) : runS NN [] sc_impl_inMod ms_impl_inMod ag_impl_inMod rs_impl_inMod x = G_impl_inMod NN x := by kernel_rfl
theorem k_impl_inMod : chkS pX 114 sc_impl_inMod.er ms_impl_inMod 2 = true := by decide +kernel
theorem p_impl_inMod : PureSpec pX 114 fn_impl_inMod.M ∧ chkFun pX 114 = true :=
  pure_of_runS (T := []) (sc := sc_impl_inMod) (ms := ms_impl_inMod) (args := ag_impl_inMod) (res := rs_impl_inMod) (SOk.nil) follows_ok k_impl_inMod F_impl_inMod fun x y h => (n_impl_inMod FUEL x).trans (f_impl_inMod x y h)

def fn_impl_ChargesOk : SFn := ⟨62, ag_impl_ChargesOk, mu_impl_ChargesOk, rs_impl_ChargesOk, F_impl_ChargesOk⟩
def sc_impl_ChargesOk : SCode :=
 (.seq
 (.reg false [
 oX 2 (.box 3 0),
 oX 3 (.box 2 1),
 oX 4 (.mv (.k (.one (.v (.bool) (false)))))])
 (.seq
 (.seq
 (.reg false [
 oX 7 (.load true 3 2),
 oX 8 (.call .froz 111 [7]),
 oX 9 (.bin .eql 8 (kX (-1))),
 oX 10 (.mv 9),
 ⟨(some 11), .fieldA 0 3, (some (10, false))⟩,
 ⟨(some 12), .load false 1 11, (some (10, false))⟩,
 ⟨(some 13), .bin .lss 12 (kX 1), (some (10, false))⟩,
 oX 14 (.pick 10 (.k (.one (.v (.bool) (true)))) 13),
 oX 15 (.mv 14),
 ⟨(some 16), .fieldA 0 3, (some (15, false))⟩,
 ⟨(some 17), .load false 1 16, (some (15, false))⟩,
 ⟨(some 18), .bin .gtr 17 (kX 12), (some (15, false))⟩,
 oX 19 (.pick 15 (.k (.one (.v (.bool) (true)))) 18),
 oX 20 (.mv 19),
 ⟨(some 21), .fieldA 1 3, (some (20, false))⟩,
 ⟨(some 22), .load false 1 21, (some (20, false))⟩,
 ⟨(some 23), .len 22, (some (20, false))⟩,
 ⟨(some 24), .fieldA 1 2, (some (20, false))⟩,
 ⟨(some 25), .load false 1 24, (some (20, false))⟩,
 ⟨(some 26), .len 25, (some (20, false))⟩,
 ⟨(some 27), .bin .neq 23 26, (some (20, false))⟩,
 oX 28 (.pick 20 (.k (.one (.v (.bool) (true)))) 27)])
 (.cond 28
 (.seq
 (.reg false [
 oX 4 (.mv (.k (.one (.v (.bool) (false)))))])
 .ret)
 .skip))
 (.seq
 (.seq
 (.reg false [
 oX 29 (.fieldA 1 3),
 oX 30 (.load false 1 29),
 oX 31 (.len 30),
 oX 32 (.mv (kX 0))])
 (.join ⟨[], []⟩ [2, 3] []
 (.block 0
 (.loop 0 ⟨[(2, .one (rX 2)), (3, .one (rX 3)), (30, .one (.c (.v (.list [lX])))), (31, sX), (32, sX)], [(2, .box [.c (.v (lX)), .c (.v (lX)), .c (.v (lX))]), (3, .box [vX, .c (.v (.list [lX]))])]⟩ [2, 3] []
 (.seq
 (.reg false [
 oX 33 (.bin .lss 32 31)])
 (.seq
 (.cond 33
 .skip
 (.exit 0))
 (.seq
 (.block 1
 (.seq
 (.reg false [
 oX 34 (.mv 32),
 oX 35 (.idxA 1 30 32),
 oX 36 (.load false 1 35),
 oX 5 (.mv 34),
 oX 6 (.mv 36)])
 (.seq
 (.reg false [
 oX 37 (.mv 6),
 oX 38 (.len 37),
 oX 39 (.fieldA 1 2),
 oX 40 (.load false 1 39),
 oX 41 (.mv 5),
 oX 42 (.idxA 1 40 41),
 oX 43 (.load false 1 42),
 oX 44 (.bin .neq 38 43),
 oX 45 (.mv 44),
 ⟨(some 46), .fieldA 0 3, (some (45, false))⟩,
 ⟨(some 47), .load false 1 46, (some (45, false))⟩,
 ⟨(some 48), .mv 6, (some (45, false))⟩,
 ⟨(some 49), .call .froz 114 [47, 48], (some (45, false))⟩,
 ⟨(some 50), .un .not 49, (some (45, false))⟩,
 oX 51 (.pick 45 (.k (.one (.v (.bool) (true)))) 50)])
 (.cond 51
 (.seq
 (.reg false [
 oX 4 (.mv (.k (.one (.v (.bool) (false)))))])
 .ret)
 .skip))))
 (.reg false [
 oX 52 (.bin .add 32 (kX 1)),
 oX 32 (.mv 52)]))))))))
 (.seq
 (.reg false [
 oX 4 (.mv (.k (.one (.v (.bool) (true)))))])
 .ret))))
def ms_impl_ChargesOk : List MRes := [.tmp 4]
theorem n_impl_ChargesOk (NN : Nat) (x : DLL (Sig.tys ag_impl_ChargesOk)) : runS NN [fn_impl_TensorSize, fn_impl_inMod] sc_impl_ChargesOk ms_impl_ChargesOk ag_impl_ChargesOk rs_impl_ChargesOk x = G_impl_ChargesOk NN x := by kernel_rfl
theorem k_impl_ChargesOk : chkS pX 62 sc_impl_ChargesOk.er ms_impl_ChargesOk 2 = true := by decide +kernel
theorem p_impl_ChargesOk : PureSpec pX 62 fn_impl_ChargesOk.M ∧ chkFun pX 62 = true :=
  pure_of_runS (T := [fn_impl_TensorSize, fn_impl_inMod]) (sc := sc_impl_ChargesOk) (ms := ms_impl_ChargesOk) (args := ag_impl_ChargesOk) (res := rs_impl_ChargesOk) (SOk.cons p_impl_TensorSize <| SOk.cons p_impl_inMod <| SOk.nil) follows_ok k_impl_ChargesOk F_impl_ChargesOk fun x y h => (n_impl_ChargesOk FUEL x).trans (f_impl_ChargesOk x y h)

def fn_impl_copyInts : SFn := ⟨115, ag_impl_copyInts, mu_impl_copyInts, rs_impl_copyInts, F_impl_copyInts⟩
def sc_impl_copyInts : SCode :=
 (.seq
 (.reg false [
 oX 2 (.mv (.k (.one (.nil iX))))])
 (.seq
 (.reg false [
 oX 3 (.mv 0),
 oX 4 (.append true iX 8 (.k (.one (.nil iX))) 3),
 oX 2 (.mv 4)])
 .ret))
def ms_impl_copyInts : List MRes := [.tmp 2]
theorem n_impl_copyInts (NN : Nat) (x : DLL (Sig.tys ag_impl_copyInts)) : runS NN [] sc_impl_copyInts ms_impl_copyInts ag_impl_copyInts rs_impl_copyInts x = G_impl_copyInts NN x := by kernel_rfl
theorem k_impl_copyInts : chkS pX 115 sc_impl_copyInts.er ms_impl_copyInts 1 = true := by decide +kernel
theorem p_impl_copyInts : PureSpec pX 115 fn_impl_copyInts.M ∧ chkFun pX 115 = true :=
  pure_of_runS (T := []) (sc := sc_impl_copyInts) (ms := ms_impl_copyInts) (args := ag_impl_copyInts) (res := rs_impl_copyInts) (SOk.nil) follows_ok k_impl_copyInts F_impl_copyInts fun x y h => (n_impl_copyInts FUEL x).trans (f_impl_copyInts x y h)

def fn_impl_copyTensor : SFn := ⟨63, ag_impl_copyTensor, mu_impl_copyTensor, rs_impl_copyTensor, F_impl_copyTensor⟩
def sc_impl_copyTensor : SCode :=
 (.seq
 (.reg false [
 oX 1 (.box 3 0),
 oX 2 (.alloc [.nil iX, .nil iX, .nil iX])])
 (.seq
 (.reg true [
 oX 3 (.fieldA 0 1),
 oX 4 (.load false 1 3),
 oX 5 (.call .froz 115 [4]),
 oX 6 (.fieldA 1 1),
 oX 7 (.load false 1 6),
 oX 8 (.call .froz 115 [7]),
 oX 9 (.fieldA 2 1),
 oX 10 (.load false 1 9),
 oX 11 (.call .froz 115 [10]),
 oX 12 (.build [.nil iX, .nil iX, .nil iX] [(0, 1, 5), (1, 1, 8), (2, 1, 11)]),
 uX (.store 3 2 12)])
 .ret))
def ms_impl_copyTensor : List MRes := [.cell 2 3 true]
theorem n_impl_copyTensor (NN : Nat) (x : DLL (Sig.tys ag_impl_copyTensor)) : runS NN [fn_impl_copyInts] sc_impl_copyTensor ms_impl_copyTensor ag_impl_copyTensor rs_impl_copyTensor x = G_impl_copyTensor NN x := by kernel_rfl
theorem k_impl_copyTensor : chkS pX 63 sc_impl_copyTensor.er ms_impl_copyTensor 1 = true := by decide +kernel
theorem p_impl_copyTensor : PureSpec pX 63 fn_impl_copyTensor.M ∧ chkFun pX 63 = true :=
  pure_of_runS (T := [fn_impl_copyInts]) (sc := sc_impl_copyTensor) (ms := ms_impl_copyTensor) (args := ag_impl_copyTensor) (res := rs_impl_copyTensor) (SOk.cons p_impl_copyInts <| SOk.nil) follows_ok k_impl_copyTensor F_impl_copyTensor fun x y h => (n_impl_copyTensor FUEL x).trans (f_impl_copyTensor x y h)

def fn_impl_productOf : SFn := ⟨64, ag_impl_productOf, mu_impl_productOf, rs_impl_productOf, F_impl_productOf⟩
def sc_impl_productOf : SCode :=
 (.seq
 (.reg false [
 oX 2 (.mv (kX 0))])
 (.seq
 (.reg false [
 oX 3 (.mv (kX 1))])
 (.seq
 (.seq
 (.reg false [
 oX 6 (.mv 0),
 oX 7 (.len 6),
 oX 8 (.mv (kX 0))])
 (.join ⟨[(3, sX)], []⟩ [] []
 (.block 0
 (.loop 0 ⟨[(3, sX), (6, .one (.c (.v (lX)))), (7, sX), (8, sX)], []⟩ [] []
 (.seq
 (.reg false [
 oX 9 (.bin .lss 8 7)])
 (.seq
 (.cond 9
 .skip
 (.exit 0))
 (.seq
 (.block 1
 (.seq
 (.reg false [
 oX 10 (.idxA 1 6 8),
 oX 11 (.load false 1 10),
 oX 5 (.mv 11)])
 (.reg false [
 oX 12 (.mv 3),
 oX 13 (.mv 5),
 oX 14 (.bin .mul 12 13),
 oX 3 (.mv 14)])))
 (.reg false [
 oX 15 (.bin .add 8 (kX 1)),
 oX 8 (.mv 15)]))))))))
 (.seq
 (.reg false [
 oX 16 (.mv 3),
 oX 2 (.mv 16)])
 .ret))))
def ms_impl_productOf : List MRes := [.tmp 2]
theorem n_impl_productOf (NN : Nat) (x : DLL (Sig.tys ag_impl_productOf)) : runS NN [] sc_impl_productOf ms_impl_productOf ag_impl_productOf rs_impl_productOf x = G_impl_productOf NN x := by kernel_rfl
theorem k_impl_productOf : chkS pX 64 sc_impl_productOf.er ms_impl_productOf 1 = true := by decide +kernel
theorem p_impl_productOf : PureSpec pX 64 fn_impl_productOf.M ∧ chkFun pX 64 = true :=
  pure_of_runS (T := []) (sc := sc_impl_productOf) (ms := ms_impl_productOf) (args := ag_impl_productOf) (res := rs_impl_productOf) (SOk.nil) follows_ok k_impl_productOf F_impl_productOf fun x y h => (n_impl_productOf FUEL x).trans (f_impl_productOf x y h)

def fn_impl_indexIn : SFn := ⟨67, ag_impl_indexIn, mu_impl_indexIn, rs_impl_indexIn, F_impl_indexIn⟩
def sc_impl_indexIn : SCode :=
 (.seq
 (.reg false [
 oX 4 (.mv (.k (.one (.nil iX))))])
 (.seq
 (.reg false [
 oX 7 (.mv 0),
 oX 8 (.len 7),
 oX 9 (.mkslice .froz iX 8 (0 : Int) 8 8),
 oX 5 (.mv 9)])
 (.seq
 (.seq
 (.reg false [
 oX 10 (.mv 0),
 oX 11 (.len 10),
 oX 12 (.bin .sub 11 (kX 1)),
 oX 6 (.mv 12)])
 (.join ⟨[(5, .one (fX 500001 1))], [(500001, .row true .froz iX)]⟩ [500000, 500001] [(false, 5, 0, 500001, .froz, [])]
 (.block 0
 (.loop 0 ⟨[(0, .one (.c (.v (lX)))), (1, sX), (5, .one (fX 500000 1)), (6, sX)], [(500000, .row true .froz iX)]⟩ [9, 500000] [(false, 5, 0, 500000, .froz, [])]
 (.seq
 (.seq
 (.reg false [
 oX 13 (.mv 6),
 oX 14 (.bin .geq 13 (kX 0))])
 (.cond 14
 .skip
 (.exit 0)))
 (.seq
 (.block 1
 (.seq
 (.reg false [
 oX 17 (.mv 5),
 oX 18 (.mv 6),
 oX 19 (.mv 1),
 oX 20 (.mv 0),
 oX 21 (.mv 6),
 oX 22 (.idxA 1 20 21),
 oX 23 (.load false 1 22),
 oX 24 (.bin .rem 19 23),
 oX 25 (.idxA 1 17 18),
 uX (.store 1 25 24)])
 (.reg false [
 oX 26 (.mv 1),
 oX 27 (.mv 0),
 oX 28 (.mv 6),
 oX 29 (.idxA 1 27 28),
 oX 30 (.load false 1 29),
 oX 31 (.bin .quo 26 30),
 oX 1 (.mv 31)])))
 (.reg false [
 oX 15 (.mv 6),
 oX 16 (.bin .sub 15 (kX 1)),
 oX 6 (.mv 16)])))))))
 (.seq
 (.reg false [
 oX 32 (.mv 5),
 oX 4 (.mv 32)])
 .ret))))
def ms_impl_indexIn : List MRes := [.tmp 4]
theorem n_impl_indexIn (NN : Nat) (x : DLL (Sig.tys ag_impl_indexIn)) : runS NN [] sc_impl_indexIn ms_impl_indexIn ag_impl_indexIn rs_impl_indexIn x = G_impl_indexIn NN x := by kernel_rfl
theorem k_impl_indexIn : chkS pX 67 sc_impl_indexIn.er ms_impl_indexIn 2 = true := by decide +kernel
theorem p_impl_indexIn : PureSpec pX 67 fn_impl_indexIn.M ∧ chkFun pX 67 = true :=
  pure_of_runS (T := []) (sc := sc_impl_indexIn) (ms := ms_impl_indexIn) (args := ag_impl_indexIn) (res := rs_impl_indexIn) (SOk.nil) follows_ok k_impl_indexIn F_impl_indexIn fun x y h => (n_impl_indexIn FUEL x).trans (f_impl_indexIn x y h)

def fn_impl_chargesAt : SFn := ⟨66, ag_impl_chargesAt, mu_impl_chargesAt, rs_impl_chargesAt, F_impl_chargesAt⟩
def sc_impl_chargesAt : SCode :=
 (.seq
 (.reg false [
 oX 2 (.box 2 0),
 oX 4 (.mv (.k (.one (.nil iX))))])
 (.seq
 (.reg false [
 oX 8 (.mv 1),
 oX 9 (.len 8),
 oX 10 (.mkslice .froz iX 8 (0 : Int) 9 9),
 oX 5 (.mv 10)])
 (.seq
 (.seq
 (.reg false [
 oX 11 (.mv 1),
 oX 12 (.len 11),
 oX 13 (.mv (kX 0))])
 (.join ⟨[(5, .one (fX 500001 1))], [(500001, .row true .froz iX)]⟩ [2, 500000, 500001] [(false, 5, 0, 500001, .froz, [])]
 (.block 0
 (.loop 0 ⟨[(2, .one (rX 2)), (5, .one (fX 500000 1)), (11, .one (.c (.v (lX)))), (12, sX), (13, sX)], [(2, .box [vX, .c (.v (.list [lX]))]), (500000, .row true .froz iX)]⟩ [2, 10, 500000] [(false, 5, 0, 500000, .froz, [])]
 (.seq
 (.reg false [
 oX 14 (.bin .lss 13 12)])
 (.seq
 (.cond 14
 .skip
 (.exit 0))
 (.seq
 (.block 1
 (.seq
 (.reg false [
 oX 15 (.mv 13),
 oX 16 (.idxA 1 11 13),
 oX 17 (.load false 1 16),
 oX 6 (.mv 15),
 oX 7 (.mv 17)])
 (.reg false [
 oX 18 (.mv 5),
 oX 19 (.mv 6),
 oX 20 (.fieldA 1 2),
 oX 21 (.load false 1 20),
 oX 22 (.mv 6),
 oX 23 (.idxA 1 21 22),
 oX 24 (.load false 1 23),
 oX 25 (.mv 7),
 oX 26 (.idxA 1 24 25),
 oX 27 (.load false 1 26),
 oX 28 (.idxA 1 18 19),
 uX (.store 1 28 27)])))
 (.reg false [
 oX 29 (.bin .add 13 (kX 1)),
 oX 13 (.mv 29)]))))))))
 (.seq
 (.reg false [
 oX 30 (.mv 5),
 oX 4 (.mv 30)])
 .ret))))
def ms_impl_chargesAt : List MRes := [.tmp 4]
theorem n_impl_chargesAt (NN : Nat) (x : DLL (Sig.tys ag_impl_chargesAt)) : runS NN [] sc_impl_chargesAt ms_impl_chargesAt ag_impl_chargesAt rs_impl_chargesAt x = G_impl_chargesAt NN x := by kernel_rfl
theorem k_impl_chargesAt : chkS pX 66 sc_impl_chargesAt.er ms_impl_chargesAt 2 = true := by decide +kernel
theorem p_impl_chargesAt : PureSpec pX 66 fn_impl_chargesAt.M ∧ chkFun pX 66 = true :=
  pure_of_runS (T := []) (sc := sc_impl_chargesAt) (ms := ms_impl_chargesAt) (args := ag_impl_chargesAt) (res := rs_impl_chargesAt) (SOk.nil) follows_ok k_impl_chargesAt F_impl_chargesAt fun x y h => (n_impl_chargesAt FUEL x).trans (f_impl_chargesAt x y h)

def fn_impl_sumInts : SFn := ⟨65, ag_impl_sumInts, mu_impl_sumInts, rs_impl_sumInts, F_impl_sumInts⟩
def sc_impl_sumInts : SCode :=
 (.seq
 (.reg false [
 oX 2 (.mv (kX 0))])
 (.seq
 (.reg false [
 oX 3 (.mv (kX 0))])
 (.seq
 (.seq
 (.reg false [
 oX 6 (.mv 0),
 oX 7 (.len 6),
 oX 8 (.mv (kX 0))])
 (.join ⟨[(3, sX)], []⟩ [] []
 (.block 0
 (.loop 0 ⟨[(3, sX), (6, .one (.c (.v (lX)))), (7, sX), (8, sX)], []⟩ [] []
 (.seq
 (.reg false [
 oX 9 (.bin .lss 8 7)])
 (.seq
 (.cond 9
 .skip
 (.exit 0))
 (.seq
 (.block 1
 (.seq
 (.reg false [
 oX 10 (.idxA 1 6 8),
 oX 11 (.load false 1 10),
 oX 5 (.mv 11)])
 (.reg false [
 oX 12 (.mv 3),
 oX 13 (.mv 5),
 oX 14 (.bin .add 12 13),
 oX 3 (.mv 14)])))
 (.reg false [
 oX 15 (.bin .add 8 (kX 1)),
 oX 8 (.mv 15)]))))))))
 (.seq
 (.reg false [
 oX 16 (.mv 3),
 oX 2 (.mv 16)])
 .ret))))
def ms_impl_sumInts : List MRes := [.tmp 2]
theorem n_impl_sumInts (NN : Nat) (x : DLL (Sig.tys ag_impl_sumInts)) : runS NN [] sc_impl_sumInts ms_impl_sumInts ag_impl_sumInts rs_impl_sumInts x = G_impl_sumInts NN x := by kernel_rfl
theorem k_impl_sumInts : chkS pX 65 sc_impl_sumInts.er ms_impl_sumInts 1 = true := by decide +kernel
theorem p_impl_sumInts : PureSpec pX 65 fn_impl_sumInts.M ∧ chkFun pX 65 = true :=
  pure_of_runS (T := []) (sc := sc_impl_sumInts) (ms := ms_impl_sumInts) (args := ag_impl_sumInts) (res := rs_impl_sumInts) (SOk.nil) follows_ok k_impl_sumInts F_impl_sumInts fun x y h => (n_impl_sumInts FUEL x).trans (f_impl_sumInts x y h)

def fn_impl_rawElem : SFn := ⟨68, ag_impl_rawElem, mu_impl_rawElem, rs_impl_rawElem, F_impl_rawElem⟩
def sc_impl_rawElem : SCode :=
 (.seq
 (.reg false [
 oX 3 (.box 3 0),
 oX 4 (.box 3 1),
 oX 6 (.mv (.k (.one (.nil iX))))])
 (.seq
 (.reg false [
 oX 8 (.load true 3 3),
 oX 9 (.call .froz 112 [8]),
 oX 7 (.mv 9)])
 (.seq
 (.reg false [
 oX 10 (.fieldA 2 4),
 oX 11 (.load false 1 10),
 oX 12 (.mv 2),
 oX 13 (.mv 7),
 oX 14 (.bin .mul 12 13),
 oX 15 (.mv 2),
 oX 16 (.bin .add 15 (kX 1)),
 oX 17 (.mv 7),
 oX 18 (.bin .mul 16 17),
 oX 19 (.slice 1 11 (some 14) (some 18)),
 oX 6 (.mv 19)])
 .ret)))
def ms_impl_rawElem : List MRes := [.tmp 6]
theorem n_impl_rawElem (NN : Nat) (x : DLL (Sig.tys ag_impl_rawElem)) : runWS NN [fn_impl_rawWidth] sc_impl_rawElem ms_impl_rawElem ag_impl_rawElem mu_impl_rawElem.tl x = G_impl_rawElem NN x := by kernel_rfl
theorem k_impl_rawElem : chkS pX 68 sc_impl_rawElem.er ms_impl_rawElem 3 = true := by decide +kernel
theorem p_impl_rawElem : WSpec Go.Proofs.Try.prog 68 mu_impl_rawElem.tl fn_impl_rawElem.MW ∧ chkFun pX 68 = true :=
  w_of_runWS (T := [fn_impl_rawWidth]) (sc := sc_impl_rawElem) (ms := ms_impl_rawElem) (args := ag_impl_rawElem) (mu := mu_impl_rawElem.tl) (SOk.cons p_impl_rawWidth <| SOk.nil) follows_ok k_impl_rawElem (by decide +kernel) F_impl_rawElem fun x y h => (n_impl_rawElem FUEL x).trans (f_impl_rawElem x y h)

def fn_impl_rawZero : SFn := ⟨69, ag_impl_rawZero, mu_impl_rawZero, rs_impl_rawZero, F_impl_rawZero⟩
def sc_impl_rawZero : SCode :=
 (.seq
 (.reg false [
 oX 1 (.box 3 0),
 oX 2 (.mv (.k (.one (.nil iX))))])
 (.seq
 (.reg false [
 oX 4 (.load true 3 1),
 oX 5 (.call .froz 112 [4]),
 oX 6 (.mkslice .froz iX 8 (0 : Int) 5 5),
 oX 3 (.mv 6)])
 (.seq
 (.seq
 (.reg false [
 oX 7 (.fieldA 0 1),
 oX 8 (.load false 1 7),
 oX 9 (.bin .eql 8 (kX 4))])
 (.join ⟨[(3, .one (fX 500000 1))], [(500000, .row true .froz iX)]⟩ [1, 6, 500000] [(false, 3, 0, 500000, .froz, [])]
 (.cond 9
 (.reg false [
 oX 10 (.mv 3),
 oX 11 (.fieldA 1 1),
 oX 12 (.load false 1 11),
 oX 13 (.idxA 1 10 (kX 0)),
 uX (.store 1 13 12)])
 .skip)))
 (.seq
 (.reg false [
 oX 14 (.mv 3),
 oX 2 (.mv 14)])
 .ret))))
def ms_impl_rawZero : List MRes := [.tmp 2]
theorem n_impl_rawZero (NN : Nat) (x : DLL (Sig.tys ag_impl_rawZero)) : runS NN [fn_impl_rawWidth] sc_impl_rawZero ms_impl_rawZero ag_impl_rawZero rs_impl_rawZero x = G_impl_rawZero NN x := by kernel_rfl
theorem k_impl_rawZero : chkS pX 69 sc_impl_rawZero.er ms_impl_rawZero 1 = true := by decide +kernel
theorem p_impl_rawZero : PureSpec pX 69 fn_impl_rawZero.M ∧ chkFun pX 69 = true :=
  pure_of_runS (T := [fn_impl_rawWidth]) (sc := sc_impl_rawZero) (ms := ms_impl_rawZero) (args := ag_impl_rawZero) (res := rs_impl_rawZero) (SOk.cons p_impl_rawWidth <| SOk.nil) follows_ok k_impl_rawZero F_impl_rawZero fun x y h => (n_impl_rawZero FUEL x).trans (f_impl_rawZero x y h)

def fn_impl_ConserveTensor : SFn := ⟨20, ag_impl_ConserveTensor, mu_impl_ConserveTensor, rs_impl_ConserveTensor, F_impl_ConserveTensor⟩
def sc_impl_ConserveTensor : SCode :=
 (.seq
 (.reg false [
 oX 3 (.box 3 0),
 oX 4 (.box 3 1),
 oX 5 (.box 2 2),
 oX 6 (.alloc [.nil iX, .nil iX, .nil iX]),
 oX 7 (.mv (.k (.one (.v (.bool) (false)))))])
 (.seq
 (.seq
 (.reg false [
 oX 10 (.load true 3 3),
 oX 11 (.load true 3 4),
 oX 12 (.call .froz 61 [10, 11]),
 oX 13 (.un .not 12),
 oX 14 (.mv 13),
 ⟨(some 15), .load true 3 4, (some (14, false))⟩,
 ⟨(some 16), .load true 2 5, (some (14, false))⟩,
 ⟨(some 17), .call .froz 62 [15, 16], (some (14, false))⟩,
 ⟨(some 18), .un .not 17, (some (14, false))⟩,
 oX 19 (.pick 14 (.k (.one (.v (.bool) (true)))) 18)])
 (.cond 19
 (.seq
 (.reg false [
 oX 20 (.build [.nil iX, .nil iX, .nil iX] []),
 uX (.store 3 6 20),
 oX 7 (.mv (.k (.one (.v (.bool) (false)))))])
 .ret)
 .skip))
 (.seq
 (.reg false [
 oX 21 (.load true 3 4),
 oX 22 (.call .froz 63 [21]),
 oX 8 (.alloc [.nil iX, .nil iX, .nil iX]),
 uX (.store 3 8 22)])
 (.seq
 (.seq
 (.reg false [
 oX 9 (.mv (kX 0))])
 (.join ⟨[(8, .one (rX 8)), (6, .one (rX 6))], [(6, .box [fX 500006 1, fX 500007 1, fX 500008 1]), (8, .box [fX 500009 1, fX 500010 1, fX 500011 1]), (500006, .row true .froz iX), (500007, .row true .froz iX), (500008, .row true .froz iX), (500009, .row true .froz iX), (500010, .row true .froz iX), (500011, .row true .froz iX)]⟩ [3, 4, 5, 6, 8, 500000, 500001, 500002, 500003, 500004, 500005, 500006, 500007, 500008, 500009, 500010, 500011] [(true, 6, 0, 500006, .froz, []), (true, 6, 1, 500007, .froz, []), (true, 6, 2, 500008, .froz, []), (true, 8, 0, 500009, .froz, []), (true, 8, 1, 500010, .froz, []), (true, 8, 2, 500011, .froz, [])]
 (.block 0
 (.loop 0 ⟨[(3, .one (rX 3)), (4, .one (rX 4)), (5, .one (rX 5)), (6, .one (rX 6)), (8, .one (rX 8)), (9, sX)], [(3, .box [vX, vX, vX]), (4, .box [.c (.v (lX)), .c (.v (lX)), .c (.v (lX))]), (5, .box [vX, .c (.v (.list [lX]))]), (6, .box [fX 500000 1, fX 500001 1, fX 500002 1]), (8, .box [fX 500003 1, fX 500004 1, fX 500005 1]), (500000, .row true .froz iX), (500001, .row true .froz iX), (500002, .row true .froz iX), (500003, .row true .froz iX), (500004, .row true .froz iX), (500005, .row true .froz iX)]⟩ [3, 4, 5, 6, 23000, 23001, 23002, 8, 35000, 36000, 47000, 500000, 500001, 500002, 500003, 500004, 500005] [(true, 6, 0, 500000, .froz, []), (true, 6, 1, 500001, .froz, []), (true, 6, 2, 500002, .froz, []), (true, 8, 0, 500003, .froz, []), (true, 8, 1, 500004, .froz, []), (true, 8, 2, 500005, .froz, [])]
 (.seq
 (.seq
 (.reg false [
 oX 23 (.mv 9),
 oX 24 (.fieldA 1 4),
 oX 25 (.load false 1 24),
 oX 26 (.call .froz 64 [25]),
 oX 27 (.bin .lss 23 26)])
 (.cond 27
 .skip
 (.exit 0)))
 (.seq
 (.block 1
 (.seq
 (.reg true [
 oX 30 (.load true 2 5),
 oX 31 (.fieldA 1 4),
 oX 32 (.load false 1 31),
 oX 33 (.mv 9),
 oX 34 (.call .froz 67 [32, 33]),
 oX 35 (.call .froz 66 [30, 34]),
 oX 36 (.call .froz 65 [35]),
 oX 37 (.fieldA 0 5),
 oX 38 (.load false 1 37),
 oX 39 (.bin .rem 36 38),
 oX 40 (.bin .neq 39 (kX 0))])
 (.cond 40
 (.reg true [
 oX 41 (.load true 3 3),
 oX 42 (.load true 3 8),
 oX 43 (.mv 9),
 oX 44 (.callw 68 [41, 42, 43]),
 oX 45 (.load true 3 3),
 oX 46 (.call .froz 69 [45]),
 oX 47 (.copy 44 46)])
 .skip)))
 (.reg false [
 oX 28 (.mv 9),
 oX 29 (.bin .add 28 (kX 1)),
 oX 9 (.mv 29)])))))))
 (.seq
 (.reg false [
 oX 48 (.load true 3 8),
 uX (.store 3 6 48),
 oX 7 (.mv (.k (.one (.v (.bool) (true)))))])
 .ret)))))
def ms_impl_ConserveTensor : List MRes := [.cell 6 3 true, .tmp 7]
theorem n_impl_ConserveTensor (NN : Nat) (x : DLL (Sig.tys ag_impl_ConserveTensor)) : runS NN [fn_impl_TensorOk, fn_impl_ChargesOk, fn_impl_copyTensor, fn_impl_productOf, fn_impl_indexIn, fn_impl_chargesAt, fn_impl_sumInts, fn_impl_rawElem, fn_impl_rawZero] sc_impl_ConserveTensor ms_impl_ConserveTensor ag_impl_ConserveTensor rs_impl_ConserveTensor x = G_impl_ConserveTensor NN x := by kernel_rfl
theorem k_impl_ConserveTensor : chkS pX 20 sc_impl_ConserveTensor.er ms_impl_ConserveTensor 3 = true := by decide +kernel
theorem p_impl_ConserveTensor : PureSpec pX 20 fn_impl_ConserveTensor.M ∧ chkFun pX 20 = true :=
  pure_of_runS (T := [fn_impl_TensorOk, fn_impl_ChargesOk, fn_impl_copyTensor, fn_impl_productOf, fn_impl_indexIn, fn_impl_chargesAt, fn_impl_sumInts, fn_impl_rawElem, fn_impl_rawZero]) (sc := sc_impl_ConserveTensor) (ms := ms_impl_ConserveTensor) (args := ag_impl_ConserveTensor) (res := rs_impl_ConserveTensor) (SOk.cons p_impl_TensorOk <| SOk.cons p_impl_ChargesOk <| SOk.cons p_impl_copyTensor <| SOk.cons p_impl_productOf <| SOk.cons p_impl_indexIn <| SOk.cons p_impl_chargesAt <| SOk.cons p_impl_sumInts <| SOk.consW p_impl_rawElem <| SOk.cons p_impl_rawZero <| SOk.nil) follows_ok k_impl_ConserveTensor F_impl_ConserveTensor fun x y h => (n_impl_ConserveTensor FUEL x).trans (f_impl_ConserveTensor x y h)

def fn_laws_eqIntS : SFn := ⟨35, ag_laws_eqIntS, mu_laws_eqIntS, rs_laws_eqIntS, F_laws_eqIntS⟩
def sc_laws_eqIntS : SCode :=
 (.seq
 (.reg false [
 oX 4 (.mv (.k (.one (.v (.bool) (false)))))])
 (.seq
 (.seq
 (.reg false [
 oX 6 (.mv 0),
 oX 7 (.len 6),
 oX 8 (.mv 1),
 oX 9 (.len 8),
 oX 10 (.bin .neq 7 9)])
 (.cond 10
 (.seq
 (.reg false [
 oX 4 (.mv (.k (.one (.v (.bool) (false)))))])
 .ret)
 .skip))
 (.seq
 (.seq
 (.reg false [
 oX 5 (.mv (kX 0))])
 (.join ⟨[], []⟩ [] []
 (.block 0
 (.loop 0 ⟨[(0, .one (.c (.v (lX)))), (1, .one (.c (.v (lX)))), (5, sX)], []⟩ [] []
 (.seq
 (.seq
 (.reg false [
 oX 11 (.mv 5),
 oX 12 (.mv 0),
 oX 13 (.len 12),
 oX 14 (.bin .lss 11 13)])
 (.cond 14
 .skip
 (.exit 0)))
 (.seq
 (.block 1
 (.seq
 (.reg true [
 oX 17 (.mv 0),
 oX 18 (.mv 5),
 oX 19 (.idxA 1 17 18),
 oX 20 (.load false 1 19),
 oX 21 (.mv 1),
 oX 22 (.mv 5),
 oX 23 (.idxA 1 21 22),
 oX 24 (.load false 1 23),
 oX 25 (.bin .neq 20 24)])
 (.cond 25
 (.seq
 (.reg false [
 oX 4 (.mv (.k (.one (.v (.bool) (false)))))])
 .ret)
 .skip)))
 (.reg false [
 oX 15 (.mv 5),
 oX 16 (.bin .add 15 (kX 1)),
 oX 5 (.mv 16)])))))))
 (.seq
 (.reg false [
 oX 4 (.mv (.k (.one (.v (.bool) (true)))))])
 .ret))))
def ms_laws_eqIntS : List MRes := [.tmp 4]
theorem n_laws_eqIntS (NN : Nat) (x : DLL (Sig.tys ag_laws_eqIntS)) : runS NN [] sc_laws_eqIntS ms_laws_eqIntS ag_laws_eqIntS rs_laws_eqIntS x = G_laws_eqIntS NN x := by kernel_rfl
theorem k_laws_eqIntS : chkS pX 35 sc_laws_eqIntS.er ms_laws_eqIntS 2 = true := by decide +kernel
theorem p_laws_eqIntS : PureSpec pX 35 fn_laws_eqIntS.M ∧ chkFun pX 35 = true :=
  pure_of_runS (T := []) (sc := sc_laws_eqIntS) (ms := ms_laws_eqIntS) (args := ag_laws_eqIntS) (res := rs_laws_eqIntS) (SOk.nil) follows_ok k_laws_eqIntS F_laws_eqIntS fun x y h => (n_laws_eqIntS FUEL x).trans (f_laws_eqIntS x y h)

def fn_laws_eqTensor : SFn := ⟨21, ag_laws_eqTensor, mu_laws_eqTensor, rs_laws_eqTensor, F_laws_eqTensor⟩
def sc_laws_eqTensor : SCode :=
 (.seq
 (.reg false [
 oX 2 (.box 3 0),
 oX 3 (.box 3 1),
 oX 4 (.mv (.k (.one (.v (.bool) (false)))))])
 (.seq
 (.seq
 (.reg false [
 oX 5 (.fieldA 0 2),
 oX 6 (.load false 1 5),
 oX 7 (.fieldA 0 3),
 oX 8 (.load false 1 7),
 oX 9 (.call .froz 35 [6, 8]),
 oX 10 (.un .not 9)])
 (.cond 10
 (.seq
 (.reg false [
 oX 4 (.mv (.k (.one (.v (.bool) (false)))))])
 .ret)
 .skip))
 (.seq
 (.seq
 (.reg false [
 oX 11 (.fieldA 1 2),
 oX 12 (.load false 1 11),
 oX 13 (.fieldA 1 3),
 oX 14 (.load false 1 13),
 oX 15 (.call .froz 35 [12, 14]),
 oX 16 (.un .not 15)])
 (.cond 16
 (.seq
 (.reg false [
 oX 4 (.mv (.k (.one (.v (.bool) (false)))))])
 .ret)
 .skip))
 (.seq
 (.seq
 (.reg false [
 oX 17 (.fieldA 2 2),
 oX 18 (.load false 1 17),
 oX 19 (.fieldA 2 3),
 oX 20 (.load false 1 19),
 oX 21 (.call .froz 35 [18, 20]),
 oX 22 (.un .not 21)])
 (.cond 22
 (.seq
 (.reg false [
 oX 4 (.mv (.k (.one (.v (.bool) (false)))))])
 .ret)
 .skip))
 (.seq
 (.reg false [
 oX 4 (.mv (.k (.one (.v (.bool) (true)))))])
 .ret)))))
def ms_laws_eqTensor : List MRes := [.tmp 4]
theorem n_laws_eqTensor (NN : Nat) (x : DLL (Sig.tys ag_laws_eqTensor)) : runS NN [fn_laws_eqIntS] sc_laws_eqTensor ms_laws_eqTensor ag_laws_eqTensor rs_laws_eqTensor x = G_laws_eqTensor NN x := by kernel_rfl
theorem k_laws_eqTensor : chkS pX 21 sc_laws_eqTensor.er ms_laws_eqTensor 2 = true := by decide +kernel
theorem p_laws_eqTensor : PureSpec pX 21 fn_laws_eqTensor.M ∧ chkFun pX 21 = true :=
  pure_of_runS (T := [fn_laws_eqIntS]) (sc := sc_laws_eqTensor) (ms := ms_laws_eqTensor) (args := ag_laws_eqTensor) (res := rs_laws_eqTensor) (SOk.cons p_laws_eqIntS <| SOk.nil) follows_ok k_laws_eqTensor F_laws_eqTensor fun x y h => (n_laws_eqTensor FUEL x).trans (f_laws_eqTensor x y h)

def fn_laws_eqIntSS : SFn := ⟨70, ag_laws_eqIntSS, mu_laws_eqIntSS, rs_laws_eqIntSS, F_laws_eqIntSS⟩
def sc_laws_eqIntSS : SCode :=
 (.seq
 (.reg false [
 oX 4 (.mv (.k (.one (.v (.bool) (false)))))])
 (.seq
 (.seq
 (.reg false [
 oX 6 (.mv 0),
 oX 7 (.len 6),
 oX 8 (.mv 1),
 oX 9 (.len 8),
 oX 10 (.bin .neq 7 9)])
 (.cond 10
 (.seq
 (.reg false [
 oX 4 (.mv (.k (.one (.v (.bool) (false)))))])
 .ret)
 .skip))
 (.seq
 (.seq
 (.reg false [
 oX 5 (.mv (kX 0))])
 (.join ⟨[], []⟩ [] []
 (.block 0
 (.loop 0 ⟨[(0, .one (.c (.v (.list [lX])))), (1, .one (.c (.v (.list [lX])))), (5, sX)], []⟩ [] []
 (.seq
 (.seq
 (.reg false [
 oX 11 (.mv 5),
 oX 12 (.mv 0),
 oX 13 (.len 12),
 oX 14 (.bin .lss 11 13)])
 (.cond 14
 .skip
 (.exit 0)))
 (.seq
 (.block 1
 (.seq
 (.reg true [
 oX 17 (.mv 0),
 oX 18 (.mv 5),
 oX 19 (.idxA 1 17 18),
 oX 20 (.load false 1 19),
 oX 21 (.mv 1),
 oX 22 (.mv 5),
 oX 23 (.idxA 1 21 22),
 oX 24 (.load false 1 23),
 oX 25 (.call .froz 35 [20, 24]),
 oX 26 (.un .not 25)])
 (.cond 26
 (.seq
 (.reg false [
 oX 4 (.mv (.k (.one (.v (.bool) (false)))))])
 .ret)
 .skip)))
 (.reg false [
 oX 15 (.mv 5),
 oX 16 (.bin .add 15 (kX 1)),
 oX 5 (.mv 16)])))))))
 (.seq
 (.reg false [
 oX 4 (.mv (.k (.one (.v (.bool) (true)))))])
 .ret))))
def ms_laws_eqIntSS : List MRes := [.tmp 4]
theorem n_laws_eqIntSS (NN : Nat) (x : DLL (Sig.tys ag_laws_eqIntSS)) : runS NN [fn_laws_eqIntS] sc_laws_eqIntSS ms_laws_eqIntSS ag_laws_eqIntSS rs_laws_eqIntSS x = G_laws_eqIntSS NN x := by kernel_rfl
theorem k_laws_eqIntSS : chkS pX 70 sc_laws_eqIntSS.er ms_laws_eqIntSS 2 = true := by decide +kernel
theorem p_laws_eqIntSS : PureSpec pX 70 fn_laws_eqIntSS.M ∧ chkFun pX 70 = true :=
  pure_of_runS (T := [fn_laws_eqIntS]) (sc := sc_laws_eqIntSS) (ms := ms_laws_eqIntSS) (args := ag_laws_eqIntSS) (res := rs_laws_eqIntSS) (SOk.cons p_laws_eqIntS <| SOk.nil) follows_ok k_laws_eqIntSS F_laws_eqIntSS fun x y h => (n_laws_eqIntSS FUEL x).trans (f_laws_eqIntSS x y h)

def fn_laws_eqCharges : SFn := ⟨22, ag_laws_eqCharges, mu_laws_eqCharges, rs_laws_eqCharges, F_laws_eqCharges⟩
def sc_laws_eqCharges : SCode :=
 (.seq
 (.reg false [
 oX 2 (.box 2 0),
 oX 3 (.box 2 1),
 oX 4 (.mv (.k (.one (.v (.bool) (false)))))])
 (.seq
 (.seq
 (.reg false [
 oX 5 (.fieldA 0 2),
 oX 6 (.load false 1 5),
 oX 7 (.fieldA 0 3),
 oX 8 (.load false 1 7),
 oX 9 (.bin .neq 6 8)])
 (.cond 9
 (.seq
 (.reg false [
 oX 4 (.mv (.k (.one (.v (.bool) (false)))))])
 .ret)
 .skip))
 (.seq
 (.seq
 (.reg false [
 oX 10 (.fieldA 1 2),
 oX 11 (.load false 1 10),
 oX 12 (.fieldA 1 3),
 oX 13 (.load false 1 12),
 oX 14 (.call .froz 70 [11, 13]),
 oX 15 (.un .not 14)])
 (.cond 15
 (.seq
 (.reg false [
 oX 4 (.mv (.k (.one (.v (.bool) (false)))))])
 .ret)
 .skip))
 (.seq
 (.reg false [
 oX 4 (.mv (.k (.one (.v (.bool) (true)))))])
 .ret))))
def ms_laws_eqCharges : List MRes := [.tmp 4]
theorem n_laws_eqCharges (NN : Nat) (x : DLL (Sig.tys ag_laws_eqCharges)) : runS NN [fn_laws_eqIntSS] sc_laws_eqCharges ms_laws_eqCharges ag_laws_eqCharges rs_laws_eqCharges x = G_laws_eqCharges NN x := by kernel_rfl
theorem k_laws_eqCharges : chkS pX 22 sc_laws_eqCharges.er ms_laws_eqCharges 2 = true := by decide +kernel
theorem p_laws_eqCharges : PureSpec pX 22 fn_laws_eqCharges.M ∧ chkFun pX 22 = true :=
  pure_of_runS (T := [fn_laws_eqIntSS]) (sc := sc_laws_eqCharges) (ms := ms_laws_eqCharges) (args := ag_laws_eqCharges) (res := rs_laws_eqCharges) (SOk.cons p_laws_eqIntSS <| SOk.nil) follows_ok k_laws_eqCharges F_laws_eqCharges fun x y h => (n_laws_eqCharges FUEL x).trans (f_laws_eqCharges x y h)

def fn_laws_markIntS : SFn := ⟨37, ag_laws_markIntS, mu_laws_markIntS, rs_laws_markIntS, F_laws_markIntS⟩
def sc_laws_markIntS : SCode :=
 (.seq
 (.reg false [
 oX 4 (.mv (kX 0))])
 (.seq
 (.seq
 (.reg false [
 oX 5 (.mv (kX 0))])
 (.join ⟨[(1, sX)], [(1000000, .row false .froz iX)]⟩ [1000000] []
 (.block 0
 (.loop 0 ⟨[(0, .one (fX 1000000 1)), (1, sX), (5, sX)], [(1000000, .row false .froz iX)]⟩ [1000000, 500000] [(false, 0, 0, 500000, .froz, [])]
 (.seq
 (.seq
 (.reg false [
 oX 6 (.mv 5),
 oX 7 (.mv 0),
 oX 8 (.len 7),
 oX 9 (.bin .lss 6 8)])
 (.cond 9
 .skip
 (.exit 0)))
 (.seq
 (.block 1
 (.seq
 (.reg false [
 oX 12 (.mv 0),
 oX 13 (.mv 5),
 oX 14 (.mv 1),
 oX 15 (.idxA 1 12 13),
 uX (.store 1 15 14)])
 (.reg false [
 oX 16 (.mv 1),
 oX 17 (.bin .add 16 (kX 1)),
 oX 1 (.mv 17)])))
 (.reg false [
 oX 10 (.mv 5),
 oX 11 (.bin .add 10 (kX 1)),
 oX 5 (.mv 11)])))))))
 (.seq
 (.reg false [
 oX 18 (.mv 1),
 oX 4 (.mv 18)])
 .ret)))
def ms_laws_markIntS : List MRes := [.tmp 4]
theorem n_laws_markIntS (NN : Nat) (x : DLL (Sig.tys ag_laws_markIntS)) : runMS NN [] sc_laws_markIntS ms_laws_markIntS ag_laws_markIntS mu_laws_markIntS rs_laws_markIntS x = G_laws_markIntS NN x := by kernel_rfl
theorem k_laws_markIntS : chkS pX 37 sc_laws_markIntS.er ms_laws_markIntS 2 = true := by decide +kernel
theorem p_laws_markIntS : MutSpec pX 37 mu_laws_markIntS fn_laws_markIntS.MM ∧ chkFun pX 37 = true :=
  mut_of_runMS (T := []) (sc := sc_laws_markIntS) (ms := ms_laws_markIntS) (args := ag_laws_markIntS) (mu := mu_laws_markIntS) (res := rs_laws_markIntS) (SOk.nil) follows_ok k_laws_markIntS F_laws_markIntS fun x y h => (n_laws_markIntS FUEL x).trans (f_laws_markIntS x y h)

def fn_laws_markTensor : SFn := ⟨23, ag_laws_markTensor, mu_laws_markTensor, rs_laws_markTensor, F_laws_markTensor⟩
def sc_laws_markTensor : SCode :=
 (.seq
 (.reg false [
 oX 2 (.box 3 0),
 oX 4 (.mv (kX 0))])
 (.seq
 (.reg false [
 oX 5 (.fieldA 0 2),
 oX 6 (.load false 1 5),
 oX 7 (.mv 1),
 oX 8 (.callm .froz 37 [6, 7]),
 oX 1 (.mv 8)])
 (.seq
 (.reg false [
 oX 9 (.fieldA 1 2),
 oX 10 (.load false 1 9),
 oX 11 (.mv 1),
 oX 12 (.callm .froz 37 [10, 11]),
 oX 1 (.mv 12)])
 (.seq
 (.reg false [
 oX 13 (.fieldA 2 2),
 oX 14 (.load false 1 13),
 oX 15 (.mv 1),
 oX 16 (.callm .froz 37 [14, 15]),
 oX 1 (.mv 16)])
 (.seq
 (.reg false [
 oX 17 (.mv 1),
 oX 4 (.mv 17)])
 .ret)))))
def ms_laws_markTensor : List MRes := [.tmp 4]
theorem n_laws_markTensor (NN : Nat) (x : DLL (Sig.tys ag_laws_markTensor)) : runMS NN [fn_laws_markIntS] sc_laws_markTensor ms_laws_markTensor ag_laws_markTensor mu_laws_markTensor rs_laws_markTensor x = G_laws_markTensor NN x := by kernel_rfl
theorem k_laws_markTensor : chkS pX 23 sc_laws_markTensor.er ms_laws_markTensor 2 = true := by decide +kernel
theorem p_laws_markTensor : MutSpec pX 23 mu_laws_markTensor fn_laws_markTensor.MM ∧ chkFun pX 23 = true :=
  mut_of_runMS (T := [fn_laws_markIntS]) (sc := sc_laws_markTensor) (ms := ms_laws_markTensor) (args := ag_laws_markTensor) (mu := mu_laws_markTensor) (res := rs_laws_markTensor) (SOk.consM p_laws_markIntS <| SOk.nil) follows_ok k_laws_markTensor F_laws_markTensor fun x y h => (n_laws_markTensor FUEL x).trans (f_laws_markTensor x y h)

def fn_laws_markIntSS : SFn := ⟨71, ag_laws_markIntSS, mu_laws_markIntSS, rs_laws_markIntSS, F_laws_markIntSS⟩
def sc_laws_markIntSS : SCode :=
 (.seq
 (.reg false [
 oX 4 (.mv (kX 0))])
 (.seq
 (.seq
 (.reg false [
 oX 5 (.mv (kX 0))])
 (.join ⟨[(1, sX)], [(1000000, .row false .live [lX])]⟩ [1000000] []
 (.block 0
 (.loop 0 ⟨[(0, .one (fX 1000000 1)), (1, sX), (5, sX)], [(1000000, .row false .live [lX])]⟩ [1000000, 500000] [(false, 0, 0, 500000, .froz, [])]
 (.seq
 (.seq
 (.reg false [
 oX 6 (.mv 5),
 oX 7 (.mv 0),
 oX 8 (.len 7),
 oX 9 (.bin .lss 6 8)])
 (.cond 9
 .skip
 (.exit 0)))
 (.seq
 (.block 1
 (.reg false [
 oX 12 (.mv 0),
 oX 13 (.mv 5),
 oX 14 (.idxA 1 12 13),
 oX 15 (.load false 1 14),
 oX 16 (.mv 1),
 oX 17 (.callm .froz 37 [15, 16]),
 oX 1 (.mv 17)]))
 (.reg false [
 oX 10 (.mv 5),
 oX 11 (.bin .add 10 (kX 1)),
 oX 5 (.mv 11)])))))))
 (.seq
 (.reg false [
 oX 18 (.mv 1),
 oX 4 (.mv 18)])
 .ret)))
def ms_laws_markIntSS : List MRes := [.tmp 4]
theorem n_laws_markIntSS (NN : Nat) (x : DLL (Sig.tys ag_laws_markIntSS)) : runMS NN [fn_laws_markIntS] sc_laws_markIntSS ms_laws_markIntSS ag_laws_markIntSS mu_laws_markIntSS rs_laws_markIntSS x = G_laws_markIntSS NN x := by kernel_rfl
theorem k_laws_markIntSS : chkS pX 71 sc_laws_markIntSS.er ms_laws_markIntSS 2 = true := by decide +kernel
theorem p_laws_markIntSS : MutSpec pX 71 mu_laws_markIntSS fn_laws_markIntSS.MM ∧ chkFun pX 71 = true :=
  mut_of_runMS (T := [fn_laws_markIntS]) (sc := sc_laws_markIntSS) (ms := ms_laws_markIntSS) (args := ag_laws_markIntSS) (mu := mu_laws_markIntSS) (res := rs_laws_markIntSS) (SOk.consM p_laws_markIntS <| SOk.nil) follows_ok k_laws_markIntSS F_laws_markIntSS fun x y h => (n_laws_markIntSS FUEL x).trans (f_laws_markIntSS x y h)

def fn_laws_markCharges : SFn := ⟨24, ag_laws_markCharges, mu_laws_markCharges, rs_laws_markCharges, F_laws_markCharges⟩
def sc_laws_markCharges : SCode :=
 (.seq
 (.reg false [
 oX 2 (.box 2 0),
 oX 4 (.mv (kX 0))])
 (.seq
 (.reg false [
 oX 5 (.fieldA 1 2),
 oX 6 (.load false 1 5),
 oX 7 (.mv 1),
 oX 8 (.callm .live 71 [6, 7]),
 oX 1 (.mv 8)])
 (.seq
 (.reg false [
 oX 9 (.mv 1),
 oX 4 (.mv 9)])
 .ret)))
def ms_laws_markCharges : List MRes := [.tmp 4]
theorem n_laws_markCharges (NN : Nat) (x : DLL (Sig.tys ag_laws_markCharges)) : runMS NN [fn_laws_markIntSS] sc_laws_markCharges ms_laws_markCharges ag_laws_markCharges mu_laws_markCharges rs_laws_markCharges x = G_laws_markCharges NN x := by kernel_rfl
theorem k_laws_markCharges : chkS pX 24 sc_laws_markCharges.er ms_laws_markCharges 2 = true := by decide +kernel
theorem p_laws_markCharges : MutSpec pX 24 mu_laws_markCharges fn_laws_markCharges.MM ∧ chkFun pX 24 = true :=
  mut_of_runMS (T := [fn_laws_markIntSS]) (sc := sc_laws_markCharges) (ms := ms_laws_markCharges) (args := ag_laws_markCharges) (mu := mu_laws_markCharges) (res := rs_laws_markCharges) (SOk.consM p_laws_markIntSS <| SOk.nil) follows_ok k_laws_markCharges F_laws_markCharges fun x y h => (n_laws_markCharges FUEL x).trans (f_laws_markCharges x y h)

def fn_laws_heldIntS : SFn := ⟨72, ag_laws_heldIntS, mu_laws_heldIntS, rs_laws_heldIntS, F_laws_heldIntS⟩
def sc_laws_heldIntS : SCode :=
 (.seq
 (.reg false [
 oX 4 (.mv (kX 0))])
 (.seq
 (.seq
 (.reg false [
 oX 5 (.mv (kX 0))])
 (.join ⟨[(1, sX)], []⟩ [] []
 (.block 0
 (.loop 0 ⟨[(0, .one (.c (.v (lX)))), (1, sX), (5, sX)], []⟩ [] []
 (.seq
 (.seq
 (.reg false [
 oX 6 (.mv 5),
 oX 7 (.mv 0),
 oX 8 (.len 7),
 oX 9 (.bin .lss 6 8)])
 (.cond 9
 .skip
 (.exit 0)))
 (.seq
 (.block 1
 (.seq
 (.seq
 (.reg false [
 oX 12 (.mv 0),
 oX 13 (.mv 5),
 oX 14 (.idxA 1 12 13),
 oX 15 (.load false 1 14),
 oX 16 (.mv 1),
 oX 17 (.bin .neq 15 16)])
 (.cond 17
 (.seq
 (.reg false [
 oX 4 (.mv (kX (-1)))])
 .ret)
 .skip))
 (.reg false [
 oX 18 (.mv 1),
 oX 19 (.bin .add 18 (kX 1)),
 oX 1 (.mv 19)])))
 (.reg false [
 oX 10 (.mv 5),
 oX 11 (.bin .add 10 (kX 1)),
 oX 5 (.mv 11)])))))))
 (.seq
 (.reg false [
 oX 20 (.mv 1),
 oX 4 (.mv 20)])
 .ret)))
def ms_laws_heldIntS : List MRes := [.tmp 4]
theorem n_laws_heldIntS (NN : Nat) (x : DLL (Sig.tys ag_laws_heldIntS)) : runS NN [] sc_laws_heldIntS ms_laws_heldIntS ag_laws_heldIntS rs_laws_heldIntS x = G_laws_heldIntS NN x := by kernel_rfl
theorem k_laws_heldIntS : chkS pX 72 sc_laws_heldIntS.er ms_laws_heldIntS 2 = true := by decide +kernel
theorem p_laws_heldIntS : PureSpec pX 72 fn_laws_heldIntS.M ∧ chkFun pX 72 = true :=
  pure_of_runS (T := []) (sc := sc_laws_heldIntS) (ms := ms_laws_heldIntS) (args := ag_laws_heldIntS) (res := rs_laws_heldIntS) (SOk.nil) follows_ok k_laws_heldIntS F_laws_heldIntS fun x y h => (n_laws_heldIntS FUEL x).trans (f_laws_heldIntS x y h)

def fn_laws_heldTensor : SFn := ⟨25, ag_laws_heldTensor, mu_laws_heldTensor, rs_laws_heldTensor, F_laws_heldTensor⟩
def sc_laws_heldTensor : SCode :=
 (.seq
 (.reg false [
 oX 2 (.box 3 0),
 oX 4 (.mv (kX 0))])
 (.seq
 (.reg false [
 oX 5 (.fieldA 0 2),
 oX 6 (.load false 1 5),
 oX 7 (.mv 1),
 oX 8 (.call .froz 72 [6, 7]),
 oX 1 (.mv 8)])
 (.seq
 (.seq
 (.reg false [
 oX 9 (.mv 1),
 oX 10 (.bin .lss 9 (kX 0))])
 (.cond 10
 (.seq
 (.reg false [
 oX 4 (.mv (kX (-1)))])
 .ret)
 .skip))
 (.seq
 (.reg false [
 oX 11 (.fieldA 1 2),
 oX 12 (.load false 1 11),
 oX 13 (.mv 1),
 oX 14 (.call .froz 72 [12, 13]),
 oX 1 (.mv 14)])
 (.seq
 (.seq
 (.reg false [
 oX 15 (.mv 1),
 oX 16 (.bin .lss 15 (kX 0))])
 (.cond 16
 (.seq
 (.reg false [
 oX 4 (.mv (kX (-1)))])
 .ret)
 .skip))
 (.seq
 (.reg false [
 oX 17 (.fieldA 2 2),
 oX 18 (.load false 1 17),
 oX 19 (.mv 1),
 oX 20 (.call .froz 72 [18, 19]),
 oX 1 (.mv 20)])
 (.seq
 (.seq
 (.reg false [
 oX 21 (.mv 1),
 oX 22 (.bin .lss 21 (kX 0))])
 (.cond 22
 (.seq
 (.reg false [
 oX 4 (.mv (kX (-1)))])
 .ret)
 .skip))
 (.seq
 (.reg false [
 oX 23 (.mv 1),
 oX 4 (.mv 23)])
 .ret))))))))
def ms_laws_heldTensor : List MRes := [.tmp 4]
theorem n_laws_heldTensor (NN : Nat) (x : DLL (Sig.tys ag_laws_heldTensor)) : runS NN [fn_laws_heldIntS] sc_laws_heldTensor ms_laws_heldTensor ag_laws_heldTensor rs_laws_heldTensor x = G_laws_heldTensor NN x := by kernel_rfl
theorem k_laws_heldTensor : chkS pX 25 sc_laws_heldTensor.er ms_laws_heldTensor 2 = true := by decide +kernel
theorem p_laws_heldTensor : PureSpec pX 25 fn_laws_heldTensor.M ∧ chkFun pX 25 = true :=
  pure_of_runS (T := [fn_laws_heldIntS]) (sc := sc_laws_heldTensor) (ms := ms_laws_heldTensor) (args := ag_laws_heldTensor) (res := rs_laws_heldTensor) (SOk.cons p_laws_heldIntS <| SOk.nil) follows_ok k_laws_heldTensor F_laws_heldTensor fun x y h => (n_laws_heldTensor FUEL x).trans (f_laws_heldTensor x y h)

def fn_laws_FnExactConserveTensor : SFn := ⟨4, ag_laws_FnExactConserveTensor, mu_laws_FnExactConserveTensor, rs_laws_FnExactConserveTensor, F_laws_FnExactConserveTensor⟩
def sc_laws_FnExactConserveTensor : SCode :=
 (.seq
 (.reg false [
 oX 3 (.box 3 0),
 oX 4 (.box 3 1),
 oX 5 (.box 2 2),
 oX 6 (.mv (.k (.one (.v (.bool) (false)))))])
 (.seq
 (.reg false [
 oX 7 (.mv (kX 1048576))])
 (.seq
 (.reg false [
 oX 19 (.load true 3 4),
 oX 20 (.mv 7),
 oX 21 (.call .live 14 [19, 20]),
 oX 7 (.mv 21)])
 (.seq
 (.seq
 (.reg false [
 oX 22 (.mv 7),
 oX 23 (.bin .lss 22 (kX 0))])
 (.cond 23
 (.seq
 (.reg false [
 oX 6 (.mv (.k (.one (.v (.bool) (true)))))])
 .ret)
 .skip))
 (.seq
 (.reg false [
 oX 24 (.load true 2 5),
 oX 25 (.mv 7),
 oX 26 (.call .live 15 [24, 25]),
 oX 7 (.mv 26)])
 (.seq
 (.seq
 (.reg false [
 oX 27 (.mv 7),
 oX 28 (.bin .lss 27 (kX 0))])
 (.cond 28
 (.seq
 (.reg false [
 oX 6 (.mv (.k (.one (.v (.bool) (true)))))])
 .ret)
 .skip))
 (.seq
 (.reg true [
 oX 30 (.load true 3 3),
 oX 31 (.call .live 17 [30]),
 oX 32 (.load true 3 4),
 oX 33 (.call .live 18 [32]),
 oX 34 (.load true 2 5),
 oX 35 (.call .live 19 [34]),
 oX 36 (.call .live 16 [31, 33, 35]),
 oX 29 (.mv 36),
 oX 37 (.ext 0 29),
 oX 38 (.ext 1 29),
 oX 8 (.alloc [.nil iX, .nil iX, .nil iX]),
 uX (.store 3 8 37),
 oX 9 (.mv 38)])
 (.seq
 (.reg false [
 oX 39 (.load true 3 4),
 oX 40 (.call .live 18 [39]),
 oX 10 (.alloc [.nil iX, .nil iX, .nil iX]),
 uX (.store 3 10 40)])
 (.seq
 (.reg false [
 oX 41 (.load true 2 5),
 oX 42 (.call .live 19 [41]),
 oX 11 (.alloc [zX, .nil [lX]]),
 uX (.store 2 11 42)])
 (.seq
 (.reg true [
 oX 44 (.load true 3 3),
 oX 45 (.call .live 17 [44]),
 oX 46 (.load true 3 10),
 oX 47 (.load true 2 11),
 oX 48 (.call .live 20 [45, 46, 47]),
 oX 43 (.mv 48),
 oX 49 (.ext 0 43),
 oX 50 (.ext 1 43),
 oX 12 (.alloc [.nil iX, .nil iX, .nil iX]),
 uX (.store 3 12 49),
 oX 13 (.mv 50)])
 (.seq
 (.seq
 (.reg false [
 oX 51 (.load true 3 12),
 oX 52 (.load true 3 8),
 oX 53 (.call .live 21 [51, 52]),
 oX 54 (.un .not 53),
 oX 55 (.mv 54),
 ⟨(some 56), .mv 13, (some (55, false))⟩,
 ⟨(some 57), .mv 9, (some (55, false))⟩,
 ⟨(some 58), .binb .neq 56 57, (some (55, false))⟩,
 oX 59 (.pick 55 (.k (.one (.v (.bool) (true)))) 58)])
 (.cond 59
 (.seq
 (.reg false [
 oX 6 (.mv (.k (.one (.v (.bool) (false)))))])
 .ret)
 .skip))
 (.seq
 (.seq
 (.reg true [
 oX 60 (.load true 3 10),
 oX 61 (.load true 3 4),
 oX 62 (.call .live 18 [61]),
 oX 63 (.call .live 21 [60, 62]),
 oX 64 (.un .not 63)])
 (.cond 64
 (.seq
 (.reg false [
 oX 6 (.mv (.k (.one (.v (.bool) (false)))))])
 .ret)
 .skip))
 (.seq
 (.seq
 (.reg true [
 oX 65 (.load true 2 11),
 oX 66 (.load true 2 5),
 oX 67 (.call .live 19 [66]),
 oX 68 (.call .live 22 [65, 67]),
 oX 69 (.un .not 68)])
 (.cond 69
 (.seq
 (.reg false [
 oX 6 (.mv (.k (.one (.v (.bool) (false)))))])
 .ret)
 .skip))
 (.seq
 (.reg false [
 oX 14 (.mv (kX 1))])
 (.seq
 (.reg false [
 oX 70 (.load true 3 10),
 oX 71 (.mv 14),
 oX 72 (.callm .live 23 [70, 71]),
 oX 14 (.mv 72)])
 (.seq
 (.reg false [
 oX 73 (.load true 2 11),
 oX 74 (.mv 14),
 oX 75 (.callm .live 24 [73, 74]),
 oX 14 (.mv 75)])
 (.seq
 (.seq
 (.reg false [
 oX 76 (.mv 14),
 oX 77 (.bin .lss 76 (kX 0)),
 oX 78 (.mv 77),
 ⟨(some 79), .load true 3 12, (some (78, false))⟩,
 ⟨(some 80), .load true 3 8, (some (78, false))⟩,
 ⟨(some 81), .call .live 21 [79, 80], (some (78, false))⟩,
 ⟨(some 82), .un .not 81, (some (78, false))⟩,
 oX 83 (.pick 78 (.k (.one (.v (.bool) (true)))) 82),
 oX 84 (.mv 83),
 ⟨(some 85), .mv 13, (some (84, false))⟩,
 ⟨(some 86), .mv 9, (some (84, false))⟩,
 ⟨(some 87), .binb .neq 85 86, (some (84, false))⟩,
 oX 88 (.pick 84 (.k (.one (.v (.bool) (true)))) 87)])
 (.cond 88
 (.seq
 (.reg false [
 oX 6 (.mv (.k (.one (.v (.bool) (false)))))])
 .ret)
 .skip))
 (.seq
 (.reg false [
 oX 15 (.mv (kX 1))])
 (.seq
 (.reg false [
 oX 89 (.load true 3 12),
 oX 90 (.mv 15),
 oX 91 (.callm .live 23 [89, 90]),
 oX 15 (.mv 91)])
 (.seq
 (.reg false [
 oX 16 (.mv (kX 1))])
 (.seq
 (.reg false [
 oX 92 (.load true 3 12),
 oX 93 (.mv 16),
 oX 94 (.call .live 25 [92, 93]),
 oX 16 (.mv 94)])
 (.seq
 (.seq
 (.reg false [
 oX 95 (.mv 16),
 oX 96 (.bin .lss 95 (kX 0))])
 (.cond 96
 (.seq
 (.reg false [
 oX 6 (.mv (.k (.one (.v (.bool) (false)))))])
 .ret)
 .skip))
 (.seq
 (.seq
 (.reg false [
 oX 97 (.mv 16),
 oX 98 (.mv 15),
 oX 99 (.bin .neq 97 98)])
 (.cond 99
 (.seq
 (.reg false [
 oX 6 (.mv (.k (.one (.v (.bool) (false)))))])
 .ret)
 .skip))
 (.seq
 (.reg true [
 oX 101 (.load true 3 3),
 oX 102 (.call .live 17 [101]),
 oX 103 (.load true 3 4),
 oX 104 (.call .live 18 [103]),
 oX 105 (.load true 2 5),
 oX 106 (.call .live 19 [105]),
 oX 107 (.call .live 20 [102, 104, 106]),
 oX 100 (.mv 107),
 oX 108 (.ext 0 100),
 oX 109 (.ext 1 100),
 oX 17 (.alloc [.nil iX, .nil iX, .nil iX]),
 uX (.store 3 17 108),
 oX 18 (.mv 109)])
 (.seq
 (.seq
 (.reg false [
 oX 110 (.load true 3 17),
 oX 111 (.load true 3 8),
 oX 112 (.call .live 21 [110, 111]),
 oX 113 (.un .not 112),
 oX 114 (.mv 113),
 ⟨(some 115), .mv 18, (some (114, false))⟩,
 ⟨(some 116), .mv 9, (some (114, false))⟩,
 ⟨(some 117), .binb .neq 115 116, (some (114, false))⟩,
 oX 118 (.pick 114 (.k (.one (.v (.bool) (true)))) 117)])
 (.cond 118
 (.seq
 (.reg false [
 oX 6 (.mv (.k (.one (.v (.bool) (false)))))])
 .ret)
 .skip))
 (.seq
 (.reg false [
 oX 16 (.mv (kX 1))])
 (.seq
 (.reg false [
 oX 119 (.load true 3 12),
 oX 120 (.mv 16),
 oX 121 (.call .live 25 [119, 120]),
 oX 16 (.mv 121)])
 (.seq
 (.seq
 (.reg false [
 oX 122 (.mv 16),
 oX 123 (.bin .lss 122 (kX 0))])
 (.cond 123
 (.seq
 (.reg false [
 oX 6 (.mv (.k (.one (.v (.bool) (false)))))])
 .ret)
 .skip))
 (.seq
 (.seq
 (.reg false [
 oX 124 (.mv 16),
 oX 125 (.mv 15),
 oX 126 (.bin .neq 124 125)])
 (.cond 126
 (.seq
 (.reg false [
 oX 6 (.mv (.k (.one (.v (.bool) (false)))))])
 .ret)
 .skip))
 (.seq
 (.reg false [
 oX 6 (.mv (.k (.one (.v (.bool) (true)))))])
 .ret))))))))))))))))))))))))))))))
def ms_laws_FnExactConserveTensor : List MRes := [.tmp 6]
theorem n_laws_FnExactConserveTensor (NN : Nat) (x : DLL (Sig.tys ag_laws_FnExactConserveTensor)) : runS NN [fn_laws_szTensor, fn_laws_szCharges, fn_laws_toRing, fn_laws_toTensor, fn_laws_toCharges, fn_spec_ConserveTensor, fn_impl_ConserveTensor, fn_laws_eqTensor, fn_laws_eqCharges, fn_laws_markTensor, fn_laws_markCharges, fn_laws_heldTensor] sc_laws_FnExactConserveTensor ms_laws_FnExactConserveTensor ag_laws_FnExactConserveTensor rs_laws_FnExactConserveTensor x = G_laws_FnExactConserveTensor NN x := by kernel_rfl
theorem k_laws_FnExactConserveTensor : chkS pX 4 sc_laws_FnExactConserveTensor.er ms_laws_FnExactConserveTensor 3 = true := by decide +kernel
theorem p_laws_FnExactConserveTensor : PureSpec pX 4 fn_laws_FnExactConserveTensor.M ∧ chkFun pX 4 = true :=
  pure_of_runS (T := [fn_laws_szTensor, fn_laws_szCharges, fn_laws_toRing, fn_laws_toTensor, fn_laws_toCharges, fn_spec_ConserveTensor, fn_impl_ConserveTensor, fn_laws_eqTensor, fn_laws_eqCharges, fn_laws_markTensor, fn_laws_markCharges, fn_laws_heldTensor]) (sc := sc_laws_FnExactConserveTensor) (ms := ms_laws_FnExactConserveTensor) (args := ag_laws_FnExactConserveTensor) (res := rs_laws_FnExactConserveTensor) (SOk.cons p_laws_szTensor <| SOk.cons p_laws_szCharges <| SOk.cons p_laws_toRing <| SOk.cons p_laws_toTensor <| SOk.cons p_laws_toCharges <| SOk.cons p_spec_ConserveTensor <| SOk.cons p_impl_ConserveTensor <| SOk.cons p_laws_eqTensor <| SOk.cons p_laws_eqCharges <| SOk.consM p_laws_markTensor <| SOk.consM p_laws_markCharges <| SOk.cons p_laws_heldTensor <| SOk.nil) follows_ok k_laws_FnExactConserveTensor F_laws_FnExactConserveTensor fun x y h => (n_laws_FnExactConserveTensor FUEL x).trans (f_laws_FnExactConserveTensor x y h)

end Go.Am
