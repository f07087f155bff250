/- A_SpinByEdges: the code of the functions of FnExactSpinByEdges. No condition. -/
import Derived.Test.YtogffhfjcilboaaLSpinByEdges
import Derived.Test.YtogffhfjcilboaaBr2
import Derived.KernelRfl
import Derived.Test.YtogffhfjcilboaaRows
set_option linter.unusedVariables false
set_option maxRecDepth 100000
namespace Go.Am
theorem follows_ok : Go.Proofs.Try.prog.follows .mixedOrders = true := by decide +kernel
noncomputable abbrev pX := Go.Proofs.Try.prog
def oX (n : Nat) (x : SOp) : SOper := ⟨some n, x, none⟩
def uX (x : SOp) : SOper := ⟨none, x, none⟩
def kX (n : Int) : SMO := .k (.one (.v (.int .i64) n))
def sX : ShV := .one (.c (.v (.int .i64)))
def iX : List Ty := [.int .i64]
def lX : Ty := .list iX
def zX : SC := .v (.int .i64) (0 : Int)
def vX : ShC := .c (.v (.int .i64))
def fX (n k : Nat) : ShC := .c (.full n k)
def rX (n : Nat) : ShC := .c (.ptr0 n 0)
instance tX (n : Nat) : OfNat SMO n := ⟨.t n⟩
def fn_laws_szEdgeS : SFn := ⟨27, ag_laws_szEdgeS, mu_laws_szEdgeS, rs_laws_szEdgeS, F_laws_szEdgeS⟩
def sc_laws_szEdgeS : SCode :=
 (.seq
 (.reg false [
 oX 4 (.mv (kX 0))])
 (.seq
 (.reg false [
 oX 5 (.mv 1),
 oX 6 (.mv 0),
 oX 7 (.len 6),
 oX 8 (.bin .sub 5 7),
 oX 1 (.mv 8)])
 (.seq
 (.seq
 (.reg false [
 oX 9 (.mv 1),
 oX 10 (.bin .lss 9 (kX 0))])
 (.cond 10
 (.seq
 (.reg false [
 oX 4 (.mv (kX (-1)))])
 .ret)
 .skip))
 (.seq
 (.reg false [
 oX 11 (.mv 1),
 oX 4 (.mv 11)])
 .ret))))
def ms_laws_szEdgeS : List MRes := [.tmp 4]
theorem n_laws_szEdgeS (NN : Nat) (x : DLL (Sig.tys ag_laws_szEdgeS)) : runS NN [] sc_laws_szEdgeS ms_laws_szEdgeS ag_laws_szEdgeS rs_laws_szEdgeS x = G_laws_szEdgeS NN x := by kernel_rfl
theorem k_laws_szEdgeS : chkS pX 27 sc_laws_szEdgeS.er ms_laws_szEdgeS 2 = true := by decide +kernel
theorem p_laws_szEdgeS : PureSpec pX 27 fn_laws_szEdgeS.M ∧ chkFun pX 27 = true :=
  pure_of_runS (T := []) (sc := sc_laws_szEdgeS) (ms := ms_laws_szEdgeS) (args := ag_laws_szEdgeS) (res := rs_laws_szEdgeS) (SOk.nil) follows_ok k_laws_szEdgeS F_laws_szEdgeS fun x y h => (n_laws_szEdgeS FUEL x).trans (f_laws_szEdgeS x y h)

def fn_laws_szGraph : SFn := ⟨7, ag_laws_szGraph, mu_laws_szGraph, rs_laws_szGraph, F_laws_szGraph⟩
def sc_laws_szGraph : SCode :=
 (.seq
 (.reg false [
 oX 2 (.box 2 0),
 oX 4 (.mv (kX 0))])
 (.seq
 (.reg false [
 oX 5 (.fieldA 1 2),
 oX 6 (.load false 1 5),
 oX 7 (.mv 1),
 oX 8 (.call .froz 27 [6, 7]),
 oX 1 (.mv 8)])
 (.seq
 (.seq
 (.reg false [
 oX 9 (.mv 1),
 oX 10 (.bin .lss 9 (kX 0))])
 (.cond 10
 (.seq
 (.reg false [
 oX 4 (.mv (kX (-1)))])
 .ret)
 .skip))
 (.seq
 (.reg false [
 oX 11 (.mv 1),
 oX 4 (.mv 11)])
 .ret))))
def ms_laws_szGraph : List MRes := [.tmp 4]
theorem n_laws_szGraph (NN : Nat) (x : DLL (Sig.tys ag_laws_szGraph)) : runS NN [fn_laws_szEdgeS] sc_laws_szGraph ms_laws_szGraph ag_laws_szGraph rs_laws_szGraph x = G_laws_szGraph NN x := by kernel_rfl
theorem k_laws_szGraph : chkS pX 7 sc_laws_szGraph.er ms_laws_szGraph 2 = true := by decide +kernel
theorem p_laws_szGraph : PureSpec pX 7 fn_laws_szGraph.M ∧ chkFun pX 7 = true :=
  pure_of_runS (T := [fn_laws_szEdgeS]) (sc := sc_laws_szGraph) (ms := ms_laws_szGraph) (args := ag_laws_szGraph) (res := rs_laws_szGraph) (SOk.cons p_laws_szEdgeS <| SOk.nil) follows_ok k_laws_szGraph F_laws_szGraph fun x y h => (n_laws_szGraph FUEL x).trans (f_laws_szGraph x y h)

def fn_laws_toRing : SFn := ⟨9, ag_laws_toRing, mu_laws_toRing, rs_laws_toRing, F_laws_toRing⟩
def sc_laws_toRing : SCode :=
 (.seq
 (.reg false [
 oX 1 (.box 3 0),
 oX 2 (.alloc [zX, zX, zX])])
 (.seq
 (.reg false [
 oX 3 (.alloc [zX, zX, zX])])
 (.seq
 (.reg false [
 oX 4 (.fieldA 0 1),
 oX 5 (.load false 1 4),
 oX 6 (.fieldA 0 3),
 uX (.store 1 6 5)])
 (.seq
 (.reg false [
 oX 7 (.fieldA 1 1),
 oX 8 (.load false 1 7),
 oX 9 (.fieldA 1 3),
 uX (.store 1 9 8)])
 (.seq
 (.reg false [
 oX 10 (.fieldA 2 1),
 oX 11 (.load false 1 10),
 oX 12 (.fieldA 2 3),
 uX (.store 1 12 11)])
 (.seq
 (.reg false [
 oX 13 (.load true 3 3),
 uX (.store 3 2 13)])
 .ret))))))
def ms_laws_toRing : List MRes := [.cell 2 3 true]
theorem n_laws_toRing (NN : Nat) (x : DLL (Sig.tys ag_laws_toRing)) : runS NN [] sc_laws_toRing ms_laws_toRing ag_laws_toRing rs_laws_toRing x = G_laws_toRing NN x := by kernel_rfl
theorem k_laws_toRing : chkS pX 9 sc_laws_toRing.er ms_laws_toRing 1 = true := by decide +kernel
theorem p_laws_toRing : PureSpec pX 9 fn_laws_toRing.M ∧ chkFun pX 9 = true :=
  pure_of_runS (T := []) (sc := sc_laws_toRing) (ms := ms_laws_toRing) (args := ag_laws_toRing) (res := rs_laws_toRing) (SOk.nil) follows_ok k_laws_toRing F_laws_toRing fun x y h => (n_laws_toRing FUEL x).trans (f_laws_toRing x y h)

def fn_laws_toEdge : SFn := ⟨74, ag_laws_toEdge, mu_laws_toEdge, rs_laws_toEdge, F_laws_toEdge⟩
def sc_laws_toEdge : SCode :=
 (.seq
 (.reg false [
 oX 1 (.box 2 0),
 oX 2 (.alloc [zX, zX])])
 (.seq
 (.reg false [
 oX 3 (.alloc [zX, zX])])
 (.seq
 (.reg false [
 oX 4 (.fieldA 0 1),
 oX 5 (.load false 1 4),
 oX 6 (.fieldA 0 3),
 uX (.store 1 6 5)])
 (.seq
 (.reg false [
 oX 7 (.fieldA 1 1),
 oX 8 (.load false 1 7),
 oX 9 (.fieldA 1 3),
 uX (.store 1 9 8)])
 (.seq
 (.reg false [
 oX 10 (.load true 2 3),
 uX (.store 2 2 10)])
 .ret)))))
def ms_laws_toEdge : List MRes := [.cell 2 2 true]
theorem n_laws_toEdge (NN : Nat) (x : DLL (Sig.tys ag_laws_toEdge)) : runS NN [] sc_laws_toEdge ms_laws_toEdge ag_laws_toEdge rs_laws_toEdge x = G_laws_toEdge NN x := by kernel_rfl
theorem k_laws_toEdge : chkS pX 74 sc_laws_toEdge.er ms_laws_toEdge 1 = true := by decide +kernel
theorem p_laws_toEdge : PureSpec pX 74 fn_laws_toEdge.M ∧ chkFun pX 74 = true :=
  pure_of_runS (T := []) (sc := sc_laws_toEdge) (ms := ms_laws_toEdge) (args := ag_laws_toEdge) (res := rs_laws_toEdge) (SOk.nil) follows_ok k_laws_toEdge F_laws_toEdge fun x y h => (n_laws_toEdge FUEL x).trans (f_laws_toEdge x y h)

def fn_laws_toEdgeS : SFn := ⟨34, ag_laws_toEdgeS, mu_laws_toEdgeS, rs_laws_toEdgeS, F_laws_toEdgeS⟩
def sc_laws_toEdgeS : SCode :=
 (.seq
 (.reg false [
 oX 2 (.mv (.k (.one (.nil [.int .i64, .int .i64]))))])
 (.seq
 (.reg false [
 oX 5 (.mv 0),
 oX 6 (.len 5),
 oX 7 (.mkslice .froz [.int .i64, .int .i64] 16 ((0 : Int), (0 : Int)) 6 6),
 oX 3 (.mv 7)])
 (.seq
 (.seq
 (.reg false [
 oX 4 (.mv (kX 0))])
 (.join ⟨[(3, .one (fX 500001 2))], [(500001, .row true .froz [.int .i64, .int .i64])]⟩ [500000, 500001] [(false, 3, 0, 500001, .froz, [])]
 (.block 0
 (.loop 0 ⟨[(0, .one (.c (.v (.list [.int .i64, .int .i64])))), (3, .one (fX 500000 2)), (4, sX)], [(500000, .row true .froz [.int .i64, .int .i64])]⟩ [7, 500000] [(false, 3, 0, 500000, .froz, [])]
 (.seq
 (.seq
 (.reg false [
 oX 8 (.mv 4),
 oX 9 (.mv 0),
 oX 10 (.len 9),
 oX 11 (.bin .lss 8 10)])
 (.cond 11
 .skip
 (.exit 0)))
 (.seq
 (.block 1
 (.reg false [
 oX 14 (.mv 3),
 oX 15 (.mv 4),
 oX 16 (.mv 0),
 oX 17 (.mv 4),
 oX 18 (.idxA 2 16 17),
 oX 19 (.load true 2 18),
 oX 20 (.call .froz 74 [19]),
 oX 21 (.idxA 2 14 15),
 uX (.store 2 21 20)]))
 (.reg false [
 oX 12 (.mv 4),
 oX 13 (.bin .add 12 (kX 1)),
 oX 4 (.mv 13)])))))))
 (.seq
 (.reg false [
 oX 22 (.mv 3),
 oX 2 (.mv 22)])
 .ret))))
def ms_laws_toEdgeS : List MRes := [.tmp 2]
theorem n_laws_toEdgeS (NN : Nat) (x : DLL (Sig.tys ag_laws_toEdgeS)) : runS NN [fn_laws_toEdge] sc_laws_toEdgeS ms_laws_toEdgeS ag_laws_toEdgeS rs_laws_toEdgeS x = G_laws_toEdgeS NN x := by kernel_rfl
theorem k_laws_toEdgeS : chkS pX 34 sc_laws_toEdgeS.er ms_laws_toEdgeS 1 = true := by decide +kernel
theorem p_laws_toEdgeS : PureSpec pX 34 fn_laws_toEdgeS.M ∧ chkFun pX 34 = true :=
  pure_of_runS (T := [fn_laws_toEdge]) (sc := sc_laws_toEdgeS) (ms := ms_laws_toEdgeS) (args := ag_laws_toEdgeS) (res := rs_laws_toEdgeS) (SOk.cons p_laws_toEdge <| SOk.nil) follows_ok k_laws_toEdgeS F_laws_toEdgeS fun x y h => (n_laws_toEdgeS FUEL x).trans (f_laws_toEdgeS x y h)

def fn_laws_toGraph : SFn := ⟨10, ag_laws_toGraph, mu_laws_toGraph, rs_laws_toGraph, F_laws_toGraph⟩
def sc_laws_toGraph : SCode :=
 (.seq
 (.reg false [
 oX 1 (.box 2 0),
 oX 2 (.alloc [zX, .nil [.int .i64, .int .i64]])])
 (.seq
 (.reg false [
 oX 3 (.alloc [zX, .nil [.int .i64, .int .i64]])])
 (.seq
 (.reg false [
 oX 4 (.fieldA 0 1),
 oX 5 (.load false 1 4),
 oX 6 (.fieldA 0 3),
 uX (.store 1 6 5)])
 (.seq
 (.reg false [
 oX 7 (.fieldA 1 1),
 oX 8 (.load false 1 7),
 oX 9 (.call .froz 34 [8]),
 oX 10 (.fieldA 1 3),
 uX (.store 1 10 9)])
 (.seq
 (.reg false [
 oX 11 (.load true 2 3),
 uX (.store 2 2 11)])
 .ret)))))
def ms_laws_toGraph : List MRes := [.cell 2 2 true]
theorem n_laws_toGraph (NN : Nat) (x : DLL (Sig.tys ag_laws_toGraph)) : runS NN [fn_laws_toEdgeS] sc_laws_toGraph ms_laws_toGraph ag_laws_toGraph rs_laws_toGraph x = G_laws_toGraph NN x := by kernel_rfl
theorem k_laws_toGraph : chkS pX 10 sc_laws_toGraph.er ms_laws_toGraph 1 = true := by decide +kernel
theorem p_laws_toGraph : PureSpec pX 10 fn_laws_toGraph.M ∧ chkFun pX 10 = true :=
  pure_of_runS (T := [fn_laws_toEdgeS]) (sc := sc_laws_toGraph) (ms := ms_laws_toGraph) (args := ag_laws_toGraph) (res := rs_laws_toGraph) (SOk.cons p_laws_toEdgeS <| SOk.nil) follows_ok k_laws_toGraph F_laws_toGraph fun x y h => (n_laws_toGraph FUEL x).trans (f_laws_toGraph x y h)

def fn_laws_toIntS : SFn := ⟨11, ag_laws_toIntS, mu_laws_toIntS, rs_laws_toIntS, F_laws_toIntS⟩
def sc_laws_toIntS : SCode :=
 (.seq
 (.reg false [
 oX 2 (.mv (.k (.one (.nil iX))))])
 (.seq
 (.reg false [
 oX 5 (.mv 0),
 oX 6 (.len 5),
 oX 7 (.mkslice .froz iX 8 (0 : Int) 6 6),
 oX 3 (.mv 7)])
 (.seq
 (.seq
 (.reg false [
 oX 4 (.mv (kX 0))])
 (.join ⟨[(3, .one (fX 500001 1))], [(500001, .row true .froz iX)]⟩ [500000, 500001] [(false, 3, 0, 500001, .froz, [])]
 (.block 0
 (.loop 0 ⟨[(0, .one (.c (.v (lX)))), (3, .one (fX 500000 1)), (4, sX)], [(500000, .row true .froz iX)]⟩ [7, 500000] [(false, 3, 0, 500000, .froz, [])]
 (.seq
 (.seq
 (.reg false [
 oX 8 (.mv 4),
 oX 9 (.mv 0),
 oX 10 (.len 9),
 oX 11 (.bin .lss 8 10)])
 (.cond 11
 .skip
 (.exit 0)))
 (.seq
 (.block 1
 (.reg false [
 oX 14 (.mv 3),
 oX 15 (.mv 4),
 oX 16 (.mv 0),
 oX 17 (.mv 4),
 oX 18 (.idxA 1 16 17),
 oX 19 (.load false 1 18),
 oX 20 (.idxA 1 14 15),
 uX (.store 1 20 19)]))
 (.reg false [
 oX 12 (.mv 4),
 oX 13 (.bin .add 12 (kX 1)),
 oX 4 (.mv 13)])))))))
 (.seq
 (.reg false [
 oX 21 (.mv 3),
 oX 2 (.mv 21)])
 .ret))))
def ms_laws_toIntS : List MRes := [.tmp 2]
theorem n_laws_toIntS (NN : Nat) (x : DLL (Sig.tys ag_laws_toIntS)) : runS NN [] sc_laws_toIntS ms_laws_toIntS ag_laws_toIntS rs_laws_toIntS x = G_laws_toIntS NN x := by kernel_rfl
theorem k_laws_toIntS : chkS pX 11 sc_laws_toIntS.er ms_laws_toIntS 1 = true := by decide +kernel
theorem p_laws_toIntS : PureSpec pX 11 fn_laws_toIntS.M ∧ chkFun pX 11 = true :=
  pure_of_runS (T := []) (sc := sc_laws_toIntS) (ms := ms_laws_toIntS) (args := ag_laws_toIntS) (res := rs_laws_toIntS) (SOk.nil) follows_ok k_laws_toIntS F_laws_toIntS fun x y h => (n_laws_toIntS FUEL x).trans (f_laws_toIntS x y h)

def fn_spec_l01In : SFn := ⟨72, ag_spec_l01In, mu_spec_l01In, rs_spec_l01In, F_spec_l01In⟩
def sc_spec_l01In : SCode :=
 (.seq
 (.reg false [
 oX 6 (.mv (.k (.one (.v (.bool) (false)))))])
 (.seq
 (.reg false [
 oX 7 (.mv 0),
 oX 8 (.mv 1),
 oX 9 (.bin .geq 7 8),
 oX 10 (.mv 9),
 ⟨(some 11), .mv 0, (some (10, true))⟩,
 ⟨(some 12), .mv 2, (some (10, true))⟩,
 ⟨(some 13), .bin .leq 11 12, (some (10, true))⟩,
 oX 14 (.pick 10 13 (.k (.one (.v (.bool) (false))))),
 oX 6 (.mv 14)])
 .ret))
def ms_spec_l01In : List MRes := [.tmp 6]
theorem n_spec_l01In (NN : Nat) (x : DLL (Sig.tys ag_spec_l01In)) : runS NN [] sc_spec_l01In ms_spec_l01In ag_spec_l01In rs_spec_l01In x = G_spec_l01In NN x := by kernel_rfl
theorem k_spec_l01In : chkS pX 72 sc_spec_l01In.er ms_spec_l01In 3 = true := by decide +kernel
theorem p_spec_l01In : PureSpec pX 72 fn_spec_l01In.M ∧ chkFun pX 72 = true :=
  pure_of_runS (T := []) (sc := sc_spec_l01In) (ms := ms_spec_l01In) (args := ag_spec_l01In) (res := rs_spec_l01In) (SOk.nil) follows_ok k_spec_l01In F_spec_l01In fun x y h => (n_spec_l01In FUEL x).trans (f_spec_l01In x y h)

def fn_spec_IsPrime : SFn := ⟨99, ag_spec_IsPrime, mu_spec_IsPrime, rs_spec_IsPrime, F_spec_IsPrime⟩
def sc_spec_IsPrime : SCode :=
 (.seq
 (.reg false [
 oX 2 (.mv (.k (.one (.v (.bool) (false)))))])
 (.seq
 (.seq
 (.reg false [
 oX 3 (.mv (kX 2))])
 (.join ⟨[(0, sX)], []⟩ [] []
 (.block 0
 (.loop 0 ⟨[(0, sX), (3, sX)], []⟩ [] []
 (.seq
 (.seq
 (.reg false [
 oX 4 (.mv 3),
 oX 5 (.mv 3),
 oX 6 (.bin .mul 4 5),
 oX 7 (.mv 0),
 oX 8 (.bin .leq 6 7),
 oX 9 (.mv 8),
 ⟨(some 10), .mv 0, (some (9, true))⟩,
 ⟨(some 11), .bin .leq 10 (kX 1000003), (some (9, true))⟩,
 oX 12 (.pick 9 11 (.k (.one (.v (.bool) (false)))))])
 (.cond 12
 .skip
 (.exit 0)))
 (.seq
 (.block 1
 (.seq
 (.reg false [
 oX 15 (.mv 0),
 oX 16 (.mv 3),
 oX 17 (.bin .rem 15 16),
 oX 18 (.bin .eql 17 (kX 0))])
 (.cond 18
 (.seq
 (.reg false [
 oX 2 (.mv (.k (.one (.v (.bool) (false)))))])
 .ret)
 .skip)))
 (.reg false [
 oX 13 (.mv 3),
 oX 14 (.bin .add 13 (kX 1)),
 oX 3 (.mv 14)])))))))
 (.seq
 (.reg false [
 oX 19 (.mv 0),
 oX 20 (.call .froz 72 [19, (kX 2), (kX 1000003)]),
 oX 2 (.mv 20)])
 .ret)))
def ms_spec_IsPrime : List MRes := [.tmp 2]
theorem n_spec_IsPrime (NN : Nat) (x : DLL (Sig.tys ag_spec_IsPrime)) : runS NN [fn_spec_l01In] sc_spec_IsPrime ms_spec_IsPrime ag_spec_IsPrime rs_spec_IsPrime x = G_spec_IsPrime NN x := by kernel_rfl
theorem k_spec_IsPrime : chkS pX 99 sc_spec_IsPrime.er ms_spec_IsPrime 1 = true := by decide +kernel
theorem p_spec_IsPrime : PureSpec pX 99 fn_spec_IsPrime.M ∧ chkFun pX 99 = true :=
  pure_of_runS (T := [fn_spec_l01In]) (sc := sc_spec_IsPrime) (ms := ms_spec_IsPrime) (args := ag_spec_IsPrime) (res := rs_spec_IsPrime) (SOk.cons p_spec_l01In <| SOk.nil) follows_ok k_spec_IsPrime F_spec_IsPrime fun x y h => (n_spec_IsPrime FUEL x).trans (f_spec_IsPrime x y h)

def fn_spec_RingOk : SFn := ⟨70, ag_spec_RingOk, mu_spec_RingOk, rs_spec_RingOk, F_spec_RingOk⟩
def sc_spec_RingOk : SCode :=
 (.seq
 (.reg false [
 oX 1 (.box 3 0),
 oX 2 (.mv (.k (.one (.v (.bool) (false)))))])
 (.seq
 (.seq
 (.reg false [
 oX 3 (.fieldA 0 1),
 oX 4 (.load false 1 3)])
 (.block 0
 (.seq
 (.reg false [
 oX 6 (.bin .eql 4 (kX 1)),
 oX 5 (.mv 6)])
 (.cond 5
 (.seq
 (.reg false [
 oX 7 (.fieldA 1 1),
 oX 8 (.load false 1 7),
 oX 9 (.bin .eql 8 (kX 0)),
 oX 10 (.mv 9),
 ⟨(some 11), .fieldA 2 1, (some (10, true))⟩,
 ⟨(some 12), .load false 1 11, (some (10, true))⟩,
 ⟨(some 13), .bin .eql 12 (kX 0), (some (10, true))⟩,
 oX 14 (.pick 10 13 (.k (.one (.v (.bool) (false))))),
 oX 2 (.mv 14)])
 .ret)
 (.seq
 (.reg false [
 oX 16 (.bin .eql 4 (kX 2)),
 oX 15 (.mv 16)])
 (.cond 15
 (.seq
 (.reg false [
 oX 17 (.fieldA 1 1),
 oX 18 (.load false 1 17),
 oX 19 (.call .froz 99 [18]),
 oX 20 (.mv 19),
 ⟨(some 21), .fieldA 2 1, (some (20, true))⟩,
 ⟨(some 22), .load false 1 21, (some (20, true))⟩,
 ⟨(some 23), .bin .eql 22 (kX 0), (some (20, true))⟩,
 oX 24 (.pick 20 23 (.k (.one (.v (.bool) (false))))),
 oX 2 (.mv 24)])
 .ret)
 (.seq
 (.seq
 (.reg false [
 oX 26 (.bin .eql 4 (kX 3)),
 oX 25 (.mv 26)])
 (.join ⟨[(25, .one (.c (.v (.bool)))), (4, sX), (1, .one (rX 1))], [(1, .box [vX, vX, vX])]⟩ [1] []
 (.cond 25
 .skip
 (.seq
 (.reg false [
 oX 27 (.bin .eql 4 (kX 4)),
 oX 25 (.mv 27)])
 (.cond 25
 .skip
 (.reg false [
 oX 28 (.bin .eql 4 (kX 5)),
 oX 25 (.mv 28)]))))))
 (.cond 25
 (.seq
 (.reg false [
 oX 29 (.fieldA 1 1),
 oX 30 (.load false 1 29),
 oX 31 (.call .froz 72 [30, (kX 1), (kX 1000000)]),
 oX 32 (.mv 31),
 ⟨(some 33), .fieldA 2 1, (some (32, true))⟩,
 ⟨(some 34), .load false 1 33, (some (32, true))⟩,
 ⟨(some 35), .bin .eql 34 (kX 0), (some (32, true))⟩,
 oX 36 (.pick 32 35 (.k (.one (.v (.bool) (false))))),
 oX 2 (.mv 36)])
 .ret)
 (.seq
 (.reg false [
 oX 38 (.bin .eql 4 (kX 6)),
 oX 37 (.mv 38)])
 (.cond 37
 (.seq
 (.reg false [
 oX 39 (.fieldA 1 1),
 oX 40 (.load false 1 39),
 oX 41 (.bin .eql 40 (kX 0)),
 oX 42 (.mv 41),
 ⟨(some 43), .fieldA 2 1, (some (42, true))⟩,
 ⟨(some 44), .load false 1 43, (some (42, true))⟩,
 ⟨(some 45), .call .froz 72 [44, (kX 1), (kX 20)], (some (42, true))⟩,
 oX 46 (.pick 42 45 (.k (.one (.v (.bool) (false))))),
 oX 2 (.mv 46)])
 .ret)
 (.seq
 (.reg false [
 oX 48 (.bin .eql 4 (kX 7)),
 oX 47 (.mv 48)])
 (.cond 47
 (.seq
 (.reg false [
 oX 49 (.fieldA 1 1),
 oX 50 (.load false 1 49),
 oX 51 (.call .froz 99 [50]),
 oX 52 (.mv 51),
 ⟨(some 53), .fieldA 2 1, (some (52, true))⟩,
 ⟨(some 54), .load false 1 53, (some (52, true))⟩,
 ⟨(some 55), .call .froz 72 [54, (kX 1), (kX 6)], (some (52, true))⟩,
 oX 56 (.pick 52 55 (.k (.one (.v (.bool) (false))))),
 oX 2 (.mv 56)])
 .ret)
 (.seq
 (.reg false [
 oX 58 (.bin .eql 4 (kX 8)),
 oX 57 (.mv 58)])
 (.cond 57
 (.seq
 (.reg false [
 oX 59 (.fieldA 1 1),
 oX 60 (.load false 1 59),
 oX 61 (.call .froz 99 [60]),
 oX 62 (.mv 61),
 ⟨(some 63), .fieldA 1 1, (some (62, true))⟩,
 ⟨(some 64), .load false 1 63, (some (62, true))⟩,
 ⟨(some 65), .bin .gtr 64 (kX 2), (some (62, true))⟩,
 oX 66 (.pick 62 65 (.k (.one (.v (.bool) (false))))),
 oX 67 (.mv 66),
 ⟨(some 68), .fieldA 2 1, (some (67, true))⟩,
 ⟨(some 69), .load false 1 68, (some (67, true))⟩,
 ⟨(some 70), .bin .eql 69 (kX 0), (some (67, true))⟩,
 oX 71 (.pick 67 70 (.k (.one (.v (.bool) (false))))),
 oX 2 (.mv 71)])
 .ret)
 .skip))))))))))))))
 (.seq
 (.reg false [
 oX 2 (.mv (.k (.one (.v (.bool) (false)))))])
 .ret)))
def ms_spec_RingOk : List MRes := [.tmp 2]
theorem n_spec_RingOk (NN : Nat) (x : DLL (Sig.tys ag_spec_RingOk)) : runS NN [fn_spec_IsPrime, fn_spec_l01In] sc_spec_RingOk ms_spec_RingOk ag_spec_RingOk rs_spec_RingOk x = G_spec_RingOk NN x := by kernel_rfl
theorem k_spec_RingOk : chkS pX 70 sc_spec_RingOk.er ms_spec_RingOk 1 = true := by decide +kernel
theorem p_spec_RingOk : PureSpec pX 70 fn_spec_RingOk.M ∧ chkFun pX 70 = true :=
  pure_of_runS (T := [fn_spec_IsPrime, fn_spec_l01In]) (sc := sc_spec_RingOk) (ms := ms_spec_RingOk) (args := ag_spec_RingOk) (res := rs_spec_RingOk) (SOk.cons p_spec_IsPrime <| SOk.cons p_spec_l01In <| SOk.nil) follows_ok k_spec_RingOk F_spec_RingOk fun x y h => (n_spec_RingOk FUEL x).trans (f_spec_RingOk x y h)

def fn_spec_l02Top : SFn := ⟨86, ag_spec_l02Top, mu_spec_l02Top, rs_spec_l02Top, F_spec_l02Top⟩
def sc_spec_l02Top : SCode :=
 (.seq
 (.reg false [
 oX 1 (.box 3 0),
 oX 2 (.mv (kX 0))])
 (.seq
 (.seq
 (.reg false [
 oX 3 (.fieldA 0 1),
 oX 4 (.load false 1 3)])
 (.block 0
 (.seq
 (.reg false [
 oX 6 (.bin .eql 4 (kX 1)),
 oX 5 (.mv 6)])
 (.cond 5
 (.seq
 (.reg false [
 oX 2 (.mv (kX 1))])
 .ret)
 (.seq
 (.seq
 (.reg false [
 oX 8 (.bin .eql 4 (kX 3)),
 oX 7 (.mv 8)])
 (.join ⟨[(7, .one (.c (.v (.bool)))), (4, sX), (1, .one (rX 1))], [(1, .box [vX, vX, vX])]⟩ [1] []
 (.cond 7
 .skip
 (.seq
 (.reg false [
 oX 9 (.bin .eql 4 (kX 4)),
 oX 7 (.mv 9)])
 (.cond 7
 .skip
 (.reg false [
 oX 10 (.bin .eql 4 (kX 5)),
 oX 7 (.mv 10)]))))))
 (.cond 7
 (.seq
 (.reg false [
 oX 11 (.fieldA 1 1),
 oX 12 (.load false 1 11),
 oX 2 (.mv 12)])
 .ret)
 (.seq
 (.reg false [
 oX 14 (.bin .eql 4 (kX 6)),
 oX 13 (.mv 14)])
 (.cond 13
 (.seq
 (.reg false [
 oX 15 (.fieldA 2 1),
 oX 16 (.load false 1 15),
 oX 17 (.bin .shl (kX 1) 16),
 oX 18 (.bin .sub 17 (kX 1)),
 oX 2 (.mv 18)])
 .ret)
 .skip))))))))
 (.seq
 (.reg false [
 oX 19 (.fieldA 1 1),
 oX 20 (.load false 1 19),
 oX 21 (.bin .sub 20 (kX 1)),
 oX 2 (.mv 21)])
 .ret)))
def ms_spec_l02Top : List MRes := [.tmp 2]
theorem n_spec_l02Top (NN : Nat) (x : DLL (Sig.tys ag_spec_l02Top)) : runS NN [] sc_spec_l02Top ms_spec_l02Top ag_spec_l02Top rs_spec_l02Top x = G_spec_l02Top NN x := by kernel_rfl
theorem k_spec_l02Top : chkS pX 86 sc_spec_l02Top.er ms_spec_l02Top 1 = true := by decide +kernel
theorem p_spec_l02Top : PureSpec pX 86 fn_spec_l02Top.M ∧ chkFun pX 86 = true :=
  pure_of_runS (T := []) (sc := sc_spec_l02Top) (ms := ms_spec_l02Top) (args := ag_spec_l02Top) (res := rs_spec_l02Top) (SOk.nil) follows_ok k_spec_l02Top F_spec_l02Top fun x y h => (n_spec_l02Top FUEL x).trans (f_spec_l02Top x y h)

def fn_spec_l02Width : SFn := ⟨73, ag_spec_l02Width, mu_spec_l02Width, rs_spec_l02Width, F_spec_l02Width⟩
def sc_spec_l02Width : SCode :=
 (.seq
 (.reg false [
 oX 1 (.box 3 0),
 oX 2 (.mv (kX 0))])
 (.seq
 (.seq
 (.reg false [
 oX 3 (.fieldA 0 1),
 oX 4 (.load false 1 3)])
 (.block 0
 (.seq
 (.reg false [
 oX 6 (.bin .eql 4 (kX 7)),
 oX 5 (.mv 6)])
 (.cond 5
 (.seq
 (.reg false [
 oX 7 (.fieldA 2 1),
 oX 8 (.load false 1 7),
 oX 2 (.mv 8)])
 .ret)
 (.seq
 (.reg false [
 oX 10 (.bin .eql 4 (kX 8)),
 oX 9 (.mv 10)])
 (.cond 9
 (.seq
 (.reg false [
 oX 2 (.mv (kX 4))])
 .ret)
 .skip))))))
 (.seq
 (.reg false [
 oX 2 (.mv (kX 1))])
 .ret)))
def ms_spec_l02Width : List MRes := [.tmp 2]
theorem n_spec_l02Width (NN : Nat) (x : DLL (Sig.tys ag_spec_l02Width)) : runS NN [] sc_spec_l02Width ms_spec_l02Width ag_spec_l02Width rs_spec_l02Width x = G_spec_l02Width NN x := by kernel_rfl
theorem k_spec_l02Width : chkS pX 73 sc_spec_l02Width.er ms_spec_l02Width 1 = true := by decide +kernel
theorem p_spec_l02Width : PureSpec pX 73 fn_spec_l02Width.M ∧ chkFun pX 73 = true :=
  pure_of_runS (T := []) (sc := sc_spec_l02Width) (ms := ms_spec_l02Width) (args := ag_spec_l02Width) (res := rs_spec_l02Width) (SOk.nil) follows_ok k_spec_l02Width F_spec_l02Width fun x y h => (n_spec_l02Width FUEL x).trans (f_spec_l02Width x y h)

def fn_spec_l02Elem : SFn := ⟨71, ag_spec_l02Elem, mu_spec_l02Elem, rs_spec_l02Elem, F_spec_l02Elem⟩
def sc_spec_l02Elem : SCode :=
 (.seq
 (.reg false [
 oX 2 (.box 3 0),
 oX 4 (.mv (.k (.one (.v (.bool) (false)))))])
 (.seq
 (.seq
 (.reg false [
 oX 7 (.mv 1),
 oX 8 (.len 7),
 oX 9 (.mv (kX 0))])
 (.join ⟨[(1, .one (.c (.v (lX)))), (2, .one (rX 2))], [(2, .box [vX, vX, vX])]⟩ [2] []
 (.block 0
 (.loop 0 ⟨[(1, .one (.c (.v (lX)))), (2, .one (rX 2)), (7, .one (.c (.v (lX)))), (8, sX), (9, sX)], [(2, .box [vX, vX, vX])]⟩ [2] []
 (.seq
 (.reg false [
 oX 10 (.bin .lss 9 8)])
 (.seq
 (.cond 10
 .skip
 (.exit 0))
 (.seq
 (.block 1
 (.seq
 (.reg false [
 oX 11 (.idxA 1 7 9),
 oX 12 (.load false 1 11),
 oX 6 (.mv 12)])
 (.seq
 (.reg false [
 oX 13 (.mv 6),
 oX 14 (.load true 3 2),
 oX 15 (.call .froz 86 [14]),
 oX 16 (.call .froz 72 [13, (kX 0), 15]),
 oX 17 (.un .not 16)])
 (.cond 17
 (.seq
 (.reg false [
 oX 4 (.mv (.k (.one (.v (.bool) (false)))))])
 .ret)
 .skip))))
 (.reg false [
 oX 18 (.bin .add 9 (kX 1)),
 oX 9 (.mv 18)]))))))))
 (.seq
 (.reg false [
 oX 19 (.mv 1),
 oX 20 (.len 19),
 oX 21 (.load true 3 2),
 oX 22 (.call .froz 73 [21]),
 oX 23 (.bin .eql 20 22),
 oX 4 (.mv 23)])
 .ret)))
def ms_spec_l02Elem : List MRes := [.tmp 4]
theorem n_spec_l02Elem (NN : Nat) (x : DLL (Sig.tys ag_spec_l02Elem)) : runS NN [fn_spec_l02Top, fn_spec_l01In, fn_spec_l02Width] sc_spec_l02Elem ms_spec_l02Elem ag_spec_l02Elem rs_spec_l02Elem x = G_spec_l02Elem NN x := by kernel_rfl
theorem k_spec_l02Elem : chkS pX 71 sc_spec_l02Elem.er ms_spec_l02Elem 2 = true := by decide +kernel
theorem p_spec_l02Elem : PureSpec pX 71 fn_spec_l02Elem.M ∧ chkFun pX 71 = true :=
  pure_of_runS (T := [fn_spec_l02Top, fn_spec_l01In, fn_spec_l02Width]) (sc := sc_spec_l02Elem) (ms := ms_spec_l02Elem) (args := ag_spec_l02Elem) (res := rs_spec_l02Elem) (SOk.cons p_spec_l02Top <| SOk.cons p_spec_l01In <| SOk.cons p_spec_l02Width <| SOk.nil) follows_ok k_spec_l02Elem F_spec_l02Elem fun x y h => (n_spec_l02Elem FUEL x).trans (f_spec_l02Elem x y h)

def fn_spec_ElemOk : SFn := ⟨28, ag_spec_ElemOk, mu_spec_ElemOk, rs_spec_ElemOk, F_spec_ElemOk⟩
def sc_spec_ElemOk : SCode :=
 (.seq
 (.reg false [
 oX 2 (.box 3 0),
 oX 4 (.mv (.k (.one (.v (.bool) (false)))))])
 (.seq
 (.reg false [
 oX 5 (.load true 3 2),
 oX 6 (.call .froz 70 [5]),
 oX 7 (.mv 6),
 ⟨(some 8), .load true 3 2, (some (7, true))⟩,
 ⟨(some 9), .mv 1, (some (7, true))⟩,
 ⟨(some 10), .call .froz 71 [8, 9], (some (7, true))⟩,
 oX 11 (.pick 7 10 (.k (.one (.v (.bool) (false))))),
 oX 4 (.mv 11)])
 .ret))
def ms_spec_ElemOk : List MRes := [.tmp 4]
theorem n_spec_ElemOk (NN : Nat) (x : DLL (Sig.tys ag_spec_ElemOk)) : runS NN [fn_spec_RingOk, fn_spec_l02Elem] sc_spec_ElemOk ms_spec_ElemOk ag_spec_ElemOk rs_spec_ElemOk x = G_spec_ElemOk NN x := by kernel_rfl
theorem k_spec_ElemOk : chkS pX 28 sc_spec_ElemOk.er ms_spec_ElemOk 2 = true := by decide +kernel
theorem p_spec_ElemOk : PureSpec pX 28 fn_spec_ElemOk.M ∧ chkFun pX 28 = true :=
  pure_of_runS (T := [fn_spec_RingOk, fn_spec_l02Elem]) (sc := sc_spec_ElemOk) (ms := ms_spec_ElemOk) (args := ag_spec_ElemOk) (res := rs_spec_ElemOk) (SOk.cons p_spec_RingOk <| SOk.cons p_spec_l02Elem <| SOk.nil) follows_ok k_spec_ElemOk F_spec_ElemOk fun x y h => (n_spec_ElemOk FUEL x).trans (f_spec_ElemOk x y h)

def fn_spec_GraphOk : SFn := ⟨29, ag_spec_GraphOk, mu_spec_GraphOk, rs_spec_GraphOk, F_spec_GraphOk⟩
def sc_spec_GraphOk : SCode :=
 (.seq
 (.reg false [
 oX 1 (.box 2 0),
 oX 2 (.mv (.k (.one (.v (.bool) (false)))))])
 (.seq
 (.seq
 (.reg false [
 oX 5 (.fieldA 0 1),
 oX 6 (.load false 1 5),
 oX 7 (.call .froz 72 [6, (kX 0), (kX 10)]),
 oX 8 (.un .not 7),
 oX 9 (.mv 8),
 ⟨(some 10), .fieldA 1 1, (some (9, false))⟩,
 ⟨(some 11), .load false 1 10, (some (9, false))⟩,
 ⟨(some 12), .len 11, (some (9, false))⟩,
 ⟨(some 13), .bin .gtr 12 (kX 10), (some (9, false))⟩,
 oX 14 (.pick 9 (.k (.one (.v (.bool) (true)))) 13)])
 (.cond 14
 (.seq
 (.reg false [
 oX 2 (.mv (.k (.one (.v (.bool) (false)))))])
 .ret)
 .skip))
 (.seq
 (.seq
 (.reg false [
 oX 15 (.fieldA 1 1),
 oX 16 (.load false 1 15),
 oX 17 (.len 16),
 oX 18 (.mv (kX 0))])
 (.join ⟨[], []⟩ [1] []
 (.block 0
 (.loop 0 ⟨[(1, .one (rX 1)), (16, .one (.c (.v (.list [.int .i64, .int .i64])))), (17, sX), (18, sX)], [(1, .box [vX, .c (.v (.list [.int .i64, .int .i64]))])]⟩ [1, 4] []
 (.seq
 (.reg false [
 oX 19 (.bin .lss 18 17)])
 (.seq
 (.cond 19
 .skip
 (.exit 0))
 (.seq
 (.block 1
 (.seq
 (.reg false [
 oX 20 (.idxA 2 16 18),
 oX 21 (.load true 2 20),
 oX 4 (.alloc [zX, zX]),
 uX (.store 2 4 21)])
 (.seq
 (.reg false [
 oX 22 (.fieldA 0 4),
 oX 23 (.load false 1 22),
 oX 24 (.fieldA 0 1),
 oX 25 (.load false 1 24),
 oX 26 (.bin .sub 25 (kX 1)),
 oX 27 (.call .froz 72 [23, (kX 0), 26]),
 oX 28 (.un .not 27),
 oX 29 (.mv 28),
 ⟨(some 30), .fieldA 1 4, (some (29, false))⟩,
 ⟨(some 31), .load false 1 30, (some (29, false))⟩,
 ⟨(some 32), .fieldA 0 1, (some (29, false))⟩,
 ⟨(some 33), .load false 1 32, (some (29, false))⟩,
 ⟨(some 34), .bin .sub 33 (kX 1), (some (29, false))⟩,
 ⟨(some 35), .call .froz 72 [31, (kX 0), 34], (some (29, false))⟩,
 ⟨(some 36), .un .not 35, (some (29, false))⟩,
 oX 37 (.pick 29 (.k (.one (.v (.bool) (true)))) 36)])
 (.cond 37
 (.seq
 (.reg false [
 oX 2 (.mv (.k (.one (.v (.bool) (false)))))])
 .ret)
 .skip))))
 (.reg false [
 oX 38 (.bin .add 18 (kX 1)),
 oX 18 (.mv 38)]))))))))
 (.seq
 (.reg false [
 oX 2 (.mv (.k (.one (.v (.bool) (true)))))])
 .ret))))
def ms_spec_GraphOk : List MRes := [.tmp 2]
theorem n_spec_GraphOk (NN : Nat) (x : DLL (Sig.tys ag_spec_GraphOk)) : runS NN [fn_spec_l01In] sc_spec_GraphOk ms_spec_GraphOk ag_spec_GraphOk rs_spec_GraphOk x = G_spec_GraphOk NN x := by kernel_rfl
theorem k_spec_GraphOk : chkS pX 29 sc_spec_GraphOk.er ms_spec_GraphOk 1 = true := by decide +kernel
theorem p_spec_GraphOk : PureSpec pX 29 fn_spec_GraphOk.M ∧ chkFun pX 29 = true :=
  pure_of_runS (T := [fn_spec_l01In]) (sc := sc_spec_GraphOk) (ms := ms_spec_GraphOk) (args := ag_spec_GraphOk) (res := rs_spec_GraphOk) (SOk.cons p_spec_l01In <| SOk.nil) follows_ok k_spec_GraphOk F_spec_GraphOk fun x y h => (n_spec_GraphOk FUEL x).trans (f_spec_GraphOk x y h)

def fn_spec_l36Fits : SFn := ⟨43, ag_spec_l36Fits, mu_spec_l36Fits, rs_spec_l36Fits, F_spec_l36Fits⟩
def sc_spec_l36Fits : SCode :=
 (.seq
 (.reg false [
 oX 4 (.box 3 0),
 oX 5 (.box 2 1),
 oX 8 (.mv (.k (.one (.v (.bool) (false)))))])
 (.seq
 (.reg false [
 oX 9 (.load true 3 4),
 oX 10 (.mv 3),
 oX 11 (.call .froz 28 [9, 10]),
 oX 12 (.mv 11),
 ⟨(some 13), .load true 2 5, (some (12, true))⟩,
 ⟨(some 14), .call .froz 29 [13], (some (12, true))⟩,
 oX 15 (.pick 12 14 (.k (.one (.v (.bool) (false))))),
 oX 16 (.mv 15),
 ⟨(some 17), .mv 2, (some (16, true))⟩,
 ⟨(some 18), .call .froz 72 [17, (kX 1), (kX 4)], (some (16, true))⟩,
 oX 19 (.pick 16 18 (.k (.one (.v (.bool) (false))))),
 oX 8 (.mv 19)])
 .ret))
def ms_spec_l36Fits : List MRes := [.tmp 8]
theorem n_spec_l36Fits (NN : Nat) (x : DLL (Sig.tys ag_spec_l36Fits)) : runS NN [fn_spec_ElemOk, fn_spec_GraphOk, fn_spec_l01In] sc_spec_l36Fits ms_spec_l36Fits ag_spec_l36Fits rs_spec_l36Fits x = G_spec_l36Fits NN x := by kernel_rfl
theorem k_spec_l36Fits : chkS pX 43 sc_spec_l36Fits.er ms_spec_l36Fits 4 = true := by decide +kernel
theorem p_spec_l36Fits : PureSpec pX 43 fn_spec_l36Fits.M ∧ chkFun pX 43 = true :=
  pure_of_runS (T := [fn_spec_ElemOk, fn_spec_GraphOk, fn_spec_l01In]) (sc := sc_spec_l36Fits) (ms := ms_spec_l36Fits) (args := ag_spec_l36Fits) (res := rs_spec_l36Fits) (SOk.cons p_spec_ElemOk <| SOk.cons p_spec_GraphOk <| SOk.cons p_spec_l01In <| SOk.nil) follows_ok k_spec_l36Fits F_spec_l36Fits fun x y h => (n_spec_l36Fits FUEL x).trans (f_spec_l36Fits x y h)

def fn_spec_l36Power : SFn := ⟨45, ag_spec_l36Power, mu_spec_l36Power, rs_spec_l36Power, F_spec_l36Power⟩
def sc_spec_l36Power : SCode :=
 (.seq
 (.reg false [
 oX 4 (.mv (kX 0))])
 (.seq
 (.reg false [
 oX 5 (.mv (kX 1))])
 (.seq
 (.join ⟨[(5, sX)], []⟩ [] []
 (.block 0
 (.loop 0 ⟨[(0, sX), (1, sX), (5, sX)], []⟩ [] []
 (.seq
 (.seq
 (.reg false [
 oX 6 (.mv 1),
 oX 7 (.bin .gtr 6 (kX 0))])
 (.cond 7
 .skip
 (.exit 0)))
 (.seq
 (.block 1
 (.reg false [
 oX 10 (.mv 5),
 oX 11 (.mv 0),
 oX 12 (.bin .mul 10 11),
 oX 5 (.mv 12)]))
 (.reg false [
 oX 8 (.mv 1),
 oX 9 (.bin .sub 8 (kX 1)),
 oX 1 (.mv 9)]))))))
 (.seq
 (.reg false [
 oX 13 (.mv 5),
 oX 4 (.mv 13)])
 .ret))))
def ms_spec_l36Power : List MRes := [.tmp 4]
theorem n_spec_l36Power (NN : Nat) (x : DLL (Sig.tys ag_spec_l36Power)) : runS NN [] sc_spec_l36Power ms_spec_l36Power ag_spec_l36Power rs_spec_l36Power x = G_spec_l36Power NN x := by kernel_rfl
theorem k_spec_l36Power : chkS pX 45 sc_spec_l36Power.er ms_spec_l36Power 2 = true := by decide +kernel
theorem p_spec_l36Power : PureSpec pX 45 fn_spec_l36Power.M ∧ chkFun pX 45 = true :=
  pure_of_runS (T := []) (sc := sc_spec_l36Power) (ms := ms_spec_l36Power) (args := ag_spec_l36Power) (res := rs_spec_l36Power) (SOk.nil) follows_ok k_spec_l36Power F_spec_l36Power fun x y h => (n_spec_l36Power FUEL x).trans (f_spec_l36Power x y h)

def fn_spec_l02Zero : SFn := ⟨30, ag_spec_l02Zero, mu_spec_l02Zero, rs_spec_l02Zero, F_spec_l02Zero⟩
def sc_spec_l02Zero : SCode :=
 (.seq
 (.reg false [
 oX 1 (.box 3 0),
 oX 2 (.mv (.k (.one (.nil iX))))])
 (.seq
 (.reg false [
 oX 4 (.load true 3 1),
 oX 5 (.call .froz 73 [4]),
 oX 6 (.mkslice .froz iX 8 (0 : Int) 5 5),
 oX 3 (.mv 6)])
 (.seq
 (.seq
 (.reg false [
 oX 7 (.fieldA 0 1),
 oX 8 (.load false 1 7),
 oX 9 (.bin .eql 8 (kX 4))])
 (.join ⟨[(3, .one (fX 500000 1))], [(500000, .row true .froz iX)]⟩ [1, 6, 500000] [(false, 3, 0, 500000, .froz, [])]
 (.cond 9
 (.reg false [
 oX 10 (.mv 3),
 oX 11 (.fieldA 1 1),
 oX 12 (.load false 1 11),
 oX 13 (.idxA 1 10 (kX 0)),
 uX (.store 1 13 12)])
 .skip)))
 (.seq
 (.reg false [
 oX 14 (.mv 3),
 oX 2 (.mv 14)])
 .ret))))
def ms_spec_l02Zero : List MRes := [.tmp 2]
theorem n_spec_l02Zero (NN : Nat) (x : DLL (Sig.tys ag_spec_l02Zero)) : runS NN [fn_spec_l02Width] sc_spec_l02Zero ms_spec_l02Zero ag_spec_l02Zero rs_spec_l02Zero x = G_spec_l02Zero NN x := by kernel_rfl
theorem k_spec_l02Zero : chkS pX 30 sc_spec_l02Zero.er ms_spec_l02Zero 1 = true := by decide +kernel
theorem p_spec_l02Zero : PureSpec pX 30 fn_spec_l02Zero.M ∧ chkFun pX 30 = true :=
  pure_of_runS (T := [fn_spec_l02Width]) (sc := sc_spec_l02Zero) (ms := ms_spec_l02Zero) (args := ag_spec_l02Zero) (res := rs_spec_l02Zero) (SOk.cons p_spec_l02Width <| SOk.nil) follows_ok k_spec_l02Zero F_spec_l02Zero fun x y h => (n_spec_l02Zero FUEL x).trans (f_spec_l02Zero x y h)

def fn_spec_l02One : SFn := ⟨58, ag_spec_l02One, mu_spec_l02One, rs_spec_l02One, F_spec_l02One⟩
def sc_spec_l02One : SCode :=
 (.seq
 (.reg false [
 oX 1 (.box 3 0),
 oX 2 (.mv (.k (.one (.nil iX))))])
 (.seq
 (.reg false [
 oX 4 (.load true 3 1),
 oX 5 (.call .froz 73 [4]),
 oX 6 (.mkslice .froz iX 8 (0 : Int) 5 5),
 oX 3 (.mv 6)])
 (.seq
 (.seq
 (.reg false [
 oX 7 (.fieldA 0 1),
 oX 8 (.load false 1 7)])
 (.block 0
 (.seq
 (.seq
 (.reg false [
 oX 12 (.bin .eql 8 (kX 5)),
 oX 11 (.mv 12)])
 (.join ⟨[(11, .one (.c (.v (.bool)))), (1, .one (rX 1)), (8, sX), (3, .one (fX 500000 1))], [(1, .box [vX, vX, vX]), (500000, .row true .froz iX)]⟩ [1, 6, 500000] [(false, 3, 0, 500000, .froz, [])]
 (.cond 11
 .skip
 (.reg false [
 oX 13 (.bin .eql 8 (kX 6)),
 oX 11 (.mv 13)]))))
 (.cond 11
 (.reg false [
 oX 14 (.mv 3),
 oX 15 (.load true 3 1),
 oX 16 (.call .froz 86 [15]),
 oX 17 (.idxA 1 14 (kX 0)),
 uX (.store 1 17 16)])
 (.seq
 (.reg false [
 oX 19 (.bin .eql 8 (kX 4)),
 oX 18 (.mv 19)])
 (.cond 18
 (.reg false [
 oX 20 (.mv 3),
 oX 21 (.idxA 1 20 (kX 0)),
 uX (.store 1 21 (kX 0))])
 (.reg false [
 oX 9 (.mv 3),
 oX 10 (.idxA 1 9 (kX 0)),
 uX (.store 1 10 (kX 1))])))))))
 (.seq
 (.reg false [
 oX 22 (.mv 3),
 oX 2 (.mv 22)])
 .ret))))
def ms_spec_l02One : List MRes := [.tmp 2]
theorem n_spec_l02One (NN : Nat) (x : DLL (Sig.tys ag_spec_l02One)) : runS NN [fn_spec_l02Width, fn_spec_l02Top] sc_spec_l02One ms_spec_l02One ag_spec_l02One rs_spec_l02One x = G_spec_l02One NN x := by kernel_rfl
theorem k_spec_l02One : chkS pX 58 sc_spec_l02One.er ms_spec_l02One 1 = true := by decide +kernel
theorem p_spec_l02One : PureSpec pX 58 fn_spec_l02One.M ∧ chkFun pX 58 = true :=
  pure_of_runS (T := [fn_spec_l02Width, fn_spec_l02Top]) (sc := sc_spec_l02One) (ms := ms_spec_l02One) (args := ag_spec_l02One) (res := rs_spec_l02One) (SOk.cons p_spec_l02Width <| SOk.cons p_spec_l02Top <| SOk.nil) follows_ok k_spec_l02One F_spec_l02One fun x y h => (n_spec_l02One FUEL x).trans (f_spec_l02One x y h)

def fn_spec_CountElem : SFn := ⟨44, ag_spec_CountElem, mu_spec_CountElem, rs_spec_CountElem, F_spec_CountElem⟩
def sc_spec_CountElem : SCode :=
 (.seq
 (.reg false [
 oX 2 (.box 3 0),
 oX 4 (.mv (.k (.one (.nil iX))))])
 (.seq
 (.seq
 (.reg false [
 oX 6 (.load true 3 2),
 oX 7 (.call .froz 70 [6]),
 oX 8 (.un .not 7),
 oX 9 (.mv 8),
 ⟨(some 10), .mv 1, (some (9, false))⟩,
 ⟨(some 11), .bin .lss 10 (kX 0), (some (9, false))⟩,
 oX 12 (.pick 9 (.k (.one (.v (.bool) (true)))) 11)])
 (.cond 12
 (.seq
 (.reg false [
 oX 4 (.mv (.k (.one (.nil iX))))])
 .ret)
 .skip))
 (.seq
 (.seq
 (.reg false [
 oX 13 (.mv 1),
 oX 14 (.bin .eql 13 (kX 0))])
 (.cond 14
 (.seq
 (.reg false [
 oX 15 (.load true 3 2),
 oX 16 (.call .froz 30 [15]),
 oX 4 (.mv 16)])
 .ret)
 .skip))
 (.seq
 (.reg false [
 oX 17 (.load true 3 2),
 oX 18 (.call .froz 58 [17]),
 oX 5 (.mv 18)])
 (.seq
 (.seq
 (.reg false [
 oX 19 (.fieldA 0 2),
 oX 20 (.load false 1 19)])
 (.block 0
 (.seq
 (.reg false [
 oX 22 (.bin .eql 20 (kX 3)),
 oX 21 (.mv 22)])
 (.cond 21
 (.reg false [
 oX 23 (.mv 5),
 oX 24 (.mv 1),
 oX 25 (.fieldA 1 2),
 oX 26 (.load false 1 25),
 oX 27 (.mm false 24 26),
 oX 28 (.idxA 1 23 (kX 0)),
 uX (.store 1 28 27)])
 (.seq
 (.seq
 (.reg false [
 oX 30 (.bin .eql 20 (kX 2)),
 oX 29 (.mv 30)])
 (.join ⟨[(29, .one (.c (.v (.bool)))), (2, .one (rX 2)), (1, sX), (5, .one (fX 500000 1))], [(2, .box [vX, vX, vX]), (500000, .row true .froz iX)]⟩ [2, 19000, 500000] [(false, 5, 0, 500000, .froz, [])]
 (.cond 29
 .skip
 (.seq
 (.reg false [
 oX 31 (.bin .eql 20 (kX 7)),
 oX 29 (.mv 31)])
 (.cond 29
 .skip
 (.reg false [
 oX 32 (.bin .eql 20 (kX 8)),
 oX 29 (.mv 32)]))))))
 (.cond 29
 (.reg false [
 oX 33 (.mv 5),
 oX 34 (.mv 1),
 oX 35 (.fieldA 1 2),
 oX 36 (.load false 1 35),
 oX 37 (.bin .rem 34 36),
 oX 38 (.idxA 1 33 (kX 0)),
 uX (.store 1 38 37)])
 .skip))))))
 (.seq
 (.reg false [
 oX 39 (.mv 5),
 oX 4 (.mv 39)])
 .ret))))))
def ms_spec_CountElem : List MRes := [.tmp 4]
theorem n_spec_CountElem (NN : Nat) (x : DLL (Sig.tys ag_spec_CountElem)) : runS NN [fn_spec_RingOk, fn_spec_l02Zero, fn_spec_l02One] sc_spec_CountElem ms_spec_CountElem ag_spec_CountElem rs_spec_CountElem x = G_spec_CountElem NN x := by kernel_rfl
theorem k_spec_CountElem : chkS pX 44 sc_spec_CountElem.er ms_spec_CountElem 2 = true := by decide +kernel
theorem p_spec_CountElem : PureSpec pX 44 fn_spec_CountElem.M ∧ chkFun pX 44 = true :=
  pure_of_runS (T := [fn_spec_RingOk, fn_spec_l02Zero, fn_spec_l02One]) (sc := sc_spec_CountElem) (ms := ms_spec_CountElem) (args := ag_spec_CountElem) (res := rs_spec_CountElem) (SOk.cons p_spec_RingOk <| SOk.cons p_spec_l02Zero <| SOk.cons p_spec_l02One <| SOk.nil) follows_ok k_spec_CountElem F_spec_CountElem fun x y h => (n_spec_CountElem FUEL x).trans (f_spec_CountElem x y h)

def fn_spec_l36Delete : SFn := ⟨53, ag_spec_l36Delete, mu_spec_l36Delete, rs_spec_l36Delete, F_spec_l36Delete⟩
def sc_spec_l36Delete : SCode :=
 (.seq
 (.reg false [
 oX 2 (.box 2 0),
 oX 4 (.alloc [zX, .nil [.int .i64, .int .i64]])])
 (.seq
 (.reg false [
 oX 8 (.fieldA 0 2),
 oX 9 (.load false 1 8),
 oX 10 (.build [zX, .nil [.int .i64, .int .i64]] [(0, 1, 9)]),
 oX 5 (.alloc [zX, .nil [.int .i64, .int .i64]]),
 uX (.store 2 5 10)])
 (.seq
 (.seq
 (.reg false [
 oX 11 (.fieldA 1 2),
 oX 12 (.load false 1 11),
 oX 13 (.len 12),
 oX 14 (.mv (kX 0))])
 (.join ⟨[(5, .one (rX 5)), (4, .one (rX 4))], [(4, .box [vX, fX 500002 2]), (5, .box [vX, fX 500003 2]), (500002, .row true .froz [.int .i64, .int .i64]), (500003, .row true .froz [.int .i64, .int .i64])]⟩ [4, 5, 500000, 500001, 500002, 500003] [(true, 4, 1, 500002, .froz, []), (true, 5, 1, 500003, .froz, [])]
 (.block 0
 (.loop 0 ⟨[(1, sX), (4, .one (rX 4)), (5, .one (rX 5)), (12, .one (.c (.v (.list [.int .i64, .int .i64])))), (13, sX), (14, sX)], [(4, .box [vX, fX 500000 2]), (5, .box [vX, fX 500001 2]), (500000, .row true .froz [.int .i64, .int .i64]), (500001, .row true .froz [.int .i64, .int .i64])]⟩ [2, 4, 5, 7, 25, 26, 500000, 500001] [(true, 4, 1, 500000, .froz, []), (true, 5, 1, 500001, .froz, [])]
 (.seq
 (.reg false [
 oX 15 (.bin .lss 14 13)])
 (.seq
 (.cond 15
 .skip
 (.exit 0))
 (.seq
 (.block 1
 (.seq
 (.reg false [
 oX 16 (.mv 14),
 oX 17 (.idxA 2 12 14),
 oX 18 (.load true 2 17),
 oX 7 (.alloc [zX, zX]),
 oX 6 (.mv 16),
 uX (.store 2 7 18)])
 (.seq
 (.reg false [
 oX 19 (.mv 6),
 oX 20 (.mv 1),
 oX 21 (.bin .neq 19 20)])
 (.cond 21
 (.reg false [
 oX 22 (.fieldA 1 5),
 oX 23 (.load false 1 22),
 oX 24 (.load true 2 7),
 oX 25 (.bslice [.int .i64, .int .i64] [24]),
 oX 26 (.append true [.int .i64, .int .i64] 16 23 25),
 oX 27 (.fieldA 1 5),
 uX (.store 1 27 26)])
 .skip))))
 (.reg false [
 oX 28 (.bin .add 14 (kX 1)),
 oX 14 (.mv 28)]))))))))
 (.seq
 (.reg false [
 oX 29 (.load true 2 5),
 uX (.store 2 4 29)])
 .ret))))
def ms_spec_l36Delete : List MRes := [.cell 4 2 true]
theorem n_spec_l36Delete (NN : Nat) (x : DLL (Sig.tys ag_spec_l36Delete)) : runS NN [] sc_spec_l36Delete ms_spec_l36Delete ag_spec_l36Delete rs_spec_l36Delete x = G_spec_l36Delete NN x := by kernel_rfl
theorem k_spec_l36Delete : chkS pX 53 sc_spec_l36Delete.er ms_spec_l36Delete 2 = true := by decide +kernel
theorem p_spec_l36Delete : PureSpec pX 53 fn_spec_l36Delete.M ∧ chkFun pX 53 = true :=
  pure_of_runS (T := []) (sc := sc_spec_l36Delete) (ms := ms_spec_l36Delete) (args := ag_spec_l36Delete) (res := rs_spec_l36Delete) (SOk.nil) follows_ok k_spec_l36Delete F_spec_l36Delete fun x y h => (n_spec_l36Delete FUEL x).trans (f_spec_l36Delete x y h)

def fn_spec_l36Node : SFn := ⟨82, ag_spec_l36Node, mu_spec_l36Node, rs_spec_l36Node, F_spec_l36Node⟩
def sc_spec_l36Node : SCode :=
 (.seq
 (.reg false [
 oX 6 (.mv (kX 0))])
 (.seq
 (.seq
 (.reg false [
 oX 7 (.mv 0),
 oX 8 (.mv 2),
 oX 9 (.bin .eql 7 8)])
 (.cond 9
 (.seq
 (.reg false [
 oX 10 (.mv 1),
 oX 6 (.mv 10)])
 .ret)
 .skip))
 (.seq
 (.seq
 (.reg false [
 oX 11 (.mv 0),
 oX 12 (.mv 2),
 oX 13 (.bin .gtr 11 12)])
 (.cond 13
 (.seq
 (.reg false [
 oX 14 (.mv 0),
 oX 15 (.bin .sub 14 (kX 1)),
 oX 6 (.mv 15)])
 .ret)
 .skip))
 (.seq
 (.reg false [
 oX 16 (.mv 0),
 oX 6 (.mv 16)])
 .ret))))
def ms_spec_l36Node : List MRes := [.tmp 6]
theorem n_spec_l36Node (NN : Nat) (x : DLL (Sig.tys ag_spec_l36Node)) : runS NN [] sc_spec_l36Node ms_spec_l36Node ag_spec_l36Node rs_spec_l36Node x = G_spec_l36Node NN x := by kernel_rfl
theorem k_spec_l36Node : chkS pX 82 sc_spec_l36Node.er ms_spec_l36Node 3 = true := by decide +kernel
theorem p_spec_l36Node : PureSpec pX 82 fn_spec_l36Node.M ∧ chkFun pX 82 = true :=
  pure_of_runS (T := []) (sc := sc_spec_l36Node) (ms := ms_spec_l36Node) (args := ag_spec_l36Node) (res := rs_spec_l36Node) (SOk.nil) follows_ok k_spec_l36Node F_spec_l36Node fun x y h => (n_spec_l36Node FUEL x).trans (f_spec_l36Node x y h)

def fn_spec_ContractEdge : SFn := ⟨52, ag_spec_ContractEdge, mu_spec_ContractEdge, rs_spec_ContractEdge, F_spec_ContractEdge⟩
def sc_spec_ContractEdge : SCode :=
 (.seq
 (.reg false [
 oX 2 (.box 2 0),
 oX 4 (.alloc [zX, .nil [.int .i64, .int .i64]]),
 oX 5 (.mv (.k (.one (.v (.bool) (false)))))])
 (.seq
 (.seq
 (.reg false [
 oX 11 (.load true 2 2),
 oX 12 (.call .froz 29 [11]),
 oX 13 (.un .not 12),
 oX 14 (.mv 13),
 ⟨(some 15), .mv 1, (some (14, false))⟩,
 ⟨(some 16), .fieldA 1 2, (some (14, false))⟩,
 ⟨(some 17), .load false 1 16, (some (14, false))⟩,
 ⟨(some 18), .len 17, (some (14, false))⟩,
 ⟨(some 19), .bin .sub 18 (kX 1), (some (14, false))⟩,
 ⟨(some 20), .call .froz 72 [15, (kX 0), 19], (some (14, false))⟩,
 ⟨(some 21), .un .not 20, (some (14, false))⟩,
 oX 22 (.pick 14 (.k (.one (.v (.bool) (true)))) 21)])
 (.cond 22
 (.seq
 (.reg false [
 oX 23 (.build [zX, .nil [.int .i64, .int .i64]] []),
 uX (.store 2 4 23),
 oX 5 (.mv (.k (.one (.v (.bool) (false)))))])
 .ret)
 .skip))
 (.seq
 (.reg true [
 oX 24 (.fieldA 1 2),
 oX 25 (.load false 1 24),
 oX 26 (.mv 1),
 oX 27 (.idxA 2 25 26),
 oX 28 (.fieldA 0 27),
 oX 29 (.load false 1 28),
 oX 30 (.fieldA 1 2),
 oX 31 (.load false 1 30),
 oX 32 (.mv 1),
 oX 33 (.idxA 2 31 32),
 oX 34 (.fieldA 1 33),
 oX 35 (.load false 1 34),
 oX 36 (.mm false 29 35),
 oX 6 (.mv 36)])
 (.seq
 (.reg true [
 oX 37 (.fieldA 1 2),
 oX 38 (.load false 1 37),
 oX 39 (.mv 1),
 oX 40 (.idxA 2 38 39),
 oX 41 (.fieldA 0 40),
 oX 42 (.load false 1 41),
 oX 43 (.fieldA 1 2),
 oX 44 (.load false 1 43),
 oX 45 (.mv 1),
 oX 46 (.idxA 2 44 45),
 oX 47 (.fieldA 1 46),
 oX 48 (.load false 1 47),
 oX 49 (.mm true 42 48),
 oX 7 (.mv 49)])
 (.seq
 (.reg false [
 oX 50 (.load true 2 2),
 oX 51 (.mv 1),
 oX 52 (.call .froz 53 [50, 51]),
 oX 8 (.alloc [zX, .nil [.int .i64, .int .i64]]),
 uX (.store 2 8 52)])
 (.seq
 (.seq
 (.reg false [
 oX 53 (.mv 6),
 oX 54 (.mv 7),
 oX 55 (.bin .eql 53 54)])
 (.cond 55
 (.seq
 (.reg false [
 oX 56 (.load true 2 8),
 uX (.store 2 4 56),
 oX 5 (.mv (.k (.one (.v (.bool) (true)))))])
 .ret)
 .skip))
 (.seq
 (.reg false [
 oX 57 (.fieldA 0 2),
 oX 58 (.load false 1 57),
 oX 59 (.bin .sub 58 (kX 1)),
 oX 60 (.fieldA 0 8),
 uX (.store 1 60 59)])
 (.seq
 (.seq
 (.reg false [
 oX 61 (.fieldA 1 8),
 oX 62 (.load false 1 61),
 oX 63 (.len 62),
 oX 64 (.mv (kX 0))])
 (.join ⟨[(8, .one (rX 8)), (4, .one (rX 4))], [(4, .box [vX, fX 500002 2]), (8, .box [vX, fX 500003 2]), (500002, .row true .froz [.int .i64, .int .i64]), (500003, .row true .froz [.int .i64, .int .i64])]⟩ [4, 8, 500000, 500001, 500002, 500003] [(true, 4, 1, 500002, .froz, []), (true, 8, 1, 500003, .froz, [])]
 (.block 0
 (.loop 0 ⟨[(4, .one (rX 4)), (6, sX), (7, sX), (8, .one (rX 8)), (62, .one (fX 500001 2)), (63, sX), (64, sX)], [(4, .box [vX, fX 500000 2]), (8, .box [vX, fX 500001 2]), (500000, .row true .froz [.int .i64, .int .i64]), (500001, .row true .froz [.int .i64, .int .i64])]⟩ [2, 4, 53000, 8, 10, 500000, 500001] [(true, 4, 1, 500000, .froz, []), (true, 8, 1, 500001, .froz, [])]
 (.seq
 (.reg false [
 oX 65 (.bin .lss 64 63)])
 (.seq
 (.cond 65
 .skip
 (.exit 0))
 (.seq
 (.block 1
 (.seq
 (.reg false [
 oX 66 (.mv 64),
 oX 67 (.idxA 2 62 64),
 oX 68 (.load true 2 67),
 oX 10 (.alloc [zX, zX]),
 oX 9 (.mv 66),
 uX (.store 2 10 68)])
 (.reg true [
 oX 69 (.fieldA 1 8),
 oX 70 (.load false 1 69),
 oX 71 (.mv 9),
 oX 72 (.fieldA 0 10),
 oX 73 (.load false 1 72),
 oX 74 (.mv 6),
 oX 75 (.mv 7),
 oX 76 (.call .froz 82 [73, 74, 75]),
 oX 77 (.fieldA 1 10),
 oX 78 (.load false 1 77),
 oX 79 (.mv 6),
 oX 80 (.mv 7),
 oX 81 (.call .froz 82 [78, 79, 80]),
 oX 82 (.build [zX, zX] [(0, 1, 76), (1, 1, 81)]),
 oX 83 (.idxA 2 70 71),
 uX (.store 2 83 82)])))
 (.reg false [
 oX 84 (.bin .add 64 (kX 1)),
 oX 64 (.mv 84)]))))))))
 (.seq
 (.reg false [
 oX 85 (.load true 2 8),
 uX (.store 2 4 85),
 oX 5 (.mv (.k (.one (.v (.bool) (true)))))])
 .ret)))))))))
def ms_spec_ContractEdge : List MRes := [.cell 4 2 true, .tmp 5]
theorem n_spec_ContractEdge (NN : Nat) (x : DLL (Sig.tys ag_spec_ContractEdge)) : runS NN [fn_spec_GraphOk, fn_spec_l01In, fn_spec_l36Delete, fn_spec_l36Node] sc_spec_ContractEdge ms_spec_ContractEdge ag_spec_ContractEdge rs_spec_ContractEdge x = G_spec_ContractEdge NN x := by kernel_rfl
theorem k_spec_ContractEdge : chkS pX 52 sc_spec_ContractEdge.er ms_spec_ContractEdge 2 = true := by decide +kernel
theorem p_spec_ContractEdge : PureSpec pX 52 fn_spec_ContractEdge.M ∧ chkFun pX 52 = true :=
  pure_of_runS (T := [fn_spec_GraphOk, fn_spec_l01In, fn_spec_l36Delete, fn_spec_l36Node]) (sc := sc_spec_ContractEdge) (ms := ms_spec_ContractEdge) (args := ag_spec_ContractEdge) (res := rs_spec_ContractEdge) (SOk.cons p_spec_GraphOk <| SOk.cons p_spec_l01In <| SOk.cons p_spec_l36Delete <| SOk.cons p_spec_l36Node <| SOk.nil) follows_ok k_spec_ContractEdge F_spec_ContractEdge fun x y h => (n_spec_ContractEdge FUEL x).trans (f_spec_ContractEdge x y h)

def fn_spec_l02Mul : SFn := ⟨47, ag_spec_l02Mul, mu_spec_l02Mul, rs_spec_l02Mul, F_spec_l02Mul⟩
def sc_spec_l02Mul : SCode :=
 (.seq
 (.reg false [
 oX 3 (.box 3 0),
 oX 6 (.mv (.k (.one (.nil iX))))])
 (.seq
 (.reg false [
 oX 12 (.mv 1),
 oX 13 (.len 12),
 oX 14 (.mkslice .froz iX 8 (0 : Int) 13 13),
 oX 7 (.mv 14)])
 (.seq
 (.seq
 (.reg false [
 oX 15 (.fieldA 0 3),
 oX 16 (.load false 1 15)])
 (.join ⟨[(7, .one (fX 500004 1))], [(500004, .row true .froz iX)]⟩ [3, 500000, 500001, 500004] [(false, 7, 0, 500004, .froz, [])]
 (.block 0
 (.seq
 (.seq
 (.reg false [
 oX 86 (.bin .eql 16 (kX 1)),
 oX 85 (.mv 86)])
 (.join ⟨[(85, .one (.c (.v (.bool)))), (16, sX), (1, .one (.c (.v (lX)))), (7, .one (fX 500000 1)), (2, .one (.c (.v (lX)))), (3, .one (rX 3))], [(3, .box [vX, vX, vX]), (500000, .row true .froz iX)]⟩ [3, 14, 500000] [(false, 7, 0, 500000, .froz, [])]
 (.cond 85
 .skip
 (.reg false [
 oX 87 (.bin .eql 16 (kX 6)),
 oX 85 (.mv 87)]))))
 (.cond 85
 (.reg true [
 oX 88 (.mv 7),
 oX 89 (.mv 1),
 oX 90 (.idxA 1 89 (kX 0)),
 oX 91 (.load false 1 90),
 oX 92 (.mv 2),
 oX 93 (.idxA 1 92 (kX 0)),
 oX 94 (.load false 1 93),
 oX 95 (.bin .and 91 94),
 oX 96 (.idxA 1 88 (kX 0)),
 uX (.store 1 96 95)])
 (.seq
 (.reg false [
 oX 98 (.bin .eql 16 (kX 2)),
 oX 97 (.mv 98)])
 (.cond 97
 (.reg true [
 oX 99 (.mv 7),
 oX 100 (.mv 1),
 oX 101 (.idxA 1 100 (kX 0)),
 oX 102 (.load false 1 101),
 oX 103 (.mv 2),
 oX 104 (.idxA 1 103 (kX 0)),
 oX 105 (.load false 1 104),
 oX 106 (.bin .mul 102 105),
 oX 107 (.fieldA 1 3),
 oX 108 (.load false 1 107),
 oX 109 (.bin .rem 106 108),
 oX 110 (.idxA 1 99 (kX 0)),
 uX (.store 1 110 109)])
 (.seq
 (.reg false [
 oX 112 (.bin .eql 16 (kX 3)),
 oX 111 (.mv 112)])
 (.cond 111
 (.reg true [
 oX 113 (.mv 7),
 oX 114 (.mv 1),
 oX 115 (.idxA 1 114 (kX 0)),
 oX 116 (.load false 1 115),
 oX 117 (.mv 2),
 oX 118 (.idxA 1 117 (kX 0)),
 oX 119 (.load false 1 118),
 oX 120 (.bin .mul 116 119),
 oX 121 (.fieldA 1 3),
 oX 122 (.load false 1 121),
 oX 123 (.mm false 120 122),
 oX 124 (.idxA 1 113 (kX 0)),
 uX (.store 1 124 123)])
 (.seq
 (.reg false [
 oX 126 (.bin .eql 16 (kX 4)),
 oX 125 (.mv 126)])
 (.cond 125
 (.reg true [
 oX 127 (.mv 7),
 oX 128 (.mv 1),
 oX 129 (.idxA 1 128 (kX 0)),
 oX 130 (.load false 1 129),
 oX 131 (.mv 2),
 oX 132 (.idxA 1 131 (kX 0)),
 oX 133 (.load false 1 132),
 oX 134 (.bin .add 130 133),
 oX 135 (.fieldA 1 3),
 oX 136 (.load false 1 135),
 oX 137 (.mm false 134 136),
 oX 138 (.idxA 1 127 (kX 0)),
 uX (.store 1 138 137)])
 (.seq
 (.reg false [
 oX 140 (.bin .eql 16 (kX 5)),
 oX 139 (.mv 140)])
 (.cond 139
 (.reg true [
 oX 141 (.mv 7),
 oX 142 (.mv 1),
 oX 143 (.idxA 1 142 (kX 0)),
 oX 144 (.load false 1 143),
 oX 145 (.mv 2),
 oX 146 (.idxA 1 145 (kX 0)),
 oX 147 (.load false 1 146),
 oX 148 (.mm false 144 147),
 oX 149 (.idxA 1 141 (kX 0)),
 uX (.store 1 149 148)])
 (.seq
 (.reg false [
 oX 17 (.mv 1),
 oX 18 (.len 17),
 oX 19 (.mv (kX 0))])
 (.block 1
 (.loop 0 ⟨[(2, .one (.c (.v (lX)))), (3, .one (rX 3)), (7, .one (fX 500001 1)), (17, .one (.c (.v (lX)))), (18, sX), (19, sX)], [(3, .box [vX, vX, vX]), (500001, .row true .froz iX)]⟩ [3, 500000, 500001, 500003] [(false, 7, 0, 500001, .froz, [])]
 (.seq
 (.reg false [
 oX 20 (.bin .lss 19 18)])
 (.seq
 (.cond 20
 .skip
 (.exit 1))
 (.seq
 (.join ⟨[(19, sX), (2, .one (.c (.v (lX)))), (3, .one (rX 3)), (7, .one (fX 500003 1)), (17, .one (.c (.v (lX)))), (18, sX)], [(3, .box [vX, vX, vX]), (500003, .row true .froz iX)]⟩ [3, 500002, 500003] [(false, 7, 0, 500003, .froz, [])]
 (.block 2
 (.seq
 (.reg false [
 oX 21 (.mv 19),
 oX 22 (.idxA 1 17 19),
 oX 23 (.load false 1 22),
 oX 8 (.mv 21),
 oX 9 (.mv 23)])
 (.seq
 (.reg false [
 oX 24 (.mv 2),
 oX 25 (.len 24),
 oX 26 (.mv (kX 0))])
 (.block 3
 (.loop 0 ⟨[(2, .one (.c (.v (lX)))), (3, .one (rX 3)), (7, .one (fX 500002 1)), (8, sX), (9, sX), (17, .one (.c (.v (lX)))), (18, sX), (19, sX), (24, .one (.c (.v (lX)))), (25, sX), (26, sX)], [(3, .box [vX, vX, vX]), (500002, .row true .froz iX)]⟩ [3, 500001, 500002] [(false, 7, 0, 500002, .froz, [])]
 (.seq
 (.reg false [
 oX 27 (.bin .lss 26 25)])
 (.seq
 (.cond 27
 .skip
 (.exit 3))
 (.seq
 (.block 4
 (.seq
 (.reg false [
 oX 28 (.mv 26),
 oX 29 (.idxA 1 24 26),
 oX 30 (.load false 1 29),
 oX 10 (.mv 28),
 oX 11 (.mv 30)])
 (.block 5
 (.seq
 (.reg false [
 oX 32 (.mv 8),
 oX 33 (.mv 10),
 oX 34 (.bin .add 32 33),
 oX 35 (.mv 7),
 oX 36 (.len 35),
 oX 37 (.bin .lss 34 36),
 oX 31 (.mv 37)])
 (.cond 31
 (.reg true [
 oX 38 (.mv 7),
 oX 39 (.mv 8),
 oX 40 (.mv 10),
 oX 41 (.bin .add 39 40),
 oX 42 (.mv 7),
 oX 43 (.mv 8),
 oX 44 (.mv 10),
 oX 45 (.bin .add 43 44),
 oX 46 (.idxA 1 42 45),
 oX 47 (.load false 1 46),
 oX 48 (.mv 9),
 oX 49 (.mv 11),
 oX 50 (.bin .mul 48 49),
 oX 51 (.bin .add 47 50),
 oX 52 (.fieldA 1 3),
 oX 53 (.load false 1 52),
 oX 54 (.bin .rem 51 53),
 oX 55 (.idxA 1 38 41),
 uX (.store 1 55 54)])
 (.seq
 (.reg false [
 oX 57 (.fieldA 0 3),
 oX 58 (.load false 1 57),
 oX 59 (.bin .eql 58 (kX 8)),
 oX 56 (.mv 59)])
 (.cond 56
 (.reg true [
 oX 60 (.mv 7),
 oX 61 (.mv 8),
 oX 62 (.mv 10),
 oX 63 (.bin .add 61 62),
 oX 64 (.bin .sub 63 (kX 4)),
 oX 65 (.mv 7),
 oX 66 (.mv 8),
 oX 67 (.mv 10),
 oX 68 (.bin .add 66 67),
 oX 69 (.bin .sub 68 (kX 4)),
 oX 70 (.idxA 1 65 69),
 oX 71 (.load false 1 70),
 oX 72 (.fieldA 1 3),
 oX 73 (.load false 1 72),
 oX 74 (.mv 9),
 oX 75 (.bin .sub 73 74),
 oX 76 (.mv 11),
 oX 77 (.bin .mul 75 76),
 oX 78 (.bin .add 71 77),
 oX 79 (.fieldA 1 3),
 oX 80 (.load false 1 79),
 oX 81 (.bin .rem 78 80),
 oX 82 (.idxA 1 60 64),
 uX (.store 1 82 81)])
 .skip)))))))
 (.reg false [
 oX 83 (.bin .add 26 (kX 1)),
 oX 26 (.mv 83)]))))))))))
 (.reg false [
 oX 84 (.bin .add 19 (kX 1)),
 oX 19 (.mv 84)]))))))))))))))))))))
 (.seq
 (.reg false [
 oX 150 (.mv 7),
 oX 6 (.mv 150)])
 .ret))))
def ms_spec_l02Mul : List MRes := [.tmp 6]
theorem n_spec_l02Mul (NN : Nat) (x : DLL (Sig.tys ag_spec_l02Mul)) : runS NN [] sc_spec_l02Mul ms_spec_l02Mul ag_spec_l02Mul rs_spec_l02Mul x = G_spec_l02Mul NN x := by kernel_rfl
theorem k_spec_l02Mul : chkS pX 47 sc_spec_l02Mul.er ms_spec_l02Mul 3 = true := by decide +kernel
theorem p_spec_l02Mul : PureSpec pX 47 fn_spec_l02Mul.M ∧ chkFun pX 47 = true :=
  pure_of_runS (T := []) (sc := sc_spec_l02Mul) (ms := ms_spec_l02Mul) (args := ag_spec_l02Mul) (res := rs_spec_l02Mul) (SOk.nil) follows_ok k_spec_l02Mul F_spec_l02Mul fun x y h => (n_spec_l02Mul FUEL x).trans (f_spec_l02Mul x y h)

def fn_spec_l02Add : SFn := ⟨32, ag_spec_l02Add, mu_spec_l02Add, rs_spec_l02Add, F_spec_l02Add⟩
def sc_spec_l02Add : SCode :=
 (.seq
 (.reg false [
 oX 3 (.box 3 0),
 oX 6 (.mv (.k (.one (.nil iX))))])
 (.seq
 (.reg false [
 oX 9 (.mv 1),
 oX 10 (.len 9),
 oX 11 (.mkslice .froz iX 8 (0 : Int) 10 10),
 oX 7 (.mv 11)])
 (.seq
 (.seq
 (.reg false [
 oX 12 (.mv 1),
 oX 13 (.len 12),
 oX 14 (.mv (kX 0))])
 (.join ⟨[(7, .one (fX 500002 1))], [(500002, .row true .froz iX)]⟩ [3, 500000, 500002] [(false, 7, 0, 500002, .froz, [])]
 (.block 0
 (.loop 0 ⟨[(1, .one (.c (.v (lX)))), (2, .one (.c (.v (lX)))), (3, .one (rX 3)), (7, .one (fX 500000 1)), (13, sX), (14, sX)], [(3, .box [vX, vX, vX]), (500000, .row true .froz iX)]⟩ [3, 11, 500000, 500001] [(false, 7, 0, 500000, .froz, [])]
 (.seq
 (.reg false [
 oX 15 (.bin .lss 14 13)])
 (.seq
 (.cond 15
 .skip
 (.exit 0))
 (.seq
 (.block 1
 (.seq
 (.reg false [
 oX 16 (.mv 14),
 oX 8 (.mv 16)])
 (.seq
 (.reg false [
 oX 17 (.fieldA 0 3),
 oX 18 (.load false 1 17)])
 (.block 2
 (.seq
 (.seq
 (.reg false [
 oX 35 (.bin .eql 18 (kX 1)),
 oX 34 (.mv 35)])
 (.join ⟨[(34, .one (.c (.v (.bool)))), (18, sX), (8, sX), (14, sX), (1, .one (.c (.v (lX)))), (2, .one (.c (.v (lX)))), (3, .one (rX 3)), (7, .one (fX 500001 1)), (13, sX)], [(3, .box [vX, vX, vX]), (500001, .row true .froz iX)]⟩ [3, 500000, 500001] [(false, 7, 0, 500001, .froz, [])]
 (.cond 34
 .skip
 (.reg false [
 oX 36 (.bin .eql 18 (kX 6)),
 oX 34 (.mv 36)]))))
 (.cond 34
 (.reg true [
 oX 37 (.mv 7),
 oX 38 (.mv 8),
 oX 39 (.mv 1),
 oX 40 (.mv 8),
 oX 41 (.idxA 1 39 40),
 oX 42 (.load false 1 41),
 oX 43 (.mv 2),
 oX 44 (.mv 8),
 oX 45 (.idxA 1 43 44),
 oX 46 (.load false 1 45),
 oX 47 (.bin .or 42 46),
 oX 48 (.idxA 1 37 38),
 uX (.store 1 48 47)])
 (.seq
 (.reg false [
 oX 50 (.bin .eql 18 (kX 3)),
 oX 49 (.mv 50)])
 (.cond 49
 (.reg true [
 oX 51 (.mv 7),
 oX 52 (.mv 8),
 oX 53 (.mv 1),
 oX 54 (.mv 8),
 oX 55 (.idxA 1 53 54),
 oX 56 (.load false 1 55),
 oX 57 (.mv 2),
 oX 58 (.mv 8),
 oX 59 (.idxA 1 57 58),
 oX 60 (.load false 1 59),
 oX 61 (.bin .add 56 60),
 oX 62 (.fieldA 1 3),
 oX 63 (.load false 1 62),
 oX 64 (.mm false 61 63),
 oX 65 (.idxA 1 51 52),
 uX (.store 1 65 64)])
 (.seq
 (.reg false [
 oX 67 (.bin .eql 18 (kX 4)),
 oX 66 (.mv 67)])
 (.cond 66
 (.reg true [
 oX 68 (.mv 7),
 oX 69 (.mv 8),
 oX 70 (.mv 1),
 oX 71 (.mv 8),
 oX 72 (.idxA 1 70 71),
 oX 73 (.load false 1 72),
 oX 74 (.mv 2),
 oX 75 (.mv 8),
 oX 76 (.idxA 1 74 75),
 oX 77 (.load false 1 76),
 oX 78 (.mm false 73 77),
 oX 79 (.idxA 1 68 69),
 uX (.store 1 79 78)])
 (.seq
 (.reg false [
 oX 81 (.bin .eql 18 (kX 5)),
 oX 80 (.mv 81)])
 (.cond 80
 (.reg true [
 oX 82 (.mv 7),
 oX 83 (.mv 8),
 oX 84 (.mv 1),
 oX 85 (.mv 8),
 oX 86 (.idxA 1 84 85),
 oX 87 (.load false 1 86),
 oX 88 (.mv 2),
 oX 89 (.mv 8),
 oX 90 (.idxA 1 88 89),
 oX 91 (.load false 1 90),
 oX 92 (.mm true 87 91),
 oX 93 (.idxA 1 82 83),
 uX (.store 1 93 92)])
 (.reg true [
 oX 19 (.mv 7),
 oX 20 (.mv 8),
 oX 21 (.mv 1),
 oX 22 (.mv 8),
 oX 23 (.idxA 1 21 22),
 oX 24 (.load false 1 23),
 oX 25 (.mv 2),
 oX 26 (.mv 8),
 oX 27 (.idxA 1 25 26),
 oX 28 (.load false 1 27),
 oX 29 (.bin .add 24 28),
 oX 30 (.fieldA 1 3),
 oX 31 (.load false 1 30),
 oX 32 (.bin .rem 29 31),
 oX 33 (.idxA 1 19 20),
 uX (.store 1 33 32)])))))))))))))
 (.reg false [
 oX 94 (.bin .add 14 (kX 1)),
 oX 14 (.mv 94)]))))))))
 (.seq
 (.reg false [
 oX 95 (.mv 7),
 oX 6 (.mv 95)])
 .ret))))
def ms_spec_l02Add : List MRes := [.tmp 6]
theorem n_spec_l02Add (NN : Nat) (x : DLL (Sig.tys ag_spec_l02Add)) : runS NN [] sc_spec_l02Add ms_spec_l02Add ag_spec_l02Add rs_spec_l02Add x = G_spec_l02Add NN x := by kernel_rfl
theorem k_spec_l02Add : chkS pX 32 sc_spec_l02Add.er ms_spec_l02Add 3 = true := by decide +kernel
theorem p_spec_l02Add : PureSpec pX 32 fn_spec_l02Add.M ∧ chkFun pX 32 = true :=
  pure_of_runS (T := []) (sc := sc_spec_l02Add) (ms := ms_spec_l02Add) (args := ag_spec_l02Add) (res := rs_spec_l02Add) (SOk.nil) follows_ok k_spec_l02Add F_spec_l02Add fun x y h => (n_spec_l02Add FUEL x).trans (f_spec_l02Add x y h)

def fnr_spec_SpinByEdges (k : Nat) : SFn := ⟨20, ag_spec_SpinByEdges, mu_spec_SpinByEdges, rs_spec_SpinByEdges, Fr_spec_SpinByEdges k⟩
def fn_spec_SpinByEdges : SFn := ⟨20, ag_spec_SpinByEdges, mu_spec_SpinByEdges, rs_spec_SpinByEdges, F_spec_SpinByEdges⟩
def sc_spec_SpinByEdges : SCode :=
 (.seq
 (.reg false [
 oX 4 (.box 3 0),
 oX 5 (.box 2 1),
 oX 8 (.mv (.k (.one (.nil iX))))])
 (.seq
 (.seq
 (.reg false [
 oX 12 (.load true 3 4),
 oX 13 (.load true 2 5),
 oX 14 (.mv 2),
 oX 15 (.mv 3),
 oX 16 (.call .froz 43 [12, 13, 14, 15]),
 oX 17 (.un .not 16)])
 (.cond 17
 (.seq
 (.reg false [
 oX 8 (.mv (.k (.one (.nil iX))))])
 .ret)
 .skip))
 (.seq
 (.reg false [
 oX 18 (.fieldA 1 5),
 oX 19 (.load false 1 18),
 oX 20 (.len 19),
 oX 21 (.bin .sub 20 (kX 1)),
 oX 9 (.mv 21)])
 (.seq
 (.seq
 (.reg false [
 oX 22 (.mv 9),
 oX 23 (.bin .lss 22 (kX 0))])
 (.cond 23
 (.seq
 (.reg true [
 oX 24 (.load true 3 4),
 oX 25 (.mv 2),
 oX 26 (.fieldA 0 5),
 oX 27 (.load false 1 26),
 oX 28 (.call .froz 45 [25, 27]),
 oX 29 (.call .froz 44 [24, 28]),
 oX 8 (.mv 29)])
 .ret)
 .skip))
 (.seq
 (.reg false [
 oX 31 (.load true 2 5),
 oX 32 (.mv 9),
 oX 33 (.call .froz 52 [31, 32]),
 oX 30 (.mv 33),
 oX 34 (.ext 0 30),
 oX 35 (.ext 1 30),
 oX 10 (.alloc [zX, .nil [.int .i64, .int .i64]]),
 uX (.store 2 10 34),
 oX 11 (.mv 35)])
 (.seq
 (.reg true [
 oX 36 (.load true 3 4),
 oX 37 (.load true 3 4),
 oX 38 (.load true 2 5),
 oX 39 (.mv 9),
 oX 40 (.call .froz 53 [38, 39]),
 oX 41 (.mv 2),
 oX 42 (.mv 3),
 oX 43 (.call .froz 20 [37, 40, 41, 42]),
 oX 44 (.load true 3 4),
 oX 45 (.mv 3),
 oX 46 (.load true 3 4),
 oX 47 (.load true 2 10),
 oX 48 (.mv 2),
 oX 49 (.mv 3),
 oX 50 (.call .froz 20 [46, 47, 48, 49]),
 oX 51 (.call .froz 47 [44, 45, 50]),
 oX 52 (.call .froz 32 [36, 43, 51]),
 oX 8 (.mv 52)])
 .ret))))))
def ms_spec_SpinByEdges : List MRes := [.tmp 8]
theorem n_spec_SpinByEdges (k NN : Nat) (x : DLL (Sig.tys ag_spec_SpinByEdges)) : runS NN [fn_spec_l36Fits, fn_spec_l36Power, fn_spec_CountElem, fn_spec_ContractEdge, fn_spec_l36Delete, fnr_spec_SpinByEdges k, fn_spec_l02Mul, fn_spec_l02Add] sc_spec_SpinByEdges ms_spec_SpinByEdges ag_spec_SpinByEdges rs_spec_SpinByEdges x = G_spec_SpinByEdges k NN x := by kernel_rfl
theorem k_spec_SpinByEdges : chkS pX 20 sc_spec_SpinByEdges.er ms_spec_SpinByEdges 4 = true := by decide +kernel
theorem pr_spec_SpinByEdges (k : Nat) : PureSpec pX 20 (fnr_spec_SpinByEdges k).M ∧ chkFun pX 20 = true := by
  induction k with
  | zero => exact ⟨fun ds rs h => by obtain ⟨x, y, _, h2, _⟩ := SFn.M_some h; exact absurd h2 (fz_spec_SpinByEdges x y), chkS_fun k_spec_SpinByEdges⟩
  | succ k ih => exact pure_of_runS (T := [fn_spec_l36Fits, fn_spec_l36Power, fn_spec_CountElem, fn_spec_ContractEdge, fn_spec_l36Delete, fnr_spec_SpinByEdges k, fn_spec_l02Mul, fn_spec_l02Add]) (sc := sc_spec_SpinByEdges) (ms := ms_spec_SpinByEdges) (args := ag_spec_SpinByEdges) (res := rs_spec_SpinByEdges) (SOk.cons p_spec_l36Fits <| SOk.cons p_spec_l36Power <| SOk.cons p_spec_CountElem <| SOk.cons p_spec_ContractEdge <| SOk.cons p_spec_l36Delete <| SOk.cons ih <| SOk.cons p_spec_l02Mul <| SOk.cons p_spec_l02Add <| SOk.nil) follows_ok k_spec_SpinByEdges (Fr_spec_SpinByEdges (k + 1)) fun x y h => (n_spec_SpinByEdges k FUEL x).trans (f_spec_SpinByEdges k x y h)
theorem p_spec_SpinByEdges : PureSpec pX 20 fn_spec_SpinByEdges.M ∧ chkFun pX 20 = true := pr_spec_SpinByEdges 12

def fn_impl_IsPrime : SFn := ⟨100, ag_impl_IsPrime, mu_impl_IsPrime, rs_impl_IsPrime, F_impl_IsPrime⟩
def sc_impl_IsPrime : SCode :=
 (.seq
 (.reg false [
 oX 2 (.mv (.k (.one (.v (.bool) (false)))))])
 (.seq
 (.seq
 (.reg false [
 oX 4 (.mv 0),
 oX 5 (.bin .lss 4 (kX 2)),
 oX 6 (.mv 5),
 ⟨(some 7), .mv 0, (some (6, false))⟩,
 ⟨(some 8), .bin .gtr 7 (kX 1000003), (some (6, false))⟩,
 oX 9 (.pick 6 (.k (.one (.v (.bool) (true)))) 8)])
 (.cond 9
 (.seq
 (.reg false [
 oX 2 (.mv (.k (.one (.v (.bool) (false)))))])
 .ret)
 .skip))
 (.seq
 (.seq
 (.reg false [
 oX 3 (.mv (kX 2))])
 (.join ⟨[], []⟩ [] []
 (.block 0
 (.loop 0 ⟨[(0, sX), (3, sX)], []⟩ [] []
 (.seq
 (.seq
 (.reg false [
 oX 10 (.mv 3),
 oX 11 (.mv 3),
 oX 12 (.bin .mul 10 11),
 oX 13 (.mv 0),
 oX 14 (.bin .leq 12 13)])
 (.cond 14
 .skip
 (.exit 0)))
 (.seq
 (.block 1
 (.seq
 (.reg false [
 oX 17 (.mv 0),
 oX 18 (.mv 3),
 oX 19 (.bin .rem 17 18),
 oX 20 (.bin .eql 19 (kX 0))])
 (.cond 20
 (.seq
 (.reg false [
 oX 2 (.mv (.k (.one (.v (.bool) (false)))))])
 .ret)
 .skip)))
 (.reg false [
 oX 15 (.mv 3),
 oX 16 (.bin .add 15 (kX 1)),
 oX 3 (.mv 16)])))))))
 (.seq
 (.reg false [
 oX 2 (.mv (.k (.one (.v (.bool) (true)))))])
 .ret))))
def ms_impl_IsPrime : List MRes := [.tmp 2]
theorem n_impl_IsPrime (NN : Nat) (x : DLL (Sig.tys ag_impl_IsPrime)) : runS NN [] sc_impl_IsPrime ms_impl_IsPrime ag_impl_IsPrime rs_impl_IsPrime x = G_impl_IsPrime NN x := by kernel_rfl
theorem k_impl_IsPrime : chkS pX 100 sc_impl_IsPrime.er ms_impl_IsPrime 1 = true := by decide +kernel
theorem p_impl_IsPrime : PureSpec pX 100 fn_impl_IsPrime.M ∧ chkFun pX 100 = true :=
  pure_of_runS (T := []) (sc := sc_impl_IsPrime) (ms := ms_impl_IsPrime) (args := ag_impl_IsPrime) (res := rs_impl_IsPrime) (SOk.nil) follows_ok k_impl_IsPrime F_impl_IsPrime fun x y h => (n_impl_IsPrime FUEL x).trans (f_impl_IsPrime x y h)

def fn_impl_RingOk : SFn := ⟨75, ag_impl_RingOk, mu_impl_RingOk, rs_impl_RingOk, F_impl_RingOk⟩
def sc_impl_RingOk : SCode :=
 (.seq
 (.reg false [
 oX 1 (.box 3 0),
 oX 2 (.mv (.k (.one (.v (.bool) (false)))))])
 (.seq
 (.seq
 (.reg false [
 oX 3 (.fieldA 0 1),
 oX 4 (.load false 1 3)])
 (.block 0
 (.seq
 (.reg false [
 oX 6 (.bin .eql 4 (kX 1)),
 oX 5 (.mv 6)])
 (.cond 5
 (.seq
 (.reg false [
 oX 7 (.fieldA 1 1),
 oX 8 (.load false 1 7),
 oX 9 (.bin .eql 8 (kX 0)),
 oX 10 (.mv 9),
 ⟨(some 11), .fieldA 2 1, (some (10, true))⟩,
 ⟨(some 12), .load false 1 11, (some (10, true))⟩,
 ⟨(some 13), .bin .eql 12 (kX 0), (some (10, true))⟩,
 oX 14 (.pick 10 13 (.k (.one (.v (.bool) (false))))),
 oX 2 (.mv 14)])
 .ret)
 (.seq
 (.reg false [
 oX 16 (.bin .eql 4 (kX 2)),
 oX 15 (.mv 16)])
 (.cond 15
 (.seq
 (.reg false [
 oX 17 (.fieldA 1 1),
 oX 18 (.load false 1 17),
 oX 19 (.call .froz 100 [18]),
 oX 20 (.mv 19),
 ⟨(some 21), .fieldA 2 1, (some (20, true))⟩,
 ⟨(some 22), .load false 1 21, (some (20, true))⟩,
 ⟨(some 23), .bin .eql 22 (kX 0), (some (20, true))⟩,
 oX 24 (.pick 20 23 (.k (.one (.v (.bool) (false))))),
 oX 2 (.mv 24)])
 .ret)
 (.seq
 (.seq
 (.reg false [
 oX 26 (.bin .eql 4 (kX 3)),
 oX 25 (.mv 26)])
 (.join ⟨[(25, .one (.c (.v (.bool)))), (4, sX), (1, .one (rX 1))], [(1, .box [vX, vX, vX])]⟩ [1] []
 (.cond 25
 .skip
 (.seq
 (.reg false [
 oX 27 (.bin .eql 4 (kX 4)),
 oX 25 (.mv 27)])
 (.cond 25
 .skip
 (.reg false [
 oX 28 (.bin .eql 4 (kX 5)),
 oX 25 (.mv 28)]))))))
 (.cond 25
 (.seq
 (.reg false [
 oX 29 (.fieldA 1 1),
 oX 30 (.load false 1 29),
 oX 31 (.bin .geq 30 (kX 1)),
 oX 32 (.mv 31),
 ⟨(some 33), .fieldA 1 1, (some (32, true))⟩,
 ⟨(some 34), .load false 1 33, (some (32, true))⟩,
 ⟨(some 35), .bin .leq 34 (kX 1000000), (some (32, true))⟩,
 oX 36 (.pick 32 35 (.k (.one (.v (.bool) (false))))),
 oX 37 (.mv 36),
 ⟨(some 38), .fieldA 2 1, (some (37, true))⟩,
 ⟨(some 39), .load false 1 38, (some (37, true))⟩,
 ⟨(some 40), .bin .eql 39 (kX 0), (some (37, true))⟩,
 oX 41 (.pick 37 40 (.k (.one (.v (.bool) (false))))),
 oX 2 (.mv 41)])
 .ret)
 (.seq
 (.reg false [
 oX 43 (.bin .eql 4 (kX 6)),
 oX 42 (.mv 43)])
 (.cond 42
 (.seq
 (.reg false [
 oX 44 (.fieldA 1 1),
 oX 45 (.load false 1 44),
 oX 46 (.bin .eql 45 (kX 0)),
 oX 47 (.mv 46),
 ⟨(some 48), .fieldA 2 1, (some (47, true))⟩,
 ⟨(some 49), .load false 1 48, (some (47, true))⟩,
 ⟨(some 50), .bin .geq 49 (kX 1), (some (47, true))⟩,
 oX 51 (.pick 47 50 (.k (.one (.v (.bool) (false))))),
 oX 52 (.mv 51),
 ⟨(some 53), .fieldA 2 1, (some (52, true))⟩,
 ⟨(some 54), .load false 1 53, (some (52, true))⟩,
 ⟨(some 55), .bin .leq 54 (kX 20), (some (52, true))⟩,
 oX 56 (.pick 52 55 (.k (.one (.v (.bool) (false))))),
 oX 2 (.mv 56)])
 .ret)
 (.seq
 (.reg false [
 oX 58 (.bin .eql 4 (kX 7)),
 oX 57 (.mv 58)])
 (.cond 57
 (.seq
 (.reg false [
 oX 59 (.fieldA 1 1),
 oX 60 (.load false 1 59),
 oX 61 (.call .froz 100 [60]),
 oX 62 (.mv 61),
 ⟨(some 63), .fieldA 2 1, (some (62, true))⟩,
 ⟨(some 64), .load false 1 63, (some (62, true))⟩,
 ⟨(some 65), .bin .geq 64 (kX 1), (some (62, true))⟩,
 oX 66 (.pick 62 65 (.k (.one (.v (.bool) (false))))),
 oX 67 (.mv 66),
 ⟨(some 68), .fieldA 2 1, (some (67, true))⟩,
 ⟨(some 69), .load false 1 68, (some (67, true))⟩,
 ⟨(some 70), .bin .leq 69 (kX 6), (some (67, true))⟩,
 oX 71 (.pick 67 70 (.k (.one (.v (.bool) (false))))),
 oX 2 (.mv 71)])
 .ret)
 (.seq
 (.reg false [
 oX 73 (.bin .eql 4 (kX 8)),
 oX 72 (.mv 73)])
 (.cond 72
 (.seq
 (.reg false [
 oX 74 (.fieldA 1 1),
 oX 75 (.load false 1 74),
 oX 76 (.call .froz 100 [75]),
 oX 77 (.mv 76),
 ⟨(some 78), .fieldA 1 1, (some (77, true))⟩,
 ⟨(some 79), .load false 1 78, (some (77, true))⟩,
 ⟨(some 80), .bin .neq 79 (kX 2), (some (77, true))⟩,
 oX 81 (.pick 77 80 (.k (.one (.v (.bool) (false))))),
 oX 82 (.mv 81),
 ⟨(some 83), .fieldA 2 1, (some (82, true))⟩,
 ⟨(some 84), .load false 1 83, (some (82, true))⟩,
 ⟨(some 85), .bin .eql 84 (kX 0), (some (82, true))⟩,
 oX 86 (.pick 82 85 (.k (.one (.v (.bool) (false))))),
 oX 2 (.mv 86)])
 .ret)
 .skip))))))))))))))
 (.seq
 (.reg false [
 oX 2 (.mv (.k (.one (.v (.bool) (false)))))])
 .ret)))
def ms_impl_RingOk : List MRes := [.tmp 2]
theorem n_impl_RingOk (NN : Nat) (x : DLL (Sig.tys ag_impl_RingOk)) : runS NN [fn_impl_IsPrime] sc_impl_RingOk ms_impl_RingOk ag_impl_RingOk rs_impl_RingOk x = G_impl_RingOk NN x := by kernel_rfl
theorem k_impl_RingOk : chkS pX 75 sc_impl_RingOk.er ms_impl_RingOk 1 = true := by decide +kernel
theorem p_impl_RingOk : PureSpec pX 75 fn_impl_RingOk.M ∧ chkFun pX 75 = true :=
  pure_of_runS (T := [fn_impl_IsPrime]) (sc := sc_impl_RingOk) (ms := ms_impl_RingOk) (args := ag_impl_RingOk) (res := rs_impl_RingOk) (SOk.cons p_impl_IsPrime <| SOk.nil) follows_ok k_impl_RingOk F_impl_RingOk fun x y h => (n_impl_RingOk FUEL x).trans (f_impl_RingOk x y h)

def fn_impl_GraphOk : SFn := ⟨76, ag_impl_GraphOk, mu_impl_GraphOk, rs_impl_GraphOk, F_impl_GraphOk⟩
def sc_impl_GraphOk : SCode :=
 (.seq
 (.reg false [
 oX 1 (.box 2 0),
 oX 2 (.mv (.k (.one (.v (.bool) (false)))))])
 (.seq
 (.seq
 (.reg false [
 oX 5 (.fieldA 0 1),
 oX 6 (.load false 1 5),
 oX 7 (.bin .lss 6 (kX 0)),
 oX 8 (.mv 7),
 ⟨(some 9), .fieldA 0 1, (some (8, false))⟩,
 ⟨(some 10), .load false 1 9, (some (8, false))⟩,
 ⟨(some 11), .bin .gtr 10 (kX 10), (some (8, false))⟩,
 oX 12 (.pick 8 (.k (.one (.v (.bool) (true)))) 11),
 oX 13 (.mv 12),
 ⟨(some 14), .fieldA 1 1, (some (13, false))⟩,
 ⟨(some 15), .load false 1 14, (some (13, false))⟩,
 ⟨(some 16), .len 15, (some (13, false))⟩,
 ⟨(some 17), .bin .gtr 16 (kX 10), (some (13, false))⟩,
 oX 18 (.pick 13 (.k (.one (.v (.bool) (true)))) 17)])
 (.cond 18
 (.seq
 (.reg false [
 oX 2 (.mv (.k (.one (.v (.bool) (false)))))])
 .ret)
 .skip))
 (.seq
 (.seq
 (.reg false [
 oX 19 (.fieldA 1 1),
 oX 20 (.load false 1 19),
 oX 21 (.len 20),
 oX 22 (.mv (kX 0))])
 (.join ⟨[], []⟩ [1] []
 (.block 0
 (.loop 0 ⟨[(1, .one (rX 1)), (20, .one (.c (.v (.list [.int .i64, .int .i64])))), (21, sX), (22, sX)], [(1, .box [vX, .c (.v (.list [.int .i64, .int .i64]))])]⟩ [1, 4] []
 (.seq
 (.reg false [
 oX 23 (.bin .lss 22 21)])
 (.seq
 (.cond 23
 .skip
 (.exit 0))
 (.seq
 (.block 1
 (.seq
 (.reg false [
 oX 24 (.idxA 2 20 22),
 oX 25 (.load true 2 24),
 oX 4 (.alloc [zX, zX]),
 uX (.store 2 4 25)])
 (.seq
 (.reg false [
 oX 26 (.fieldA 0 4),
 oX 27 (.load false 1 26),
 oX 28 (.bin .lss 27 (kX 0)),
 oX 29 (.mv 28),
 ⟨(some 30), .fieldA 1 4, (some (29, false))⟩,
 ⟨(some 31), .load false 1 30, (some (29, false))⟩,
 ⟨(some 32), .bin .lss 31 (kX 0), (some (29, false))⟩,
 oX 33 (.pick 29 (.k (.one (.v (.bool) (true)))) 32),
 oX 34 (.mv 33),
 ⟨(some 35), .fieldA 0 4, (some (34, false))⟩,
 ⟨(some 36), .load false 1 35, (some (34, false))⟩,
 ⟨(some 37), .fieldA 0 1, (some (34, false))⟩,
 ⟨(some 38), .load false 1 37, (some (34, false))⟩,
 ⟨(some 39), .bin .geq 36 38, (some (34, false))⟩,
 oX 40 (.pick 34 (.k (.one (.v (.bool) (true)))) 39),
 oX 41 (.mv 40),
 ⟨(some 42), .fieldA 1 4, (some (41, false))⟩,
 ⟨(some 43), .load false 1 42, (some (41, false))⟩,
 ⟨(some 44), .fieldA 0 1, (some (41, false))⟩,
 ⟨(some 45), .load false 1 44, (some (41, false))⟩,
 ⟨(some 46), .bin .geq 43 45, (some (41, false))⟩,
 oX 47 (.pick 41 (.k (.one (.v (.bool) (true)))) 46)])
 (.cond 47
 (.seq
 (.reg false [
 oX 2 (.mv (.k (.one (.v (.bool) (false)))))])
 .ret)
 .skip))))
 (.reg false [
 oX 48 (.bin .add 22 (kX 1)),
 oX 22 (.mv 48)]))))))))
 (.seq
 (.reg false [
 oX 2 (.mv (.k (.one (.v (.bool) (true)))))])
 .ret))))
def ms_impl_GraphOk : List MRes := [.tmp 2]
theorem n_impl_GraphOk (NN : Nat) (x : DLL (Sig.tys ag_impl_GraphOk)) : runS NN [] sc_impl_GraphOk ms_impl_GraphOk ag_impl_GraphOk rs_impl_GraphOk x = G_impl_GraphOk NN x := by kernel_rfl
theorem k_impl_GraphOk : chkS pX 76 sc_impl_GraphOk.er ms_impl_GraphOk 1 = true := by decide +kernel
theorem p_impl_GraphOk : PureSpec pX 76 fn_impl_GraphOk.M ∧ chkFun pX 76 = true :=
  pure_of_runS (T := []) (sc := sc_impl_GraphOk) (ms := ms_impl_GraphOk) (args := ag_impl_GraphOk) (res := rs_impl_GraphOk) (SOk.nil) follows_ok k_impl_GraphOk F_impl_GraphOk fun x y h => (n_impl_GraphOk FUEL x).trans (f_impl_GraphOk x y h)

def fn_impl_rawWidth : SFn := ⟨78, ag_impl_rawWidth, mu_impl_rawWidth, rs_impl_rawWidth, F_impl_rawWidth⟩
def sc_impl_rawWidth : SCode :=
 (.seq
 (.reg false [
 oX 1 (.box 3 0),
 oX 2 (.mv (kX 0))])
 (.seq
 (.seq
 (.reg false [
 oX 3 (.fieldA 0 1),
 oX 4 (.load false 1 3)])
 (.block 0
 (.seq
 (.reg false [
 oX 6 (.bin .eql 4 (kX 7)),
 oX 5 (.mv 6)])
 (.cond 5
 (.seq
 (.reg false [
 oX 7 (.fieldA 2 1),
 oX 8 (.load false 1 7),
 oX 2 (.mv 8)])
 .ret)
 (.seq
 (.reg false [
 oX 10 (.bin .eql 4 (kX 8)),
 oX 9 (.mv 10)])
 (.cond 9
 (.seq
 (.reg false [
 oX 2 (.mv (kX 4))])
 .ret)
 .skip))))))
 (.seq
 (.reg false [
 oX 2 (.mv (kX 1))])
 .ret)))
def ms_impl_rawWidth : List MRes := [.tmp 2]
theorem n_impl_rawWidth (NN : Nat) (x : DLL (Sig.tys ag_impl_rawWidth)) : runS NN [] sc_impl_rawWidth ms_impl_rawWidth ag_impl_rawWidth rs_impl_rawWidth x = G_impl_rawWidth NN x := by kernel_rfl
theorem k_impl_rawWidth : chkS pX 78 sc_impl_rawWidth.er ms_impl_rawWidth 1 = true := by decide +kernel
theorem p_impl_rawWidth : PureSpec pX 78 fn_impl_rawWidth.M ∧ chkFun pX 78 = true :=
  pure_of_runS (T := []) (sc := sc_impl_rawWidth) (ms := ms_impl_rawWidth) (args := ag_impl_rawWidth) (res := rs_impl_rawWidth) (SOk.nil) follows_ok k_impl_rawWidth F_impl_rawWidth fun x y h => (n_impl_rawWidth FUEL x).trans (f_impl_rawWidth x y h)

def fn_impl_rawTop : SFn := ⟨92, ag_impl_rawTop, mu_impl_rawTop, rs_impl_rawTop, F_impl_rawTop⟩
def sc_impl_rawTop : SCode :=
 (.seq
 (.reg false [
 oX 1 (.box 3 0),
 oX 2 (.mv (kX 0))])
 (.seq
 (.seq
 (.reg false [
 oX 3 (.fieldA 0 1),
 oX 4 (.load false 1 3)])
 (.block 0
 (.seq
 (.reg false [
 oX 6 (.bin .eql 4 (kX 1)),
 oX 5 (.mv 6)])
 (.cond 5
 (.seq
 (.reg false [
 oX 2 (.mv (kX 1))])
 .ret)
 (.seq
 (.seq
 (.reg false [
 oX 8 (.bin .eql 4 (kX 3)),
 oX 7 (.mv 8)])
 (.join ⟨[(7, .one (.c (.v (.bool)))), (4, sX), (1, .one (rX 1))], [(1, .box [vX, vX, vX])]⟩ [1] []
 (.cond 7
 .skip
 (.seq
 (.reg false [
 oX 9 (.bin .eql 4 (kX 4)),
 oX 7 (.mv 9)])
 (.cond 7
 .skip
 (.reg false [
 oX 10 (.bin .eql 4 (kX 5)),
 oX 7 (.mv 10)]))))))
 (.cond 7
 (.seq
 (.reg false [
 oX 11 (.fieldA 1 1),
 oX 12 (.load false 1 11),
 oX 2 (.mv 12)])
 .ret)
 (.seq
 (.reg false [
 oX 14 (.bin .eql 4 (kX 6)),
 oX 13 (.mv 14)])
 (.cond 13
 (.seq
 (.reg false [
 oX 15 (.fieldA 2 1),
 oX 16 (.load false 1 15),
 oX 17 (.bin .shl (kX 1) 16),
 oX 18 (.bin .sub 17 (kX 1)),
 oX 2 (.mv 18)])
 .ret)
 .skip))))))))
 (.seq
 (.reg false [
 oX 19 (.fieldA 1 1),
 oX 20 (.load false 1 19),
 oX 21 (.bin .sub 20 (kX 1)),
 oX 2 (.mv 21)])
 .ret)))
def ms_impl_rawTop : List MRes := [.tmp 2]
theorem n_impl_rawTop (NN : Nat) (x : DLL (Sig.tys ag_impl_rawTop)) : runS NN [] sc_impl_rawTop ms_impl_rawTop ag_impl_rawTop rs_impl_rawTop x = G_impl_rawTop NN x := by kernel_rfl
theorem k_impl_rawTop : chkS pX 92 sc_impl_rawTop.er ms_impl_rawTop 1 = true := by decide +kernel
theorem p_impl_rawTop : PureSpec pX 92 fn_impl_rawTop.M ∧ chkFun pX 92 = true :=
  pure_of_runS (T := []) (sc := sc_impl_rawTop) (ms := ms_impl_rawTop) (args := ag_impl_rawTop) (res := rs_impl_rawTop) (SOk.nil) follows_ok k_impl_rawTop F_impl_rawTop fun x y h => (n_impl_rawTop FUEL x).trans (f_impl_rawTop x y h)

def fn_impl_inRing : SFn := ⟨101, ag_impl_inRing, mu_impl_inRing, rs_impl_inRing, F_impl_inRing⟩
def sc_impl_inRing : SCode :=
 (.seq
 (.reg false [
 oX 2 (.box 3 0),
 oX 4 (.mv (.k (.one (.v (.bool) (false)))))])
 (.seq
 (.reg false [
 oX 8 (.load true 3 2),
 oX 9 (.call .froz 92 [8]),
 oX 5 (.mv 9)])
 (.seq
 (.seq
 (.reg false [
 oX 10 (.mv 1),
 oX 11 (.len 10),
 oX 12 (.mv (kX 0))])
 (.join ⟨[], []⟩ [] []
 (.block 0
 (.loop 0 ⟨[(5, sX), (10, .one (.c (.v (lX)))), (11, sX), (12, sX)], []⟩ [2] []
 (.seq
 (.reg false [
 oX 13 (.bin .lss 12 11)])
 (.seq
 (.cond 13
 .skip
 (.exit 0))
 (.seq
 (.block 1
 (.seq
 (.reg false [
 oX 14 (.idxA 1 10 12),
 oX 15 (.load false 1 14),
 oX 7 (.mv 15)])
 (.seq
 (.reg false [
 oX 16 (.mv 7),
 oX 17 (.bin .lss 16 (kX 0)),
 oX 18 (.mv 17),
 ⟨(some 19), .mv 7, (some (18, false))⟩,
 ⟨(some 20), .mv 5, (some (18, false))⟩,
 ⟨(some 21), .bin .gtr 19 20, (some (18, false))⟩,
 oX 22 (.pick 18 (.k (.one (.v (.bool) (true)))) 21)])
 (.cond 22
 (.seq
 (.reg false [
 oX 4 (.mv (.k (.one (.v (.bool) (false)))))])
 .ret)
 .skip))))
 (.reg false [
 oX 23 (.bin .add 12 (kX 1)),
 oX 12 (.mv 23)]))))))))
 (.seq
 (.reg false [
 oX 4 (.mv (.k (.one (.v (.bool) (true)))))])
 .ret))))
def ms_impl_inRing : List MRes := [.tmp 4]
theorem n_impl_inRing (NN : Nat) (x : DLL (Sig.tys ag_impl_inRing)) : runS NN [fn_impl_rawTop] sc_impl_inRing ms_impl_inRing ag_impl_inRing rs_impl_inRing x = G_impl_inRing NN x := by kernel_rfl
theorem k_impl_inRing : chkS pX 101 sc_impl_inRing.er ms_impl_inRing 2 = true := by decide +kernel
theorem p_impl_inRing : PureSpec pX 101 fn_impl_inRing.M ∧ chkFun pX 101 = true :=
  pure_of_runS (T := [fn_impl_rawTop]) (sc := sc_impl_inRing) (ms := ms_impl_inRing) (args := ag_impl_inRing) (res := rs_impl_inRing) (SOk.cons p_impl_rawTop <| SOk.nil) follows_ok k_impl_inRing F_impl_inRing fun x y h => (n_impl_inRing FUEL x).trans (f_impl_inRing x y h)

def fn_impl_ElemOk : SFn := ⟨77, ag_impl_ElemOk, mu_impl_ElemOk, rs_impl_ElemOk, F_impl_ElemOk⟩
def sc_impl_ElemOk : SCode :=
 (.seq
 (.reg false [
 oX 2 (.box 3 0),
 oX 4 (.mv (.k (.one (.v (.bool) (false)))))])
 (.seq
 (.reg false [
 oX 5 (.load true 3 2),
 oX 6 (.call .froz 75 [5]),
 oX 7 (.mv 6),
 ⟨(some 8), .mv 1, (some (7, true))⟩,
 ⟨(some 9), .len 8, (some (7, true))⟩,
 ⟨(some 10), .load true 3 2, (some (7, true))⟩,
 ⟨(some 11), .call .froz 78 [10], (some (7, true))⟩,
 ⟨(some 12), .bin .eql 9 11, (some (7, true))⟩,
 oX 13 (.pick 7 12 (.k (.one (.v (.bool) (false))))),
 oX 14 (.mv 13),
 ⟨(some 15), .load true 3 2, (some (14, true))⟩,
 ⟨(some 16), .mv 1, (some (14, true))⟩,
 ⟨(some 17), .call .froz 101 [15, 16], (some (14, true))⟩,
 oX 18 (.pick 14 17 (.k (.one (.v (.bool) (false))))),
 oX 4 (.mv 18)])
 .ret))
def ms_impl_ElemOk : List MRes := [.tmp 4]
theorem n_impl_ElemOk (NN : Nat) (x : DLL (Sig.tys ag_impl_ElemOk)) : runS NN [fn_impl_RingOk, fn_impl_rawWidth, fn_impl_inRing] sc_impl_ElemOk ms_impl_ElemOk ag_impl_ElemOk rs_impl_ElemOk x = G_impl_ElemOk NN x := by kernel_rfl
theorem k_impl_ElemOk : chkS pX 77 sc_impl_ElemOk.er ms_impl_ElemOk 2 = true := by decide +kernel
theorem p_impl_ElemOk : PureSpec pX 77 fn_impl_ElemOk.M ∧ chkFun pX 77 = true :=
  pure_of_runS (T := [fn_impl_RingOk, fn_impl_rawWidth, fn_impl_inRing]) (sc := sc_impl_ElemOk) (ms := ms_impl_ElemOk) (args := ag_impl_ElemOk) (res := rs_impl_ElemOk) (SOk.cons p_impl_RingOk <| SOk.cons p_impl_rawWidth <| SOk.cons p_impl_inRing <| SOk.nil) follows_ok k_impl_ElemOk F_impl_ElemOk fun x y h => (n_impl_ElemOk FUEL x).trans (f_impl_ElemOk x y h)

def fn_impl_spinArgumentsOk : SFn := ⟨48, ag_impl_spinArgumentsOk, mu_impl_spinArgumentsOk, rs_impl_spinArgumentsOk, F_impl_spinArgumentsOk⟩
def sc_impl_spinArgumentsOk : SCode :=
 (.seq
 (.reg false [
 oX 4 (.box 3 0),
 oX 5 (.box 2 1),
 oX 8 (.mv (.k (.one (.v (.bool) (false)))))])
 (.seq
 (.reg false [
 oX 9 (.load true 3 4),
 oX 10 (.call .froz 75 [9]),
 oX 11 (.mv 10),
 ⟨(some 12), .load true 2 5, (some (11, true))⟩,
 ⟨(some 13), .call .froz 76 [12], (some (11, true))⟩,
 oX 14 (.pick 11 13 (.k (.one (.v (.bool) (false))))),
 oX 15 (.mv 14),
 ⟨(some 16), .load true 3 4, (some (15, true))⟩,
 ⟨(some 17), .mv 3, (some (15, true))⟩,
 ⟨(some 18), .call .froz 77 [16, 17], (some (15, true))⟩,
 oX 19 (.pick 15 18 (.k (.one (.v (.bool) (false))))),
 oX 20 (.mv 19),
 ⟨(some 21), .mv 2, (some (20, true))⟩,
 ⟨(some 22), .bin .geq 21 (kX 1), (some (20, true))⟩,
 oX 23 (.pick 20 22 (.k (.one (.v (.bool) (false))))),
 oX 24 (.mv 23),
 ⟨(some 25), .mv 2, (some (24, true))⟩,
 ⟨(some 26), .bin .leq 25 (kX 4), (some (24, true))⟩,
 oX 27 (.pick 24 26 (.k (.one (.v (.bool) (false))))),
 oX 8 (.mv 27)])
 .ret))
def ms_impl_spinArgumentsOk : List MRes := [.tmp 8]
theorem n_impl_spinArgumentsOk (NN : Nat) (x : DLL (Sig.tys ag_impl_spinArgumentsOk)) : runS NN [fn_impl_RingOk, fn_impl_GraphOk, fn_impl_ElemOk] sc_impl_spinArgumentsOk ms_impl_spinArgumentsOk ag_impl_spinArgumentsOk rs_impl_spinArgumentsOk x = G_impl_spinArgumentsOk NN x := by kernel_rfl
theorem k_impl_spinArgumentsOk : chkS pX 48 sc_impl_spinArgumentsOk.er ms_impl_spinArgumentsOk 4 = true := by decide +kernel
theorem p_impl_spinArgumentsOk : PureSpec pX 48 fn_impl_spinArgumentsOk.M ∧ chkFun pX 48 = true :=
  pure_of_runS (T := [fn_impl_RingOk, fn_impl_GraphOk, fn_impl_ElemOk]) (sc := sc_impl_spinArgumentsOk) (ms := ms_impl_spinArgumentsOk) (args := ag_impl_spinArgumentsOk) (res := rs_impl_spinArgumentsOk) (SOk.cons p_impl_RingOk <| SOk.cons p_impl_GraphOk <| SOk.cons p_impl_ElemOk <| SOk.nil) follows_ok k_impl_spinArgumentsOk F_impl_spinArgumentsOk fun x y h => (n_impl_spinArgumentsOk FUEL x).trans (f_impl_spinArgumentsOk x y h)

def fn_impl_rawZero : SFn := ⟨36, ag_impl_rawZero, mu_impl_rawZero, rs_impl_rawZero, F_impl_rawZero⟩
def sc_impl_rawZero : SCode :=
 (.seq
 (.reg false [
 oX 1 (.box 3 0),
 oX 2 (.mv (.k (.one (.nil iX))))])
 (.seq
 (.reg false [
 oX 4 (.load true 3 1),
 oX 5 (.call .froz 78 [4]),
 oX 6 (.mkslice .froz iX 8 (0 : Int) 5 5),
 oX 3 (.mv 6)])
 (.seq
 (.seq
 (.reg false [
 oX 7 (.fieldA 0 1),
 oX 8 (.load false 1 7),
 oX 9 (.bin .eql 8 (kX 4))])
 (.join ⟨[(3, .one (fX 500000 1))], [(500000, .row true .froz iX)]⟩ [1, 6, 500000] [(false, 3, 0, 500000, .froz, [])]
 (.cond 9
 (.reg false [
 oX 10 (.mv 3),
 oX 11 (.fieldA 1 1),
 oX 12 (.load false 1 11),
 oX 13 (.idxA 1 10 (kX 0)),
 uX (.store 1 13 12)])
 .skip)))
 (.seq
 (.reg false [
 oX 14 (.mv 3),
 oX 2 (.mv 14)])
 .ret))))
def ms_impl_rawZero : List MRes := [.tmp 2]
theorem n_impl_rawZero (NN : Nat) (x : DLL (Sig.tys ag_impl_rawZero)) : runS NN [fn_impl_rawWidth] sc_impl_rawZero ms_impl_rawZero ag_impl_rawZero rs_impl_rawZero x = G_impl_rawZero NN x := by kernel_rfl
theorem k_impl_rawZero : chkS pX 36 sc_impl_rawZero.er ms_impl_rawZero 1 = true := by decide +kernel
theorem p_impl_rawZero : PureSpec pX 36 fn_impl_rawZero.M ∧ chkFun pX 36 = true :=
  pure_of_runS (T := [fn_impl_rawWidth]) (sc := sc_impl_rawZero) (ms := ms_impl_rawZero) (args := ag_impl_rawZero) (res := rs_impl_rawZero) (SOk.cons p_impl_rawWidth <| SOk.nil) follows_ok k_impl_rawZero F_impl_rawZero fun x y h => (n_impl_rawZero FUEL x).trans (f_impl_rawZero x y h)

def fn_impl_rawOne : SFn := ⟨62, ag_impl_rawOne, mu_impl_rawOne, rs_impl_rawOne, F_impl_rawOne⟩
def sc_impl_rawOne : SCode :=
 (.seq
 (.reg false [
 oX 1 (.box 3 0),
 oX 2 (.mv (.k (.one (.nil iX))))])
 (.seq
 (.reg false [
 oX 4 (.load true 3 1),
 oX 5 (.call .froz 78 [4]),
 oX 6 (.mkslice .froz iX 8 (0 : Int) 5 5),
 oX 3 (.mv 6)])
 (.seq
 (.seq
 (.reg false [
 oX 7 (.fieldA 0 1),
 oX 8 (.load false 1 7)])
 (.block 0
 (.seq
 (.reg false [
 oX 12 (.bin .eql 8 (kX 4)),
 oX 11 (.mv 12)])
 (.cond 11
 (.reg false [
 oX 13 (.mv 3),
 oX 14 (.idxA 1 13 (kX 0)),
 uX (.store 1 14 (kX 0))])
 (.seq
 (.reg false [
 oX 16 (.bin .eql 8 (kX 5)),
 oX 15 (.mv 16)])
 (.cond 15
 (.reg false [
 oX 17 (.mv 3),
 oX 18 (.fieldA 1 1),
 oX 19 (.load false 1 18),
 oX 20 (.idxA 1 17 (kX 0)),
 uX (.store 1 20 19)])
 (.seq
 (.reg false [
 oX 22 (.bin .eql 8 (kX 6)),
 oX 21 (.mv 22)])
 (.cond 21
 (.reg false [
 oX 23 (.mv 3),
 oX 24 (.load true 3 1),
 oX 25 (.call .froz 92 [24]),
 oX 26 (.idxA 1 23 (kX 0)),
 uX (.store 1 26 25)])
 (.reg false [
 oX 9 (.mv 3),
 oX 10 (.idxA 1 9 (kX 0)),
 uX (.store 1 10 (kX 1))])))))))))
 (.seq
 (.reg false [
 oX 27 (.mv 3),
 oX 2 (.mv 27)])
 .ret))))
def ms_impl_rawOne : List MRes := [.tmp 2]
theorem n_impl_rawOne (NN : Nat) (x : DLL (Sig.tys ag_impl_rawOne)) : runS NN [fn_impl_rawWidth, fn_impl_rawTop] sc_impl_rawOne ms_impl_rawOne ag_impl_rawOne rs_impl_rawOne x = G_impl_rawOne NN x := by kernel_rfl
theorem k_impl_rawOne : chkS pX 62 sc_impl_rawOne.er ms_impl_rawOne 1 = true := by decide +kernel
theorem p_impl_rawOne : PureSpec pX 62 fn_impl_rawOne.M ∧ chkFun pX 62 = true :=
  pure_of_runS (T := [fn_impl_rawWidth, fn_impl_rawTop]) (sc := sc_impl_rawOne) (ms := ms_impl_rawOne) (args := ag_impl_rawOne) (res := rs_impl_rawOne) (SOk.cons p_impl_rawWidth <| SOk.cons p_impl_rawTop <| SOk.nil) follows_ok k_impl_rawOne F_impl_rawOne fun x y h => (n_impl_rawOne FUEL x).trans (f_impl_rawOne x y h)

def fn_impl_CountElem : SFn := ⟨49, ag_impl_CountElem, mu_impl_CountElem, rs_impl_CountElem, F_impl_CountElem⟩
def sc_impl_CountElem : SCode :=
 (.seq
 (.reg false [
 oX 2 (.box 3 0),
 oX 4 (.mv (.k (.one (.nil iX))))])
 (.seq
 (.seq
 (.reg false [
 oX 6 (.load true 3 2),
 oX 7 (.call .froz 75 [6]),
 oX 8 (.un .not 7),
 oX 9 (.mv 8),
 ⟨(some 10), .mv 1, (some (9, false))⟩,
 ⟨(some 11), .bin .lss 10 (kX 0), (some (9, false))⟩,
 oX 12 (.pick 9 (.k (.one (.v (.bool) (true)))) 11)])
 (.cond 12
 (.seq
 (.reg false [
 oX 4 (.mv (.k (.one (.nil iX))))])
 .ret)
 .skip))
 (.seq
 (.seq
 (.reg false [
 oX 13 (.mv 1),
 oX 14 (.bin .eql 13 (kX 0))])
 (.cond 14
 (.seq
 (.reg false [
 oX 15 (.load true 3 2),
 oX 16 (.call .froz 36 [15]),
 oX 4 (.mv 16)])
 .ret)
 .skip))
 (.seq
 (.reg false [
 oX 17 (.load true 3 2),
 oX 18 (.call .froz 62 [17]),
 oX 5 (.mv 18)])
 (.seq
 (.seq
 (.reg false [
 oX 19 (.fieldA 0 2),
 oX 20 (.load false 1 19)])
 (.block 0
 (.seq
 (.reg false [
 oX 22 (.bin .eql 20 (kX 3)),
 oX 21 (.mv 22)])
 (.cond 21
 (.reg false [
 oX 23 (.mv 5),
 oX 24 (.mv 1),
 oX 25 (.fieldA 1 2),
 oX 26 (.load false 1 25),
 oX 27 (.mm false 24 26),
 oX 28 (.idxA 1 23 (kX 0)),
 uX (.store 1 28 27)])
 (.seq
 (.seq
 (.reg false [
 oX 30 (.bin .eql 20 (kX 2)),
 oX 29 (.mv 30)])
 (.join ⟨[(29, .one (.c (.v (.bool)))), (2, .one (rX 2)), (1, sX), (5, .one (fX 500000 1))], [(2, .box [vX, vX, vX]), (500000, .row true .froz iX)]⟩ [2, 19000, 500000] [(false, 5, 0, 500000, .froz, [])]
 (.cond 29
 .skip
 (.seq
 (.reg false [
 oX 31 (.bin .eql 20 (kX 7)),
 oX 29 (.mv 31)])
 (.cond 29
 .skip
 (.reg false [
 oX 32 (.bin .eql 20 (kX 8)),
 oX 29 (.mv 32)]))))))
 (.cond 29
 (.reg false [
 oX 33 (.mv 5),
 oX 34 (.mv 1),
 oX 35 (.fieldA 1 2),
 oX 36 (.load false 1 35),
 oX 37 (.bin .rem 34 36),
 oX 38 (.idxA 1 33 (kX 0)),
 uX (.store 1 38 37)])
 .skip))))))
 (.seq
 (.reg false [
 oX 39 (.mv 5),
 oX 4 (.mv 39)])
 .ret))))))
def ms_impl_CountElem : List MRes := [.tmp 4]
theorem n_impl_CountElem (NN : Nat) (x : DLL (Sig.tys ag_impl_CountElem)) : runS NN [fn_impl_RingOk, fn_impl_rawZero, fn_impl_rawOne] sc_impl_CountElem ms_impl_CountElem ag_impl_CountElem rs_impl_CountElem x = G_impl_CountElem NN x := by kernel_rfl
theorem k_impl_CountElem : chkS pX 49 sc_impl_CountElem.er ms_impl_CountElem 2 = true := by decide +kernel
theorem p_impl_CountElem : PureSpec pX 49 fn_impl_CountElem.M ∧ chkFun pX 49 = true :=
  pure_of_runS (T := [fn_impl_RingOk, fn_impl_rawZero, fn_impl_rawOne]) (sc := sc_impl_CountElem) (ms := ms_impl_CountElem) (args := ag_impl_CountElem) (res := rs_impl_CountElem) (SOk.cons p_impl_RingOk <| SOk.cons p_impl_rawZero <| SOk.cons p_impl_rawOne <| SOk.nil) follows_ok k_impl_CountElem F_impl_CountElem fun x y h => (n_impl_CountElem FUEL x).trans (f_impl_CountElem x y h)

def fn_impl_mulCoefficients : SFn := ⟨102, ag_impl_mulCoefficients, mu_impl_mulCoefficients, rs_impl_mulCoefficients, F_impl_mulCoefficients⟩
def sc_impl_mulCoefficients : SCode :=
 (.seq
 (.reg false [
 oX 4 (.box 3 0)])
 (.seq
 (.reg false [
 oX 12 (.mv 1),
 uX (.clr (.int .i64) ((0 : Int)) 12)])
 (.seq
 (.reg false [
 oX 13 (.mv 2),
 oX 14 (.len 13),
 oX 15 (.mv (kX 0))])
 (.block 0
 (.loop 0 ⟨[(1, .one (fX 1000000 1)), (2, .one (.c (.v (lX)))), (3, .one (.c (.v (lX)))), (4, .one (rX 4)), (14, sX), (15, sX)], [(1000000, .row false .froz iX), (4, .box [vX, vX, vX])]⟩ [1000000, 4, 500000] [(false, 1, 0, 500000, .froz, [])]
 (.seq
 (.reg false [
 oX 16 (.bin .lss 15 14)])
 (.seq
 (.cond 16
 .skip
 (.exit 0))
 (.seq
 (.join ⟨[(15, sX), (1, .one (fX 1000000 1)), (2, .one (.c (.v (lX)))), (3, .one (.c (.v (lX)))), (4, .one (rX 4)), (14, sX)], [(1000000, .row false .froz iX), (4, .box [vX, vX, vX])]⟩ [1000000, 4, 500002] [(false, 1, 0, 500002, .froz, [])]
 (.block 1
 (.seq
 (.reg false [
 oX 17 (.mv 15),
 oX 8 (.mv 17)])
 (.seq
 (.reg false [
 oX 18 (.mv 3),
 oX 19 (.len 18),
 oX 20 (.mv (kX 0))])
 (.block 2
 (.loop 0 ⟨[(1, .one (fX 1000000 1)), (2, .one (.c (.v (lX)))), (3, .one (.c (.v (lX)))), (4, .one (rX 4)), (8, sX), (14, sX), (15, sX), (19, sX), (20, sX)], [(1000000, .row false .froz iX), (4, .box [vX, vX, vX])]⟩ [1000000, 4, 500001] [(false, 1, 0, 500001, .froz, [])]
 (.seq
 (.reg false [
 oX 21 (.bin .lss 20 19)])
 (.seq
 (.cond 21
 .skip
 (.exit 2))
 (.seq
 (.block 3
 (.seq
 (.reg false [
 oX 22 (.mv 20),
 oX 9 (.mv 22)])
 (.seq
 (.reg true [
 oX 23 (.mv 2),
 oX 24 (.mv 8),
 oX 25 (.idxA 1 23 24),
 oX 26 (.load false 1 25),
 oX 27 (.mv 3),
 oX 28 (.mv 9),
 oX 29 (.idxA 1 27 28),
 oX 30 (.load false 1 29),
 oX 31 (.bin .mul 26 30),
 oX 32 (.fieldA 1 4),
 oX 33 (.load false 1 32),
 oX 34 (.bin .rem 31 33),
 oX 10 (.mv 34)])
 (.seq
 (.reg false [
 oX 35 (.mv 8),
 oX 36 (.mv 9),
 oX 37 (.bin .add 35 36),
 oX 11 (.mv 37)])
 (.seq
 (.reg false [
 oX 38 (.mv 11),
 oX 39 (.mv 1),
 oX 40 (.len 39),
 oX 41 (.bin .lss 38 40)])
 (.cond 41
 (.reg true [
 oX 42 (.mv 1),
 oX 43 (.mv 11),
 oX 44 (.mv 1),
 oX 45 (.mv 11),
 oX 46 (.idxA 1 44 45),
 oX 47 (.load false 1 46),
 oX 48 (.mv 10),
 oX 49 (.bin .add 47 48),
 oX 50 (.fieldA 1 4),
 oX 51 (.load false 1 50),
 oX 52 (.bin .rem 49 51),
 oX 53 (.idxA 1 42 43),
 uX (.store 1 53 52)])
 (.seq
 (.reg false [
 oX 54 (.fieldA 0 4),
 oX 55 (.load false 1 54),
 oX 56 (.bin .eql 55 (kX 8))])
 (.cond 56
 (.reg true [
 oX 57 (.mv 1),
 oX 58 (.mv 11),
 oX 59 (.bin .sub 58 (kX 4)),
 oX 60 (.mv 1),
 oX 61 (.mv 11),
 oX 62 (.bin .sub 61 (kX 4)),
 oX 63 (.idxA 1 60 62),
 oX 64 (.load false 1 63),
 oX 65 (.fieldA 1 4),
 oX 66 (.load false 1 65),
 oX 67 (.bin .add 64 66),
 oX 68 (.mv 10),
 oX 69 (.bin .sub 67 68),
 oX 70 (.fieldA 1 4),
 oX 71 (.load false 1 70),
 oX 72 (.bin .rem 69 71),
 oX 73 (.idxA 1 57 59),
 uX (.store 1 73 72)])
 .skip))))))))
 (.reg false [
 oX 74 (.bin .add 20 (kX 1)),
 oX 20 (.mv 74)]))))))))))
 (.reg false [
 oX 75 (.bin .add 15 (kX 1)),
 oX 15 (.mv 75)])))))))))
def ms_impl_mulCoefficients : List MRes := []
theorem n_impl_mulCoefficients (NN : Nat) (x : DLL (Sig.tys ag_impl_mulCoefficients)) : runMS NN [] sc_impl_mulCoefficients ms_impl_mulCoefficients ag_impl_mulCoefficients mu_impl_mulCoefficients rs_impl_mulCoefficients x = G_impl_mulCoefficients NN x := by kernel_rfl
theorem k_impl_mulCoefficients : chkS pX 102 sc_impl_mulCoefficients.er ms_impl_mulCoefficients 4 = true := by decide +kernel
theorem p_impl_mulCoefficients : MutSpec pX 102 mu_impl_mulCoefficients fn_impl_mulCoefficients.MM ∧ chkFun pX 102 = true :=
  mut_of_runMS (T := []) (sc := sc_impl_mulCoefficients) (ms := ms_impl_mulCoefficients) (args := ag_impl_mulCoefficients) (mu := mu_impl_mulCoefficients) (res := rs_impl_mulCoefficients) (SOk.nil) follows_ok k_impl_mulCoefficients F_impl_mulCoefficients fun x y h => (n_impl_mulCoefficients FUEL x).trans (f_impl_mulCoefficients x y h)

def fn_impl_mulInto : SFn := ⟨81, ag_impl_mulInto, mu_impl_mulInto, rs_impl_mulInto, F_impl_mulInto⟩
def sc_impl_mulInto : SCode :=
 (.seq
 (.reg false [
 oX 4 (.box 3 0)])
 (.seq
 (.reg false [
 oX 8 (.fieldA 0 4),
 oX 9 (.load false 1 8)])
 (.block 0
 (.seq
 (.seq
 (.reg false [
 oX 16 (.bin .eql 9 (kX 1)),
 oX 15 (.mv 16)])
 (.join ⟨[(15, .one (.c (.v (.bool)))), (9, sX), (4, .one (rX 4)), (1, .one (fX 1000000 1)), (2, .one (.c (.v (lX)))), (3, .one (.c (.v (lX))))], [(1000000, .row false .froz iX), (4, .box [vX, vX, vX])]⟩ [1000000, 4, 500000] [(false, 1, 0, 500000, .froz, [])]
 (.cond 15
 .skip
 (.reg false [
 oX 17 (.bin .eql 9 (kX 5)),
 oX 15 (.mv 17)]))))
 (.cond 15
 (.reg true [
 oX 18 (.mv 1),
 oX 19 (.mv 2),
 oX 20 (.idxA 1 19 (kX 0)),
 oX 21 (.load false 1 20),
 oX 22 (.mv 3),
 oX 23 (.idxA 1 22 (kX 0)),
 oX 24 (.load false 1 23),
 oX 25 (.mm false 21 24),
 oX 26 (.idxA 1 18 (kX 0)),
 uX (.store 1 26 25)])
 (.seq
 (.reg false [
 oX 28 (.bin .eql 9 (kX 2)),
 oX 27 (.mv 28)])
 (.cond 27
 (.reg true [
 oX 29 (.mv 1),
 oX 30 (.mv 2),
 oX 31 (.idxA 1 30 (kX 0)),
 oX 32 (.load false 1 31),
 oX 33 (.mv 3),
 oX 34 (.idxA 1 33 (kX 0)),
 oX 35 (.load false 1 34),
 oX 36 (.bin .mul 32 35),
 oX 37 (.fieldA 1 4),
 oX 38 (.load false 1 37),
 oX 39 (.bin .rem 36 38),
 oX 40 (.idxA 1 29 (kX 0)),
 uX (.store 1 40 39)])
 (.seq
 (.reg false [
 oX 42 (.bin .eql 9 (kX 3)),
 oX 41 (.mv 42)])
 (.cond 41
 (.reg true [
 oX 43 (.mv 1),
 oX 44 (.mv 2),
 oX 45 (.idxA 1 44 (kX 0)),
 oX 46 (.load false 1 45),
 oX 47 (.mv 3),
 oX 48 (.idxA 1 47 (kX 0)),
 oX 49 (.load false 1 48),
 oX 50 (.bin .mul 46 49),
 oX 51 (.fieldA 1 4),
 oX 52 (.load false 1 51),
 oX 53 (.mm false 50 52),
 oX 54 (.idxA 1 43 (kX 0)),
 uX (.store 1 54 53)])
 (.seq
 (.reg false [
 oX 56 (.bin .eql 9 (kX 4)),
 oX 55 (.mv 56)])
 (.cond 55
 (.reg true [
 oX 57 (.mv 1),
 oX 58 (.mv 2),
 oX 59 (.idxA 1 58 (kX 0)),
 oX 60 (.load false 1 59),
 oX 61 (.mv 3),
 oX 62 (.idxA 1 61 (kX 0)),
 oX 63 (.load false 1 62),
 oX 64 (.bin .add 60 63),
 oX 65 (.fieldA 1 4),
 oX 66 (.load false 1 65),
 oX 67 (.mm false 64 66),
 oX 68 (.idxA 1 57 (kX 0)),
 uX (.store 1 68 67)])
 (.seq
 (.reg false [
 oX 70 (.bin .eql 9 (kX 6)),
 oX 69 (.mv 70)])
 (.cond 69
 (.reg true [
 oX 71 (.mv 1),
 oX 72 (.mv 2),
 oX 73 (.idxA 1 72 (kX 0)),
 oX 74 (.load false 1 73),
 oX 75 (.mv 3),
 oX 76 (.idxA 1 75 (kX 0)),
 oX 77 (.load false 1 76),
 oX 78 (.bin .and 74 77),
 oX 79 (.idxA 1 71 (kX 0)),
 uX (.store 1 79 78)])
 (.reg false [
 oX 10 (.load true 3 4),
 oX 11 (.mv 1),
 oX 12 (.mv 2),
 oX 13 (.mv 3),
 oX 14 (.callm .froz 102 [10, 11, 12, 13])]))))))))))))))
def ms_impl_mulInto : List MRes := []
theorem n_impl_mulInto (NN : Nat) (x : DLL (Sig.tys ag_impl_mulInto)) : runMS NN [fn_impl_mulCoefficients] sc_impl_mulInto ms_impl_mulInto ag_impl_mulInto mu_impl_mulInto rs_impl_mulInto x = G_impl_mulInto NN x := by kernel_rfl
theorem k_impl_mulInto : chkS pX 81 sc_impl_mulInto.er ms_impl_mulInto 4 = true := by decide +kernel
theorem p_impl_mulInto : MutSpec pX 81 mu_impl_mulInto fn_impl_mulInto.MM ∧ chkFun pX 81 = true :=
  mut_of_runMS (T := [fn_impl_mulCoefficients]) (sc := sc_impl_mulInto) (ms := ms_impl_mulInto) (args := ag_impl_mulInto) (mu := mu_impl_mulInto) (res := rs_impl_mulInto) (SOk.consM p_impl_mulCoefficients <| SOk.nil) follows_ok k_impl_mulInto F_impl_mulInto fun x y h => (n_impl_mulInto FUEL x).trans (f_impl_mulInto x y h)

def fn_impl_rawMul : SFn := ⟨51, ag_impl_rawMul, mu_impl_rawMul, rs_impl_rawMul, F_impl_rawMul⟩
def sc_impl_rawMul : SCode :=
 (.seq
 (.reg false [
 oX 3 (.box 3 0),
 oX 6 (.mv (.k (.one (.nil iX))))])
 (.seq
 (.reg false [
 oX 8 (.load true 3 3),
 oX 9 (.call .froz 78 [8]),
 oX 10 (.mkslice .froz iX 8 (0 : Int) 9 9),
 oX 7 (.mv 10)])
 (.seq
 (.reg false [
 oX 11 (.load true 3 3),
 oX 12 (.mv 7),
 oX 13 (.mv 1),
 oX 14 (.mv 2),
 oX 15 (.callm .froz 81 [11, 12, 13, 14])])
 (.seq
 (.reg false [
 oX 16 (.mv 7),
 oX 6 (.mv 16)])
 .ret))))
def ms_impl_rawMul : List MRes := [.tmp 6]
theorem n_impl_rawMul (NN : Nat) (x : DLL (Sig.tys ag_impl_rawMul)) : runS NN [fn_impl_rawWidth, fn_impl_mulInto] sc_impl_rawMul ms_impl_rawMul ag_impl_rawMul rs_impl_rawMul x = G_impl_rawMul NN x := by kernel_rfl
theorem k_impl_rawMul : chkS pX 51 sc_impl_rawMul.er ms_impl_rawMul 3 = true := by decide +kernel
theorem p_impl_rawMul : PureSpec pX 51 fn_impl_rawMul.M ∧ chkFun pX 51 = true :=
  pure_of_runS (T := [fn_impl_rawWidth, fn_impl_mulInto]) (sc := sc_impl_rawMul) (ms := ms_impl_rawMul) (args := ag_impl_rawMul) (res := rs_impl_rawMul) (SOk.cons p_impl_rawWidth <| SOk.consM p_impl_mulInto <| SOk.nil) follows_ok k_impl_rawMul F_impl_rawMul fun x y h => (n_impl_rawMul FUEL x).trans (f_impl_rawMul x y h)

def fn_impl_rawPow : SFn := ⟨39, ag_impl_rawPow, mu_impl_rawPow, rs_impl_rawPow, F_impl_rawPow⟩
def sc_impl_rawPow : SCode :=
 (.seq
 (.reg false [
 oX 3 (.box 3 0),
 oX 6 (.mv (.k (.one (.nil iX))))])
 (.seq
 (.reg false [
 oX 9 (.load true 3 3),
 oX 10 (.call .froz 62 [9]),
 oX 7 (.mv 10)])
 (.seq
 (.seq
 (.reg false [
 oX 8 (.mv (kX 0))])
 (.join ⟨[(7, .one (fX 500001 1))], [(500001, .row true .froz iX)]⟩ [3, 500000, 500001] [(false, 7, 0, 500001, .froz, [])]
 (.block 0
 (.loop 0 ⟨[(1, .one (.c (.v (lX)))), (2, sX), (3, .one (rX 3)), (7, .one (fX 500000 1)), (8, sX)], [(3, .box [vX, vX, vX]), (500000, .row true .froz iX)]⟩ [3, 11000, 20000, 500000] [(false, 7, 0, 500000, .froz, [])]
 (.seq
 (.seq
 (.reg false [
 oX 11 (.mv 8),
 oX 12 (.mv 2),
 oX 13 (.bin .lss 11 12)])
 (.cond 13
 .skip
 (.exit 0)))
 (.seq
 (.block 1
 (.reg false [
 oX 16 (.load true 3 3),
 oX 17 (.mv 7),
 oX 18 (.mv 1),
 oX 19 (.call .froz 51 [16, 17, 18]),
 oX 7 (.mv 19)]))
 (.reg false [
 oX 14 (.mv 8),
 oX 15 (.bin .add 14 (kX 1)),
 oX 8 (.mv 15)])))))))
 (.seq
 (.reg false [
 oX 20 (.mv 7),
 oX 6 (.mv 20)])
 .ret))))
def ms_impl_rawPow : List MRes := [.tmp 6]
theorem n_impl_rawPow (NN : Nat) (x : DLL (Sig.tys ag_impl_rawPow)) : runS NN [fn_impl_rawOne, fn_impl_rawMul] sc_impl_rawPow ms_impl_rawPow ag_impl_rawPow rs_impl_rawPow x = G_impl_rawPow NN x := by kernel_rfl
theorem k_impl_rawPow : chkS pX 39 sc_impl_rawPow.er ms_impl_rawPow 3 = true := by decide +kernel
theorem p_impl_rawPow : PureSpec pX 39 fn_impl_rawPow.M ∧ chkFun pX 39 = true :=
  pure_of_runS (T := [fn_impl_rawOne, fn_impl_rawMul]) (sc := sc_impl_rawPow) (ms := ms_impl_rawPow) (args := ag_impl_rawPow) (res := rs_impl_rawPow) (SOk.cons p_impl_rawOne <| SOk.cons p_impl_rawMul <| SOk.nil) follows_ok k_impl_rawPow F_impl_rawPow fun x y h => (n_impl_rawPow FUEL x).trans (f_impl_rawPow x y h)

def fn_impl_DeleteEdge : SFn := ⟨54, ag_impl_DeleteEdge, mu_impl_DeleteEdge, rs_impl_DeleteEdge, F_impl_DeleteEdge⟩
def sc_impl_DeleteEdge : SCode :=
 (.seq
 (.reg false [
 oX 2 (.box 2 0),
 oX 4 (.alloc [zX, .nil [.int .i64, .int .i64]]),
 oX 5 (.mv (.k (.one (.v (.bool) (false)))))])
 (.seq
 (.seq
 (.reg false [
 oX 9 (.load true 2 2),
 oX 10 (.call .froz 76 [9]),
 oX 11 (.un .not 10),
 oX 12 (.mv 11),
 ⟨(some 13), .mv 1, (some (12, false))⟩,
 ⟨(some 14), .bin .lss 13 (kX 0), (some (12, false))⟩,
 oX 15 (.pick 12 (.k (.one (.v (.bool) (true)))) 14),
 oX 16 (.mv 15),
 ⟨(some 17), .mv 1, (some (16, false))⟩,
 ⟨(some 18), .fieldA 1 2, (some (16, false))⟩,
 ⟨(some 19), .load false 1 18, (some (16, false))⟩,
 ⟨(some 20), .len 19, (some (16, false))⟩,
 ⟨(some 21), .bin .geq 17 20, (some (16, false))⟩,
 oX 22 (.pick 16 (.k (.one (.v (.bool) (true)))) 21)])
 (.cond 22
 (.seq
 (.reg false [
 oX 23 (.build [zX, .nil [.int .i64, .int .i64]] []),
 uX (.store 2 4 23),
 oX 5 (.mv (.k (.one (.v (.bool) (false)))))])
 .ret)
 .skip))
 (.seq
 (.reg false [
 oX 24 (.fieldA 0 2),
 oX 25 (.load false 1 24),
 oX 26 (.build [zX, .nil [.int .i64, .int .i64]] [(0, 1, 25)]),
 oX 6 (.alloc [zX, .nil [.int .i64, .int .i64]]),
 uX (.store 2 6 26)])
 (.seq
 (.seq
 (.reg false [
 oX 27 (.fieldA 1 2),
 oX 28 (.load false 1 27),
 oX 29 (.len 28),
 oX 30 (.mv (kX 0))])
 (.join ⟨[(6, .one (rX 6)), (4, .one (rX 4))], [(4, .box [vX, fX 500002 2]), (6, .box [vX, fX 500003 2]), (500002, .row true .froz [.int .i64, .int .i64]), (500003, .row true .froz [.int .i64, .int .i64])]⟩ [4, 6, 500000, 500001, 500002, 500003] [(true, 4, 1, 500002, .froz, []), (true, 6, 1, 500003, .froz, [])]
 (.block 0
 (.loop 0 ⟨[(1, sX), (4, .one (rX 4)), (6, .one (rX 6)), (28, .one (.c (.v (.list [.int .i64, .int .i64])))), (29, sX), (30, sX)], [(4, .box [vX, fX 500000 2]), (6, .box [vX, fX 500001 2]), (500000, .row true .froz [.int .i64, .int .i64]), (500001, .row true .froz [.int .i64, .int .i64])]⟩ [2, 4, 6, 8, 41, 42, 500000, 500001] [(true, 4, 1, 500000, .froz, []), (true, 6, 1, 500001, .froz, [])]
 (.seq
 (.reg false [
 oX 31 (.bin .lss 30 29)])
 (.seq
 (.cond 31
 .skip
 (.exit 0))
 (.seq
 (.block 1
 (.seq
 (.reg false [
 oX 32 (.mv 30),
 oX 33 (.idxA 2 28 30),
 oX 34 (.load true 2 33),
 oX 8 (.alloc [zX, zX]),
 oX 7 (.mv 32),
 uX (.store 2 8 34)])
 (.seq
 (.reg false [
 oX 35 (.mv 7),
 oX 36 (.mv 1),
 oX 37 (.bin .neq 35 36)])
 (.cond 37
 (.reg false [
 oX 38 (.fieldA 1 6),
 oX 39 (.load false 1 38),
 oX 40 (.load true 2 8),
 oX 41 (.bslice [.int .i64, .int .i64] [40]),
 oX 42 (.append true [.int .i64, .int .i64] 16 39 41),
 oX 43 (.fieldA 1 6),
 uX (.store 1 43 42)])
 .skip))))
 (.reg false [
 oX 44 (.bin .add 30 (kX 1)),
 oX 30 (.mv 44)]))))))))
 (.seq
 (.reg false [
 oX 45 (.load true 2 6),
 uX (.store 2 4 45),
 oX 5 (.mv (.k (.one (.v (.bool) (true)))))])
 .ret)))))
def ms_impl_DeleteEdge : List MRes := [.cell 4 2 true, .tmp 5]
theorem n_impl_DeleteEdge (NN : Nat) (x : DLL (Sig.tys ag_impl_DeleteEdge)) : runS NN [fn_impl_GraphOk] sc_impl_DeleteEdge ms_impl_DeleteEdge ag_impl_DeleteEdge rs_impl_DeleteEdge x = G_impl_DeleteEdge NN x := by kernel_rfl
theorem k_impl_DeleteEdge : chkS pX 54 sc_impl_DeleteEdge.er ms_impl_DeleteEdge 2 = true := by decide +kernel
theorem p_impl_DeleteEdge : PureSpec pX 54 fn_impl_DeleteEdge.M ∧ chkFun pX 54 = true :=
  pure_of_runS (T := [fn_impl_GraphOk]) (sc := sc_impl_DeleteEdge) (ms := ms_impl_DeleteEdge) (args := ag_impl_DeleteEdge) (res := rs_impl_DeleteEdge) (SOk.cons p_impl_GraphOk <| SOk.nil) follows_ok k_impl_DeleteEdge F_impl_DeleteEdge fun x y h => (n_impl_DeleteEdge FUEL x).trans (f_impl_DeleteEdge x y h)

def fn_impl_ContractEdge_1 : SFn := ⟨83, ag_impl_ContractEdge_1, mu_impl_ContractEdge_1, rs_impl_ContractEdge_1, F_impl_ContractEdge_1⟩
def sc_impl_ContractEdge_1 : SCode :=
 (.seq
 (.reg false [
 oX 4 (.mv (kX 0))])
 (.seq
 (.seq
 (.reg false [
 oX 5 (.mv 0),
 oX 6 (.load false 1 1),
 oX 7 (.bin .eql 5 6)])
 (.cond 7
 (.seq
 (.reg false [
 oX 8 (.load false 1 2),
 oX 4 (.mv 8)])
 .ret)
 .skip))
 (.seq
 (.seq
 (.reg false [
 oX 9 (.mv 0),
 oX 10 (.load false 1 1),
 oX 11 (.bin .gtr 9 10)])
 (.cond 11
 (.seq
 (.reg false [
 oX 12 (.mv 0),
 oX 13 (.bin .sub 12 (kX 1)),
 oX 4 (.mv 13)])
 .ret)
 .skip))
 (.seq
 (.reg false [
 oX 14 (.mv 0),
 oX 4 (.mv 14)])
 .ret))))
def ms_impl_ContractEdge_1 : List MRes := [.tmp 4]
theorem n_impl_ContractEdge_1 (NN : Nat) (x : DLL (Sig.tys ag_impl_ContractEdge_1)) : runS NN [] sc_impl_ContractEdge_1 ms_impl_ContractEdge_1 ag_impl_ContractEdge_1 rs_impl_ContractEdge_1 x = G_impl_ContractEdge_1 NN x := by kernel_rfl
theorem k_impl_ContractEdge_1 : chkS pX 83 sc_impl_ContractEdge_1.er ms_impl_ContractEdge_1 3 = true := by decide +kernel
theorem p_impl_ContractEdge_1 : PureSpec pX 83 fn_impl_ContractEdge_1.M ∧ chkFun pX 83 = true :=
  pure_of_runS (T := []) (sc := sc_impl_ContractEdge_1) (ms := ms_impl_ContractEdge_1) (args := ag_impl_ContractEdge_1) (res := rs_impl_ContractEdge_1) (SOk.nil) follows_ok k_impl_ContractEdge_1 F_impl_ContractEdge_1 fun x y h => (n_impl_ContractEdge_1 FUEL x).trans (f_impl_ContractEdge_1 x y h)

def fn_impl_ContractEdge : SFn := ⟨55, ag_impl_ContractEdge, mu_impl_ContractEdge, rs_impl_ContractEdge, F_impl_ContractEdge⟩
def sc_impl_ContractEdge : SCode :=
 (.seq
 (.reg false [
 oX 2 (.box 2 0),
 oX 4 (.alloc [zX, .nil [.int .i64, .int .i64]]),
 oX 5 (.mv (.k (.one (.v (.bool) (false)))))])
 (.seq
 (.reg false [
 oX 14 (.load true 2 2),
 oX 15 (.mv 1),
 oX 16 (.call .froz 54 [14, 15]),
 oX 13 (.mv 16),
 oX 17 (.ext 0 13),
 oX 18 (.ext 1 13),
 oX 6 (.alloc [zX, .nil [.int .i64, .int .i64]]),
 uX (.store 2 6 17),
 oX 7 (.mv 18)])
 (.seq
 (.seq
 (.reg false [
 oX 19 (.mv 7),
 oX 20 (.un .not 19)])
 (.cond 20
 (.seq
 (.reg false [
 oX 21 (.build [zX, .nil [.int .i64, .int .i64]] []),
 uX (.store 2 4 21),
 oX 5 (.mv (.k (.one (.v (.bool) (false)))))])
 .ret)
 .skip))
 (.seq
 (.regD [(13, 28), (14, 28), (16, 28), (17, 28), (18, 28), (19, 28), (20, 28), (22, 28), (23, 28), (24, 28)] [
 oX 22 (.fieldA 1 2),
 oX 23 (.load false 1 22),
 oX 24 (.mv 1),
 oX 25 (.idxA 2 23 24),
 oX 26 (.fieldA 0 25),
 oX 27 (.load false 1 26),
 oX 28 (.fieldA 1 2),
 oX 29 (.load false 1 28),
 oX 30 (.mv 1),
 oX 31 (.idxA 2 29 30),
 oX 32 (.fieldA 1 31),
 oX 33 (.load false 1 32),
 oX 34 (.mm false 27 33),
 oX 35 (.fieldA 1 2),
 oX 36 (.load false 1 35),
 oX 37 (.mv 1),
 oX 38 (.idxA 2 36 37),
 oX 39 (.fieldA 0 38),
 oX 40 (.load false 1 39),
 oX 41 (.fieldA 1 2),
 oX 42 (.load false 1 41),
 oX 43 (.mv 1),
 oX 44 (.idxA 2 42 43),
 oX 45 (.fieldA 1 44),
 oX 46 (.load false 1 45),
 oX 47 (.mm true 40 46),
 oX 8 (.alloc [zX]),
 oX 9 (.alloc [zX]),
 uX (.store 1 8 34),
 uX (.store 1 9 47)])
 (.seq
 (.seq
 (.reg false [
 oX 48 (.load false 1 8),
 oX 49 (.load false 1 9),
 oX 50 (.bin .eql 48 49)])
 (.cond 50
 (.seq
 (.reg false [
 oX 51 (.load true 2 6),
 uX (.store 2 4 51),
 oX 5 (.mv (.k (.one (.v (.bool) (true)))))])
 .ret)
 .skip))
 (.seq
 (.reg false [
 oX 52 (.mkfn 83 [9, 8]),
 oX 10 (.mv 52)])
 (.seq
 (.reg false [
 oX 53 (.fieldA 0 6),
 oX 54 (.load false 1 53),
 oX 55 (.bin .sub 54 (kX 1)),
 oX 56 (.fieldA 0 6),
 uX (.store 1 56 55)])
 (.seq
 (.seq
 (.reg false [
 oX 57 (.fieldA 1 6),
 oX 58 (.load false 1 57),
 oX 59 (.len 58),
 oX 60 (.mv (kX 0))])
 (.join ⟨[(6, .one (rX 6)), (4, .one (rX 4))], [(4, .box [vX, fX 500002 2]), (6, .box [vX, fX 500003 2]), (500002, .row true .froz [.int .i64, .int .i64]), (500003, .row true .froz [.int .i64, .int .i64])]⟩ [4, 6, 8, 9, 500000, 500001, 500002, 500003] [(true, 4, 1, 500002, .froz, []), (true, 6, 1, 500003, .froz, [])]
 (.block 0
 (.loop 0 ⟨[(4, .one (rX 4)), (6, .one (rX 6)), (10, .one (.fn 83 [.ptr0 9 0, .ptr0 8 0])), (58, .one (fX 500001 2)), (59, sX), (60, sX)], [(4, .box [vX, fX 500000 2]), (6, .box [vX, fX 500001 2]), (8, .box [vX]), (9, .box [vX]), (500000, .row true .froz [.int .i64, .int .i64]), (500001, .row true .froz [.int .i64, .int .i64])]⟩ [2, 4, 17000, 6, 8, 9, 12, 500000, 500001] [(true, 4, 1, 500000, .froz, []), (true, 6, 1, 500001, .froz, [])]
 (.seq
 (.reg false [
 oX 61 (.bin .lss 60 59)])
 (.seq
 (.cond 61
 .skip
 (.exit 0))
 (.seq
 (.block 1
 (.seq
 (.reg false [
 oX 62 (.mv 60),
 oX 63 (.idxA 2 58 60),
 oX 64 (.load true 2 63),
 oX 12 (.alloc [zX, zX]),
 oX 11 (.mv 62),
 uX (.store 2 12 64)])
 (.reg true [
 oX 65 (.fieldA 1 6),
 oX 66 (.load false 1 65),
 oX 67 (.mv 11),
 oX 68 (.mv 10),
 oX 69 (.fieldA 0 12),
 oX 70 (.load false 1 69),
 oX 71 (.callv .froz 68 [70]),
 oX 72 (.mv 10),
 oX 73 (.fieldA 1 12),
 oX 74 (.load false 1 73),
 oX 75 (.callv .froz 72 [74]),
 oX 76 (.build [zX, zX] [(0, 1, 71), (1, 1, 75)]),
 oX 77 (.idxA 2 66 67),
 uX (.store 2 77 76)])))
 (.reg false [
 oX 78 (.bin .add 60 (kX 1)),
 oX 60 (.mv 78)]))))))))
 (.seq
 (.reg false [
 oX 79 (.load true 2 6),
 uX (.store 2 4 79),
 oX 5 (.mv (.k (.one (.v (.bool) (true)))))])
 .ret)))))))))
def ms_impl_ContractEdge : List MRes := [.cell 4 2 true, .tmp 5]
theorem n_impl_ContractEdge (NN : Nat) (x : DLL (Sig.tys ag_impl_ContractEdge)) : runS NN [fn_impl_DeleteEdge, fn_impl_ContractEdge_1] sc_impl_ContractEdge ms_impl_ContractEdge ag_impl_ContractEdge rs_impl_ContractEdge x = G_impl_ContractEdge NN x := by kernel_rfl
theorem k_impl_ContractEdge : chkS pX 55 sc_impl_ContractEdge.er ms_impl_ContractEdge 2 = true := by decide +kernel
theorem p_impl_ContractEdge : PureSpec pX 55 fn_impl_ContractEdge.M ∧ chkFun pX 55 = true :=
  pure_of_runS (T := [fn_impl_DeleteEdge, fn_impl_ContractEdge_1]) (sc := sc_impl_ContractEdge) (ms := ms_impl_ContractEdge) (args := ag_impl_ContractEdge) (res := rs_impl_ContractEdge) (SOk.cons p_impl_DeleteEdge <| SOk.cons p_impl_ContractEdge_1 <| SOk.nil) follows_ok k_impl_ContractEdge F_impl_ContractEdge fun x y h => (n_impl_ContractEdge FUEL x).trans (f_impl_ContractEdge x y h)

def fn_impl_addInto : SFn := ⟨38, ag_impl_addInto, mu_impl_addInto, rs_impl_addInto, F_impl_addInto⟩
def sc_impl_addInto : SCode :=
 (.seq
 (.reg false [
 oX 3 (.box 3 0)])
 (.seq
 (.reg false [
 oX 7 (.fieldA 0 3),
 oX 8 (.load false 1 7)])
 (.block 0
 (.seq
 (.seq
 (.reg false [
 oX 31 (.bin .eql 8 (kX 1)),
 oX 30 (.mv 31)])
 (.join ⟨[(30, .one (.c (.v (.bool)))), (8, sX), (1, .one (fX 1000000 1)), (2, .one (.c (.v (lX)))), (3, .one (rX 3))], [(1000000, .row false .froz iX), (3, .box [vX, vX, vX])]⟩ [1000000, 3, 500000] [(false, 1, 0, 500000, .froz, [])]
 (.cond 30
 .skip
 (.reg false [
 oX 32 (.bin .eql 8 (kX 5)),
 oX 30 (.mv 32)]))))
 (.cond 30
 (.reg true [
 oX 33 (.mv 1),
 oX 34 (.mv 1),
 oX 35 (.idxA 1 34 (kX 0)),
 oX 36 (.load false 1 35),
 oX 37 (.mv 2),
 oX 38 (.idxA 1 37 (kX 0)),
 oX 39 (.load false 1 38),
 oX 40 (.mm true 36 39),
 oX 41 (.idxA 1 33 (kX 0)),
 uX (.store 1 41 40)])
 (.seq
 (.reg false [
 oX 43 (.bin .eql 8 (kX 3)),
 oX 42 (.mv 43)])
 (.cond 42
 (.reg true [
 oX 44 (.mv 1),
 oX 45 (.mv 1),
 oX 46 (.idxA 1 45 (kX 0)),
 oX 47 (.load false 1 46),
 oX 48 (.mv 2),
 oX 49 (.idxA 1 48 (kX 0)),
 oX 50 (.load false 1 49),
 oX 51 (.bin .add 47 50),
 oX 52 (.fieldA 1 3),
 oX 53 (.load false 1 52),
 oX 54 (.mm false 51 53),
 oX 55 (.idxA 1 44 (kX 0)),
 uX (.store 1 55 54)])
 (.seq
 (.reg false [
 oX 57 (.bin .eql 8 (kX 4)),
 oX 56 (.mv 57)])
 (.cond 56
 (.reg true [
 oX 58 (.mv 1),
 oX 59 (.mv 1),
 oX 60 (.idxA 1 59 (kX 0)),
 oX 61 (.load false 1 60),
 oX 62 (.mv 2),
 oX 63 (.idxA 1 62 (kX 0)),
 oX 64 (.load false 1 63),
 oX 65 (.mm false 61 64),
 oX 66 (.idxA 1 58 (kX 0)),
 uX (.store 1 66 65)])
 (.seq
 (.reg false [
 oX 68 (.bin .eql 8 (kX 6)),
 oX 67 (.mv 68)])
 (.cond 67
 (.reg true [
 oX 69 (.mv 1),
 oX 70 (.idxA 1 69 (kX 0)),
 oX 71 (.load false 1 70),
 oX 72 (.mv 2),
 oX 73 (.idxA 1 72 (kX 0)),
 oX 74 (.load false 1 73),
 oX 75 (.bin .or 71 74),
 oX 76 (.idxA 1 69 (kX 0)),
 uX (.store 1 76 75)])
 (.seq
 (.reg false [
 oX 9 (.mv 1),
 oX 10 (.len 9),
 oX 11 (.mv (kX 0))])
 (.block 1
 (.loop 0 ⟨[(1, .one (fX 1000000 1)), (2, .one (.c (.v (lX)))), (3, .one (rX 3)), (10, sX), (11, sX)], [(1000000, .row false .froz iX), (3, .box [vX, vX, vX])]⟩ [1000000, 3, 500001] [(false, 1, 0, 500001, .froz, [])]
 (.seq
 (.reg false [
 oX 12 (.bin .lss 11 10)])
 (.seq
 (.cond 12
 .skip
 (.exit 1))
 (.seq
 (.block 2
 (.seq
 (.reg false [
 oX 13 (.mv 11),
 oX 6 (.mv 13)])
 (.reg true [
 oX 14 (.mv 1),
 oX 15 (.mv 6),
 oX 16 (.mv 1),
 oX 17 (.mv 6),
 oX 18 (.idxA 1 16 17),
 oX 19 (.load false 1 18),
 oX 20 (.mv 2),
 oX 21 (.mv 6),
 oX 22 (.idxA 1 20 21),
 oX 23 (.load false 1 22),
 oX 24 (.bin .add 19 23),
 oX 25 (.fieldA 1 3),
 oX 26 (.load false 1 25),
 oX 27 (.bin .rem 24 26),
 oX 28 (.idxA 1 14 15),
 uX (.store 1 28 27)])))
 (.reg false [
 oX 29 (.bin .add 11 (kX 1)),
 oX 11 (.mv 29)]))))))))))))))))))
def ms_impl_addInto : List MRes := []
theorem n_impl_addInto (NN : Nat) (x : DLL (Sig.tys ag_impl_addInto)) : runMS NN [] sc_impl_addInto ms_impl_addInto ag_impl_addInto mu_impl_addInto rs_impl_addInto x = G_impl_addInto NN x := by kernel_rfl
theorem k_impl_addInto : chkS pX 38 sc_impl_addInto.er ms_impl_addInto 3 = true := by decide +kernel
theorem p_impl_addInto : MutSpec pX 38 mu_impl_addInto fn_impl_addInto.MM ∧ chkFun pX 38 = true :=
  mut_of_runMS (T := []) (sc := sc_impl_addInto) (ms := ms_impl_addInto) (args := ag_impl_addInto) (mu := mu_impl_addInto) (res := rs_impl_addInto) (SOk.nil) follows_ok k_impl_addInto F_impl_addInto fun x y h => (n_impl_addInto FUEL x).trans (f_impl_addInto x y h)

def fnr_impl_SpinByEdges (k : Nat) : SFn := ⟨21, ag_impl_SpinByEdges, mu_impl_SpinByEdges, rs_impl_SpinByEdges, Fr_impl_SpinByEdges k⟩
def fn_impl_SpinByEdges : SFn := ⟨21, ag_impl_SpinByEdges, mu_impl_SpinByEdges, rs_impl_SpinByEdges, F_impl_SpinByEdges⟩
def sc_impl_SpinByEdges : SCode :=
 (.seq
 (.reg false [
 oX 4 (.box 3 0),
 oX 5 (.box 2 1),
 oX 8 (.mv (.k (.one (.nil iX))))])
 (.seq
 (.seq
 (.reg false [
 oX 15 (.load true 3 4),
 oX 16 (.load true 2 5),
 oX 17 (.mv 2),
 oX 18 (.mv 3),
 oX 19 (.call .froz 48 [15, 16, 17, 18]),
 oX 20 (.un .not 19)])
 (.cond 20
 (.seq
 (.reg false [
 oX 8 (.mv (.k (.one (.nil iX))))])
 .ret)
 .skip))
 (.seq
 (.seq
 (.reg false [
 oX 21 (.fieldA 1 5),
 oX 22 (.load false 1 21),
 oX 23 (.len 22),
 oX 24 (.bin .eql 23 (kX 0))])
 (.cond 24
 (.seq
 (.reg true [
 oX 25 (.load true 3 4),
 oX 26 (.load true 3 4),
 oX 27 (.mv 2),
 oX 28 (.call .froz 49 [26, 27]),
 oX 29 (.fieldA 0 5),
 oX 30 (.load false 1 29),
 oX 31 (.call .froz 39 [25, 28, 30]),
 oX 8 (.mv 31)])
 .ret)
 .skip))
 (.seq
 (.reg false [
 oX 32 (.fieldA 1 5),
 oX 33 (.load false 1 32),
 oX 34 (.len 33),
 oX 35 (.bin .sub 34 (kX 1)),
 oX 9 (.mv 35)])
 (.seq
 (.reg false [
 oX 37 (.load true 2 5),
 oX 38 (.mv 9),
 oX 39 (.call .froz 54 [37, 38]),
 oX 36 (.mv 39),
 oX 40 (.ext 0 36),
 oX 41 (.ext 1 36),
 oX 10 (.alloc [zX, .nil [.int .i64, .int .i64]]),
 uX (.store 2 10 40),
 oX 11 (.mv 41)])
 (.seq
 (.reg false [
 oX 43 (.load true 2 5),
 oX 44 (.mv 9),
 oX 45 (.call .froz 55 [43, 44]),
 oX 42 (.mv 45),
 oX 46 (.ext 0 42),
 oX 47 (.ext 1 42),
 oX 12 (.alloc [zX, .nil [.int .i64, .int .i64]]),
 uX (.store 2 12 46),
 oX 13 (.mv 47)])
 (.seq
 (.reg false [
 oX 48 (.load true 3 4),
 oX 49 (.load true 2 10),
 oX 50 (.mv 2),
 oX 51 (.mv 3),
 oX 52 (.call .froz 21 [48, 49, 50, 51]),
 oX 14 (.mv 52)])
 (.seq
 (.reg true [
 oX 53 (.load true 3 4),
 oX 54 (.mv 14),
 oX 55 (.load true 3 4),
 oX 56 (.mv 3),
 oX 57 (.load true 3 4),
 oX 58 (.load true 2 12),
 oX 59 (.mv 2),
 oX 60 (.mv 3),
 oX 61 (.call .froz 21 [57, 58, 59, 60]),
 oX 62 (.call .froz 51 [55, 56, 61]),
 oX 63 (.callm .froz 38 [53, 54, 62])])
 (.seq
 (.reg false [
 oX 64 (.mv 14),
 oX 8 (.mv 64)])
 .ret)))))))))
def ms_impl_SpinByEdges : List MRes := [.tmp 8]
theorem n_impl_SpinByEdges (k NN : Nat) (x : DLL (Sig.tys ag_impl_SpinByEdges)) : runS NN [fn_impl_spinArgumentsOk, fn_impl_CountElem, fn_impl_rawPow, fn_impl_DeleteEdge, fn_impl_ContractEdge, fnr_impl_SpinByEdges k, fn_impl_rawMul, fn_impl_addInto] sc_impl_SpinByEdges ms_impl_SpinByEdges ag_impl_SpinByEdges rs_impl_SpinByEdges x = G_impl_SpinByEdges k NN x := by kernel_rfl
theorem k_impl_SpinByEdges : chkS pX 21 sc_impl_SpinByEdges.er ms_impl_SpinByEdges 4 = true := by decide +kernel
theorem pr_impl_SpinByEdges (k : Nat) : PureSpec pX 21 (fnr_impl_SpinByEdges k).M ∧ chkFun pX 21 = true := by
  induction k with
  | zero => exact ⟨fun ds rs h => by obtain ⟨x, y, _, h2, _⟩ := SFn.M_some h; exact absurd h2 (fz_impl_SpinByEdges x y), chkS_fun k_impl_SpinByEdges⟩
  | succ k ih => exact pure_of_runS (T := [fn_impl_spinArgumentsOk, fn_impl_CountElem, fn_impl_rawPow, fn_impl_DeleteEdge, fn_impl_ContractEdge, fnr_impl_SpinByEdges k, fn_impl_rawMul, fn_impl_addInto]) (sc := sc_impl_SpinByEdges) (ms := ms_impl_SpinByEdges) (args := ag_impl_SpinByEdges) (res := rs_impl_SpinByEdges) (SOk.cons p_impl_spinArgumentsOk <| SOk.cons p_impl_CountElem <| SOk.cons p_impl_rawPow <| SOk.cons p_impl_DeleteEdge <| SOk.cons p_impl_ContractEdge <| SOk.cons ih <| SOk.cons p_impl_rawMul <| SOk.consM p_impl_addInto <| SOk.nil) follows_ok k_impl_SpinByEdges (Fr_impl_SpinByEdges (k + 1)) fun x y h => (n_impl_SpinByEdges k FUEL x).trans (f_impl_SpinByEdges k x y h)
theorem p_impl_SpinByEdges : PureSpec pX 21 fn_impl_SpinByEdges.M ∧ chkFun pX 21 = true := pr_impl_SpinByEdges 12

def fn_laws_eqIntS : SFn := ⟨13, ag_laws_eqIntS, mu_laws_eqIntS, rs_laws_eqIntS, F_laws_eqIntS⟩
def sc_laws_eqIntS : SCode :=
 (.seq
 (.reg false [
 oX 4 (.mv (.k (.one (.v (.bool) (false)))))])
 (.seq
 (.seq
 (.reg false [
 oX 6 (.mv 0),
 oX 7 (.len 6),
 oX 8 (.mv 1),
 oX 9 (.len 8),
 oX 10 (.bin .neq 7 9)])
 (.cond 10
 (.seq
 (.reg false [
 oX 4 (.mv (.k (.one (.v (.bool) (false)))))])
 .ret)
 .skip))
 (.seq
 (.seq
 (.reg false [
 oX 5 (.mv (kX 0))])
 (.join ⟨[], []⟩ [] []
 (.block 0
 (.loop 0 ⟨[(0, .one (.c (.v (lX)))), (1, .one (.c (.v (lX)))), (5, sX)], []⟩ [] []
 (.seq
 (.seq
 (.reg false [
 oX 11 (.mv 5),
 oX 12 (.mv 0),
 oX 13 (.len 12),
 oX 14 (.bin .lss 11 13)])
 (.cond 14
 .skip
 (.exit 0)))
 (.seq
 (.block 1
 (.seq
 (.reg true [
 oX 17 (.mv 0),
 oX 18 (.mv 5),
 oX 19 (.idxA 1 17 18),
 oX 20 (.load false 1 19),
 oX 21 (.mv 1),
 oX 22 (.mv 5),
 oX 23 (.idxA 1 21 22),
 oX 24 (.load false 1 23),
 oX 25 (.bin .neq 20 24)])
 (.cond 25
 (.seq
 (.reg false [
 oX 4 (.mv (.k (.one (.v (.bool) (false)))))])
 .ret)
 .skip)))
 (.reg false [
 oX 15 (.mv 5),
 oX 16 (.bin .add 15 (kX 1)),
 oX 5 (.mv 16)])))))))
 (.seq
 (.reg false [
 oX 4 (.mv (.k (.one (.v (.bool) (true)))))])
 .ret))))
def ms_laws_eqIntS : List MRes := [.tmp 4]
theorem n_laws_eqIntS (NN : Nat) (x : DLL (Sig.tys ag_laws_eqIntS)) : runS NN [] sc_laws_eqIntS ms_laws_eqIntS ag_laws_eqIntS rs_laws_eqIntS x = G_laws_eqIntS NN x := by kernel_rfl
theorem k_laws_eqIntS : chkS pX 13 sc_laws_eqIntS.er ms_laws_eqIntS 2 = true := by decide +kernel
theorem p_laws_eqIntS : PureSpec pX 13 fn_laws_eqIntS.M ∧ chkFun pX 13 = true :=
  pure_of_runS (T := []) (sc := sc_laws_eqIntS) (ms := ms_laws_eqIntS) (args := ag_laws_eqIntS) (res := rs_laws_eqIntS) (SOk.nil) follows_ok k_laws_eqIntS F_laws_eqIntS fun x y h => (n_laws_eqIntS FUEL x).trans (f_laws_eqIntS x y h)

def fn_laws_eqEdge : SFn := ⟨79, ag_laws_eqEdge, mu_laws_eqEdge, rs_laws_eqEdge, F_laws_eqEdge⟩
def sc_laws_eqEdge : SCode :=
 (.seq
 (.reg false [
 oX 2 (.box 2 0),
 oX 3 (.box 2 1),
 oX 4 (.mv (.k (.one (.v (.bool) (false)))))])
 (.seq
 (.seq
 (.reg false [
 oX 5 (.fieldA 0 2),
 oX 6 (.load false 1 5),
 oX 7 (.fieldA 0 3),
 oX 8 (.load false 1 7),
 oX 9 (.bin .neq 6 8)])
 (.cond 9
 (.seq
 (.reg false [
 oX 4 (.mv (.k (.one (.v (.bool) (false)))))])
 .ret)
 .skip))
 (.seq
 (.seq
 (.reg false [
 oX 10 (.fieldA 1 2),
 oX 11 (.load false 1 10),
 oX 12 (.fieldA 1 3),
 oX 13 (.load false 1 12),
 oX 14 (.bin .neq 11 13)])
 (.cond 14
 (.seq
 (.reg false [
 oX 4 (.mv (.k (.one (.v (.bool) (false)))))])
 .ret)
 .skip))
 (.seq
 (.reg false [
 oX 4 (.mv (.k (.one (.v (.bool) (true)))))])
 .ret))))
def ms_laws_eqEdge : List MRes := [.tmp 4]
theorem n_laws_eqEdge (NN : Nat) (x : DLL (Sig.tys ag_laws_eqEdge)) : runS NN [] sc_laws_eqEdge ms_laws_eqEdge ag_laws_eqEdge rs_laws_eqEdge x = G_laws_eqEdge NN x := by kernel_rfl
theorem k_laws_eqEdge : chkS pX 79 sc_laws_eqEdge.er ms_laws_eqEdge 2 = true := by decide +kernel
theorem p_laws_eqEdge : PureSpec pX 79 fn_laws_eqEdge.M ∧ chkFun pX 79 = true :=
  pure_of_runS (T := []) (sc := sc_laws_eqEdge) (ms := ms_laws_eqEdge) (args := ag_laws_eqEdge) (res := rs_laws_eqEdge) (SOk.nil) follows_ok k_laws_eqEdge F_laws_eqEdge fun x y h => (n_laws_eqEdge FUEL x).trans (f_laws_eqEdge x y h)

def fn_laws_eqEdgeS : SFn := ⟨41, ag_laws_eqEdgeS, mu_laws_eqEdgeS, rs_laws_eqEdgeS, F_laws_eqEdgeS⟩
def sc_laws_eqEdgeS : SCode :=
 (.seq
 (.reg false [
 oX 4 (.mv (.k (.one (.v (.bool) (false)))))])
 (.seq
 (.seq
 (.reg false [
 oX 6 (.mv 0),
 oX 7 (.len 6),
 oX 8 (.mv 1),
 oX 9 (.len 8),
 oX 10 (.bin .neq 7 9)])
 (.cond 10
 (.seq
 (.reg false [
 oX 4 (.mv (.k (.one (.v (.bool) (false)))))])
 .ret)
 .skip))
 (.seq
 (.seq
 (.reg false [
 oX 5 (.mv (kX 0))])
 (.join ⟨[], []⟩ [] []
 (.block 0
 (.loop 0 ⟨[(0, .one (.c (.v (.list [.int .i64, .int .i64])))), (1, .one (.c (.v (.list [.int .i64, .int .i64])))), (5, sX)], []⟩ [] []
 (.seq
 (.seq
 (.reg false [
 oX 11 (.mv 5),
 oX 12 (.mv 0),
 oX 13 (.len 12),
 oX 14 (.bin .lss 11 13)])
 (.cond 14
 .skip
 (.exit 0)))
 (.seq
 (.block 1
 (.seq
 (.reg true [
 oX 17 (.mv 0),
 oX 18 (.mv 5),
 oX 19 (.idxA 2 17 18),
 oX 20 (.load true 2 19),
 oX 21 (.mv 1),
 oX 22 (.mv 5),
 oX 23 (.idxA 2 21 22),
 oX 24 (.load true 2 23),
 oX 25 (.call .froz 79 [20, 24]),
 oX 26 (.un .not 25)])
 (.cond 26
 (.seq
 (.reg false [
 oX 4 (.mv (.k (.one (.v (.bool) (false)))))])
 .ret)
 .skip)))
 (.reg false [
 oX 15 (.mv 5),
 oX 16 (.bin .add 15 (kX 1)),
 oX 5 (.mv 16)])))))))
 (.seq
 (.reg false [
 oX 4 (.mv (.k (.one (.v (.bool) (true)))))])
 .ret))))
def ms_laws_eqEdgeS : List MRes := [.tmp 4]
theorem n_laws_eqEdgeS (NN : Nat) (x : DLL (Sig.tys ag_laws_eqEdgeS)) : runS NN [fn_laws_eqEdge] sc_laws_eqEdgeS ms_laws_eqEdgeS ag_laws_eqEdgeS rs_laws_eqEdgeS x = G_laws_eqEdgeS NN x := by kernel_rfl
theorem k_laws_eqEdgeS : chkS pX 41 sc_laws_eqEdgeS.er ms_laws_eqEdgeS 2 = true := by decide +kernel
theorem p_laws_eqEdgeS : PureSpec pX 41 fn_laws_eqEdgeS.M ∧ chkFun pX 41 = true :=
  pure_of_runS (T := [fn_laws_eqEdge]) (sc := sc_laws_eqEdgeS) (ms := ms_laws_eqEdgeS) (args := ag_laws_eqEdgeS) (res := rs_laws_eqEdgeS) (SOk.cons p_laws_eqEdge <| SOk.nil) follows_ok k_laws_eqEdgeS F_laws_eqEdgeS fun x y h => (n_laws_eqEdgeS FUEL x).trans (f_laws_eqEdgeS x y h)

def fn_laws_eqGraph : SFn := ⟨14, ag_laws_eqGraph, mu_laws_eqGraph, rs_laws_eqGraph, F_laws_eqGraph⟩
def sc_laws_eqGraph : SCode :=
 (.seq
 (.reg false [
 oX 2 (.box 2 0),
 oX 3 (.box 2 1),
 oX 4 (.mv (.k (.one (.v (.bool) (false)))))])
 (.seq
 (.seq
 (.reg false [
 oX 5 (.fieldA 0 2),
 oX 6 (.load false 1 5),
 oX 7 (.fieldA 0 3),
 oX 8 (.load false 1 7),
 oX 9 (.bin .neq 6 8)])
 (.cond 9
 (.seq
 (.reg false [
 oX 4 (.mv (.k (.one (.v (.bool) (false)))))])
 .ret)
 .skip))
 (.seq
 (.seq
 (.reg false [
 oX 10 (.fieldA 1 2),
 oX 11 (.load false 1 10),
 oX 12 (.fieldA 1 3),
 oX 13 (.load false 1 12),
 oX 14 (.call .froz 41 [11, 13]),
 oX 15 (.un .not 14)])
 (.cond 15
 (.seq
 (.reg false [
 oX 4 (.mv (.k (.one (.v (.bool) (false)))))])
 .ret)
 .skip))
 (.seq
 (.reg false [
 oX 4 (.mv (.k (.one (.v (.bool) (true)))))])
 .ret))))
def ms_laws_eqGraph : List MRes := [.tmp 4]
theorem n_laws_eqGraph (NN : Nat) (x : DLL (Sig.tys ag_laws_eqGraph)) : runS NN [fn_laws_eqEdgeS] sc_laws_eqGraph ms_laws_eqGraph ag_laws_eqGraph rs_laws_eqGraph x = G_laws_eqGraph NN x := by kernel_rfl
theorem k_laws_eqGraph : chkS pX 14 sc_laws_eqGraph.er ms_laws_eqGraph 2 = true := by decide +kernel
theorem p_laws_eqGraph : PureSpec pX 14 fn_laws_eqGraph.M ∧ chkFun pX 14 = true :=
  pure_of_runS (T := [fn_laws_eqEdgeS]) (sc := sc_laws_eqGraph) (ms := ms_laws_eqGraph) (args := ag_laws_eqGraph) (res := rs_laws_eqGraph) (SOk.cons p_laws_eqEdgeS <| SOk.nil) follows_ok k_laws_eqGraph F_laws_eqGraph fun x y h => (n_laws_eqGraph FUEL x).trans (f_laws_eqGraph x y h)

def fn_laws_markEdgeS : SFn := ⟨42, ag_laws_markEdgeS, mu_laws_markEdgeS, rs_laws_markEdgeS, F_laws_markEdgeS⟩
def sc_laws_markEdgeS : SCode :=
 (.seq
 (.reg false [
 oX 4 (.mv (kX 0))])
 (.seq
 (.seq
 (.reg false [
 oX 5 (.mv (kX 0))])
 (.join ⟨[(1, sX)], [(1000000, .row false .froz [.int .i64, .int .i64])]⟩ [1000000] []
 (.block 0
 (.loop 0 ⟨[(0, .one (fX 1000000 2)), (1, sX), (5, sX)], [(1000000, .row false .froz [.int .i64, .int .i64])]⟩ [1000000, 500000] [(false, 0, 0, 500000, .froz, [])]
 (.seq
 (.seq
 (.reg false [
 oX 6 (.mv 5),
 oX 7 (.mv 0),
 oX 8 (.len 7),
 oX 9 (.bin .lss 6 8)])
 (.cond 9
 .skip
 (.exit 0)))
 (.seq
 (.block 1
 (.seq
 (.reg false [
 oX 12 (.mv 0),
 oX 13 (.mv 5),
 oX 14 (.mv 1),
 oX 15 (.idxA 2 12 13),
 oX 16 (.fieldA 0 15),
 uX (.store 1 16 14)])
 (.seq
 (.reg false [
 oX 17 (.mv 1),
 oX 18 (.bin .add 17 (kX 1)),
 oX 1 (.mv 18)])
 (.seq
 (.reg false [
 oX 19 (.mv 0),
 oX 20 (.mv 5),
 oX 21 (.mv 1),
 oX 22 (.idxA 2 19 20),
 oX 23 (.fieldA 1 22),
 uX (.store 1 23 21)])
 (.reg false [
 oX 24 (.mv 1),
 oX 25 (.bin .add 24 (kX 1)),
 oX 1 (.mv 25)])))))
 (.reg false [
 oX 10 (.mv 5),
 oX 11 (.bin .add 10 (kX 1)),
 oX 5 (.mv 11)])))))))
 (.seq
 (.reg false [
 oX 26 (.mv 1),
 oX 4 (.mv 26)])
 .ret)))
def ms_laws_markEdgeS : List MRes := [.tmp 4]
theorem n_laws_markEdgeS (NN : Nat) (x : DLL (Sig.tys ag_laws_markEdgeS)) : runMS NN [] sc_laws_markEdgeS ms_laws_markEdgeS ag_laws_markEdgeS mu_laws_markEdgeS rs_laws_markEdgeS x = G_laws_markEdgeS NN x := by kernel_rfl
theorem k_laws_markEdgeS : chkS pX 42 sc_laws_markEdgeS.er ms_laws_markEdgeS 2 = true := by decide +kernel
theorem p_laws_markEdgeS : MutSpec pX 42 mu_laws_markEdgeS fn_laws_markEdgeS.MM ∧ chkFun pX 42 = true :=
  mut_of_runMS (T := []) (sc := sc_laws_markEdgeS) (ms := ms_laws_markEdgeS) (args := ag_laws_markEdgeS) (mu := mu_laws_markEdgeS) (res := rs_laws_markEdgeS) (SOk.nil) follows_ok k_laws_markEdgeS F_laws_markEdgeS fun x y h => (n_laws_markEdgeS FUEL x).trans (f_laws_markEdgeS x y h)

def fn_laws_markGraph : SFn := ⟨15, ag_laws_markGraph, mu_laws_markGraph, rs_laws_markGraph, F_laws_markGraph⟩
def sc_laws_markGraph : SCode :=
 (.seq
 (.reg false [
 oX 2 (.box 2 0),
 oX 4 (.mv (kX 0))])
 (.seq
 (.reg false [
 oX 5 (.fieldA 1 2),
 oX 6 (.load false 1 5),
 oX 7 (.mv 1),
 oX 8 (.callm .froz 42 [6, 7]),
 oX 1 (.mv 8)])
 (.seq
 (.reg false [
 oX 9 (.mv 1),
 oX 4 (.mv 9)])
 .ret)))
def ms_laws_markGraph : List MRes := [.tmp 4]
theorem n_laws_markGraph (NN : Nat) (x : DLL (Sig.tys ag_laws_markGraph)) : runMS NN [fn_laws_markEdgeS] sc_laws_markGraph ms_laws_markGraph ag_laws_markGraph mu_laws_markGraph rs_laws_markGraph x = G_laws_markGraph NN x := by kernel_rfl
theorem k_laws_markGraph : chkS pX 15 sc_laws_markGraph.er ms_laws_markGraph 2 = true := by decide +kernel
theorem p_laws_markGraph : MutSpec pX 15 mu_laws_markGraph fn_laws_markGraph.MM ∧ chkFun pX 15 = true :=
  mut_of_runMS (T := [fn_laws_markEdgeS]) (sc := sc_laws_markGraph) (ms := ms_laws_markGraph) (args := ag_laws_markGraph) (mu := mu_laws_markGraph) (res := rs_laws_markGraph) (SOk.consM p_laws_markEdgeS <| SOk.nil) follows_ok k_laws_markGraph F_laws_markGraph fun x y h => (n_laws_markGraph FUEL x).trans (f_laws_markGraph x y h)

def fn_laws_markIntS : SFn := ⟨16, ag_laws_markIntS, mu_laws_markIntS, rs_laws_markIntS, F_laws_markIntS⟩
def sc_laws_markIntS : SCode :=
 (.seq
 (.reg false [
 oX 4 (.mv (kX 0))])
 (.seq
 (.seq
 (.reg false [
 oX 5 (.mv (kX 0))])
 (.join ⟨[(1, sX)], [(1000000, .row false .froz iX)]⟩ [1000000] []
 (.block 0
 (.loop 0 ⟨[(0, .one (fX 1000000 1)), (1, sX), (5, sX)], [(1000000, .row false .froz iX)]⟩ [1000000, 500000] [(false, 0, 0, 500000, .froz, [])]
 (.seq
 (.seq
 (.reg false [
 oX 6 (.mv 5),
 oX 7 (.mv 0),
 oX 8 (.len 7),
 oX 9 (.bin .lss 6 8)])
 (.cond 9
 .skip
 (.exit 0)))
 (.seq
 (.block 1
 (.seq
 (.reg false [
 oX 12 (.mv 0),
 oX 13 (.mv 5),
 oX 14 (.mv 1),
 oX 15 (.idxA 1 12 13),
 uX (.store 1 15 14)])
 (.reg false [
 oX 16 (.mv 1),
 oX 17 (.bin .add 16 (kX 1)),
 oX 1 (.mv 17)])))
 (.reg false [
 oX 10 (.mv 5),
 oX 11 (.bin .add 10 (kX 1)),
 oX 5 (.mv 11)])))))))
 (.seq
 (.reg false [
 oX 18 (.mv 1),
 oX 4 (.mv 18)])
 .ret)))
def ms_laws_markIntS : List MRes := [.tmp 4]
theorem n_laws_markIntS (NN : Nat) (x : DLL (Sig.tys ag_laws_markIntS)) : runMS NN [] sc_laws_markIntS ms_laws_markIntS ag_laws_markIntS mu_laws_markIntS rs_laws_markIntS x = G_laws_markIntS NN x := by kernel_rfl
theorem k_laws_markIntS : chkS pX 16 sc_laws_markIntS.er ms_laws_markIntS 2 = true := by decide +kernel
theorem p_laws_markIntS : MutSpec pX 16 mu_laws_markIntS fn_laws_markIntS.MM ∧ chkFun pX 16 = true :=
  mut_of_runMS (T := []) (sc := sc_laws_markIntS) (ms := ms_laws_markIntS) (args := ag_laws_markIntS) (mu := mu_laws_markIntS) (res := rs_laws_markIntS) (SOk.nil) follows_ok k_laws_markIntS F_laws_markIntS fun x y h => (n_laws_markIntS FUEL x).trans (f_laws_markIntS x y h)

def fn_laws_heldIntS : SFn := ⟨17, ag_laws_heldIntS, mu_laws_heldIntS, rs_laws_heldIntS, F_laws_heldIntS⟩
def sc_laws_heldIntS : SCode :=
 (.seq
 (.reg false [
 oX 4 (.mv (kX 0))])
 (.seq
 (.seq
 (.reg false [
 oX 5 (.mv (kX 0))])
 (.join ⟨[(1, sX)], []⟩ [] []
 (.block 0
 (.loop 0 ⟨[(0, .one (.c (.v (lX)))), (1, sX), (5, sX)], []⟩ [] []
 (.seq
 (.seq
 (.reg false [
 oX 6 (.mv 5),
 oX 7 (.mv 0),
 oX 8 (.len 7),
 oX 9 (.bin .lss 6 8)])
 (.cond 9
 .skip
 (.exit 0)))
 (.seq
 (.block 1
 (.seq
 (.seq
 (.reg false [
 oX 12 (.mv 0),
 oX 13 (.mv 5),
 oX 14 (.idxA 1 12 13),
 oX 15 (.load false 1 14),
 oX 16 (.mv 1),
 oX 17 (.bin .neq 15 16)])
 (.cond 17
 (.seq
 (.reg false [
 oX 4 (.mv (kX (-1)))])
 .ret)
 .skip))
 (.reg false [
 oX 18 (.mv 1),
 oX 19 (.bin .add 18 (kX 1)),
 oX 1 (.mv 19)])))
 (.reg false [
 oX 10 (.mv 5),
 oX 11 (.bin .add 10 (kX 1)),
 oX 5 (.mv 11)])))))))
 (.seq
 (.reg false [
 oX 20 (.mv 1),
 oX 4 (.mv 20)])
 .ret)))
def ms_laws_heldIntS : List MRes := [.tmp 4]
theorem n_laws_heldIntS (NN : Nat) (x : DLL (Sig.tys ag_laws_heldIntS)) : runS NN [] sc_laws_heldIntS ms_laws_heldIntS ag_laws_heldIntS rs_laws_heldIntS x = G_laws_heldIntS NN x := by kernel_rfl
theorem k_laws_heldIntS : chkS pX 17 sc_laws_heldIntS.er ms_laws_heldIntS 2 = true := by decide +kernel
theorem p_laws_heldIntS : PureSpec pX 17 fn_laws_heldIntS.M ∧ chkFun pX 17 = true :=
  pure_of_runS (T := []) (sc := sc_laws_heldIntS) (ms := ms_laws_heldIntS) (args := ag_laws_heldIntS) (res := rs_laws_heldIntS) (SOk.nil) follows_ok k_laws_heldIntS F_laws_heldIntS fun x y h => (n_laws_heldIntS FUEL x).trans (f_laws_heldIntS x y h)

def fn_laws_FnExactSpinByEdges : SFn := ⟨5, ag_laws_FnExactSpinByEdges, mu_laws_FnExactSpinByEdges, rs_laws_FnExactSpinByEdges, F_laws_FnExactSpinByEdges⟩
def sc_laws_FnExactSpinByEdges : SCode :=
 (.seq
 (.reg false [
 oX 4 (.box 3 0),
 oX 5 (.box 2 1),
 oX 8 (.mv (.k (.one (.v (.bool) (false)))))])
 (.seq
 (.seq
 (.reg false [
 oX 18 (.mv 3),
 oX 19 (.len 18),
 oX 20 (.bin .gtr 19 (kX 1048576))])
 (.cond 20
 (.seq
 (.reg false [
 oX 8 (.mv (.k (.one (.v (.bool) (true)))))])
 .ret)
 .skip))
 (.seq
 (.reg false [
 oX 9 (.mv (kX 1048576))])
 (.seq
 (.reg false [
 oX 21 (.load true 2 5),
 oX 22 (.mv 9),
 oX 23 (.call .froz 7 [21, 22]),
 oX 9 (.mv 23)])
 (.seq
 (.seq
 (.reg false [
 oX 24 (.mv 9),
 oX 25 (.bin .lss 24 (kX 0))])
 (.cond 25
 (.seq
 (.reg false [
 oX 8 (.mv (.k (.one (.v (.bool) (true)))))])
 .ret)
 .skip))
 (.seq
 (.reg true [
 oX 26 (.load true 3 4),
 oX 27 (.call .froz 9 [26]),
 oX 28 (.load true 2 5),
 oX 29 (.call .froz 10 [28]),
 oX 30 (.mv 2),
 oX 31 (.mv 3),
 oX 32 (.call .froz 11 [31]),
 oX 33 (.call .froz 20 [27, 29, 30, 32]),
 oX 10 (.mv 33)])
 (.seq
 (.reg false [
 oX 34 (.load true 2 5),
 oX 35 (.call .froz 10 [34]),
 oX 11 (.alloc [zX, .nil [.int .i64, .int .i64]]),
 uX (.store 2 11 35)])
 (.seq
 (.reg false [
 oX 36 (.mv 3),
 oX 37 (.call .froz 11 [36]),
 oX 12 (.mv 37)])
 (.seq
 (.reg true [
 oX 38 (.load true 3 4),
 oX 39 (.call .froz 9 [38]),
 oX 40 (.load true 2 11),
 oX 41 (.mv 2),
 oX 42 (.mv 12),
 oX 43 (.call .froz 21 [39, 40, 41, 42]),
 oX 13 (.mv 43)])
 (.seq
 (.seq
 (.reg false [
 oX 44 (.mv 13),
 oX 45 (.mv 10),
 oX 46 (.call .froz 13 [44, 45]),
 oX 47 (.un .not 46)])
 (.cond 47
 (.seq
 (.reg false [
 oX 8 (.mv (.k (.one (.v (.bool) (false)))))])
 .ret)
 .skip))
 (.seq
 (.seq
 (.reg true [
 oX 48 (.load true 2 11),
 oX 49 (.load true 2 5),
 oX 50 (.call .froz 10 [49]),
 oX 51 (.call .froz 14 [48, 50]),
 oX 52 (.un .not 51)])
 (.cond 52
 (.seq
 (.reg false [
 oX 8 (.mv (.k (.one (.v (.bool) (false)))))])
 .ret)
 .skip))
 (.seq
 (.seq
 (.reg false [
 oX 53 (.mv 12),
 oX 54 (.mv 3),
 oX 55 (.call .froz 11 [54]),
 oX 56 (.call .froz 13 [53, 55]),
 oX 57 (.un .not 56)])
 (.cond 57
 (.seq
 (.reg false [
 oX 8 (.mv (.k (.one (.v (.bool) (false)))))])
 .ret)
 .skip))
 (.seq
 (.reg false [
 oX 14 (.mv (kX 1))])
 (.seq
 (.reg false [
 oX 58 (.load true 2 11),
 oX 59 (.mv 14),
 oX 60 (.callm .froz 15 [58, 59]),
 oX 14 (.mv 60)])
 (.seq
 (.reg false [
 oX 61 (.mv 12),
 oX 62 (.mv 14),
 oX 63 (.callm .froz 16 [61, 62]),
 oX 14 (.mv 63)])
 (.seq
 (.seq
 (.reg false [
 oX 64 (.mv 14),
 oX 65 (.bin .lss 64 (kX 0)),
 oX 66 (.mv 65),
 ⟨(some 67), .mv 13, (some (66, false))⟩,
 ⟨(some 68), .mv 10, (some (66, false))⟩,
 ⟨(some 69), .call .froz 13 [67, 68], (some (66, false))⟩,
 ⟨(some 70), .un .not 69, (some (66, false))⟩,
 oX 71 (.pick 66 (.k (.one (.v (.bool) (true)))) 70)])
 (.cond 71
 (.seq
 (.reg false [
 oX 8 (.mv (.k (.one (.v (.bool) (false)))))])
 .ret)
 .skip))
 (.seq
 (.reg false [
 oX 15 (.mv (kX 1))])
 (.seq
 (.reg false [
 oX 72 (.mv 13),
 oX 73 (.mv 15),
 oX 74 (.callm .froz 16 [72, 73]),
 oX 15 (.mv 74)])
 (.seq
 (.reg false [
 oX 16 (.mv (kX 1))])
 (.seq
 (.reg false [
 oX 75 (.mv 13),
 oX 76 (.mv 16),
 oX 77 (.call .froz 17 [75, 76]),
 oX 16 (.mv 77)])
 (.seq
 (.seq
 (.reg false [
 oX 78 (.mv 16),
 oX 79 (.bin .lss 78 (kX 0))])
 (.cond 79
 (.seq
 (.reg false [
 oX 8 (.mv (.k (.one (.v (.bool) (false)))))])
 .ret)
 .skip))
 (.seq
 (.seq
 (.reg false [
 oX 80 (.mv 16),
 oX 81 (.mv 15),
 oX 82 (.bin .neq 80 81)])
 (.cond 82
 (.seq
 (.reg false [
 oX 8 (.mv (.k (.one (.v (.bool) (false)))))])
 .ret)
 .skip))
 (.seq
 (.reg true [
 oX 83 (.load true 3 4),
 oX 84 (.call .froz 9 [83]),
 oX 85 (.load true 2 5),
 oX 86 (.call .froz 10 [85]),
 oX 87 (.mv 2),
 oX 88 (.mv 3),
 oX 89 (.call .froz 11 [88]),
 oX 90 (.call .froz 21 [84, 86, 87, 89]),
 oX 17 (.mv 90)])
 (.seq
 (.seq
 (.reg false [
 oX 91 (.mv 17),
 oX 92 (.mv 10),
 oX 93 (.call .froz 13 [91, 92]),
 oX 94 (.un .not 93)])
 (.cond 94
 (.seq
 (.reg false [
 oX 8 (.mv (.k (.one (.v (.bool) (false)))))])
 .ret)
 .skip))
 (.seq
 (.reg false [
 oX 16 (.mv (kX 1))])
 (.seq
 (.reg false [
 oX 95 (.mv 13),
 oX 96 (.mv 16),
 oX 97 (.call .froz 17 [95, 96]),
 oX 16 (.mv 97)])
 (.seq
 (.seq
 (.reg false [
 oX 98 (.mv 16),
 oX 99 (.bin .lss 98 (kX 0))])
 (.cond 99
 (.seq
 (.reg false [
 oX 8 (.mv (.k (.one (.v (.bool) (false)))))])
 .ret)
 .skip))
 (.seq
 (.seq
 (.reg false [
 oX 100 (.mv 16),
 oX 101 (.mv 15),
 oX 102 (.bin .neq 100 101)])
 (.cond 102
 (.seq
 (.reg false [
 oX 8 (.mv (.k (.one (.v (.bool) (false)))))])
 .ret)
 .skip))
 (.seq
 (.reg false [
 oX 8 (.mv (.k (.one (.v (.bool) (true)))))])
 .ret)))))))))))))))))))))))))))))
def ms_laws_FnExactSpinByEdges : List MRes := [.tmp 8]
theorem n_laws_FnExactSpinByEdges (NN : Nat) (x : DLL (Sig.tys ag_laws_FnExactSpinByEdges)) : runS NN [fn_laws_szGraph, fn_laws_toRing, fn_laws_toGraph, fn_laws_toIntS, fn_spec_SpinByEdges, fn_impl_SpinByEdges, fn_laws_eqIntS, fn_laws_eqGraph, fn_laws_markGraph, fn_laws_markIntS, fn_laws_heldIntS] sc_laws_FnExactSpinByEdges ms_laws_FnExactSpinByEdges ag_laws_FnExactSpinByEdges rs_laws_FnExactSpinByEdges x = G_laws_FnExactSpinByEdges NN x := by kernel_rfl
theorem k_laws_FnExactSpinByEdges : chkS pX 5 sc_laws_FnExactSpinByEdges.er ms_laws_FnExactSpinByEdges 4 = true := by decide +kernel
theorem p_laws_FnExactSpinByEdges : PureSpec pX 5 fn_laws_FnExactSpinByEdges.M ∧ chkFun pX 5 = true :=
  pure_of_runS (T := [fn_laws_szGraph, fn_laws_toRing, fn_laws_toGraph, fn_laws_toIntS, fn_spec_SpinByEdges, fn_impl_SpinByEdges, fn_laws_eqIntS, fn_laws_eqGraph, fn_laws_markGraph, fn_laws_markIntS, fn_laws_heldIntS]) (sc := sc_laws_FnExactSpinByEdges) (ms := ms_laws_FnExactSpinByEdges) (args := ag_laws_FnExactSpinByEdges) (res := rs_laws_FnExactSpinByEdges) (SOk.cons p_laws_szGraph <| SOk.cons p_laws_toRing <| SOk.cons p_laws_toGraph <| SOk.cons p_laws_toIntS <| SOk.cons p_spec_SpinByEdges <| SOk.cons p_impl_SpinByEdges <| SOk.cons p_laws_eqIntS <| SOk.cons p_laws_eqGraph <| SOk.consM p_laws_markGraph <| SOk.consM p_laws_markIntS <| SOk.cons p_laws_heldIntS <| SOk.nil) follows_ok k_laws_FnExactSpinByEdges F_laws_FnExactSpinByEdges fun x y h => (n_laws_FnExactSpinByEdges FUEL x).trans (f_laws_FnExactSpinByEdges x y h)

end Go.Am
