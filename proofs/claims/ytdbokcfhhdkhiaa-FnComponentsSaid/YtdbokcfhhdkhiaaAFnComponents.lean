/- A_FnComponents: the code of the functions of FnComponents. No condition. -/
import Derived.Test.YtdbokcfhhdkhiaaLFnComponents
import Derived.Test.YtdbokcfhhdkhiaaBr2
import Derived.KernelRfl
import Derived.Test.YtdbokcfhhdkhiaaRows
set_option linter.unusedVariables false
set_option maxRecDepth 100000
namespace Go.Am
theorem follows_ok : Go.Proofs.Try.prog.follows .mixedOrders = true := by decide +kernel
noncomputable abbrev pX := Go.Proofs.Try.prog
def oX (n : Nat) (x : SOp) : SOper := ⟨some n, x, none⟩
def uX (x : SOp) : SOper := ⟨none, x, none⟩
def kX (n : Int) : SMO := .k (.one (.v (.int .i64) n))
def sX : ShV := .one (.c (.v (.int .i64)))
def iX : List Ty := [.int .i64]
def zX : SC := .v (.int .i64) (0 : Int)
def vX : ShC := .c (.v (.int .i64))
def fX (n k : Nat) : ShC := .c (.full n k)
def rX (n : Nat) : ShC := .c (.ptr0 n 0)
instance tX (n : Nat) : OfNat SMO n := ⟨.t n⟩
def fn_spec_l01New : SFn := ⟨70, ag_spec_l01New, mu_spec_l01New, rs_spec_l01New, F_spec_l01New⟩
def sc_spec_l01New : SCode :=
 (.seq
 (.reg false [
 oX 2 (.mv (.k (.one (.junk))))])
 (.seq
 (.reg false [
 oX 5 (.mv 0),
 oX 6 (.len 5),
 oX 7 (.bin .add (kX 55127) 6),
 oX 3 (.mv 7)])
 (.seq
 (.seq
 (.reg false [
 oX 4 (.mv (kX 0))])
 (.join ⟨[(0, .one (.c (.v (.list [.int .u8])))), (3, sX)], []⟩ [] []
 (.block 0
 (.loop 0 ⟨[(0, .one (.c (.v (.list [.int .u8])))), (3, sX), (4, sX)], []⟩ [] []
 (.seq
 (.seq
 (.reg false [
 oX 8 (.mv 4),
 oX 9 (.mv 0),
 oX 10 (.len 9),
 oX 11 (.bin .lss 8 10),
 oX 12 (.mv 11),
 ⟨(some 13), .mv 4, (some (12, true))⟩,
 ⟨(some 14), .bin .lss 13 (kX 4000), (some (12, true))⟩,
 oX 15 (.pick 12 14 (.k (.one (.v (.bool) (false)))))])
 (.cond 15
 .skip
 (.exit 0)))
 (.seq
 (.block 1
 (.reg false [
 oX 18 (.mv 3),
 oX 19 (.bin .mul 18 (kX 131)),
 oX 20 (.mv 0),
 oX 21 (.mv 4),
 oX 22 (.idxA 1 20 21),
 oX 23 (.load false 1 22),
 oX 24 (.conv .i64 23),
 oX 25 (.bin .add 19 24),
 oX 26 (.bin .add 25 (kX 7)),
 oX 27 (.bin .and 26 (kX 1073741823)),
 oX 3 (.mv 27)]))
 (.reg false [
 oX 16 (.mv 4),
 oX 17 (.bin .add 16 (kX 1)),
 oX 4 (.mv 17)])))))))
 (.seq
 (.reg false [
 oX 28 (.mv 0),
 oX 29 (.mv 3),
 oX 30 (.build [.nil [.int .u8], zX, zX] [(0, 1, 28), (2, 1, 29)]),
 oX 31 (.box 3 30),
 oX 2 (.mv 31)])
 .ret))))
def ms_spec_l01New : List MRes := [.tmp 2]
theorem n_spec_l01New (NN : Nat) (x : DLL (Sig.tys ag_spec_l01New)) : runVS NN [] sc_spec_l01New ms_spec_l01New ag_spec_l01New rs_spec_l01New x = G_spec_l01New NN x := by kernel_rfl
theorem k_spec_l01New : chkS pX 70 sc_spec_l01New.er ms_spec_l01New 1 = true := by decide +kernel
theorem p_spec_l01New : VSpec Go.Proofs.Try.prog 70 fn_spec_l01New.MV ∧ chkFun pX 70 = true :=
  v_of_runVS (T := []) (sc := sc_spec_l01New) (ms := ms_spec_l01New) (args := ag_spec_l01New) (res := rs_spec_l01New) (SOk.nil) follows_ok k_spec_l01New F_spec_l01New fun x y h => (n_spec_l01New FUEL x).trans (f_spec_l01New x y h)

def fn_spec_l45At : SFn := ⟨37, ag_spec_l45At, mu_spec_l45At, rs_spec_l45At, F_spec_l45At⟩
def sc_spec_l45At : SCode :=
 (.seq
 (.reg false [
 oX 4 (.mv (.k (.one (.junk))))])
 (.seq
 (.reg false [
 oX 6 (.mv 0),
 oX 7 (.callb 70 [6]),
 oX 5 (.mv 7)])
 (.seq
 (.reg false [
 oX 8 (.mv 5),
 oX 9 (.mv 1),
 oX 10 (.mv 0),
 oX 11 (.len 10),
 oX 12 (.mm false 9 11),
 oX 13 (.nilchk 8),
 oX 14 (.fieldA 1 13),
 uX (.store 1 14 12)])
 (.seq
 (.reg false [
 oX 15 (.mv 5),
 oX 16 (.mv 5),
 oX 17 (.nilchk 16),
 oX 18 (.fieldA 2 17),
 oX 19 (.load false 1 18),
 oX 20 (.bin .mul 19 (kX 31)),
 oX 21 (.mv 1),
 oX 22 (.bin .mul 21 (kX 7919)),
 oX 23 (.bin .add 20 22),
 oX 24 (.bin .add 23 (kX 1)),
 oX 25 (.bin .and 24 (kX 1073741823)),
 oX 26 (.nilchk 15),
 oX 27 (.fieldA 2 26),
 uX (.store 1 27 25)])
 (.seq
 (.reg false [
 oX 28 (.mv 5),
 oX 4 (.mv 28)])
 .ret)))))
def ms_spec_l45At : List MRes := [.tmp 4]
theorem n_spec_l45At (NN : Nat) (x : DLL (Sig.tys ag_spec_l45At)) : runVS NN [fn_spec_l01New] sc_spec_l45At ms_spec_l45At ag_spec_l45At rs_spec_l45At x = G_spec_l45At NN x := by kernel_rfl
theorem k_spec_l45At : chkS pX 37 sc_spec_l45At.er ms_spec_l45At 2 = true := by decide +kernel
theorem p_spec_l45At : VSpec Go.Proofs.Try.prog 37 fn_spec_l45At.MV ∧ chkFun pX 37 = true :=
  v_of_runVS (T := [fn_spec_l01New]) (sc := sc_spec_l45At) (ms := ms_spec_l45At) (args := ag_spec_l45At) (res := rs_spec_l45At) (SOk.consV p_spec_l01New <| SOk.nil) follows_ok k_spec_l45At F_spec_l45At fun x y h => (n_spec_l45At FUEL x).trans (f_spec_l45At x y h)

def fn_spec_l01Byte : SFn := ⟨72, ag_spec_l01Byte, mu_spec_l01Byte, rs_spec_l01Byte, F_spec_l01Byte⟩
def sc_spec_l01Byte : SCode :=
 (.seq
 (.reg false [
 oX 2 (.mv (kX 0))])
 (.seq
 (.reg false [
 oX 4 (.mv 0),
 oX 5 (.mv 0),
 oX 6 (.nilchk 5),
 oX 7 (.fieldA 2 6),
 oX 8 (.load false 1 7),
 oX 9 (.bin .mul 8 (kX 6364136223846793005)),
 oX 10 (.bin .add 9 (kX 1442695040888963407)),
 oX 11 (.nilchk 4),
 oX 12 (.fieldA 2 11),
 uX (.store 1 12 10)])
 (.seq
 (.reg true [
 oX 13 (.mv 0),
 oX 14 (.nilchk 13),
 oX 15 (.fieldA 2 14),
 oX 16 (.load false 1 15),
 oX 17 (.bin .shr 16 (.k (.one (.v (.int .u64) ((33 : Int)))))),
 oX 18 (.mv 0),
 oX 19 (.nilchk 18),
 oX 20 (.fieldA 2 19),
 oX 21 (.load false 1 20),
 oX 22 (.bin .shr 21 (.k (.one (.v (.int .u64) ((45 : Int)))))),
 oX 23 (.bin .xor 17 22),
 oX 24 (.bin .and 23 (kX 255)),
 oX 3 (.mv 24)])
 (.seq
 (.seq
 (.reg true [
 oX 25 (.mv 0),
 oX 26 (.nilchk 25),
 oX 27 (.fieldA 1 26),
 oX 28 (.load false 1 27),
 oX 29 (.mv 0),
 oX 30 (.nilchk 29),
 oX 31 (.fieldA 0 30),
 oX 32 (.load false 1 31),
 oX 33 (.len 32),
 oX 34 (.bin .lss 28 33)])
 (.join ⟨[(3, sX)], [(1000000, .box [.c (.v (.list [.int .u8])), vX, vX])]⟩ [1000000] []
 (.cond 34
 (.seq
 (.reg true [
 oX 35 (.mv 3),
 oX 36 (.mv 0),
 oX 37 (.nilchk 36),
 oX 38 (.fieldA 0 37),
 oX 39 (.load false 1 38),
 oX 40 (.mv 0),
 oX 41 (.nilchk 40),
 oX 42 (.fieldA 1 41),
 oX 43 (.load false 1 42),
 oX 44 (.idxA 1 39 43),
 oX 45 (.load false 1 44),
 oX 46 (.conv .i64 45),
 oX 47 (.bin .add 35 46),
 oX 48 (.bin .and 47 (kX 255)),
 oX 3 (.mv 48)])
 (.reg false [
 oX 49 (.mv 0),
 oX 50 (.mv 0),
 oX 51 (.nilchk 50),
 oX 52 (.fieldA 1 51),
 oX 53 (.load false 1 52),
 oX 54 (.bin .add 53 (kX 1)),
 oX 55 (.nilchk 49),
 oX 56 (.fieldA 1 55),
 uX (.store 1 56 54)]))
 .skip)))
 (.seq
 (.reg false [
 oX 57 (.mv 3),
 oX 2 (.mv 57)])
 .ret)))))
def ms_spec_l01Byte : List MRes := [.tmp 2]
theorem n_spec_l01Byte (NN : Nat) (x : DLL (Sig.tys ag_spec_l01Byte)) : runVS NN [] sc_spec_l01Byte ms_spec_l01Byte ag_spec_l01Byte rs_spec_l01Byte x = G_spec_l01Byte NN x := by kernel_rfl
theorem k_spec_l01Byte : chkS pX 72 sc_spec_l01Byte.er ms_spec_l01Byte 1 = true := by decide +kernel
theorem p_spec_l01Byte : VSpec Go.Proofs.Try.prog 72 fn_spec_l01Byte.MV ∧ chkFun pX 72 = true :=
  v_of_runVS (T := []) (sc := sc_spec_l01Byte) (ms := ms_spec_l01Byte) (args := ag_spec_l01Byte) (res := rs_spec_l01Byte) (SOk.nil) follows_ok k_spec_l01Byte F_spec_l01Byte fun x y h => (n_spec_l01Byte FUEL x).trans (f_spec_l01Byte x y h)

def fn_spec_l01Below : SFn := ⟨45, ag_spec_l01Below, mu_spec_l01Below, rs_spec_l01Below, F_spec_l01Below⟩
def sc_spec_l01Below : SCode :=
 (.seq
 (.reg false [
 oX 4 (.mv (kX 0))])
 (.seq
 (.seq
 (.reg false [
 oX 5 (.mv 1),
 oX 6 (.bin .leq 5 (kX 0))])
 (.cond 6
 (.seq
 (.reg false [
 oX 4 (.mv (kX 0))])
 .ret)
 .skip))
 (.seq
 (.reg false [
 oX 7 (.mv 0),
 oX 8 (.callb 72 [7]),
 oX 9 (.mv 1),
 oX 10 (.bin .rem 8 9),
 oX 4 (.mv 10)])
 .ret)))
def ms_spec_l01Below : List MRes := [.tmp 4]
theorem n_spec_l01Below (NN : Nat) (x : DLL (Sig.tys ag_spec_l01Below)) : runVS NN [fn_spec_l01Byte] sc_spec_l01Below ms_spec_l01Below ag_spec_l01Below rs_spec_l01Below x = G_spec_l01Below NN x := by kernel_rfl
theorem k_spec_l01Below : chkS pX 45 sc_spec_l01Below.er ms_spec_l01Below 2 = true := by decide +kernel
theorem p_spec_l01Below : VSpec Go.Proofs.Try.prog 45 fn_spec_l01Below.MV ∧ chkFun pX 45 = true :=
  v_of_runVS (T := [fn_spec_l01Byte]) (sc := sc_spec_l01Below) (ms := ms_spec_l01Below) (args := ag_spec_l01Below) (res := rs_spec_l01Below) (SOk.consV p_spec_l01Byte <| SOk.nil) follows_ok k_spec_l01Below F_spec_l01Below fun x y h => (n_spec_l01Below FUEL x).trans (f_spec_l01Below x y h)

def fn_spec_l36Draw : SFn := ⟨36, ag_spec_l36Draw, mu_spec_l36Draw, rs_spec_l36Draw, F_spec_l36Draw⟩
def sc_spec_l36Draw : SCode :=
 (.seq
 (.reg false [
 oX 6 (.alloc [zX, .nil [.int .i64, .int .i64]])])
 (.seq
 (.reg false [
 oX 9 (.mv 0),
 oX 10 (.mv 1),
 oX 11 (.callb 45 [9, 10]),
 oX 12 (.bin .add (kX 1) 11),
 oX 13 (.build [zX, .nil [.int .i64, .int .i64]] [(0, 1, 12)]),
 oX 7 (.alloc [zX, .nil [.int .i64, .int .i64]]),
 uX (.store 2 7 13)])
 (.seq
 (.seq
 (.reg false [
 oX 14 (.mv 0),
 oX 15 (.mv 2),
 oX 16 (.bin .add 15 (kX 1)),
 oX 17 (.callb 45 [14, 16]),
 oX 8 (.mv 17)])
 (.join ⟨[(7, .one (rX 7)), (6, .one (rX 6))], [(1000000, .box [.c (.v (.list [.int .u8])), vX, vX]), (6, .box [vX, fX 500002 2]), (7, .box [vX, fX 500003 2]), (500002, .row true .froz [.int .i64, .int .i64]), (500003, .row true .froz [.int .i64, .int .i64])]⟩ [1000000, 6, 7, 500000, 500001, 500002, 500003] [(true, 6, 1, 500002, .froz, []), (true, 7, 1, 500003, .froz, [])]
 (.block 0
 (.loop 0 ⟨[(0, .one (rX 1000000)), (6, .one (rX 6)), (7, .one (rX 7)), (8, sX)], [(1000000, .box [.c (.v (.list [.int .u8])), vX, vX]), (6, .box [vX, fX 500000 2]), (7, .box [vX, fX 500001 2]), (500000, .row true .froz [.int .i64, .int .i64]), (500001, .row true .froz [.int .i64, .int .i64])]⟩ [1000000, 6, 7, 33, 34, 500000, 500001] [(true, 6, 1, 500000, .froz, []), (true, 7, 1, 500001, .froz, [])]
 (.seq
 (.seq
 (.reg false [
 oX 18 (.mv 8),
 oX 19 (.bin .gtr 18 (kX 0))])
 (.cond 19
 .skip
 (.exit 0)))
 (.seq
 (.block 1
 (.regD [(0, 5), (1, 5), (5, 7), (5, 8), (0, 9), (1, 9), (0, 11), (1, 11)] [
 oX 22 (.fieldA 1 7),
 oX 23 (.load false 1 22),
 oX 24 (.mv 0),
 oX 25 (.fieldA 0 7),
 oX 26 (.load false 1 25),
 oX 27 (.callb 45 [24, 26]),
 oX 28 (.mv 0),
 oX 29 (.fieldA 0 7),
 oX 30 (.load false 1 29),
 oX 31 (.callb 45 [28, 30]),
 oX 32 (.build [zX, zX] [(0, 1, 27), (1, 1, 31)]),
 oX 33 (.bslice [.int .i64, .int .i64] [32]),
 oX 34 (.append true [.int .i64, .int .i64] 16 23 33),
 oX 35 (.fieldA 1 7),
 uX (.store 1 35 34)]))
 (.reg false [
 oX 20 (.mv 8),
 oX 21 (.bin .sub 20 (kX 1)),
 oX 8 (.mv 21)])))))))
 (.seq
 (.reg false [
 oX 36 (.load true 2 7),
 uX (.store 2 6 36)])
 .ret))))
def ms_spec_l36Draw : List MRes := [.cell 6 2 true]
theorem n_spec_l36Draw (NN : Nat) (x : DLL (Sig.tys ag_spec_l36Draw)) : runVS NN [fn_spec_l01Below] sc_spec_l36Draw ms_spec_l36Draw ag_spec_l36Draw rs_spec_l36Draw x = G_spec_l36Draw NN x := by kernel_rfl
theorem k_spec_l36Draw : chkS pX 36 sc_spec_l36Draw.er ms_spec_l36Draw 3 = true := by decide +kernel
theorem p_spec_l36Draw : VSpec Go.Proofs.Try.prog 36 fn_spec_l36Draw.MV ∧ chkFun pX 36 = true :=
  v_of_runVS (T := [fn_spec_l01Below]) (sc := sc_spec_l36Draw) (ms := ms_spec_l36Draw) (args := ag_spec_l36Draw) (res := rs_spec_l36Draw) (SOk.consV p_spec_l01Below <| SOk.nil) follows_ok k_spec_l36Draw F_spec_l36Draw fun x y h => (n_spec_l36Draw FUEL x).trans (f_spec_l36Draw x y h)

def fn_spec_MakeGraph : SFn := ⟨9, ag_spec_MakeGraph, mu_spec_MakeGraph, rs_spec_MakeGraph, F_spec_MakeGraph⟩
def sc_spec_MakeGraph : SCode :=
 (.seq
 (.reg false [
 oX 4 (.alloc [zX, .nil [.int .i64, .int .i64]])])
 (.seq
 (.reg false [
 oX 5 (.mv 0),
 oX 6 (.mv 1),
 oX 7 (.callb 37 [5, 6]),
 oX 8 (.callb 36 [7, (kX 5), (kX 6)]),
 uX (.store 2 4 8)])
 .ret))
def ms_spec_MakeGraph : List MRes := [.cell 4 2 true]
theorem n_spec_MakeGraph (NN : Nat) (x : DLL (Sig.tys ag_spec_MakeGraph)) : runVS NN [fn_spec_l45At, fn_spec_l36Draw] sc_spec_MakeGraph ms_spec_MakeGraph ag_spec_MakeGraph rs_spec_MakeGraph x = G_spec_MakeGraph NN x := by kernel_rfl
theorem k_spec_MakeGraph : chkS pX 9 sc_spec_MakeGraph.er ms_spec_MakeGraph 2 = true := by decide +kernel
theorem p_spec_MakeGraph : VSpec Go.Proofs.Try.prog 9 fn_spec_MakeGraph.MV ∧ chkFun pX 9 = true :=
  v_of_runVS (T := [fn_spec_l45At, fn_spec_l36Draw]) (sc := sc_spec_MakeGraph) (ms := ms_spec_MakeGraph) (args := ag_spec_MakeGraph) (res := rs_spec_MakeGraph) (SOk.consV p_spec_l45At <| SOk.consV p_spec_l36Draw <| SOk.nil) follows_ok k_spec_MakeGraph F_spec_MakeGraph fun x y h => (n_spec_MakeGraph FUEL x).trans (f_spec_MakeGraph x y h)

def fn_impl_GraphOk : SFn := ⟨14, ag_impl_GraphOk, mu_impl_GraphOk, rs_impl_GraphOk, F_impl_GraphOk⟩
def sc_impl_GraphOk : SCode :=
 (.seq
 (.reg false [
 oX 1 (.box 2 0),
 oX 2 (.mv (.k (.one (.v (.bool) (false)))))])
 (.seq
 (.seq
 (.reg false [
 oX 5 (.fieldA 0 1),
 oX 6 (.load false 1 5),
 oX 7 (.bin .lss 6 (kX 0)),
 oX 8 (.mv 7),
 ⟨(some 9), .fieldA 0 1, (some (8, false))⟩,
 ⟨(some 10), .load false 1 9, (some (8, false))⟩,
 ⟨(some 11), .bin .gtr 10 (kX 10), (some (8, false))⟩,
 oX 12 (.pick 8 (.k (.one (.v (.bool) (true)))) 11),
 oX 13 (.mv 12),
 ⟨(some 14), .fieldA 1 1, (some (13, false))⟩,
 ⟨(some 15), .load false 1 14, (some (13, false))⟩,
 ⟨(some 16), .len 15, (some (13, false))⟩,
 ⟨(some 17), .bin .gtr 16 (kX 10), (some (13, false))⟩,
 oX 18 (.pick 13 (.k (.one (.v (.bool) (true)))) 17)])
 (.cond 18
 (.seq
 (.reg false [
 oX 2 (.mv (.k (.one (.v (.bool) (false)))))])
 .ret)
 .skip))
 (.seq
 (.seq
 (.reg false [
 oX 19 (.fieldA 1 1),
 oX 20 (.load false 1 19),
 oX 21 (.len 20),
 oX 22 (.mv (kX 0))])
 (.join ⟨[], []⟩ [1] []
 (.block 0
 (.loop 0 ⟨[(1, .one (rX 1)), (20, .one (.c (.v (.list [.int .i64, .int .i64])))), (21, sX), (22, sX)], [(1, .box [vX, .c (.v (.list [.int .i64, .int .i64]))])]⟩ [1, 4] []
 (.seq
 (.reg false [
 oX 23 (.bin .lss 22 21)])
 (.seq
 (.cond 23
 .skip
 (.exit 0))
 (.seq
 (.block 1
 (.seq
 (.reg false [
 oX 24 (.idxA 2 20 22),
 oX 25 (.load true 2 24),
 oX 4 (.alloc [zX, zX]),
 uX (.store 2 4 25)])
 (.seq
 (.reg false [
 oX 26 (.fieldA 0 4),
 oX 27 (.load false 1 26),
 oX 28 (.bin .lss 27 (kX 0)),
 oX 29 (.mv 28),
 ⟨(some 30), .fieldA 1 4, (some (29, false))⟩,
 ⟨(some 31), .load false 1 30, (some (29, false))⟩,
 ⟨(some 32), .bin .lss 31 (kX 0), (some (29, false))⟩,
 oX 33 (.pick 29 (.k (.one (.v (.bool) (true)))) 32),
 oX 34 (.mv 33),
 ⟨(some 35), .fieldA 0 4, (some (34, false))⟩,
 ⟨(some 36), .load false 1 35, (some (34, false))⟩,
 ⟨(some 37), .fieldA 0 1, (some (34, false))⟩,
 ⟨(some 38), .load false 1 37, (some (34, false))⟩,
 ⟨(some 39), .bin .geq 36 38, (some (34, false))⟩,
 oX 40 (.pick 34 (.k (.one (.v (.bool) (true)))) 39),
 oX 41 (.mv 40),
 ⟨(some 42), .fieldA 1 4, (some (41, false))⟩,
 ⟨(some 43), .load false 1 42, (some (41, false))⟩,
 ⟨(some 44), .fieldA 0 1, (some (41, false))⟩,
 ⟨(some 45), .load false 1 44, (some (41, false))⟩,
 ⟨(some 46), .bin .geq 43 45, (some (41, false))⟩,
 oX 47 (.pick 41 (.k (.one (.v (.bool) (true)))) 46)])
 (.cond 47
 (.seq
 (.reg false [
 oX 2 (.mv (.k (.one (.v (.bool) (false)))))])
 .ret)
 .skip))))
 (.reg false [
 oX 48 (.bin .add 22 (kX 1)),
 oX 22 (.mv 48)]))))))))
 (.seq
 (.reg false [
 oX 2 (.mv (.k (.one (.v (.bool) (true)))))])
 .ret))))
def ms_impl_GraphOk : List MRes := [.tmp 2]
theorem n_impl_GraphOk (NN : Nat) (x : DLL (Sig.tys ag_impl_GraphOk)) : runS NN [] sc_impl_GraphOk ms_impl_GraphOk ag_impl_GraphOk rs_impl_GraphOk x = G_impl_GraphOk NN x := by kernel_rfl
theorem k_impl_GraphOk : chkS pX 14 sc_impl_GraphOk.er ms_impl_GraphOk 1 = true := by decide +kernel
theorem p_impl_GraphOk : PureSpec pX 14 fn_impl_GraphOk.M ∧ chkFun pX 14 = true :=
  pure_of_runS (T := []) (sc := sc_impl_GraphOk) (ms := ms_impl_GraphOk) (args := ag_impl_GraphOk) (res := rs_impl_GraphOk) (SOk.nil) follows_ok k_impl_GraphOk F_impl_GraphOk fun x y h => (n_impl_GraphOk FUEL x).trans (f_impl_GraphOk x y h)

def fn_impl_componentsOf : SFn := ⟨71, ag_impl_componentsOf, mu_impl_componentsOf, rs_impl_componentsOf, F_impl_componentsOf⟩
def sc_impl_componentsOf : SCode :=
 (.seq
 (.reg false [
 oX 2 (.box 2 0),
 oX 4 (.mv (.k (.one (.nil iX))))])
 (.seq
 (.reg false [
 oX 12 (.fieldA 0 2),
 oX 13 (.load false 1 12),
 oX 14 (.mkslice .froz iX 8 (0 : Int) 13 13),
 oX 5 (.mv 14)])
 (.seq
 (.seq
 (.reg false [
 oX 15 (.mv 5),
 oX 16 (.len 15),
 oX 17 (.mv (kX 0))])
 (.join ⟨[(2, .one (rX 2)), (5, .one (fX 500001 1)), (1, sX)], [(2, .box [vX, .c (.v (.list [.int .i64, .int .i64]))]), (500001, .row true .froz iX)]⟩ [2, 500000, 500001] [(false, 5, 0, 500001, .froz, [])]
 (.block 0
 (.loop 0 ⟨[(1, sX), (2, .one (rX 2)), (5, .one (fX 500000 1)), (16, sX), (17, sX)], [(2, .box [vX, .c (.v (.list [.int .i64, .int .i64]))]), (500000, .row true .froz iX)]⟩ [2, 14, 500000] [(false, 5, 0, 500000, .froz, [])]
 (.seq
 (.reg false [
 oX 18 (.bin .lss 17 16)])
 (.seq
 (.cond 18
 .skip
 (.exit 0))
 (.seq
 (.block 1
 (.seq
 (.reg false [
 oX 19 (.mv 17),
 oX 6 (.mv 19)])
 (.reg false [
 oX 20 (.mv 5),
 oX 21 (.mv 6),
 oX 22 (.mv 6),
 oX 23 (.idxA 1 20 21),
 uX (.store 1 23 22)])))
 (.reg false [
 oX 24 (.bin .add 17 (kX 1)),
 oX 17 (.mv 24)]))))))))
 (.seq
 (.seq
 (.reg false [
 oX 25 (.fieldA 1 2),
 oX 26 (.load false 1 25),
 oX 27 (.len 26),
 oX 28 (.mv (kX 0))])
 (.join ⟨[(5, .one (fX 500005 1))], [(500005, .row true .froz iX)]⟩ [500002, 500005] [(false, 5, 0, 500005, .froz, [])]
 (.block 2
 (.loop 0 ⟨[(1, sX), (5, .one (fX 500002 1)), (26, .one (.c (.v (.list [.int .i64, .int .i64])))), (27, sX), (28, sX)], [(500002, .row true .froz iX)]⟩ [2, 500001, 500002, 500004] [(false, 5, 0, 500002, .froz, [])]
 (.seq
 (.reg false [
 oX 29 (.bin .lss 28 27)])
 (.seq
 (.cond 29
 .skip
 (.exit 2))
 (.seq
 (.join ⟨[(28, sX), (1, sX), (5, .one (fX 500004 1)), (26, .one (.c (.v (.list [.int .i64, .int .i64])))), (27, sX)], [(500004, .row true .froz iX)]⟩ [8, 500002, 500003, 500004] [(false, 5, 0, 500004, .froz, [])]
 (.block 3
 (.seq
 (.reg false [
 oX 30 (.mv 28),
 oX 31 (.idxA 2 26 28),
 oX 32 (.load true 2 31),
 oX 8 (.alloc [zX, zX]),
 oX 7 (.mv 30),
 uX (.store 2 8 32)])
 (.seq
 (.seq
 (.reg false [
 oX 33 (.mv 1),
 oX 34 (.mv 7),
 oX 35 (.bin .shr 33 34),
 oX 36 (.bin .and 35 (kX 1)),
 oX 37 (.bin .eql 36 (kX 0))])
 (.cond 37
 (.exit 3)
 .skip))
 (.seq
 (.reg true [
 oX 38 (.mv 5),
 oX 39 (.fieldA 0 8),
 oX 40 (.load false 1 39),
 oX 41 (.idxA 1 38 40),
 oX 42 (.load false 1 41),
 oX 43 (.mv 5),
 oX 44 (.fieldA 1 8),
 oX 45 (.load false 1 44),
 oX 46 (.idxA 1 43 45),
 oX 47 (.load false 1 46),
 oX 48 (.mm false 42 47),
 oX 49 (.mv 5),
 oX 50 (.fieldA 0 8),
 oX 51 (.load false 1 50),
 oX 52 (.idxA 1 49 51),
 oX 53 (.load false 1 52),
 oX 54 (.mv 5),
 oX 55 (.fieldA 1 8),
 oX 56 (.load false 1 55),
 oX 57 (.idxA 1 54 56),
 oX 58 (.load false 1 57),
 oX 59 (.mm true 53 58),
 oX 9 (.mv 48),
 oX 10 (.mv 59)])
 (.seq
 (.reg false [
 oX 60 (.mv 5),
 oX 61 (.len 60),
 oX 62 (.mv (kX 0))])
 (.block 4
 (.loop 0 ⟨[(1, sX), (5, .one (fX 500003 1)), (9, sX), (10, sX), (26, .one (.c (.v (.list [.int .i64, .int .i64])))), (27, sX), (28, sX), (61, sX), (62, sX)], [(500003, .row true .froz iX)]⟩ [8, 500002, 500003] [(false, 5, 0, 500003, .froz, [])]
 (.seq
 (.reg false [
 oX 63 (.bin .lss 62 61)])
 (.seq
 (.cond 63
 .skip
 (.exit 4))
 (.seq
 (.block 5
 (.seq
 (.reg false [
 oX 64 (.mv 62),
 oX 11 (.mv 64)])
 (.seq
 (.reg false [
 oX 65 (.mv 5),
 oX 66 (.mv 11),
 oX 67 (.idxA 1 65 66),
 oX 68 (.load false 1 67),
 oX 69 (.mv 10),
 oX 70 (.bin .eql 68 69)])
 (.cond 70
 (.reg false [
 oX 71 (.mv 5),
 oX 72 (.mv 11),
 oX 73 (.mv 9),
 oX 74 (.idxA 1 71 72),
 uX (.store 1 74 73)])
 .skip))))
 (.reg false [
 oX 75 (.bin .add 62 (kX 1)),
 oX 62 (.mv 75)]))))))))))))
 (.reg false [
 oX 76 (.bin .add 28 (kX 1)),
 oX 28 (.mv 76)]))))))))
 (.seq
 (.reg false [
 oX 77 (.mv 5),
 oX 4 (.mv 77)])
 .ret)))))
def ms_impl_componentsOf : List MRes := [.tmp 4]
theorem n_impl_componentsOf (NN : Nat) (x : DLL (Sig.tys ag_impl_componentsOf)) : runS NN [] sc_impl_componentsOf ms_impl_componentsOf ag_impl_componentsOf rs_impl_componentsOf x = G_impl_componentsOf NN x := by kernel_rfl
theorem k_impl_componentsOf : chkS pX 71 sc_impl_componentsOf.er ms_impl_componentsOf 2 = true := by decide +kernel
theorem p_impl_componentsOf : PureSpec pX 71 fn_impl_componentsOf.M ∧ chkFun pX 71 = true :=
  pure_of_runS (T := []) (sc := sc_impl_componentsOf) (ms := ms_impl_componentsOf) (args := ag_impl_componentsOf) (res := rs_impl_componentsOf) (SOk.nil) follows_ok k_impl_componentsOf F_impl_componentsOf fun x y h => (n_impl_componentsOf FUEL x).trans (f_impl_componentsOf x y h)

def fn_impl_rawComponentCount : SFn := ⟨38, ag_impl_rawComponentCount, mu_impl_rawComponentCount, rs_impl_rawComponentCount, F_impl_rawComponentCount⟩
def sc_impl_rawComponentCount : SCode :=
 (.seq
 (.reg false [
 oX 2 (.box 2 0),
 oX 4 (.mv (kX 0))])
 (.seq
 (.reg false [
 oX 5 (.mv (kX 0))])
 (.seq
 (.seq
 (.reg false [
 oX 8 (.load true 2 2),
 oX 9 (.mv 1),
 oX 10 (.call .froz 71 [8, 9]),
 oX 11 (.len 10),
 oX 12 (.mv (kX 0))])
 (.join ⟨[(5, sX)], []⟩ [500000] []
 (.block 0
 (.loop 0 ⟨[(5, sX), (10, .one (fX 500000 1)), (11, sX), (12, sX)], [(500000, .row true .froz iX)]⟩ [2, 11000, 500000] [(false, 10, 0, 500000, .froz, [])]
 (.seq
 (.reg false [
 oX 13 (.bin .lss 12 11)])
 (.seq
 (.cond 13
 .skip
 (.exit 0))
 (.seq
 (.block 1
 (.seq
 (.reg false [
 oX 14 (.mv 12),
 oX 15 (.idxA 1 10 12),
 oX 16 (.load false 1 15),
 oX 6 (.mv 14),
 oX 7 (.mv 16)])
 (.seq
 (.reg false [
 oX 17 (.mv 6),
 oX 18 (.mv 7),
 oX 19 (.bin .eql 17 18)])
 (.cond 19
 (.reg false [
 oX 20 (.mv 5),
 oX 21 (.bin .add 20 (kX 1)),
 oX 5 (.mv 21)])
 .skip))))
 (.reg false [
 oX 22 (.bin .add 12 (kX 1)),
 oX 12 (.mv 22)]))))))))
 (.seq
 (.reg false [
 oX 23 (.mv 5),
 oX 4 (.mv 23)])
 .ret))))
def ms_impl_rawComponentCount : List MRes := [.tmp 4]
theorem n_impl_rawComponentCount (NN : Nat) (x : DLL (Sig.tys ag_impl_rawComponentCount)) : runS NN [fn_impl_componentsOf] sc_impl_rawComponentCount ms_impl_rawComponentCount ag_impl_rawComponentCount rs_impl_rawComponentCount x = G_impl_rawComponentCount NN x := by kernel_rfl
theorem k_impl_rawComponentCount : chkS pX 38 sc_impl_rawComponentCount.er ms_impl_rawComponentCount 2 = true := by decide +kernel
theorem p_impl_rawComponentCount : PureSpec pX 38 fn_impl_rawComponentCount.M ∧ chkFun pX 38 = true :=
  pure_of_runS (T := [fn_impl_componentsOf]) (sc := sc_impl_rawComponentCount) (ms := ms_impl_rawComponentCount) (args := ag_impl_rawComponentCount) (res := rs_impl_rawComponentCount) (SOk.cons p_impl_componentsOf <| SOk.nil) follows_ok k_impl_rawComponentCount F_impl_rawComponentCount fun x y h => (n_impl_rawComponentCount FUEL x).trans (f_impl_rawComponentCount x y h)

def fn_impl_ComponentCount : SFn := ⟨10, ag_impl_ComponentCount, mu_impl_ComponentCount, rs_impl_ComponentCount, F_impl_ComponentCount⟩
def sc_impl_ComponentCount : SCode :=
 (.seq
 (.reg false [
 oX 2 (.box 2 0),
 oX 4 (.mv (kX 0))])
 (.seq
 (.seq
 (.reg false [
 oX 5 (.load true 2 2),
 oX 6 (.call .froz 14 [5]),
 oX 7 (.un .not 6),
 oX 8 (.mv 7),
 ⟨(some 9), .mv 1, (some (8, false))⟩,
 ⟨(some 10), .bin .lss 9 (kX 0), (some (8, false))⟩,
 oX 11 (.pick 8 (.k (.one (.v (.bool) (true)))) 10),
 oX 12 (.mv 11),
 ⟨(some 13), .mv 1, (some (12, false))⟩,
 ⟨(some 14), .fieldA 1 2, (some (12, false))⟩,
 ⟨(some 15), .load false 1 14, (some (12, false))⟩,
 ⟨(some 16), .len 15, (some (12, false))⟩,
 ⟨(some 17), .bin .shl (kX 1) 16, (some (12, false))⟩,
 ⟨(some 18), .bin .geq 13 17, (some (12, false))⟩,
 oX 19 (.pick 12 (.k (.one (.v (.bool) (true)))) 18)])
 (.cond 19
 (.seq
 (.reg false [
 oX 4 (.mv (kX (-1)))])
 .ret)
 .skip))
 (.seq
 (.reg false [
 oX 20 (.load true 2 2),
 oX 21 (.mv 1),
 oX 22 (.call .froz 38 [20, 21]),
 oX 4 (.mv 22)])
 .ret)))
def ms_impl_ComponentCount : List MRes := [.tmp 4]
theorem n_impl_ComponentCount (NN : Nat) (x : DLL (Sig.tys ag_impl_ComponentCount)) : runS NN [fn_impl_GraphOk, fn_impl_rawComponentCount] sc_impl_ComponentCount ms_impl_ComponentCount ag_impl_ComponentCount rs_impl_ComponentCount x = G_impl_ComponentCount NN x := by kernel_rfl
theorem k_impl_ComponentCount : chkS pX 10 sc_impl_ComponentCount.er ms_impl_ComponentCount 2 = true := by decide +kernel
theorem p_impl_ComponentCount : PureSpec pX 10 fn_impl_ComponentCount.M ∧ chkFun pX 10 = true :=
  pure_of_runS (T := [fn_impl_GraphOk, fn_impl_rawComponentCount]) (sc := sc_impl_ComponentCount) (ms := ms_impl_ComponentCount) (args := ag_impl_ComponentCount) (res := rs_impl_ComponentCount) (SOk.cons p_impl_GraphOk <| SOk.cons p_impl_rawComponentCount <| SOk.nil) follows_ok k_impl_ComponentCount F_impl_ComponentCount fun x y h => (n_impl_ComponentCount FUEL x).trans (f_impl_ComponentCount x y h)

def fn_spec_MakeNum : SFn := ⟨39, ag_spec_MakeNum, mu_spec_MakeNum, rs_spec_MakeNum, F_spec_MakeNum⟩
def sc_spec_MakeNum : SCode :=
 (.seq
 (.reg false [
 oX 4 (.mv (kX 0))])
 (.seq
 (.reg false [
 oX 6 (.mv 0),
 oX 7 (.mv 1),
 oX 8 (.callb 37 [6, 7]),
 oX 5 (.mv 8)])
 (.seq
 (.reg false [
 oX 9 (.mv 5),
 oX 10 (.callb 72 [9]),
 oX 11 (.bin .mul (kX 256) 10),
 oX 12 (.mv 5),
 oX 13 (.callb 72 [12]),
 oX 14 (.bin .add 11 13),
 oX 4 (.mv 14)])
 .ret)))
def ms_spec_MakeNum : List MRes := [.tmp 4]
theorem n_spec_MakeNum (NN : Nat) (x : DLL (Sig.tys ag_spec_MakeNum)) : runVS NN [fn_spec_l45At, fn_spec_l01Byte] sc_spec_MakeNum ms_spec_MakeNum ag_spec_MakeNum rs_spec_MakeNum x = G_spec_MakeNum NN x := by kernel_rfl
theorem k_spec_MakeNum : chkS pX 39 sc_spec_MakeNum.er ms_spec_MakeNum 2 = true := by decide +kernel
theorem p_spec_MakeNum : VSpec Go.Proofs.Try.prog 39 fn_spec_MakeNum.MV ∧ chkFun pX 39 = true :=
  v_of_runVS (T := [fn_spec_l45At, fn_spec_l01Byte]) (sc := sc_spec_MakeNum) (ms := ms_spec_MakeNum) (args := ag_spec_MakeNum) (res := rs_spec_MakeNum) (SOk.consV p_spec_l45At <| SOk.consV p_spec_l01Byte <| SOk.nil) follows_ok k_spec_MakeNum F_spec_MakeNum fun x y h => (n_spec_MakeNum FUEL x).trans (f_spec_MakeNum x y h)

def fn_spec_MakeSize : SFn := ⟨11, ag_spec_MakeSize, mu_spec_MakeSize, rs_spec_MakeSize, F_spec_MakeSize⟩
def sc_spec_MakeSize : SCode :=
 (.seq
 (.reg false [
 oX 8 (.mv (kX 0))])
 (.seq
 (.reg false [
 oX 9 (.mv 2),
 oX 10 (.mv 0),
 oX 11 (.mv 1),
 oX 12 (.callb 39 [10, 11]),
 oX 13 (.mv 3),
 oX 14 (.mv 2),
 oX 15 (.bin .sub 13 14),
 oX 16 (.bin .add 15 (kX 1)),
 oX 17 (.bin .rem 12 16),
 oX 18 (.bin .add 9 17),
 oX 8 (.mv 18)])
 .ret))
def ms_spec_MakeSize : List MRes := [.tmp 8]
theorem n_spec_MakeSize (NN : Nat) (x : DLL (Sig.tys ag_spec_MakeSize)) : runVS NN [fn_spec_MakeNum] sc_spec_MakeSize ms_spec_MakeSize ag_spec_MakeSize rs_spec_MakeSize x = G_spec_MakeSize NN x := by kernel_rfl
theorem k_spec_MakeSize : chkS pX 11 sc_spec_MakeSize.er ms_spec_MakeSize 4 = true := by decide +kernel
theorem p_spec_MakeSize : VSpec Go.Proofs.Try.prog 11 fn_spec_MakeSize.MV ∧ chkFun pX 11 = true :=
  v_of_runVS (T := [fn_spec_MakeNum]) (sc := sc_spec_MakeSize) (ms := ms_spec_MakeSize) (args := ag_spec_MakeSize) (res := rs_spec_MakeSize) (SOk.consV p_spec_MakeNum <| SOk.nil) follows_ok k_spec_MakeSize F_spec_MakeSize fun x y h => (n_spec_MakeSize FUEL x).trans (f_spec_MakeSize x y h)

def fn_impl_DeleteEdge : SFn := ⟨12, ag_impl_DeleteEdge, mu_impl_DeleteEdge, rs_impl_DeleteEdge, F_impl_DeleteEdge⟩
def sc_impl_DeleteEdge : SCode :=
 (.seq
 (.reg false [
 oX 2 (.box 2 0),
 oX 4 (.alloc [zX, .nil [.int .i64, .int .i64]]),
 oX 5 (.mv (.k (.one (.v (.bool) (false)))))])
 (.seq
 (.seq
 (.reg false [
 oX 9 (.load true 2 2),
 oX 10 (.call .froz 14 [9]),
 oX 11 (.un .not 10),
 oX 12 (.mv 11),
 ⟨(some 13), .mv 1, (some (12, false))⟩,
 ⟨(some 14), .bin .lss 13 (kX 0), (some (12, false))⟩,
 oX 15 (.pick 12 (.k (.one (.v (.bool) (true)))) 14),
 oX 16 (.mv 15),
 ⟨(some 17), .mv 1, (some (16, false))⟩,
 ⟨(some 18), .fieldA 1 2, (some (16, false))⟩,
 ⟨(some 19), .load false 1 18, (some (16, false))⟩,
 ⟨(some 20), .len 19, (some (16, false))⟩,
 ⟨(some 21), .bin .geq 17 20, (some (16, false))⟩,
 oX 22 (.pick 16 (.k (.one (.v (.bool) (true)))) 21)])
 (.cond 22
 (.seq
 (.reg false [
 oX 23 (.build [zX, .nil [.int .i64, .int .i64]] []),
 uX (.store 2 4 23),
 oX 5 (.mv (.k (.one (.v (.bool) (false)))))])
 .ret)
 .skip))
 (.seq
 (.reg false [
 oX 24 (.fieldA 0 2),
 oX 25 (.load false 1 24),
 oX 26 (.build [zX, .nil [.int .i64, .int .i64]] [(0, 1, 25)]),
 oX 6 (.alloc [zX, .nil [.int .i64, .int .i64]]),
 uX (.store 2 6 26)])
 (.seq
 (.seq
 (.reg false [
 oX 27 (.fieldA 1 2),
 oX 28 (.load false 1 27),
 oX 29 (.len 28),
 oX 30 (.mv (kX 0))])
 (.join ⟨[(6, .one (rX 6)), (4, .one (rX 4))], [(4, .box [vX, fX 500002 2]), (6, .box [vX, fX 500003 2]), (500002, .row true .froz [.int .i64, .int .i64]), (500003, .row true .froz [.int .i64, .int .i64])]⟩ [4, 6, 500000, 500001, 500002, 500003] [(true, 4, 1, 500002, .froz, []), (true, 6, 1, 500003, .froz, [])]
 (.block 0
 (.loop 0 ⟨[(1, sX), (4, .one (rX 4)), (6, .one (rX 6)), (28, .one (.c (.v (.list [.int .i64, .int .i64])))), (29, sX), (30, sX)], [(4, .box [vX, fX 500000 2]), (6, .box [vX, fX 500001 2]), (500000, .row true .froz [.int .i64, .int .i64]), (500001, .row true .froz [.int .i64, .int .i64])]⟩ [2, 4, 6, 8, 41, 42, 500000, 500001] [(true, 4, 1, 500000, .froz, []), (true, 6, 1, 500001, .froz, [])]
 (.seq
 (.reg false [
 oX 31 (.bin .lss 30 29)])
 (.seq
 (.cond 31
 .skip
 (.exit 0))
 (.seq
 (.block 1
 (.seq
 (.reg false [
 oX 32 (.mv 30),
 oX 33 (.idxA 2 28 30),
 oX 34 (.load true 2 33),
 oX 8 (.alloc [zX, zX]),
 oX 7 (.mv 32),
 uX (.store 2 8 34)])
 (.seq
 (.reg false [
 oX 35 (.mv 7),
 oX 36 (.mv 1),
 oX 37 (.bin .neq 35 36)])
 (.cond 37
 (.reg false [
 oX 38 (.fieldA 1 6),
 oX 39 (.load false 1 38),
 oX 40 (.load true 2 8),
 oX 41 (.bslice [.int .i64, .int .i64] [40]),
 oX 42 (.append true [.int .i64, .int .i64] 16 39 41),
 oX 43 (.fieldA 1 6),
 uX (.store 1 43 42)])
 .skip))))
 (.reg false [
 oX 44 (.bin .add 30 (kX 1)),
 oX 30 (.mv 44)]))))))))
 (.seq
 (.reg false [
 oX 45 (.load true 2 6),
 uX (.store 2 4 45),
 oX 5 (.mv (.k (.one (.v (.bool) (true)))))])
 .ret)))))
def ms_impl_DeleteEdge : List MRes := [.cell 4 2 true, .tmp 5]
theorem n_impl_DeleteEdge (NN : Nat) (x : DLL (Sig.tys ag_impl_DeleteEdge)) : runS NN [fn_impl_GraphOk] sc_impl_DeleteEdge ms_impl_DeleteEdge ag_impl_DeleteEdge rs_impl_DeleteEdge x = G_impl_DeleteEdge NN x := by kernel_rfl
theorem k_impl_DeleteEdge : chkS pX 12 sc_impl_DeleteEdge.er ms_impl_DeleteEdge 2 = true := by decide +kernel
theorem p_impl_DeleteEdge : PureSpec pX 12 fn_impl_DeleteEdge.M ∧ chkFun pX 12 = true :=
  pure_of_runS (T := [fn_impl_GraphOk]) (sc := sc_impl_DeleteEdge) (ms := ms_impl_DeleteEdge) (args := ag_impl_DeleteEdge) (res := rs_impl_DeleteEdge) (SOk.cons p_impl_GraphOk <| SOk.nil) follows_ok k_impl_DeleteEdge F_impl_DeleteEdge fun x y h => (n_impl_DeleteEdge FUEL x).trans (f_impl_DeleteEdge x y h)

def fn_impl_ContractEdge_1 : SFn := ⟨40, ag_impl_ContractEdge_1, mu_impl_ContractEdge_1, rs_impl_ContractEdge_1, F_impl_ContractEdge_1⟩
def sc_impl_ContractEdge_1 : SCode :=
 (.seq
 (.reg false [
 oX 4 (.mv (kX 0))])
 (.seq
 (.seq
 (.reg false [
 oX 5 (.mv 0),
 oX 6 (.load false 1 1),
 oX 7 (.bin .eql 5 6)])
 (.cond 7
 (.seq
 (.reg false [
 oX 8 (.load false 1 2),
 oX 4 (.mv 8)])
 .ret)
 .skip))
 (.seq
 (.seq
 (.reg false [
 oX 9 (.mv 0),
 oX 10 (.load false 1 1),
 oX 11 (.bin .gtr 9 10)])
 (.cond 11
 (.seq
 (.reg false [
 oX 12 (.mv 0),
 oX 13 (.bin .sub 12 (kX 1)),
 oX 4 (.mv 13)])
 .ret)
 .skip))
 (.seq
 (.reg false [
 oX 14 (.mv 0),
 oX 4 (.mv 14)])
 .ret))))
def ms_impl_ContractEdge_1 : List MRes := [.tmp 4]
theorem n_impl_ContractEdge_1 (NN : Nat) (x : DLL (Sig.tys ag_impl_ContractEdge_1)) : runS NN [] sc_impl_ContractEdge_1 ms_impl_ContractEdge_1 ag_impl_ContractEdge_1 rs_impl_ContractEdge_1 x = G_impl_ContractEdge_1 NN x := by kernel_rfl
theorem k_impl_ContractEdge_1 : chkS pX 40 sc_impl_ContractEdge_1.er ms_impl_ContractEdge_1 3 = true := by decide +kernel
theorem p_impl_ContractEdge_1 : PureSpec pX 40 fn_impl_ContractEdge_1.M ∧ chkFun pX 40 = true :=
  pure_of_runS (T := []) (sc := sc_impl_ContractEdge_1) (ms := ms_impl_ContractEdge_1) (args := ag_impl_ContractEdge_1) (res := rs_impl_ContractEdge_1) (SOk.nil) follows_ok k_impl_ContractEdge_1 F_impl_ContractEdge_1 fun x y h => (n_impl_ContractEdge_1 FUEL x).trans (f_impl_ContractEdge_1 x y h)

def fn_impl_ContractEdge : SFn := ⟨13, ag_impl_ContractEdge, mu_impl_ContractEdge, rs_impl_ContractEdge, F_impl_ContractEdge⟩
def sc_impl_ContractEdge : SCode :=
 (.seq
 (.reg false [
 oX 2 (.box 2 0),
 oX 4 (.alloc [zX, .nil [.int .i64, .int .i64]]),
 oX 5 (.mv (.k (.one (.v (.bool) (false)))))])
 (.seq
 (.reg false [
 oX 14 (.load true 2 2),
 oX 15 (.mv 1),
 oX 16 (.call .froz 12 [14, 15]),
 oX 13 (.mv 16),
 oX 17 (.ext 0 13),
 oX 18 (.ext 1 13),
 oX 6 (.alloc [zX, .nil [.int .i64, .int .i64]]),
 uX (.store 2 6 17),
 oX 7 (.mv 18)])
 (.seq
 (.seq
 (.reg false [
 oX 19 (.mv 7),
 oX 20 (.un .not 19)])
 (.cond 20
 (.seq
 (.reg false [
 oX 21 (.build [zX, .nil [.int .i64, .int .i64]] []),
 uX (.store 2 4 21),
 oX 5 (.mv (.k (.one (.v (.bool) (false)))))])
 .ret)
 .skip))
 (.seq
 (.regD [(13, 28), (14, 28), (16, 28), (17, 28), (18, 28), (19, 28), (20, 28), (22, 28), (23, 28), (24, 28)] [
 oX 22 (.fieldA 1 2),
 oX 23 (.load false 1 22),
 oX 24 (.mv 1),
 oX 25 (.idxA 2 23 24),
 oX 26 (.fieldA 0 25),
 oX 27 (.load false 1 26),
 oX 28 (.fieldA 1 2),
 oX 29 (.load false 1 28),
 oX 30 (.mv 1),
 oX 31 (.idxA 2 29 30),
 oX 32 (.fieldA 1 31),
 oX 33 (.load false 1 32),
 oX 34 (.mm false 27 33),
 oX 35 (.fieldA 1 2),
 oX 36 (.load false 1 35),
 oX 37 (.mv 1),
 oX 38 (.idxA 2 36 37),
 oX 39 (.fieldA 0 38),
 oX 40 (.load false 1 39),
 oX 41 (.fieldA 1 2),
 oX 42 (.load false 1 41),
 oX 43 (.mv 1),
 oX 44 (.idxA 2 42 43),
 oX 45 (.fieldA 1 44),
 oX 46 (.load false 1 45),
 oX 47 (.mm true 40 46),
 oX 8 (.alloc [zX]),
 oX 9 (.alloc [zX]),
 uX (.store 1 8 34),
 uX (.store 1 9 47)])
 (.seq
 (.seq
 (.reg false [
 oX 48 (.load false 1 8),
 oX 49 (.load false 1 9),
 oX 50 (.bin .eql 48 49)])
 (.cond 50
 (.seq
 (.reg false [
 oX 51 (.load true 2 6),
 uX (.store 2 4 51),
 oX 5 (.mv (.k (.one (.v (.bool) (true)))))])
 .ret)
 .skip))
 (.seq
 (.reg false [
 oX 52 (.mkfn 40 [9, 8]),
 oX 10 (.mv 52)])
 (.seq
 (.reg false [
 oX 53 (.fieldA 0 6),
 oX 54 (.load false 1 53),
 oX 55 (.bin .sub 54 (kX 1)),
 oX 56 (.fieldA 0 6),
 uX (.store 1 56 55)])
 (.seq
 (.seq
 (.reg false [
 oX 57 (.fieldA 1 6),
 oX 58 (.load false 1 57),
 oX 59 (.len 58),
 oX 60 (.mv (kX 0))])
 (.join ⟨[(6, .one (rX 6)), (4, .one (rX 4))], [(4, .box [vX, fX 500002 2]), (6, .box [vX, fX 500003 2]), (500002, .row true .froz [.int .i64, .int .i64]), (500003, .row true .froz [.int .i64, .int .i64])]⟩ [4, 6, 8, 9, 500000, 500001, 500002, 500003] [(true, 4, 1, 500002, .froz, []), (true, 6, 1, 500003, .froz, [])]
 (.block 0
 (.loop 0 ⟨[(4, .one (rX 4)), (6, .one (rX 6)), (10, .one (.fn 40 [.ptr0 9 0, .ptr0 8 0])), (58, .one (fX 500001 2)), (59, sX), (60, sX)], [(4, .box [vX, fX 500000 2]), (6, .box [vX, fX 500001 2]), (8, .box [vX]), (9, .box [vX]), (500000, .row true .froz [.int .i64, .int .i64]), (500001, .row true .froz [.int .i64, .int .i64])]⟩ [2, 4, 17000, 6, 8, 9, 12, 500000, 500001] [(true, 4, 1, 500000, .froz, []), (true, 6, 1, 500001, .froz, [])]
 (.seq
 (.reg false [
 oX 61 (.bin .lss 60 59)])
 (.seq
 (.cond 61
 .skip
 (.exit 0))
 (.seq
 (.block 1
 (.seq
 (.reg false [
 oX 62 (.mv 60),
 oX 63 (.idxA 2 58 60),
 oX 64 (.load true 2 63),
 oX 12 (.alloc [zX, zX]),
 oX 11 (.mv 62),
 uX (.store 2 12 64)])
 (.reg true [
 oX 65 (.fieldA 1 6),
 oX 66 (.load false 1 65),
 oX 67 (.mv 11),
 oX 68 (.mv 10),
 oX 69 (.fieldA 0 12),
 oX 70 (.load false 1 69),
 oX 71 (.callv .froz 68 [70]),
 oX 72 (.mv 10),
 oX 73 (.fieldA 1 12),
 oX 74 (.load false 1 73),
 oX 75 (.callv .froz 72 [74]),
 oX 76 (.build [zX, zX] [(0, 1, 71), (1, 1, 75)]),
 oX 77 (.idxA 2 66 67),
 uX (.store 2 77 76)])))
 (.reg false [
 oX 78 (.bin .add 60 (kX 1)),
 oX 60 (.mv 78)]))))))))
 (.seq
 (.reg false [
 oX 79 (.load true 2 6),
 uX (.store 2 4 79),
 oX 5 (.mv (.k (.one (.v (.bool) (true)))))])
 .ret)))))))))
def ms_impl_ContractEdge : List MRes := [.cell 4 2 true, .tmp 5]
theorem n_impl_ContractEdge (NN : Nat) (x : DLL (Sig.tys ag_impl_ContractEdge)) : runS NN [fn_impl_DeleteEdge, fn_impl_ContractEdge_1] sc_impl_ContractEdge ms_impl_ContractEdge ag_impl_ContractEdge rs_impl_ContractEdge x = G_impl_ContractEdge NN x := by kernel_rfl
theorem k_impl_ContractEdge : chkS pX 13 sc_impl_ContractEdge.er ms_impl_ContractEdge 2 = true := by decide +kernel
theorem p_impl_ContractEdge : PureSpec pX 13 fn_impl_ContractEdge.M ∧ chkFun pX 13 = true :=
  pure_of_runS (T := [fn_impl_DeleteEdge, fn_impl_ContractEdge_1]) (sc := sc_impl_ContractEdge) (ms := ms_impl_ContractEdge) (args := ag_impl_ContractEdge) (res := rs_impl_ContractEdge) (SOk.cons p_impl_DeleteEdge <| SOk.cons p_impl_ContractEdge_1 <| SOk.nil) follows_ok k_impl_ContractEdge F_impl_ContractEdge fun x y h => (n_impl_ContractEdge FUEL x).trans (f_impl_ContractEdge x y h)

def fn_laws_FnComponents : SFn := ⟨3, ag_laws_FnComponents, mu_laws_FnComponents, rs_laws_FnComponents, F_laws_FnComponents⟩
def sc_laws_FnComponents : SCode :=
 (.seq
 (.reg false [
 oX 2 (.mv (.k (.one (.v (.bool) (false)))))])
 (.seq
 (.seq
 (.reg false [
 oX 12 (.mv 0),
 oX 13 (.len 12),
 oX 14 (.bin .gtr 13 (kX 1048576))])
 (.cond 14
 (.seq
 (.reg false [
 oX 2 (.mv (.k (.one (.v (.bool) (true)))))])
 .ret)
 .skip))
 (.seq
 (.reg false [
 oX 15 (.mv 0),
 oX 16 (.callb 9 [15, (kX 0)]),
 oX 3 (.alloc [zX, .nil [.int .i64, .int .i64]]),
 uX (.store 2 3 16)])
 (.seq
 (.seq
 (.reg false [
 oX 17 (.fieldA 1 3),
 oX 18 (.load false 1 17),
 oX 19 (.len 18),
 oX 20 (.bin .eql 19 (kX 0))])
 (.cond 20
 (.seq
 (.reg true [
 oX 21 (.load true 2 3),
 oX 22 (.call .froz 10 [21, (kX 0)]),
 oX 23 (.fieldA 0 3),
 oX 24 (.load false 1 23),
 oX 25 (.bin .eql 22 24),
 oX 2 (.mv 25)])
 .ret)
 .skip))
 (.seq
 (.reg false [
 oX 26 (.mv 0),
 oX 27 (.fieldA 1 3),
 oX 28 (.load false 1 27),
 oX 29 (.len 28),
 oX 30 (.bin .sub 29 (kX 1)),
 oX 31 (.callb 11 [26, (kX 60), (kX 0), 30]),
 oX 4 (.mv 31)])
 (.seq
 (.reg false [
 oX 32 (.mv 0),
 oX 33 (.fieldA 1 3),
 oX 34 (.load false 1 33),
 oX 35 (.len 34),
 oX 36 (.bin .sub 35 (kX 1)),
 oX 37 (.bin .shl (kX 1) 36),
 oX 38 (.bin .sub 37 (kX 1)),
 oX 39 (.callb 11 [32, (kX 62), (kX 0), 38]),
 oX 5 (.mv 39)])
 (.seq
 (.reg false [
 oX 40 (.mv 5),
 oX 41 (.mv 4),
 oX 42 (.bin .shl (kX 1) 41),
 oX 43 (.bin .sub 42 (kX 1)),
 oX 44 (.bin .and 40 43),
 oX 6 (.mv 44)])
 (.seq
 (.reg false [
 oX 45 (.mv 5),
 oX 46 (.mv 6),
 oX 47 (.bin .sub 45 46),
 oX 48 (.bin .mul 47 (kX 2)),
 oX 7 (.mv 48)])
 (.seq
 (.reg false [
 oX 50 (.load true 2 3),
 oX 51 (.mv 4),
 oX 52 (.call .froz 12 [50, 51]),
 oX 49 (.mv 52),
 oX 53 (.ext 0 49),
 oX 54 (.ext 1 49),
 oX 8 (.alloc [zX, .nil [.int .i64, .int .i64]]),
 uX (.store 2 8 53),
 oX 9 (.mv 54)])
 (.seq
 (.reg false [
 oX 56 (.load true 2 3),
 oX 57 (.mv 4),
 oX 58 (.call .froz 13 [56, 57]),
 oX 55 (.mv 58),
 oX 59 (.ext 0 55),
 oX 60 (.ext 1 55),
 oX 10 (.alloc [zX, .nil [.int .i64, .int .i64]]),
 uX (.store 2 10 59),
 oX 11 (.mv 60)])
 (.seq
 (.reg true [
 oX 61 (.mv 9),
 oX 62 (.mv 61),
 ⟨(some 63), .mv 11, (some (62, true))⟩,
 oX 64 (.pick 62 63 (.k (.one (.v (.bool) (false))))),
 oX 65 (.mv 64),
 ⟨(some 66), .load true 2 8, (some (65, true))⟩,
 ⟨(some 67), .call .froz 14 [66], (some (65, true))⟩,
 oX 68 (.pick 65 67 (.k (.one (.v (.bool) (false))))),
 oX 69 (.mv 68),
 ⟨(some 70), .load true 2 10, (some (69, true))⟩,
 ⟨(some 71), .call .froz 14 [70], (some (69, true))⟩,
 oX 72 (.pick 69 71 (.k (.one (.v (.bool) (false))))),
 oX 73 (.mv 72),
 ⟨(some 74), .load true 2 8, (some (73, true))⟩,
 ⟨(some 75), .mv 5, (some (73, true))⟩,
 ⟨(some 76), .call .froz 10 [74, 75], (some (73, true))⟩,
 ⟨(some 77), .load true 2 3, (some (73, true))⟩,
 ⟨(some 78), .mv 6, (some (73, true))⟩,
 ⟨(some 79), .mv 7, (some (73, true))⟩,
 ⟨(some 80), .bin .add 78 79, (some (73, true))⟩,
 ⟨(some 81), .call .froz 10 [77, 80], (some (73, true))⟩,
 ⟨(some 82), .bin .eql 76 81, (some (73, true))⟩,
 oX 83 (.pick 73 82 (.k (.one (.v (.bool) (false))))),
 oX 84 (.mv 83),
 ⟨(some 85), .load true 2 10, (some (84, true))⟩,
 ⟨(some 86), .mv 5, (some (84, true))⟩,
 ⟨(some 87), .call .froz 10 [85, 86], (some (84, true))⟩,
 ⟨(some 88), .load true 2 3, (some (84, true))⟩,
 ⟨(some 89), .mv 6, (some (84, true))⟩,
 ⟨(some 90), .mv 7, (some (84, true))⟩,
 ⟨(some 91), .bin .add 89 90, (some (84, true))⟩,
 ⟨(some 92), .mv 4, (some (84, true))⟩,
 ⟨(some 93), .bin .shl (kX 1) 92, (some (84, true))⟩,
 ⟨(some 94), .bin .add 91 93, (some (84, true))⟩,
 ⟨(some 95), .call .froz 10 [88, 94], (some (84, true))⟩,
 ⟨(some 96), .bin .eql 87 95, (some (84, true))⟩,
 oX 97 (.pick 84 96 (.k (.one (.v (.bool) (false))))),
 oX 2 (.mv 97)])
 .ret)))))))))))
def ms_laws_FnComponents : List MRes := [.tmp 2]
theorem n_laws_FnComponents (NN : Nat) (x : DLL (Sig.tys ag_laws_FnComponents)) : runS NN [fn_spec_MakeGraph, fn_impl_ComponentCount, fn_spec_MakeSize, fn_impl_DeleteEdge, fn_impl_ContractEdge, fn_impl_GraphOk] sc_laws_FnComponents ms_laws_FnComponents ag_laws_FnComponents rs_laws_FnComponents x = G_laws_FnComponents NN x := by kernel_rfl
theorem k_laws_FnComponents : chkS pX 3 sc_laws_FnComponents.er ms_laws_FnComponents 1 = true := by decide +kernel
theorem p_laws_FnComponents : PureSpec pX 3 fn_laws_FnComponents.M ∧ chkFun pX 3 = true :=
  pure_of_runS (T := [fn_spec_MakeGraph, fn_impl_ComponentCount, fn_spec_MakeSize, fn_impl_DeleteEdge, fn_impl_ContractEdge, fn_impl_GraphOk]) (sc := sc_laws_FnComponents) (ms := ms_laws_FnComponents) (args := ag_laws_FnComponents) (res := rs_laws_FnComponents) (SOk.consV p_spec_MakeGraph <| SOk.cons p_impl_ComponentCount <| SOk.consV p_spec_MakeSize <| SOk.cons p_impl_DeleteEdge <| SOk.cons p_impl_ContractEdge <| SOk.cons p_impl_GraphOk <| SOk.nil) follows_ok k_laws_FnComponents F_laws_FnComponents fun x y h => (n_laws_FnComponents FUEL x).trans (f_laws_FnComponents x y h)

end Go.Am
