/- A_FnAutomata: the code of the functions of FnAutomata. No condition. -/
import Derived.Test.YtdbokcfhhdkhiaaLFnAutomata
import Derived.Test.YtdbokcfhhdkhiaaBr2
import Derived.KernelRfl
import Derived.Test.YtdbokcfhhdkhiaaRows
set_option linter.unusedVariables false
set_option maxRecDepth 100000
namespace Go.Am
theorem follows_ok : Go.Proofs.Try.prog.follows .mixedOrders = true := by decide +kernel
noncomputable abbrev pX := Go.Proofs.Try.prog
def oX (n : Nat) (x : SOp) : SOper := ⟨some n, x, none⟩
def uX (x : SOp) : SOper := ⟨none, x, none⟩
def kX (n : Int) : SMO := .k (.one (.v (.int .i64) n))
def sX : ShV := .one (.c (.v (.int .i64)))
def iX : List Ty := [.int .i64]
def lX : Ty := .list iX
def mX : List Ty := [.int .i64, .int .i64, lX]
def zX : SC := .v (.int .i64) (0 : Int)
def vX : ShC := .c (.v (.int .i64))
def fX (n k : Nat) : ShC := .c (.full n k)
def rX (n : Nat) : ShC := .c (.ptr0 n 0)
instance tX (n : Nat) : OfNat SMO n := ⟨.t n⟩
def fn_spec_l01New : SFn := ⟨70, ag_spec_l01New, mu_spec_l01New, rs_spec_l01New, F_spec_l01New⟩
def sc_spec_l01New : SCode :=
 (.seq
 (.reg false [
 oX 2 (.mv (.k (.one (.junk))))])
 (.seq
 (.reg false [
 oX 5 (.mv 0),
 oX 6 (.len 5),
 oX 7 (.bin .add (kX 55127) 6),
 oX 3 (.mv 7)])
 (.seq
 (.seq
 (.reg false [
 oX 4 (.mv (kX 0))])
 (.join ⟨[(0, .one (.c (.v (.list [.int .u8])))), (3, sX)], []⟩ [] []
 (.block 0
 (.loop 0 ⟨[(0, .one (.c (.v (.list [.int .u8])))), (3, sX), (4, sX)], []⟩ [] []
 (.seq
 (.seq
 (.reg false [
 oX 8 (.mv 4),
 oX 9 (.mv 0),
 oX 10 (.len 9),
 oX 11 (.bin .lss 8 10),
 oX 12 (.mv 11),
 ⟨(some 13), .mv 4, (some (12, true))⟩,
 ⟨(some 14), .bin .lss 13 (kX 4000), (some (12, true))⟩,
 oX 15 (.pick 12 14 (.k (.one (.v (.bool) (false)))))])
 (.cond 15
 .skip
 (.exit 0)))
 (.seq
 (.block 1
 (.reg false [
 oX 18 (.mv 3),
 oX 19 (.bin .mul 18 (kX 131)),
 oX 20 (.mv 0),
 oX 21 (.mv 4),
 oX 22 (.idxA 1 20 21),
 oX 23 (.load false 1 22),
 oX 24 (.conv .i64 23),
 oX 25 (.bin .add 19 24),
 oX 26 (.bin .add 25 (kX 7)),
 oX 27 (.bin .and 26 (kX 1073741823)),
 oX 3 (.mv 27)]))
 (.reg false [
 oX 16 (.mv 4),
 oX 17 (.bin .add 16 (kX 1)),
 oX 4 (.mv 17)])))))))
 (.seq
 (.reg false [
 oX 28 (.mv 0),
 oX 29 (.mv 3),
 oX 30 (.build [.nil [.int .u8], zX, zX] [(0, 1, 28), (2, 1, 29)]),
 oX 31 (.box 3 30),
 oX 2 (.mv 31)])
 .ret))))
def ms_spec_l01New : List MRes := [.tmp 2]
theorem n_spec_l01New (NN : Nat) (x : DLL (Sig.tys ag_spec_l01New)) : runVS NN [] sc_spec_l01New ms_spec_l01New ag_spec_l01New rs_spec_l01New x = G_spec_l01New NN x := by kernel_rfl
theorem k_spec_l01New : chkS pX 70 sc_spec_l01New.er ms_spec_l01New 1 = true := by decide +kernel
theorem p_spec_l01New : VSpec Go.Proofs.Try.prog 70 fn_spec_l01New.MV ∧ chkFun pX 70 = true :=
  v_of_runVS (T := []) (sc := sc_spec_l01New) (ms := ms_spec_l01New) (args := ag_spec_l01New) (res := rs_spec_l01New) (SOk.nil) follows_ok k_spec_l01New F_spec_l01New fun x y h => (n_spec_l01New FUEL x).trans (f_spec_l01New x y h)

def fn_spec_l45At : SFn := ⟨37, ag_spec_l45At, mu_spec_l45At, rs_spec_l45At, F_spec_l45At⟩
def sc_spec_l45At : SCode :=
 (.seq
 (.reg false [
 oX 4 (.mv (.k (.one (.junk))))])
 (.seq
 (.reg false [
 oX 6 (.mv 0),
 oX 7 (.callb 70 [6]),
 oX 5 (.mv 7)])
 (.seq
 (.reg false [
 oX 8 (.mv 5),
 oX 9 (.mv 1),
 oX 10 (.mv 0),
 oX 11 (.len 10),
 oX 12 (.mm false 9 11),
 oX 13 (.nilchk 8),
 oX 14 (.fieldA 1 13),
 uX (.store 1 14 12)])
 (.seq
 (.reg false [
 oX 15 (.mv 5),
 oX 16 (.mv 5),
 oX 17 (.nilchk 16),
 oX 18 (.fieldA 2 17),
 oX 19 (.load false 1 18),
 oX 20 (.bin .mul 19 (kX 31)),
 oX 21 (.mv 1),
 oX 22 (.bin .mul 21 (kX 7919)),
 oX 23 (.bin .add 20 22),
 oX 24 (.bin .add 23 (kX 1)),
 oX 25 (.bin .and 24 (kX 1073741823)),
 oX 26 (.nilchk 15),
 oX 27 (.fieldA 2 26),
 uX (.store 1 27 25)])
 (.seq
 (.reg false [
 oX 28 (.mv 5),
 oX 4 (.mv 28)])
 .ret)))))
def ms_spec_l45At : List MRes := [.tmp 4]
theorem n_spec_l45At (NN : Nat) (x : DLL (Sig.tys ag_spec_l45At)) : runVS NN [fn_spec_l01New] sc_spec_l45At ms_spec_l45At ag_spec_l45At rs_spec_l45At x = G_spec_l45At NN x := by kernel_rfl
theorem k_spec_l45At : chkS pX 37 sc_spec_l45At.er ms_spec_l45At 2 = true := by decide +kernel
theorem p_spec_l45At : VSpec Go.Proofs.Try.prog 37 fn_spec_l45At.MV ∧ chkFun pX 37 = true :=
  v_of_runVS (T := [fn_spec_l01New]) (sc := sc_spec_l45At) (ms := ms_spec_l45At) (args := ag_spec_l45At) (res := rs_spec_l45At) (SOk.consV p_spec_l01New <| SOk.nil) follows_ok k_spec_l45At F_spec_l45At fun x y h => (n_spec_l45At FUEL x).trans (f_spec_l45At x y h)

def fn_spec_l01Byte : SFn := ⟨72, ag_spec_l01Byte, mu_spec_l01Byte, rs_spec_l01Byte, F_spec_l01Byte⟩
def sc_spec_l01Byte : SCode :=
 (.seq
 (.reg false [
 oX 2 (.mv (kX 0))])
 (.seq
 (.reg false [
 oX 4 (.mv 0),
 oX 5 (.mv 0),
 oX 6 (.nilchk 5),
 oX 7 (.fieldA 2 6),
 oX 8 (.load false 1 7),
 oX 9 (.bin .mul 8 (kX 6364136223846793005)),
 oX 10 (.bin .add 9 (kX 1442695040888963407)),
 oX 11 (.nilchk 4),
 oX 12 (.fieldA 2 11),
 uX (.store 1 12 10)])
 (.seq
 (.reg true [
 oX 13 (.mv 0),
 oX 14 (.nilchk 13),
 oX 15 (.fieldA 2 14),
 oX 16 (.load false 1 15),
 oX 17 (.bin .shr 16 (.k (.one (.v (.int .u64) ((33 : Int)))))),
 oX 18 (.mv 0),
 oX 19 (.nilchk 18),
 oX 20 (.fieldA 2 19),
 oX 21 (.load false 1 20),
 oX 22 (.bin .shr 21 (.k (.one (.v (.int .u64) ((45 : Int)))))),
 oX 23 (.bin .xor 17 22),
 oX 24 (.bin .and 23 (kX 255)),
 oX 3 (.mv 24)])
 (.seq
 (.seq
 (.reg true [
 oX 25 (.mv 0),
 oX 26 (.nilchk 25),
 oX 27 (.fieldA 1 26),
 oX 28 (.load false 1 27),
 oX 29 (.mv 0),
 oX 30 (.nilchk 29),
 oX 31 (.fieldA 0 30),
 oX 32 (.load false 1 31),
 oX 33 (.len 32),
 oX 34 (.bin .lss 28 33)])
 (.join ⟨[(3, sX)], [(1000000, .box [.c (.v (.list [.int .u8])), vX, vX])]⟩ [1000000] []
 (.cond 34
 (.seq
 (.reg true [
 oX 35 (.mv 3),
 oX 36 (.mv 0),
 oX 37 (.nilchk 36),
 oX 38 (.fieldA 0 37),
 oX 39 (.load false 1 38),
 oX 40 (.mv 0),
 oX 41 (.nilchk 40),
 oX 42 (.fieldA 1 41),
 oX 43 (.load false 1 42),
 oX 44 (.idxA 1 39 43),
 oX 45 (.load false 1 44),
 oX 46 (.conv .i64 45),
 oX 47 (.bin .add 35 46),
 oX 48 (.bin .and 47 (kX 255)),
 oX 3 (.mv 48)])
 (.reg false [
 oX 49 (.mv 0),
 oX 50 (.mv 0),
 oX 51 (.nilchk 50),
 oX 52 (.fieldA 1 51),
 oX 53 (.load false 1 52),
 oX 54 (.bin .add 53 (kX 1)),
 oX 55 (.nilchk 49),
 oX 56 (.fieldA 1 55),
 uX (.store 1 56 54)]))
 .skip)))
 (.seq
 (.reg false [
 oX 57 (.mv 3),
 oX 2 (.mv 57)])
 .ret)))))
def ms_spec_l01Byte : List MRes := [.tmp 2]
theorem n_spec_l01Byte (NN : Nat) (x : DLL (Sig.tys ag_spec_l01Byte)) : runVS NN [] sc_spec_l01Byte ms_spec_l01Byte ag_spec_l01Byte rs_spec_l01Byte x = G_spec_l01Byte NN x := by kernel_rfl
theorem k_spec_l01Byte : chkS pX 72 sc_spec_l01Byte.er ms_spec_l01Byte 1 = true := by decide +kernel
theorem p_spec_l01Byte : VSpec Go.Proofs.Try.prog 72 fn_spec_l01Byte.MV ∧ chkFun pX 72 = true :=
  v_of_runVS (T := []) (sc := sc_spec_l01Byte) (ms := ms_spec_l01Byte) (args := ag_spec_l01Byte) (res := rs_spec_l01Byte) (SOk.nil) follows_ok k_spec_l01Byte F_spec_l01Byte fun x y h => (n_spec_l01Byte FUEL x).trans (f_spec_l01Byte x y h)

def fn_spec_l01Below : SFn := ⟨45, ag_spec_l01Below, mu_spec_l01Below, rs_spec_l01Below, F_spec_l01Below⟩
def sc_spec_l01Below : SCode :=
 (.seq
 (.reg false [
 oX 4 (.mv (kX 0))])
 (.seq
 (.seq
 (.reg false [
 oX 5 (.mv 1),
 oX 6 (.bin .leq 5 (kX 0))])
 (.cond 6
 (.seq
 (.reg false [
 oX 4 (.mv (kX 0))])
 .ret)
 .skip))
 (.seq
 (.reg false [
 oX 7 (.mv 0),
 oX 8 (.callb 72 [7]),
 oX 9 (.mv 1),
 oX 10 (.bin .rem 8 9),
 oX 4 (.mv 10)])
 .ret)))
def ms_spec_l01Below : List MRes := [.tmp 4]
theorem n_spec_l01Below (NN : Nat) (x : DLL (Sig.tys ag_spec_l01Below)) : runVS NN [fn_spec_l01Byte] sc_spec_l01Below ms_spec_l01Below ag_spec_l01Below rs_spec_l01Below x = G_spec_l01Below NN x := by kernel_rfl
theorem k_spec_l01Below : chkS pX 45 sc_spec_l01Below.er ms_spec_l01Below 2 = true := by decide +kernel
theorem p_spec_l01Below : VSpec Go.Proofs.Try.prog 45 fn_spec_l01Below.MV ∧ chkFun pX 45 = true :=
  v_of_runVS (T := [fn_spec_l01Byte]) (sc := sc_spec_l01Below) (ms := ms_spec_l01Below) (args := ag_spec_l01Below) (res := rs_spec_l01Below) (SOk.consV p_spec_l01Byte <| SOk.nil) follows_ok k_spec_l01Below F_spec_l01Below fun x y h => (n_spec_l01Below FUEL x).trans (f_spec_l01Below x y h)

def fn_spec_l01Pick : SFn := ⟨41, ag_spec_l01Pick, mu_spec_l01Pick, rs_spec_l01Pick, F_spec_l01Pick⟩
def sc_spec_l01Pick : SCode :=
 (.seq
 (.reg false [
 oX 4 (.mv (kX 0))])
 (.seq
 (.reg false [
 oX 5 (.mv 1),
 oX 6 (.mv 0),
 oX 7 (.mv 1),
 oX 8 (.len 7),
 oX 9 (.callb 45 [6, 8]),
 oX 10 (.idxA 1 5 9),
 oX 11 (.load false 1 10),
 oX 4 (.mv 11)])
 .ret))
def ms_spec_l01Pick : List MRes := [.tmp 4]
theorem n_spec_l01Pick (NN : Nat) (x : DLL (Sig.tys ag_spec_l01Pick)) : runVS NN [fn_spec_l01Below] sc_spec_l01Pick ms_spec_l01Pick ag_spec_l01Pick rs_spec_l01Pick x = G_spec_l01Pick NN x := by kernel_rfl
theorem k_spec_l01Pick : chkS pX 41 sc_spec_l01Pick.er ms_spec_l01Pick 2 = true := by decide +kernel
theorem p_spec_l01Pick : VSpec Go.Proofs.Try.prog 41 fn_spec_l01Pick.MV ∧ chkFun pX 41 = true :=
  v_of_runVS (T := [fn_spec_l01Below]) (sc := sc_spec_l01Pick) (ms := ms_spec_l01Pick) (args := ag_spec_l01Pick) (res := rs_spec_l01Pick) (SOk.consV p_spec_l01Below <| SOk.nil) follows_ok k_spec_l01Pick F_spec_l01Pick fun x y h => (n_spec_l01Pick FUEL x).trans (f_spec_l01Pick x y h)

def fn_spec_l31New : SFn := ⟨73, ag_spec_l31New, mu_spec_l31New, rs_spec_l31New, F_spec_l31New⟩
def sc_spec_l31New : SCode :=
 (.seq
 (.reg false [
 oX 4 (.alloc [zX, zX, .nil iX])])
 (.seq
 (.reg false [
 oX 5 (.mv 0),
 oX 6 (.mv 1),
 oX 7 (.mv 0),
 oX 8 (.mv 1),
 oX 9 (.bin .mul 7 8),
 oX 10 (.mkslice .froz iX 8 (0 : Int) 9 9),
 oX 11 (.build [zX, zX, .nil iX] [(0, 1, 5), (1, 1, 6), (2, 1, 10)]),
 uX (.store 3 4 11)])
 .ret))
def ms_spec_l31New : List MRes := [.cell 4 3 true]
theorem n_spec_l31New (NN : Nat) (x : DLL (Sig.tys ag_spec_l31New)) : runS NN [] sc_spec_l31New ms_spec_l31New ag_spec_l31New rs_spec_l31New x = G_spec_l31New NN x := by kernel_rfl
theorem k_spec_l31New : chkS pX 73 sc_spec_l31New.er ms_spec_l31New 2 = true := by decide +kernel
theorem p_spec_l31New : PureSpec pX 73 fn_spec_l31New.M ∧ chkFun pX 73 = true :=
  pure_of_runS (T := []) (sc := sc_spec_l31New) (ms := ms_spec_l31New) (args := ag_spec_l31New) (res := rs_spec_l31New) (SOk.nil) follows_ok k_spec_l31New F_spec_l31New fun x y h => (n_spec_l31New FUEL x).trans (f_spec_l31New x y h)

def fn_spec_l01Once : SFn := ⟨74, ag_spec_l01Once, mu_spec_l01Once, rs_spec_l01Once, F_spec_l01Once⟩
def sc_spec_l01Once : SCode :=
 (.seq
 (.reg false [
 oX 4 (.mv (.k (.one (.v (.bool) (false)))))])
 (.seq
 (.reg false [
 oX 5 (.mv 0),
 oX 6 (.mv 1),
 oX 7 (.callb 45 [5, 6]),
 oX 8 (.bin .eql 7 (kX 0)),
 oX 4 (.mv 8)])
 .ret))
def ms_spec_l01Once : List MRes := [.tmp 4]
theorem n_spec_l01Once (NN : Nat) (x : DLL (Sig.tys ag_spec_l01Once)) : runVS NN [fn_spec_l01Below] sc_spec_l01Once ms_spec_l01Once ag_spec_l01Once rs_spec_l01Once x = G_spec_l01Once NN x := by kernel_rfl
theorem k_spec_l01Once : chkS pX 74 sc_spec_l01Once.er ms_spec_l01Once 2 = true := by decide +kernel
theorem p_spec_l01Once : VSpec Go.Proofs.Try.prog 74 fn_spec_l01Once.MV ∧ chkFun pX 74 = true :=
  v_of_runVS (T := [fn_spec_l01Below]) (sc := sc_spec_l01Once) (ms := ms_spec_l01Once) (args := ag_spec_l01Once) (res := rs_spec_l01Once) (SOk.consV p_spec_l01Below <| SOk.nil) follows_ok k_spec_l01Once F_spec_l01Once fun x y h => (n_spec_l01Once FUEL x).trans (f_spec_l01Once x y h)

def fn_spec_l31Draw : SFn := ⟨42, ag_spec_l31Draw, mu_spec_l31Draw, rs_spec_l31Draw, F_spec_l31Draw⟩
def sc_spec_l31Draw : SCode :=
 (.seq
 (.reg false [
 oX 8 (.alloc [zX, zX, .nil iX])])
 (.seq
 (.reg false [
 oX 12 (.mv 2),
 oX 13 (.mv 3),
 oX 14 (.call .froz 73 [12, 13]),
 oX 9 (.alloc [zX, zX, .nil iX]),
 uX (.store 3 9 14)])
 (.seq
 (.seq
 (.reg false [
 oX 15 (.fieldA 2 9),
 oX 16 (.load false 1 15),
 oX 17 (.len 16),
 oX 18 (.mv (kX 0))])
 (.join ⟨[(2, sX), (0, .one (rX 1000000)), (3, sX), (9, .one (rX 9)), (8, .one (rX 8))], [(1000000, .box [.c (.v (.list [.int .u8])), vX, vX]), (8, .box [vX, vX, fX 500002 1]), (9, .box [vX, vX, fX 500003 1]), (500002, .row true .froz iX), (500003, .row true .froz iX)]⟩ [1000000, 8, 9, 500000, 500001, 500002, 500003] [(true, 8, 2, 500002, .froz, []), (true, 9, 2, 500003, .froz, [])]
 (.block 0
 (.loop 0 ⟨[(0, .one (rX 1000000)), (1, sX), (2, sX), (3, sX), (8, .one (rX 8)), (9, .one (rX 9)), (17, sX), (18, sX)], [(1000000, .box [.c (.v (.list [.int .u8])), vX, vX]), (8, .box [vX, vX, fX 500000 1]), (9, .box [vX, vX, fX 500001 1]), (500000, .row true .froz iX), (500001, .row true .froz iX)]⟩ [1000000, 8, 15000, 9, 500000, 500001] [(true, 8, 2, 500000, .froz, []), (true, 9, 2, 500001, .froz, [])]
 (.seq
 (.reg false [
 oX 19 (.bin .lss 18 17)])
 (.seq
 (.cond 19
 .skip
 (.exit 0))
 (.seq
 (.block 1
 (.seq
 (.reg false [
 oX 20 (.mv 18),
 oX 10 (.mv 20)])
 (.seq
 (.reg false [
 oX 21 (.mv 0),
 oX 22 (.callb 74 [21, (kX 3)]),
 oX 23 (.un .not 22)])
 (.cond 23
 (.regD [(0, 6), (1, 6)] [
 oX 24 (.fieldA 2 9),
 oX 25 (.load false 1 24),
 oX 26 (.mv 10),
 oX 27 (.mv 0),
 oX 28 (.mv 1),
 oX 29 (.mm false 28 (kX 256)),
 oX 30 (.callb 45 [27, 29]),
 oX 31 (.idxA 1 25 26),
 uX (.store 1 31 30)])
 .skip))))
 (.reg false [
 oX 32 (.bin .add 18 (kX 1)),
 oX 18 (.mv 32)]))))))))
 (.seq
 (.seq
 (.reg false [
 oX 33 (.mv 2),
 oX 34 (.bin .gtr 33 (kX 1)),
 oX 35 (.mv 34),
 ⟨(some 36), .mv 0, (some (35, true))⟩,
 ⟨(some 37), .callb 74 [36, (kX 3)], (some (35, true))⟩,
 oX 38 (.pick 35 37 (.k (.one (.v (.bool) (false)))))])
 (.join ⟨[(9, .one (rX 9)), (8, .one (rX 8))], [(1000000, .box [.c (.v (.list [.int .u8])), vX, vX]), (8, .box [vX, vX, fX 500006 1]), (9, .box [vX, vX, fX 500007 1]), (500006, .row true .froz iX), (500007, .row true .froz iX)]⟩ [1000000, 8, 9, 500002, 500003, 500004, 500005, 500006, 500007] [(true, 8, 2, 500006, .froz, []), (true, 9, 2, 500007, .froz, [])]
 (.cond 38
 (.seq
 (.reg false [
 oX 11 (.mv (kX 0))])
 (.block 2
 (.loop 0 ⟨[(3, sX), (8, .one (rX 8)), (9, .one (rX 9)), (11, sX)], [(1000000, .box [.c (.v (.list [.int .u8])), vX, vX]), (8, .box [vX, vX, fX 500004 1]), (9, .box [vX, vX, fX 500005 1]), (500004, .row true .froz iX), (500005, .row true .froz iX)]⟩ [1000000, 8, 9, 500002, 500003, 500004, 500005] [(true, 8, 2, 500004, .froz, []), (true, 9, 2, 500005, .froz, [])]
 (.seq
 (.seq
 (.reg false [
 oX 39 (.mv 11),
 oX 40 (.mv 3),
 oX 41 (.bin .lss 39 40)])
 (.cond 41
 .skip
 (.exit 2)))
 (.seq
 (.block 3
 (.reg true [
 oX 44 (.fieldA 2 9),
 oX 45 (.load false 1 44),
 oX 46 (.mv 3),
 oX 47 (.mv 11),
 oX 48 (.bin .add 46 47),
 oX 49 (.fieldA 2 9),
 oX 50 (.load false 1 49),
 oX 51 (.mv 11),
 oX 52 (.idxA 1 50 51),
 oX 53 (.load false 1 52),
 oX 54 (.idxA 1 45 48),
 uX (.store 1 54 53)]))
 (.reg false [
 oX 42 (.mv 11),
 oX 43 (.bin .add 42 (kX 1)),
 oX 11 (.mv 43)]))))))
 .skip)))
 (.seq
 (.reg false [
 oX 55 (.load true 3 9),
 uX (.store 3 8 55)])
 .ret)))))
def ms_spec_l31Draw : List MRes := [.cell 8 3 true]
theorem n_spec_l31Draw (NN : Nat) (x : DLL (Sig.tys ag_spec_l31Draw)) : runVS NN [fn_spec_l31New, fn_spec_l01Once, fn_spec_l01Below] sc_spec_l31Draw ms_spec_l31Draw ag_spec_l31Draw rs_spec_l31Draw x = G_spec_l31Draw NN x := by kernel_rfl
theorem k_spec_l31Draw : chkS pX 42 sc_spec_l31Draw.er ms_spec_l31Draw 4 = true := by decide +kernel
theorem p_spec_l31Draw : VSpec Go.Proofs.Try.prog 42 fn_spec_l31Draw.MV ∧ chkFun pX 42 = true :=
  v_of_runVS (T := [fn_spec_l31New, fn_spec_l01Once, fn_spec_l01Below]) (sc := sc_spec_l31Draw) (ms := ms_spec_l31Draw) (args := ag_spec_l31Draw) (res := rs_spec_l31Draw) (SOk.cons p_spec_l31New <| SOk.consV p_spec_l01Once <| SOk.consV p_spec_l01Below <| SOk.nil) follows_ok k_spec_l31Draw F_spec_l31Draw fun x y h => (n_spec_l31Draw FUEL x).trans (f_spec_l31Draw x y h)

def fn_spec_l34Draw : SFn := ⟨46, ag_spec_l34Draw, mu_spec_l34Draw, rs_spec_l34Draw, F_spec_l34Draw⟩
def sc_spec_l34Draw : SCode :=
 (.seq
 (.reg false [
 oX 8 (.alloc [zX, zX, .nil iX, .nil mX, .nil iX])])
 (.seq
 (.reg false [
 oX 10 (.mv 1),
 oX 11 (.mv 2),
 oX 12 (.mv 0),
 oX 13 (.mv 1),
 oX 14 (.mv 2),
 oX 15 (.callb 42 [12, 13, (kX 1), 14]),
 oX 16 (.fld false 2 1 15),
 oX 17 (.mv 0),
 oX 18 (.mv 1),
 oX 19 (.mv 2),
 oX 20 (.callb 42 [17, 18, (kX 1), 19]),
 oX 21 (.fld false 2 1 20),
 oX 22 (.build [zX, zX, .nil iX, .nil mX, .nil iX] [(0, 1, 10), (1, 1, 11), (2, 1, 16), (4, 1, 21)]),
 oX 9 (.alloc [zX, zX, .nil iX, .nil mX, .nil iX]),
 uX (.store 5 9 22)])
 (.seq
 (.join ⟨[(9, .one (rX 9)), (8, .one (rX 8))], [(1000000, .box [.c (.v (.list [.int .u8])), vX, vX]), (8, .box [vX, vX, fX 500004 1, fX 500005 3, fX 500006 1]), (9, .box [vX, vX, .c (.v (lX)), fX 500007 3, .c (.v (lX))]), (500004, .row true .froz iX), (500005, .row true .froz mX), (500006, .row true .froz iX), (500007, .row true .bor mX)]⟩ [1000000, 8, 9, 500000, 500001, 500002, 500003, 500004, 500005, 500006, 500007] [(true, 8, 2, 500004, .froz, []), (true, 8, 3, 500005, .froz, []), (true, 8, 4, 500006, .froz, []), (true, 9, 3, 500007, .bor, [])]
 (.block 0
 (.loop 0 ⟨[(0, .one (rX 1000000)), (1, sX), (2, sX), (3, sX), (8, .one (rX 8)), (9, .one (rX 9))], [(1000000, .box [.c (.v (.list [.int .u8])), vX, vX]), (8, .box [vX, vX, fX 500000 1, fX 500001 3, fX 500002 1]), (9, .box [vX, vX, .c (.v (lX)), fX 500003 3, .c (.v (lX))]), (500000, .row true .froz iX), (500001, .row true .froz mX), (500002, .row true .froz iX), (500003, .row true .bor mX)]⟩ [1000000, 8, 9, 35, 500000, 500001, 500002, 500003] [(true, 8, 2, 500000, .froz, []), (true, 8, 3, 500001, .froz, []), (true, 8, 4, 500002, .froz, []), (true, 9, 3, 500003, .bor, [])]
 (.seq
 (.seq
 (.reg false [
 oX 23 (.mv 3),
 oX 24 (.bin .gtr 23 (kX 0))])
 (.cond 24
 .skip
 (.exit 0)))
 (.seq
 (.block 1
 (.regD [(0, 6), (1, 6), (0, 7), (1, 7)] [
 oX 27 (.fieldA 3 9),
 oX 28 (.load false 1 27),
 oX 29 (.mv 0),
 oX 30 (.mv 1),
 oX 31 (.mv 2),
 oX 32 (.mv 2),
 oX 33 (.callb 42 [29, 30, 31, 32]),
 oX 34 (.bslice mX [33]),
 oX 35 (.append false mX 40 28 34),
 oX 36 (.fieldA 3 9),
 uX (.store 1 36 35)]))
 (.reg false [
 oX 25 (.mv 3),
 oX 26 (.bin .sub 25 (kX 1)),
 oX 3 (.mv 26)]))))))
 (.seq
 (.reg false [
 oX 37 (.load true 5 9),
 uX (.store 5 8 37)])
 .ret))))
def ms_spec_l34Draw : List MRes := [.cell 8 5 true]
theorem n_spec_l34Draw (NN : Nat) (x : DLL (Sig.tys ag_spec_l34Draw)) : runVS NN [fn_spec_l31Draw] sc_spec_l34Draw ms_spec_l34Draw ag_spec_l34Draw rs_spec_l34Draw x = G_spec_l34Draw NN x := by kernel_rfl
theorem k_spec_l34Draw : chkS pX 46 sc_spec_l34Draw.er ms_spec_l34Draw 4 = true := by decide +kernel
theorem p_spec_l34Draw : VSpec Go.Proofs.Try.prog 46 fn_spec_l34Draw.MV ∧ chkFun pX 46 = true :=
  v_of_runVS (T := [fn_spec_l31Draw]) (sc := sc_spec_l34Draw) (ms := ms_spec_l34Draw) (args := ag_spec_l34Draw) (res := rs_spec_l34Draw) (SOk.consV p_spec_l31Draw <| SOk.nil) follows_ok k_spec_l34Draw F_spec_l34Draw fun x y h => (n_spec_l34Draw FUEL x).trans (f_spec_l34Draw x y h)

def fn_spec_MakeAutomata : SFn := ⟨21, ag_spec_MakeAutomata, mu_spec_MakeAutomata, rs_spec_MakeAutomata, F_spec_MakeAutomata⟩
def sc_spec_MakeAutomata : SCode :=
 (.seq
 (.reg false [
 oX 4 (.alloc [zX, zX, .nil iX, .nil mX, .nil iX]),
 oX 5 (.alloc [zX, zX, .nil iX, .nil mX, .nil iX])])
 (.seq
 (.reg false [
 oX 9 (.mv 0),
 oX 10 (.mv 1),
 oX 11 (.callb 37 [9, 10]),
 oX 6 (.mv 11)])
 (.seq
 (.reg false [
 oX 12 (.mv 6),
 oX 13 (.bslice iX [(kX 2), (kX 3), (kX 7), (kX 101)]),
 oX 14 (.callb 41 [12, 13]),
 oX 7 (.mv 14)])
 (.seq
 (.reg false [
 oX 15 (.mv 6),
 oX 16 (.callb 45 [15, (kX 3)]),
 oX 17 (.bin .add (kX 1) 16),
 oX 8 (.mv 17)])
 (.seq
 (.reg false [
 oX 18 (.mv 6),
 oX 19 (.mv 7),
 oX 20 (.mv 6),
 oX 21 (.callb 45 [20, (kX 4)]),
 oX 22 (.mv 8),
 oX 23 (.callb 46 [18, 19, 21, 22]),
 oX 24 (.mv 6),
 oX 25 (.mv 7),
 oX 26 (.mv 6),
 oX 27 (.callb 45 [26, (kX 4)]),
 oX 28 (.mv 8),
 oX 29 (.callb 46 [24, 25, 27, 28]),
 uX (.store 5 4 23),
 uX (.store 5 5 29)])
 .ret)))))
def ms_spec_MakeAutomata : List MRes := [.cell 4 5 true, .cell 5 5 true]
theorem n_spec_MakeAutomata (NN : Nat) (x : DLL (Sig.tys ag_spec_MakeAutomata)) : runVS NN [fn_spec_l45At, fn_spec_l01Pick, fn_spec_l01Below, fn_spec_l34Draw] sc_spec_MakeAutomata ms_spec_MakeAutomata ag_spec_MakeAutomata rs_spec_MakeAutomata x = G_spec_MakeAutomata NN x := by kernel_rfl
theorem k_spec_MakeAutomata : chkS pX 21 sc_spec_MakeAutomata.er ms_spec_MakeAutomata 2 = true := by decide +kernel
theorem p_spec_MakeAutomata : VSpec Go.Proofs.Try.prog 21 fn_spec_MakeAutomata.MV ∧ chkFun pX 21 = true :=
  v_of_runVS (T := [fn_spec_l45At, fn_spec_l01Pick, fn_spec_l01Below, fn_spec_l34Draw]) (sc := sc_spec_MakeAutomata) (ms := ms_spec_MakeAutomata) (args := ag_spec_MakeAutomata) (res := rs_spec_MakeAutomata) (SOk.consV p_spec_l45At <| SOk.consV p_spec_l01Pick <| SOk.consV p_spec_l01Below <| SOk.consV p_spec_l34Draw <| SOk.nil) follows_ok k_spec_MakeAutomata F_spec_MakeAutomata fun x y h => (n_spec_MakeAutomata FUEL x).trans (f_spec_MakeAutomata x y h)

def fn_spec_MakeWord : SFn := ⟨22, ag_spec_MakeWord, mu_spec_MakeWord, rs_spec_MakeWord, F_spec_MakeWord⟩
def sc_spec_MakeWord : SCode :=
 (.seq
 (.reg false [
 oX 6 (.mv (.k (.one (.nil iX))))])
 (.seq
 (.reg false [
 oX 10 (.mv 0),
 oX 11 (.mv 1),
 oX 12 (.callb 37 [10, 11]),
 oX 7 (.mv 12)])
 (.seq
 (.reg false [
 oX 13 (.bslice iX []),
 oX 8 (.mv 13)])
 (.seq
 (.seq
 (.reg false [
 oX 14 (.mv 7),
 oX 15 (.callb 45 [14, (kX 7)]),
 oX 9 (.mv 15)])
 (.join ⟨[(8, .one (fX 500001 1))], [(500001, .row true .froz iX)]⟩ [12, 500000, 500001] [(false, 8, 0, 500001, .froz, [])]
 (.block 0
 (.loop 0 ⟨[(2, sX), (7, .one (rX 12)), (8, .one (fX 500000 1)), (9, sX)], [(12, .box [.c (.v (.list [.int .u8])), vX, vX]), (500000, .row true .froz iX)]⟩ [12, 13, 24, 25, 500000] [(false, 8, 0, 500000, .froz, [])]
 (.seq
 (.seq
 (.reg false [
 oX 16 (.mv 9),
 oX 17 (.bin .gtr 16 (kX 0))])
 (.cond 17
 .skip
 (.exit 0)))
 (.seq
 (.block 1
 (.reg false [
 oX 20 (.mv 8),
 oX 21 (.mv 7),
 oX 22 (.mv 2),
 oX 23 (.callb 45 [21, 22]),
 oX 24 (.bslice iX [23]),
 oX 25 (.append true iX 8 20 24),
 oX 8 (.mv 25)]))
 (.reg false [
 oX 18 (.mv 9),
 oX 19 (.bin .sub 18 (kX 1)),
 oX 9 (.mv 19)])))))))
 (.seq
 (.reg false [
 oX 26 (.mv 8),
 oX 6 (.mv 26)])
 .ret)))))
def ms_spec_MakeWord : List MRes := [.tmp 6]
theorem n_spec_MakeWord (NN : Nat) (x : DLL (Sig.tys ag_spec_MakeWord)) : runVS NN [fn_spec_l45At, fn_spec_l01Below] sc_spec_MakeWord ms_spec_MakeWord ag_spec_MakeWord rs_spec_MakeWord x = G_spec_MakeWord NN x := by kernel_rfl
theorem k_spec_MakeWord : chkS pX 22 sc_spec_MakeWord.er ms_spec_MakeWord 3 = true := by decide +kernel
theorem p_spec_MakeWord : VSpec Go.Proofs.Try.prog 22 fn_spec_MakeWord.MV ∧ chkFun pX 22 = true :=
  v_of_runVS (T := [fn_spec_l45At, fn_spec_l01Below]) (sc := sc_spec_MakeWord) (ms := ms_spec_MakeWord) (args := ag_spec_MakeWord) (res := rs_spec_MakeWord) (SOk.consV p_spec_l45At <| SOk.consV p_spec_l01Below <| SOk.nil) follows_ok k_spec_MakeWord F_spec_MakeWord fun x y h => (n_spec_MakeWord FUEL x).trans (f_spec_MakeWord x y h)

def fn_impl_IsPrime : SFn := ⟨55, ag_impl_IsPrime, mu_impl_IsPrime, rs_impl_IsPrime, F_impl_IsPrime⟩
def sc_impl_IsPrime : SCode :=
 (.seq
 (.reg false [
 oX 2 (.mv (.k (.one (.v (.bool) (false)))))])
 (.seq
 (.seq
 (.reg false [
 oX 4 (.mv 0),
 oX 5 (.bin .lss 4 (kX 2)),
 oX 6 (.mv 5),
 ⟨(some 7), .mv 0, (some (6, false))⟩,
 ⟨(some 8), .bin .gtr 7 (kX 1000003), (some (6, false))⟩,
 oX 9 (.pick 6 (.k (.one (.v (.bool) (true)))) 8)])
 (.cond 9
 (.seq
 (.reg false [
 oX 2 (.mv (.k (.one (.v (.bool) (false)))))])
 .ret)
 .skip))
 (.seq
 (.seq
 (.reg false [
 oX 3 (.mv (kX 2))])
 (.join ⟨[], []⟩ [] []
 (.block 0
 (.loop 0 ⟨[(0, sX), (3, sX)], []⟩ [] []
 (.seq
 (.seq
 (.reg false [
 oX 10 (.mv 3),
 oX 11 (.mv 3),
 oX 12 (.bin .mul 10 11),
 oX 13 (.mv 0),
 oX 14 (.bin .leq 12 13)])
 (.cond 14
 .skip
 (.exit 0)))
 (.seq
 (.block 1
 (.seq
 (.reg false [
 oX 17 (.mv 0),
 oX 18 (.mv 3),
 oX 19 (.bin .rem 17 18),
 oX 20 (.bin .eql 19 (kX 0))])
 (.cond 20
 (.seq
 (.reg false [
 oX 2 (.mv (.k (.one (.v (.bool) (false)))))])
 .ret)
 .skip)))
 (.reg false [
 oX 15 (.mv 3),
 oX 16 (.bin .add 15 (kX 1)),
 oX 3 (.mv 16)])))))))
 (.seq
 (.reg false [
 oX 2 (.mv (.k (.one (.v (.bool) (true)))))])
 .ret))))
def ms_impl_IsPrime : List MRes := [.tmp 2]
theorem n_impl_IsPrime (NN : Nat) (x : DLL (Sig.tys ag_impl_IsPrime)) : runS NN [] sc_impl_IsPrime ms_impl_IsPrime ag_impl_IsPrime rs_impl_IsPrime x = G_impl_IsPrime NN x := by kernel_rfl
theorem k_impl_IsPrime : chkS pX 55 sc_impl_IsPrime.er ms_impl_IsPrime 1 = true := by decide +kernel
theorem p_impl_IsPrime : PureSpec pX 55 fn_impl_IsPrime.M ∧ chkFun pX 55 = true :=
  pure_of_runS (T := []) (sc := sc_impl_IsPrime) (ms := ms_impl_IsPrime) (args := ag_impl_IsPrime) (res := rs_impl_IsPrime) (SOk.nil) follows_ok k_impl_IsPrime F_impl_IsPrime fun x y h => (n_impl_IsPrime FUEL x).trans (f_impl_IsPrime x y h)

def fn_impl_inMod : SFn := ⟨75, ag_impl_inMod, mu_impl_inMod, rs_impl_inMod, F_impl_inMod⟩
def sc_impl_inMod : SCode :=
 (.seq
 (.reg false [
 oX 4 (.mv (.k (.one (.v (.bool) (false)))))])
 (.seq
 (.seq
 (.reg false [
 oX 7 (.mv 1),
 oX 8 (.len 7),
 oX 9 (.mv (kX 0))])
 (.join ⟨[], []⟩ [] []
 (.block 0
 (.loop 0 ⟨[(0, sX), (7, .one (.c (.v (lX)))), (8, sX), (9, sX)], []⟩ [] []
 (.seq
 (.reg false [
 oX 10 (.bin .lss 9 8)])
 (.seq
 (.cond 10
 .skip
 (.exit 0))
 (.seq
 (.block 1
 (.seq
 (.reg false [
 oX 11 (.idxA 1 7 9),
 oX 12 (.load false 1 11),
 oX 6 (.mv 12)])
 (.seq
 (.reg false [
 oX 13 (.mv 6),
 oX 14 (.bin .lss 13 (kX 0)),
 oX 15 (.mv 14),
 ⟨(some 16), .mv 6, (some (15, false))⟩,
 ⟨(some 17), .mv 0, (some (15, false))⟩,
 ⟨(some 18), .bin .geq 16 17, (some (15, false))⟩,
 oX 19 (.pick 15 (.k (.one (.v (.bool) (true)))) 18)])
 (.cond 19
 (.seq
 (.reg false [
 oX 4 (.mv (.k (.one (.v (.bool) (false)))))])
 .ret)
 .skip))))
 (.reg false [
 oX 20 (.bin .add 9 (kX 1)),
 oX 9 (.mv 20)]))))))))
 (.seq
 (.reg false [
 oX 4 (.mv (.k (.one (.v (.bool) (true)))))])
 .ret)))
def ms_impl_inMod : List MRes := [.tmp 4]
theorem n_impl_inMod (NN : Nat) (x : DLL (Sig.tys ag_impl_inMod)) : runS NN [] sc_impl_inMod ms_impl_inMod ag_impl_inMod rs_impl_inMod x = G_impl_inMod NN x := by kernel_rfl
theorem k_impl_inMod : chkS pX 75 sc_impl_inMod.er ms_impl_inMod 2 = true := by decide +kernel
theorem p_impl_inMod : PureSpec pX 75 fn_impl_inMod.M ∧ chkFun pX 75 = true :=
  pure_of_runS (T := []) (sc := sc_impl_inMod) (ms := ms_impl_inMod) (args := ag_impl_inMod) (res := rs_impl_inMod) (SOk.nil) follows_ok k_impl_inMod F_impl_inMod fun x y h => (n_impl_inMod FUEL x).trans (f_impl_inMod x y h)

def fn_impl_MatrixOk : SFn := ⟨43, ag_impl_MatrixOk, mu_impl_MatrixOk, rs_impl_MatrixOk, F_impl_MatrixOk⟩
def sc_impl_MatrixOk : SCode :=
 (.seq
 (.reg false [
 oX 3 (.box 3 1),
 oX 4 (.mv (.k (.one (.v (.bool) (false)))))])
 (.seq
 (.seq
 (.reg false [
 oX 5 (.mv 0),
 oX 6 (.call .froz 55 [5]),
 oX 7 (.un .not 6),
 oX 8 (.mv 7),
 ⟨(some 9), .fieldA 0 3, (some (8, false))⟩,
 ⟨(some 10), .load false 1 9, (some (8, false))⟩,
 ⟨(some 11), .bin .lss 10 (kX 0), (some (8, false))⟩,
 oX 12 (.pick 8 (.k (.one (.v (.bool) (true)))) 11),
 oX 13 (.mv 12),
 ⟨(some 14), .fieldA 1 3, (some (13, false))⟩,
 ⟨(some 15), .load false 1 14, (some (13, false))⟩,
 ⟨(some 16), .bin .lss 15 (kX 0), (some (13, false))⟩,
 oX 17 (.pick 13 (.k (.one (.v (.bool) (true)))) 16),
 oX 18 (.mv 17),
 ⟨(some 19), .fieldA 0 3, (some (18, false))⟩,
 ⟨(some 20), .load false 1 19, (some (18, false))⟩,
 ⟨(some 21), .bin .gtr 20 (kX 64), (some (18, false))⟩,
 oX 22 (.pick 18 (.k (.one (.v (.bool) (true)))) 21),
 oX 23 (.mv 22),
 ⟨(some 24), .fieldA 1 3, (some (23, false))⟩,
 ⟨(some 25), .load false 1 24, (some (23, false))⟩,
 ⟨(some 26), .bin .gtr 25 (kX 64), (some (23, false))⟩,
 oX 27 (.pick 23 (.k (.one (.v (.bool) (true)))) 26)])
 (.cond 27
 (.seq
 (.reg false [
 oX 4 (.mv (.k (.one (.v (.bool) (false)))))])
 .ret)
 .skip))
 (.seq
 (.reg false [
 oX 28 (.fieldA 2 3),
 oX 29 (.load false 1 28),
 oX 30 (.len 29),
 oX 31 (.fieldA 0 3),
 oX 32 (.load false 1 31),
 oX 33 (.fieldA 1 3),
 oX 34 (.load false 1 33),
 oX 35 (.bin .mul 32 34),
 oX 36 (.bin .eql 30 35),
 oX 37 (.mv 36),
 ⟨(some 38), .mv 0, (some (37, true))⟩,
 ⟨(some 39), .fieldA 2 3, (some (37, true))⟩,
 ⟨(some 40), .load false 1 39, (some (37, true))⟩,
 ⟨(some 41), .call .froz 75 [38, 40], (some (37, true))⟩,
 oX 42 (.pick 37 41 (.k (.one (.v (.bool) (false))))),
 oX 4 (.mv 42)])
 .ret)))
def ms_impl_MatrixOk : List MRes := [.tmp 4]
theorem n_impl_MatrixOk (NN : Nat) (x : DLL (Sig.tys ag_impl_MatrixOk)) : runS NN [fn_impl_IsPrime, fn_impl_inMod] sc_impl_MatrixOk ms_impl_MatrixOk ag_impl_MatrixOk rs_impl_MatrixOk x = G_impl_MatrixOk NN x := by kernel_rfl
theorem k_impl_MatrixOk : chkS pX 43 sc_impl_MatrixOk.er ms_impl_MatrixOk 2 = true := by decide +kernel
theorem p_impl_MatrixOk : PureSpec pX 43 fn_impl_MatrixOk.M ∧ chkFun pX 43 = true :=
  pure_of_runS (T := [fn_impl_IsPrime, fn_impl_inMod]) (sc := sc_impl_MatrixOk) (ms := ms_impl_MatrixOk) (args := ag_impl_MatrixOk) (res := rs_impl_MatrixOk) (SOk.cons p_impl_IsPrime <| SOk.cons p_impl_inMod <| SOk.nil) follows_ok k_impl_MatrixOk F_impl_MatrixOk fun x y h => (n_impl_MatrixOk FUEL x).trans (f_impl_MatrixOk x y h)

def fn_impl_AutomatonOk : SFn := ⟨52, ag_impl_AutomatonOk, mu_impl_AutomatonOk, rs_impl_AutomatonOk, F_impl_AutomatonOk⟩
def sc_impl_AutomatonOk : SCode :=
 (.seq
 (.reg false [
 oX 1 (.box 5 0),
 oX 2 (.mv (.k (.one (.v (.bool) (false)))))])
 (.seq
 (.seq
 (.reg false [
 oX 5 (.fieldA 0 1),
 oX 6 (.load false 1 5),
 oX 7 (.call .froz 55 [6]),
 oX 8 (.un .not 7),
 oX 9 (.mv 8),
 ⟨(some 10), .fieldA 1 1, (some (9, false))⟩,
 ⟨(some 11), .load false 1 10, (some (9, false))⟩,
 ⟨(some 12), .bin .lss 11 (kX 0), (some (9, false))⟩,
 oX 13 (.pick 9 (.k (.one (.v (.bool) (true)))) 12),
 oX 14 (.mv 13),
 ⟨(some 15), .fieldA 1 1, (some (14, false))⟩,
 ⟨(some 16), .load false 1 15, (some (14, false))⟩,
 ⟨(some 17), .bin .gtr 16 (kX 12), (some (14, false))⟩,
 oX 18 (.pick 14 (.k (.one (.v (.bool) (true)))) 17),
 oX 19 (.mv 18),
 ⟨(some 20), .fieldA 2 1, (some (19, false))⟩,
 ⟨(some 21), .load false 1 20, (some (19, false))⟩,
 ⟨(some 22), .len 21, (some (19, false))⟩,
 ⟨(some 23), .fieldA 1 1, (some (19, false))⟩,
 ⟨(some 24), .load false 1 23, (some (19, false))⟩,
 ⟨(some 25), .bin .neq 22 24, (some (19, false))⟩,
 oX 26 (.pick 19 (.k (.one (.v (.bool) (true)))) 25),
 oX 27 (.mv 26),
 ⟨(some 28), .fieldA 4 1, (some (27, false))⟩,
 ⟨(some 29), .load false 1 28, (some (27, false))⟩,
 ⟨(some 30), .len 29, (some (27, false))⟩,
 ⟨(some 31), .fieldA 1 1, (some (27, false))⟩,
 ⟨(some 32), .load false 1 31, (some (27, false))⟩,
 ⟨(some 33), .bin .neq 30 32, (some (27, false))⟩,
 oX 34 (.pick 27 (.k (.one (.v (.bool) (true)))) 33)])
 (.cond 34
 (.seq
 (.reg false [
 oX 2 (.mv (.k (.one (.v (.bool) (false)))))])
 .ret)
 .skip))
 (.seq
 (.seq
 (.reg false [
 oX 35 (.fieldA 0 1),
 oX 36 (.load false 1 35),
 oX 37 (.fieldA 2 1),
 oX 38 (.load false 1 37),
 oX 39 (.call .froz 75 [36, 38]),
 oX 40 (.un .not 39),
 oX 41 (.mv 40),
 ⟨(some 42), .fieldA 0 1, (some (41, false))⟩,
 ⟨(some 43), .load false 1 42, (some (41, false))⟩,
 ⟨(some 44), .fieldA 4 1, (some (41, false))⟩,
 ⟨(some 45), .load false 1 44, (some (41, false))⟩,
 ⟨(some 46), .call .froz 75 [43, 45], (some (41, false))⟩,
 ⟨(some 47), .un .not 46, (some (41, false))⟩,
 oX 48 (.pick 41 (.k (.one (.v (.bool) (true)))) 47),
 oX 49 (.mv 48),
 ⟨(some 50), .fieldA 3 1, (some (49, false))⟩,
 ⟨(some 51), .load false 1 50, (some (49, false))⟩,
 ⟨(some 52), .len 51, (some (49, false))⟩,
 ⟨(some 53), .bin .lss 52 (kX 1), (some (49, false))⟩,
 oX 54 (.pick 49 (.k (.one (.v (.bool) (true)))) 53),
 oX 55 (.mv 54),
 ⟨(some 56), .fieldA 3 1, (some (55, false))⟩,
 ⟨(some 57), .load false 1 56, (some (55, false))⟩,
 ⟨(some 58), .len 57, (some (55, false))⟩,
 ⟨(some 59), .bin .gtr 58 (kX 4), (some (55, false))⟩,
 oX 60 (.pick 55 (.k (.one (.v (.bool) (true)))) 59)])
 (.cond 60
 (.seq
 (.reg false [
 oX 2 (.mv (.k (.one (.v (.bool) (false)))))])
 .ret)
 .skip))
 (.seq
 (.seq
 (.reg false [
 oX 61 (.fieldA 3 1),
 oX 62 (.load false 1 61),
 oX 63 (.len 62),
 oX 64 (.mv (kX 0))])
 (.join ⟨[], []⟩ [1] []
 (.block 0
 (.loop 0 ⟨[(1, .one (rX 1)), (62, .one (.c (.v (.list mX)))), (63, sX), (64, sX)], [(1, .box [vX, vX, .c (.v (lX)), .c (.v (.list mX)), .c (.v (lX))])]⟩ [1, 4] []
 (.seq
 (.reg false [
 oX 65 (.bin .lss 64 63)])
 (.seq
 (.cond 65
 .skip
 (.exit 0))
 (.seq
 (.block 1
 (.seq
 (.reg false [
 oX 66 (.idxA 3 62 64),
 oX 67 (.load true 3 66),
 oX 4 (.alloc [zX, zX, .nil iX]),
 uX (.store 3 4 67)])
 (.seq
 (.reg false [
 oX 68 (.fieldA 0 1),
 oX 69 (.load false 1 68),
 oX 70 (.load true 3 4),
 oX 71 (.call .froz 43 [69, 70]),
 oX 72 (.un .not 71),
 oX 73 (.mv 72),
 ⟨(some 74), .fieldA 0 4, (some (73, false))⟩,
 ⟨(some 75), .load false 1 74, (some (73, false))⟩,
 ⟨(some 76), .fieldA 1 1, (some (73, false))⟩,
 ⟨(some 77), .load false 1 76, (some (73, false))⟩,
 ⟨(some 78), .bin .neq 75 77, (some (73, false))⟩,
 oX 79 (.pick 73 (.k (.one (.v (.bool) (true)))) 78),
 oX 80 (.mv 79),
 ⟨(some 81), .fieldA 1 4, (some (80, false))⟩,
 ⟨(some 82), .load false 1 81, (some (80, false))⟩,
 ⟨(some 83), .fieldA 1 1, (some (80, false))⟩,
 ⟨(some 84), .load false 1 83, (some (80, false))⟩,
 ⟨(some 85), .bin .neq 82 84, (some (80, false))⟩,
 oX 86 (.pick 80 (.k (.one (.v (.bool) (true)))) 85)])
 (.cond 86
 (.seq
 (.reg false [
 oX 2 (.mv (.k (.one (.v (.bool) (false)))))])
 .ret)
 .skip))))
 (.reg false [
 oX 87 (.bin .add 64 (kX 1)),
 oX 64 (.mv 87)]))))))))
 (.seq
 (.reg false [
 oX 2 (.mv (.k (.one (.v (.bool) (true)))))])
 .ret)))))
def ms_impl_AutomatonOk : List MRes := [.tmp 2]
theorem n_impl_AutomatonOk (NN : Nat) (x : DLL (Sig.tys ag_impl_AutomatonOk)) : runS NN [fn_impl_IsPrime, fn_impl_inMod, fn_impl_MatrixOk] sc_impl_AutomatonOk ms_impl_AutomatonOk ag_impl_AutomatonOk rs_impl_AutomatonOk x = G_impl_AutomatonOk NN x := by kernel_rfl
theorem k_impl_AutomatonOk : chkS pX 52 sc_impl_AutomatonOk.er ms_impl_AutomatonOk 1 = true := by decide +kernel
theorem p_impl_AutomatonOk : PureSpec pX 52 fn_impl_AutomatonOk.M ∧ chkFun pX 52 = true :=
  pure_of_runS (T := [fn_impl_IsPrime, fn_impl_inMod, fn_impl_MatrixOk]) (sc := sc_impl_AutomatonOk) (ms := ms_impl_AutomatonOk) (args := ag_impl_AutomatonOk) (res := rs_impl_AutomatonOk) (SOk.cons p_impl_IsPrime <| SOk.cons p_impl_inMod <| SOk.cons p_impl_MatrixOk <| SOk.nil) follows_ok k_impl_AutomatonOk F_impl_AutomatonOk fun x y h => (n_impl_AutomatonOk FUEL x).trans (f_impl_AutomatonOk x y h)

def fn_impl_sameLetters : SFn := ⟨47, ag_impl_sameLetters, mu_impl_sameLetters, rs_impl_sameLetters, F_impl_sameLetters⟩
def sc_impl_sameLetters : SCode :=
 (.seq
 (.reg false [
 oX 2 (.box 5 0),
 oX 3 (.box 5 1),
 oX 4 (.mv (.k (.one (.v (.bool) (false)))))])
 (.seq
 (.reg false [
 oX 5 (.load true 5 2),
 oX 6 (.call .froz 52 [5]),
 oX 7 (.mv 6),
 ⟨(some 8), .load true 5 3, (some (7, true))⟩,
 ⟨(some 9), .call .froz 52 [8], (some (7, true))⟩,
 oX 10 (.pick 7 9 (.k (.one (.v (.bool) (false))))),
 oX 11 (.mv 10),
 ⟨(some 12), .fieldA 0 2, (some (11, true))⟩,
 ⟨(some 13), .load false 1 12, (some (11, true))⟩,
 ⟨(some 14), .fieldA 0 3, (some (11, true))⟩,
 ⟨(some 15), .load false 1 14, (some (11, true))⟩,
 ⟨(some 16), .bin .eql 13 15, (some (11, true))⟩,
 oX 17 (.pick 11 16 (.k (.one (.v (.bool) (false))))),
 oX 18 (.mv 17),
 ⟨(some 19), .fieldA 3 2, (some (18, true))⟩,
 ⟨(some 20), .load false 1 19, (some (18, true))⟩,
 ⟨(some 21), .len 20, (some (18, true))⟩,
 ⟨(some 22), .fieldA 3 3, (some (18, true))⟩,
 ⟨(some 23), .load false 1 22, (some (18, true))⟩,
 ⟨(some 24), .len 23, (some (18, true))⟩,
 ⟨(some 25), .bin .eql 21 24, (some (18, true))⟩,
 oX 26 (.pick 18 25 (.k (.one (.v (.bool) (false))))),
 oX 4 (.mv 26)])
 .ret))
def ms_impl_sameLetters : List MRes := [.tmp 4]
theorem n_impl_sameLetters (NN : Nat) (x : DLL (Sig.tys ag_impl_sameLetters)) : runS NN [fn_impl_AutomatonOk] sc_impl_sameLetters ms_impl_sameLetters ag_impl_sameLetters rs_impl_sameLetters x = G_impl_sameLetters NN x := by kernel_rfl
theorem k_impl_sameLetters : chkS pX 47 sc_impl_sameLetters.er ms_impl_sameLetters 2 = true := by decide +kernel
theorem p_impl_sameLetters : PureSpec pX 47 fn_impl_sameLetters.M ∧ chkFun pX 47 = true :=
  pure_of_runS (T := [fn_impl_AutomatonOk]) (sc := sc_impl_sameLetters) (ms := ms_impl_sameLetters) (args := ag_impl_sameLetters) (res := rs_impl_sameLetters) (SOk.cons p_impl_AutomatonOk <| SOk.nil) follows_ok k_impl_sameLetters F_impl_sameLetters fun x y h => (n_impl_sameLetters FUEL x).trans (f_impl_sameLetters x y h)

def fn_impl_copyInts : SFn := ⟨63, ag_impl_copyInts, mu_impl_copyInts, rs_impl_copyInts, F_impl_copyInts⟩
def sc_impl_copyInts : SCode :=
 (.seq
 (.reg false [
 oX 2 (.mv (.k (.one (.nil iX))))])
 (.seq
 (.reg false [
 oX 3 (.mv 0),
 oX 4 (.append true iX 8 (.k (.one (.nil iX))) 3),
 oX 2 (.mv 4)])
 .ret))
def ms_impl_copyInts : List MRes := [.tmp 2]
theorem n_impl_copyInts (NN : Nat) (x : DLL (Sig.tys ag_impl_copyInts)) : runS NN [] sc_impl_copyInts ms_impl_copyInts ag_impl_copyInts rs_impl_copyInts x = G_impl_copyInts NN x := by kernel_rfl
theorem k_impl_copyInts : chkS pX 63 sc_impl_copyInts.er ms_impl_copyInts 1 = true := by decide +kernel
theorem p_impl_copyInts : PureSpec pX 63 fn_impl_copyInts.M ∧ chkFun pX 63 = true :=
  pure_of_runS (T := []) (sc := sc_impl_copyInts) (ms := ms_impl_copyInts) (args := ag_impl_copyInts) (res := rs_impl_copyInts) (SOk.nil) follows_ok k_impl_copyInts F_impl_copyInts fun x y h => (n_impl_copyInts FUEL x).trans (f_impl_copyInts x y h)

def fn_impl_emptyMatrix : SFn := ⟨60, ag_impl_emptyMatrix, mu_impl_emptyMatrix, rs_impl_emptyMatrix, F_impl_emptyMatrix⟩
def sc_impl_emptyMatrix : SCode :=
 (.seq
 (.reg false [
 oX 4 (.alloc [zX, zX, .nil iX])])
 (.seq
 (.reg false [
 oX 5 (.mv 0),
 oX 6 (.mv 1),
 oX 7 (.mv 0),
 oX 8 (.mv 1),
 oX 9 (.bin .mul 7 8),
 oX 10 (.mkslice .froz iX 8 (0 : Int) 9 9),
 oX 11 (.build [zX, zX, .nil iX] [(0, 1, 5), (1, 1, 6), (2, 1, 10)]),
 uX (.store 3 4 11)])
 .ret))
def ms_impl_emptyMatrix : List MRes := [.cell 4 3 true]
theorem n_impl_emptyMatrix (NN : Nat) (x : DLL (Sig.tys ag_impl_emptyMatrix)) : runS NN [] sc_impl_emptyMatrix ms_impl_emptyMatrix ag_impl_emptyMatrix rs_impl_emptyMatrix x = G_impl_emptyMatrix NN x := by kernel_rfl
theorem k_impl_emptyMatrix : chkS pX 60 sc_impl_emptyMatrix.er ms_impl_emptyMatrix 2 = true := by decide +kernel
theorem p_impl_emptyMatrix : PureSpec pX 60 fn_impl_emptyMatrix.M ∧ chkFun pX 60 = true :=
  pure_of_runS (T := []) (sc := sc_impl_emptyMatrix) (ms := ms_impl_emptyMatrix) (args := ag_impl_emptyMatrix) (res := rs_impl_emptyMatrix) (SOk.nil) follows_ok k_impl_emptyMatrix F_impl_emptyMatrix fun x y h => (n_impl_emptyMatrix FUEL x).trans (f_impl_emptyMatrix x y h)

def fn_impl_Matrix_at : SFn := ⟨62, ag_impl_Matrix_at, mu_impl_Matrix_at, rs_impl_Matrix_at, F_impl_Matrix_at⟩
def sc_impl_Matrix_at : SCode :=
 (.seq
 (.reg false [
 oX 3 (.box 3 0),
 oX 6 (.mv (kX 0))])
 (.seq
 (.reg false [
 oX 7 (.fieldA 2 3),
 oX 8 (.load false 1 7),
 oX 9 (.mv 1),
 oX 10 (.fieldA 1 3),
 oX 11 (.load false 1 10),
 oX 12 (.bin .mul 9 11),
 oX 13 (.mv 2),
 oX 14 (.bin .add 12 13),
 oX 15 (.idxA 1 8 14),
 oX 16 (.load false 1 15),
 oX 6 (.mv 16)])
 .ret))
def ms_impl_Matrix_at : List MRes := [.tmp 6]
theorem n_impl_Matrix_at (NN : Nat) (x : DLL (Sig.tys ag_impl_Matrix_at)) : runS NN [] sc_impl_Matrix_at ms_impl_Matrix_at ag_impl_Matrix_at rs_impl_Matrix_at x = G_impl_Matrix_at NN x := by kernel_rfl
theorem k_impl_Matrix_at : chkS pX 62 sc_impl_Matrix_at.er ms_impl_Matrix_at 3 = true := by decide +kernel
theorem p_impl_Matrix_at : PureSpec pX 62 fn_impl_Matrix_at.M ∧ chkFun pX 62 = true :=
  pure_of_runS (T := []) (sc := sc_impl_Matrix_at) (ms := ms_impl_Matrix_at) (args := ag_impl_Matrix_at) (res := rs_impl_Matrix_at) (SOk.nil) follows_ok k_impl_Matrix_at F_impl_Matrix_at fun x y h => (n_impl_Matrix_at FUEL x).trans (f_impl_Matrix_at x y h)

def fn_impl_Matrix_set : SFn := ⟨61, ag_impl_Matrix_set, mu_impl_Matrix_set, rs_impl_Matrix_set, F_impl_Matrix_set⟩
def sc_impl_Matrix_set : SCode :=
 (.seq
 (.reg false [
 oX 4 (.box 3 0)])
 (.reg false [
 oX 8 (.fieldA 2 4),
 oX 9 (.load false 1 8),
 oX 10 (.mv 1),
 oX 11 (.fieldA 1 4),
 oX 12 (.load false 1 11),
 oX 13 (.bin .mul 10 12),
 oX 14 (.mv 2),
 oX 15 (.bin .add 13 14),
 oX 16 (.mv 3),
 oX 17 (.idxA 1 9 15),
 uX (.store 1 17 16)]))
def ms_impl_Matrix_set : List MRes := []
theorem n_impl_Matrix_set (NN : Nat) (x : DLL (Sig.tys ag_impl_Matrix_set)) : runMS NN [] sc_impl_Matrix_set ms_impl_Matrix_set ag_impl_Matrix_set mu_impl_Matrix_set rs_impl_Matrix_set x = G_impl_Matrix_set NN x := by kernel_rfl
theorem k_impl_Matrix_set : chkS pX 61 sc_impl_Matrix_set.er ms_impl_Matrix_set 4 = true := by decide +kernel
theorem p_impl_Matrix_set : MutSpec pX 61 mu_impl_Matrix_set fn_impl_Matrix_set.MM ∧ chkFun pX 61 = true :=
  mut_of_runMS (T := []) (sc := sc_impl_Matrix_set) (ms := ms_impl_Matrix_set) (args := ag_impl_Matrix_set) (mu := mu_impl_Matrix_set) (res := rs_impl_Matrix_set) (SOk.nil) follows_ok k_impl_Matrix_set F_impl_Matrix_set fun x y h => (n_impl_Matrix_set FUEL x).trans (f_impl_Matrix_set x y h)

def fn_impl_rawAddAutomata : SFn := ⟨48, ag_impl_rawAddAutomata, mu_impl_rawAddAutomata, rs_impl_rawAddAutomata, F_impl_rawAddAutomata⟩
def sc_impl_rawAddAutomata : SCode :=
 (.seq
 (.reg false [
 oX 2 (.box 5 0),
 oX 3 (.box 5 1),
 oX 4 (.alloc [zX, zX, .nil iX, .nil mX, .nil iX])])
 (.seq
 (.reg false [
 oX 13 (.fieldA 0 2),
 oX 14 (.load false 1 13),
 oX 15 (.fieldA 1 2),
 oX 16 (.load false 1 15),
 oX 17 (.fieldA 1 3),
 oX 18 (.load false 1 17),
 oX 19 (.bin .add 16 18),
 oX 20 (.build [zX, zX, .nil iX, .nil mX, .nil iX] [(0, 1, 14), (1, 1, 19)]),
 oX 5 (.alloc [zX, zX, .nil iX, .nil mX, .nil iX]),
 uX (.store 5 5 20)])
 (.seq
 (.reg true [
 oX 21 (.fieldA 2 2),
 oX 22 (.load false 1 21),
 oX 23 (.call .froz 63 [22]),
 oX 24 (.fieldA 2 3),
 oX 25 (.load false 1 24),
 oX 26 (.append true iX 8 23 25),
 oX 27 (.fieldA 2 5),
 uX (.store 1 27 26)])
 (.seq
 (.reg true [
 oX 28 (.fieldA 4 2),
 oX 29 (.load false 1 28),
 oX 30 (.call .froz 63 [29]),
 oX 31 (.fieldA 4 3),
 oX 32 (.load false 1 31),
 oX 33 (.append true iX 8 30 32),
 oX 34 (.fieldA 4 5),
 uX (.store 1 34 33)])
 (.seq
 (.seq
 (.reg false [
 oX 35 (.fieldA 3 2),
 oX 36 (.load false 1 35),
 oX 37 (.len 36),
 oX 38 (.mv (kX 0))])
 (.join ⟨[(5, .one (rX 5)), (4, .one (rX 4))], [(4, .box [vX, vX, fX 500068 1, fX 500069 3, fX 500070 1]), (5, .box [vX, vX, fX 500071 1, fX 500072 3, fX 500073 1]), (500068, .row true .froz iX), (500069, .row true .froz mX), (500070, .row true .froz iX), (500071, .row true .froz iX), (500072, .row true .froz mX), (500073, .row true .froz iX)]⟩ [2, 3, 4, 5, 500000, 500001, 500002, 500003, 500004, 500005, 500068, 500069, 500070, 500071, 500072, 500073] [(true, 4, 2, 500068, .froz, []), (true, 4, 3, 500069, .froz, []), (true, 4, 4, 500070, .froz, []), (true, 5, 2, 500071, .froz, []), (true, 5, 3, 500072, .froz, []), (true, 5, 4, 500073, .froz, [])]
 (.block 0
 (.loop 0 ⟨[(2, .one (rX 2)), (3, .one (rX 3)), (4, .one (rX 4)), (5, .one (rX 5)), (36, .one (.c (.v (.list mX)))), (37, sX), (38, sX)], [(2, .box [vX, vX, .c (.v (lX)), .c (.v (.list mX)), .c (.v (lX))]), (3, .box [vX, vX, .c (.v (lX)), .c (.v (.list mX)), .c (.v (lX))]), (4, .box [vX, vX, fX 500000 1, fX 500001 3, fX 500002 1]), (5, .box [vX, vX, fX 500003 1, fX 500004 3, fX 500005 1]), (500000, .row true .froz iX), (500001, .row true .froz mX), (500002, .row true .froz iX), (500003, .row true .froz iX), (500004, .row true .froz mX), (500005, .row true .froz iX)]⟩ [2, 3, 4, 5, 26, 33, 500000, 500001, 500002, 500003, 500004, 500005, 500062, 500063, 500064, 500065, 500066, 500067] [(true, 4, 2, 500000, .froz, []), (true, 4, 3, 500001, .froz, []), (true, 4, 4, 500002, .froz, []), (true, 5, 2, 500003, .froz, []), (true, 5, 3, 500004, .froz, []), (true, 5, 4, 500005, .froz, [])]
 (.seq
 (.reg false [
 oX 39 (.bin .lss 38 37)])
 (.seq
 (.cond 39
 .skip
 (.exit 0))
 (.seq
 (.join ⟨[(38, sX), (2, .one (rX 2)), (3, .one (rX 3)), (4, .one (rX 4)), (5, .one (rX 5)), (36, .one (.c (.v (.list mX)))), (37, sX)], [(2, .box [vX, vX, .c (.v (lX)), .c (.v (.list mX)), .c (.v (lX))]), (3, .box [vX, vX, .c (.v (lX)), .c (.v (.list mX)), .c (.v (lX))]), (4, .box [vX, vX, fX 500062 1, fX 500063 3, fX 500064 1]), (5, .box [vX, vX, fX 500065 1, fX 500066 3, fX 500067 1]), (500062, .row true .froz iX), (500063, .row true .froz mX), (500064, .row true .froz iX), (500065, .row true .froz iX), (500066, .row true .froz mX), (500067, .row true .froz iX)]⟩ [2, 3, 4, 5, 8, 102, 500055, 500056, 500057, 500058, 500060, 500062, 500063, 500064, 500065, 500066, 500067] [(true, 4, 2, 500062, .froz, []), (true, 4, 3, 500063, .froz, []), (true, 4, 4, 500064, .froz, []), (true, 5, 2, 500065, .froz, []), (true, 5, 3, 500066, .froz, []), (true, 5, 4, 500067, .froz, [])]
 (.block 1
 (.seq
 (.reg false [
 oX 40 (.mv 38),
 oX 41 (.idxA 3 36 38),
 oX 42 (.load true 3 41),
 oX 7 (.alloc [zX, zX, .nil iX]),
 oX 6 (.mv 40),
 uX (.store 3 7 42)])
 (.seq
 (.reg false [
 oX 43 (.fieldA 1 5),
 oX 44 (.load false 1 43),
 oX 45 (.fieldA 1 5),
 oX 46 (.load false 1 45),
 oX 47 (.call .froz 60 [44, 46]),
 oX 8 (.alloc [zX, zX, .nil iX]),
 uX (.store 3 8 47)])
 (.seq
 (.seq
 (.reg false [
 oX 9 (.mv (kX 0))])
 (.join ⟨[(37, sX), (36, .one (.c (.v (.list mX)))), (5, .one (rX 5)), (4, .one (rX 4)), (3, .one (rX 3)), (2, .one (rX 2)), (38, sX), (8, .one (rX 8)), (6, sX)], [(2, .box [vX, vX, .c (.v (lX)), .c (.v (.list mX)), .c (.v (lX))]), (3, .box [vX, vX, .c (.v (lX)), .c (.v (.list mX)), .c (.v (lX))]), (4, .box [vX, vX, fX 500027 1, fX 500028 3, fX 500029 1]), (5, .box [vX, vX, fX 500030 1, fX 500031 3, fX 500032 1]), (8, .box [vX, vX, fX 500033 1]), (500027, .row true .froz iX), (500028, .row true .froz mX), (500029, .row true .froz iX), (500030, .row true .froz iX), (500031, .row true .froz mX), (500032, .row true .froz iX), (500033, .row true .froz iX)]⟩ [2, 3, 4, 5, 7, 8, 500006, 500007, 500008, 500009, 500010, 500011, 500012, 500027, 500028, 500029, 500030, 500031, 500032, 500033] [(true, 4, 2, 500027, .froz, []), (true, 4, 3, 500028, .froz, []), (true, 4, 4, 500029, .froz, []), (true, 5, 2, 500030, .froz, []), (true, 5, 3, 500031, .froz, []), (true, 5, 4, 500032, .froz, []), (true, 8, 2, 500033, .froz, [])]
 (.block 2
 (.loop 0 ⟨[(2, .one (rX 2)), (3, .one (rX 3)), (4, .one (rX 4)), (5, .one (rX 5)), (6, sX), (7, .one (rX 7)), (8, .one (rX 8)), (9, sX), (36, .one (.c (.v (.list mX)))), (37, sX), (38, sX)], [(2, .box [vX, vX, .c (.v (lX)), .c (.v (.list mX)), .c (.v (lX))]), (3, .box [vX, vX, .c (.v (lX)), .c (.v (.list mX)), .c (.v (lX))]), (4, .box [vX, vX, fX 500006 1, fX 500007 3, fX 500008 1]), (5, .box [vX, vX, fX 500009 1, fX 500010 3, fX 500011 1]), (7, .box [vX, vX, .c (.v (lX))]), (8, .box [vX, vX, fX 500012 1]), (500006, .row true .froz iX), (500007, .row true .froz mX), (500008, .row true .froz iX), (500009, .row true .froz iX), (500010, .row true .froz mX), (500011, .row true .froz iX), (500012, .row true .froz iX)]⟩ [2, 3, 4, 5, 7, 48000, 8, 500000, 500001, 500002, 500003, 500004, 500005, 500006, 500007, 500008, 500009, 500010, 500011, 500012, 500020, 500021, 500022, 500023, 500024, 500025, 500026] [(true, 4, 2, 500006, .froz, []), (true, 4, 3, 500007, .froz, []), (true, 4, 4, 500008, .froz, []), (true, 5, 2, 500009, .froz, []), (true, 5, 3, 500010, .froz, []), (true, 5, 4, 500011, .froz, []), (true, 8, 2, 500012, .froz, [])]
 (.seq
 (.seq
 (.reg false [
 oX 48 (.mv 9),
 oX 49 (.fieldA 1 2),
 oX 50 (.load false 1 49),
 oX 51 (.bin .lss 48 50)])
 (.cond 51
 .skip
 (.exit 2)))
 (.seq
 (.join ⟨[(9, sX), (2, .one (rX 2)), (3, .one (rX 3)), (4, .one (rX 4)), (5, .one (rX 5)), (6, sX), (7, .one (rX 7)), (8, .one (rX 8)), (36, .one (.c (.v (.list mX)))), (37, sX), (38, sX)], [(2, .box [vX, vX, .c (.v (lX)), .c (.v (.list mX)), .c (.v (lX))]), (3, .box [vX, vX, .c (.v (lX)), .c (.v (.list mX)), .c (.v (lX))]), (4, .box [vX, vX, fX 500020 1, fX 500021 3, fX 500022 1]), (5, .box [vX, vX, fX 500023 1, fX 500024 3, fX 500025 1]), (7, .box [vX, vX, .c (.v (lX))]), (8, .box [vX, vX, fX 500026 1]), (500020, .row true .froz iX), (500021, .row true .froz mX), (500022, .row true .froz iX), (500023, .row true .froz iX), (500024, .row true .froz mX), (500025, .row true .froz iX), (500026, .row true .froz iX)]⟩ [2, 3, 4, 5, 7, 8, 500013, 500014, 500015, 500016, 500017, 500018, 500019, 500020, 500021, 500022, 500023, 500024, 500025, 500026] [(true, 4, 2, 500020, .froz, []), (true, 4, 3, 500021, .froz, []), (true, 4, 4, 500022, .froz, []), (true, 5, 2, 500023, .froz, []), (true, 5, 3, 500024, .froz, []), (true, 5, 4, 500025, .froz, []), (true, 8, 2, 500026, .froz, [])]
 (.block 3
 (.seq
 (.reg false [
 oX 10 (.mv (kX 0))])
 (.block 4
 (.loop 0 ⟨[(2, .one (rX 2)), (3, .one (rX 3)), (4, .one (rX 4)), (5, .one (rX 5)), (6, sX), (7, .one (rX 7)), (8, .one (rX 8)), (9, sX), (10, sX), (36, .one (.c (.v (.list mX)))), (37, sX), (38, sX)], [(2, .box [vX, vX, .c (.v (lX)), .c (.v (.list mX)), .c (.v (lX))]), (3, .box [vX, vX, .c (.v (lX)), .c (.v (.list mX)), .c (.v (lX))]), (4, .box [vX, vX, fX 500013 1, fX 500014 3, fX 500015 1]), (5, .box [vX, vX, fX 500016 1, fX 500017 3, fX 500018 1]), (7, .box [vX, vX, .c (.v (lX))]), (8, .box [vX, vX, fX 500019 1]), (500013, .row true .froz iX), (500014, .row true .froz mX), (500015, .row true .froz iX), (500016, .row true .froz iX), (500017, .row true .froz mX), (500018, .row true .froz iX), (500019, .row true .froz iX)]⟩ [2, 3, 4, 5, 7, 8, 500006, 500007, 500008, 500009, 500010, 500011, 500012, 500013, 500014, 500015, 500016, 500017, 500018, 500019] [(true, 4, 2, 500013, .froz, []), (true, 4, 3, 500014, .froz, []), (true, 4, 4, 500015, .froz, []), (true, 5, 2, 500016, .froz, []), (true, 5, 3, 500017, .froz, []), (true, 5, 4, 500018, .froz, []), (true, 8, 2, 500019, .froz, [])]
 (.seq
 (.seq
 (.reg false [
 oX 54 (.mv 10),
 oX 55 (.fieldA 1 2),
 oX 56 (.load false 1 55),
 oX 57 (.bin .lss 54 56)])
 (.cond 57
 .skip
 (.exit 4)))
 (.seq
 (.block 5
 (.reg true [
 oX 60 (.load true 3 8),
 oX 61 (.mv 9),
 oX 62 (.mv 10),
 oX 63 (.load true 3 7),
 oX 64 (.mv 9),
 oX 65 (.mv 10),
 oX 66 (.call .froz 62 [63, 64, 65]),
 oX 67 (.callm .froz 61 [60, 61, 62, 66])]))
 (.reg false [
 oX 58 (.mv 10),
 oX 59 (.bin .add 58 (kX 1)),
 oX 10 (.mv 59)]))))))))
 (.reg false [
 oX 52 (.mv 9),
 oX 53 (.bin .add 52 (kX 1)),
 oX 9 (.mv 53)])))))))
 (.seq
 (.seq
 (.reg false [
 oX 11 (.mv (kX 0))])
 (.join ⟨[(8, .one (rX 8)), (38, sX), (2, .one (rX 2)), (3, .one (rX 3)), (4, .one (rX 4)), (5, .one (rX 5)), (36, .one (.c (.v (.list mX)))), (37, sX)], [(2, .box [vX, vX, .c (.v (lX)), .c (.v (.list mX)), .c (.v (lX))]), (3, .box [vX, vX, .c (.v (lX)), .c (.v (.list mX)), .c (.v (lX))]), (4, .box [vX, vX, fX 500055 1, fX 500056 3, fX 500057 1]), (5, .box [vX, vX, fX 500058 1, fX 500059 3, fX 500060 1]), (8, .box [vX, vX, fX 500061 1]), (500055, .row true .froz iX), (500056, .row true .froz mX), (500057, .row true .froz iX), (500058, .row true .froz iX), (500059, .row true .froz mX), (500060, .row true .froz iX), (500061, .row true .froz iX)]⟩ [2, 3, 4, 5, 8, 500034, 500035, 500036, 500037, 500038, 500039, 500040, 500055, 500056, 500057, 500058, 500059, 500060, 500061] [(true, 4, 2, 500055, .froz, []), (true, 4, 3, 500056, .froz, []), (true, 4, 4, 500057, .froz, []), (true, 5, 2, 500058, .froz, []), (true, 5, 3, 500059, .froz, []), (true, 5, 4, 500060, .froz, []), (true, 8, 2, 500061, .froz, [])]
 (.block 6
 (.loop 0 ⟨[(2, .one (rX 2)), (3, .one (rX 3)), (4, .one (rX 4)), (5, .one (rX 5)), (6, sX), (8, .one (rX 8)), (11, sX), (36, .one (.c (.v (.list mX)))), (37, sX), (38, sX)], [(2, .box [vX, vX, .c (.v (lX)), .c (.v (.list mX)), .c (.v (lX))]), (3, .box [vX, vX, .c (.v (lX)), .c (.v (.list mX)), .c (.v (lX))]), (4, .box [vX, vX, fX 500034 1, fX 500035 3, fX 500036 1]), (5, .box [vX, vX, fX 500037 1, fX 500038 3, fX 500039 1]), (8, .box [vX, vX, fX 500040 1]), (500034, .row true .froz iX), (500035, .row true .froz mX), (500036, .row true .froz iX), (500037, .row true .froz iX), (500038, .row true .froz mX), (500039, .row true .froz iX), (500040, .row true .froz iX)]⟩ [2, 3, 4, 5, 8, 500027, 500028, 500029, 500030, 500031, 500032, 500033, 500034, 500035, 500036, 500037, 500038, 500039, 500040, 500048, 500049, 500050, 500051, 500052, 500053, 500054] [(true, 4, 2, 500034, .froz, []), (true, 4, 3, 500035, .froz, []), (true, 4, 4, 500036, .froz, []), (true, 5, 2, 500037, .froz, []), (true, 5, 3, 500038, .froz, []), (true, 5, 4, 500039, .froz, []), (true, 8, 2, 500040, .froz, [])]
 (.seq
 (.seq
 (.reg false [
 oX 68 (.mv 11),
 oX 69 (.fieldA 1 3),
 oX 70 (.load false 1 69),
 oX 71 (.bin .lss 68 70)])
 (.cond 71
 .skip
 (.exit 6)))
 (.seq
 (.join ⟨[(11, sX), (2, .one (rX 2)), (3, .one (rX 3)), (4, .one (rX 4)), (5, .one (rX 5)), (6, sX), (8, .one (rX 8)), (36, .one (.c (.v (.list mX)))), (37, sX), (38, sX)], [(2, .box [vX, vX, .c (.v (lX)), .c (.v (.list mX)), .c (.v (lX))]), (3, .box [vX, vX, .c (.v (lX)), .c (.v (.list mX)), .c (.v (lX))]), (4, .box [vX, vX, fX 500048 1, fX 500049 3, fX 500050 1]), (5, .box [vX, vX, fX 500051 1, fX 500052 3, fX 500053 1]), (8, .box [vX, vX, fX 500054 1]), (500048, .row true .froz iX), (500049, .row true .froz mX), (500050, .row true .froz iX), (500051, .row true .froz iX), (500052, .row true .froz mX), (500053, .row true .froz iX), (500054, .row true .froz iX)]⟩ [2, 3, 4, 5, 8, 500041, 500042, 500043, 500044, 500045, 500046, 500047, 500048, 500049, 500050, 500051, 500052, 500053, 500054] [(true, 4, 2, 500048, .froz, []), (true, 4, 3, 500049, .froz, []), (true, 4, 4, 500050, .froz, []), (true, 5, 2, 500051, .froz, []), (true, 5, 3, 500052, .froz, []), (true, 5, 4, 500053, .froz, []), (true, 8, 2, 500054, .froz, [])]
 (.block 7
 (.seq
 (.reg false [
 oX 12 (.mv (kX 0))])
 (.block 8
 (.loop 0 ⟨[(2, .one (rX 2)), (3, .one (rX 3)), (4, .one (rX 4)), (5, .one (rX 5)), (6, sX), (8, .one (rX 8)), (11, sX), (12, sX), (36, .one (.c (.v (.list mX)))), (37, sX), (38, sX)], [(2, .box [vX, vX, .c (.v (lX)), .c (.v (.list mX)), .c (.v (lX))]), (3, .box [vX, vX, .c (.v (lX)), .c (.v (.list mX)), .c (.v (lX))]), (4, .box [vX, vX, fX 500041 1, fX 500042 3, fX 500043 1]), (5, .box [vX, vX, fX 500044 1, fX 500045 3, fX 500046 1]), (8, .box [vX, vX, fX 500047 1]), (500041, .row true .froz iX), (500042, .row true .froz mX), (500043, .row true .froz iX), (500044, .row true .froz iX), (500045, .row true .froz mX), (500046, .row true .froz iX), (500047, .row true .froz iX)]⟩ [2, 3, 4, 5, 8, 500034, 500035, 500036, 500037, 500038, 500039, 500040, 500041, 500042, 500043, 500044, 500045, 500046, 500047] [(true, 4, 2, 500041, .froz, []), (true, 4, 3, 500042, .froz, []), (true, 4, 4, 500043, .froz, []), (true, 5, 2, 500044, .froz, []), (true, 5, 3, 500045, .froz, []), (true, 5, 4, 500046, .froz, []), (true, 8, 2, 500047, .froz, [])]
 (.seq
 (.seq
 (.reg false [
 oX 74 (.mv 12),
 oX 75 (.fieldA 1 3),
 oX 76 (.load false 1 75),
 oX 77 (.bin .lss 74 76)])
 (.cond 77
 .skip
 (.exit 8)))
 (.seq
 (.block 9
 (.reg true [
 oX 80 (.load true 3 8),
 oX 81 (.fieldA 1 2),
 oX 82 (.load false 1 81),
 oX 83 (.mv 11),
 oX 84 (.bin .add 82 83),
 oX 85 (.fieldA 1 2),
 oX 86 (.load false 1 85),
 oX 87 (.mv 12),
 oX 88 (.bin .add 86 87),
 oX 89 (.fieldA 3 3),
 oX 90 (.load false 1 89),
 oX 91 (.mv 6),
 oX 92 (.idxA 3 90 91),
 oX 93 (.load true 3 92),
 oX 94 (.mv 11),
 oX 95 (.mv 12),
 oX 96 (.call .froz 62 [93, 94, 95]),
 oX 97 (.callm .froz 61 [80, 84, 88, 96])]))
 (.reg false [
 oX 78 (.mv 12),
 oX 79 (.bin .add 78 (kX 1)),
 oX 12 (.mv 79)]))))))))
 (.reg false [
 oX 72 (.mv 11),
 oX 73 (.bin .add 72 (kX 1)),
 oX 11 (.mv 73)])))))))
 (.reg false [
 oX 98 (.fieldA 3 5),
 oX 99 (.load false 1 98),
 oX 100 (.load true 3 8),
 oX 101 (.bslice mX [100]),
 oX 102 (.append false mX 40 99 101),
 oX 103 (.fieldA 3 5),
 uX (.store 1 103 102)])))))))
 (.reg false [
 oX 104 (.bin .add 38 (kX 1)),
 oX 38 (.mv 104)]))))))))
 (.seq
 (.reg false [
 oX 105 (.load true 5 5),
 uX (.store 5 4 105)])
 .ret))))))
def ms_impl_rawAddAutomata : List MRes := [.cell 4 5 true]
theorem n_impl_rawAddAutomata (NN : Nat) (x : DLL (Sig.tys ag_impl_rawAddAutomata)) : runS NN [fn_impl_copyInts, fn_impl_emptyMatrix, fn_impl_Matrix_at, fn_impl_Matrix_set] sc_impl_rawAddAutomata ms_impl_rawAddAutomata ag_impl_rawAddAutomata rs_impl_rawAddAutomata x = G_impl_rawAddAutomata NN x := by kernel_rfl
theorem k_impl_rawAddAutomata : chkS pX 48 sc_impl_rawAddAutomata.er ms_impl_rawAddAutomata 2 = true := by decide +kernel
theorem p_impl_rawAddAutomata : PureSpec pX 48 fn_impl_rawAddAutomata.M ∧ chkFun pX 48 = true :=
  pure_of_runS (T := [fn_impl_copyInts, fn_impl_emptyMatrix, fn_impl_Matrix_at, fn_impl_Matrix_set]) (sc := sc_impl_rawAddAutomata) (ms := ms_impl_rawAddAutomata) (args := ag_impl_rawAddAutomata) (res := rs_impl_rawAddAutomata) (SOk.cons p_impl_copyInts <| SOk.cons p_impl_emptyMatrix <| SOk.cons p_impl_Matrix_at <| SOk.consM p_impl_Matrix_set <| SOk.nil) follows_ok k_impl_rawAddAutomata F_impl_rawAddAutomata fun x y h => (n_impl_rawAddAutomata FUEL x).trans (f_impl_rawAddAutomata x y h)

def fn_impl_AddAutomata : SFn := ⟨23, ag_impl_AddAutomata, mu_impl_AddAutomata, rs_impl_AddAutomata, F_impl_AddAutomata⟩
def sc_impl_AddAutomata : SCode :=
 (.seq
 (.reg false [
 oX 2 (.box 5 0),
 oX 3 (.box 5 1),
 oX 4 (.alloc [zX, zX, .nil iX, .nil mX, .nil iX]),
 oX 5 (.mv (.k (.one (.v (.bool) (false)))))])
 (.seq
 (.seq
 (.reg false [
 oX 6 (.load true 5 2),
 oX 7 (.load true 5 3),
 oX 8 (.call .froz 47 [6, 7]),
 oX 9 (.un .not 8),
 oX 10 (.mv 9),
 ⟨(some 11), .fieldA 1 2, (some (10, false))⟩,
 ⟨(some 12), .load false 1 11, (some (10, false))⟩,
 ⟨(some 13), .fieldA 1 3, (some (10, false))⟩,
 ⟨(some 14), .load false 1 13, (some (10, false))⟩,
 ⟨(some 15), .bin .add 12 14, (some (10, false))⟩,
 ⟨(some 16), .bin .gtr 15 (kX 12), (some (10, false))⟩,
 oX 17 (.pick 10 (.k (.one (.v (.bool) (true)))) 16)])
 (.cond 17
 (.seq
 (.reg false [
 oX 18 (.build [zX, zX, .nil iX, .nil mX, .nil iX] []),
 uX (.store 5 4 18),
 oX 5 (.mv (.k (.one (.v (.bool) (false)))))])
 .ret)
 .skip))
 (.seq
 (.reg false [
 oX 19 (.load true 5 2),
 oX 20 (.load true 5 3),
 oX 21 (.call .froz 48 [19, 20]),
 uX (.store 5 4 21),
 oX 5 (.mv (.k (.one (.v (.bool) (true)))))])
 .ret)))
def ms_impl_AddAutomata : List MRes := [.cell 4 5 true, .tmp 5]
theorem n_impl_AddAutomata (NN : Nat) (x : DLL (Sig.tys ag_impl_AddAutomata)) : runS NN [fn_impl_sameLetters, fn_impl_rawAddAutomata] sc_impl_AddAutomata ms_impl_AddAutomata ag_impl_AddAutomata rs_impl_AddAutomata x = G_impl_AddAutomata NN x := by kernel_rfl
theorem k_impl_AddAutomata : chkS pX 23 sc_impl_AddAutomata.er ms_impl_AddAutomata 2 = true := by decide +kernel
theorem p_impl_AddAutomata : PureSpec pX 23 fn_impl_AddAutomata.M ∧ chkFun pX 23 = true :=
  pure_of_runS (T := [fn_impl_sameLetters, fn_impl_rawAddAutomata]) (sc := sc_impl_AddAutomata) (ms := ms_impl_AddAutomata) (args := ag_impl_AddAutomata) (res := rs_impl_AddAutomata) (SOk.cons p_impl_sameLetters <| SOk.cons p_impl_rawAddAutomata <| SOk.nil) follows_ok k_impl_AddAutomata F_impl_AddAutomata fun x y h => (n_impl_AddAutomata FUEL x).trans (f_impl_AddAutomata x y h)

def fn_impl_pairMatrix : SFn := ⟨49, ag_impl_pairMatrix, mu_impl_pairMatrix, rs_impl_pairMatrix, F_impl_pairMatrix⟩
def sc_impl_pairMatrix : SCode :=
 (.seq
 (.reg false [
 oX 4 (.box 3 1),
 oX 5 (.box 3 2),
 oX 6 (.alloc [zX, zX, .nil iX])])
 (.seq
 (.reg false [
 oX 10 (.fieldA 0 4),
 oX 11 (.load false 1 10),
 oX 12 (.fieldA 0 5),
 oX 13 (.load false 1 12),
 oX 14 (.bin .mul 11 13),
 oX 15 (.fieldA 1 4),
 oX 16 (.load false 1 15),
 oX 17 (.fieldA 1 5),
 oX 18 (.load false 1 17),
 oX 19 (.bin .mul 16 18),
 oX 20 (.call .froz 60 [14, 19]),
 oX 7 (.alloc [zX, zX, .nil iX]),
 uX (.store 3 7 20)])
 (.seq
 (.seq
 (.reg false [
 oX 8 (.mv (kX 0))])
 (.join ⟨[(7, .one (rX 7)), (6, .one (rX 6))], [(6, .box [vX, vX, fX 500006 1]), (7, .box [vX, vX, fX 500007 1]), (500006, .row true .froz iX), (500007, .row true .froz iX)]⟩ [4, 5, 6, 7, 500000, 500001, 500006, 500007] [(true, 6, 2, 500006, .froz, []), (true, 7, 2, 500007, .froz, [])]
 (.block 0
 (.loop 0 ⟨[(0, sX), (4, .one (rX 4)), (5, .one (rX 5)), (6, .one (rX 6)), (7, .one (rX 7)), (8, sX)], [(4, .box [vX, vX, .c (.v (lX))]), (5, .box [vX, vX, .c (.v (lX))]), (6, .box [vX, vX, fX 500000 1]), (7, .box [vX, vX, fX 500001 1]), (500000, .row true .froz iX), (500001, .row true .froz iX)]⟩ [4, 5, 6, 21000, 7, 500000, 500001, 500004, 500005] [(true, 6, 2, 500000, .froz, []), (true, 7, 2, 500001, .froz, [])]
 (.seq
 (.seq
 (.reg false [
 oX 21 (.mv 8),
 oX 22 (.fieldA 0 7),
 oX 23 (.load false 1 22),
 oX 24 (.bin .lss 21 23)])
 (.cond 24
 .skip
 (.exit 0)))
 (.seq
 (.join ⟨[(8, sX), (0, sX), (4, .one (rX 4)), (5, .one (rX 5)), (6, .one (rX 6)), (7, .one (rX 7))], [(4, .box [vX, vX, .c (.v (lX))]), (5, .box [vX, vX, .c (.v (lX))]), (6, .box [vX, vX, fX 500004 1]), (7, .box [vX, vX, fX 500005 1]), (500004, .row true .froz iX), (500005, .row true .froz iX)]⟩ [4, 5, 6, 7, 500002, 500003, 500004, 500005] [(true, 6, 2, 500004, .froz, []), (true, 7, 2, 500005, .froz, [])]
 (.block 1
 (.seq
 (.reg false [
 oX 9 (.mv (kX 0))])
 (.block 2
 (.loop 0 ⟨[(0, sX), (4, .one (rX 4)), (5, .one (rX 5)), (6, .one (rX 6)), (7, .one (rX 7)), (8, sX), (9, sX)], [(4, .box [vX, vX, .c (.v (lX))]), (5, .box [vX, vX, .c (.v (lX))]), (6, .box [vX, vX, fX 500002 1]), (7, .box [vX, vX, fX 500003 1]), (500002, .row true .froz iX), (500003, .row true .froz iX)]⟩ [4, 5, 6, 7, 500000, 500001, 500002, 500003] [(true, 6, 2, 500002, .froz, []), (true, 7, 2, 500003, .froz, [])]
 (.seq
 (.seq
 (.reg false [
 oX 27 (.mv 9),
 oX 28 (.fieldA 1 7),
 oX 29 (.load false 1 28),
 oX 30 (.bin .lss 27 29)])
 (.cond 30
 .skip
 (.exit 2)))
 (.seq
 (.block 3
 (.reg true [
 oX 33 (.load true 3 7),
 oX 34 (.mv 8),
 oX 35 (.mv 9),
 oX 36 (.load true 3 4),
 oX 37 (.mv 8),
 oX 38 (.fieldA 0 5),
 oX 39 (.load false 1 38),
 oX 40 (.bin .quo 37 39),
 oX 41 (.mv 9),
 oX 42 (.fieldA 1 5),
 oX 43 (.load false 1 42),
 oX 44 (.bin .quo 41 43),
 oX 45 (.call .froz 62 [36, 40, 44]),
 oX 46 (.load true 3 5),
 oX 47 (.mv 8),
 oX 48 (.fieldA 0 5),
 oX 49 (.load false 1 48),
 oX 50 (.bin .rem 47 49),
 oX 51 (.mv 9),
 oX 52 (.fieldA 1 5),
 oX 53 (.load false 1 52),
 oX 54 (.bin .rem 51 53),
 oX 55 (.call .froz 62 [46, 50, 54]),
 oX 56 (.bin .mul 45 55),
 oX 57 (.mv 0),
 oX 58 (.bin .rem 56 57),
 oX 59 (.callm .froz 61 [33, 34, 35, 58])]))
 (.reg false [
 oX 31 (.mv 9),
 oX 32 (.bin .add 31 (kX 1)),
 oX 9 (.mv 32)]))))))))
 (.reg false [
 oX 25 (.mv 8),
 oX 26 (.bin .add 25 (kX 1)),
 oX 8 (.mv 26)])))))))
 (.seq
 (.reg false [
 oX 60 (.load true 3 7),
 uX (.store 3 6 60)])
 .ret))))
def ms_impl_pairMatrix : List MRes := [.cell 6 3 true]
theorem n_impl_pairMatrix (NN : Nat) (x : DLL (Sig.tys ag_impl_pairMatrix)) : runS NN [fn_impl_emptyMatrix, fn_impl_Matrix_at, fn_impl_Matrix_set] sc_impl_pairMatrix ms_impl_pairMatrix ag_impl_pairMatrix rs_impl_pairMatrix x = G_impl_pairMatrix NN x := by kernel_rfl
theorem k_impl_pairMatrix : chkS pX 49 sc_impl_pairMatrix.er ms_impl_pairMatrix 3 = true := by decide +kernel
theorem p_impl_pairMatrix : PureSpec pX 49 fn_impl_pairMatrix.M ∧ chkFun pX 49 = true :=
  pure_of_runS (T := [fn_impl_emptyMatrix, fn_impl_Matrix_at, fn_impl_Matrix_set]) (sc := sc_impl_pairMatrix) (ms := ms_impl_pairMatrix) (args := ag_impl_pairMatrix) (res := rs_impl_pairMatrix) (SOk.cons p_impl_emptyMatrix <| SOk.cons p_impl_Matrix_at <| SOk.consM p_impl_Matrix_set <| SOk.nil) follows_ok k_impl_pairMatrix F_impl_pairMatrix fun x y h => (n_impl_pairMatrix FUEL x).trans (f_impl_pairMatrix x y h)

def fn_impl_MultiplyAutomata : SFn := ⟨24, ag_impl_MultiplyAutomata, mu_impl_MultiplyAutomata, rs_impl_MultiplyAutomata, F_impl_MultiplyAutomata⟩
def sc_impl_MultiplyAutomata : SCode :=
 (.seq
 (.reg false [
 oX 2 (.box 5 0),
 oX 3 (.box 5 1),
 oX 4 (.alloc [zX, zX, .nil iX, .nil mX, .nil iX]),
 oX 5 (.mv (.k (.one (.v (.bool) (false)))))])
 (.seq
 (.seq
 (.reg false [
 oX 9 (.load true 5 2),
 oX 10 (.load true 5 3),
 oX 11 (.call .froz 47 [9, 10]),
 oX 12 (.un .not 11),
 oX 13 (.mv 12),
 ⟨(some 14), .fieldA 1 2, (some (13, false))⟩,
 ⟨(some 15), .load false 1 14, (some (13, false))⟩,
 ⟨(some 16), .fieldA 1 3, (some (13, false))⟩,
 ⟨(some 17), .load false 1 16, (some (13, false))⟩,
 ⟨(some 18), .bin .mul 15 17, (some (13, false))⟩,
 ⟨(some 19), .bin .gtr 18 (kX 12), (some (13, false))⟩,
 oX 20 (.pick 13 (.k (.one (.v (.bool) (true)))) 19)])
 (.cond 20
 (.seq
 (.reg false [
 oX 21 (.build [zX, zX, .nil iX, .nil mX, .nil iX] []),
 uX (.store 5 4 21),
 oX 5 (.mv (.k (.one (.v (.bool) (false)))))])
 .ret)
 .skip))
 (.seq
 (.reg false [
 oX 22 (.fieldA 0 2),
 oX 23 (.load false 1 22),
 oX 24 (.fieldA 1 2),
 oX 25 (.load false 1 24),
 oX 26 (.fieldA 1 3),
 oX 27 (.load false 1 26),
 oX 28 (.bin .mul 25 27),
 oX 29 (.build [zX, zX, .nil iX, .nil mX, .nil iX] [(0, 1, 23), (1, 1, 28)]),
 oX 6 (.alloc [zX, zX, .nil iX, .nil mX, .nil iX]),
 uX (.store 5 6 29)])
 (.seq
 (.reg true [
 oX 30 (.fieldA 0 2),
 oX 31 (.load false 1 30),
 oX 32 (.fieldA 2 2),
 oX 33 (.load false 1 32),
 oX 34 (.rowm 50 false 33),
 oX 35 (.fieldA 2 3),
 oX 36 (.load false 1 35),
 oX 37 (.rowm 50 false 36),
 oX 38 (.call .froz 49 [31, 34, 37]),
 oX 39 (.fld false 2 1 38),
 oX 40 (.fieldA 2 6),
 uX (.store 1 40 39)])
 (.seq
 (.reg true [
 oX 41 (.fieldA 0 2),
 oX 42 (.load false 1 41),
 oX 43 (.fieldA 4 2),
 oX 44 (.load false 1 43),
 oX 45 (.rowm 51 true 44),
 oX 46 (.fieldA 4 3),
 oX 47 (.load false 1 46),
 oX 48 (.rowm 51 true 47),
 oX 49 (.call .froz 49 [42, 45, 48]),
 oX 50 (.fld false 2 1 49),
 oX 51 (.fieldA 4 6),
 uX (.store 1 51 50)])
 (.seq
 (.seq
 (.reg false [
 oX 52 (.fieldA 3 2),
 oX 53 (.load false 1 52),
 oX 54 (.len 53),
 oX 55 (.mv (kX 0))])
 (.join ⟨[(6, .one (rX 6)), (4, .one (rX 4))], [(4, .box [vX, vX, fX 500006 1, fX 500007 3, fX 500008 1]), (6, .box [vX, vX, fX 500009 1, fX 500010 3, fX 500011 1]), (500006, .row true .froz iX), (500007, .row true .froz mX), (500008, .row true .froz iX), (500009, .row true .froz iX), (500010, .row true .froz mX), (500011, .row true .froz iX)]⟩ [2, 3, 4, 6, 500000, 500001, 500002, 500003, 500004, 500005, 500006, 500007, 500008, 500009, 500010, 500011] [(true, 4, 2, 500006, .froz, []), (true, 4, 3, 500007, .froz, []), (true, 4, 4, 500008, .froz, []), (true, 6, 2, 500009, .froz, []), (true, 6, 3, 500010, .froz, []), (true, 6, 4, 500011, .froz, [])]
 (.block 0
 (.loop 0 ⟨[(2, .one (rX 2)), (3, .one (rX 3)), (4, .one (rX 4)), (6, .one (rX 6)), (53, .one (.c (.v (.list mX)))), (54, sX), (55, sX)], [(2, .box [vX, vX, .c (.v (lX)), .c (.v (.list mX)), .c (.v (lX))]), (3, .box [vX, vX, .c (.v (lX)), .c (.v (.list mX)), .c (.v (lX))]), (4, .box [vX, vX, fX 500000 1, fX 500001 3, fX 500002 1]), (6, .box [vX, vX, fX 500003 1, fX 500004 3, fX 500005 1]), (500000, .row true .froz iX), (500001, .row true .froz mX), (500002, .row true .froz iX), (500003, .row true .froz iX), (500004, .row true .froz mX), (500005, .row true .froz iX)]⟩ [2, 3, 4, 6, 39000, 50000, 8, 72, 500000, 500001, 500002, 500003, 500004, 500005] [(true, 4, 2, 500000, .froz, []), (true, 4, 3, 500001, .froz, []), (true, 4, 4, 500002, .froz, []), (true, 6, 2, 500003, .froz, []), (true, 6, 3, 500004, .froz, []), (true, 6, 4, 500005, .froz, [])]
 (.seq
 (.reg false [
 oX 56 (.bin .lss 55 54)])
 (.seq
 (.cond 56
 .skip
 (.exit 0))
 (.seq
 (.block 1
 (.seq
 (.reg false [
 oX 57 (.mv 55),
 oX 58 (.idxA 3 53 55),
 oX 59 (.load true 3 58),
 oX 8 (.alloc [zX, zX, .nil iX]),
 oX 7 (.mv 57),
 uX (.store 3 8 59)])
 (.regD [(0, 11), (1, 11)] [
 oX 60 (.fieldA 3 6),
 oX 61 (.load false 1 60),
 oX 62 (.fieldA 0 2),
 oX 63 (.load false 1 62),
 oX 64 (.load true 3 8),
 oX 65 (.fieldA 3 3),
 oX 66 (.load false 1 65),
 oX 67 (.mv 7),
 oX 68 (.idxA 3 66 67),
 oX 69 (.load true 3 68),
 oX 70 (.call .froz 49 [63, 64, 69]),
 oX 71 (.bslice mX [70]),
 oX 72 (.append false mX 40 61 71),
 oX 73 (.fieldA 3 6),
 uX (.store 1 73 72)])))
 (.reg false [
 oX 74 (.bin .add 55 (kX 1)),
 oX 55 (.mv 74)]))))))))
 (.seq
 (.reg false [
 oX 75 (.load true 5 6),
 uX (.store 5 4 75),
 oX 5 (.mv (.k (.one (.v (.bool) (true)))))])
 .ret)))))))
def ms_impl_MultiplyAutomata : List MRes := [.cell 4 5 true, .tmp 5]
theorem n_impl_MultiplyAutomata (NN : Nat) (x : DLL (Sig.tys ag_impl_MultiplyAutomata)) : runS NN [fn_impl_sameLetters, fn_impl_pairMatrix] sc_impl_MultiplyAutomata ms_impl_MultiplyAutomata ag_impl_MultiplyAutomata rs_impl_MultiplyAutomata x = G_impl_MultiplyAutomata NN x := by kernel_rfl
theorem k_impl_MultiplyAutomata : chkS pX 24 sc_impl_MultiplyAutomata.er ms_impl_MultiplyAutomata 2 = true := by decide +kernel
theorem p_impl_MultiplyAutomata : PureSpec pX 24 fn_impl_MultiplyAutomata.M ∧ chkFun pX 24 = true :=
  pure_of_runS (T := [fn_impl_sameLetters, fn_impl_pairMatrix]) (sc := sc_impl_MultiplyAutomata) (ms := ms_impl_MultiplyAutomata) (args := ag_impl_MultiplyAutomata) (res := rs_impl_MultiplyAutomata) (SOk.cons p_impl_sameLetters <| SOk.cons p_impl_pairMatrix <| SOk.nil) follows_ok k_impl_MultiplyAutomata F_impl_MultiplyAutomata fun x y h => (n_impl_MultiplyAutomata FUEL x).trans (f_impl_MultiplyAutomata x y h)

def fn_impl_rawMulMatrix : SFn := ⟨54, ag_impl_rawMulMatrix, mu_impl_rawMulMatrix, rs_impl_rawMulMatrix, F_impl_rawMulMatrix⟩
def sc_impl_rawMulMatrix : SCode :=
 (.seq
 (.reg false [
 oX 4 (.box 3 1),
 oX 5 (.box 3 2),
 oX 6 (.alloc [zX, zX, .nil iX])])
 (.seq
 (.reg false [
 oX 12 (.fieldA 0 4),
 oX 13 (.load false 1 12),
 oX 14 (.fieldA 1 5),
 oX 15 (.load false 1 14),
 oX 16 (.call .froz 60 [13, 15]),
 oX 7 (.alloc [zX, zX, .nil iX]),
 uX (.store 3 7 16)])
 (.seq
 (.seq
 (.reg false [
 oX 8 (.mv (kX 0))])
 (.join ⟨[(7, .one (rX 7)), (6, .one (rX 6))], [(6, .box [vX, vX, fX 500012 1]), (7, .box [vX, vX, fX 500013 1]), (500012, .row true .froz iX), (500013, .row true .froz iX)]⟩ [4, 5, 6, 7, 500000, 500001, 500012, 500013] [(true, 6, 2, 500012, .froz, []), (true, 7, 2, 500013, .froz, [])]
 (.block 0
 (.loop 0 ⟨[(0, sX), (4, .one (rX 4)), (5, .one (rX 5)), (6, .one (rX 6)), (7, .one (rX 7)), (8, sX)], [(4, .box [vX, vX, .c (.v (lX))]), (5, .box [vX, vX, .c (.v (lX))]), (6, .box [vX, vX, fX 500000 1]), (7, .box [vX, vX, fX 500001 1]), (500000, .row true .froz iX), (500001, .row true .froz iX)]⟩ [4, 5, 6, 17000, 7, 500000, 500001, 500010, 500011] [(true, 6, 2, 500000, .froz, []), (true, 7, 2, 500001, .froz, [])]
 (.seq
 (.seq
 (.reg false [
 oX 17 (.mv 8),
 oX 18 (.fieldA 0 4),
 oX 19 (.load false 1 18),
 oX 20 (.bin .lss 17 19)])
 (.cond 20
 .skip
 (.exit 0)))
 (.seq
 (.join ⟨[(8, sX), (0, sX), (4, .one (rX 4)), (5, .one (rX 5)), (6, .one (rX 6)), (7, .one (rX 7))], [(4, .box [vX, vX, .c (.v (lX))]), (5, .box [vX, vX, .c (.v (lX))]), (6, .box [vX, vX, fX 500010 1]), (7, .box [vX, vX, fX 500011 1]), (500010, .row true .froz iX), (500011, .row true .froz iX)]⟩ [4, 5, 6, 7, 500002, 500003, 500010, 500011] [(true, 6, 2, 500010, .froz, []), (true, 7, 2, 500011, .froz, [])]
 (.block 1
 (.seq
 (.reg false [
 oX 9 (.mv (kX 0))])
 (.block 2
 (.loop 0 ⟨[(0, sX), (4, .one (rX 4)), (5, .one (rX 5)), (6, .one (rX 6)), (7, .one (rX 7)), (8, sX), (9, sX)], [(4, .box [vX, vX, .c (.v (lX))]), (5, .box [vX, vX, .c (.v (lX))]), (6, .box [vX, vX, fX 500002 1]), (7, .box [vX, vX, fX 500003 1]), (500002, .row true .froz iX), (500003, .row true .froz iX)]⟩ [4, 5, 6, 7, 500000, 500001, 500002, 500003, 500008, 500009] [(true, 6, 2, 500002, .froz, []), (true, 7, 2, 500003, .froz, [])]
 (.seq
 (.seq
 (.reg false [
 oX 23 (.mv 9),
 oX 24 (.fieldA 1 5),
 oX 25 (.load false 1 24),
 oX 26 (.bin .lss 23 25)])
 (.cond 26
 .skip
 (.exit 2)))
 (.seq
 (.join ⟨[(9, sX), (0, sX), (4, .one (rX 4)), (5, .one (rX 5)), (6, .one (rX 6)), (7, .one (rX 7)), (8, sX)], [(4, .box [vX, vX, .c (.v (lX))]), (5, .box [vX, vX, .c (.v (lX))]), (6, .box [vX, vX, fX 500008 1]), (7, .box [vX, vX, fX 500009 1]), (500008, .row true .froz iX), (500009, .row true .froz iX)]⟩ [4, 5, 6, 7, 500006, 500007, 500008, 500009] [(true, 6, 2, 500008, .froz, []), (true, 7, 2, 500009, .froz, [])]
 (.block 3
 (.seq
 (.reg false [
 oX 10 (.mv (kX 0))])
 (.seq
 (.seq
 (.reg false [
 oX 11 (.mv (kX 0))])
 (.join ⟨[(10, sX), (9, sX), (0, sX), (4, .one (rX 4)), (5, .one (rX 5)), (6, .one (rX 6)), (7, .one (rX 7)), (8, sX)], [(4, .box [vX, vX, .c (.v (lX))]), (5, .box [vX, vX, .c (.v (lX))]), (6, .box [vX, vX, fX 500006 1]), (7, .box [vX, vX, fX 500007 1]), (500006, .row true .froz iX), (500007, .row true .froz iX)]⟩ [4, 5, 6, 7, 500004, 500005, 500006, 500007] [(true, 6, 2, 500006, .froz, []), (true, 7, 2, 500007, .froz, [])]
 (.block 4
 (.loop 0 ⟨[(0, sX), (4, .one (rX 4)), (5, .one (rX 5)), (6, .one (rX 6)), (7, .one (rX 7)), (8, sX), (9, sX), (10, sX), (11, sX)], [(4, .box [vX, vX, .c (.v (lX))]), (5, .box [vX, vX, .c (.v (lX))]), (6, .box [vX, vX, fX 500004 1]), (7, .box [vX, vX, fX 500005 1]), (500004, .row true .froz iX), (500005, .row true .froz iX)]⟩ [4, 5, 6, 7, 500002, 500003, 500004, 500005] [(true, 6, 2, 500004, .froz, []), (true, 7, 2, 500005, .froz, [])]
 (.seq
 (.seq
 (.reg false [
 oX 29 (.mv 11),
 oX 30 (.fieldA 1 4),
 oX 31 (.load false 1 30),
 oX 32 (.bin .lss 29 31)])
 (.cond 32
 .skip
 (.exit 4)))
 (.seq
 (.block 5
 (.reg true [
 oX 35 (.mv 10),
 oX 36 (.load true 3 4),
 oX 37 (.mv 8),
 oX 38 (.mv 11),
 oX 39 (.call .froz 62 [36, 37, 38]),
 oX 40 (.load true 3 5),
 oX 41 (.mv 11),
 oX 42 (.mv 9),
 oX 43 (.call .froz 62 [40, 41, 42]),
 oX 44 (.bin .mul 39 43),
 oX 45 (.bin .add 35 44),
 oX 46 (.mv 0),
 oX 47 (.bin .rem 45 46),
 oX 10 (.mv 47)]))
 (.reg false [
 oX 33 (.mv 11),
 oX 34 (.bin .add 33 (kX 1)),
 oX 11 (.mv 34)])))))))
 (.reg false [
 oX 48 (.load true 3 7),
 oX 49 (.mv 8),
 oX 50 (.mv 9),
 oX 51 (.mv 10),
 oX 52 (.callm .froz 61 [48, 49, 50, 51])])))))
 (.reg false [
 oX 27 (.mv 9),
 oX 28 (.bin .add 27 (kX 1)),
 oX 9 (.mv 28)]))))))))
 (.reg false [
 oX 21 (.mv 8),
 oX 22 (.bin .add 21 (kX 1)),
 oX 8 (.mv 22)])))))))
 (.seq
 (.reg false [
 oX 53 (.load true 3 7),
 uX (.store 3 6 53)])
 .ret))))
def ms_impl_rawMulMatrix : List MRes := [.cell 6 3 true]
theorem n_impl_rawMulMatrix (NN : Nat) (x : DLL (Sig.tys ag_impl_rawMulMatrix)) : runS NN [fn_impl_emptyMatrix, fn_impl_Matrix_at, fn_impl_Matrix_set] sc_impl_rawMulMatrix ms_impl_rawMulMatrix ag_impl_rawMulMatrix rs_impl_rawMulMatrix x = G_impl_rawMulMatrix NN x := by kernel_rfl
theorem k_impl_rawMulMatrix : chkS pX 54 sc_impl_rawMulMatrix.er ms_impl_rawMulMatrix 3 = true := by decide +kernel
theorem p_impl_rawMulMatrix : PureSpec pX 54 fn_impl_rawMulMatrix.M ∧ chkFun pX 54 = true :=
  pure_of_runS (T := [fn_impl_emptyMatrix, fn_impl_Matrix_at, fn_impl_Matrix_set]) (sc := sc_impl_rawMulMatrix) (ms := ms_impl_rawMulMatrix) (args := ag_impl_rawMulMatrix) (res := rs_impl_rawMulMatrix) (SOk.cons p_impl_emptyMatrix <| SOk.cons p_impl_Matrix_at <| SOk.consM p_impl_Matrix_set <| SOk.nil) follows_ok k_impl_rawMulMatrix F_impl_rawMulMatrix fun x y h => (n_impl_rawMulMatrix FUEL x).trans (f_impl_rawMulMatrix x y h)

def fn_impl_wordRow : SFn := ⟨76, ag_impl_wordRow, mu_impl_wordRow, rs_impl_wordRow, F_impl_wordRow⟩
def sc_impl_wordRow : SCode :=
 (.seq
 (.reg false [
 oX 2 (.box 5 0),
 oX 4 (.mv (.k (.one (.nil iX))))])
 (.seq
 (.reg false [
 oX 8 (.fieldA 2 2),
 oX 9 (.load false 1 8),
 oX 10 (.call .froz 63 [9]),
 oX 11 (.rowm 50 false 10),
 oX 5 (.alloc [zX, zX, .nil iX]),
 uX (.store 3 5 11)])
 (.seq
 (.seq
 (.reg false [
 oX 12 (.mv 1),
 oX 13 (.len 12),
 oX 14 (.mv (kX 0))])
 (.join ⟨[(5, .one (rX 5))], [(5, .box [vX, vX, fX 500001 1]), (500001, .row true .froz iX)]⟩ [2, 5, 500000, 500001] [(true, 5, 2, 500001, .froz, [])]
 (.block 0
 (.loop 0 ⟨[(2, .one (rX 2)), (5, .one (rX 5)), (12, .one (.c (.v (lX)))), (13, sX), (14, sX)], [(2, .box [vX, vX, .c (.v (lX)), .c (.v (.list mX)), .c (.v (lX))]), (5, .box [vX, vX, fX 500000 1]), (500000, .row true .froz iX)]⟩ [2, 11000, 5, 27000, 500000] [(true, 5, 2, 500000, .froz, [])]
 (.seq
 (.reg false [
 oX 15 (.bin .lss 14 13)])
 (.seq
 (.cond 15
 .skip
 (.exit 0))
 (.seq
 (.block 1
 (.seq
 (.reg false [
 oX 16 (.idxA 1 12 14),
 oX 17 (.load false 1 16),
 oX 7 (.mv 17)])
 (.reg true [
 oX 18 (.fieldA 0 2),
 oX 19 (.load false 1 18),
 oX 20 (.load true 3 5),
 oX 21 (.fieldA 3 2),
 oX 22 (.load false 1 21),
 oX 23 (.mv 7),
 oX 24 (.idxA 3 22 23),
 oX 25 (.load true 3 24),
 oX 26 (.call .froz 54 [19, 20, 25]),
 uX (.store 3 5 26)])))
 (.reg false [
 oX 27 (.bin .add 14 (kX 1)),
 oX 14 (.mv 27)]))))))))
 (.seq
 (.reg false [
 oX 28 (.fieldA 2 5),
 oX 29 (.load false 1 28),
 oX 4 (.mv 29)])
 .ret))))
def ms_impl_wordRow : List MRes := [.tmp 4]
theorem n_impl_wordRow (NN : Nat) (x : DLL (Sig.tys ag_impl_wordRow)) : runS NN [fn_impl_copyInts, fn_impl_rawMulMatrix] sc_impl_wordRow ms_impl_wordRow ag_impl_wordRow rs_impl_wordRow x = G_impl_wordRow NN x := by kernel_rfl
theorem k_impl_wordRow : chkS pX 76 sc_impl_wordRow.er ms_impl_wordRow 2 = true := by decide +kernel
theorem p_impl_wordRow : PureSpec pX 76 fn_impl_wordRow.M ∧ chkFun pX 76 = true :=
  pure_of_runS (T := [fn_impl_copyInts, fn_impl_rawMulMatrix]) (sc := sc_impl_wordRow) (ms := ms_impl_wordRow) (args := ag_impl_wordRow) (res := rs_impl_wordRow) (SOk.cons p_impl_copyInts <| SOk.cons p_impl_rawMulMatrix <| SOk.nil) follows_ok k_impl_wordRow F_impl_wordRow fun x y h => (n_impl_wordRow FUEL x).trans (f_impl_wordRow x y h)

def fn_impl_rawWordWeight : SFn := ⟨53, ag_impl_rawWordWeight, mu_impl_rawWordWeight, rs_impl_rawWordWeight, F_impl_rawWordWeight⟩
def sc_impl_rawWordWeight : SCode :=
 (.seq
 (.reg false [
 oX 2 (.box 5 0),
 oX 4 (.mv (kX 0))])
 (.seq
 (.reg true [
 oX 5 (.fieldA 0 2),
 oX 6 (.load false 1 5),
 oX 7 (.load true 5 2),
 oX 8 (.mv 1),
 oX 9 (.call .froz 76 [7, 8]),
 oX 10 (.rowm 50 false 9),
 oX 11 (.fieldA 4 2),
 oX 12 (.load false 1 11),
 oX 13 (.rowm 51 true 12),
 oX 14 (.call .froz 54 [6, 10, 13]),
 oX 15 (.fld false 2 1 14),
 oX 16 (.idxA 1 15 (kX 0)),
 oX 17 (.load false 1 16),
 oX 4 (.mv 17)])
 .ret))
def ms_impl_rawWordWeight : List MRes := [.tmp 4]
theorem n_impl_rawWordWeight (NN : Nat) (x : DLL (Sig.tys ag_impl_rawWordWeight)) : runS NN [fn_impl_wordRow, fn_impl_rawMulMatrix] sc_impl_rawWordWeight ms_impl_rawWordWeight ag_impl_rawWordWeight rs_impl_rawWordWeight x = G_impl_rawWordWeight NN x := by kernel_rfl
theorem k_impl_rawWordWeight : chkS pX 53 sc_impl_rawWordWeight.er ms_impl_rawWordWeight 2 = true := by decide +kernel
theorem p_impl_rawWordWeight : PureSpec pX 53 fn_impl_rawWordWeight.M ∧ chkFun pX 53 = true :=
  pure_of_runS (T := [fn_impl_wordRow, fn_impl_rawMulMatrix]) (sc := sc_impl_rawWordWeight) (ms := ms_impl_rawWordWeight) (args := ag_impl_rawWordWeight) (res := rs_impl_rawWordWeight) (SOk.cons p_impl_wordRow <| SOk.cons p_impl_rawMulMatrix <| SOk.nil) follows_ok k_impl_rawWordWeight F_impl_rawWordWeight fun x y h => (n_impl_rawWordWeight FUEL x).trans (f_impl_rawWordWeight x y h)

def fn_impl_WordWeight : SFn := ⟨25, ag_impl_WordWeight, mu_impl_WordWeight, rs_impl_WordWeight, F_impl_WordWeight⟩
def sc_impl_WordWeight : SCode :=
 (.seq
 (.reg false [
 oX 2 (.box 5 0),
 oX 4 (.mv (kX 0))])
 (.seq
 (.seq
 (.reg false [
 oX 7 (.load true 5 2),
 oX 8 (.call .froz 52 [7]),
 oX 9 (.un .not 8),
 oX 10 (.mv 9),
 ⟨(some 11), .mv 1, (some (10, false))⟩,
 ⟨(some 12), .len 11, (some (10, false))⟩,
 ⟨(some 13), .bin .gtr 12 (kX 24), (some (10, false))⟩,
 oX 14 (.pick 10 (.k (.one (.v (.bool) (true)))) 13)])
 (.cond 14
 (.seq
 (.reg false [
 oX 4 (.mv (kX (-1)))])
 .ret)
 .skip))
 (.seq
 (.seq
 (.reg false [
 oX 15 (.mv 1),
 oX 16 (.len 15),
 oX 17 (.mv (kX 0))])
 (.join ⟨[(2, .one (rX 2)), (1, .one (.c (.v (lX))))], [(2, .box [vX, vX, .c (.v (lX)), .c (.v (.list mX)), .c (.v (lX))])]⟩ [2] []
 (.block 0
 (.loop 0 ⟨[(1, .one (.c (.v (lX)))), (2, .one (rX 2)), (15, .one (.c (.v (lX)))), (16, sX), (17, sX)], [(2, .box [vX, vX, .c (.v (lX)), .c (.v (.list mX)), .c (.v (lX))])]⟩ [2] []
 (.seq
 (.reg false [
 oX 18 (.bin .lss 17 16)])
 (.seq
 (.cond 18
 .skip
 (.exit 0))
 (.seq
 (.block 1
 (.seq
 (.reg false [
 oX 19 (.idxA 1 15 17),
 oX 20 (.load false 1 19),
 oX 6 (.mv 20)])
 (.seq
 (.reg false [
 oX 21 (.mv 6),
 oX 22 (.bin .lss 21 (kX 0)),
 oX 23 (.mv 22),
 ⟨(some 24), .mv 6, (some (23, false))⟩,
 ⟨(some 25), .fieldA 3 2, (some (23, false))⟩,
 ⟨(some 26), .load false 1 25, (some (23, false))⟩,
 ⟨(some 27), .len 26, (some (23, false))⟩,
 ⟨(some 28), .bin .geq 24 27, (some (23, false))⟩,
 oX 29 (.pick 23 (.k (.one (.v (.bool) (true)))) 28)])
 (.cond 29
 (.seq
 (.reg false [
 oX 4 (.mv (kX (-1)))])
 .ret)
 .skip))))
 (.reg false [
 oX 30 (.bin .add 17 (kX 1)),
 oX 17 (.mv 30)]))))))))
 (.seq
 (.reg false [
 oX 31 (.load true 5 2),
 oX 32 (.mv 1),
 oX 33 (.call .froz 53 [31, 32]),
 oX 4 (.mv 33)])
 .ret))))
def ms_impl_WordWeight : List MRes := [.tmp 4]
theorem n_impl_WordWeight (NN : Nat) (x : DLL (Sig.tys ag_impl_WordWeight)) : runS NN [fn_impl_AutomatonOk, fn_impl_rawWordWeight] sc_impl_WordWeight ms_impl_WordWeight ag_impl_WordWeight rs_impl_WordWeight x = G_impl_WordWeight NN x := by kernel_rfl
theorem k_impl_WordWeight : chkS pX 25 sc_impl_WordWeight.er ms_impl_WordWeight 2 = true := by decide +kernel
theorem p_impl_WordWeight : PureSpec pX 25 fn_impl_WordWeight.M ∧ chkFun pX 25 = true :=
  pure_of_runS (T := [fn_impl_AutomatonOk, fn_impl_rawWordWeight]) (sc := sc_impl_WordWeight) (ms := ms_impl_WordWeight) (args := ag_impl_WordWeight) (res := rs_impl_WordWeight) (SOk.cons p_impl_AutomatonOk <| SOk.cons p_impl_rawWordWeight <| SOk.nil) follows_ok k_impl_WordWeight F_impl_WordWeight fun x y h => (n_impl_WordWeight FUEL x).trans (f_impl_WordWeight x y h)

def fn_laws_FnAutomata : SFn := ⟨5, ag_laws_FnAutomata, mu_laws_FnAutomata, rs_laws_FnAutomata, F_laws_FnAutomata⟩
def sc_laws_FnAutomata : SCode :=
 (.seq
 (.reg false [
 oX 2 (.mv (.k (.one (.v (.bool) (false)))))])
 (.seq
 (.seq
 (.reg false [
 oX 12 (.mv 0),
 oX 13 (.len 12),
 oX 14 (.bin .gtr 13 (kX 1048576))])
 (.cond 14
 (.seq
 (.reg false [
 oX 2 (.mv (.k (.one (.v (.bool) (true)))))])
 .ret)
 .skip))
 (.seq
 (.reg false [
 oX 16 (.mv 0),
 oX 17 (.callb 21 [16, (kX 0)]),
 oX 15 (.mv 17),
 oX 18 (.ext 0 15),
 oX 19 (.ext 1 15),
 oX 3 (.alloc [zX, zX, .nil iX, .nil mX, .nil iX]),
 oX 4 (.alloc [zX, zX, .nil iX, .nil mX, .nil iX]),
 uX (.store 5 3 18),
 uX (.store 5 4 19)])
 (.seq
 (.reg false [
 oX 20 (.mv 0),
 oX 21 (.fieldA 3 3),
 oX 22 (.load false 1 21),
 oX 23 (.len 22),
 oX 24 (.callb 22 [20, (kX 100), 23]),
 oX 5 (.mv 24)])
 (.seq
 (.reg false [
 oX 26 (.load true 5 3),
 oX 27 (.load true 5 4),
 oX 28 (.call .froz 23 [26, 27]),
 oX 25 (.mv 28),
 oX 29 (.ext 0 25),
 oX 30 (.ext 1 25),
 oX 6 (.alloc [zX, zX, .nil iX, .nil mX, .nil iX]),
 uX (.store 5 6 29),
 oX 7 (.mv 30)])
 (.seq
 (.reg false [
 oX 32 (.load true 5 3),
 oX 33 (.load true 5 4),
 oX 34 (.call .froz 24 [32, 33]),
 oX 31 (.mv 34),
 oX 35 (.ext 0 31),
 oX 36 (.ext 1 31),
 oX 8 (.alloc [zX, zX, .nil iX, .nil mX, .nil iX]),
 uX (.store 5 8 35),
 oX 9 (.mv 36)])
 (.seq
 (.reg false [
 oX 37 (.load true 5 3),
 oX 38 (.mv 5),
 oX 39 (.call .froz 25 [37, 38]),
 oX 10 (.mv 39)])
 (.seq
 (.reg false [
 oX 40 (.load true 5 4),
 oX 41 (.mv 5),
 oX 42 (.call .froz 25 [40, 41]),
 oX 11 (.mv 42)])
 (.seq
 (.reg true [
 oX 43 (.mv 7),
 oX 44 (.mv 43),
 ⟨(some 45), .mv 9, (some (44, true))⟩,
 oX 46 (.pick 44 45 (.k (.one (.v (.bool) (false))))),
 oX 47 (.mv 46),
 ⟨(some 48), .mv 10, (some (47, true))⟩,
 ⟨(some 49), .bin .geq 48 (kX 0), (some (47, true))⟩,
 oX 50 (.pick 47 49 (.k (.one (.v (.bool) (false))))),
 oX 51 (.mv 50),
 ⟨(some 52), .mv 11, (some (51, true))⟩,
 ⟨(some 53), .bin .geq 52 (kX 0), (some (51, true))⟩,
 oX 54 (.pick 51 53 (.k (.one (.v (.bool) (false))))),
 oX 55 (.mv 54),
 ⟨(some 56), .load true 5 6, (some (55, true))⟩,
 ⟨(some 57), .mv 5, (some (55, true))⟩,
 ⟨(some 58), .call .froz 25 [56, 57], (some (55, true))⟩,
 ⟨(some 59), .mv 10, (some (55, true))⟩,
 ⟨(some 60), .mv 11, (some (55, true))⟩,
 ⟨(some 61), .bin .add 59 60, (some (55, true))⟩,
 ⟨(some 62), .fieldA 0 3, (some (55, true))⟩,
 ⟨(some 63), .load false 1 62, (some (55, true))⟩,
 ⟨(some 64), .bin .rem 61 63, (some (55, true))⟩,
 ⟨(some 65), .bin .eql 58 64, (some (55, true))⟩,
 oX 66 (.pick 55 65 (.k (.one (.v (.bool) (false))))),
 oX 67 (.mv 66),
 ⟨(some 68), .load true 5 8, (some (67, true))⟩,
 ⟨(some 69), .mv 5, (some (67, true))⟩,
 ⟨(some 70), .call .froz 25 [68, 69], (some (67, true))⟩,
 ⟨(some 71), .mv 10, (some (67, true))⟩,
 ⟨(some 72), .mv 11, (some (67, true))⟩,
 ⟨(some 73), .bin .mul 71 72, (some (67, true))⟩,
 ⟨(some 74), .fieldA 0 3, (some (67, true))⟩,
 ⟨(some 75), .load false 1 74, (some (67, true))⟩,
 ⟨(some 76), .bin .rem 73 75, (some (67, true))⟩,
 ⟨(some 77), .bin .eql 70 76, (some (67, true))⟩,
 oX 78 (.pick 67 77 (.k (.one (.v (.bool) (false))))),
 oX 2 (.mv 78)])
 .ret)))))))))
def ms_laws_FnAutomata : List MRes := [.tmp 2]
theorem n_laws_FnAutomata (NN : Nat) (x : DLL (Sig.tys ag_laws_FnAutomata)) : runS NN [fn_spec_MakeAutomata, fn_spec_MakeWord, fn_impl_AddAutomata, fn_impl_MultiplyAutomata, fn_impl_WordWeight] sc_laws_FnAutomata ms_laws_FnAutomata ag_laws_FnAutomata rs_laws_FnAutomata x = G_laws_FnAutomata NN x := by kernel_rfl
theorem k_laws_FnAutomata : chkS pX 5 sc_laws_FnAutomata.er ms_laws_FnAutomata 1 = true := by decide +kernel
theorem p_laws_FnAutomata : PureSpec pX 5 fn_laws_FnAutomata.M ∧ chkFun pX 5 = true :=
  pure_of_runS (T := [fn_spec_MakeAutomata, fn_spec_MakeWord, fn_impl_AddAutomata, fn_impl_MultiplyAutomata, fn_impl_WordWeight]) (sc := sc_laws_FnAutomata) (ms := ms_laws_FnAutomata) (args := ag_laws_FnAutomata) (res := rs_laws_FnAutomata) (SOk.consV p_spec_MakeAutomata <| SOk.consV p_spec_MakeWord <| SOk.cons p_impl_AddAutomata <| SOk.cons p_impl_MultiplyAutomata <| SOk.cons p_impl_WordWeight <| SOk.nil) follows_ok k_laws_FnAutomata F_laws_FnAutomata fun x y h => (n_laws_FnAutomata FUEL x).trans (f_laws_FnAutomata x y h)

end Go.Am
