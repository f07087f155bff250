/- A_FnWordChains: the code of the functions of FnWordChains. No condition. -/
import Derived.Test.YtdbokcfhhdkhiaaLFnWordChains
import Derived.Test.YtdbokcfhhdkhiaaBr2
import Derived.KernelRfl
import Derived.Test.YtdbokcfhhdkhiaaRows
set_option linter.unusedVariables false
set_option maxRecDepth 100000
namespace Go.Am
theorem follows_ok : Go.Proofs.Try.prog.follows .mixedOrders = true := by decide +kernel
noncomputable abbrev pX := Go.Proofs.Try.prog
def oX (n : Nat) (x : SOp) : SOper := ⟨some n, x, none⟩
def uX (x : SOp) : SOper := ⟨none, x, none⟩
def kX (n : Int) : SMO := .k (.one (.v (.int .i64) n))
def sX : ShV := .one (.c (.v (.int .i64)))
def iX : List Ty := [.int .i64]
def lX : Ty := .list iX
def mX : List Ty := [.int .i64, .int .i64, lX]
def gX : List Ty := [.int .i64, .int .i64, .int .i64, lX]
def zX : SC := .v (.int .i64) (0 : Int)
def vX : ShC := .c (.v (.int .i64))
def fX (n k : Nat) : ShC := .c (.full n k)
def rX (n : Nat) : ShC := .c (.ptr0 n 0)
instance tX (n : Nat) : OfNat SMO n := ⟨.t n⟩
def fn_spec_l01New : SFn := ⟨70, ag_spec_l01New, mu_spec_l01New, rs_spec_l01New, F_spec_l01New⟩
def sc_spec_l01New : SCode :=
 (.seq
 (.reg false [
 oX 2 (.mv (.k (.one (.junk))))])
 (.seq
 (.reg false [
 oX 5 (.mv 0),
 oX 6 (.len 5),
 oX 7 (.bin .add (kX 55127) 6),
 oX 3 (.mv 7)])
 (.seq
 (.seq
 (.reg false [
 oX 4 (.mv (kX 0))])
 (.join ⟨[(0, .one (.c (.v (.list [.int .u8])))), (3, sX)], []⟩ [] []
 (.block 0
 (.loop 0 ⟨[(0, .one (.c (.v (.list [.int .u8])))), (3, sX), (4, sX)], []⟩ [] []
 (.seq
 (.seq
 (.reg false [
 oX 8 (.mv 4),
 oX 9 (.mv 0),
 oX 10 (.len 9),
 oX 11 (.bin .lss 8 10),
 oX 12 (.mv 11),
 ⟨(some 13), .mv 4, (some (12, true))⟩,
 ⟨(some 14), .bin .lss 13 (kX 4000), (some (12, true))⟩,
 oX 15 (.pick 12 14 (.k (.one (.v (.bool) (false)))))])
 (.cond 15
 .skip
 (.exit 0)))
 (.seq
 (.block 1
 (.reg false [
 oX 18 (.mv 3),
 oX 19 (.bin .mul 18 (kX 131)),
 oX 20 (.mv 0),
 oX 21 (.mv 4),
 oX 22 (.idxA 1 20 21),
 oX 23 (.load false 1 22),
 oX 24 (.conv .i64 23),
 oX 25 (.bin .add 19 24),
 oX 26 (.bin .add 25 (kX 7)),
 oX 27 (.bin .and 26 (kX 1073741823)),
 oX 3 (.mv 27)]))
 (.reg false [
 oX 16 (.mv 4),
 oX 17 (.bin .add 16 (kX 1)),
 oX 4 (.mv 17)])))))))
 (.seq
 (.reg false [
 oX 28 (.mv 0),
 oX 29 (.mv 3),
 oX 30 (.build [.nil [.int .u8], zX, zX] [(0, 1, 28), (2, 1, 29)]),
 oX 31 (.box 3 30),
 oX 2 (.mv 31)])
 .ret))))
def ms_spec_l01New : List MRes := [.tmp 2]
theorem n_spec_l01New (NN : Nat) (x : DLL (Sig.tys ag_spec_l01New)) : runVS NN [] sc_spec_l01New ms_spec_l01New ag_spec_l01New rs_spec_l01New x = G_spec_l01New NN x := by kernel_rfl
theorem k_spec_l01New : chkS pX 70 sc_spec_l01New.er ms_spec_l01New 1 = true := by decide +kernel
theorem p_spec_l01New : VSpec Go.Proofs.Try.prog 70 fn_spec_l01New.MV ∧ chkFun pX 70 = true :=
  v_of_runVS (T := []) (sc := sc_spec_l01New) (ms := ms_spec_l01New) (args := ag_spec_l01New) (res := rs_spec_l01New) (SOk.nil) follows_ok k_spec_l01New F_spec_l01New fun x y h => (n_spec_l01New FUEL x).trans (f_spec_l01New x y h)

def fn_spec_l45At : SFn := ⟨37, ag_spec_l45At, mu_spec_l45At, rs_spec_l45At, F_spec_l45At⟩
def sc_spec_l45At : SCode :=
 (.seq
 (.reg false [
 oX 4 (.mv (.k (.one (.junk))))])
 (.seq
 (.reg false [
 oX 6 (.mv 0),
 oX 7 (.callb 70 [6]),
 oX 5 (.mv 7)])
 (.seq
 (.reg false [
 oX 8 (.mv 5),
 oX 9 (.mv 1),
 oX 10 (.mv 0),
 oX 11 (.len 10),
 oX 12 (.mm false 9 11),
 oX 13 (.nilchk 8),
 oX 14 (.fieldA 1 13),
 uX (.store 1 14 12)])
 (.seq
 (.reg false [
 oX 15 (.mv 5),
 oX 16 (.mv 5),
 oX 17 (.nilchk 16),
 oX 18 (.fieldA 2 17),
 oX 19 (.load false 1 18),
 oX 20 (.bin .mul 19 (kX 31)),
 oX 21 (.mv 1),
 oX 22 (.bin .mul 21 (kX 7919)),
 oX 23 (.bin .add 20 22),
 oX 24 (.bin .add 23 (kX 1)),
 oX 25 (.bin .and 24 (kX 1073741823)),
 oX 26 (.nilchk 15),
 oX 27 (.fieldA 2 26),
 uX (.store 1 27 25)])
 (.seq
 (.reg false [
 oX 28 (.mv 5),
 oX 4 (.mv 28)])
 .ret)))))
def ms_spec_l45At : List MRes := [.tmp 4]
theorem n_spec_l45At (NN : Nat) (x : DLL (Sig.tys ag_spec_l45At)) : runVS NN [fn_spec_l01New] sc_spec_l45At ms_spec_l45At ag_spec_l45At rs_spec_l45At x = G_spec_l45At NN x := by kernel_rfl
theorem k_spec_l45At : chkS pX 37 sc_spec_l45At.er ms_spec_l45At 2 = true := by decide +kernel
theorem p_spec_l45At : VSpec Go.Proofs.Try.prog 37 fn_spec_l45At.MV ∧ chkFun pX 37 = true :=
  v_of_runVS (T := [fn_spec_l01New]) (sc := sc_spec_l45At) (ms := ms_spec_l45At) (args := ag_spec_l45At) (res := rs_spec_l45At) (SOk.consV p_spec_l01New <| SOk.nil) follows_ok k_spec_l45At F_spec_l45At fun x y h => (n_spec_l45At FUEL x).trans (f_spec_l45At x y h)

def fn_spec_l01Byte : SFn := ⟨72, ag_spec_l01Byte, mu_spec_l01Byte, rs_spec_l01Byte, F_spec_l01Byte⟩
def sc_spec_l01Byte : SCode :=
 (.seq
 (.reg false [
 oX 2 (.mv (kX 0))])
 (.seq
 (.reg false [
 oX 4 (.mv 0),
 oX 5 (.mv 0),
 oX 6 (.nilchk 5),
 oX 7 (.fieldA 2 6),
 oX 8 (.load false 1 7),
 oX 9 (.bin .mul 8 (kX 6364136223846793005)),
 oX 10 (.bin .add 9 (kX 1442695040888963407)),
 oX 11 (.nilchk 4),
 oX 12 (.fieldA 2 11),
 uX (.store 1 12 10)])
 (.seq
 (.reg true [
 oX 13 (.mv 0),
 oX 14 (.nilchk 13),
 oX 15 (.fieldA 2 14),
 oX 16 (.load false 1 15),
 oX 17 (.bin .shr 16 (.k (.one (.v (.int .u64) ((33 : Int)))))),
 oX 18 (.mv 0),
 oX 19 (.nilchk 18),
 oX 20 (.fieldA 2 19),
 oX 21 (.load false 1 20),
 oX 22 (.bin .shr 21 (.k (.one (.v (.int .u64) ((45 : Int)))))),
 oX 23 (.bin .xor 17 22),
 oX 24 (.bin .and 23 (kX 255)),
 oX 3 (.mv 24)])
 (.seq
 (.seq
 (.reg true [
 oX 25 (.mv 0),
 oX 26 (.nilchk 25),
 oX 27 (.fieldA 1 26),
 oX 28 (.load false 1 27),
 oX 29 (.mv 0),
 oX 30 (.nilchk 29),
 oX 31 (.fieldA 0 30),
 oX 32 (.load false 1 31),
 oX 33 (.len 32),
 oX 34 (.bin .lss 28 33)])
 (.join ⟨[(3, sX)], [(1000000, .box [.c (.v (.list [.int .u8])), vX, vX])]⟩ [1000000] []
 (.cond 34
 (.seq
 (.reg true [
 oX 35 (.mv 3),
 oX 36 (.mv 0),
 oX 37 (.nilchk 36),
 oX 38 (.fieldA 0 37),
 oX 39 (.load false 1 38),
 oX 40 (.mv 0),
 oX 41 (.nilchk 40),
 oX 42 (.fieldA 1 41),
 oX 43 (.load false 1 42),
 oX 44 (.idxA 1 39 43),
 oX 45 (.load false 1 44),
 oX 46 (.conv .i64 45),
 oX 47 (.bin .add 35 46),
 oX 48 (.bin .and 47 (kX 255)),
 oX 3 (.mv 48)])
 (.reg false [
 oX 49 (.mv 0),
 oX 50 (.mv 0),
 oX 51 (.nilchk 50),
 oX 52 (.fieldA 1 51),
 oX 53 (.load false 1 52),
 oX 54 (.bin .add 53 (kX 1)),
 oX 55 (.nilchk 49),
 oX 56 (.fieldA 1 55),
 uX (.store 1 56 54)]))
 .skip)))
 (.seq
 (.reg false [
 oX 57 (.mv 3),
 oX 2 (.mv 57)])
 .ret)))))
def ms_spec_l01Byte : List MRes := [.tmp 2]
theorem n_spec_l01Byte (NN : Nat) (x : DLL (Sig.tys ag_spec_l01Byte)) : runVS NN [] sc_spec_l01Byte ms_spec_l01Byte ag_spec_l01Byte rs_spec_l01Byte x = G_spec_l01Byte NN x := by kernel_rfl
theorem k_spec_l01Byte : chkS pX 72 sc_spec_l01Byte.er ms_spec_l01Byte 1 = true := by decide +kernel
theorem p_spec_l01Byte : VSpec Go.Proofs.Try.prog 72 fn_spec_l01Byte.MV ∧ chkFun pX 72 = true :=
  v_of_runVS (T := []) (sc := sc_spec_l01Byte) (ms := ms_spec_l01Byte) (args := ag_spec_l01Byte) (res := rs_spec_l01Byte) (SOk.nil) follows_ok k_spec_l01Byte F_spec_l01Byte fun x y h => (n_spec_l01Byte FUEL x).trans (f_spec_l01Byte x y h)

def fn_spec_l01Below : SFn := ⟨45, ag_spec_l01Below, mu_spec_l01Below, rs_spec_l01Below, F_spec_l01Below⟩
def sc_spec_l01Below : SCode :=
 (.seq
 (.reg false [
 oX 4 (.mv (kX 0))])
 (.seq
 (.seq
 (.reg false [
 oX 5 (.mv 1),
 oX 6 (.bin .leq 5 (kX 0))])
 (.cond 6
 (.seq
 (.reg false [
 oX 4 (.mv (kX 0))])
 .ret)
 .skip))
 (.seq
 (.reg false [
 oX 7 (.mv 0),
 oX 8 (.callb 72 [7]),
 oX 9 (.mv 1),
 oX 10 (.bin .rem 8 9),
 oX 4 (.mv 10)])
 .ret)))
def ms_spec_l01Below : List MRes := [.tmp 4]
theorem n_spec_l01Below (NN : Nat) (x : DLL (Sig.tys ag_spec_l01Below)) : runVS NN [fn_spec_l01Byte] sc_spec_l01Below ms_spec_l01Below ag_spec_l01Below rs_spec_l01Below x = G_spec_l01Below NN x := by kernel_rfl
theorem k_spec_l01Below : chkS pX 45 sc_spec_l01Below.er ms_spec_l01Below 2 = true := by decide +kernel
theorem p_spec_l01Below : VSpec Go.Proofs.Try.prog 45 fn_spec_l01Below.MV ∧ chkFun pX 45 = true :=
  v_of_runVS (T := [fn_spec_l01Byte]) (sc := sc_spec_l01Below) (ms := ms_spec_l01Below) (args := ag_spec_l01Below) (res := rs_spec_l01Below) (SOk.consV p_spec_l01Byte <| SOk.nil) follows_ok k_spec_l01Below F_spec_l01Below fun x y h => (n_spec_l01Below FUEL x).trans (f_spec_l01Below x y h)

def fn_spec_l01Pick : SFn := ⟨41, ag_spec_l01Pick, mu_spec_l01Pick, rs_spec_l01Pick, F_spec_l01Pick⟩
def sc_spec_l01Pick : SCode :=
 (.seq
 (.reg false [
 oX 4 (.mv (kX 0))])
 (.seq
 (.reg false [
 oX 5 (.mv 1),
 oX 6 (.mv 0),
 oX 7 (.mv 1),
 oX 8 (.len 7),
 oX 9 (.callb 45 [6, 8]),
 oX 10 (.idxA 1 5 9),
 oX 11 (.load false 1 10),
 oX 4 (.mv 11)])
 .ret))
def ms_spec_l01Pick : List MRes := [.tmp 4]
theorem n_spec_l01Pick (NN : Nat) (x : DLL (Sig.tys ag_spec_l01Pick)) : runVS NN [fn_spec_l01Below] sc_spec_l01Pick ms_spec_l01Pick ag_spec_l01Pick rs_spec_l01Pick x = G_spec_l01Pick NN x := by kernel_rfl
theorem k_spec_l01Pick : chkS pX 41 sc_spec_l01Pick.er ms_spec_l01Pick 2 = true := by decide +kernel
theorem p_spec_l01Pick : VSpec Go.Proofs.Try.prog 41 fn_spec_l01Pick.MV ∧ chkFun pX 41 = true :=
  v_of_runVS (T := [fn_spec_l01Below]) (sc := sc_spec_l01Pick) (ms := ms_spec_l01Pick) (args := ag_spec_l01Pick) (res := rs_spec_l01Pick) (SOk.consV p_spec_l01Below <| SOk.nil) follows_ok k_spec_l01Pick F_spec_l01Pick fun x y h => (n_spec_l01Pick FUEL x).trans (f_spec_l01Pick x y h)

def fn_spec_l31New : SFn := ⟨73, ag_spec_l31New, mu_spec_l31New, rs_spec_l31New, F_spec_l31New⟩
def sc_spec_l31New : SCode :=
 (.seq
 (.reg false [
 oX 4 (.alloc [zX, zX, .nil iX])])
 (.seq
 (.reg false [
 oX 5 (.mv 0),
 oX 6 (.mv 1),
 oX 7 (.mv 0),
 oX 8 (.mv 1),
 oX 9 (.bin .mul 7 8),
 oX 10 (.mkslice .froz iX 8 (0 : Int) 9 9),
 oX 11 (.build [zX, zX, .nil iX] [(0, 1, 5), (1, 1, 6), (2, 1, 10)]),
 uX (.store 3 4 11)])
 .ret))
def ms_spec_l31New : List MRes := [.cell 4 3 true]
theorem n_spec_l31New (NN : Nat) (x : DLL (Sig.tys ag_spec_l31New)) : runS NN [] sc_spec_l31New ms_spec_l31New ag_spec_l31New rs_spec_l31New x = G_spec_l31New NN x := by kernel_rfl
theorem k_spec_l31New : chkS pX 73 sc_spec_l31New.er ms_spec_l31New 2 = true := by decide +kernel
theorem p_spec_l31New : PureSpec pX 73 fn_spec_l31New.M ∧ chkFun pX 73 = true :=
  pure_of_runS (T := []) (sc := sc_spec_l31New) (ms := ms_spec_l31New) (args := ag_spec_l31New) (res := rs_spec_l31New) (SOk.nil) follows_ok k_spec_l31New F_spec_l31New fun x y h => (n_spec_l31New FUEL x).trans (f_spec_l31New x y h)

def fn_spec_l01Once : SFn := ⟨74, ag_spec_l01Once, mu_spec_l01Once, rs_spec_l01Once, F_spec_l01Once⟩
def sc_spec_l01Once : SCode :=
 (.seq
 (.reg false [
 oX 4 (.mv (.k (.one (.v (.bool) (false)))))])
 (.seq
 (.reg false [
 oX 5 (.mv 0),
 oX 6 (.mv 1),
 oX 7 (.callb 45 [5, 6]),
 oX 8 (.bin .eql 7 (kX 0)),
 oX 4 (.mv 8)])
 .ret))
def ms_spec_l01Once : List MRes := [.tmp 4]
theorem n_spec_l01Once (NN : Nat) (x : DLL (Sig.tys ag_spec_l01Once)) : runVS NN [fn_spec_l01Below] sc_spec_l01Once ms_spec_l01Once ag_spec_l01Once rs_spec_l01Once x = G_spec_l01Once NN x := by kernel_rfl
theorem k_spec_l01Once : chkS pX 74 sc_spec_l01Once.er ms_spec_l01Once 2 = true := by decide +kernel
theorem p_spec_l01Once : VSpec Go.Proofs.Try.prog 74 fn_spec_l01Once.MV ∧ chkFun pX 74 = true :=
  v_of_runVS (T := [fn_spec_l01Below]) (sc := sc_spec_l01Once) (ms := ms_spec_l01Once) (args := ag_spec_l01Once) (res := rs_spec_l01Once) (SOk.consV p_spec_l01Below <| SOk.nil) follows_ok k_spec_l01Once F_spec_l01Once fun x y h => (n_spec_l01Once FUEL x).trans (f_spec_l01Once x y h)

def fn_spec_l31Draw : SFn := ⟨42, ag_spec_l31Draw, mu_spec_l31Draw, rs_spec_l31Draw, F_spec_l31Draw⟩
def sc_spec_l31Draw : SCode :=
 (.seq
 (.reg false [
 oX 8 (.alloc [zX, zX, .nil iX])])
 (.seq
 (.reg false [
 oX 12 (.mv 2),
 oX 13 (.mv 3),
 oX 14 (.call .froz 73 [12, 13]),
 oX 9 (.alloc [zX, zX, .nil iX]),
 uX (.store 3 9 14)])
 (.seq
 (.seq
 (.reg false [
 oX 15 (.fieldA 2 9),
 oX 16 (.load false 1 15),
 oX 17 (.len 16),
 oX 18 (.mv (kX 0))])
 (.join ⟨[(2, sX), (0, .one (rX 1000000)), (3, sX), (9, .one (rX 9)), (8, .one (rX 8))], [(1000000, .box [.c (.v (.list [.int .u8])), vX, vX]), (8, .box [vX, vX, fX 500002 1]), (9, .box [vX, vX, fX 500003 1]), (500002, .row true .froz iX), (500003, .row true .froz iX)]⟩ [1000000, 8, 9, 500000, 500001, 500002, 500003] [(true, 8, 2, 500002, .froz, []), (true, 9, 2, 500003, .froz, [])]
 (.block 0
 (.loop 0 ⟨[(0, .one (rX 1000000)), (1, sX), (2, sX), (3, sX), (8, .one (rX 8)), (9, .one (rX 9)), (17, sX), (18, sX)], [(1000000, .box [.c (.v (.list [.int .u8])), vX, vX]), (8, .box [vX, vX, fX 500000 1]), (9, .box [vX, vX, fX 500001 1]), (500000, .row true .froz iX), (500001, .row true .froz iX)]⟩ [1000000, 8, 15000, 9, 500000, 500001] [(true, 8, 2, 500000, .froz, []), (true, 9, 2, 500001, .froz, [])]
 (.seq
 (.reg false [
 oX 19 (.bin .lss 18 17)])
 (.seq
 (.cond 19
 .skip
 (.exit 0))
 (.seq
 (.block 1
 (.seq
 (.reg false [
 oX 20 (.mv 18),
 oX 10 (.mv 20)])
 (.seq
 (.reg false [
 oX 21 (.mv 0),
 oX 22 (.callb 74 [21, (kX 3)]),
 oX 23 (.un .not 22)])
 (.cond 23
 (.regD [(0, 6), (1, 6)] [
 oX 24 (.fieldA 2 9),
 oX 25 (.load false 1 24),
 oX 26 (.mv 10),
 oX 27 (.mv 0),
 oX 28 (.mv 1),
 oX 29 (.mm false 28 (kX 256)),
 oX 30 (.callb 45 [27, 29]),
 oX 31 (.idxA 1 25 26),
 uX (.store 1 31 30)])
 .skip))))
 (.reg false [
 oX 32 (.bin .add 18 (kX 1)),
 oX 18 (.mv 32)]))))))))
 (.seq
 (.seq
 (.reg false [
 oX 33 (.mv 2),
 oX 34 (.bin .gtr 33 (kX 1)),
 oX 35 (.mv 34),
 ⟨(some 36), .mv 0, (some (35, true))⟩,
 ⟨(some 37), .callb 74 [36, (kX 3)], (some (35, true))⟩,
 oX 38 (.pick 35 37 (.k (.one (.v (.bool) (false)))))])
 (.join ⟨[(9, .one (rX 9)), (8, .one (rX 8))], [(1000000, .box [.c (.v (.list [.int .u8])), vX, vX]), (8, .box [vX, vX, fX 500006 1]), (9, .box [vX, vX, fX 500007 1]), (500006, .row true .froz iX), (500007, .row true .froz iX)]⟩ [1000000, 8, 9, 500002, 500003, 500004, 500005, 500006, 500007] [(true, 8, 2, 500006, .froz, []), (true, 9, 2, 500007, .froz, [])]
 (.cond 38
 (.seq
 (.reg false [
 oX 11 (.mv (kX 0))])
 (.block 2
 (.loop 0 ⟨[(3, sX), (8, .one (rX 8)), (9, .one (rX 9)), (11, sX)], [(1000000, .box [.c (.v (.list [.int .u8])), vX, vX]), (8, .box [vX, vX, fX 500004 1]), (9, .box [vX, vX, fX 500005 1]), (500004, .row true .froz iX), (500005, .row true .froz iX)]⟩ [1000000, 8, 9, 500002, 500003, 500004, 500005] [(true, 8, 2, 500004, .froz, []), (true, 9, 2, 500005, .froz, [])]
 (.seq
 (.seq
 (.reg false [
 oX 39 (.mv 11),
 oX 40 (.mv 3),
 oX 41 (.bin .lss 39 40)])
 (.cond 41
 .skip
 (.exit 2)))
 (.seq
 (.block 3
 (.reg true [
 oX 44 (.fieldA 2 9),
 oX 45 (.load false 1 44),
 oX 46 (.mv 3),
 oX 47 (.mv 11),
 oX 48 (.bin .add 46 47),
 oX 49 (.fieldA 2 9),
 oX 50 (.load false 1 49),
 oX 51 (.mv 11),
 oX 52 (.idxA 1 50 51),
 oX 53 (.load false 1 52),
 oX 54 (.idxA 1 45 48),
 uX (.store 1 54 53)]))
 (.reg false [
 oX 42 (.mv 11),
 oX 43 (.bin .add 42 (kX 1)),
 oX 11 (.mv 43)]))))))
 .skip)))
 (.seq
 (.reg false [
 oX 55 (.load true 3 9),
 uX (.store 3 8 55)])
 .ret)))))
def ms_spec_l31Draw : List MRes := [.cell 8 3 true]
theorem n_spec_l31Draw (NN : Nat) (x : DLL (Sig.tys ag_spec_l31Draw)) : runVS NN [fn_spec_l31New, fn_spec_l01Once, fn_spec_l01Below] sc_spec_l31Draw ms_spec_l31Draw ag_spec_l31Draw rs_spec_l31Draw x = G_spec_l31Draw NN x := by kernel_rfl
theorem k_spec_l31Draw : chkS pX 42 sc_spec_l31Draw.er ms_spec_l31Draw 4 = true := by decide +kernel
theorem p_spec_l31Draw : VSpec Go.Proofs.Try.prog 42 fn_spec_l31Draw.MV ∧ chkFun pX 42 = true :=
  v_of_runVS (T := [fn_spec_l31New, fn_spec_l01Once, fn_spec_l01Below]) (sc := sc_spec_l31Draw) (ms := ms_spec_l31Draw) (args := ag_spec_l31Draw) (res := rs_spec_l31Draw) (SOk.cons p_spec_l31New <| SOk.consV p_spec_l01Once <| SOk.consV p_spec_l01Below <| SOk.nil) follows_ok k_spec_l31Draw F_spec_l31Draw fun x y h => (n_spec_l31Draw FUEL x).trans (f_spec_l31Draw x y h)

def fn_spec_l34Draw : SFn := ⟨46, ag_spec_l34Draw, mu_spec_l34Draw, rs_spec_l34Draw, F_spec_l34Draw⟩
def sc_spec_l34Draw : SCode :=
 (.seq
 (.reg false [
 oX 8 (.alloc [zX, zX, .nil iX, .nil mX, .nil iX])])
 (.seq
 (.reg false [
 oX 10 (.mv 1),
 oX 11 (.mv 2),
 oX 12 (.mv 0),
 oX 13 (.mv 1),
 oX 14 (.mv 2),
 oX 15 (.callb 42 [12, 13, (kX 1), 14]),
 oX 16 (.fld false 2 1 15),
 oX 17 (.mv 0),
 oX 18 (.mv 1),
 oX 19 (.mv 2),
 oX 20 (.callb 42 [17, 18, (kX 1), 19]),
 oX 21 (.fld false 2 1 20),
 oX 22 (.build [zX, zX, .nil iX, .nil mX, .nil iX] [(0, 1, 10), (1, 1, 11), (2, 1, 16), (4, 1, 21)]),
 oX 9 (.alloc [zX, zX, .nil iX, .nil mX, .nil iX]),
 uX (.store 5 9 22)])
 (.seq
 (.join ⟨[(9, .one (rX 9)), (8, .one (rX 8))], [(1000000, .box [.c (.v (.list [.int .u8])), vX, vX]), (8, .box [vX, vX, fX 500004 1, fX 500005 3, fX 500006 1]), (9, .box [vX, vX, .c (.v (lX)), fX 500007 3, .c (.v (lX))]), (500004, .row true .froz iX), (500005, .row true .froz mX), (500006, .row true .froz iX), (500007, .row true .bor mX)]⟩ [1000000, 8, 9, 500000, 500001, 500002, 500003, 500004, 500005, 500006, 500007] [(true, 8, 2, 500004, .froz, []), (true, 8, 3, 500005, .froz, []), (true, 8, 4, 500006, .froz, []), (true, 9, 3, 500007, .bor, [])]
 (.block 0
 (.loop 0 ⟨[(0, .one (rX 1000000)), (1, sX), (2, sX), (3, sX), (8, .one (rX 8)), (9, .one (rX 9))], [(1000000, .box [.c (.v (.list [.int .u8])), vX, vX]), (8, .box [vX, vX, fX 500000 1, fX 500001 3, fX 500002 1]), (9, .box [vX, vX, .c (.v (lX)), fX 500003 3, .c (.v (lX))]), (500000, .row true .froz iX), (500001, .row true .froz mX), (500002, .row true .froz iX), (500003, .row true .bor mX)]⟩ [1000000, 8, 9, 35, 500000, 500001, 500002, 500003] [(true, 8, 2, 500000, .froz, []), (true, 8, 3, 500001, .froz, []), (true, 8, 4, 500002, .froz, []), (true, 9, 3, 500003, .bor, [])]
 (.seq
 (.seq
 (.reg false [
 oX 23 (.mv 3),
 oX 24 (.bin .gtr 23 (kX 0))])
 (.cond 24
 .skip
 (.exit 0)))
 (.seq
 (.block 1
 (.regD [(0, 6), (1, 6), (0, 7), (1, 7)] [
 oX 27 (.fieldA 3 9),
 oX 28 (.load false 1 27),
 oX 29 (.mv 0),
 oX 30 (.mv 1),
 oX 31 (.mv 2),
 oX 32 (.mv 2),
 oX 33 (.callb 42 [29, 30, 31, 32]),
 oX 34 (.bslice mX [33]),
 oX 35 (.append false mX 40 28 34),
 oX 36 (.fieldA 3 9),
 uX (.store 1 36 35)]))
 (.reg false [
 oX 25 (.mv 3),
 oX 26 (.bin .sub 25 (kX 1)),
 oX 3 (.mv 26)]))))))
 (.seq
 (.reg false [
 oX 37 (.load true 5 9),
 uX (.store 5 8 37)])
 .ret))))
def ms_spec_l34Draw : List MRes := [.cell 8 5 true]
theorem n_spec_l34Draw (NN : Nat) (x : DLL (Sig.tys ag_spec_l34Draw)) : runVS NN [fn_spec_l31Draw] sc_spec_l34Draw ms_spec_l34Draw ag_spec_l34Draw rs_spec_l34Draw x = G_spec_l34Draw NN x := by kernel_rfl
theorem k_spec_l34Draw : chkS pX 46 sc_spec_l34Draw.er ms_spec_l34Draw 4 = true := by decide +kernel
theorem p_spec_l34Draw : VSpec Go.Proofs.Try.prog 46 fn_spec_l34Draw.MV ∧ chkFun pX 46 = true :=
  v_of_runVS (T := [fn_spec_l31Draw]) (sc := sc_spec_l34Draw) (ms := ms_spec_l34Draw) (args := ag_spec_l34Draw) (res := rs_spec_l34Draw) (SOk.consV p_spec_l31Draw <| SOk.nil) follows_ok k_spec_l34Draw F_spec_l34Draw fun x y h => (n_spec_l34Draw FUEL x).trans (f_spec_l34Draw x y h)

def fn_spec_MakeAutomata : SFn := ⟨21, ag_spec_MakeAutomata, mu_spec_MakeAutomata, rs_spec_MakeAutomata, F_spec_MakeAutomata⟩
def sc_spec_MakeAutomata : SCode :=
 (.seq
 (.reg false [
 oX 4 (.alloc [zX, zX, .nil iX, .nil mX, .nil iX]),
 oX 5 (.alloc [zX, zX, .nil iX, .nil mX, .nil iX])])
 (.seq
 (.reg false [
 oX 9 (.mv 0),
 oX 10 (.mv 1),
 oX 11 (.callb 37 [9, 10]),
 oX 6 (.mv 11)])
 (.seq
 (.reg false [
 oX 12 (.mv 6),
 oX 13 (.bslice iX [(kX 2), (kX 3), (kX 7), (kX 101)]),
 oX 14 (.callb 41 [12, 13]),
 oX 7 (.mv 14)])
 (.seq
 (.reg false [
 oX 15 (.mv 6),
 oX 16 (.callb 45 [15, (kX 3)]),
 oX 17 (.bin .add (kX 1) 16),
 oX 8 (.mv 17)])
 (.seq
 (.reg false [
 oX 18 (.mv 6),
 oX 19 (.mv 7),
 oX 20 (.mv 6),
 oX 21 (.callb 45 [20, (kX 4)]),
 oX 22 (.mv 8),
 oX 23 (.callb 46 [18, 19, 21, 22]),
 oX 24 (.mv 6),
 oX 25 (.mv 7),
 oX 26 (.mv 6),
 oX 27 (.callb 45 [26, (kX 4)]),
 oX 28 (.mv 8),
 oX 29 (.callb 46 [24, 25, 27, 28]),
 uX (.store 5 4 23),
 uX (.store 5 5 29)])
 .ret)))))
def ms_spec_MakeAutomata : List MRes := [.cell 4 5 true, .cell 5 5 true]
theorem n_spec_MakeAutomata (NN : Nat) (x : DLL (Sig.tys ag_spec_MakeAutomata)) : runVS NN [fn_spec_l45At, fn_spec_l01Pick, fn_spec_l01Below, fn_spec_l34Draw] sc_spec_MakeAutomata ms_spec_MakeAutomata ag_spec_MakeAutomata rs_spec_MakeAutomata x = G_spec_MakeAutomata NN x := by kernel_rfl
theorem k_spec_MakeAutomata : chkS pX 21 sc_spec_MakeAutomata.er ms_spec_MakeAutomata 2 = true := by decide +kernel
theorem p_spec_MakeAutomata : VSpec Go.Proofs.Try.prog 21 fn_spec_MakeAutomata.MV ∧ chkFun pX 21 = true :=
  v_of_runVS (T := [fn_spec_l45At, fn_spec_l01Pick, fn_spec_l01Below, fn_spec_l34Draw]) (sc := sc_spec_MakeAutomata) (ms := ms_spec_MakeAutomata) (args := ag_spec_MakeAutomata) (res := rs_spec_MakeAutomata) (SOk.consV p_spec_l45At <| SOk.consV p_spec_l01Pick <| SOk.consV p_spec_l01Below <| SOk.consV p_spec_l34Draw <| SOk.nil) follows_ok k_spec_MakeAutomata F_spec_MakeAutomata fun x y h => (n_spec_MakeAutomata FUEL x).trans (f_spec_MakeAutomata x y h)

def fn_spec_MakeWord : SFn := ⟨22, ag_spec_MakeWord, mu_spec_MakeWord, rs_spec_MakeWord, F_spec_MakeWord⟩
def sc_spec_MakeWord : SCode :=
 (.seq
 (.reg false [
 oX 6 (.mv (.k (.one (.nil iX))))])
 (.seq
 (.reg false [
 oX 10 (.mv 0),
 oX 11 (.mv 1),
 oX 12 (.callb 37 [10, 11]),
 oX 7 (.mv 12)])
 (.seq
 (.reg false [
 oX 13 (.bslice iX []),
 oX 8 (.mv 13)])
 (.seq
 (.seq
 (.reg false [
 oX 14 (.mv 7),
 oX 15 (.callb 45 [14, (kX 7)]),
 oX 9 (.mv 15)])
 (.join ⟨[(8, .one (fX 500001 1))], [(500001, .row true .froz iX)]⟩ [12, 500000, 500001] [(false, 8, 0, 500001, .froz, [])]
 (.block 0
 (.loop 0 ⟨[(2, sX), (7, .one (rX 12)), (8, .one (fX 500000 1)), (9, sX)], [(12, .box [.c (.v (.list [.int .u8])), vX, vX]), (500000, .row true .froz iX)]⟩ [12, 13, 24, 25, 500000] [(false, 8, 0, 500000, .froz, [])]
 (.seq
 (.seq
 (.reg false [
 oX 16 (.mv 9),
 oX 17 (.bin .gtr 16 (kX 0))])
 (.cond 17
 .skip
 (.exit 0)))
 (.seq
 (.block 1
 (.reg false [
 oX 20 (.mv 8),
 oX 21 (.mv 7),
 oX 22 (.mv 2),
 oX 23 (.callb 45 [21, 22]),
 oX 24 (.bslice iX [23]),
 oX 25 (.append true iX 8 20 24),
 oX 8 (.mv 25)]))
 (.reg false [
 oX 18 (.mv 9),
 oX 19 (.bin .sub 18 (kX 1)),
 oX 9 (.mv 19)])))))))
 (.seq
 (.reg false [
 oX 26 (.mv 8),
 oX 6 (.mv 26)])
 .ret)))))
def ms_spec_MakeWord : List MRes := [.tmp 6]
theorem n_spec_MakeWord (NN : Nat) (x : DLL (Sig.tys ag_spec_MakeWord)) : runVS NN [fn_spec_l45At, fn_spec_l01Below] sc_spec_MakeWord ms_spec_MakeWord ag_spec_MakeWord rs_spec_MakeWord x = G_spec_MakeWord NN x := by kernel_rfl
theorem k_spec_MakeWord : chkS pX 22 sc_spec_MakeWord.er ms_spec_MakeWord 3 = true := by decide +kernel
theorem p_spec_MakeWord : VSpec Go.Proofs.Try.prog 22 fn_spec_MakeWord.MV ∧ chkFun pX 22 = true :=
  v_of_runVS (T := [fn_spec_l45At, fn_spec_l01Below]) (sc := sc_spec_MakeWord) (ms := ms_spec_MakeWord) (args := ag_spec_MakeWord) (res := rs_spec_MakeWord) (SOk.consV p_spec_l45At <| SOk.consV p_spec_l01Below <| SOk.nil) follows_ok k_spec_MakeWord F_spec_MakeWord fun x y h => (n_spec_MakeWord FUEL x).trans (f_spec_MakeWord x y h)

def fn_impl_IsPrime : SFn := ⟨55, ag_impl_IsPrime, mu_impl_IsPrime, rs_impl_IsPrime, F_impl_IsPrime⟩
def sc_impl_IsPrime : SCode :=
 (.seq
 (.reg false [
 oX 2 (.mv (.k (.one (.v (.bool) (false)))))])
 (.seq
 (.seq
 (.reg false [
 oX 4 (.mv 0),
 oX 5 (.bin .lss 4 (kX 2)),
 oX 6 (.mv 5),
 ⟨(some 7), .mv 0, (some (6, false))⟩,
 ⟨(some 8), .bin .gtr 7 (kX 1000003), (some (6, false))⟩,
 oX 9 (.pick 6 (.k (.one (.v (.bool) (true)))) 8)])
 (.cond 9
 (.seq
 (.reg false [
 oX 2 (.mv (.k (.one (.v (.bool) (false)))))])
 .ret)
 .skip))
 (.seq
 (.seq
 (.reg false [
 oX 3 (.mv (kX 2))])
 (.join ⟨[], []⟩ [] []
 (.block 0
 (.loop 0 ⟨[(0, sX), (3, sX)], []⟩ [] []
 (.seq
 (.seq
 (.reg false [
 oX 10 (.mv 3),
 oX 11 (.mv 3),
 oX 12 (.bin .mul 10 11),
 oX 13 (.mv 0),
 oX 14 (.bin .leq 12 13)])
 (.cond 14
 .skip
 (.exit 0)))
 (.seq
 (.block 1
 (.seq
 (.reg false [
 oX 17 (.mv 0),
 oX 18 (.mv 3),
 oX 19 (.bin .rem 17 18),
 oX 20 (.bin .eql 19 (kX 0))])
 (.cond 20
 (.seq
 (.reg false [
 oX 2 (.mv (.k (.one (.v (.bool) (false)))))])
 .ret)
 .skip)))
 (.reg false [
 oX 15 (.mv 3),
 oX 16 (.bin .add 15 (kX 1)),
 oX 3 (.mv 16)])))))))
 (.seq
 (.reg false [
 oX 2 (.mv (.k (.one (.v (.bool) (true)))))])
 .ret))))
def ms_impl_IsPrime : List MRes := [.tmp 2]
theorem n_impl_IsPrime (NN : Nat) (x : DLL (Sig.tys ag_impl_IsPrime)) : runS NN [] sc_impl_IsPrime ms_impl_IsPrime ag_impl_IsPrime rs_impl_IsPrime x = G_impl_IsPrime NN x := by kernel_rfl
theorem k_impl_IsPrime : chkS pX 55 sc_impl_IsPrime.er ms_impl_IsPrime 1 = true := by decide +kernel
theorem p_impl_IsPrime : PureSpec pX 55 fn_impl_IsPrime.M ∧ chkFun pX 55 = true :=
  pure_of_runS (T := []) (sc := sc_impl_IsPrime) (ms := ms_impl_IsPrime) (args := ag_impl_IsPrime) (res := rs_impl_IsPrime) (SOk.nil) follows_ok k_impl_IsPrime F_impl_IsPrime fun x y h => (n_impl_IsPrime FUEL x).trans (f_impl_IsPrime x y h)

def fn_impl_inMod : SFn := ⟨75, ag_impl_inMod, mu_impl_inMod, rs_impl_inMod, F_impl_inMod⟩
def sc_impl_inMod : SCode :=
 (.seq
 (.reg false [
 oX 4 (.mv (.k (.one (.v (.bool) (false)))))])
 (.seq
 (.seq
 (.reg false [
 oX 7 (.mv 1),
 oX 8 (.len 7),
 oX 9 (.mv (kX 0))])
 (.join ⟨[], []⟩ [] []
 (.block 0
 (.loop 0 ⟨[(0, sX), (7, .one (.c (.v (lX)))), (8, sX), (9, sX)], []⟩ [] []
 (.seq
 (.reg false [
 oX 10 (.bin .lss 9 8)])
 (.seq
 (.cond 10
 .skip
 (.exit 0))
 (.seq
 (.block 1
 (.seq
 (.reg false [
 oX 11 (.idxA 1 7 9),
 oX 12 (.load false 1 11),
 oX 6 (.mv 12)])
 (.seq
 (.reg false [
 oX 13 (.mv 6),
 oX 14 (.bin .lss 13 (kX 0)),
 oX 15 (.mv 14),
 ⟨(some 16), .mv 6, (some (15, false))⟩,
 ⟨(some 17), .mv 0, (some (15, false))⟩,
 ⟨(some 18), .bin .geq 16 17, (some (15, false))⟩,
 oX 19 (.pick 15 (.k (.one (.v (.bool) (true)))) 18)])
 (.cond 19
 (.seq
 (.reg false [
 oX 4 (.mv (.k (.one (.v (.bool) (false)))))])
 .ret)
 .skip))))
 (.reg false [
 oX 20 (.bin .add 9 (kX 1)),
 oX 9 (.mv 20)]))))))))
 (.seq
 (.reg false [
 oX 4 (.mv (.k (.one (.v (.bool) (true)))))])
 .ret)))
def ms_impl_inMod : List MRes := [.tmp 4]
theorem n_impl_inMod (NN : Nat) (x : DLL (Sig.tys ag_impl_inMod)) : runS NN [] sc_impl_inMod ms_impl_inMod ag_impl_inMod rs_impl_inMod x = G_impl_inMod NN x := by kernel_rfl
theorem k_impl_inMod : chkS pX 75 sc_impl_inMod.er ms_impl_inMod 2 = true := by decide +kernel
theorem p_impl_inMod : PureSpec pX 75 fn_impl_inMod.M ∧ chkFun pX 75 = true :=
  pure_of_runS (T := []) (sc := sc_impl_inMod) (ms := ms_impl_inMod) (args := ag_impl_inMod) (res := rs_impl_inMod) (SOk.nil) follows_ok k_impl_inMod F_impl_inMod fun x y h => (n_impl_inMod FUEL x).trans (f_impl_inMod x y h)

def fn_impl_MatrixOk : SFn := ⟨43, ag_impl_MatrixOk, mu_impl_MatrixOk, rs_impl_MatrixOk, F_impl_MatrixOk⟩
def sc_impl_MatrixOk : SCode :=
 (.seq
 (.reg false [
 oX 3 (.box 3 1),
 oX 4 (.mv (.k (.one (.v (.bool) (false)))))])
 (.seq
 (.seq
 (.reg false [
 oX 5 (.mv 0),
 oX 6 (.call .froz 55 [5]),
 oX 7 (.un .not 6),
 oX 8 (.mv 7),
 ⟨(some 9), .fieldA 0 3, (some (8, false))⟩,
 ⟨(some 10), .load false 1 9, (some (8, false))⟩,
 ⟨(some 11), .bin .lss 10 (kX 0), (some (8, false))⟩,
 oX 12 (.pick 8 (.k (.one (.v (.bool) (true)))) 11),
 oX 13 (.mv 12),
 ⟨(some 14), .fieldA 1 3, (some (13, false))⟩,
 ⟨(some 15), .load false 1 14, (some (13, false))⟩,
 ⟨(some 16), .bin .lss 15 (kX 0), (some (13, false))⟩,
 oX 17 (.pick 13 (.k (.one (.v (.bool) (true)))) 16),
 oX 18 (.mv 17),
 ⟨(some 19), .fieldA 0 3, (some (18, false))⟩,
 ⟨(some 20), .load false 1 19, (some (18, false))⟩,
 ⟨(some 21), .bin .gtr 20 (kX 64), (some (18, false))⟩,
 oX 22 (.pick 18 (.k (.one (.v (.bool) (true)))) 21),
 oX 23 (.mv 22),
 ⟨(some 24), .fieldA 1 3, (some (23, false))⟩,
 ⟨(some 25), .load false 1 24, (some (23, false))⟩,
 ⟨(some 26), .bin .gtr 25 (kX 64), (some (23, false))⟩,
 oX 27 (.pick 23 (.k (.one (.v (.bool) (true)))) 26)])
 (.cond 27
 (.seq
 (.reg false [
 oX 4 (.mv (.k (.one (.v (.bool) (false)))))])
 .ret)
 .skip))
 (.seq
 (.reg false [
 oX 28 (.fieldA 2 3),
 oX 29 (.load false 1 28),
 oX 30 (.len 29),
 oX 31 (.fieldA 0 3),
 oX 32 (.load false 1 31),
 oX 33 (.fieldA 1 3),
 oX 34 (.load false 1 33),
 oX 35 (.bin .mul 32 34),
 oX 36 (.bin .eql 30 35),
 oX 37 (.mv 36),
 ⟨(some 38), .mv 0, (some (37, true))⟩,
 ⟨(some 39), .fieldA 2 3, (some (37, true))⟩,
 ⟨(some 40), .load false 1 39, (some (37, true))⟩,
 ⟨(some 41), .call .froz 75 [38, 40], (some (37, true))⟩,
 oX 42 (.pick 37 41 (.k (.one (.v (.bool) (false))))),
 oX 4 (.mv 42)])
 .ret)))
def ms_impl_MatrixOk : List MRes := [.tmp 4]
theorem n_impl_MatrixOk (NN : Nat) (x : DLL (Sig.tys ag_impl_MatrixOk)) : runS NN [fn_impl_IsPrime, fn_impl_inMod] sc_impl_MatrixOk ms_impl_MatrixOk ag_impl_MatrixOk rs_impl_MatrixOk x = G_impl_MatrixOk NN x := by kernel_rfl
theorem k_impl_MatrixOk : chkS pX 43 sc_impl_MatrixOk.er ms_impl_MatrixOk 2 = true := by decide +kernel
theorem p_impl_MatrixOk : PureSpec pX 43 fn_impl_MatrixOk.M ∧ chkFun pX 43 = true :=
  pure_of_runS (T := [fn_impl_IsPrime, fn_impl_inMod]) (sc := sc_impl_MatrixOk) (ms := ms_impl_MatrixOk) (args := ag_impl_MatrixOk) (res := rs_impl_MatrixOk) (SOk.cons p_impl_IsPrime <| SOk.cons p_impl_inMod <| SOk.nil) follows_ok k_impl_MatrixOk F_impl_MatrixOk fun x y h => (n_impl_MatrixOk FUEL x).trans (f_impl_MatrixOk x y h)

def fn_impl_AutomatonOk : SFn := ⟨52, ag_impl_AutomatonOk, mu_impl_AutomatonOk, rs_impl_AutomatonOk, F_impl_AutomatonOk⟩
def sc_impl_AutomatonOk : SCode :=
 (.seq
 (.reg false [
 oX 1 (.box 5 0),
 oX 2 (.mv (.k (.one (.v (.bool) (false)))))])
 (.seq
 (.seq
 (.reg false [
 oX 5 (.fieldA 0 1),
 oX 6 (.load false 1 5),
 oX 7 (.call .froz 55 [6]),
 oX 8 (.un .not 7),
 oX 9 (.mv 8),
 ⟨(some 10), .fieldA 1 1, (some (9, false))⟩,
 ⟨(some 11), .load false 1 10, (some (9, false))⟩,
 ⟨(some 12), .bin .lss 11 (kX 0), (some (9, false))⟩,
 oX 13 (.pick 9 (.k (.one (.v (.bool) (true)))) 12),
 oX 14 (.mv 13),
 ⟨(some 15), .fieldA 1 1, (some (14, false))⟩,
 ⟨(some 16), .load false 1 15, (some (14, false))⟩,
 ⟨(some 17), .bin .gtr 16 (kX 12), (some (14, false))⟩,
 oX 18 (.pick 14 (.k (.one (.v (.bool) (true)))) 17),
 oX 19 (.mv 18),
 ⟨(some 20), .fieldA 2 1, (some (19, false))⟩,
 ⟨(some 21), .load false 1 20, (some (19, false))⟩,
 ⟨(some 22), .len 21, (some (19, false))⟩,
 ⟨(some 23), .fieldA 1 1, (some (19, false))⟩,
 ⟨(some 24), .load false 1 23, (some (19, false))⟩,
 ⟨(some 25), .bin .neq 22 24, (some (19, false))⟩,
 oX 26 (.pick 19 (.k (.one (.v (.bool) (true)))) 25),
 oX 27 (.mv 26),
 ⟨(some 28), .fieldA 4 1, (some (27, false))⟩,
 ⟨(some 29), .load false 1 28, (some (27, false))⟩,
 ⟨(some 30), .len 29, (some (27, false))⟩,
 ⟨(some 31), .fieldA 1 1, (some (27, false))⟩,
 ⟨(some 32), .load false 1 31, (some (27, false))⟩,
 ⟨(some 33), .bin .neq 30 32, (some (27, false))⟩,
 oX 34 (.pick 27 (.k (.one (.v (.bool) (true)))) 33)])
 (.cond 34
 (.seq
 (.reg false [
 oX 2 (.mv (.k (.one (.v (.bool) (false)))))])
 .ret)
 .skip))
 (.seq
 (.seq
 (.reg false [
 oX 35 (.fieldA 0 1),
 oX 36 (.load false 1 35),
 oX 37 (.fieldA 2 1),
 oX 38 (.load false 1 37),
 oX 39 (.call .froz 75 [36, 38]),
 oX 40 (.un .not 39),
 oX 41 (.mv 40),
 ⟨(some 42), .fieldA 0 1, (some (41, false))⟩,
 ⟨(some 43), .load false 1 42, (some (41, false))⟩,
 ⟨(some 44), .fieldA 4 1, (some (41, false))⟩,
 ⟨(some 45), .load false 1 44, (some (41, false))⟩,
 ⟨(some 46), .call .froz 75 [43, 45], (some (41, false))⟩,
 ⟨(some 47), .un .not 46, (some (41, false))⟩,
 oX 48 (.pick 41 (.k (.one (.v (.bool) (true)))) 47),
 oX 49 (.mv 48),
 ⟨(some 50), .fieldA 3 1, (some (49, false))⟩,
 ⟨(some 51), .load false 1 50, (some (49, false))⟩,
 ⟨(some 52), .len 51, (some (49, false))⟩,
 ⟨(some 53), .bin .lss 52 (kX 1), (some (49, false))⟩,
 oX 54 (.pick 49 (.k (.one (.v (.bool) (true)))) 53),
 oX 55 (.mv 54),
 ⟨(some 56), .fieldA 3 1, (some (55, false))⟩,
 ⟨(some 57), .load false 1 56, (some (55, false))⟩,
 ⟨(some 58), .len 57, (some (55, false))⟩,
 ⟨(some 59), .bin .gtr 58 (kX 4), (some (55, false))⟩,
 oX 60 (.pick 55 (.k (.one (.v (.bool) (true)))) 59)])
 (.cond 60
 (.seq
 (.reg false [
 oX 2 (.mv (.k (.one (.v (.bool) (false)))))])
 .ret)
 .skip))
 (.seq
 (.seq
 (.reg false [
 oX 61 (.fieldA 3 1),
 oX 62 (.load false 1 61),
 oX 63 (.len 62),
 oX 64 (.mv (kX 0))])
 (.join ⟨[], []⟩ [1] []
 (.block 0
 (.loop 0 ⟨[(1, .one (rX 1)), (62, .one (.c (.v (.list mX)))), (63, sX), (64, sX)], [(1, .box [vX, vX, .c (.v (lX)), .c (.v (.list mX)), .c (.v (lX))])]⟩ [1, 4] []
 (.seq
 (.reg false [
 oX 65 (.bin .lss 64 63)])
 (.seq
 (.cond 65
 .skip
 (.exit 0))
 (.seq
 (.block 1
 (.seq
 (.reg false [
 oX 66 (.idxA 3 62 64),
 oX 67 (.load true 3 66),
 oX 4 (.alloc [zX, zX, .nil iX]),
 uX (.store 3 4 67)])
 (.seq
 (.reg false [
 oX 68 (.fieldA 0 1),
 oX 69 (.load false 1 68),
 oX 70 (.load true 3 4),
 oX 71 (.call .froz 43 [69, 70]),
 oX 72 (.un .not 71),
 oX 73 (.mv 72),
 ⟨(some 74), .fieldA 0 4, (some (73, false))⟩,
 ⟨(some 75), .load false 1 74, (some (73, false))⟩,
 ⟨(some 76), .fieldA 1 1, (some (73, false))⟩,
 ⟨(some 77), .load false 1 76, (some (73, false))⟩,
 ⟨(some 78), .bin .neq 75 77, (some (73, false))⟩,
 oX 79 (.pick 73 (.k (.one (.v (.bool) (true)))) 78),
 oX 80 (.mv 79),
 ⟨(some 81), .fieldA 1 4, (some (80, false))⟩,
 ⟨(some 82), .load false 1 81, (some (80, false))⟩,
 ⟨(some 83), .fieldA 1 1, (some (80, false))⟩,
 ⟨(some 84), .load false 1 83, (some (80, false))⟩,
 ⟨(some 85), .bin .neq 82 84, (some (80, false))⟩,
 oX 86 (.pick 80 (.k (.one (.v (.bool) (true)))) 85)])
 (.cond 86
 (.seq
 (.reg false [
 oX 2 (.mv (.k (.one (.v (.bool) (false)))))])
 .ret)
 .skip))))
 (.reg false [
 oX 87 (.bin .add 64 (kX 1)),
 oX 64 (.mv 87)]))))))))
 (.seq
 (.reg false [
 oX 2 (.mv (.k (.one (.v (.bool) (true)))))])
 .ret)))))
def ms_impl_AutomatonOk : List MRes := [.tmp 2]
theorem n_impl_AutomatonOk (NN : Nat) (x : DLL (Sig.tys ag_impl_AutomatonOk)) : runS NN [fn_impl_IsPrime, fn_impl_inMod, fn_impl_MatrixOk] sc_impl_AutomatonOk ms_impl_AutomatonOk ag_impl_AutomatonOk rs_impl_AutomatonOk x = G_impl_AutomatonOk NN x := by kernel_rfl
theorem k_impl_AutomatonOk : chkS pX 52 sc_impl_AutomatonOk.er ms_impl_AutomatonOk 1 = true := by decide +kernel
theorem p_impl_AutomatonOk : PureSpec pX 52 fn_impl_AutomatonOk.M ∧ chkFun pX 52 = true :=
  pure_of_runS (T := [fn_impl_IsPrime, fn_impl_inMod, fn_impl_MatrixOk]) (sc := sc_impl_AutomatonOk) (ms := ms_impl_AutomatonOk) (args := ag_impl_AutomatonOk) (res := rs_impl_AutomatonOk) (SOk.cons p_impl_IsPrime <| SOk.cons p_impl_inMod <| SOk.cons p_impl_MatrixOk <| SOk.nil) follows_ok k_impl_AutomatonOk F_impl_AutomatonOk fun x y h => (n_impl_AutomatonOk FUEL x).trans (f_impl_AutomatonOk x y h)

def fn_impl_emptyMatrix : SFn := ⟨60, ag_impl_emptyMatrix, mu_impl_emptyMatrix, rs_impl_emptyMatrix, F_impl_emptyMatrix⟩
def sc_impl_emptyMatrix : SCode :=
 (.seq
 (.reg false [
 oX 4 (.alloc [zX, zX, .nil iX])])
 (.seq
 (.reg false [
 oX 5 (.mv 0),
 oX 6 (.mv 1),
 oX 7 (.mv 0),
 oX 8 (.mv 1),
 oX 9 (.bin .mul 7 8),
 oX 10 (.mkslice .froz iX 8 (0 : Int) 9 9),
 oX 11 (.build [zX, zX, .nil iX] [(0, 1, 5), (1, 1, 6), (2, 1, 10)]),
 uX (.store 3 4 11)])
 .ret))
def ms_impl_emptyMatrix : List MRes := [.cell 4 3 true]
theorem n_impl_emptyMatrix (NN : Nat) (x : DLL (Sig.tys ag_impl_emptyMatrix)) : runS NN [] sc_impl_emptyMatrix ms_impl_emptyMatrix ag_impl_emptyMatrix rs_impl_emptyMatrix x = G_impl_emptyMatrix NN x := by kernel_rfl
theorem k_impl_emptyMatrix : chkS pX 60 sc_impl_emptyMatrix.er ms_impl_emptyMatrix 2 = true := by decide +kernel
theorem p_impl_emptyMatrix : PureSpec pX 60 fn_impl_emptyMatrix.M ∧ chkFun pX 60 = true :=
  pure_of_runS (T := []) (sc := sc_impl_emptyMatrix) (ms := ms_impl_emptyMatrix) (args := ag_impl_emptyMatrix) (res := rs_impl_emptyMatrix) (SOk.nil) follows_ok k_impl_emptyMatrix F_impl_emptyMatrix fun x y h => (n_impl_emptyMatrix FUEL x).trans (f_impl_emptyMatrix x y h)

def fn_impl_Matrix_at : SFn := ⟨62, ag_impl_Matrix_at, mu_impl_Matrix_at, rs_impl_Matrix_at, F_impl_Matrix_at⟩
def sc_impl_Matrix_at : SCode :=
 (.seq
 (.reg false [
 oX 3 (.box 3 0),
 oX 6 (.mv (kX 0))])
 (.seq
 (.reg false [
 oX 7 (.fieldA 2 3),
 oX 8 (.load false 1 7),
 oX 9 (.mv 1),
 oX 10 (.fieldA 1 3),
 oX 11 (.load false 1 10),
 oX 12 (.bin .mul 9 11),
 oX 13 (.mv 2),
 oX 14 (.bin .add 12 13),
 oX 15 (.idxA 1 8 14),
 oX 16 (.load false 1 15),
 oX 6 (.mv 16)])
 .ret))
def ms_impl_Matrix_at : List MRes := [.tmp 6]
theorem n_impl_Matrix_at (NN : Nat) (x : DLL (Sig.tys ag_impl_Matrix_at)) : runS NN [] sc_impl_Matrix_at ms_impl_Matrix_at ag_impl_Matrix_at rs_impl_Matrix_at x = G_impl_Matrix_at NN x := by kernel_rfl
theorem k_impl_Matrix_at : chkS pX 62 sc_impl_Matrix_at.er ms_impl_Matrix_at 3 = true := by decide +kernel
theorem p_impl_Matrix_at : PureSpec pX 62 fn_impl_Matrix_at.M ∧ chkFun pX 62 = true :=
  pure_of_runS (T := []) (sc := sc_impl_Matrix_at) (ms := ms_impl_Matrix_at) (args := ag_impl_Matrix_at) (res := rs_impl_Matrix_at) (SOk.nil) follows_ok k_impl_Matrix_at F_impl_Matrix_at fun x y h => (n_impl_Matrix_at FUEL x).trans (f_impl_Matrix_at x y h)

def fn_impl_Matrix_set : SFn := ⟨61, ag_impl_Matrix_set, mu_impl_Matrix_set, rs_impl_Matrix_set, F_impl_Matrix_set⟩
def sc_impl_Matrix_set : SCode :=
 (.seq
 (.reg false [
 oX 4 (.box 3 0)])
 (.reg false [
 oX 8 (.fieldA 2 4),
 oX 9 (.load false 1 8),
 oX 10 (.mv 1),
 oX 11 (.fieldA 1 4),
 oX 12 (.load false 1 11),
 oX 13 (.bin .mul 10 12),
 oX 14 (.mv 2),
 oX 15 (.bin .add 13 14),
 oX 16 (.mv 3),
 oX 17 (.idxA 1 9 15),
 uX (.store 1 17 16)]))
def ms_impl_Matrix_set : List MRes := []
theorem n_impl_Matrix_set (NN : Nat) (x : DLL (Sig.tys ag_impl_Matrix_set)) : runMS NN [] sc_impl_Matrix_set ms_impl_Matrix_set ag_impl_Matrix_set mu_impl_Matrix_set rs_impl_Matrix_set x = G_impl_Matrix_set NN x := by kernel_rfl
theorem k_impl_Matrix_set : chkS pX 61 sc_impl_Matrix_set.er ms_impl_Matrix_set 4 = true := by decide +kernel
theorem p_impl_Matrix_set : MutSpec pX 61 mu_impl_Matrix_set fn_impl_Matrix_set.MM ∧ chkFun pX 61 = true :=
  mut_of_runMS (T := []) (sc := sc_impl_Matrix_set) (ms := ms_impl_Matrix_set) (args := ag_impl_Matrix_set) (mu := mu_impl_Matrix_set) (res := rs_impl_Matrix_set) (SOk.nil) follows_ok k_impl_Matrix_set F_impl_Matrix_set fun x y h => (n_impl_Matrix_set FUEL x).trans (f_impl_Matrix_set x y h)

def fn_impl_rawMulMatrix : SFn := ⟨54, ag_impl_rawMulMatrix, mu_impl_rawMulMatrix, rs_impl_rawMulMatrix, F_impl_rawMulMatrix⟩
def sc_impl_rawMulMatrix : SCode :=
 (.seq
 (.reg false [
 oX 4 (.box 3 1),
 oX 5 (.box 3 2),
 oX 6 (.alloc [zX, zX, .nil iX])])
 (.seq
 (.reg false [
 oX 12 (.fieldA 0 4),
 oX 13 (.load false 1 12),
 oX 14 (.fieldA 1 5),
 oX 15 (.load false 1 14),
 oX 16 (.call .froz 60 [13, 15]),
 oX 7 (.alloc [zX, zX, .nil iX]),
 uX (.store 3 7 16)])
 (.seq
 (.seq
 (.reg false [
 oX 8 (.mv (kX 0))])
 (.join ⟨[(7, .one (rX 7)), (6, .one (rX 6))], [(6, .box [vX, vX, fX 500012 1]), (7, .box [vX, vX, fX 500013 1]), (500012, .row true .froz iX), (500013, .row true .froz iX)]⟩ [4, 5, 6, 7, 500000, 500001, 500012, 500013] [(true, 6, 2, 500012, .froz, []), (true, 7, 2, 500013, .froz, [])]
 (.block 0
 (.loop 0 ⟨[(0, sX), (4, .one (rX 4)), (5, .one (rX 5)), (6, .one (rX 6)), (7, .one (rX 7)), (8, sX)], [(4, .box [vX, vX, .c (.v (lX))]), (5, .box [vX, vX, .c (.v (lX))]), (6, .box [vX, vX, fX 500000 1]), (7, .box [vX, vX, fX 500001 1]), (500000, .row true .froz iX), (500001, .row true .froz iX)]⟩ [4, 5, 6, 17000, 7, 500000, 500001, 500010, 500011] [(true, 6, 2, 500000, .froz, []), (true, 7, 2, 500001, .froz, [])]
 (.seq
 (.seq
 (.reg false [
 oX 17 (.mv 8),
 oX 18 (.fieldA 0 4),
 oX 19 (.load false 1 18),
 oX 20 (.bin .lss 17 19)])
 (.cond 20
 .skip
 (.exit 0)))
 (.seq
 (.join ⟨[(8, sX), (0, sX), (4, .one (rX 4)), (5, .one (rX 5)), (6, .one (rX 6)), (7, .one (rX 7))], [(4, .box [vX, vX, .c (.v (lX))]), (5, .box [vX, vX, .c (.v (lX))]), (6, .box [vX, vX, fX 500010 1]), (7, .box [vX, vX, fX 500011 1]), (500010, .row true .froz iX), (500011, .row true .froz iX)]⟩ [4, 5, 6, 7, 500002, 500003, 500010, 500011] [(true, 6, 2, 500010, .froz, []), (true, 7, 2, 500011, .froz, [])]
 (.block 1
 (.seq
 (.reg false [
 oX 9 (.mv (kX 0))])
 (.block 2
 (.loop 0 ⟨[(0, sX), (4, .one (rX 4)), (5, .one (rX 5)), (6, .one (rX 6)), (7, .one (rX 7)), (8, sX), (9, sX)], [(4, .box [vX, vX, .c (.v (lX))]), (5, .box [vX, vX, .c (.v (lX))]), (6, .box [vX, vX, fX 500002 1]), (7, .box [vX, vX, fX 500003 1]), (500002, .row true .froz iX), (500003, .row true .froz iX)]⟩ [4, 5, 6, 7, 500000, 500001, 500002, 500003, 500008, 500009] [(true, 6, 2, 500002, .froz, []), (true, 7, 2, 500003, .froz, [])]
 (.seq
 (.seq
 (.reg false [
 oX 23 (.mv 9),
 oX 24 (.fieldA 1 5),
 oX 25 (.load false 1 24),
 oX 26 (.bin .lss 23 25)])
 (.cond 26
 .skip
 (.exit 2)))
 (.seq
 (.join ⟨[(9, sX), (0, sX), (4, .one (rX 4)), (5, .one (rX 5)), (6, .one (rX 6)), (7, .one (rX 7)), (8, sX)], [(4, .box [vX, vX, .c (.v (lX))]), (5, .box [vX, vX, .c (.v (lX))]), (6, .box [vX, vX, fX 500008 1]), (7, .box [vX, vX, fX 500009 1]), (500008, .row true .froz iX), (500009, .row true .froz iX)]⟩ [4, 5, 6, 7, 500006, 500007, 500008, 500009] [(true, 6, 2, 500008, .froz, []), (true, 7, 2, 500009, .froz, [])]
 (.block 3
 (.seq
 (.reg false [
 oX 10 (.mv (kX 0))])
 (.seq
 (.seq
 (.reg false [
 oX 11 (.mv (kX 0))])
 (.join ⟨[(10, sX), (9, sX), (0, sX), (4, .one (rX 4)), (5, .one (rX 5)), (6, .one (rX 6)), (7, .one (rX 7)), (8, sX)], [(4, .box [vX, vX, .c (.v (lX))]), (5, .box [vX, vX, .c (.v (lX))]), (6, .box [vX, vX, fX 500006 1]), (7, .box [vX, vX, fX 500007 1]), (500006, .row true .froz iX), (500007, .row true .froz iX)]⟩ [4, 5, 6, 7, 500004, 500005, 500006, 500007] [(true, 6, 2, 500006, .froz, []), (true, 7, 2, 500007, .froz, [])]
 (.block 4
 (.loop 0 ⟨[(0, sX), (4, .one (rX 4)), (5, .one (rX 5)), (6, .one (rX 6)), (7, .one (rX 7)), (8, sX), (9, sX), (10, sX), (11, sX)], [(4, .box [vX, vX, .c (.v (lX))]), (5, .box [vX, vX, .c (.v (lX))]), (6, .box [vX, vX, fX 500004 1]), (7, .box [vX, vX, fX 500005 1]), (500004, .row true .froz iX), (500005, .row true .froz iX)]⟩ [4, 5, 6, 7, 500002, 500003, 500004, 500005] [(true, 6, 2, 500004, .froz, []), (true, 7, 2, 500005, .froz, [])]
 (.seq
 (.seq
 (.reg false [
 oX 29 (.mv 11),
 oX 30 (.fieldA 1 4),
 oX 31 (.load false 1 30),
 oX 32 (.bin .lss 29 31)])
 (.cond 32
 .skip
 (.exit 4)))
 (.seq
 (.block 5
 (.reg true [
 oX 35 (.mv 10),
 oX 36 (.load true 3 4),
 oX 37 (.mv 8),
 oX 38 (.mv 11),
 oX 39 (.call .froz 62 [36, 37, 38]),
 oX 40 (.load true 3 5),
 oX 41 (.mv 11),
 oX 42 (.mv 9),
 oX 43 (.call .froz 62 [40, 41, 42]),
 oX 44 (.bin .mul 39 43),
 oX 45 (.bin .add 35 44),
 oX 46 (.mv 0),
 oX 47 (.bin .rem 45 46),
 oX 10 (.mv 47)]))
 (.reg false [
 oX 33 (.mv 11),
 oX 34 (.bin .add 33 (kX 1)),
 oX 11 (.mv 34)])))))))
 (.reg false [
 oX 48 (.load true 3 7),
 oX 49 (.mv 8),
 oX 50 (.mv 9),
 oX 51 (.mv 10),
 oX 52 (.callm .froz 61 [48, 49, 50, 51])])))))
 (.reg false [
 oX 27 (.mv 9),
 oX 28 (.bin .add 27 (kX 1)),
 oX 9 (.mv 28)]))))))))
 (.reg false [
 oX 21 (.mv 8),
 oX 22 (.bin .add 21 (kX 1)),
 oX 8 (.mv 22)])))))))
 (.seq
 (.reg false [
 oX 53 (.load true 3 7),
 uX (.store 3 6 53)])
 .ret))))
def ms_impl_rawMulMatrix : List MRes := [.cell 6 3 true]
theorem n_impl_rawMulMatrix (NN : Nat) (x : DLL (Sig.tys ag_impl_rawMulMatrix)) : runS NN [fn_impl_emptyMatrix, fn_impl_Matrix_at, fn_impl_Matrix_set] sc_impl_rawMulMatrix ms_impl_rawMulMatrix ag_impl_rawMulMatrix rs_impl_rawMulMatrix x = G_impl_rawMulMatrix NN x := by kernel_rfl
theorem k_impl_rawMulMatrix : chkS pX 54 sc_impl_rawMulMatrix.er ms_impl_rawMulMatrix 3 = true := by decide +kernel
theorem p_impl_rawMulMatrix : PureSpec pX 54 fn_impl_rawMulMatrix.M ∧ chkFun pX 54 = true :=
  pure_of_runS (T := [fn_impl_emptyMatrix, fn_impl_Matrix_at, fn_impl_Matrix_set]) (sc := sc_impl_rawMulMatrix) (ms := ms_impl_rawMulMatrix) (args := ag_impl_rawMulMatrix) (res := rs_impl_rawMulMatrix) (SOk.cons p_impl_emptyMatrix <| SOk.cons p_impl_Matrix_at <| SOk.consM p_impl_Matrix_set <| SOk.nil) follows_ok k_impl_rawMulMatrix F_impl_rawMulMatrix fun x y h => (n_impl_rawMulMatrix FUEL x).trans (f_impl_rawMulMatrix x y h)

def fn_impl_siteOk : SFn := ⟨56, ag_impl_siteOk, mu_impl_siteOk, rs_impl_siteOk, F_impl_siteOk⟩
def sc_impl_siteOk : SCode :=
 (.seq
 (.reg false [
 oX 3 (.box 4 1),
 oX 4 (.mv (.k (.one (.v (.bool) (false)))))])
 (.seq
 (.seq
 (.reg false [
 oX 5 (.fieldA 0 3),
 oX 6 (.load false 1 5),
 oX 7 (.bin .lss 6 (kX 0)),
 oX 8 (.mv 7),
 ⟨(some 9), .fieldA 0 3, (some (8, false))⟩,
 ⟨(some 10), .load false 1 9, (some (8, false))⟩,
 ⟨(some 11), .bin .gtr 10 (kX 32), (some (8, false))⟩,
 oX 12 (.pick 8 (.k (.one (.v (.bool) (true)))) 11),
 oX 13 (.mv 12),
 ⟨(some 14), .fieldA 2 3, (some (13, false))⟩,
 ⟨(some 15), .load false 1 14, (some (13, false))⟩,
 ⟨(some 16), .bin .lss 15 (kX 0), (some (13, false))⟩,
 oX 17 (.pick 13 (.k (.one (.v (.bool) (true)))) 16),
 oX 18 (.mv 17),
 ⟨(some 19), .fieldA 2 3, (some (18, false))⟩,
 ⟨(some 20), .load false 1 19, (some (18, false))⟩,
 ⟨(some 21), .bin .gtr 20 (kX 32), (some (18, false))⟩,
 oX 22 (.pick 18 (.k (.one (.v (.bool) (true)))) 21),
 oX 23 (.mv 22),
 ⟨(some 24), .fieldA 1 3, (some (23, false))⟩,
 ⟨(some 25), .load false 1 24, (some (23, false))⟩,
 ⟨(some 26), .bin .lss 25 (kX 1), (some (23, false))⟩,
 oX 27 (.pick 23 (.k (.one (.v (.bool) (true)))) 26),
 oX 28 (.mv 27),
 ⟨(some 29), .fieldA 1 3, (some (28, false))⟩,
 ⟨(some 30), .load false 1 29, (some (28, false))⟩,
 ⟨(some 31), .bin .gtr 30 (kX 8), (some (28, false))⟩,
 oX 32 (.pick 28 (.k (.one (.v (.bool) (true)))) 31)])
 (.cond 32
 (.seq
 (.reg false [
 oX 4 (.mv (.k (.one (.v (.bool) (false)))))])
 .ret)
 .skip))
 (.seq
 (.reg false [
 oX 33 (.fieldA 3 3),
 oX 34 (.load false 1 33),
 oX 35 (.len 34),
 oX 36 (.fieldA 0 3),
 oX 37 (.load false 1 36),
 oX 38 (.fieldA 1 3),
 oX 39 (.load false 1 38),
 oX 40 (.bin .mul 37 39),
 oX 41 (.fieldA 2 3),
 oX 42 (.load false 1 41),
 oX 43 (.bin .mul 40 42),
 oX 44 (.bin .eql 35 43),
 oX 45 (.mv 44),
 ⟨(some 46), .mv 0, (some (45, true))⟩,
 ⟨(some 47), .fieldA 3 3, (some (45, true))⟩,
 ⟨(some 48), .load false 1 47, (some (45, true))⟩,
 ⟨(some 49), .call .froz 75 [46, 48], (some (45, true))⟩,
 oX 50 (.pick 45 49 (.k (.one (.v (.bool) (false))))),
 oX 4 (.mv 50)])
 .ret)))
def ms_impl_siteOk : List MRes := [.tmp 4]
theorem n_impl_siteOk (NN : Nat) (x : DLL (Sig.tys ag_impl_siteOk)) : runS NN [fn_impl_inMod] sc_impl_siteOk ms_impl_siteOk ag_impl_siteOk rs_impl_siteOk x = G_impl_siteOk NN x := by kernel_rfl
theorem k_impl_siteOk : chkS pX 56 sc_impl_siteOk.er ms_impl_siteOk 2 = true := by decide +kernel
theorem p_impl_siteOk : PureSpec pX 56 fn_impl_siteOk.M ∧ chkFun pX 56 = true :=
  pure_of_runS (T := [fn_impl_inMod]) (sc := sc_impl_siteOk) (ms := ms_impl_siteOk) (args := ag_impl_siteOk) (res := rs_impl_siteOk) (SOk.cons p_impl_inMod <| SOk.nil) follows_ok k_impl_siteOk F_impl_siteOk fun x y h => (n_impl_siteOk FUEL x).trans (f_impl_siteOk x y h)

def fn_impl_ChainOk : SFn := ⟨27, ag_impl_ChainOk, mu_impl_ChainOk, rs_impl_ChainOk, F_impl_ChainOk⟩
def sc_impl_ChainOk : SCode :=
 (.seq
 (.reg false [
 oX 1 (.box 2 0),
 oX 2 (.mv (.k (.one (.v (.bool) (false)))))])
 (.seq
 (.seq
 (.reg false [
 oX 7 (.fieldA 0 1),
 oX 8 (.load false 1 7),
 oX 9 (.call .froz 55 [8]),
 oX 10 (.un .not 9),
 oX 11 (.mv 10),
 ⟨(some 12), .fieldA 1 1, (some (11, false))⟩,
 ⟨(some 13), .load false 1 12, (some (11, false))⟩,
 ⟨(some 14), .len 13, (some (11, false))⟩,
 ⟨(some 15), .bin .lss 14 (kX 1), (some (11, false))⟩,
 oX 16 (.pick 11 (.k (.one (.v (.bool) (true)))) 15),
 oX 17 (.mv 16),
 ⟨(some 18), .fieldA 1 1, (some (17, false))⟩,
 ⟨(some 19), .load false 1 18, (some (17, false))⟩,
 ⟨(some 20), .len 19, (some (17, false))⟩,
 ⟨(some 21), .bin .gtr 20 (kX 8), (some (17, false))⟩,
 oX 22 (.pick 17 (.k (.one (.v (.bool) (true)))) 21)])
 (.cond 22
 (.seq
 (.reg false [
 oX 2 (.mv (.k (.one (.v (.bool) (false)))))])
 .ret)
 .skip))
 (.seq
 (.reg false [
 oX 3 (.mv (kX 1)),
 oX 4 (.mv (kX 1))])
 (.seq
 (.seq
 (.reg false [
 oX 23 (.fieldA 1 1),
 oX 24 (.load false 1 23),
 oX 25 (.len 24),
 oX 26 (.mv (kX 0))])
 (.join ⟨[(3, sX), (4, sX)], []⟩ [1] []
 (.block 0
 (.loop 0 ⟨[(1, .one (rX 1)), (3, sX), (4, sX), (24, .one (.c (.v (.list gX)))), (25, sX), (26, sX)], [(1, .box [vX, .c (.v (.list gX))])]⟩ [1, 6] []
 (.seq
 (.reg false [
 oX 27 (.bin .lss 26 25)])
 (.seq
 (.cond 27
 .skip
 (.exit 0))
 (.seq
 (.block 1
 (.seq
 (.reg false [
 oX 28 (.idxA 4 24 26),
 oX 29 (.load true 4 28),
 oX 6 (.alloc [zX, zX, zX, .nil iX]),
 uX (.store 4 6 29)])
 (.seq
 (.seq
 (.reg false [
 oX 30 (.fieldA 0 1),
 oX 31 (.load false 1 30),
 oX 32 (.load true 4 6),
 oX 33 (.call .froz 56 [31, 32]),
 oX 34 (.un .not 33),
 oX 35 (.mv 34),
 ⟨(some 36), .fieldA 0 6, (some (35, false))⟩,
 ⟨(some 37), .load false 1 36, (some (35, false))⟩,
 ⟨(some 38), .mv 3, (some (35, false))⟩,
 ⟨(some 39), .bin .neq 37 38, (some (35, false))⟩,
 oX 40 (.pick 35 (.k (.one (.v (.bool) (true)))) 39)])
 (.cond 40
 (.seq
 (.reg false [
 oX 2 (.mv (.k (.one (.v (.bool) (false)))))])
 .ret)
 .skip))
 (.seq
 (.reg false [
 oX 41 (.fieldA 2 6),
 oX 42 (.load false 1 41),
 oX 3 (.mv 42)])
 (.reg false [
 oX 43 (.mv 4),
 oX 44 (.fieldA 1 6),
 oX 45 (.load false 1 44),
 oX 46 (.bin .mul 43 45),
 oX 4 (.mv 46)])))))
 (.reg false [
 oX 47 (.bin .add 26 (kX 1)),
 oX 26 (.mv 47)]))))))))
 (.seq
 (.reg false [
 oX 48 (.mv 3),
 oX 49 (.bin .eql 48 (kX 1)),
 oX 50 (.mv 49),
 ⟨(some 51), .mv 4, (some (50, true))⟩,
 ⟨(some 52), .bin .leq 51 (kX 4096), (some (50, true))⟩,
 oX 53 (.pick 50 52 (.k (.one (.v (.bool) (false))))),
 oX 2 (.mv 53)])
 .ret)))))
def ms_impl_ChainOk : List MRes := [.tmp 2]
theorem n_impl_ChainOk (NN : Nat) (x : DLL (Sig.tys ag_impl_ChainOk)) : runS NN [fn_impl_IsPrime, fn_impl_siteOk] sc_impl_ChainOk ms_impl_ChainOk ag_impl_ChainOk rs_impl_ChainOk x = G_impl_ChainOk NN x := by kernel_rfl
theorem k_impl_ChainOk : chkS pX 27 sc_impl_ChainOk.er ms_impl_ChainOk 1 = true := by decide +kernel
theorem p_impl_ChainOk : PureSpec pX 27 fn_impl_ChainOk.M ∧ chkFun pX 27 = true :=
  pure_of_runS (T := [fn_impl_IsPrime, fn_impl_siteOk]) (sc := sc_impl_ChainOk) (ms := ms_impl_ChainOk) (args := ag_impl_ChainOk) (res := rs_impl_ChainOk) (SOk.cons p_impl_IsPrime <| SOk.cons p_impl_siteOk <| SOk.nil) follows_ok k_impl_ChainOk F_impl_ChainOk fun x y h => (n_impl_ChainOk FUEL x).trans (f_impl_ChainOk x y h)

def fn_impl_AutomatonChain : SFn := ⟨26, ag_impl_AutomatonChain, mu_impl_AutomatonChain, rs_impl_AutomatonChain, F_impl_AutomatonChain⟩
def sc_impl_AutomatonChain : SCode :=
 (.seq
 (.reg false [
 oX 2 (.box 5 0),
 oX 4 (.alloc [zX, .nil gX]),
 oX 5 (.mv (.k (.one (.v (.bool) (false)))))])
 (.seq
 (.seq
 (.reg false [
 oX 15 (.load true 5 2),
 oX 16 (.call .froz 52 [15]),
 oX 17 (.un .not 16),
 oX 18 (.mv 17),
 ⟨(some 19), .mv 1, (some (18, false))⟩,
 ⟨(some 20), .bin .lss 19 (kX 1), (some (18, false))⟩,
 oX 21 (.pick 18 (.k (.one (.v (.bool) (true)))) 20),
 oX 22 (.mv 21),
 ⟨(some 23), .mv 1, (some (22, false))⟩,
 ⟨(some 24), .bin .gtr 23 (kX 8), (some (22, false))⟩,
 oX 25 (.pick 22 (.k (.one (.v (.bool) (true)))) 24)])
 (.cond 25
 (.seq
 (.reg false [
 oX 26 (.build [zX, .nil gX] []),
 uX (.store 2 4 26),
 oX 5 (.mv (.k (.one (.v (.bool) (false)))))])
 .ret)
 .skip))
 (.seq
 (.reg false [
 oX 27 (.fieldA 0 2),
 oX 28 (.load false 1 27),
 oX 29 (.build [zX, .nil gX] [(0, 1, 28)]),
 oX 6 (.alloc [zX, .nil gX]),
 uX (.store 2 6 29)])
 (.seq
 (.seq
 (.reg false [
 oX 7 (.mv (kX 0))])
 (.join ⟨[(6, .one (rX 6)), (4, .one (rX 4))], [(4, .box [vX, fX 500035 4]), (6, .box [vX, fX 500036 4]), (500035, .row true .froz gX), (500036, .row true .froz gX)]⟩ [2, 4, 6, 500000, 500001, 500035, 500036] [(true, 4, 1, 500035, .froz, []), (true, 6, 1, 500036, .froz, [])]
 (.block 0
 (.loop 0 ⟨[(1, sX), (2, .one (rX 2)), (4, .one (rX 4)), (6, .one (rX 6)), (7, sX)], [(2, .box [vX, vX, .c (.v (lX)), .c (.v (.list mX)), .c (.v (lX))]), (4, .box [vX, fX 500000 4]), (6, .box [vX, fX 500001 4]), (500000, .row true .froz gX), (500001, .row true .froz gX)]⟩ [2, 4, 6, 500000, 500001, 500033, 500034] [(true, 4, 1, 500000, .froz, []), (true, 6, 1, 500001, .froz, [])]
 (.seq
 (.seq
 (.reg false [
 oX 30 (.mv 7),
 oX 31 (.mv 1),
 oX 32 (.bin .lss 30 31)])
 (.cond 32
 .skip
 (.exit 0)))
 (.seq
 (.join ⟨[(7, sX), (1, sX), (2, .one (rX 2)), (4, .one (rX 4)), (6, .one (rX 6))], [(2, .box [vX, vX, .c (.v (lX)), .c (.v (.list mX)), .c (.v (lX))]), (4, .box [vX, fX 500033 4]), (6, .box [vX, fX 500034 4]), (500033, .row true .froz gX), (500034, .row true .froz gX)]⟩ [2, 4, 6, 8, 114, 500030, 500033, 500034] [(true, 4, 1, 500033, .froz, []), (true, 6, 1, 500034, .froz, [])]
 (.block 1
 (.seq
 (.reg false [
 oX 35 (.fieldA 1 2),
 oX 36 (.load false 1 35),
 oX 37 (.fieldA 3 2),
 oX 38 (.load false 1 37),
 oX 39 (.len 38),
 oX 40 (.fieldA 1 2),
 oX 41 (.load false 1 40),
 oX 42 (.build [zX, zX, zX, .nil iX] [(0, 1, 36), (1, 1, 39), (2, 1, 41)]),
 oX 8 (.alloc [zX, zX, zX, .nil iX]),
 uX (.store 4 8 42)])
 (.seq
 (.reg false [
 oX 9 (.mv (.k (.one (.nil mX))))])
 (.seq
 (.seq
 (.reg false [
 oX 43 (.fieldA 3 2),
 oX 44 (.load false 1 43),
 oX 45 (.len 44),
 oX 46 (.mv (kX 0))])
 (.join ⟨[(6, .one (rX 6)), (4, .one (rX 4)), (2, .one (rX 2)), (1, sX), (7, sX), (8, .one (rX 8)), (9, .one (fX 500017 3))], [(2, .box [vX, vX, .c (.v (lX)), .c (.v (.list mX)), .c (.v (lX))]), (4, .box [vX, fX 500014 4]), (6, .box [vX, fX 500015 4]), (8, .box [vX, vX, vX, fX 500016 1]), (500014, .row true .froz gX), (500015, .row true .froz gX), (500016, .row true .froz iX), (500017, .row true .bor mX)]⟩ [2, 4, 6, 8, 500002, 500003, 500004, 500005, 500014, 500015, 500016, 500017] [(true, 4, 1, 500014, .froz, []), (true, 6, 1, 500015, .froz, []), (true, 8, 3, 500016, .froz, []), (false, 9, 0, 500017, .bor, [])]
 (.block 2
 (.loop 0 ⟨[(1, sX), (2, .one (rX 2)), (4, .one (rX 4)), (6, .one (rX 6)), (7, sX), (8, .one (rX 8)), (9, .one (fX 500005 3)), (44, .one (.c (.v (.list mX)))), (45, sX), (46, sX)], [(2, .box [vX, vX, .c (.v (lX)), .c (.v (.list mX)), .c (.v (lX))]), (4, .box [vX, fX 500002 4]), (6, .box [vX, fX 500003 4]), (8, .box [vX, vX, vX, fX 500004 1]), (500002, .row true .froz gX), (500003, .row true .froz gX), (500004, .row true .froz iX), (500005, .row true .bor mX)]⟩ [2, 4, 6, 8, 11, 79, 500000, 500001, 500002, 500003, 500004, 500005, 500010, 500011, 500012] [(true, 4, 1, 500002, .froz, []), (true, 6, 1, 500003, .froz, []), (true, 8, 3, 500004, .froz, []), (false, 9, 0, 500005, .bor, [])]
 (.seq
 (.reg false [
 oX 47 (.bin .lss 46 45)])
 (.seq
 (.cond 47
 .skip
 (.exit 2))
 (.seq
 (.block 3
 (.seq
 (.reg false [
 oX 48 (.idxA 3 44 46),
 oX 49 (.load true 3 48),
 oX 11 (.alloc [zX, zX, .nil iX]),
 uX (.store 3 11 49)])
 (.seq
 (.seq
 (.reg false [
 oX 50 (.mv 7),
 oX 51 (.bin .eql 50 (kX 0))])
 (.join ⟨[(9, .one (fX 500009 3)), (11, .one (rX 11)), (46, sX), (1, sX), (2, .one (rX 2)), (4, .one (rX 4)), (6, .one (rX 6)), (7, sX), (8, .one (rX 8)), (44, .one (.c (.v (.list mX)))), (45, sX)], [(2, .box [vX, vX, .c (.v (lX)), .c (.v (.list mX)), .c (.v (lX))]), (4, .box [vX, fX 500006 4]), (6, .box [vX, fX 500007 4]), (8, .box [vX, vX, vX, fX 500008 1]), (11, .box [vX, vX, .c (.v (lX))]), (500006, .row true .froz gX), (500007, .row true .froz gX), (500008, .row true .froz iX), (500009, .row true .bor mX)]⟩ [2, 4, 6, 8, 11, 500002, 500003, 500004, 500005, 500006, 500007, 500008, 500009] [(true, 4, 1, 500006, .froz, []), (true, 6, 1, 500007, .froz, []), (true, 8, 3, 500008, .froz, []), (false, 9, 0, 500009, .bor, [])]
 (.cond 51
 (.reg true [
 oX 52 (.fieldA 0 2),
 oX 53 (.load false 1 52),
 oX 54 (.fieldA 2 2),
 oX 55 (.load false 1 54),
 oX 56 (.rowm 50 false 55),
 oX 57 (.load true 3 11),
 oX 58 (.calld 54 [53, 56, 57]),
 uX (.store 3 11 58)])
 .skip)))
 (.seq
 (.seq
 (.reg false [
 oX 59 (.mv 7),
 oX 60 (.mv 1),
 oX 61 (.bin .sub 60 (kX 1)),
 oX 62 (.bin .eql 59 61)])
 (.join ⟨[(9, .one (fX 500013 3)), (11, .one (rX 11)), (46, sX), (1, sX), (2, .one (rX 2)), (4, .one (rX 4)), (6, .one (rX 6)), (7, sX), (8, .one (rX 8)), (44, .one (.c (.v (.list mX)))), (45, sX)], [(2, .box [vX, vX, .c (.v (lX)), .c (.v (.list mX)), .c (.v (lX))]), (4, .box [vX, fX 500010 4]), (6, .box [vX, fX 500011 4]), (8, .box [vX, vX, vX, fX 500012 1]), (11, .box [vX, vX, .c (.v (lX))]), (500010, .row true .froz gX), (500011, .row true .froz gX), (500012, .row true .froz iX), (500013, .row true .bor mX)]⟩ [2, 4, 6, 8, 11, 500006, 500007, 500008, 500009, 500010, 500011, 500012, 500013] [(true, 4, 1, 500010, .froz, []), (true, 6, 1, 500011, .froz, []), (true, 8, 3, 500012, .froz, []), (false, 9, 0, 500013, .bor, [])]
 (.cond 62
 (.reg true [
 oX 63 (.fieldA 0 2),
 oX 64 (.load false 1 63),
 oX 65 (.load true 3 11),
 oX 66 (.fieldA 4 2),
 oX 67 (.load false 1 66),
 oX 68 (.rowm 51 true 67),
 oX 69 (.calld 54 [64, 65, 68]),
 uX (.store 3 11 69)])
 .skip)))
 (.seq
 (.regD [(2, 5), (3, 5)] [
 oX 70 (.fieldA 0 11),
 oX 71 (.load false 1 70),
 oX 72 (.fieldA 1 11),
 oX 73 (.load false 1 72),
 oX 74 (.fieldA 0 8),
 uX (.store 1 74 71),
 oX 75 (.fieldA 2 8),
 uX (.store 1 75 73)])
 (.reg false [
 oX 76 (.mv 9),
 oX 77 (.load true 3 11),
 oX 78 (.bslice mX [77]),
 oX 79 (.append false mX 40 76 78),
 oX 9 (.mv 79)]))))))
 (.reg false [
 oX 80 (.bin .add 46 (kX 1)),
 oX 46 (.mv 80)]))))))))
 (.seq
 (.seq
 (.reg false [
 oX 12 (.mv (kX 0))])
 (.join ⟨[(8, .one (rX 8)), (7, sX), (1, sX), (2, .one (rX 2)), (4, .one (rX 4)), (6, .one (rX 6))], [(2, .box [vX, vX, .c (.v (lX)), .c (.v (.list mX)), .c (.v (lX))]), (4, .box [vX, fX 500030 4]), (6, .box [vX, fX 500031 4]), (8, .box [vX, vX, vX, fX 500032 1]), (500030, .row true .froz gX), (500031, .row true .froz gX), (500032, .row true .froz iX)]⟩ [2, 4, 6, 8, 500018, 500019, 500020, 500021, 500030, 500031, 500032] [(true, 4, 1, 500030, .froz, []), (true, 6, 1, 500031, .froz, []), (true, 8, 3, 500032, .froz, [])]
 (.block 4
 (.loop 0 ⟨[(1, sX), (2, .one (rX 2)), (4, .one (rX 4)), (6, .one (rX 6)), (7, sX), (8, .one (rX 8)), (9, .one (fX 500021 3)), (12, sX)], [(2, .box [vX, vX, .c (.v (lX)), .c (.v (.list mX)), .c (.v (lX))]), (4, .box [vX, fX 500018 4]), (6, .box [vX, fX 500019 4]), (8, .box [vX, vX, vX, fX 500020 1]), (500018, .row true .froz gX), (500019, .row true .froz gX), (500020, .row true .froz iX), (500021, .row true .bor mX)]⟩ [2, 4, 6, 8, 500014, 500015, 500016, 500017, 500018, 500019, 500020, 500021, 500026, 500027, 500028, 500029] [(true, 4, 1, 500018, .froz, []), (true, 6, 1, 500019, .froz, []), (true, 8, 3, 500020, .froz, []), (false, 9, 0, 500021, .bor, [])]
 (.seq
 (.seq
 (.reg false [
 oX 81 (.mv 12),
 oX 82 (.fieldA 0 8),
 oX 83 (.load false 1 82),
 oX 84 (.bin .lss 81 83)])
 (.cond 84
 .skip
 (.exit 4)))
 (.seq
 (.join ⟨[(12, sX), (1, sX), (2, .one (rX 2)), (4, .one (rX 4)), (6, .one (rX 6)), (7, sX), (8, .one (rX 8)), (9, .one (fX 500029 3))], [(2, .box [vX, vX, .c (.v (lX)), .c (.v (.list mX)), .c (.v (lX))]), (4, .box [vX, fX 500026 4]), (6, .box [vX, fX 500027 4]), (8, .box [vX, vX, vX, fX 500028 1]), (500026, .row true .froz gX), (500027, .row true .froz gX), (500028, .row true .froz iX), (500029, .row true .bor mX)]⟩ [2, 4, 6, 8, 500022, 500023, 500024, 500025, 500026, 500027, 500028, 500029] [(true, 4, 1, 500026, .froz, []), (true, 6, 1, 500027, .froz, []), (true, 8, 3, 500028, .froz, []), (false, 9, 0, 500029, .bor, [])]
 (.block 5
 (.seq
 (.reg false [
 oX 87 (.mv 9),
 oX 88 (.len 87),
 oX 89 (.mv (kX 0))])
 (.block 6
 (.loop 0 ⟨[(1, sX), (2, .one (rX 2)), (4, .one (rX 4)), (6, .one (rX 6)), (7, sX), (8, .one (rX 8)), (9, .one (fX 500025 3)), (12, sX), (87, .one (fX 500025 3)), (88, sX), (89, sX)], [(2, .box [vX, vX, .c (.v (lX)), .c (.v (.list mX)), .c (.v (lX))]), (4, .box [vX, fX 500022 4]), (6, .box [vX, fX 500023 4]), (8, .box [vX, vX, vX, fX 500024 1]), (500022, .row true .froz gX), (500023, .row true .froz gX), (500024, .row true .froz iX), (500025, .row true .bor mX)]⟩ [2, 4, 6, 8, 14, 107, 500018, 500019, 500020, 500021, 500022, 500023, 500024, 500025] [(true, 4, 1, 500022, .froz, []), (true, 6, 1, 500023, .froz, []), (true, 8, 3, 500024, .froz, []), (false, 9, 0, 500025, .bor, [])]
 (.seq
 (.reg false [
 oX 90 (.bin .lss 89 88)])
 (.seq
 (.cond 90
 .skip
 (.exit 6))
 (.seq
 (.block 7
 (.seq
 (.reg false [
 oX 91 (.idxA 3 87 89),
 oX 92 (.load true 3 91),
 oX 14 (.alloc [zX, zX, .nil iX]),
 uX (.store 3 14 92)])
 (.reg true [
 oX 93 (.fieldA 3 8),
 oX 94 (.load false 1 93),
 oX 95 (.fieldA 2 14),
 oX 96 (.load false 1 95),
 oX 97 (.mv 12),
 oX 98 (.fieldA 1 14),
 oX 99 (.load false 1 98),
 oX 100 (.bin .mul 97 99),
 oX 101 (.mv 12),
 oX 102 (.bin .add 101 (kX 1)),
 oX 103 (.fieldA 1 14),
 oX 104 (.load false 1 103),
 oX 105 (.bin .mul 102 104),
 oX 106 (.slice 1 96 (some 100) (some 105)),
 oX 107 (.append true iX 8 94 106),
 oX 108 (.fieldA 3 8),
 uX (.store 1 108 107)])))
 (.reg false [
 oX 109 (.bin .add 89 (kX 1)),
 oX 89 (.mv 109)])))))))))
 (.reg false [
 oX 85 (.mv 12),
 oX 86 (.bin .add 85 (kX 1)),
 oX 12 (.mv 86)])))))))
 (.reg false [
 oX 110 (.fieldA 1 6),
 oX 111 (.load false 1 110),
 oX 112 (.load true 4 8),
 oX 113 (.bslice gX [112]),
 oX 114 (.append false gX 48 111 113),
 oX 115 (.fieldA 1 6),
 uX (.store 1 115 114)])))))))
 (.reg false [
 oX 33 (.mv 7),
 oX 34 (.bin .add 33 (kX 1)),
 oX 7 (.mv 34)])))))))
 (.seq
 (.seq
 (.reg false [
 oX 116 (.load true 2 6),
 oX 117 (.call .froz 27 [116]),
 oX 118 (.un .not 117)])
 (.cond 118
 (.seq
 (.reg false [
 oX 119 (.build [zX, .nil gX] []),
 uX (.store 2 4 119),
 oX 5 (.mv (.k (.one (.v (.bool) (false)))))])
 .ret)
 .skip))
 (.seq
 (.reg false [
 oX 120 (.load true 2 6),
 uX (.store 2 4 120),
 oX 5 (.mv (.k (.one (.v (.bool) (true)))))])
 .ret))))))
def ms_impl_AutomatonChain : List MRes := [.cell 4 2 true, .tmp 5]
theorem n_impl_AutomatonChain (NN : Nat) (x : DLL (Sig.tys ag_impl_AutomatonChain)) : runS NN [fn_impl_AutomatonOk, fn_impl_rawMulMatrix, fn_impl_ChainOk] sc_impl_AutomatonChain ms_impl_AutomatonChain ag_impl_AutomatonChain rs_impl_AutomatonChain x = G_impl_AutomatonChain NN x := by kernel_rfl
theorem k_impl_AutomatonChain : chkS pX 26 sc_impl_AutomatonChain.er ms_impl_AutomatonChain 2 = true := by decide +kernel
theorem p_impl_AutomatonChain : PureSpec pX 26 fn_impl_AutomatonChain.M ∧ chkFun pX 26 = true :=
  pure_of_runS (T := [fn_impl_AutomatonOk, fn_impl_rawMulMatrix, fn_impl_ChainOk]) (sc := sc_impl_AutomatonChain) (ms := ms_impl_AutomatonChain) (args := ag_impl_AutomatonChain) (res := rs_impl_AutomatonChain) (SOk.cons p_impl_AutomatonOk <| SOk.cons p_impl_rawMulMatrix <| SOk.cons p_impl_ChainOk <| SOk.nil) follows_ok k_impl_AutomatonChain F_impl_AutomatonChain fun x y h => (n_impl_AutomatonChain FUEL x).trans (f_impl_AutomatonChain x y h)

def fn_impl_chainDims : SFn := ⟨58, ag_impl_chainDims, mu_impl_chainDims, rs_impl_chainDims, F_impl_chainDims⟩
def sc_impl_chainDims : SCode :=
 (.seq
 (.reg false [
 oX 1 (.box 2 0),
 oX 2 (.mv (.k (.one (.nil iX))))])
 (.seq
 (.reg false [
 oX 3 (.mv (.k (.one (.nil iX))))])
 (.seq
 (.seq
 (.reg false [
 oX 6 (.fieldA 1 1),
 oX 7 (.load false 1 6),
 oX 8 (.len 7),
 oX 9 (.mv (kX 0))])
 (.join ⟨[(3, .one (fX 500001 1))], [(500001, .row true .froz iX)]⟩ [500000, 500001] [(false, 3, 0, 500001, .froz, [])]
 (.block 0
 (.loop 0 ⟨[(3, .one (fX 500000 1)), (7, .one (.c (.v (.list gX)))), (8, sX), (9, sX)], [(500000, .row true .froz iX)]⟩ [1, 5, 16, 17, 500000] [(false, 3, 0, 500000, .froz, [])]
 (.seq
 (.reg false [
 oX 10 (.bin .lss 9 8)])
 (.seq
 (.cond 10
 .skip
 (.exit 0))
 (.seq
 (.block 1
 (.seq
 (.reg false [
 oX 11 (.idxA 4 7 9),
 oX 12 (.load true 4 11),
 oX 5 (.alloc [zX, zX, zX, .nil iX]),
 uX (.store 4 5 12)])
 (.reg false [
 oX 13 (.mv 3),
 oX 14 (.fieldA 1 5),
 oX 15 (.load false 1 14),
 oX 16 (.bslice iX [15]),
 oX 17 (.append true iX 8 13 16),
 oX 3 (.mv 17)])))
 (.reg false [
 oX 18 (.bin .add 9 (kX 1)),
 oX 9 (.mv 18)]))))))))
 (.seq
 (.reg false [
 oX 19 (.mv 3),
 oX 2 (.mv 19)])
 .ret))))
def ms_impl_chainDims : List MRes := [.tmp 2]
theorem n_impl_chainDims (NN : Nat) (x : DLL (Sig.tys ag_impl_chainDims)) : runS NN [] sc_impl_chainDims ms_impl_chainDims ag_impl_chainDims rs_impl_chainDims x = G_impl_chainDims NN x := by kernel_rfl
theorem k_impl_chainDims : chkS pX 58 sc_impl_chainDims.er ms_impl_chainDims 1 = true := by decide +kernel
theorem p_impl_chainDims : PureSpec pX 58 fn_impl_chainDims.M ∧ chkFun pX 58 = true :=
  pure_of_runS (T := []) (sc := sc_impl_chainDims) (ms := ms_impl_chainDims) (args := ag_impl_chainDims) (res := rs_impl_chainDims) (SOk.nil) follows_ok k_impl_chainDims F_impl_chainDims fun x y h => (n_impl_chainDims FUEL x).trans (f_impl_chainDims x y h)

def fn_impl_indexOk : SFn := ⟨57, ag_impl_indexOk, mu_impl_indexOk, rs_impl_indexOk, F_impl_indexOk⟩
def sc_impl_indexOk : SCode :=
 (.seq
 (.reg false [
 oX 4 (.mv (.k (.one (.v (.bool) (false)))))])
 (.seq
 (.seq
 (.reg false [
 oX 7 (.mv 1),
 oX 8 (.len 7),
 oX 9 (.mv 0),
 oX 10 (.len 9),
 oX 11 (.bin .neq 8 10)])
 (.cond 11
 (.seq
 (.reg false [
 oX 4 (.mv (.k (.one (.v (.bool) (false)))))])
 .ret)
 .skip))
 (.seq
 (.seq
 (.reg false [
 oX 12 (.mv 1),
 oX 13 (.len 12),
 oX 14 (.mv (kX 0))])
 (.join ⟨[], []⟩ [] []
 (.block 0
 (.loop 0 ⟨[(0, .one (.c (.v (lX)))), (12, .one (.c (.v (lX)))), (13, sX), (14, sX)], []⟩ [] []
 (.seq
 (.reg false [
 oX 15 (.bin .lss 14 13)])
 (.seq
 (.cond 15
 .skip
 (.exit 0))
 (.seq
 (.block 1
 (.seq
 (.reg false [
 oX 16 (.mv 14),
 oX 17 (.idxA 1 12 14),
 oX 18 (.load false 1 17),
 oX 5 (.mv 16),
 oX 6 (.mv 18)])
 (.seq
 (.reg false [
 oX 19 (.mv 6),
 oX 20 (.bin .lss 19 (kX 0)),
 oX 21 (.mv 20),
 ⟨(some 22), .mv 6, (some (21, false))⟩,
 ⟨(some 23), .mv 0, (some (21, false))⟩,
 ⟨(some 24), .mv 5, (some (21, false))⟩,
 ⟨(some 25), .idxA 1 23 24, (some (21, false))⟩,
 ⟨(some 26), .load false 1 25, (some (21, false))⟩,
 ⟨(some 27), .bin .geq 22 26, (some (21, false))⟩,
 oX 28 (.pick 21 (.k (.one (.v (.bool) (true)))) 27)])
 (.cond 28
 (.seq
 (.reg false [
 oX 4 (.mv (.k (.one (.v (.bool) (false)))))])
 .ret)
 .skip))))
 (.reg false [
 oX 29 (.bin .add 14 (kX 1)),
 oX 14 (.mv 29)]))))))))
 (.seq
 (.reg false [
 oX 4 (.mv (.k (.one (.v (.bool) (true)))))])
 .ret))))
def ms_impl_indexOk : List MRes := [.tmp 4]
theorem n_impl_indexOk (NN : Nat) (x : DLL (Sig.tys ag_impl_indexOk)) : runS NN [] sc_impl_indexOk ms_impl_indexOk ag_impl_indexOk rs_impl_indexOk x = G_impl_indexOk NN x := by kernel_rfl
theorem k_impl_indexOk : chkS pX 57 sc_impl_indexOk.er ms_impl_indexOk 2 = true := by decide +kernel
theorem p_impl_indexOk : PureSpec pX 57 fn_impl_indexOk.M ∧ chkFun pX 57 = true :=
  pure_of_runS (T := []) (sc := sc_impl_indexOk) (ms := ms_impl_indexOk) (args := ag_impl_indexOk) (res := rs_impl_indexOk) (SOk.nil) follows_ok k_impl_indexOk F_impl_indexOk fun x y h => (n_impl_indexOk FUEL x).trans (f_impl_indexOk x y h)

def fn_impl_Site_at : SFn := ⟨77, ag_impl_Site_at, mu_impl_Site_at, rs_impl_Site_at, F_impl_Site_at⟩
def sc_impl_Site_at : SCode :=
 (.seq
 (.reg false [
 oX 4 (.box 4 0),
 oX 8 (.mv (kX 0))])
 (.seq
 (.reg false [
 oX 9 (.fieldA 3 4),
 oX 10 (.load false 1 9),
 oX 11 (.mv 1),
 oX 12 (.fieldA 1 4),
 oX 13 (.load false 1 12),
 oX 14 (.bin .mul 11 13),
 oX 15 (.mv 2),
 oX 16 (.bin .add 14 15),
 oX 17 (.fieldA 2 4),
 oX 18 (.load false 1 17),
 oX 19 (.bin .mul 16 18),
 oX 20 (.mv 3),
 oX 21 (.bin .add 19 20),
 oX 22 (.idxA 1 10 21),
 oX 23 (.load false 1 22),
 oX 8 (.mv 23)])
 .ret))
def ms_impl_Site_at : List MRes := [.tmp 8]
theorem n_impl_Site_at (NN : Nat) (x : DLL (Sig.tys ag_impl_Site_at)) : runS NN [] sc_impl_Site_at ms_impl_Site_at ag_impl_Site_at rs_impl_Site_at x = G_impl_Site_at NN x := by kernel_rfl
theorem k_impl_Site_at : chkS pX 77 sc_impl_Site_at.er ms_impl_Site_at 4 = true := by decide +kernel
theorem p_impl_Site_at : PureSpec pX 77 fn_impl_Site_at.M ∧ chkFun pX 77 = true :=
  pure_of_runS (T := []) (sc := sc_impl_Site_at) (ms := ms_impl_Site_at) (args := ag_impl_Site_at) (res := rs_impl_Site_at) (SOk.nil) follows_ok k_impl_Site_at F_impl_Site_at fun x y h => (n_impl_Site_at FUEL x).trans (f_impl_Site_at x y h)

def fn_impl_rawChainAt : SFn := ⟨59, ag_impl_rawChainAt, mu_impl_rawChainAt, rs_impl_rawChainAt, F_impl_rawChainAt⟩
def sc_impl_rawChainAt : SCode :=
 (.seq
 (.reg false [
 oX 2 (.box 2 0),
 oX 4 (.mv (kX 0))])
 (.seq
 (.reg false [
 oX 12 (.bslice iX [(kX 1)]),
 oX 5 (.mv 12)])
 (.seq
 (.seq
 (.reg false [
 oX 13 (.fieldA 1 2),
 oX 14 (.load false 1 13),
 oX 15 (.len 14),
 oX 16 (.mv (kX 0))])
 (.join ⟨[(5, .one (fX 500009 1))], [(500009, .row true .froz iX)]⟩ [2, 500000, 500009] [(false, 5, 0, 500009, .froz, [])]
 (.block 0
 (.loop 0 ⟨[(1, .one (.c (.v (lX)))), (2, .one (rX 2)), (5, .one (fX 500000 1)), (14, .one (.c (.v (.list gX)))), (15, sX), (16, sX)], [(2, .box [vX, .c (.v (.list gX))]), (500000, .row true .froz iX)]⟩ [2, 12, 500000, 500008] [(false, 5, 0, 500000, .froz, [])]
 (.seq
 (.reg false [
 oX 17 (.bin .lss 16 15)])
 (.seq
 (.cond 17
 .skip
 (.exit 0))
 (.seq
 (.join ⟨[(16, sX), (1, .one (.c (.v (lX)))), (2, .one (rX 2)), (5, .one (fX 500008 1)), (14, .one (.c (.v (.list gX)))), (15, sX)], [(2, .box [vX, .c (.v (.list gX))]), (500008, .row true .froz iX)]⟩ [2, 500007, 500008] [(false, 5, 0, 500008, .froz, [])]
 (.block 1
 (.seq
 (.reg false [
 oX 18 (.mv 16),
 oX 19 (.idxA 4 14 16),
 oX 20 (.load true 4 19),
 oX 7 (.alloc [zX, zX, zX, .nil iX]),
 oX 6 (.mv 18),
 uX (.store 4 7 20)])
 (.seq
 (.reg false [
 oX 21 (.fieldA 2 7),
 oX 22 (.load false 1 21),
 oX 23 (.mkslice .froz iX 8 (0 : Int) 22 22),
 oX 8 (.mv 23)])
 (.seq
 (.seq
 (.reg false [
 oX 24 (.mv 8),
 oX 25 (.len 24),
 oX 26 (.mv (kX 0))])
 (.join ⟨[(8, .one (fX 500007 1)), (16, sX), (1, .one (.c (.v (lX)))), (2, .one (rX 2)), (14, .one (.c (.v (.list gX)))), (15, sX)], [(2, .box [vX, .c (.v (.list gX))]), (500007, .row true .froz iX)]⟩ [2, 7, 500001, 500002, 500007] [(false, 8, 0, 500007, .froz, [])]
 (.block 2
 (.loop 0 ⟨[(1, .one (.c (.v (lX)))), (2, .one (rX 2)), (5, .one (fX 500001 1)), (6, sX), (7, .one (rX 7)), (8, .one (fX 500002 1)), (14, .one (.c (.v (.list gX)))), (15, sX), (16, sX), (25, sX), (26, sX)], [(2, .box [vX, .c (.v (.list gX))]), (7, .box [vX, vX, vX, .c (.v (lX))]), (500001, .row true .froz iX), (500002, .row true .froz iX)]⟩ [2, 7, 23, 500000, 500001, 500002, 500005, 500006] [(false, 5, 0, 500001, .froz, []), (false, 8, 0, 500002, .froz, [])]
 (.seq
 (.reg false [
 oX 27 (.bin .lss 26 25)])
 (.seq
 (.cond 27
 .skip
 (.exit 2))
 (.seq
 (.join ⟨[(26, sX), (1, .one (.c (.v (lX)))), (2, .one (rX 2)), (5, .one (fX 500005 1)), (6, sX), (7, .one (rX 7)), (8, .one (fX 500006 1)), (14, .one (.c (.v (.list gX)))), (15, sX), (16, sX), (25, sX)], [(2, .box [vX, .c (.v (.list gX))]), (7, .box [vX, vX, vX, .c (.v (lX))]), (500005, .row true .froz iX), (500006, .row true .froz iX)]⟩ [2, 7, 500003, 500004, 500005, 500006] [(false, 5, 0, 500005, .froz, []), (false, 8, 0, 500006, .froz, [])]
 (.block 3
 (.seq
 (.reg false [
 oX 28 (.mv 26),
 oX 9 (.mv 28)])
 (.seq
 (.reg false [
 oX 29 (.mv 5),
 oX 30 (.len 29),
 oX 31 (.mv (kX 0))])
 (.block 4
 (.loop 0 ⟨[(1, .one (.c (.v (lX)))), (2, .one (rX 2)), (5, .one (fX 500003 1)), (6, sX), (7, .one (rX 7)), (8, .one (fX 500004 1)), (9, sX), (14, .one (.c (.v (.list gX)))), (15, sX), (16, sX), (25, sX), (26, sX), (29, .one (fX 500003 1)), (30, sX), (31, sX)], [(2, .box [vX, .c (.v (.list gX))]), (7, .box [vX, vX, vX, .c (.v (lX))]), (500003, .row true .froz iX), (500004, .row true .froz iX)]⟩ [2, 7, 500001, 500002, 500003, 500004] [(false, 5, 0, 500003, .froz, []), (false, 8, 0, 500004, .froz, [])]
 (.seq
 (.reg false [
 oX 32 (.bin .lss 31 30)])
 (.seq
 (.cond 32
 .skip
 (.exit 4))
 (.seq
 (.block 5
 (.seq
 (.reg false [
 oX 33 (.mv 31),
 oX 34 (.idxA 1 29 31),
 oX 35 (.load false 1 34),
 oX 10 (.mv 33),
 oX 11 (.mv 35)])
 (.reg true [
 oX 36 (.mv 8),
 oX 37 (.mv 9),
 oX 38 (.mv 8),
 oX 39 (.mv 9),
 oX 40 (.idxA 1 38 39),
 oX 41 (.load false 1 40),
 oX 42 (.mv 11),
 oX 43 (.load true 4 7),
 oX 44 (.mv 10),
 oX 45 (.mv 1),
 oX 46 (.mv 6),
 oX 47 (.idxA 1 45 46),
 oX 48 (.load false 1 47),
 oX 49 (.mv 9),
 oX 50 (.call .froz 77 [43, 44, 48, 49]),
 oX 51 (.bin .mul 42 50),
 oX 52 (.bin .add 41 51),
 oX 53 (.fieldA 0 2),
 oX 54 (.load false 1 53),
 oX 55 (.bin .rem 52 54),
 oX 56 (.idxA 1 36 37),
 uX (.store 1 56 55)])))
 (.reg false [
 oX 57 (.bin .add 31 (kX 1)),
 oX 31 (.mv 57)]))))))))))
 (.reg false [
 oX 58 (.bin .add 26 (kX 1)),
 oX 26 (.mv 58)]))))))))
 (.reg false [
 oX 59 (.mv 8),
 oX 5 (.mv 59)]))))))
 (.reg false [
 oX 60 (.bin .add 16 (kX 1)),
 oX 16 (.mv 60)]))))))))
 (.seq
 (.reg false [
 oX 61 (.mv 5),
 oX 62 (.idxA 1 61 (kX 0)),
 oX 63 (.load false 1 62),
 oX 4 (.mv 63)])
 .ret))))
def ms_impl_rawChainAt : List MRes := [.tmp 4]
theorem n_impl_rawChainAt (NN : Nat) (x : DLL (Sig.tys ag_impl_rawChainAt)) : runS NN [fn_impl_Site_at] sc_impl_rawChainAt ms_impl_rawChainAt ag_impl_rawChainAt rs_impl_rawChainAt x = G_impl_rawChainAt NN x := by kernel_rfl
theorem k_impl_rawChainAt : chkS pX 59 sc_impl_rawChainAt.er ms_impl_rawChainAt 2 = true := by decide +kernel
theorem p_impl_rawChainAt : PureSpec pX 59 fn_impl_rawChainAt.M ∧ chkFun pX 59 = true :=
  pure_of_runS (T := [fn_impl_Site_at]) (sc := sc_impl_rawChainAt) (ms := ms_impl_rawChainAt) (args := ag_impl_rawChainAt) (res := rs_impl_rawChainAt) (SOk.cons p_impl_Site_at <| SOk.nil) follows_ok k_impl_rawChainAt F_impl_rawChainAt fun x y h => (n_impl_rawChainAt FUEL x).trans (f_impl_rawChainAt x y h)

def fn_impl_ChainAt : SFn := ⟨28, ag_impl_ChainAt, mu_impl_ChainAt, rs_impl_ChainAt, F_impl_ChainAt⟩
def sc_impl_ChainAt : SCode :=
 (.seq
 (.reg false [
 oX 2 (.box 2 0),
 oX 4 (.mv (kX 0))])
 (.seq
 (.seq
 (.reg false [
 oX 5 (.load true 2 2),
 oX 6 (.call .froz 27 [5]),
 oX 7 (.un .not 6),
 oX 8 (.mv 7),
 ⟨(some 9), .load true 2 2, (some (8, false))⟩,
 ⟨(some 10), .call .froz 58 [9], (some (8, false))⟩,
 ⟨(some 11), .mv 1, (some (8, false))⟩,
 ⟨(some 12), .call .froz 57 [10, 11], (some (8, false))⟩,
 ⟨(some 13), .un .not 12, (some (8, false))⟩,
 oX 14 (.pick 8 (.k (.one (.v (.bool) (true)))) 13)])
 (.cond 14
 (.seq
 (.reg false [
 oX 4 (.mv (kX (-1)))])
 .ret)
 .skip))
 (.seq
 (.reg false [
 oX 15 (.load true 2 2),
 oX 16 (.mv 1),
 oX 17 (.call .froz 59 [15, 16]),
 oX 4 (.mv 17)])
 .ret)))
def ms_impl_ChainAt : List MRes := [.tmp 4]
theorem n_impl_ChainAt (NN : Nat) (x : DLL (Sig.tys ag_impl_ChainAt)) : runS NN [fn_impl_ChainOk, fn_impl_chainDims, fn_impl_indexOk, fn_impl_rawChainAt] sc_impl_ChainAt ms_impl_ChainAt ag_impl_ChainAt rs_impl_ChainAt x = G_impl_ChainAt NN x := by kernel_rfl
theorem k_impl_ChainAt : chkS pX 28 sc_impl_ChainAt.er ms_impl_ChainAt 2 = true := by decide +kernel
theorem p_impl_ChainAt : PureSpec pX 28 fn_impl_ChainAt.M ∧ chkFun pX 28 = true :=
  pure_of_runS (T := [fn_impl_ChainOk, fn_impl_chainDims, fn_impl_indexOk, fn_impl_rawChainAt]) (sc := sc_impl_ChainAt) (ms := ms_impl_ChainAt) (args := ag_impl_ChainAt) (res := rs_impl_ChainAt) (SOk.cons p_impl_ChainOk <| SOk.cons p_impl_chainDims <| SOk.cons p_impl_indexOk <| SOk.cons p_impl_rawChainAt <| SOk.nil) follows_ok k_impl_ChainAt F_impl_ChainAt fun x y h => (n_impl_ChainAt FUEL x).trans (f_impl_ChainAt x y h)

def fn_impl_copyInts : SFn := ⟨63, ag_impl_copyInts, mu_impl_copyInts, rs_impl_copyInts, F_impl_copyInts⟩
def sc_impl_copyInts : SCode :=
 (.seq
 (.reg false [
 oX 2 (.mv (.k (.one (.nil iX))))])
 (.seq
 (.reg false [
 oX 3 (.mv 0),
 oX 4 (.append true iX 8 (.k (.one (.nil iX))) 3),
 oX 2 (.mv 4)])
 .ret))
def ms_impl_copyInts : List MRes := [.tmp 2]
theorem n_impl_copyInts (NN : Nat) (x : DLL (Sig.tys ag_impl_copyInts)) : runS NN [] sc_impl_copyInts ms_impl_copyInts ag_impl_copyInts rs_impl_copyInts x = G_impl_copyInts NN x := by kernel_rfl
theorem k_impl_copyInts : chkS pX 63 sc_impl_copyInts.er ms_impl_copyInts 1 = true := by decide +kernel
theorem p_impl_copyInts : PureSpec pX 63 fn_impl_copyInts.M ∧ chkFun pX 63 = true :=
  pure_of_runS (T := []) (sc := sc_impl_copyInts) (ms := ms_impl_copyInts) (args := ag_impl_copyInts) (res := rs_impl_copyInts) (SOk.nil) follows_ok k_impl_copyInts F_impl_copyInts fun x y h => (n_impl_copyInts FUEL x).trans (f_impl_copyInts x y h)

def fn_impl_wordRow : SFn := ⟨76, ag_impl_wordRow, mu_impl_wordRow, rs_impl_wordRow, F_impl_wordRow⟩
def sc_impl_wordRow : SCode :=
 (.seq
 (.reg false [
 oX 2 (.box 5 0),
 oX 4 (.mv (.k (.one (.nil iX))))])
 (.seq
 (.reg false [
 oX 8 (.fieldA 2 2),
 oX 9 (.load false 1 8),
 oX 10 (.call .froz 63 [9]),
 oX 11 (.rowm 50 false 10),
 oX 5 (.alloc [zX, zX, .nil iX]),
 uX (.store 3 5 11)])
 (.seq
 (.seq
 (.reg false [
 oX 12 (.mv 1),
 oX 13 (.len 12),
 oX 14 (.mv (kX 0))])
 (.join ⟨[(5, .one (rX 5))], [(5, .box [vX, vX, fX 500001 1]), (500001, .row true .froz iX)]⟩ [2, 5, 500000, 500001] [(true, 5, 2, 500001, .froz, [])]
 (.block 0
 (.loop 0 ⟨[(2, .one (rX 2)), (5, .one (rX 5)), (12, .one (.c (.v (lX)))), (13, sX), (14, sX)], [(2, .box [vX, vX, .c (.v (lX)), .c (.v (.list mX)), .c (.v (lX))]), (5, .box [vX, vX, fX 500000 1]), (500000, .row true .froz iX)]⟩ [2, 11000, 5, 27000, 500000] [(true, 5, 2, 500000, .froz, [])]
 (.seq
 (.reg false [
 oX 15 (.bin .lss 14 13)])
 (.seq
 (.cond 15
 .skip
 (.exit 0))
 (.seq
 (.block 1
 (.seq
 (.reg false [
 oX 16 (.idxA 1 12 14),
 oX 17 (.load false 1 16),
 oX 7 (.mv 17)])
 (.reg true [
 oX 18 (.fieldA 0 2),
 oX 19 (.load false 1 18),
 oX 20 (.load true 3 5),
 oX 21 (.fieldA 3 2),
 oX 22 (.load false 1 21),
 oX 23 (.mv 7),
 oX 24 (.idxA 3 22 23),
 oX 25 (.load true 3 24),
 oX 26 (.call .froz 54 [19, 20, 25]),
 uX (.store 3 5 26)])))
 (.reg false [
 oX 27 (.bin .add 14 (kX 1)),
 oX 14 (.mv 27)]))))))))
 (.seq
 (.reg false [
 oX 28 (.fieldA 2 5),
 oX 29 (.load false 1 28),
 oX 4 (.mv 29)])
 .ret))))
def ms_impl_wordRow : List MRes := [.tmp 4]
theorem n_impl_wordRow (NN : Nat) (x : DLL (Sig.tys ag_impl_wordRow)) : runS NN [fn_impl_copyInts, fn_impl_rawMulMatrix] sc_impl_wordRow ms_impl_wordRow ag_impl_wordRow rs_impl_wordRow x = G_impl_wordRow NN x := by kernel_rfl
theorem k_impl_wordRow : chkS pX 76 sc_impl_wordRow.er ms_impl_wordRow 2 = true := by decide +kernel
theorem p_impl_wordRow : PureSpec pX 76 fn_impl_wordRow.M ∧ chkFun pX 76 = true :=
  pure_of_runS (T := [fn_impl_copyInts, fn_impl_rawMulMatrix]) (sc := sc_impl_wordRow) (ms := ms_impl_wordRow) (args := ag_impl_wordRow) (res := rs_impl_wordRow) (SOk.cons p_impl_copyInts <| SOk.cons p_impl_rawMulMatrix <| SOk.nil) follows_ok k_impl_wordRow F_impl_wordRow fun x y h => (n_impl_wordRow FUEL x).trans (f_impl_wordRow x y h)

def fn_impl_rawWordWeight : SFn := ⟨53, ag_impl_rawWordWeight, mu_impl_rawWordWeight, rs_impl_rawWordWeight, F_impl_rawWordWeight⟩
def sc_impl_rawWordWeight : SCode :=
 (.seq
 (.reg false [
 oX 2 (.box 5 0),
 oX 4 (.mv (kX 0))])
 (.seq
 (.reg true [
 oX 5 (.fieldA 0 2),
 oX 6 (.load false 1 5),
 oX 7 (.load true 5 2),
 oX 8 (.mv 1),
 oX 9 (.call .froz 76 [7, 8]),
 oX 10 (.rowm 50 false 9),
 oX 11 (.fieldA 4 2),
 oX 12 (.load false 1 11),
 oX 13 (.rowm 51 true 12),
 oX 14 (.call .froz 54 [6, 10, 13]),
 oX 15 (.fld false 2 1 14),
 oX 16 (.idxA 1 15 (kX 0)),
 oX 17 (.load false 1 16),
 oX 4 (.mv 17)])
 .ret))
def ms_impl_rawWordWeight : List MRes := [.tmp 4]
theorem n_impl_rawWordWeight (NN : Nat) (x : DLL (Sig.tys ag_impl_rawWordWeight)) : runS NN [fn_impl_wordRow, fn_impl_rawMulMatrix] sc_impl_rawWordWeight ms_impl_rawWordWeight ag_impl_rawWordWeight rs_impl_rawWordWeight x = G_impl_rawWordWeight NN x := by kernel_rfl
theorem k_impl_rawWordWeight : chkS pX 53 sc_impl_rawWordWeight.er ms_impl_rawWordWeight 2 = true := by decide +kernel
theorem p_impl_rawWordWeight : PureSpec pX 53 fn_impl_rawWordWeight.M ∧ chkFun pX 53 = true :=
  pure_of_runS (T := [fn_impl_wordRow, fn_impl_rawMulMatrix]) (sc := sc_impl_rawWordWeight) (ms := ms_impl_rawWordWeight) (args := ag_impl_rawWordWeight) (res := rs_impl_rawWordWeight) (SOk.cons p_impl_wordRow <| SOk.cons p_impl_rawMulMatrix <| SOk.nil) follows_ok k_impl_rawWordWeight F_impl_rawWordWeight fun x y h => (n_impl_rawWordWeight FUEL x).trans (f_impl_rawWordWeight x y h)

def fn_impl_WordWeight : SFn := ⟨25, ag_impl_WordWeight, mu_impl_WordWeight, rs_impl_WordWeight, F_impl_WordWeight⟩
def sc_impl_WordWeight : SCode :=
 (.seq
 (.reg false [
 oX 2 (.box 5 0),
 oX 4 (.mv (kX 0))])
 (.seq
 (.seq
 (.reg false [
 oX 7 (.load true 5 2),
 oX 8 (.call .froz 52 [7]),
 oX 9 (.un .not 8),
 oX 10 (.mv 9),
 ⟨(some 11), .mv 1, (some (10, false))⟩,
 ⟨(some 12), .len 11, (some (10, false))⟩,
 ⟨(some 13), .bin .gtr 12 (kX 24), (some (10, false))⟩,
 oX 14 (.pick 10 (.k (.one (.v (.bool) (true)))) 13)])
 (.cond 14
 (.seq
 (.reg false [
 oX 4 (.mv (kX (-1)))])
 .ret)
 .skip))
 (.seq
 (.seq
 (.reg false [
 oX 15 (.mv 1),
 oX 16 (.len 15),
 oX 17 (.mv (kX 0))])
 (.join ⟨[(2, .one (rX 2)), (1, .one (.c (.v (lX))))], [(2, .box [vX, vX, .c (.v (lX)), .c (.v (.list mX)), .c (.v (lX))])]⟩ [2] []
 (.block 0
 (.loop 0 ⟨[(1, .one (.c (.v (lX)))), (2, .one (rX 2)), (15, .one (.c (.v (lX)))), (16, sX), (17, sX)], [(2, .box [vX, vX, .c (.v (lX)), .c (.v (.list mX)), .c (.v (lX))])]⟩ [2] []
 (.seq
 (.reg false [
 oX 18 (.bin .lss 17 16)])
 (.seq
 (.cond 18
 .skip
 (.exit 0))
 (.seq
 (.block 1
 (.seq
 (.reg false [
 oX 19 (.idxA 1 15 17),
 oX 20 (.load false 1 19),
 oX 6 (.mv 20)])
 (.seq
 (.reg false [
 oX 21 (.mv 6),
 oX 22 (.bin .lss 21 (kX 0)),
 oX 23 (.mv 22),
 ⟨(some 24), .mv 6, (some (23, false))⟩,
 ⟨(some 25), .fieldA 3 2, (some (23, false))⟩,
 ⟨(some 26), .load false 1 25, (some (23, false))⟩,
 ⟨(some 27), .len 26, (some (23, false))⟩,
 ⟨(some 28), .bin .geq 24 27, (some (23, false))⟩,
 oX 29 (.pick 23 (.k (.one (.v (.bool) (true)))) 28)])
 (.cond 29
 (.seq
 (.reg false [
 oX 4 (.mv (kX (-1)))])
 .ret)
 .skip))))
 (.reg false [
 oX 30 (.bin .add 17 (kX 1)),
 oX 17 (.mv 30)]))))))))
 (.seq
 (.reg false [
 oX 31 (.load true 5 2),
 oX 32 (.mv 1),
 oX 33 (.call .froz 53 [31, 32]),
 oX 4 (.mv 33)])
 .ret))))
def ms_impl_WordWeight : List MRes := [.tmp 4]
theorem n_impl_WordWeight (NN : Nat) (x : DLL (Sig.tys ag_impl_WordWeight)) : runS NN [fn_impl_AutomatonOk, fn_impl_rawWordWeight] sc_impl_WordWeight ms_impl_WordWeight ag_impl_WordWeight rs_impl_WordWeight x = G_impl_WordWeight NN x := by kernel_rfl
theorem k_impl_WordWeight : chkS pX 25 sc_impl_WordWeight.er ms_impl_WordWeight 2 = true := by decide +kernel
theorem p_impl_WordWeight : PureSpec pX 25 fn_impl_WordWeight.M ∧ chkFun pX 25 = true :=
  pure_of_runS (T := [fn_impl_AutomatonOk, fn_impl_rawWordWeight]) (sc := sc_impl_WordWeight) (ms := ms_impl_WordWeight) (args := ag_impl_WordWeight) (res := rs_impl_WordWeight) (SOk.cons p_impl_AutomatonOk <| SOk.cons p_impl_rawWordWeight <| SOk.nil) follows_ok k_impl_WordWeight F_impl_WordWeight fun x y h => (n_impl_WordWeight FUEL x).trans (f_impl_WordWeight x y h)

def fn_laws_FnWordChains : SFn := ⟨6, ag_laws_FnWordChains, mu_laws_FnWordChains, rs_laws_FnWordChains, F_laws_FnWordChains⟩
def sc_laws_FnWordChains : SCode :=
 (.seq
 (.reg false [
 oX 2 (.mv (.k (.one (.v (.bool) (false)))))])
 (.seq
 (.seq
 (.reg false [
 oX 10 (.mv 0),
 oX 11 (.len 10),
 oX 12 (.bin .gtr 11 (kX 1048576))])
 (.cond 12
 (.seq
 (.reg false [
 oX 2 (.mv (.k (.one (.v (.bool) (true)))))])
 .ret)
 .skip))
 (.seq
 (.reg false [
 oX 14 (.mv 0),
 oX 15 (.callb 21 [14, (kX 0)]),
 oX 13 (.mv 15),
 oX 16 (.ext 0 13),
 oX 17 (.ext 1 13),
 oX 3 (.alloc [zX, zX, .nil iX, .nil mX, .nil iX]),
 oX 4 (.alloc [zX, zX, .nil iX, .nil mX, .nil iX]),
 uX (.store 5 3 16),
 uX (.store 5 4 17)])
 (.seq
 (.reg false [
 oX 18 (.mv 0),
 oX 19 (.fieldA 3 3),
 oX 20 (.load false 1 19),
 oX 21 (.len 20),
 oX 22 (.callb 22 [18, (kX 100), 21]),
 oX 5 (.mv 22)])
 (.seq
 (.seq
 (.reg false [
 oX 23 (.mv 5),
 oX 24 (.len 23),
 oX 25 (.bin .eql 24 (kX 0))])
 (.cond 25
 (.seq
 (.reg false [
 oX 27 (.load true 5 3),
 oX 28 (.call .froz 26 [27, (kX 0)]),
 oX 26 (.mv 28),
 oX 29 (.ext 0 26),
 oX 30 (.ext 1 26),
 oX 6 (.alloc [zX, .nil gX]),
 uX (.store 2 6 29),
 oX 7 (.mv 30)])
 (.seq
 (.reg false [
 oX 31 (.mv 7),
 oX 32 (.un .not 31),
 oX 2 (.mv 32)])
 .ret))
 .skip))
 (.seq
 (.reg false [
 oX 34 (.load true 5 3),
 oX 35 (.mv 5),
 oX 36 (.len 35),
 oX 37 (.call .froz 26 [34, 36]),
 oX 33 (.mv 37),
 oX 38 (.ext 0 33),
 oX 39 (.ext 1 33),
 oX 8 (.alloc [zX, .nil gX]),
 uX (.store 2 8 38),
 oX 9 (.mv 39)])
 (.seq
 (.reg true [
 oX 40 (.mv 9),
 oX 41 (.mv 40),
 ⟨(some 42), .load true 2 8, (some (41, true))⟩,
 ⟨(some 43), .call .froz 27 [42], (some (41, true))⟩,
 oX 44 (.pick 41 43 (.k (.one (.v (.bool) (false))))),
 oX 45 (.mv 44),
 ⟨(some 46), .load true 2 8, (some (45, true))⟩,
 ⟨(some 47), .mv 5, (some (45, true))⟩,
 ⟨(some 48), .call .froz 28 [46, 47], (some (45, true))⟩,
 ⟨(some 49), .load true 5 3, (some (45, true))⟩,
 ⟨(some 50), .mv 5, (some (45, true))⟩,
 ⟨(some 51), .call .froz 25 [49, 50], (some (45, true))⟩,
 ⟨(some 52), .bin .eql 48 51, (some (45, true))⟩,
 oX 53 (.pick 45 52 (.k (.one (.v (.bool) (false))))),
 oX 2 (.mv 53)])
 .ret)))))))
def ms_laws_FnWordChains : List MRes := [.tmp 2]
theorem n_laws_FnWordChains (NN : Nat) (x : DLL (Sig.tys ag_laws_FnWordChains)) : runS NN [fn_spec_MakeAutomata, fn_spec_MakeWord, fn_impl_AutomatonChain, fn_impl_ChainOk, fn_impl_ChainAt, fn_impl_WordWeight] sc_laws_FnWordChains ms_laws_FnWordChains ag_laws_FnWordChains rs_laws_FnWordChains x = G_laws_FnWordChains NN x := by kernel_rfl
theorem k_laws_FnWordChains : chkS pX 6 sc_laws_FnWordChains.er ms_laws_FnWordChains 1 = true := by decide +kernel
theorem p_laws_FnWordChains : PureSpec pX 6 fn_laws_FnWordChains.M ∧ chkFun pX 6 = true :=
  pure_of_runS (T := [fn_spec_MakeAutomata, fn_spec_MakeWord, fn_impl_AutomatonChain, fn_impl_ChainOk, fn_impl_ChainAt, fn_impl_WordWeight]) (sc := sc_laws_FnWordChains) (ms := ms_laws_FnWordChains) (args := ag_laws_FnWordChains) (res := rs_laws_FnWordChains) (SOk.consV p_spec_MakeAutomata <| SOk.consV p_spec_MakeWord <| SOk.cons p_impl_AutomatonChain <| SOk.cons p_impl_ChainOk <| SOk.cons p_impl_ChainAt <| SOk.cons p_impl_WordWeight <| SOk.nil) follows_ok k_laws_FnWordChains F_laws_FnWordChains fun x y h => (n_laws_FnWordChains FUEL x).trans (f_laws_FnWordChains x y h)

end Go.Am
